/- Chapter 21: the document's Bans, as a plain function. -/
import Derived.Test.YtclgclcoblfddaaPx10
import Derived.Test.YtclgclcoblfddaaQReach
namespace Go.Proofs.Ytclgclcoblfddaa
open Go.RowKit Go.Proofs.Ytclgclcoblfddaa.P Go.Proofs.YtclgclcoblfddaaW.PrintWords
set_option linter.unusedVariables false
set_option linter.unusedSimpArgs false
def itF (k : Jb) : It := ⟨k.1, k.2, false⟩
theorem jobOf_itF (k : Jb) : Zaz (itF k) = k := rfl
theorem map_itF (l : List Jb) : (l.map itF).map Zaz = l := by
 rw [List.map_map]
 exact List.map_id _
def passB (P : Jb → List It) (s : List It × Bool) (x : It) : List It × Bool :=
 if Zaz x ∈ s.1.map Zaz then s else if ((P (Zaz x)).any fun p => p.m && bIn s.1 (Zaz p)) = true then (s.1 ++ [x], true) else s
theorem passB_len (P : Jb → List It) (s : List It × Bool) (x : It) : (passB P s x).1.length ≤ s.1.length + 1 := by
 unfold passB
 split
 ·omega
 ·split
  ·simp
  ·omega
theorem bans_l2 {g : GL} {on : List Bool} {bad all : List It} (hbl : bad.length ≤ 1000000) {again : Bool} {i : Nat} {x : It} (hx : all[i]? = some x) (hi : i ≤ 1000000) {ps : List It} (hpl : ps.length ≤ 10000) {r : List S44}
  (hno : (ps.any fun p => p.m && bIn bad (Zaz p)) = false → Ev (fun k => Zac.l1 k on (all.map rf) (bad.map rf) again ((i + 1 : Nat) : Int) g.req g.wants g.binds g.conf g.reqBy g.bound g.parts) r)
  (hyes : (ps.any fun p => p.m && bIn bad (Zaz p)) = true → Ev (fun k => Zac.l1 k on (all.map rf) ((bad ++ [x]).map rf) true ((i + 1 : Nat) : Int) g.req g.wants g.binds g.conf g.reqBy g.bound g.parts) r) :
  ∀ (n j : Nat), n = ps.length - j → j ≤ ps.length → (∀ p ∈ ps.take j, (p.m && bIn bad (Zaz p)) = false) →
   Ev (fun k => Zac.l2 k on (all.map rf) (bad.map rf) again (i : Int) (ps.map rf) (j : Int) g.req g.wants g.binds g.conf g.reqBy g.bound g.parts) r := by
 have hil := (List.getElem?_eq_some_iff.1 hx).1
 intro n
 induction n with
 | zero =>
  intro j hn hj hd
  have : j = ps.length := by omega
  subst this
  rw [List.take_of_length_le (Nat.le_refl _)] at hd
  refine (hno (List.any_eq_false.2 fun p hp => by rw [hd p hp]; simp)).next fun k => ?_
  rw [Zac.l2, if_neg (by simp), wrap_succ (by omega)]
 | succ n ih =>
  intro j hn hj hd
  have hjl : j < ps.length := by omega
  obtain ⟨p, hp⟩ := get_lt hjl
  have c1 : (j : Int) < ((ps.map rf).length : Int) := by simpa using hjl
  have c2 : (0 : Int) ≤ (j : Nat) := by omega
  have skip : (p.m && bIn bad (Zaz p)) = false → Ev (fun k => Zac.l2 k on (all.map rf) (bad.map rf) again (i : Int) (ps.map rf) (wrap64 ((j : Int) + 1)) g.req g.wants g.binds g.conf g.reqBy g.bound g.parts) r := fun h => by
   rw [wrap_succ (by omega)]
   refine ih (j + 1) (by omega) (by omega) fun q hq => ?_
   rw [take_at hp] at hq
   rcases List.mem_append.1 hq with hq | hq
   ·exact hd q hq
   ·rw [List.mem_singleton.1 hq]; exact h
  cases hm : p.m
  ·refine (skip (by rw [hm]; rfl)).next fun k => ?_
   rw [Zac.l2, if_pos c1, if_pos c2, rd_at hp, if_neg (show ¬ (rf p).f2 = true by simp [rf, hm])]
  ·obtain ⟨r2, e2, s2⟩ := has_f (l := bad) hbl p.u p.t p.m
   rcases s2 with ⟨n2, o2⟩ | ⟨n2, o2, _⟩
   ·have h := Ev.bind e2 (f := fun k t262 => if t262 ≥ 0 then (if (0 : Int) ≤ (i : Int) then (if (i : Int) < ((all.map rf).length : Int) then (if (bad.map rf).length < 8796093022208 then (Zac.l1 k on (all.map rf) (bad.map rf ++ [rf x]) true (wrap64 ((i : Int) + 1)) g.req g.wants g.binds g.conf g.reqBy g.bound g.parts) else (none)) else (none)) else (none)) else (Zac.l2 k on (all.map rf) (bad.map rf) again (i : Int) (ps.map rf) (wrap64 ((j : Int) + 1)) g.req g.wants g.binds g.conf g.reqBy g.bound g.parts)) ((skip (by rw [hm]; exact decide_eq_false o2)).congr fun k => if_neg (by omega))
    refine h.next fun k => ?_
    rw [Zac.l2, if_pos c1, if_pos c2, rd_at hp, if_pos (show (rf p).f2 = true by simp [rf, hm]), rd_at hx]
    rfl
   ·have hy := hyes (List.any_eq_true.2 ⟨p, List.mem_of_getElem? hp, by rw [hm]; exact decide_eq_true o2⟩)
    have h := Ev.bind e2 (f := fun k t262 => if t262 ≥ 0 then (if (0 : Int) ≤ (i : Int) then (if (i : Int) < ((all.map rf).length : Int) then (if (bad.map rf).length < 8796093022208 then (Zac.l1 k on (all.map rf) (bad.map rf ++ [rf x]) true (wrap64 ((i : Int) + 1)) g.req g.wants g.binds g.conf g.reqBy g.bound g.parts) else (none)) else (none)) else (none)) else (Zac.l2 k on (all.map rf) (bad.map rf) again (i : Int) (ps.map rf) (wrap64 ((j : Int) + 1)) g.req g.wants g.binds g.conf g.reqBy g.bound g.parts)) (hy.congr fun k => by
     show (if r2 ≥ 0 then _ else _) = _
     rw [if_pos n2, if_pos (by omega), if_pos (by simpa using hil), if_pos (by rw [List.length_map]; omega), wrap_succ (by omega), List.map_append]
     rfl)
    refine h.next fun k => ?_
    rw [Zac.l2, if_pos c1, if_pos c2, rd_at hp, if_pos (show (rf p).f2 = true by simp [rf, hm]), rd_at hx]
    rfl
theorem bans_l1 {g : GL} (hg : okG g = true) {on : List Bool} {all : List It} (hal : all.length ≤ 10000) {r : List S44} :
  ∀ (n i : Nat), n = all.length - i → i ≤ all.length → ∀ s : List It × Bool, s.1.length + (all.length - i) ≤ 900000 →
   Ev (fun k => Zac.l0 k on (all.map rf) (((all.drop i).foldl (passB (Zcc g on)) s).1.map rf) ((all.drop i).foldl (passB (Zcc g on)) s).2 g.req g.wants g.binds g.conf g.reqBy g.bound g.parts) r →
   Ev (fun k => Zac.l1 k on (all.map rf) (s.1.map rf) s.2 (i : Int) g.req g.wants g.binds g.conf g.reqBy g.bound g.parts) r := by
 intro n
 induction n with
 | zero =>
  intro i hn hi s hs hr
  have : i = all.length := by omega
  subst this
  rw [List.drop_eq_nil_of_le (Nat.le_refl _)] at hr
  refine hr.next fun k => ?_
  rw [Zac.l1, if_neg (by simp)]
  rfl
 | succ n ih =>
  intro i hn hi s hs hr
  have hil : i < all.length := by omega
  obtain ⟨x, hx⟩ := get_lt hil
  have c1 : (i : Int) < ((all.map rf).length : Int) := by simpa using hil
  have c2 : (0 : Int) ≤ (i : Nat) := by omega
  rw [drop_at hx, List.foldl_cons] at hr
  have hpl := passB_len (Zcc g on) s x
  have h1 := ih (i + 1) (by omega) (by omega) (passB (Zcc g on) s x) (by omega) hr
  obtain ⟨r1, e1, s1⟩ := has_f (l := s.1) (by omega) x.u x.t x.m
  have hp7 := pullJ_lenG hg on (Zaz x)
  have hbind := Ev.bind e1 (r := r) (f := fun k t255 => if t255 ≥ 0 then (Zac.l1 k on (all.map rf) (s.1.map rf) s.2 (wrap64 ((i : Int) + 1)) g.req g.wants g.binds g.conf g.reqBy g.bound g.parts) else ((Zag.f k g.req g.wants g.binds g.conf g.reqBy g.bound g.parts on x.u x.t x.m).bind fun t257 => (Zac.l2 k on (all.map rf) (s.1.map rf) s.2 (i : Int) t257 0 g.req g.wants g.binds g.conf g.reqBy g.bound g.parts)))
  have done : Ev (fun k => (Zak.f k (s.1.map rf) x.u x.t x.m).bind fun t255 => if t255 ≥ 0 then (Zac.l1 k on (all.map rf) (s.1.map rf) s.2 (wrap64 ((i : Int) + 1)) g.req g.wants g.binds g.conf g.reqBy g.bound g.parts) else ((Zag.f k g.req g.wants g.binds g.conf g.reqBy g.bound g.parts on x.u x.t x.m).bind fun t257 => (Zac.l2 k on (all.map rf) (s.1.map rf) s.2 (i : Int) t257 0 g.req g.wants g.binds g.conf g.reqBy g.bound g.parts))) r := by
   refine hbind ?_
   rcases s1 with ⟨n1, o1⟩ | ⟨n1, o1, _⟩
   ·have h2 := bans_l2 (g := g) (on := on) (bad := s.1) (all := all) (again := s.2) (by omega) hx (by omega) (ps := Zcc g on (Zaz x)) (by omega) (r := r) (fun h => by
     unfold passB at h1
     rw [if_neg (show Zaz x ∉ s.1.map Zaz from o1), h, if_neg (by simp)] at h1
     exact h1) (fun h => by
     unfold passB at h1
     rw [if_neg (show Zaz x ∉ s.1.map Zaz from o1), h, if_pos rfl] at h1
     exact h1) _ 0 rfl (Nat.zero_le _) (fun p hp => by rw [List.take_zero] at hp; cases hp)
    have h3 := Ev.bind (refPulls_f hg on x.u x.t x.m) (f := fun k t257 => Zac.l2 k on (all.map rf) (s.1.map rf) s.2 (i : Int) t257 0 g.req g.wants g.binds g.conf g.reqBy g.bound g.parts) h2
    exact h3.congr fun k => if_neg (by omega)
   ·unfold passB at h1
    rw [if_pos (show Zaz x ∈ s.1.map Zaz from o1)] at h1
    exact h1.congr fun k => by
     show (if r1 ≥ 0 then _ else _) = _
     rw [if_pos n1, wrap_succ (by omega)]
  refine done.next fun k => ?_
  rw [Zac.l1, if_pos c1, if_pos c2, rd_at hx]
  rfl
def leftB (all bad : List It) : Nat := (all.filter fun x => !bIn bad (Zaz x)).length
theorem leftB_add {all bad : List It} {x : It} (hx : x ∈ all) (hn : Zaz x ∉ bad.map Zaz) : leftB all (bad ++ [x]) < leftB all bad := by
 unfold leftB
 have e : (all.filter fun z => !bIn (bad ++ [x]) (Zaz z)) = (all.filter fun z => !bIn bad (Zaz z)).filter fun z => !decide (Zaz z = Zaz x) := by
  rw [List.filter_filter]
  refine List.filter_congr fun z _ => ?_
  unfold bIn
  rw [List.map_append, Bool.eq_iff_iff]
  simp [not_or, and_comm]
 rw [e]
 refine Nat.lt_of_le_of_ne (List.length_filter_le _ _) fun h => ?_
 have := List.length_filter_eq_length_iff.1 h x (List.mem_filter.2 ⟨hx, by unfold bIn; rw [decide_eq_false hn]; rfl⟩)
 simp at this
structure BL (P : Jb → List It) (ban all bad : List It) : Prop where
 sub : ∀ k ∈ ban.map Zaz, k ∈ bad.map Zaz
 rc : ∀ k ∈ bad.map Zaz, Rc (backE P (all.map Zaz)) (ban.map Zaz) k
 len : bad.length + leftB all bad ≤ ban.length + all.length
theorem passB_fold {P : Jb → List It} {ban all : List It} : ∀ (l : List It), (∀ x ∈ l, x ∈ all) → ∀ s : List It × Bool, BL P ban all s.1 →
  BL P ban all (l.foldl (passB P) s).1 ∧ (∀ k ∈ s.1.map Zaz, k ∈ (l.foldl (passB P) s).1.map Zaz) ∧
   ((l.foldl (passB P) s = s ∧ ∀ x ∈ l, Zaz x ∉ s.1.map Zaz → ((P (Zaz x)).any fun p => p.m && bIn s.1 (Zaz p)) = false) ∨ ((l.foldl (passB P) s).2 = true ∧ leftB all (l.foldl (passB P) s).1 < leftB all s.1))
 | [], _, s, hs => ⟨hs, fun _ h => h, .inl ⟨rfl, fun _ h => by cases h⟩⟩
 | x :: l, hl, s, hs => by
  rw [List.foldl_cons]
  have hxa := hl x List.mem_cons_self
  have hla : ∀ y ∈ l, y ∈ all := fun y hy => hl y (List.mem_cons_of_mem _ hy)
  by_cases h1 : Zaz x ∈ s.1.map Zaz
  ·have e : passB P s x = s := by unfold passB; rw [if_pos h1]
   rw [e]
   obtain ⟨a, b, c⟩ := passB_fold l hla s hs
   refine ⟨a, b, c.imp (fun c => ⟨c.1, fun y hy => ?_⟩) id⟩
   rcases List.mem_cons.1 hy with hy | hy
   ·rw [hy]; exact fun h => absurd h1 h
   ·exact c.2 y hy
  ·cases h2 : (P (Zaz x)).any fun p => p.m && bIn s.1 (Zaz p)
   ·have e : passB P s x = s := by unfold passB; rw [if_neg h1, h2, if_neg (by simp)]
    rw [e]
    obtain ⟨a, b, c⟩ := passB_fold l hla s hs
    refine ⟨a, b, c.imp (fun c => ⟨c.1, fun y hy => ?_⟩) id⟩
    rcases List.mem_cons.1 hy with hy | hy
    ·rw [hy]; exact fun _ => h2
    ·exact c.2 y hy
   ·have e : passB P s x = (s.1 ++ [x], true) := by unfold passB; rw [if_neg h1, h2, if_pos rfl]
    rw [e]
    have hlt := leftB_add hxa h1
    obtain ⟨p, hp, hpm⟩ := List.any_eq_true.1 h2
    rw [Bool.and_eq_true] at hpm
    have hm : ∀ k, k ∈ (s.1 ++ [x]).map Zaz ↔ k ∈ s.1.map Zaz ∨ k = Zaz x := fun k => by rw [List.map_append, List.mem_append]; simp
    have hs2 : BL P ban all (s.1 ++ [x]) := ⟨fun k hk => (hm k).2 (.inl (hs.sub k hk)), fun k hk => by
     rcases (hm k).1 hk with hk | hk
     ·exact hs.rc k hk
     ·rw [hk]
      exact (hs.rc _ (of_decide_eq_true hpm.2)).step (Zdv.2 ⟨List.mem_map_of_mem hxa, p, hp, hpm.1, rfl⟩), by
     have := hs.len
     rw [List.length_append, List.length_singleton]
     omega⟩
    obtain ⟨a, b, c⟩ := passB_fold l hla (s.1 ++ [x], true) hs2
    refine ⟨a, fun k hk => b k ((hm k).2 (.inl hk)), .inr ?_⟩
    rcases c with ⟨c1, _⟩ | ⟨c1, c2⟩
    ·rw [c1]; exact ⟨rfl, hlt⟩
    ·exact ⟨c1, Nat.lt_trans c2 hlt⟩
theorem bans_l3 {all bad : List It} (hal : all.length ≤ 10000) (hbl : bad.length ≤ 900000) : ∀ (n i : Nat), n = all.length - i → i ≤ all.length → ∀ acc : List It, acc.length ≤ i →
  Ev (fun k => Zac.l3 k (all.map rf) (bad.map rf) (acc.map rf) (i : Int)) ((Zcf (acc ++ ((all.drop i).filter fun x => bIn bad (Zaz x)).map fun x => itF (Zaz x))).map rf) := by
 intro n
 induction n with
 | zero =>
  intro i hn hi acc ha
  have : i = all.length := by omega
  subst this
  rw [List.drop_eq_nil_of_le (Nat.le_refl _), List.filter_nil, List.map_nil, List.append_nil]
  refine (Ev.bind (refSorted_f acc (by omega)) (f := fun k t274 => some t274) (Ev.const _)).next fun k => ?_
  rw [Zac.l3, if_neg (by simp)]
 | succ n ih =>
  intro i hn hi acc ha
  have hil : i < all.length := by omega
  obtain ⟨x, hx⟩ := get_lt hil
  have c1 : (i : Int) < ((all.map rf).length : Int) := by simpa using hil
  have c2 : (0 : Int) ≤ (i : Nat) := by omega
  rw [drop_at hx, List.filter_cons]
  obtain ⟨r1, e1, s1⟩ := has_f (l := bad) (by omega) x.u x.t x.m
  rcases s1 with ⟨n1, o1⟩ | ⟨n1, o1, _⟩
  ·have h1 := ih (i + 1) (by omega) (by omega) acc (by omega)
   rw [if_neg (by rw [show bIn bad (Zaz x) = false from decide_eq_false o1]; simp)]
   have h2 := Ev.bind e1 (f := fun k t268 => if t268 ≥ 0 then (if (acc.map rf).length < 8796093022208 then (Zac.l3 k (all.map rf) (bad.map rf) (acc.map rf ++ [(⟨x.u, x.t, false⟩ : S44)]) (wrap64 ((i : Int) + 1))) else (none)) else (Zac.l3 k (all.map rf) (bad.map rf) (acc.map rf) (wrap64 ((i : Int) + 1)))) (h1.congr fun k => by
    show (if r1 ≥ 0 then _ else _) = _
    rw [if_neg (by omega), wrap_succ (by omega)])
   refine h2.next fun k => ?_
   rw [Zac.l3, if_pos c1, if_pos c2, rd_at hx]
   rfl
  ·have h1 := ih (i + 1) (by omega) (by omega) (acc ++ [itF (Zaz x)]) (by rw [List.length_append, List.length_singleton]; omega)
   rw [if_pos (show bIn bad (Zaz x) = true from decide_eq_true o1), List.map_cons]
   rw [List.append_assoc] at h1
   have h2 := Ev.bind e1 (f := fun k t268 => if t268 ≥ 0 then (if (acc.map rf).length < 8796093022208 then (Zac.l3 k (all.map rf) (bad.map rf) (acc.map rf ++ [(⟨x.u, x.t, false⟩ : S44)]) (wrap64 ((i : Int) + 1))) else (none)) else (Zac.l3 k (all.map rf) (bad.map rf) (acc.map rf) (wrap64 ((i : Int) + 1)))) (h1.congr fun k => by
    show (if r1 ≥ 0 then _ else _) = _
    rw [if_pos n1, if_pos (by rw [List.length_map]; omega), wrap_succ (by omega), List.map_append]
    rfl)
   refine h2.next fun k => ?_
   rw [Zac.l3, if_pos c1, if_pos c2, rd_at hx]
   rfl
theorem bans_l0 {g : GL} (hg : okG g = true) {on : List Bool} {ban all : List It} (hal : all.length ≤ 10000) (hbl : ban.length ≤ 10000) :
  ∀ (n : Nat) (bad : List It), leftB all bad ≤ n → BL (Zcc g on) ban all bad →
   Ev (fun k => Zac.l0 k on (all.map rf) (bad.map rf) true g.req g.wants g.binds g.conf g.reqBy g.bound g.parts) ((Zcf ((all.filter fun x => decide (Zaz x ∈ Zdy (Zcc g on) (ban.map Zaz) (all.map Zaz))).map fun x => itF (Zaz x))).map rf) := by
 intro n
 induction n with
 | zero =>
  intro bad hn hb
  have hlen := hb.len
  obtain ⟨k1, k2, k3⟩ := passB_fold all (fun _ h => h) (bad, false) hb
  rcases k3 with ⟨k3, k4⟩ | ⟨k3, k4⟩
  case inr =>
   have k5 : leftB all (all.foldl (passB (Zcc g on)) (bad, false)).1 < leftB all bad := k4
   omega
  have hclosed : ∀ x, Zaz x ∈ bad.map Zaz ↔ Zaz x ∈ Zdy (Zcc g on) (ban.map Zaz) (all.map Zaz) := fun x => by
   rw [spoil_mem]
   refine ⟨hb.rc _, fun h => h.least (T := fun k => k ∈ bad.map Zaz) hb.sub fun y z hy hz => ?_⟩
   obtain ⟨hz1, p, hp, hpm, rfl⟩ := Zdv.1 hz
   obtain ⟨w, hw, rfl⟩ := List.mem_map.1 hz1
   refine Classical.byContradiction fun hno => ?_
   have := List.any_eq_false.1 (k4 w hw hno) p hp
   rw [hpm, show bIn bad (Zaz p) = true from decide_eq_true hy] at this
   simp at this
  have hfil : (all.filter fun x => bIn bad (Zaz x)) = all.filter fun x => decide (Zaz x ∈ Zdy (Zcc g on) (ban.map Zaz) (all.map Zaz)) := List.filter_congr fun x _ => decide_eq_decide.2 (hclosed x)
  have h3 := bans_l3 (bad := bad) hal (by omega) _ 0 rfl (Nat.zero_le _) [] (Nat.le_refl _)
  rw [List.drop_zero, List.nil_append, hfil] at h3
  have h0 : Ev (fun k => Zac.l0 k on (all.map rf) (bad.map rf) false g.req g.wants g.binds g.conf g.reqBy g.bound g.parts) ((Zcf ((all.filter fun x => decide (Zaz x ∈ Zdy (Zcc g on) (ban.map Zaz) (all.map Zaz))).map fun x => itF (Zaz x))).map rf) := h3.next fun k => by
   rw [Zac.l0, if_neg (by simp)]
   rfl
  have h1 := bans_l1 hg (on := on) hal _ 0 rfl (Nat.zero_le _) (bad, false) (by simp only; omega) (r := (Zcf ((all.filter fun x => decide (Zaz x ∈ Zdy (Zcc g on) (ban.map Zaz) (all.map Zaz))).map fun x => itF (Zaz x))).map rf) (by rw [List.drop_zero, k3]; exact h0)
  refine h1.next fun k => ?_
  rw [Zac.l0, if_pos rfl]
  rfl
 | succ n ih =>
  intro bad hn hb
  have hlen := hb.len
  obtain ⟨k1, k2, k3⟩ := passB_fold all (fun _ h => h) (bad, false) hb
  rcases k3 with ⟨k3, k4⟩ | ⟨k3, k4⟩
  ·have hclosed : ∀ x, Zaz x ∈ bad.map Zaz ↔ Zaz x ∈ Zdy (Zcc g on) (ban.map Zaz) (all.map Zaz) := fun x => by
    rw [spoil_mem]
    refine ⟨hb.rc _, fun h => h.least (T := fun k => k ∈ bad.map Zaz) hb.sub fun y z hy hz => ?_⟩
    obtain ⟨hz1, p, hp, hpm, rfl⟩ := Zdv.1 hz
    obtain ⟨w, hw, rfl⟩ := List.mem_map.1 hz1
    refine Classical.byContradiction fun hno => ?_
    have := List.any_eq_false.1 (k4 w hw hno) p hp
    rw [hpm, show bIn bad (Zaz p) = true from decide_eq_true hy] at this
    simp at this
   have hfil : (all.filter fun x => bIn bad (Zaz x)) = all.filter fun x => decide (Zaz x ∈ Zdy (Zcc g on) (ban.map Zaz) (all.map Zaz)) := List.filter_congr fun x _ => decide_eq_decide.2 (hclosed x)
   have h3 := bans_l3 (bad := bad) hal (by omega) _ 0 rfl (Nat.zero_le _) [] (Nat.le_refl _)
   rw [List.drop_zero, List.nil_append, hfil] at h3
   have h0 : Ev (fun k => Zac.l0 k on (all.map rf) (bad.map rf) false g.req g.wants g.binds g.conf g.reqBy g.bound g.parts) ((Zcf ((all.filter fun x => decide (Zaz x ∈ Zdy (Zcc g on) (ban.map Zaz) (all.map Zaz))).map fun x => itF (Zaz x))).map rf) := h3.next fun k => by
    rw [Zac.l0, if_neg (by simp)]
    rfl
   have h1 := bans_l1 hg (on := on) hal _ 0 rfl (Nat.zero_le _) (bad, false) (by simp only; omega) (r := (Zcf ((all.filter fun x => decide (Zaz x ∈ Zdy (Zcc g on) (ban.map Zaz) (all.map Zaz))).map fun x => itF (Zaz x))).map rf) (by rw [List.drop_zero, k3]; exact h0)
   refine h1.next fun k => ?_
   rw [Zac.l0, if_pos rfl]
   rfl
  ·have h0 := ih (all.foldl (passB (Zcc g on)) (bad, false)).1 (by
    have k5 : leftB all (all.foldl (passB (Zcc g on)) (bad, false)).1 < leftB all bad := k4
    omega) k1
   have h1 := bans_l1 hg (on := on) hal _ 0 rfl (Nat.zero_le _) (bad, false) (by simp only; omega) (r := (Zcf ((all.filter fun x => decide (Zaz x ∈ Zdy (Zcc g on) (ban.map Zaz) (all.map Zaz))).map fun x => itF (Zaz x))).map rf) (by rw [List.drop_zero, k3]; exact h0)
   refine h1.next fun k => ?_
   rw [Zac.l0, if_pos rfl]
   rfl
theorem refBans_f {g : GL} (hg : okG g = true) {on : List Bool} {ban all : List It} (hal : all.length ≤ 10000) (hbl : ban.length ≤ 10000) :
  Ev (fun k => Zac.f k g.req g.wants g.binds g.conf g.reqBy g.bound g.parts on (ban.map rf) (all.map rf)) ((Zcf ((all.filter fun x => decide (Zaz x ∈ Zdy (Zcc g on) (ban.map Zaz) (all.map Zaz))).map fun x => itF (Zaz x))).map rf) := by
 have h := bans_l0 hg (on := on) hal hbl _ ban (Nat.le_refl _) ⟨fun _ h => h, fun _ h => .base h, by
  have := List.length_filter_le (fun x => !bIn ban (Zaz x)) all
  unfold leftB
  omega⟩
 refine h.congr fun k => ?_
 unfold Zac.f
 rw [if_pos (by rw [List.length_map, List.length_nil]; omega), List.nil_append]
end Go.Proofs.Ytclgclcoblfddaa
