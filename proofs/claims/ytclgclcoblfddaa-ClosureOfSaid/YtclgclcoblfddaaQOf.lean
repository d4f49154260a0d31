/- Chapter 21: the document's Of, as a plain function. -/
import Derived.Test.YtclgclcoblfddaaPx12
import Derived.Test.YtclgclcoblfddaaQLists
namespace Go.Proofs.Ytclgclcoblfddaa
open Go.RowKit Go.Proofs.Ytclgclcoblfddaa.P Go.Proofs.YtclgclcoblfddaaW.PrintWords
set_option linter.unusedVariables false
set_option linter.unusedSimpArgs false
def spS (g : GL) (on : List Bool) (ban : List Jb) (a : Jb) : List Jb := Zdy (Zcc g on) ban (Zdb (Zcc g on) (Zdu on.length) (fun _ => false) a)
def bS (g : GL) (on : List Bool) (ban : List Jb) (a : Jb) : Jb → Bool := fun k => decide (k ∈ spS g on ban a)
def inOf (on : List Bool) (a : Jb) : Prop := 0 ≤ a.1 ∧ a.1 < on.length ∧ knownB a.2 = true
theorem ofL_out {g : GL} {on : List Bool} {ban : List Jb} {a : Jb} (h : ¬ inOf on a) : ofL g on ban a = ([], false) := by
 unfold ofL
 exact if_neg h
theorem ofL_bad {g : GL} {on : List Bool} {ban : List Jb} {a : Jb} (h : inOf on a) (hb : a ∈ spS g on ban a) : ofL g on ban a = ([], false) := by
 unfold ofL
 rw [if_pos (show 0 ≤ a.1 ∧ a.1 < on.length ∧ knownB a.2 = true from h)]
 exact if_pos hb
theorem ofL_ok {g : GL} {on : List Bool} {ban : List Jb} {a : Jb} (h : inOf on a) (hb : a ∉ spS g on ban a) :
  ofL g on ban a = (Zcf ((Zdb (Zcc g on) (Zdu on.length) (bS g on ban a) a).map fun k => (⟨k.1, k.2, decide (k ∈ mustL (Zcc g on) (Zdu on.length) (bS g on ban a) a)⟩ : It)), true) := by
 unfold ofL
 rw [if_pos (show 0 ≤ a.1 ∧ a.1 < on.length ∧ knownB a.2 = true from h)]
 exact if_neg hb
theorem ofL_jobs {g : GL} {on : List Bool} {ban : List Jb} {a : Jb} (h : inOf on a) (hb : a ∉ spS g on ban a) (k : Jb) :
  k ∈ (ofL g on ban a).1.map Zaz ↔ Rc (pullE (Zcc g on) (bS g on ban a)) [a] k := by
 rw [ofL_ok h hb]
 show k ∈ (Zcf _).map Zaz ↔ _
 rw [(sortedL_facts _).2.1, List.map_map]
 show k ∈ (Zdb (Zcc g on) (Zdu on.length) (bS g on ban a) a).map (fun k => (k.1, k.2)) ↔ _
 rw [List.map_id']
 exact Zel (pull_tame g on) _ a k
theorem ofL_must {g : GL} {on : List Bool} {ban : List Jb} {a : Jb} (h : inOf on a) (hb : a ∉ spS g on ban a) {x : It} (hx : x ∈ (ofL g on ban a).1) :
  x.m = true ↔ Rc (mustE (Zcc g on) (bS g on ban a)) [a] (Zaz x) := by
 have hj := (ofL_jobs h hb (Zaz x)).1 (List.mem_map_of_mem hx)
 rw [ofL_ok h hb] at hx
 obtain ⟨q1, q2⟩ := sorted_mem_iff hx
 rw [q2, mustOf_made, ← must_mem (pull_tame g on)]
 rw [decide_eq_true ((Zel (pull_tame g on) _ a _).2 hj), Bool.true_and, decide_eq_true_iff]
theorem reach_clean {g : GL} {on : List Bool} {ban : List Jb} {a k : Jb} (hb : a ∉ spS g on ban a) (h : Rc (pullE (Zcc g on) (bS g on ban a)) [a] k) : k ∉ spS g on ban a :=
 h.least (T := fun k => k ∉ spS g on ban a) (fun y hy => by rw [List.mem_singleton.1 hy]; exact hb) fun y z _ hz => of_decide_eq_false (Zdn.1 hz).2
theorem reach_first {g : GL} {on : List Bool} {b : Jb → Bool} {a k : Jb} (h : Rc (pullE (Zcc g on) b) [a] k) : k ∈ Zdb (Zcc g on) (Zdu on.length) (fun _ => false) a :=
 (Zel (pull_tame g on) _ a k).2 (h.mono (fun _ h => h) fun x y hy => Zdn.2 ⟨(Zdn.1 hy).1, rfl⟩)
def fmL (L2 : List It) (x : It) : It := ⟨x.u, x.t, decide (Zaz x ∈ L2.map Zaz)⟩
theorem of_l0 {L1 L2 : List It} (h1 : L1.length ≤ 100000) (h2 : L2.length ≤ 1000000) : ∀ (n i : Nat), n = L1.length - i → i ≤ L1.length →
  Ev (fun k => Zas.l0 k (((L1.take i).map (fmL L2) ++ L1.drop i).map rf) (L2.map rf) (i : Int)) ((Zcf (L1.map (fmL L2))).map rf, true) := by
 intro n
 induction n with
 | zero =>
  intro i hn hi
  have : i = L1.length := by omega
  subst this
  rw [List.take_of_length_le (Nat.le_refl _), List.drop_eq_nil_of_le (Nat.le_refl _), List.append_nil]
  refine (Ev.bind (refSorted_f (L1.map (fmL L2)) (by rw [List.length_map]; omega)) (f := fun k t324 => some (t324, true)) (Ev.const _)).next fun k => ?_
  rw [Zas.l0, if_neg (by simp)]
 | succ n ih =>
  intro i hn hi
  have hil : i < L1.length := by omega
  obtain ⟨x, hx⟩ := get_lt hil
  have e1 := ih (i + 1) (by omega) (by omega)
  have hlt : ((L1.take i).map (fmL L2)).length = i := by rw [List.length_map, List.length_take]; omega
  have hcx : ((L1.take i).map (fmL L2) ++ L1.drop i)[i]? = some x := by
   rw [List.getElem?_append_right (by omega), hlt, Nat.sub_self, drop_at hx]
   rfl
  have hset : (((L1.take i).map (fmL L2) ++ L1.drop i).map rf).set i (rf (fmL L2 x)) = ((L1.take (i + 1)).map (fmL L2) ++ L1.drop (i + 1)).map rf := by
   rw [← List.map_set, List.set_append_right _ _ (by omega), hlt, Nat.sub_self, drop_at hx, take_at hx]
   simp [List.map_append]
  rw [← hset] at e1
  have c1 : (i : Int) < ((((L1.take i).map (fmL L2) ++ L1.drop i).map rf).length : Int) := by
   rw [List.length_map, List.length_append, hlt, List.length_drop]; omega
  obtain ⟨r1, e2, s1⟩ := has_f (l := L2) h2 x.u x.t x.m
  have hd : decide (r1 ≥ 0) = decide (Zaz x ∈ L2.map Zaz) := decide_eq_decide.2 ⟨fun h => by
   rcases s1 with ⟨n1, _⟩ | ⟨_, o1, _⟩
   ·omega
   ·exact o1, fun h => by
   rcases s1 with ⟨_, o1⟩ | ⟨n1, _⟩
   ·exact absurd h o1
   ·exact n1⟩
  have e3 := Ev.bind e2 (f := fun k t322 => Zas.l0 k ((((L1.take i).map (fmL L2) ++ L1.drop i).map rf).set (i : Int).toNat (⟨x.u, x.t, decide (t322 ≥ 0)⟩ : S44)) (L2.map rf) (wrap64 ((i : Int) + 1))) (e1.congr fun k => by
   show Zas.l0 k _ _ _ = _
   rw [hd, Int.toNat_natCast, wrap_succ (by omega)]
   rfl)
  refine e3.next fun k => ?_
  rw [Zas.l0, if_pos c1, if_pos (by omega), rd_at hcx]
  rfl
theorem refOf_f {g : GL} (hg : okG g = true) {on : List Bool} (hon : on.length ≤ 1000) {ban : List Jb} (hbl : ban.length ≤ 10000) (a : Jb) :
  Ev (fun k => Zas.f k g.req g.wants g.binds g.conf g.reqBy g.bound g.parts on a.1 a.2 false ((ban.map itF).map rf)) ((ofL g on ban a).1.map rf, (ofL g on ban a).2) := by
 have hT := pull_tame g on
 have out : Ev (fun k => Zas.j0 k on ((ban.map itF).map rf) true g.req g.wants g.binds g.conf g.reqBy g.bound g.parts a.1 a.2 false) ([], false) := (Ev.const _).next fun k => by
  rw [Zas.j0, if_pos rfl]
 by_cases hin : inOf on a
 case neg =>
  rw [ofL_out hin]
  by_cases c1 : a.1 < 0
  ·exact out.congr fun k => by unfold Zas.f; rw [if_pos c1]
  ·by_cases c2 : a.1 ≥ (on.length : Int)
   ·exact out.congr fun k => by unfold Zas.f; rw [if_neg c1, if_pos c2]
   ·have hk : knownB a.2 = false := by
     cases h : knownB a.2
     ·rfl
     ·exact absurd ⟨by omega, by omega, h⟩ hin
    exact out.congr fun k => by
     unfold Zas.f
     rw [if_neg c1, if_neg c2, knownR_f, Option.bind_some, hk]
     rfl
 have hf : ∀ k, Zas.f k g.req g.wants g.binds g.conf g.reqBy g.bound g.parts on a.1 a.2 false ((ban.map itF).map rf) = Zas.j0 k on ((ban.map itF).map rf) false g.req g.wants g.binds g.conf g.reqBy g.bound g.parts a.1 a.2 false := fun k => by
  have h1 := hin.1
  have h2 := hin.2.1
  unfold Zas.f
  rw [if_neg (by omega), if_neg (by omega), knownR_f, Option.bind_some, hin.2.2]
  rfl
 obtain ⟨L0, q1, q2, q3, q4⟩ := refReach_f hg hon false (bad := []) (by simp) a
 have hR0 : ∀ k, k ∈ L0.map Zaz ↔ k ∈ Zdb (Zcc g on) (Zdu on.length) (fun _ => false) a := fun k => by
  rw [q1, Zel hT]
  exact ⟨fun h => h.mono (fun _ h => h) fun x y hy => by obtain ⟨p, hp, _, _, rfl⟩ := mem_edge.1 hy; exact Zdn.2 ⟨⟨p, hp, rfl⟩, rfl⟩,
   fun h => h.mono (fun _ h => h) fun x y hy => by obtain ⟨⟨p, hp, rfl⟩, _⟩ := Zdn.1 hy; exact mem_edge.2 ⟨p, hp, fun h => (by cases h), by simp [bIn], rfl⟩⟩
 have hb := refBans_f hg (on := on) (ban := ban.map itF) (all := L0) (by omega) (by rw [List.length_map]; omega)
 rw [map_itF] at hb
 obtain ⟨bad, hbad⟩ : ∃ bad, bad = Zcf ((L0.filter fun x => decide (Zaz x ∈ Zdy (Zcc g on) ban (L0.map Zaz))).map fun x => itF (Zaz x)) := ⟨_, rfl⟩
 rw [← hbad] at hb
 have hbm : ∀ k, k ∈ bad.map Zaz ↔ k ∈ Zdb (Zcc g on) (Zdu on.length) (fun _ => false) a ∧ k ∈ spS g on ban a := fun k => by
  rw [hbad, (sortedL_facts _).2.1, ← hR0]
  unfold spS
  rw [← spoil_all hR0 k, List.map_map]
  simp only [List.mem_map, List.mem_filter, Function.comp, jobOf_itF, decide_eq_true_eq]
  constructor
  ·rintro ⟨x, ⟨hx, hs⟩, rfl⟩; exact ⟨⟨x, hx, rfl⟩, hs⟩
  ·rintro ⟨⟨x, hx, rfl⟩, hs⟩; exact ⟨x, ⟨hx, hs⟩, rfl⟩
 have hbadl : bad.length ≤ 100000 := by
  rw [hbad]
  refine Nat.le_trans (sortedL_len _) ?_
  rw [List.length_map]
  exact Nat.le_trans (List.length_filter_le _ _) (by omega)
 have ha0 : a ∈ Zdb (Zcc g on) (Zdu on.length) (fun _ => false) a := (Zel hT _ _ _).2 (.base (List.mem_singleton.2 rfl))
 obtain ⟨r1, e1, s1⟩ := has_f (l := bad) (by omega) a.1 a.2 false
 obtain ⟨L1, t1, t2, t3, t4⟩ := refReach_f hg hon false (bad := bad) (by omega) a
 obtain ⟨L2, u1, u2, u3, u4⟩ := refReach_f hg hon true (bad := bad) (by omega) a
 have hlong : ∀ {r : List S44 × Bool}, Ev (fun k => (Zak.f k (bad.map rf) a.1 a.2 false).bind fun t314 => (if t314 ≥ 0 then (some (([] : List S44), false)) else ((Zae.f k g.req g.wants g.binds g.conf g.reqBy g.bound g.parts on a.1 a.2 false (bad.map rf) false).bind fun t315 => ((Zae.f k g.req g.wants g.binds g.conf g.reqBy g.bound g.parts on a.1 a.2 false (bad.map rf) true).bind fun t318 => (Zas.l0 k t315 t318 0))))) r →
   Ev (fun k => Zas.f k g.req g.wants g.binds g.conf g.reqBy g.bound g.parts on a.1 a.2 false ((ban.map itF).map rf)) r := fun {r} h => by
  have h9 := Ev.bind q4 (f := fun k t308 => (Zac.f k g.req g.wants g.binds g.conf g.reqBy g.bound g.parts on ((ban.map itF).map rf) t308).bind fun t311 => ((Zak.f k t311 a.1 a.2 false).bind fun t314 => (if t314 ≥ 0 then (some (([] : List S44), false)) else ((Zae.f k g.req g.wants g.binds g.conf g.reqBy g.bound g.parts on a.1 a.2 false t311 false).bind fun t315 => ((Zae.f k g.req g.wants g.binds g.conf g.reqBy g.bound g.parts on a.1 a.2 false t311 true).bind fun t318 => (Zas.l0 k t315 t318 0)))))) (Ev.bind hb h)
  have h10 : Ev (fun k => Zas.j0 k on ((ban.map itF).map rf) false g.req g.wants g.binds g.conf g.reqBy g.bound g.parts a.1 a.2 false) r := h9.next fun k => by
   rw [Zas.j0, if_neg (by simp)]
   rfl
  exact h10.congr hf
 rcases s1 with ⟨n1, o1⟩ | ⟨n1, o1, _⟩
 case inr =>
  rw [ofL_bad hin ((hbm a).1 o1).2]
  refine hlong (Ev.bind e1 ((Ev.const _).congr fun k => ?_))
  exact if_pos n1
 have hns : a ∉ spS g on ban a := fun h => o1 ((hbm a).2 ⟨ha0, h⟩)
 have hedge : ∀ (must : Bool) (E : Jb → List Jb), (∀ x y, y ∈ E x ↔ ∃ p ∈ Zcc g on x, (must = true → p.m = true) ∧ bS g on ban a (Zaz p) = false ∧ Zaz p = y) → ∀ k, Rc (edgeE must (Zcc g on) (bIn bad)) [a] k ↔ Rc E [a] k := by
  intro must E hE k
  have hstep : ∀ x p, x ∈ Zdb (Zcc g on) (Zdu on.length) (fun _ => false) a → p ∈ Zcc g on x → Zaz p ∈ Zdb (Zcc g on) (Zdu on.length) (fun _ => false) a := fun x p hx hp =>
   (Zel hT _ _ _).2 (((Zel hT _ _ _).1 hx).step (Zdn.2 ⟨⟨p, hp, rfl⟩, rfl⟩))
  have hbb : ∀ y, y ∈ Zdb (Zcc g on) (Zdu on.length) (fun _ => false) a → bIn bad y = bS g on ban a y := fun y hy => decide_eq_decide.2 ⟨fun h => ((hbm y).1 h).2, fun h => (hbm y).2 ⟨hy, h⟩⟩
  constructor
  ·intro h
   refine (h.least (T := fun k => Rc E [a] k ∧ k ∈ Zdb (Zcc g on) (Zdu on.length) (fun _ => false) a) (fun y hy => ⟨.base hy, by rw [List.mem_singleton.1 hy]; exact ha0⟩) fun y z hy hz => ?_).1
   obtain ⟨p, hp, hm, hpb, rfl⟩ := mem_edge.1 hz
   have hr := hstep y p hy.2 hp
   exact ⟨hy.1.step ((hE _ _).2 ⟨p, hp, hm, by rw [← hbb _ hr]; exact hpb, rfl⟩), hr⟩
  ·intro h
   refine (h.least (T := fun k => Rc (edgeE must (Zcc g on) (bIn bad)) [a] k ∧ k ∈ Zdb (Zcc g on) (Zdu on.length) (fun _ => false) a) (fun y hy => ⟨.base hy, by rw [List.mem_singleton.1 hy]; exact ha0⟩) fun y z hy hz => ?_).1
   obtain ⟨p, hp, hm, hpb, rfl⟩ := (hE _ _).1 hz
   have hr := hstep y p hy.2 hp
   exact ⟨hy.1.step (mem_edge.2 ⟨p, hp, hm, by rw [hbb _ hr]; exact hpb, rfl⟩), hr⟩
 have hp1 : ∀ k, k ∈ L1.map Zaz ↔ Rc (pullE (Zcc g on) (bS g on ban a)) [a] k := fun k => (t1 k).trans (hedge false _ (fun x y => by
  rw [Zdn]
  constructor
  ·rintro ⟨⟨p, hp, rfl⟩, hb⟩; exact ⟨p, hp, fun h => (by cases h), hb, rfl⟩
  ·rintro ⟨p, hp, _, hb, rfl⟩; exact ⟨⟨p, hp, rfl⟩, hb⟩) k)
 have hp2 : ∀ k, k ∈ L2.map Zaz ↔ Rc (mustE (Zcc g on) (bS g on ban a)) [a] k := fun k => (u1 k).trans (hedge true _ (fun x y => by
  rw [mem_mustE]
  constructor
  ·rintro ⟨⟨p, hp, hm, rfl⟩, hb⟩; exact ⟨p, hp, fun _ => hm, hb, rfl⟩
  ·rintro ⟨p, hp, hm, hb, rfl⟩; exact ⟨⟨p, hp, hm rfl, rfl⟩, hb⟩) k)
 have hres : Zcf (L1.map (fmL L2)) = (ofL g on ban a).1 := by
  rw [ofL_ok hin hns]
  refine sortedL_of_mem fun x => ?_
  rw [List.mem_map, List.mem_map]
  constructor
  ·rintro ⟨y, hy, rfl⟩
   refine ⟨Zaz y, (Zel hT _ _ _).2 ((hp1 _).1 (List.mem_map_of_mem hy)), ?_⟩
   unfold fmL
   rw [show decide (Zaz y ∈ mustL (Zcc g on) (Zdu on.length) (bS g on ban a) a) = decide (Zaz y ∈ L2.map Zaz) from decide_eq_decide.2 (by rw [must_mem hT, hp2])]
   rfl
  ·rintro ⟨k, hk, rfl⟩
   obtain ⟨y, hy, rfl⟩ := List.mem_map.1 ((hp1 k).2 ((Zel hT _ _ _).1 hk))
   refine ⟨y, hy, ?_⟩
   unfold fmL
   rw [show decide (Zaz y ∈ mustL (Zcc g on) (Zdu on.length) (bS g on ban a) a) = decide (Zaz y ∈ L2.map Zaz) from decide_eq_decide.2 (by rw [must_mem hT, hp2])]
   rfl
 have e9 := of_l0 (L1 := L1) (L2 := L2) (by omega) (by omega) _ 0 rfl (Nat.zero_le _)
 rw [hres, List.take_zero, List.drop_zero, List.map_nil, List.nil_append] at e9
 have htrue : (ofL g on ban a).2 = true := by rw [ofL_ok hin hns]
 rw [htrue]
 refine hlong (Ev.bind e1 ((Ev.bind t4 (f := fun k t315 => (Zae.f k g.req g.wants g.binds g.conf g.reqBy g.bound g.parts on a.1 a.2 false (bad.map rf) true).bind fun t318 => (Zas.l0 k t315 t318 0)) (Ev.bind u4 e9)).congr fun k => ?_))
 exact if_neg (by omega)
end Go.Proofs.Ytclgclcoblfddaa
