/- ClosureOf, as a plain law. -/
import Derived.Test.YtclgclcoblfddaaPx14
import Derived.Test.YtclgclcoblfddaaQOf
import Derived.Test.YtclgclcoblfddaaQItems
namespace Go.Proofs.Ytclgclcoblfddaa
open Go.RowKit Go.Proofs.Ytclgclcoblfddaa.P Go.Proofs.YtclgclcoblfddaaW.PrintWords
set_option linter.unusedVariables false
set_option linter.unusedSimpArgs false
theorem spS_mono {g : GL} {on : List Bool} {ban : List Jb} {a y k : Jb} (h : k ∈ spS g on ban a) : k ∈ spS g on (ban ++ [y]) a := by
 unfold spS at *
 rw [spoil_mem] at *
 exact h.mono (fun _ h => List.mem_append_left _ h) fun _ _ h => h
theorem spS_ban {g : GL} {on : List Bool} {ban : List Jb} {a k : Jb} (h : k ∈ ban) : k ∈ spS g on ban a := by
 unfold spS
 rw [spoil_mem]
 exact .base h
theorem of_has {g : GL} {on : List Bool} {ban : List Jb} {a : Jb} (h : (ofL g on ban a).2 = true) : inOf on a ∧ a ∉ spS g on ban a := by
 by_cases h1 : inOf on a
 ·by_cases h2 : a ∈ spS g on ban a
  ·rw [ofL_bad h1 h2] at h; cases h
  ·exact ⟨h1, h2⟩
 ·rw [ofL_out h1] at h; cases h
theorem of_none {g : GL} {on : List Bool} {ban : List Jb} {a : Jb} (h : (ofL g on ban a).2 = false) : (ofL g on ban a).1 = [] := by
 by_cases h1 : inOf on a
 ·by_cases h2 : a ∈ spS g on ban a
  ·rw [ofL_bad h1 h2]
  ·rw [ofL_ok h1 h2] at h; cases h
 ·rw [ofL_out h1]
theorem of_more {g : GL} {on : List Bool} {ban : List Jb} {a y : Jb} (h : (ofL g on (ban ++ [y]) a).2 = true) :
  (ofL g on ban a).2 = true ∧ ∀ k ∈ (ofL g on (ban ++ [y]) a).1.map Zaz, k ∈ (ofL g on ban a).1.map Zaz ∧ k ≠ y := by
 obtain ⟨h1, h2⟩ := of_has h
 have h3 : a ∉ spS g on ban a := fun h => h2 (spS_mono h)
 refine ⟨by rw [ofL_ok h1 h3], fun k hk => ?_⟩
 have hr := (ofL_jobs h1 h2 k).1 hk
 refine ⟨(ofL_jobs h1 h3 k).2 (hr.mono (fun _ h => h) fun x z hz => ?_), fun e => reach_clean h2 hr (by rw [e]; exact spS_ban (List.mem_append_right _ List.mem_cons_self))⟩
 obtain ⟨⟨p, hp, rfl⟩, hb⟩ := Zdn.1 hz
 exact Zdn.2 ⟨⟨p, hp, rfl⟩, decide_eq_false fun h => of_decide_eq_false hb (spS_mono h)⟩
theorem of_ban {g : GL} {on : List Bool} {ban : List Jb} {a k : Jb} (hk : k ∈ ban) : k ∉ (ofL g on ban a).1.map Zaz := by
 intro hm
 cases h : (ofL g on ban a).2
 ·rw [of_none h] at hm; cases hm
 ·obtain ⟨h1, h2⟩ := of_has h
  exact reach_clean h2 ((ofL_jobs h1 h2 k).1 hm) (spS_ban hk)
theorem of_self {g : GL} {on : List Bool} {ban : List Jb} {a : Jb} (h : (ofL g on ban a).2 = true) : a ∈ (ofL g on ban a).1.map Zaz ∧ ∀ x ∈ (ofL g on ban a).1, Zaz x = a → x.m = true := by
 obtain ⟨h1, h2⟩ := of_has h
 exact ⟨(ofL_jobs h1 h2 a).2 (.base (List.mem_singleton.2 rfl)), fun x hx e => (ofL_must h1 h2 hx).2 (by rw [e]; exact .base (List.mem_singleton.2 rfl))⟩
theorem must_clean {g : GL} {on : List Bool} {ban : List Jb} {a k : Jb} {p : It} (hb : a ∉ spS g on ban a) (h : Rc (pullE (Zcc g on) (bS g on ban a)) [a] k) (hp : p ∈ Zcc g on k) (hm : p.m = true) : bS g on ban a (Zaz p) = false := by
 refine decide_eq_false fun hs => reach_clean hb h ?_
 unfold spS at *
 rw [spoil_mem] at *
 exact hs.step (Zdv.2 ⟨reach_first h, p, hp, hm, rfl⟩)
theorem of_closed {g : GL} {on : List Bool} {ban : List Jb} {a : Jb} (h : (ofL g on ban a).2 = true) : closedL (Zcc g on) (ofL g on ban a).1 = true := by
 obtain ⟨h1, h2⟩ := of_has h
 unfold closedL
 rw [List.all_eq_true]
 intro x hx
 unfold okItem
 rw [List.all_eq_true]
 intro p hp
 unfold okPull
 have hr := (ofL_jobs h1 h2 _).1 (List.mem_map_of_mem hx)
 cases hm : p.m
 ·rfl
 ·have hc := must_clean h2 hr hp hm
  have hin : Zaz p ∈ (ofL g on ban a).1.map Zaz := (ofL_jobs h1 h2 _).2 (hr.step (Zdn.2 ⟨⟨p, hp, rfl⟩, hc⟩))
  rw [decide_eq_true hin]
  cases hxm : x.m
  ·rfl
  ·have hmu := (ofL_must h1 h2 hx).1 hxm
   obtain ⟨y, hy, e⟩ := List.mem_map.1 hin
   have hym : y.m = true := (ofL_must h1 h2 hy).2 (by rw [e]; exact hmu.step (mem_mustE.2 ⟨⟨p, hp, hm, rfl⟩, hc⟩))
   have : Zch (ofL g on ban a).1 (Zaz p) = true := by
    unfold Zch
    exact List.any_eq_true.2 ⟨y, hy, by rw [hym, e]; simp⟩
   rw [this]
   rfl
theorem of_l1 {bj : List Jb} {c : List It} (hb : bj.length ≤ 100000) (hc : c.length ≤ 100000) (hno : ∀ k ∈ bj, k ∉ c.map Zaz) : ∀ (n i : Nat), n = bj.length - i → i ≤ bj.length →
  Ev (fun k => Zaa.l1 k (bj.map ofJob) (c.map rf) (i : Int)) true := by
 intro n
 induction n with
 | zero =>
  intro i hn hi
  have : i = bj.length := by omega
  subst this
  refine (Ev.const _).next fun k => ?_
  rw [Zaa.l1, if_neg (by simp)]
  rfl
 | succ n ih =>
  intro i hn hi
  have hil : i < bj.length := by omega
  obtain ⟨x, hx⟩ := get_lt hil
  obtain ⟨r1, e1, s1⟩ := has_f (l := c) (by omega) x.1 x.2 false
  rcases s1 with ⟨n1, o1⟩ | ⟨n1, o1, _⟩
  ·have e2 := Ev.bind e1 (f := fun k t418 => if t418 ≥ 0 then (some false) else (Zaa.l1 k (bj.map ofJob) (c.map rf) (wrap64 ((i : Int) + 1)))) ((ih (i + 1) (by omega) (by omega)).congr fun k => by
    show (if r1 ≥ 0 then _ else _) = _
    rw [if_neg (by omega), wrap_succ (by omega)])
   refine e2.next fun k => ?_
   rw [Zaa.l1, if_pos (by simpa using hil), if_pos (by omega), rj_at hx]
   rfl
  ·exact absurd o1 (hno x (List.mem_of_getElem? hx))
theorem of_law (l0 l1 l2 l3 l4 l5 l6 l7 l8 l9 : List (List Int)) (on : List Bool) (u t : Int) (ban : List S32) (v s : Int)
  (h0 : l0.length ≤ 9223372036854775807) (h1 : l1.length ≤ 9223372036854775807) (h2 : l2.length ≤ 9223372036854775807) (h6 : l6.length ≤ 9223372036854775807) (h7 : l7.length ≤ 9223372036854775807) (h8 : l8.length ≤ 9223372036854775807) (h9 : l9.length ≤ 9223372036854775807) :
  Ev (fun k => Zaa.f k l0 l1 l2 l3 l4 l5 l6 l7 l8 l9 on u t ban v s) true := by
 unfold Zaa.f
 refine Ev.bind (few_f l0 l1 l2 l3 l4 l5 l6 l7 l8 l9 on ban h0 h1 h2 h6 h7 h8 h9) ?_
 cases hf : (fewG ⟨l0, l1, l2, l6, l7, l8, l9⟩ && (decide (on.length ≤ 14) && decide (ban.length ≤ 30)))
 ·exact (Ev.const _).congr fun k => by rw [if_neg (by simp)]; rfl
 simp only [Bool.and_eq_true, decide_eq_true_eq] at hf
 have hok := few_okG hf.1
 have hg := okG_of hok
 have hon : on.length ≤ 1000 := by have := hf.2.1; omega
 have hbl : ban.length ≤ 30 := hf.2.2
 obtain ⟨bj, rfl⟩ : ∃ c : List Jb, ban = c.map ofJob := ⟨jbs ban, (of_jbs ban).symm⟩
 rw [List.length_map] at hbl
 obtain ⟨g, hgd⟩ : ∃ g : GL, (⟨l0, l1, l2, l6, l7, l8, l9⟩ : GL) = g := ⟨_, rfl⟩
 have hof : ∀ l : List Jb, l.length ≤ 1000 → Zcs.f l0 l1 l2 l3 l4 l5 l6 l7 l8 l9 on u t (l.map ofJob) = some ((ofL g on l (u, t)).1.map ofIt, (ofL g on l (u, t)).2) := fun l h => by
  unfold Zcs.f
  rw [if_pos ⟨hok, hon, by rw [List.length_map]; omega⟩, jbs_of, hgd]
 have href := refOf_f hg hon (ban := bj) (by omega) (u, t)
 have hlc := ofL_len g on bj (u, t)
 have hld := ofL_len g on (bj ++ [(v, s)]) (u, t)
 have hmore := of_more (g := g) (on := on) (ban := bj) (a := (u, t)) (y := (v, s))
 have hself := of_self (g := g) (on := on) (ban := bj) (a := (u, t))
 have hcl := of_closed (g := g) (on := on) (ban := bj) (a := (u, t))
 have hban : ∀ k ∈ bj, k ∉ (ofL g on bj (u, t)).1.map Zaz := fun k hk => of_ban hk
 rw [hgd] at href
 have hnone := of_none (g := g) (on := on) (ban := bj ++ [(v, s)]) (a := (u, t))
 obtain ⟨c, hc⟩ : ∃ c, (ofL g on bj (u, t)).1 = c := ⟨_, rfl⟩
 obtain ⟨b, hb⟩ : ∃ b, (ofL g on bj (u, t)).2 = b := ⟨_, rfl⟩
 obtain ⟨d, hd⟩ : ∃ d, (ofL g on (bj ++ [(v, s)]) (u, t)).1 = d := ⟨_, rfl⟩
 obtain ⟨e, he⟩ : ∃ e, (ofL g on (bj ++ [(v, s)]) (u, t)).2 = e := ⟨_, rfl⟩
 have hof1 := hof bj (by omega)
 have hof2 := hof (bj ++ [(v, s)]) (by rw [List.length_append, List.length_singleton]; omega)
 rw [hc, hb] at hof1
 rw [hd, he] at hof2
 rw [hc, hb] at href
 rw [hc] at hlc
 rw [hd] at hld
 rw [hb, hc, hd, he] at hmore
 rw [hb, hc] at hself hcl
 rw [hc] at hban
 rw [hd, he] at hnone
 have hon14 : on.length ≤ 14 := hf.2.1
 have j3 : Ev (fun k => Zaa.j3 k (bj.map ofJob) (c.map rf) false) true := (of_l1 (by omega) (by omega) hban _ 0 rfl (Nat.zero_le _)).next fun k => by
  rw [Zaa.j3, if_neg (by simp)]
  rfl
 have tail : Ev (fun k => if b = true then ((Zbn.f u t).bind fun bt407 => ((Zak.f k (c.map rf) bt407.1 bt407.2.1 bt407.2.2).bind fun t410 => (if t410 < 0 then (Zaa.j3 k (bj.map ofJob) (c.map rf) true) else (if 0 ≤ t410 then (if t410 < ((c.map rf).length : Int) then (if ((Zaf (c.map rf) t410).f2 = true) then ((Zck.f l0 l1 l2 l3 l4 l5 l6 l7 l8 l9 on (c.map ofIt)).bind fun t412 => (Zaa.j3 k (bj.map ofJob) (c.map rf) (!t412))) else (Zaa.j3 k (bj.map ofJob) (c.map rf) true)) else (none)) else (none))))) else ((Zbq.f).bind fun t406 => (some t406))) true := by
  cases b
  ·exact (Ev.const _).congr fun k => by rw [if_neg (by simp)]; rfl
  ·obtain ⟨s1, s2⟩ := hself rfl
   have hcl := hcl rfl
   obtain ⟨r1, e1, q1⟩ := has_f (l := c) (by omega) u t false
   rcases q1 with ⟨_, o1⟩ | ⟨n1, o1, x, hx, hxj⟩
   ·exact absurd s1 o1
   obtain ⟨m, rfl⟩ : ∃ m : Nat, r1 = m := ⟨r1.toNat, by omega⟩
   rw [Int.toNat_natCast] at hx
   have hm := s2 x (List.mem_of_getElem? hx) hxj
   have hlt := (List.getElem?_eq_some_iff.1 hx).1
   have hclosed : Zck.f l0 l1 l2 l3 l4 l5 l6 l7 l8 l9 on (c.map ofIt) = some true := by
    unfold Zck.f
    rw [if_pos ⟨hok, hon, by rw [List.length_map]; omega⟩, its_ofIt, hgd, hcl]
   have e2 := Ev.bind e1 (f := fun k t410 => if t410 < 0 then (Zaa.j3 k (bj.map ofJob) (c.map rf) true) else (if 0 ≤ t410 then (if t410 < ((c.map rf).length : Int) then (if ((Zaf (c.map rf) t410).f2 = true) then ((Zck.f l0 l1 l2 l3 l4 l5 l6 l7 l8 l9 on (c.map ofIt)).bind fun t412 => (Zaa.j3 k (bj.map ofJob) (c.map rf) (!t412))) else (Zaa.j3 k (bj.map ofJob) (c.map rf) true)) else (none)) else (none))) (j3.congr fun k => by
    show (if (m : Int) < 0 then _ else _) = _
    rw [if_neg (by omega), if_pos (by omega), if_pos (by simpa using hlt), rd_at hx, if_pos (show (rf x).f2 = true from hm), hclosed]
    rfl)
   exact e2.congr fun k => by rw [if_pos rfl]; rfl
 have loop : ∀ (n i : Nat), n = d.length - i → i ≤ d.length → (e = true ∨ d = []) → Ev (fun k => Zaa.l0 k on (bj.map ofJob) (c.map ofIt) b (c.map rf) (d.map ofIt) (i : Int) l0 l1 l2 l3 l4 l5 l6 l7 l8 l9 u t v s) true := by
  intro n
  induction n with
  | zero =>
   intro i hn hi _
   have : i = d.length := by omega
   subst this
   refine tail.next fun k => ?_
   rw [Zaa.l0, if_neg (by simp)]
  | succ n ih =>
   intro i hn hi hed
   have hil : i < d.length := by omega
   obtain ⟨x, hx⟩ := get_lt hil
   have hxd := List.mem_of_getElem? hx
   have het : e = true := by
    rcases hed with h | h
    ·exact h
    ·rw [h] at hxd; cases hxd
   obtain ⟨k1, k2⟩ := (hmore het).2 (Zaz x) (List.mem_map_of_mem hxd)
   obtain ⟨r1, e1, q1⟩ := has_f (l := c) (by omega) x.u x.t false
   rcases q1 with ⟨_, o1⟩ | ⟨n1, o1, _⟩
   ·exact absurd k1 o1
   have hne : ¬ ((x.u == v && (x.t == s)) = true) := fun h => by
    rw [Bool.and_eq_true, beq_iff_eq, beq_iff_eq] at h
    exact k2 (Prod.ext h.1 h.2)
   have e2 := Ev.bind e1 (f := fun k t404 => if t404 < 0 then (some false) else (if (x.u == v && (x.t == s)) = true then (some false) else (Zaa.l0 k on (bj.map ofJob) (c.map ofIt) b (c.map rf) (d.map ofIt) (wrap64 ((i : Int) + 1)) l0 l1 l2 l3 l4 l5 l6 l7 l8 l9 u t v s))) ((ih (i + 1) (by omega) (by omega) hed).congr fun k => by
    show (if r1 < 0 then _ else _) = _
    rw [if_neg (by omega), if_neg hne, wrap_succ (by omega)])
   refine e2.next fun k => ?_
   rw [Zaa.l0, if_pos (by simpa using hil), if_pos (by omega), ri_at hx]
   rfl
 have hed : e = true ∨ d = [] := by
  cases e
  ·exact .inr (hnone rfl)
  ·exact .inl rfl
 have j1 : Ev (fun k => Zaa.j1 k on (bj.map ofJob) (c.map ofIt) b (c.map rf) (d.map ofIt) false l0 l1 l2 l3 l4 l5 l6 l7 l8 l9 u t v s) true := (loop _ 0 rfl (Nat.zero_le _) hed).next fun k => by
  rw [Zaa.j1, if_neg (by simp)]
  rfl
 have hbe : e = true → b = true := fun h => (hmore h).1
 have j0 : Ev (fun k => Zaa.j0 k on (bj.map ofJob) (c.map ofIt) b (c.map rf) false l0 l1 l2 l3 l4 l5 l6 l7 l8 l9 u t v s) true := j1.next fun k => by
  rw [Zaa.j0, if_neg (by simp), if_pos (by rw [List.length_map, List.length_nil]; omega), Option.bind_some, if_pos (by rw [List.nil_append, List.length_map]; omega)]
  rw [List.nil_append, show bj.map ofJob ++ [(⟨v, s⟩ : S32)] = (bj ++ [(v, s)]).map ofJob by rw [List.map_append]; rfl, hof2, Option.bind_some]
  cases e
  ·rw [if_neg (by simp)]
  ·rw [if_pos rfl, hbe rfl]
   rfl
 have e9 : Ev (fun k => (Zct.f l0 l1 l2 l3 l4 l5 l6 l7 l8 l9).bind fun bt350 => ((Zcs.f l0 l1 l2 l3 l4 l5 l6 l7 l8 l9 on u t (bj.map ofJob)).bind fun bt372 => ((Zbn.f u t).bind fun bt376 => ((Zbk.f k (bj.map ofJob)).bind fun t379 => ((Zas.f k bt350.1 bt350.2.1 bt350.2.2.1 bt350.2.2.2.1 bt350.2.2.2.2.1 bt350.2.2.2.2.2.1 bt350.2.2.2.2.2.2 on bt376.1 bt376.2.1 bt376.2.2 t379).bind fun bt382 => (if (bt372.2 != bt382.2) = true then (Zaa.j0 k on (bj.map ofJob) bt372.1 bt372.2 bt382.1 true l0 l1 l2 l3 l4 l5 l6 l7 l8 l9 u t v s) else ((Zba.f k bt372.1).bind fun t386 => ((Zbf.f k t386 bt382.1).bind fun t389 => (Zaa.j0 k on (bj.map ofJob) bt372.1 bt372.2 bt382.1 (!t389) l0 l1 l2 l3 l4 l5 l6 l7 l8 l9 u t v s))))))))) true := by
  refine Ev.bind (Ev.const (l0, l1, l2, l6, l7, l8, l9)) (Ev.bind (Ev.of fun _ => hof1) (Ev.bind (Ev.const (u, t, false)) (Ev.bind (all_f (by omega)) ?_)))
  have href' : Ev (fun k => Zas.f k l0 l1 l2 l6 l7 l8 l9 on u t false ((bj.map itF).map rf)) (c.map rf, b) := by
   rw [← hgd] at href
   exact href
  refine Ev.bind href' ?_
  have e10 : Ev (fun k => (Zba.f k (c.map ofIt)).bind fun t386 => ((Zbf.f k t386 (c.map rf)).bind fun t389 => (Zaa.j0 k on (bj.map ofJob) (c.map ofIt) b (c.map rf) (!t389) l0 l1 l2 l3 l4 l5 l6 l7 l8 l9 u t v s))) true :=
   Ev.bind (items_f (by omega)) (Ev.bind (same_f (by omega)) j0)
  exact e10.congr fun k => if_neg (by simp)
 exact e9.congr fun k => if_pos rfl
end Go.Proofs.Ytclgclcoblfddaa
