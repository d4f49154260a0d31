/- The document's Ahead and its table, as plain functions. -/
import Derived.Test.YthlobpdcolgcoaaPx5
import Derived.Test.YthlobpdcolgcoaaEv
import Derived.Test.YthlobpdcolgcoaaJa2
import Derived.Test.YthlobpdcolgcoaaBr23
namespace Go.Proofs.Ythlobpdcolgcoaa
open Go.RowKit Go.Proofs.Ythlobpdcolgcoaa.P Go.Proofs.YthlobpdcolgcoaaW.PrintWords
set_option linter.unusedVariables false
set_option linter.unusedSimpArgs false
theorem wrap_lt {n m : Nat} (h : n < m) (hm : m ≤ 9223372036854775807) : wrap64 ((n : Int) + 1) = ((n + 1 : Nat) : Int) := by
  unfold wrap64
  omega
theorem L1_at {l : List (List Int)} {p : Nat} {row : List Int} (h : l[p]? = some row) : rd_L1 l (p : Int) = row := by
  unfold rd_L1
  rw [Int.toNat_natCast, List.getD_eq_getElem?_getD, h]; rfl
theorem rd_at' {l : List Int} {p : Nat} {x : Int} (h : l[p]? = some x) : rd l (p : Int) = x := by
  unfold rd
  rw [Int.toNat_natCast, List.getD_eq_getElem?_getD, h]; rfl
theorem has_l0 {l : List (List Int)} {p : Nat} {row : List Int} {n : Int} (hp : l[p]? = some row) (hr : row.length ≤ 9223372036854775807) : ∀ (m i : Nat), m = row.length - i → i ≤ row.length →
    Ev (fun k => clepsydraref23_has.l0 k l (p : Int) n (i : Int)) ((row.drop i).contains n) := by
  have hpl := (List.getElem?_eq_some_iff.1 hp).1
  intro m
  induction m with
  | zero =>
    intro i hm hi
    obtain rfl : i = row.length := by omega
    refine (Ev.const _).next fun k => ?_
    rw [clepsydraref23_has.l0, if_pos (by omega), if_pos (by omega), L1_at hp, if_neg (by omega), List.drop_length]
    rfl
  | succ m ih =>
    intro i hm hi
    have hil : i < row.length := by omega
    obtain ⟨x, hx⟩ : ∃ x, row[i]? = some x := ⟨_, List.getElem?_eq_getElem hil⟩
    have hd : row.drop i = x :: row.drop (i + 1) := by
      rw [List.drop_eq_getElem_cons hil]
      congr 1
      rw [List.getElem?_eq_getElem hil] at hx
      exact Option.some.inj hx
    rw [hd, List.contains_cons]
    by_cases hxn : x = n
    · subst hxn
      refine (Ev.const _).next fun k => ?_
      rw [clepsydraref23_has.l0, if_pos (by omega), if_pos (by omega), L1_at hp, if_pos (by omega), if_pos (by omega), rd_at' hx, if_pos rfl]
      simp
    · have e : (n == x || (row.drop (i + 1)).contains n) = (row.drop (i + 1)).contains n := by
        rw [show (n == x) = false from by rw [beq_eq_false_iff_ne]; exact fun h => hxn h.symm, Bool.false_or]
      rw [e]
      refine (ih (i + 1) (by omega) (by omega)).next fun k => ?_
      rw [clepsydraref23_has.l0, if_pos (by omega), if_pos (by omega), L1_at hp, if_pos (by omega), if_pos (by omega), rd_at' hx, if_neg hxn, wrap_lt hil hr]
def Big (l : List (List Int)) : Prop := l.length ≤ 9223372036854775807 ∧ ∀ r ∈ l, r.length ≤ 9223372036854775807
theorem has_f {l : List (List Int)} (hl : Big l) (u n : Int) : Ev (fun k => clepsydraref23_has.f k l u n) (hasB l u n) := by
  by_cases h0 : u < 0
  · have : hasB l u n = false := by unfold hasB; rw [decide_eq_false (by omega)]; rfl
    rw [this]
    refine Ev.congr (h := fun k => clepsydraref23_has.j0 k l u n true) ((Ev.const false).next fun k => ?_) fun k => ?_
    · rw [clepsydraref23_has.j0, if_pos rfl]
    · unfold clepsydraref23_has.f; rw [if_pos h0]
  · obtain ⟨p, rfl⟩ : ∃ p : Nat, u = p := ⟨u.toNat, by omega⟩
    by_cases hp : p < l.length
    · have hrow : l[p]? = some l[p] := List.getElem?_eq_getElem hp
      have : hasB l p n = (l[p].drop 0).contains n := by unfold hasB; rw [decide_eq_true (by omega), Int.toNat_natCast, hrow]; rfl
      rw [this]
      have h1 := has_l0 (n := n) hrow (hl.2 _ (List.getElem_mem hp)) _ 0 rfl (Nat.zero_le _)
      refine Ev.congr (h := fun k => clepsydraref23_has.j0 k l (p : Int) n false) (h1.next fun k => ?_) fun k => ?_
      · rw [clepsydraref23_has.j0, if_neg (by simp)]
        rfl
      · unfold clepsydraref23_has.f; rw [if_neg h0, decide_eq_false (by omega)]
    · have : hasB l p n = false := by unfold hasB; rw [Int.toNat_natCast, List.getElem?_eq_none (by omega)]; simp
      rw [this]
      refine Ev.congr (h := fun k => clepsydraref23_has.j0 k l (p : Int) n true) ((Ev.const false).next fun k => ?_) fun k => ?_
      · rw [clepsydraref23_has.j0, if_pos rfl]
      · unfold clepsydraref23_has.f; rw [if_neg h0, decide_eq_true (by omega)]
theorem units_f' {af be : List (List Int)} (h1 : Big af) (h2 : Big be) (a b : Int) : Ev (fun k => clepsydraref23_Graph_units.f k af be a b) (upB af be a b) := by
  unfold clepsydraref23_Graph_units.f
  refine Ev.bind (has_f h1 b a) ?_
  unfold upB
  cases hasB af b a
  · simp only [Bool.false_or, Bool.false_eq_true, if_false]
    exact Ev.bind (has_f h2 a b) (Ev.const _)
  · simp only [Bool.true_or, if_true]
    exact Ev.const _
theorem ahead_f {af be : List (List Int)} (h1 : Big af) (h2 : Big be) (u t v s : Int) (m m' : Bool) : Ev (fun k => clepsydraref23_Ahead.f k af be u t m v s m') (aheadB af be u t v s) := by
  unfold aheadB
  have J1 : ∀ b : Bool, Ev (fun k => clepsydraref23_Ahead.j1 k b af be u t m v s m') (if b = true then upB af be v u else if t = 2 then upB af be u v || upB af be v u else false) := by
    intro b
    cases b
    · rw [if_neg (by simp)]
      by_cases ht : t = 2
      · rw [if_pos ht]
        have : Ev (fun k => (clepsydraref23_Graph_units.f k af be u v).bind fun t136 => (if t136 = true then (some true) else ((clepsydraref23_Graph_units.f k af be v u).bind fun t137 => (some t137)))) (upB af be u v || upB af be v u) := by
          refine Ev.bind (units_f' h1 h2 u v) ?_
          cases upB af be u v
          · simp only [Bool.false_or, Bool.false_eq_true, if_false]
            exact Ev.bind (units_f' h1 h2 v u) (Ev.const _)
          · simp only [Bool.true_or, if_true]
            exact Ev.const _
        refine this.next fun k => ?_
        rw [clepsydraref23_Ahead.j1, if_neg (by simp), if_pos ht]
      · rw [if_neg ht]
        refine (Ev.const false).next fun k => ?_
        rw [clepsydraref23_Ahead.j1, if_neg (by simp), if_neg ht]
    · rw [if_pos rfl]
      refine (Ev.bind (units_f' h1 h2 v u) (Ev.const _) : Ev (fun k => (clepsydraref23_Graph_units.f k af be v u).bind fun t135 => some t135) _).next fun k => ?_
      rw [clepsydraref23_Ahead.j1, if_pos rfl]
  have J0 : ∀ b : Bool, Ev (fun k => clepsydraref23_Ahead.j0 k b af be u t m v s m') (if b = true then upB af be u v else if t = 2 then (if s = 2 then upB af be v u else upB af be u v || upB af be v u) else false) := by
    intro b
    cases b
    · rw [if_neg (by simp)]
      by_cases ht : t = 2
      · rw [if_pos ht]
        have := J1 (s == 2)
        rw [if_pos ht] at this
        have e : (if (s == 2) = true then upB af be v u else upB af be u v || upB af be v u) = (if s = 2 then upB af be v u else upB af be u v || upB af be v u) := by
          by_cases hs : s = 2
          · simp [hs]
          · simp [hs]
        rw [e] at this
        refine this.next fun k => ?_
        rw [clepsydraref23_Ahead.j0, if_neg (by simp), if_pos ht]
      · rw [if_neg ht]
        have := J1 false
        rw [if_neg (by simp), if_neg ht] at this
        refine this.next fun k => ?_
        rw [clepsydraref23_Ahead.j0, if_neg (by simp), if_neg ht]
    · rw [if_pos rfl]
      refine (Ev.bind (units_f' h1 h2 u v) (Ev.const _) : Ev (fun k => (clepsydraref23_Graph_units.f k af be u v).bind fun t134 => some t134) _).next fun k => ?_
      rw [clepsydraref23_Ahead.j0, if_pos rfl]
  unfold clepsydraref23_Ahead.f
  by_cases huv : u = v
  · simp only [if_pos huv]; exact Ev.const _
  · simp only [if_neg huv]
    by_cases ht : t = 2
    · simp only [if_pos ht]
      have := J0 false
      rw [if_neg (by simp), if_pos ht] at this
      exact this
    · simp only [if_neg ht]
      have := J0 (s != 2)
      rw [if_neg ht] at this
      have e : (if (s != 2) = true then upB af be u v else false) = (if s = 2 then false else upB af be u v) := by
        by_cases hs : s = 2
        · simp [hs]
        · simp [hs]
      rw [e] at this
      exact this
end Go.Proofs.Ythlobpdcolgcoaa
