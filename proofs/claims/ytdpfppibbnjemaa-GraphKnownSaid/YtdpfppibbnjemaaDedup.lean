/- Plain: numbers sorted, each once: the one rising list of its members. -/
import Derived.Lib.SlicesCompact
import Derived.RowKit
namespace Go.Proofs.Ytdpfppibbnjemaa
open Go.Lib
set_option linter.unusedVariables false
set_option linter.unusedSimpArgs false

def sortZ (l : List Int) : List Int := l.mergeSort fun x y => decide (x ≤ y)
/-- Sorted, each once. -/
def sc (l : List Int) : List Int := compact (sortZ l)
def Up (l : List Int) : Prop := l.Pairwise (· < ·)
theorem sortZ_perm (l : List Int) : (sortZ l).Perm l := List.mergeSort_perm l _
theorem sortZ_length (l : List Int) : (sortZ l).length = l.length := List.length_mergeSort _
theorem sortZ_le (l : List Int) : (sortZ l).Pairwise (· ≤ ·) := by
  have := List.pairwise_mergeSort (le := fun x y : Int => decide (x ≤ y)) (by intro a b c; simp; omega) (by intro a b; simp; omega) l
  exact this.imp fun h => by simpa using h
theorem mem_compact (l : List Int) (x : Int) : x ∈ compact l ↔ x ∈ l := by
  unfold compact compactUpTo
  rw [List.mem_map]
  constructor
  · rintro ⟨j, hj, rfl⟩
    have hj' := List.mem_range.1 (List.mem_filter.1 hj).1
    have : l.toArray[j]! = l[j] := by rw [getElem!_pos _ j (by simpa using hj')]; rfl
    rw [this]
    exact List.getElem_mem _
  · intro hx
    have key : ∀ (n j : Nat), j ≤ n → l[j]? = some x → ∃ a, a ∈ (List.range l.length).filter (keeps l.toArray) ∧ l.toArray[a]! = x := by
      intro n
      induction n with
      | zero =>
        intro j hj h
        obtain rfl : j = 0 := by omega
        have hlt := (List.getElem?_eq_some_iff.1 h).1
        refine ⟨0, List.mem_filter.2 ⟨List.mem_range.2 hlt, keeps_lt_one _ 0 (by omega)⟩, ?_⟩
        rw [getElem!_pos _ 0 (by simpa using hlt)]
        exact (List.getElem?_eq_some_iff.1 h).2
      | succ n ih =>
        intro j hj h
        have hlt := (List.getElem?_eq_some_iff.1 h).1
        have hv : l.toArray[j]! = x := by
          rw [getElem!_pos _ j (by simpa using hlt)]
          exact (List.getElem?_eq_some_iff.1 h).2
        by_cases h0 : j = 0
        · exact ih j (by omega) h
        by_cases he : l.toArray[j]! = l.toArray[j - 1]!
        · refine ih (j - 1) (by omega) ?_
          rw [List.getElem?_eq_getElem (by omega)]
          rw [hv, getElem!_pos _ (j - 1) (by simp; omega)] at he
          exact congrArg some he.symm
        · exact ⟨j, List.mem_filter.2 ⟨List.mem_range.2 hlt, keeps_pos he⟩, hv⟩
    obtain ⟨j, hj⟩ := List.getElem?_of_mem hx
    exact key j j (Nat.le_refl _) hj
theorem up_compact {l : List Int} (h : l.Pairwise (· ≤ ·)) : Up (compact l) := by
  unfold Up compact compactUpTo
  rw [List.pairwise_map]
  refine List.Pairwise.imp_of_mem ?_ (List.pairwise_lt_range.sublist List.filter_sublist)
  intro i j hi hj hij
  obtain ⟨_, hk⟩ := List.mem_filter.1 hj
  have hjl := List.mem_range.1 (List.mem_filter.1 hj).1
  have hil := List.mem_range.1 (List.mem_filter.1 hi).1
  have hne : l.toArray[j]! ≠ l.toArray[j - 1]! := by
    unfold keeps at hk
    have := of_decide_eq_true hk
    exact this.resolve_left (by omega)
  have g : ∀ (k : Nat) (hk : k < l.length), l.toArray[k]! = l[k] := fun k hk => by rw [getElem!_pos _ k (by simpa using hk)]; rfl
  rw [g j hjl] at hne ⊢
  rw [g (j - 1) (by omega)] at hne
  rw [g i hil]
  have le : ∀ (a b : Nat) (ha : a < l.length) (hb : b < l.length), a ≤ b → l[a] ≤ l[b] := fun a b ha hb hab => by
    rcases Nat.lt_or_ge a b with hh | hh
    · exact List.pairwise_iff_getElem.1 h a b ha hb hh
    · obtain rfl : a = b := by omega
      exact Int.le_refl _
  have h1 := le i (j - 1) hil (by omega) (by omega)
  have h2 := le (j - 1) j (by omega) hjl (by omega)
  omega
theorem sc_up (l : List Int) : Up (sc l) := up_compact (sortZ_le l)
theorem mem_sc (l : List Int) (x : Int) : x ∈ sc l ↔ x ∈ l := by unfold sc; rw [mem_compact, (sortZ_perm l).mem_iff]
theorem Up.nodup {l : List Int} (h : Up l) : l.Nodup := h.imp fun h => Int.ne_of_lt h
/-- Two rising lists of the same members are one. -/
theorem Up.eq {a b : List Int} (ha : Up a) (hb : Up b) (h : ∀ x, x ∈ a ↔ x ∈ b) : a = b :=
  List.Perm.eq_of_pairwise (le := (· < ·)) (fun x y _ _ h1 h2 => absurd h1 (by omega)) ha hb ((List.perm_ext_iff_of_nodup ha.nodup hb.nodup).2 h)
theorem sc_eq {l m : List Int} (hm : Up m) (h : ∀ x, x ∈ l ↔ x ∈ m) : sc l = m := (sc_up l).eq hm fun x => by rw [mem_sc, h]
theorem sc_length (l : List Int) : (sc l).length ≤ l.length := by
  unfold sc compact compactUpTo
  rw [List.length_map]
  refine Nat.le_trans (List.length_filter_le _ _) ?_
  rw [List.length_range, sortZ_length]
  exact Nat.le_refl _
/-- The places below n of which p holds, rising. -/
def below (n : Nat) (p : Nat → Bool) : List Int := ((List.range n).filter p).map fun (k : Nat) => (k : Int)
theorem below_up (n : Nat) (p : Nat → Bool) : Up (below n p) := by
  unfold Up below
  rw [List.pairwise_map]
  exact (List.pairwise_lt_range.sublist List.filter_sublist).imp fun h => by omega
theorem mem_below {n : Nat} {p : Nat → Bool} {x : Int} : x ∈ below n p ↔ ∃ k : Nat, k < n ∧ p k = true ∧ x = k := by
  unfold below
  rw [List.mem_map]
  constructor
  · rintro ⟨k, hk, rfl⟩
    obtain ⟨h1, h2⟩ := List.mem_filter.1 hk
    exact ⟨k, List.mem_range.1 h1, h2, rfl⟩
  · rintro ⟨k, h1, h2, rfl⟩
    exact ⟨k, List.mem_filter.2 ⟨List.mem_range.2 h1, h2⟩, rfl⟩
theorem below_length (n : Nat) (p : Nat → Bool) : (below n p).length ≤ n := by
  unfold below
  rw [List.length_map]
  refine Nat.le_trans (List.length_filter_le _ _) ?_
  rw [List.length_range]
  exact Nat.le_refl _
theorem below_succ (n : Nat) (p : Nat → Bool) : below (n + 1) p = below n p ++ if p n = true then [(n : Int)] else [] := by
  unfold below
  rw [List.range_succ, List.filter_append, List.map_append]
  congr 1
  by_cases h : p n = true <;> simp [h]
end Go.Proofs.Ytdpfppibbnjemaa
