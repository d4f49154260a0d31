/- Is a place in a unit's row: graph.has. -/
import Derived.Test.YtdpfppibbnjemaaMem
namespace Go.Proofs.Ytdpfppibbnjemaa
open Go.RowKit Go.Lib
set_option linter.unusedVariables false
set_option linter.unusedSimpArgs false

def idx (l : List Int) (n : Int) : Int := if n ∈ l then (l.idxOf n : Int) else -1
theorem idx_at {l : List Int} {n : Int} {k : Nat} (hk : l[k]? = some n) (hno : ∀ j, j < k → l[j]? ≠ some n) : idx l n = k := by
  have hm : n ∈ l := List.mem_of_getElem? hk
  have hlt : k < l.length := (List.getElem?_eq_some_iff.1 hk).1
  unfold idx
  rw [if_pos hm]
  have : l.idxOf n = k := by
    unfold List.idxOf
    rw [List.findIdx_eq hlt]
    refine ⟨by simpa using (List.getElem?_eq_some_iff.1 hk).2, fun j hj => ?_⟩
    have h1 := hno j hj
    rw [List.getElem?_eq_getElem (by omega)] at h1
    simpa using fun e => h1 (by rw [e])
  rw [this]
theorem idx_no {l : List Int} {n : Int} (hno : ∀ j, j < l.length → l[j]? ≠ some n) : idx l n = -1 := by
  unfold idx
  rw [if_neg]
  intro hm
  obtain ⟨i, hi⟩ := List.getElem?_of_mem hm
  exact hno i (List.getElem?_eq_some_iff.1 hi).1 hi
theorem idx_mem {l : List Int} {n : Int} : decide (0 ≤ idx l n) = l.contains n := by
  unfold idx
  split
  · rename_i h
    rw [decide_eq_true (by omega), List.contains_iff_mem.2 h]
  · rename_i h
    have : l.contains n = false := by rw [← Bool.not_eq_true]; exact fun e => h (List.contains_iff_mem.1 e)
    rw [this]; rfl

theorem index_calls (xs : List Int) (n : Int) (A : Option Addr) (cap : Nat) (w : World) (hr : RdV w A (ints xs)) (hlen : xs.length ≤ 9223372036854775807) :
    Calls Try.prog 64 #[.slice A xs.length cap, .int .i64 n] w fun e w' => e = .returned (.int .i64 (idx xs n)) ∧ w' = w := by
  go_enter Try.func64, Try.ntmps64
  go_wp2_with fail
  go_loop [8] (fun i => ∃ k : Nat, k ≤ xs.length ∧ i = .int .i64 k ∧ ∀ j, j < k → xs[j]? ≠ some n) (fun i => xs.length - (RowKit.intOf i).toNat)
  case atStart => exact ⟨0, by omega, rfl, fun j hj => absurd hj (by omega)⟩
  case round =>
    obtain ⟨k, hk, rfl, hno⟩ := hrel
    by_cases hlt : k < xs.length
    · have hlti : (k : Int) < xs.length := by omega
      obtain ⟨b, o, rfl, hc⟩ := hr.at (i := k) (by rw [ints_length]; exact hlt)
      obtain ⟨x, hx⟩ : ∃ x, xs[k]? = some x := ⟨_, List.getElem?_eq_getElem hlt⟩
      have hcell := hc k (.int .i64 x) (by rw [ints_get, hx]; rfl)
      by_cases he : n = x
      · subst he
        have Hok : Hid (idx xs n = k) := Lib.hid (idx_at hx hno)
        go_wp2_with fail
        go_ret
        exact ⟨by rw [Hok.out]; rfl, rfl⟩
      · have hb : (n == x) = false := by simpa using he
        have HN := Lib.hid hno
        clear hno
        go_wp2_with fail
        go_round
        case rel => exact ⟨k + 1, by omega, by go_num, fun j hj => by
          rcases (show j < k ∨ j = k by omega) with h | rfl
          · exact HN.out j h
          · rw [hx]; intro e; cases e; exact he rfl⟩
        case measure => simp [RowKit.intOf]; omega
    · obtain rfl : k = xs.length := by omega
      have Hok : Hid (idx xs n = -1) := Lib.hid (idx_no hno)
      clear hno
      go_wp2_with fail
      go_ret
      exact ⟨by rw [Hok.out]; rfl, rfl⟩

theorem contains_calls (xs : List Int) (n : Int) (A : Option Addr) (cap : Nat) (w : World) (hr : RdV w A (ints xs)) (hlen : xs.length ≤ 9223372036854775807) :
    Calls Try.prog 47 #[.slice A xs.length cap, .int .i64 n] w fun e w' => e = .returned (.bool (xs.contains n)) ∧ w' = w := by
  have HC := Lib.hid (index_calls xs n A cap w hr hlen)
  rw [← idx_mem]
  generalize idx xs n = q at *
  go_enter Try.func47, Try.ntmps47
  go_wp2_with fail
  refine HC.out.mono ?_
  rintro e W1 ⟨rfl, rfl⟩
  go_wp2_with fail
  go_ret
  exact ⟨rfl, rfl⟩

/-- Is a place in a unit's row? -/
def hasB (l : List (List Int)) (u n : Int) : Bool := decide (0 ≤ u) && ((l[u.toNat]?).getD []).contains n

theorem has_calls (rs : List Row) (u n : Int) (A : Option Addr) (cap : Nat) (w : World) (hr : RdR w A rs) (hlen : ∀ r ∈ rs, r.xs.length ≤ 9223372036854775807) :
    Calls Try.prog 37 #[.slice A rs.length cap, .int .i64 u, .int .i64 n] w fun e w' => e = .returned (.bool (hasB (rows rs) u n)) ∧ w' = w := by
  by_cases h0 : 0 ≤ u
  · obtain ⟨k, rfl⟩ : ∃ k : Nat, u = k := ⟨u.toNat, by omega⟩
    by_cases h1 : k < rs.length
    · have h1i : (k : Int) < rs.length := by omega
      obtain ⟨b, o, B, c, xs, rfl, he, hcell, hrd⟩ := hr.at h1
      have HC := Lib.hid (contains_calls xs n B c w hrd (hlen _ (List.mem_of_getElem? he)))
      have : hasB (rows rs) k n = xs.contains n := by
        unfold hasB
        rw [decide_eq_true h0, rows_get, Int.toNat_natCast, he]
        rfl
      rw [this]
      clear this
      generalize xs.contains n = q at *
      go_enter Try.func37, Try.ntmps37
      go_wp2_with fail
      refine HC.out.mono ?_
      rintro e W1 ⟨rfl, rfl⟩
      go_wp2_with fail
      go_ret
      exact ⟨rfl, rfl⟩
    · have h1i : ¬ (k : Int) < rs.length := by omega
      have : hasB (rows rs) k n = false := by
        unfold hasB
        rw [rows_get, Int.toNat_natCast, List.getElem?_eq_none (by omega)]
        simp
      rw [this]
      go_enter Try.func37, Try.ntmps37
      go_wp2_with fail
      go_ret
      exact ⟨rfl, rfl⟩
  · have : hasB (rows rs) u n = false := by
      unfold hasB
      rw [decide_eq_false h0]
      rfl
    rw [this]
    go_enter Try.func37, Try.ntmps37
    go_wp2_with fail
    go_ret
    exact ⟨rfl, rfl⟩

theorem contains_at {l : List Int} {n : Int} {k : Nat} (hk : l[k]? = some n) : l.contains n = true := List.contains_iff_mem.2 (List.mem_of_getElem? hk)
theorem contains_no {l : List Int} {n : Int} (hno : ∀ j, j < l.length → l[j]? ≠ some n) : l.contains n = false := by
  rw [← Bool.not_eq_true]
  intro e
  obtain ⟨i, hi⟩ := List.getElem?_of_mem (List.contains_iff_mem.1 e)
  exact hno i (List.getElem?_eq_some_iff.1 hi).1 hi

end Go.Proofs.Ytdpfppibbnjemaa
