/- jobs.Known, jobs.Merge and the search for the end of a unit's run. -/
import Derived.Test.YtclgclcoblfddaaSorted
namespace Go.Proofs.Ytclgclcoblfddaa
open Go.RowKit Go.Lib
set_option linter.unusedVariables false
set_option linter.unusedSimpArgs false
def knownB (t : Int) : Bool := decide (1 ≤ t) && decide (t ≤ 3)
def mrg (a b : Int) : Int × Bool := if !(knownB a) || !(knownB b) then (0, false) else if a == b then (a, true) else if a == 2 || b == 2 then (0, false) else (3, true)
theorem known_calls (t : Int) (w : World) : Calls Try.prog 43 #[.int .u8 t] w fun e w' => e = .returned (.bool (knownB t)) ∧ w' = w := by
  unfold knownB
  by_cases h1 : 1 ≤ t
  · by_cases h2 : t ≤ 3
    · simp only [h1, h2, decide_true, Bool.and_self]
      go_enter Try.func43, Try.ntmps43
      go_wp2_with fail
      go_ret
      exact ⟨rfl, rfl⟩
    · have h3 : ¬ t ≤ 3 := h2
      simp only [h1, h2, decide_true, decide_false, Bool.and_false]
      go_enter Try.func43, Try.ntmps43
      go_wp2_with fail
      go_ret
      exact ⟨rfl, rfl⟩
  · simp only [h1, decide_false, Bool.false_and]
    go_enter Try.func43, Try.ntmps43
    go_wp2_with fail
    go_ret
    exact ⟨rfl, rfl⟩
set_option maxRecDepth 100000 in
set_option maxHeartbeats 2000000 in
theorem merge_calls (a b : Int) (w : World) : Calls Try.prog 37 #[.int .u8 a, .int .u8 b] w fun e w' => e = .returned (.tuple #[.int .u8 (mrg a b).1, .bool (mrg a b).2]) ∧ w' = w := by
  have K1 := Lib.hid (known_calls a w)
  have K2 := Lib.hid (known_calls b w)
  unfold mrg
  generalize knownB a = p at *
  generalize knownB b = q at *
  cases p
  · (go_enter Try.func37, Try.ntmps37; go_wp2_with (first | (go_at_call 43; refine K1.out.mono ?_; rintro e w' ⟨rfl, rfl⟩) | (go_at_call 43; refine K2.out.mono ?_; rintro e w' ⟨rfl, rfl⟩)); go_ret2; exact ⟨rfl, rfl⟩)
  · cases q
    · (go_enter Try.func37, Try.ntmps37; go_wp2_with (first | (go_at_call 43; refine K1.out.mono ?_; rintro e w' ⟨rfl, rfl⟩) | (go_at_call 43; refine K2.out.mono ?_; rintro e w' ⟨rfl, rfl⟩)); go_ret2; exact ⟨rfl, rfl⟩)
    · obtain ⟨x, hx⟩ : ∃ x, (a == b) = x := ⟨_, rfl⟩
      rw [hx]
      cases x
      · obtain ⟨y, hy⟩ : ∃ y, (a == 2) = y := ⟨_, rfl⟩
        rw [hy]
        cases y
        · obtain ⟨z, hz⟩ : ∃ z, (b == 2) = z := ⟨_, rfl⟩
          rw [hz]
          cases z <;> (go_enter Try.func37, Try.ntmps37; go_wp2_with (first | (go_at_call 43; refine K1.out.mono ?_; rintro e w' ⟨rfl, rfl⟩) | (go_at_call 43; refine K2.out.mono ?_; rintro e w' ⟨rfl, rfl⟩)); go_ret2; exact ⟨rfl, rfl⟩)
        · (go_enter Try.func37, Try.ntmps37; go_wp2_with (first | (go_at_call 43; refine K1.out.mono ?_; rintro e w' ⟨rfl, rfl⟩) | (go_at_call 43; refine K2.out.mono ?_; rintro e w' ⟨rfl, rfl⟩)); go_ret2; exact ⟨rfl, rfl⟩)
      · have hab : a = b := by simpa using hx
        subst hab
        clear hx
        (go_enter Try.func37, Try.ntmps37; go_wp2_with (first | (go_at_call 43; refine K1.out.mono ?_; rintro e w' ⟨rfl, rfl⟩) | (go_at_call 43; refine K2.out.mono ?_; rintro e w' ⟨rfl, rfl⟩)); go_ret2; exact ⟨rfl, rfl⟩)
end Go.Proofs.Ytclgclcoblfddaa
