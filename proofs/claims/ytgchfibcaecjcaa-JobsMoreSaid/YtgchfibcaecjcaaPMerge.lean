/- Merging, as plain functions. -/
import Derived.Test.YtgchfibcaecjcaaPx4
namespace Go.Proofs.Ytgchfibcaecjcaa
open Go.RowKit Go.Proofs.Ytgchfibcaecjcaa.P
set_option linter.unusedVariables false
set_option linter.unusedSimpArgs false
theorem known_f (a : Int) : jobs_Known.f a = some (knownB a) := by
  unfold jobs_Known.f knownB
  by_cases h : a ≥ 1
  · have : (1 : Int) ≤ a := h
    simp [h, this]
  · have : ¬ (1 : Int) ≤ a := h
    simp [h, this]
theorem merge_f (k : Nat) (a b : Int) : jobs_Merge.f (k + 1) a b = some (mrg a b) := by
  unfold jobs_Merge.f mrg
  rw [known_f, known_f]
  simp only [Option.bind_some]
  cases h1 : knownB a <;> cases h2 : knownB b <;> simp only [jobs_Merge.j0]
  · simp
  · simp
  · simp
  · by_cases h3 : a = b
    · simp [h3]
    · by_cases h4 : a = 2
      · subst h4; simp [h3]
      · by_cases h5 : b = 2 <;> simp [h3, h4, h5]
theorem merge_f' {k : Nat} (hk : 0 < k) (a b : Int) : jobs_Merge.f k a b = some (mrg a b) := by
  cases k with
  | zero => omega
  | succ k => exact merge_f k a b
theorem works_f {k : Nat} (hk : 0 < k) : clepsydralaw20_works.f k = some true := by
  unfold clepsydralaw20_works.f
  rw [merge_f' hk, merge_f' hk]
  kernel_rfl
theorem tri (a : Int) : a = 1 ∨ a = 2 ∨ a = 3 ∨ knownB a = false := by
  unfold knownB
  by_cases h1 : 1 ≤ a
  · by_cases h2 : a ≤ 3
    · omega
    · simp [h2]
  · simp [h1]
theorem known0 : knownB 0 = false := rfl
theorem mrg_comm (a b : Int) : mrg a b = mrg b a := by
  rcases tri a with rfl | rfl | rfl | h <;> rcases tri b with rfl | rfl | rfl | h' <;> first | decide | (simp [mrg, *]) 
theorem mrg_self (a : Int) : mrg a a = if knownB a then (a, true) else (0, false) := by
  rcases tri a with rfl | rfl | rfl | h <;> first | decide | (simp [mrg, *])
theorem mrg_assoc (a b c : Int) : mrg (mrg a b).1 c = mrg a (mrg b c).1 ∧ ((mrg b c).2 || !(mrg a (mrg b c).1).2) = true := by
  rcases tri a with rfl | rfl | rfl | h <;> rcases tri b with rfl | rfl | rfl | h' <;> rcases tri c with rfl | rfl | rfl | h'' <;> first | decide | (simp [mrg, known0, *]; done) | (simp (decide := true) [mrg, known0, *]) 
end Go.Proofs.Ytgchfibcaecjcaa
