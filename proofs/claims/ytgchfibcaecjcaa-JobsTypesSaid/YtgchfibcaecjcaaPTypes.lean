/- JobsTypes, as a plain law. -/
import Derived.Test.YtgchfibcaecjcaaPx12
import Derived.Test.YtgchfibcaecjcaaPRefM
namespace Go.Proofs.Ytgchfibcaecjcaa
open Go.RowKit Go.Proofs.Ytgchfibcaecjcaa.P Go.Proofs.YtgchfibcaecjcaaW.PrintWords
set_option linter.unusedVariables false
set_option linter.unusedSimpArgs false
def cmp3 (a b : Int) : Int := if a < b then -1 else if a > b then 1 else 0
theorem compareInt_f (a b : Int) : cmp_Compare_int.f a b = some (cmp3 a b) := by
  unfold cmp_Compare_int.f cmp_isNaN_int.f cmp3
  simp only [bne_self_eq_false, Option.bind_some, Bool.false_eq_true, if_false]
  split
  · rfl
  · split <;> rfl
theorem compareU8_f (a b : Int) : cmp_Compare_uint8.f a b = some (cmp3 a b) := by
  unfold cmp_Compare_uint8.f cmp_isNaN_uint8.f cmp3
  simp only [bne_self_eq_false, Option.bind_some, Bool.false_eq_true, if_false]
  split
  · rfl
  · split <;> rfl
theorem or_f (k : Nat) (x y : Int) : cmp_Or_int.f (k + 3) [x, y] = some (if x = 0 then y else x) := by
  unfold cmp_Or_int.f
  have r0 : rd [x, y] 0 = x := rfl
  have r1 : rd [x, y] 1 = y := rfl
  have w0 : wrap64 (0 + 1) = 1 := by unfold wrap64; omega
  have w1 : wrap64 (1 + 1) = 2 := by unfold wrap64; omega
  rw [cmp_Or_int.l0]
  simp only [List.length_cons, List.length_nil, r0, w0]
  by_cases hx : x = 0
  · rw [if_pos hx, if_pos hx, cmp_Or_int.l0]
    simp only [List.length_cons, List.length_nil, r1, w1]
    by_cases hy : y = 0
    · rw [if_pos hy, cmp_Or_int.l0]
      simp [hy]
    · simp [hy]
  · simp [hx]
theorem less_j (k : Nat) (u t v s : Int) : jobs_Less.f (k + 3) u t v s = some (ltJ (u, t) (v, s)) := by
  unfold jobs_Less.f jobs_order.f
  rw [compareInt_f, compareU8_f]
  simp only [Option.bind_some, or_f]
  congr 1
  unfold ltJ cmp3
  by_cases h1 : u < v
  · simp [h1]
  · by_cases h2 : u > v
    · have : ¬ u = v := by omega
      simp [h1, h2, this]
    · have h3 : u = v := by omega
      by_cases h4 : t < s
      · simp [h1, h2, h3, h4]
      · by_cases h5 : t > s <;> simp [h1, h2, h3, h4, h5]
theorem JobsTypes_f (u t v s a : Int) (k : Nat) : clepsydralaw20_JobsTypes.f (k + 5) u t v s a = some true := by
  have j : ∀ x11 : Bool, jobs_Needless.f t a = some x11 → clepsydralaw20_JobsTypes.j0 (k + 5) a (mrg t s).1 (mrg t s).2 (mrg t s).1 (mrg t s).2 x11 u t v s = some true := by
    intro x11 hx
    rw [clepsydralaw20_JobsTypes.j0]
    have hl : clepsydraref20_Less.f u t false v s false = some (ltJ (u, t) (v, s)) := less_f ⟨u, t, false⟩ ⟨v, s, false⟩
    rw [hl, known_f, refKnown_f, hx, less_j (k + 1), works_f (by omega)]
    simp
  unfold clepsydralaw20_JobsTypes.f
  rw [merge_f' (by omega), refMerge_f]
  simp only [Option.bind_some]
  unfold jobs_Needless.f at j
  by_cases h1 : t = 1
  · have h2 : ¬ t = 2 := by omega
    simp only [if_pos h1, if_neg h2] at j ⊢
    by_cases h3 : a = 3
    · rw [if_pos h3]; exact j true (by simp [h3])
    · rw [if_neg h3]; exact j false (by simp [h3])
  · simp only [if_neg h1] at j ⊢
    by_cases h2 : t = 2
    · simp only [if_pos h2] at j ⊢
      by_cases h3 : a = 1
      · rw [if_pos h3]; exact j true (by simp [h3])
      · rw [if_neg h3]; exact j (a == 5) (by simp [h3])
    · simp only [if_neg h2] at j ⊢
      exact j false rfl
end Go.Proofs.Ytgchfibcaecjcaa
