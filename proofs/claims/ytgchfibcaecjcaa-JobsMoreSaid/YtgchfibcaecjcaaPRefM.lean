/- The reference's Known, Merge and Less, as plain functions. -/
import Derived.Test.YtgchfibcaecjcaaPx6
import Derived.Test.YtgchfibcaecjcaaPMerge
namespace Go.Proofs.Ytgchfibcaecjcaa
open Go.RowKit Go.Proofs.Ytgchfibcaecjcaa.P Go.Proofs.YtgchfibcaecjcaaW.PrintWords
set_option linter.unusedVariables false
set_option linter.unusedSimpArgs false
theorem less_f (x y : It) : clepsydraref20_Less.f x.u x.t x.m y.u y.t y.m = some (ltI x y) := by
  unfold clepsydraref20_Less.f ltI
  cases h : ltJ (jobOf x) (jobOf y)
  · have h2 : ¬ _ := fun e => absurd ((ltJ_iff _ _).2 e) (by rw [h]; simp)
    simp only [jobOf] at h2
    have h3 : ¬ x.u < y.u := by omega
    rw [if_neg h3]
    by_cases h4 : x.u = y.u
    · have h5 : ¬ x.t < y.t := by omega
      simp [h4, h5]
    · simp [h4]
  · have h2 := (ltJ_iff _ _).1 h
    simp only [jobOf] at h2
    by_cases h3 : x.u < y.u
    · simp [h3]
    · have h4 : x.u = y.u := by omega
      have h5 : x.t < y.t := by omega
      simp [h4, h5]
theorem refKnown_f (a : Int) : clepsydraref20_Known.f a = some (knownB a) := known_f a
theorem refMerge_f (a b : Int) : clepsydraref20_Merge.f a b = some (mrg a b) := by
  unfold clepsydraref20_Merge.f
  rw [refKnown_f, refKnown_f]
  rcases tri a with rfl | rfl | rfl | h <;> rcases tri b with rfl | rfl | rfl | h' <;> first | rfl | (simp [mrg, *]; done) | (simp [mrg, *]; rfl)
end Go.Proofs.Ytgchfibcaecjcaa
