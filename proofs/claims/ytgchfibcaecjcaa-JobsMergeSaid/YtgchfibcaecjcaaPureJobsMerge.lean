/- JobsMerge, as a plain law. -/
import Derived.Test.YtgchfibcaecjcaaPx9
import Derived.Test.YtgchfibcaecjcaaPMerge
namespace Go.Proofs.Ytgchfibcaecjcaa.Pure
open Go.RowKit Go.Proofs.Ytgchfibcaecjcaa.P Go.Proofs.Ytgchfibcaecjcaa
theorem JobsMerge : clepsydralaw20_JobsMerge.Pure := by
  intro a b c _ _ _
  refine ⟨1, ?_⟩
  unfold clepsydralaw20_JobsMerge.f
  rw [merge_f' (by omega), merge_f' (by omega), mrg_comm b a]
  simp only [Option.bind_some, merge_f' (show 0 < 1 by omega), works_f (show 0 < 1 by omega), known_f, mrg_self a]
  obtain ⟨h1, h2⟩ := mrg_assoc a b c
  rw [h1]
  cases h : knownB a <;> cases h3 : (mrg b c).2 <;> simp [h3] at h2 ⊢ <;> simp [h2]
end Go.Proofs.Ytgchfibcaecjcaa.Pure
