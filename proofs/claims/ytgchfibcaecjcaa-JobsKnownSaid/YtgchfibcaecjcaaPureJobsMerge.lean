/- JobsMerge, as a plain law. -/
import Derived.Test.YtgchfibcaecjcaaPx9
import Derived.Test.YtgchfibcaecjcaaPMerge
namespace Go.Proofs.Ytgchfibcaecjcaa.Pure
open Go.RowKit Go.Proofs.Ytgchfibcaecjcaa.P Go.Proofs.Ytgchfibcaecjcaa
theorem JobsMerge_all {k : Nat} (hk : 0 < k) (a b c : Int) : clepsydralaw20_JobsMerge.f k a b c = some true := by
  unfold clepsydralaw20_JobsMerge.f
  rw [merge_f' hk, merge_f' hk, mrg_comm b a]
  simp only [Option.bind_some, merge_f' hk, works_f hk, known_f, mrg_self a]
  obtain ⟨h1, h2⟩ := mrg_assoc a b c
  rw [h1]
  cases h : knownB a <;> cases h3 : (mrg b c).2 <;> simp [h3] at h2 ⊢ <;> simp [h2]
theorem JobsMerge : clepsydralaw20_JobsMerge.Pure := fun a b c _ _ _ => ⟨1, JobsMerge_all (by omega) a b c⟩
end Go.Proofs.Ytgchfibcaecjcaa.Pure
