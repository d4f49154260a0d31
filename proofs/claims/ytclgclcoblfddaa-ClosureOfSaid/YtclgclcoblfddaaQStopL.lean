/- ClosureStop, as a plain law. -/
import Derived.Test.YtclgclcoblfddaaQStop
namespace Go.Proofs.Ytclgclcoblfddaa
open Go.RowKit Go.Proofs.Ytclgclcoblfddaa.P Go.Proofs.YtclgclcoblfddaaW.PrintWords
set_option linter.unusedVariables false
set_option linter.unusedSimpArgs false
theorem growF_len {α : Type} [DecidableEq α] (E : α → List α) : ∀ (n : Nat) (l : List α), (growF E n l).length ≤ l.length + n
  | 0, l => Nat.le_refl _
  | n + 1, l => by
    unfold growF
    split
    · omega
    · rename_i y _
      have := growF_len E n (l ++ [y])
      rw [List.length_append] at this
      simp only [List.length_cons, List.length_nil] at this
      refine Nat.le_trans this ?_
      omega
theorem ofL_len (g : GL) (on : List Bool) (ban : List Jb) (a : Jb) : (ofL g on ban a).1.length ≤ 1 + 3 * on.length := by
  unfold ofL
  split
  · split
    · simp
    · refine Nat.le_trans (sortedL_len _) ?_
      rw [List.length_map]
      unfold Zdb growL
      refine Nat.le_trans (growF_len _ _ _) ?_
      rw [jobsU_length]
      simp
  · simp
end Go.Proofs.Ytclgclcoblfddaa
