/- Chapter 21: the document's order and Sorted, as plain functions. -/
import Derived.Test.YtclgclcoblfddaaPx9
import Derived.Test.YtclgclcoblfddaaJa1
import Derived.Test.YtclgclcoblfddaaEv
namespace Go.Proofs.Ytclgclcoblfddaa
open Go.RowKit Go.Proofs.Ytclgclcoblfddaa.P Go.Proofs.YtclgclcoblfddaaW.PrintWords
set_option linter.unusedVariables false
set_option linter.unusedSimpArgs false
def rf (x : It) : S44 := ⟨x.u, x.t, x.m⟩
theorem rd_at {l : List It} {i : Nat} {x : It} (h : l[i]? = some x) : rd_T44 (l.map rf) (i : Int) = rf x := by
  unfold rd_T44
  rw [Int.toNat_natCast, List.getD_eq_getElem?_getD, List.getElem?_map, h]
  rfl
end Go.Proofs.Ytclgclcoblfddaa
