/- Rows of bools and of jobs that came in, in the printed form. -/
import Derived.Test.YtclgclcoblfddaaGraphK
namespace Go.Proofs.Ytclgclcoblfddaa
open Go.ChangeShapes Go.WideShapes Go.ChangeAt Go.RowKit Go.Proofs.YtclgclcoblfddaaW.PrintWords
set_option linter.unusedVariables false
set_option maxRecDepth 100000
section
variable {H : Type} {enc : TypeId × Value → H} {w : World} {base : Nat} {spare : Nat → Bool} {held : Bool}
theorem open_boolsK {r : Reach} {b0 : Nat} {v : Value} {d : DataW H} {p : List MemPlace}
    (hv : Value.okWide Try.prog w r b0 25 v) (h : DataW.Trod enc Try.prog w base spare held 25 v d p) :
    ∃ (l : List Bool) (A : Option Addr) (cap : Nat), v = .slice A l.length cap ∧ Kd.C Kd.bool w A l.length l ∧ l.length ≤ cap :=
  open_kd Try.underlying25 (by kernel_rfl) (opens_bool Try.underlying4 (by kernel_rfl)) hv h
end
end Go.Proofs.Ytclgclcoblfddaa
