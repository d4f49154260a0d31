/- Rows of bools and of jobs that came in, in the printed form. -/
import Derived.Test.YtclgclcoblfddaaGraphK
namespace Go.Proofs.Ytclgclcoblfddaa
open Go.ChangeShapes Go.WideShapes Go.ChangeAt Go.RowKit Go.Proofs.YtclgclcoblfddaaW.PrintWords
set_option linter.unusedVariables false
set_option maxRecDepth 100000
section
variable {H : Type} {enc : TypeId × Value → H} {w : World} {base : Nat} {spare : Nat → Bool} {held : Bool}
theorem open_boolsK {r : Reach} {b0 : Nat} {v : Value} {d : DataW H} {p : List MemPlace}
    (hv : Value.okWide Try.prog w r b0 25 v) (h : DataW.Trod enc Try.prog w base spare held 25 v d p) :
    ∃ (l : List Bool) (A : Option Addr) (cap : Nat), v = .slice A l.length cap ∧ Kd.C Kd.bool w A l.length l ∧ l.length ≤ cap :=
  open_kd Try.underlying25 (by kernel_rfl) (opens_bool Try.underlying4 (by kernel_rfl)) hv h
theorem opens_job : Opens enc Try.prog w base spare held P.k32 32 := by
  refine ⟨by kernel_rfl, fun fuel cs x h => ?_⟩
  obtain ⟨xs, n, _, _, hlen, hxl, hel⟩ := DataW.trod_struct Try.underlying32 h
  have h2 : Try.prog.cellsOf 32 = 2 := by kernel_rfl
  have hci : Try.prog.cellsOf 3 = 1 := by kernel_rfl
  have hcu : Try.prog.cellsOf 5 = 1 := by kernel_rfl
  rw [h2] at hlen
  have e0 : DataW.trod enc Try.prog w base spare held n 3 ((cs.drop 0).take (Try.prog.cellsOf 3)) = xs[0]? := hel 0 _ rfl
  have e1 : DataW.trod enc Try.prog w base spare held n 5 ((cs.drop 1).take (Try.prog.cellsOf 5)) = xs[1]? := hel 1 _ rfl
  have hx : ∀ i, i < 2 → ∃ y, xs[i]? = some y := fun i hi => ⟨_, List.getElem?_eq_getElem (by rw [hxl]; exact hi)⟩
  obtain ⟨y0, hy0⟩ := hx 0 (by omega)
  obtain ⟨y1, hy1⟩ := hx 1 (by omega)
  rw [hy0, hci] at e0
  rw [hy1, hcu] at e1
  obtain ⟨u, hu, _⟩ := DataW.trod_int Try.underlying3 e0
  obtain ⟨t, ht, _⟩ := DataW.trod_int Try.underlying5 e1
  match cs, hlen with
  | [a, b], _ =>
    simp at hu ht
    subst hu ht
    exact ⟨⟨u, t⟩, P.k32_mk w ⟨u, t⟩⟩
theorem open_jobsK {r : Reach} {b0 : Nat} {v : Value} {d : DataW H} {p : List MemPlace}
    (hv : Value.okWide Try.prog w r b0 36 v) (h : DataW.Trod enc Try.prog w base spare held 36 v d p) :
    ∃ (l : List P.S32) (A : Option Addr) (cap : Nat), v = .slice A l.length cap ∧ Kd.C P.k32 w A l.length l ∧ l.length ≤ cap :=
  open_kd Try.underlying36 (by kernel_rfl) opens_job hv h
end
end Go.Proofs.Ytclgclcoblfddaa
