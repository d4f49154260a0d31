/- What the rows' proofs need: jobs that came in. -/
import Derived.Test.YtclgclcoblfddaaRows
import Derived.Test.YtclgclcoblfddaaRowLaw
import Derived.Test.YtclgclcoblfddaaIt
import Derived.ProofKit
import Derived.OpenShut
import Derived.ChangeOld
import Derived.ChangeSlices
namespace Go.Proofs.Ytclgclcoblfddaa
open Go.ChangeShapes Go.WideShapes Go.ChangeAt Go.RowKit
set_option linter.unusedVariables false
set_option maxRecDepth 100000
section
variable {H : Type} {enc : TypeId × Value → H} {P : Program} {w : World} {base : Nat} {spare : Nat → Bool} {held : Bool}

theorem spotless {w : World} {ad : Addr} {v : Value} (h : w.cell? ad = some v) : ad = ⟨ad.block, ad.off, none⟩ := by
  unfold World.cell? at h
  split at h
  · split at h
    · cases h
    · rename_i hs
      cases ad with
      | mk b o s =>
        cases s with
        | none => rfl
        | some x => exact absurd rfl hs
  · cases h
theorem add_plain (b o j : Nat) : (⟨b, o, none⟩ : Addr).add j = ⟨b, o + j, none⟩ := by
  unfold Addr.add
  split
  · rename_i e; rw [e]; rfl
  · rfl
theorem part_one {cs : List Value} {k : Nat} {v : Value} (h : (cs.drop k).take 1 = [v]) : cs[k]? = some v := by
  have : ((cs.drop k).take 1)[0]? = some v := by rw [h]; rfl
  rw [List.getElem?_take, if_pos (by omega), List.getElem?_drop] at this
  exact this
end
section
variable {H : Type} {enc : TypeId × Value → H} {w : World} {base : Nat} {spare : Nat → Bool} {held : Bool}
/-- A job that came in. -/
theorem open_job {r : Reach} {b0 : Nat} {v : Value} {d : DataW H} {p : List MemPlace}
    (hv : Value.okWide Try.prog w r b0 32 v) (h : DataW.Trod enc Try.prog w base spare held 32 v d p) : ∃ u t : Int, v = .agg #[.int .i64 u, .int .u8 t] := by
  unfold Value.okWide at hv
  rw [Try.underlying32] at hv
  obtain ⟨cs, rfl, hsz, _⟩ := hv
  obtain ⟨fuel, hf⟩ := h
  obtain ⟨xs, n, _, _, hlen, hxl, hel⟩ := DataW.trod_struct Try.underlying32 hf
  have hcs : (Value.agg cs).cells = cs := rfl
  rw [hcs] at hlen hel
  have h2 : Try.prog.cellsOf 32 = 2 := by kernel_rfl
  rw [h2] at hlen
  have e0 : DataW.trod enc Try.prog w base spare held n 3 ((cs.toList.drop 0).take (Try.prog.cellsOf 3)) = xs[0]? := hel 0 _ rfl
  have e1 : DataW.trod enc Try.prog w base spare held n 5 ((cs.toList.drop 1).take (Try.prog.cellsOf 5)) = xs[1]? := hel 1 _ rfl
  have hc0 : Try.prog.cellsOf 3 = 1 := by kernel_rfl
  have hc1 : Try.prog.cellsOf 5 = 1 := by kernel_rfl
  have hx : ∀ i, i < 2 → ∃ y, xs[i]? = some y := fun i hi => ⟨_, List.getElem?_eq_getElem (by rw [hxl]; exact hi)⟩
  obtain ⟨y0, hy0⟩ := hx 0 (by omega)
  obtain ⟨y1, hy1⟩ := hx 1 (by omega)
  rw [hy0] at e0
  rw [hy1] at e1
  rw [hc0] at e0
  rw [hc1] at e1
  obtain ⟨u, hu, _⟩ := DataW.trod_int Try.underlying3 e0
  obtain ⟨t, ht, _⟩ := DataW.trod_int Try.underlying5 e1
  refine ⟨u, t, ?_⟩
  have f0 := part_one hu
  have f1 := part_one ht
  obtain ⟨l⟩ := cs
  match l, hlen with
  | [a, b], _ =>
    cases f0
    cases f1
    rfl
end
end Go.Proofs.Ytclgclcoblfddaa
