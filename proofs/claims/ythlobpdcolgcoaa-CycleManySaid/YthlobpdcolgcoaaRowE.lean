/- Opening a graph that came in: all its ten rows. -/
import Derived.Test.YthlobpdcolgcoaaRowC
import Derived.Test.YthlobpdcolgcoaaRowD
namespace Go.Proofs.Ythlobpdcolgcoaa
open Go.RowKit Go.ChangeShapes Go.WideShapes Go.ChangeAt
set_option linter.unusedVariables false
section
variable {H : Type} {enc : TypeId × Value → H} {w : World} {base : Nat} {spare : Nat → Bool} {held : Bool}
/-- A table in a cell. -/
def TabAt (w : World) (v : Value) (l : List (List Int)) : Prop := ∃ A c rs, v = .slice A (rs : List Row).length c ∧ RdR w A rs ∧ rows rs = l ∧ (∀ r ∈ rs, r.xs.length ≤ 9223372036854775807) ∧ rs.length ≤ 9223372036854775807
theorem open_graph10 {r : Reach} {b0 : Nat} {v : Value} {d : DataW H} {p : List MemPlace}
    (hv : Value.okWide Try.prog w r b0 24 v) (h : DataW.Trod enc Try.prog w base spare held 24 v d p) : ∃ cs, v = .agg (cs : List Value).toArray ∧ cs.length = 10 ∧ ∀ i, i < 10 → ∃ u l, cs[i]? = some u ∧ TabAt w u l := by
  unfold Value.okWide at hv
  rw [Try.underlying24] at hv
  obtain ⟨cs, rfl, hsz, _⟩ := hv
  obtain ⟨fuel, hf⟩ := h
  obtain ⟨xs, n, _, _, hlen, hxl, hel⟩ := DataW.trod_struct Try.underlying24 hf
  have hcs : (Value.agg cs).cells = cs := rfl
  rw [hcs] at hlen hel
  have h10 : Try.prog.cellsOf 24 = 10 := by kernel_rfl
  rw [h10] at hlen
  have hc22 : Try.prog.cellsOf 22 = 1 := by kernel_rfl
  have hx : ∀ i, i < 10 → ∃ y, xs[i]? = some y := fun i hi => ⟨_, List.getElem?_eq_getElem (by rw [hxl]; exact hi)⟩
  have one : ∀ i, i < 10 → DataW.trod enc Try.prog w base spare held n 22 ((cs.toList.drop i).take (Try.prog.cellsOf 22)) = xs[i]? → ∃ u l, cs.toList[i]? = some u ∧ TabAt w u l := by
    intro i hi e
    obtain ⟨y, hy⟩ := hx i hi
    rw [hy, hc22] at e
    obtain ⟨A1, c1, rs1, q1, r1, l1, m1⟩ := trod_table Try.underlying22 Try.underlying40 Try.underlying3 (by kernel_rfl) (by kernel_rfl) e
    exact ⟨_, _, part_one q1, A1, c1, rs1, rfl, r1, rfl, l1, m1⟩
  refine ⟨cs.toList, by simp, hlen, fun i hi => ?_⟩
  have hi' : i = 0 ∨ i = 1 ∨ i = 2 ∨ i = 3 ∨ i = 4 ∨ i = 5 ∨ i = 6 ∨ i = 7 ∨ i = 8 ∨ i = 9 := by omega
  rcases hi' with rfl | rfl | rfl | rfl | rfl | rfl | rfl | rfl | rfl | rfl
  · exact one 0 hi (hel 0 _ rfl)
  · exact one 1 hi (hel 1 _ rfl)
  · exact one 2 hi (hel 2 _ rfl)
  · exact one 3 hi (hel 3 _ rfl)
  · exact one 4 hi (hel 4 _ rfl)
  · exact one 5 hi (hel 5 _ rfl)
  · exact one 6 hi (hel 6 _ rfl)
  · exact one 7 hi (hel 7 _ rfl)
  · exact one 8 hi (hel 8 _ rfl)
  · exact one 9 hi (hel 9 _ rfl)
theorem open_graph1 {r : Reach} {b0 : Nat} {v : Value} {d : DataW H} {p : List MemPlace}
    (hv : Value.okWide Try.prog w r b0 24 v) (h : DataW.Trod enc Try.prog w base spare held 24 v d p) : ∃ cs af be, v = .agg (cs : List Value).toArray ∧ GR w cs af be ∧ cs.all (·.oneCell') = true := by
  obtain ⟨cs, rfl, hl, hk⟩ := open_graph10 hv h
  obtain ⟨u4, l4, h4, A1, c1, rs1, rfl, r1, e1, b1, m1⟩ := hk 4 (by omega)
  obtain ⟨u5, l5, h5, A2, c2, rs2, rfl, r2, e2, b2, m2⟩ := hk 5 (by omega)
  refine ⟨cs, l4, l5, rfl, ⟨A1, c1, rs1, A2, c2, rs2, hl, h4, h5, r1, r2, e1, e2, b1, b2, m1, m2⟩, ?_⟩
  rw [List.all_eq_true]
  intro x hx
  obtain ⟨i, hi⟩ := List.getElem?_of_mem hx
  have hlt := (List.getElem?_eq_some_iff.1 hi).1
  obtain ⟨u, l, hu, A, c, rs, rfl, _⟩ := hk i (by omega)
  rw [hi] at hu
  cases hu
  rfl
end
end Go.Proofs.Ythlobpdcolgcoaa
