/- A graph that came in, in the printed form. -/
import Derived.Test.YtclgclcoblfddaaTrodK
namespace Go.Proofs.Ytclgclcoblfddaa
open Go.ChangeShapes Go.WideShapes Go.ChangeAt Go.RowKit Go.Proofs.YtclgclcoblfddaaW.PrintWords
set_option linter.unusedVariables false
set_option maxRecDepth 100000
section
variable {H : Type} {enc : TypeId × Value → H} {w : World} {base : Nat} {spare : Nat → Bool} {held : Bool}
def TabK (w : World) (v : Value) : Prop := ∃ (l : List (List Int)) (A : Option Addr) (cap : Nat), v = .slice A l.length cap ∧ Kd.C (Kd.slice 3 (Kd.int .i64)) w A l.length l ∧ l.length ≤ cap
theorem opens_table : Opens enc Try.prog w base spare held (Kd.slice 3 (Kd.int .i64)) 60 :=
 opens_slice Try.underlying60 (by kernel_rfl) (opens_int Try.underlying3 (by kernel_rfl))
theorem open_graphK {r : Reach} {b0 : Nat} {v : Value} {d : DataW H} {p : List MemPlace}
  (hv : Value.okWide Try.prog w r b0 24 v) (h : DataW.Trod enc Try.prog w base spare held 24 v d p) :
  ∃ v0 v1 v2 v3 v4 v5 v6 v7 v8 v9, v = .agg #[v0, v1, v2, v3, v4, v5, v6, v7, v8, v9] ∧ TabK w v0 ∧ TabK w v1 ∧ TabK w v2 ∧ TabK w v3 ∧ TabK w v4 ∧ TabK w v5 ∧ TabK w v6 ∧ TabK w v7 ∧ TabK w v8 ∧ TabK w v9 := by
 unfold Value.okWide at hv
 rw [Try.underlying24] at hv
 obtain ⟨cs, rfl, hsz, _⟩ := hv
 obtain ⟨fuel, hf⟩ := h
 obtain ⟨xs, n, _, _, hlen, hxl, hel⟩ := DataW.trod_struct Try.underlying24 hf
 have hcs : (Value.agg cs).cells = cs := rfl
 rw [hcs] at hlen hel
 have h10 : Try.prog.cellsOf 24 = 10 := by kernel_rfl
 rw [h10] at hlen
 have hc22 : Try.prog.cellsOf 22 = 1 := by kernel_rfl
 have hx : ∀ i, i < 10 → ∃ y, xs[i]? = some y := fun i hi => ⟨_, List.getElem?_eq_getElem (by rw [hxl]; exact hi)⟩
 have one : ∀ i, i < 10 → DataW.trod enc Try.prog w base spare held n 22 ((cs.toList.drop i).take (Try.prog.cellsOf 22)) = xs[i]? → ∃ u, cs.toList[i]? = some u ∧ TabK w u := by
  intro i hi e
  obtain ⟨y, hy⟩ := hx i hi
  rw [hy, hc22] at e
  obtain ⟨l, A, cap, h1, h2, h3⟩ := cell_kd Try.underlying22 (by kernel_rfl) opens_table e
  exact ⟨_, h1, l, A, cap, rfl, h2, h3⟩
 obtain ⟨u0, e0, t0⟩ := one 0 (by omega) (hel 0 _ rfl)
 obtain ⟨u1, e1, t1⟩ := one 1 (by omega) (hel 1 _ rfl)
 obtain ⟨u2, e2, t2⟩ := one 2 (by omega) (hel 2 _ rfl)
 obtain ⟨u3, e3, t3⟩ := one 3 (by omega) (hel 3 _ rfl)
 obtain ⟨u4, e4, t4⟩ := one 4 (by omega) (hel 4 _ rfl)
 obtain ⟨u5, e5, t5⟩ := one 5 (by omega) (hel 5 _ rfl)
 obtain ⟨u6, e6, t6⟩ := one 6 (by omega) (hel 6 _ rfl)
 obtain ⟨u7, e7, t7⟩ := one 7 (by omega) (hel 7 _ rfl)
 obtain ⟨u8, e8, t8⟩ := one 8 (by omega) (hel 8 _ rfl)
 obtain ⟨u9, e9, t9⟩ := one 9 (by omega) (hel 9 _ rfl)
 refine ⟨u0, u1, u2, u3, u4, u5, u6, u7, u8, u9, ?_, t0, t1, t2, t3, t4, t5, t6, t7, t8, t9⟩
 obtain ⟨l⟩ := cs
 match l, hlen with
 | [a0, a1, a2, a3, a4, a5, a6, a7, a8, a9], _ =>
  cases e0; cases e1; cases e2; cases e3; cases e4; cases e5; cases e6; cases e7; cases e8; cases e9
  rfl
end
end Go.Proofs.Ytclgclcoblfddaa
