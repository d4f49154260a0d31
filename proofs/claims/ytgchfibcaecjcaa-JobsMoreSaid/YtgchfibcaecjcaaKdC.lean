/- Items that came in, in the printed form. -/
import Derived.Test.YtgchfibcaecjcaaJobsG
namespace Go.Proofs.Ytgchfibcaecjcaa
open Go.RowKit Go.Proofs.YtgchfibcaecjcaaW.PrintWords
set_option linter.unusedVariables false
set_option linter.unusedSimpArgs false
theorem kdC_items {w : World} {A : Option Addr} {l : List It} (h : RdI w A l) (hl : l.length ≤ 9223372036854775807) : Kd.C P.k39 w A l.length (l.map ofIt) := by
  refine ⟨by rw [List.length_map], hl, fun hp => ?_⟩
  rcases h with h | ⟨b, o, hA, hc⟩
  · rw [h] at hp; simp at hp
  · refine ⟨⟨b, o, none⟩, hA, fun j x hj => ?_⟩
    rw [List.getElem?_map] at hj
    cases hx : l[j]? with
    | none => rw [hx] at hj; cases hj
    | some i =>
      rw [hx] at hj
      cases hj
      obtain ⟨f0, f1, f2⟩ := hc j i.u i.t i.m hx
      refine ⟨[.int .i64 i.u, .int .u8 i.t, .bool i.m], rfl, P.k39_mk w (ofIt i), fun m v hm => ?_⟩
      have hz : P.k39.sz = 3 := rfl
      rw [hz, add_of rfl]
      match m, hm with
      | 0, hm => cases hm; exact f0
      | 1, hm => cases hm; exact f1
      | 2, hm => cases hm; exact f2
theorem u8_nat {t : Int} (h : (Lit.int .u8 t).wf = true) : ∃ n : Nat, n ≤ 255 ∧ t = (n : Int) := by
  simp [Lit.wf, IntKind.min, IntKind.max, IntKind.signed, IntKind.bits] at h
  exact ⟨t.toNat, by omega, by omega⟩
end Go.Proofs.Ytgchfibcaecjcaa
