/- What the rows' proofs need: tables of ints, graphs, jobs and items that came in. -/
import Derived.Test.YthlobpdcolgcoaaRowC0
import Derived.Test.YthlobpdcolgcoaaLawAhead
import Derived.ProofKit
import Derived.OpenShut
import Derived.ChangeOld
import Derived.ChangeSlices
namespace Go.Proofs.Ythlobpdcolgcoaa
open Go.ChangeShapes Go.WideShapes Go.ChangeAt Go.RowKit
set_option linter.unusedVariables false
section
variable {H : Type} {enc : TypeId × Value → H} {P : Program} {w : World} {base : Nat} {spare : Nat → Bool} {held : Bool}

/-- A row of ints. -/
theorem trod_row {t e : TypeId} (ht : P.underlying t = some (.slice e)) (he : P.underlying e = some (.int .i64)) (hc : P.cellsOf e = 1) {fuel : Nat} {cs : List Value} {x : DataW H × List MemPlace}
    (h : DataW.trod enc P w base spare held fuel t cs = some x) : ∃ r : Row, cs = [r.val] ∧ RdV w r.A (ints r.xs) ∧ r.xs.length ≤ maxLen := by
  rcases Go.ChangeShapes.open_ints ht he hc h with ⟨h1, _⟩ | ⟨ad, l, c, zs, h1, _, hl, hm, hz, _, hcell, _⟩
  · exact ⟨⟨none, 0, []⟩, h1, .inl rfl, by simp⟩
  · have hzl : l ≤ zs.length := by rw [hz]; split <;> omega
    have hlen : (zs.take l).length = l := by simp [Nat.min_eq_left hzl]
    refine ⟨⟨some ad, c, zs.take l⟩, by rw [h1, Row.val, hlen], ?_, by rw [hlen]; omega⟩
    by_cases h0 : l = 0
    · subst h0
      exact .inl (by simp [ints])
    · have hsp := spotless (hcell 0 (by omega))
      have hsp2 : ad = ⟨ad.block, ad.off, none⟩ := by
        obtain ⟨b, o, s⟩ := ad
        simp [Addr.add] at hsp
        simp [hsp]
      refine .inr ⟨ad.block, ad.off, congrArg some hsp2, fun j u hu => ?_⟩
      rw [ints_get, List.getElem?_take] at hu
      split at hu
      · rename_i hj
        have h2 := hcell j (by omega)
        rw [hsp2, add_plain] at h2
        rw [h2, List.getD_eq_getElem?_getD]
        cases hq : zs[j]? with
        | none => rw [hq] at hu; cases hu
        | some q => rw [hq] at hu; cases hu; rfl
      · cases hu
/-- A table of rows. -/
theorem trod_table {t e i : TypeId} (ht : P.underlying t = some (.slice e)) (he : P.underlying e = some (.slice i)) (hi : P.underlying i = some (.int .i64)) (hc : P.cellsOf e = 1) (hc2 : P.cellsOf i = 1) {fuel : Nat} {cs : List Value} {x : DataW H × List MemPlace}
    (h : DataW.trod enc P w base spare held fuel t cs = some x) : ∃ A cap, ∃ rs : List Row, cs = [.slice A rs.length cap] ∧ RdR w A rs ∧ (∀ r ∈ rs, r.xs.length ≤ maxLen) ∧ rs.length ≤ maxLen := by
  rcases DataW.trod_slice ht h with ⟨h0, _⟩ | ⟨a, len, cap, elems, rest, n, _, hcs, _, hb, hl, hm, hlen, hel, _, _⟩
  · exact ⟨none, 0, [], h0, ⟨.inl rfl, fun r hr => (by cases hr)⟩, fun r hr => (by cases hr), by simp⟩
  · have key : ∀ k, k ≤ len → ∃ rs : List Row, rs.length = k ∧ (∀ j r, rs[j]? = some r → w.cell? (a.add j) = some r.val ∧ RdV w r.A (ints r.xs) ∧ r.xs.length ≤ maxLen) := by
      intro k
      induction k with
      | zero => exact fun _ => ⟨[], rfl, fun j r hr => by cases hr⟩
      | succ k ih =>
        intro hk
        obtain ⟨rs, h1, h2⟩ := ih (by omega)
        have h3 := hel k (by omega)
        have hk2 : k < elems.length := by omega
        rw [List.getElem?_eq_getElem hk2, hc, Nat.mul_one] at h3
        obtain ⟨cs1, h4, h5⟩ := Option.bind_eq_some_iff.1 h3
        obtain ⟨r, hr, hrd, hrl⟩ := trod_row he hi hc2 h5
        have h6 : w.cell? (a.add k) = some r.val := by
          unfold World.cells? at h4
          rw [if_pos (by
            have : (a.add k).block = a.block := by unfold Addr.add; split <;> rfl
            rw [this]; exact hb)] at h4
          have : (List.range 1) = [0] := rfl
          rw [this] at h4
          simp only [List.mapM_cons, List.mapM_nil] at h4
          have ha0 : (a.add k).add 0 = a.add k := by simp [Addr.add]
          rw [ha0] at h4
          cases hq : w.cell? (a.add k) with
          | none => rw [hq] at h4; cases h4
          | some q =>
            rw [hq] at h4
            have : cs1 = [q] := by
              simpa using h4.symm
            rw [this] at hr
            cases hr
            rfl
        refine ⟨rs ++ [r], by simp [h1], fun j u hu => ?_⟩
        rcases Nat.lt_or_ge j k with hj | hj
        · rw [List.getElem?_append_left (by omega)] at hu
          exact h2 j u hu
        · rw [List.getElem?_append_right (by omega)] at hu
          have hjk : j = k := by
            have := (List.getElem?_eq_some_iff.1 hu).1
            simp at this
            omega
          subst hjk
          rw [h1, Nat.sub_self] at hu
          cases hu
          exact ⟨h6, hrd, hrl⟩
    obtain ⟨rs, h1, h2⟩ := key len (Nat.le_refl _)
    refine ⟨some a, cap, rs, by rw [hcs, h1], ⟨?_, fun r hr => ?_⟩, fun r hr => ?_, by omega⟩
    · by_cases h0 : rs = []
      · exact .inl (by rw [h0]; rfl)
      · have h00 : 0 < rs.length := List.length_pos_iff.2 h0
        have hsp := spotless (h2 0 _ (List.getElem?_eq_getElem h00)).1
        have hsp2 : a = ⟨a.block, a.off, none⟩ := by
          obtain ⟨b, o, s⟩ := a
          simp [Addr.add] at hsp
          simp [hsp]
        refine .inr ⟨a.block, a.off, congrArg some hsp2, fun j u hu => ?_⟩
        rw [List.getElem?_map] at hu
        cases hq : rs[j]? with
        | none => rw [hq] at hu; cases hu
        | some r =>
          rw [hq] at hu
          cases hu
          have := (h2 j r hq).1
          rw [hsp2, add_plain] at this
          exact this
    · obtain ⟨j, hj⟩ := List.getElem?_of_mem hr
      exact (h2 j r hj).2.1
    · obtain ⟨j, hj⟩ := List.getElem?_of_mem hr
      exact (h2 j r hj).2.2
end
section
variable {H : Type} {enc : TypeId × Value → H} {w : World} {base : Nat} {spare : Nat → Bool} {held : Bool}
/-- A graph that came in. -/
theorem open_graph {r : Reach} {b0 : Nat} {v : Value} {d : DataW H} {p : List MemPlace}
    (hv : Value.okWide Try.prog w r b0 24 v) (h : DataW.Trod enc Try.prog w base spare held 24 v d p) : ∃ cs af be, v = .agg (cs : List Value).toArray ∧ GR w cs af be := by
  unfold Value.okWide at hv
  rw [Try.underlying24] at hv
  obtain ⟨cs, rfl, hsz, _⟩ := hv
  obtain ⟨fuel, hf⟩ := h
  obtain ⟨xs, n, _, _, hlen, hxl, hel⟩ := DataW.trod_struct Try.underlying24 hf
  have hcs : (Value.agg cs).cells = cs := rfl
  rw [hcs] at hlen hel
  have h10 : Try.prog.cellsOf 24 = 10 := by kernel_rfl
  rw [h10] at hlen
  have e4 : DataW.trod enc Try.prog w base spare held n 22 ((cs.toList.drop 4).take (Try.prog.cellsOf 22)) = xs[4]? := hel 4 _ rfl
  have e5 : DataW.trod enc Try.prog w base spare held n 22 ((cs.toList.drop 5).take (Try.prog.cellsOf 22)) = xs[5]? := hel 5 _ rfl
  have hc22 : Try.prog.cellsOf 22 = 1 := by kernel_rfl
  have hx : ∀ i, i < 10 → ∃ y, xs[i]? = some y := fun i hi => ⟨_, List.getElem?_eq_getElem (by rw [hxl]; exact hi)⟩
  obtain ⟨y4, hy4⟩ := hx 4 (by omega)
  obtain ⟨y5, hy5⟩ := hx 5 (by omega)
  rw [hy4] at e4
  rw [hy5] at e5
  rw [hc22] at e4 e5
  obtain ⟨A1, c1, rs1, q1, r1, l1, m1⟩ := trod_table Try.underlying22 Try.underlying40 Try.underlying3 (by kernel_rfl) (by kernel_rfl) e4
  obtain ⟨A2, c2, rs2, q2, r2, l2, m2⟩ := trod_table Try.underlying22 Try.underlying40 Try.underlying3 (by kernel_rfl) (by kernel_rfl) e5
  exact ⟨cs.toList, _, _, by simp, A1, c1, rs1, A2, c2, rs2, hlen, part_one q1, part_one q2, r1, r2, rfl, rfl, l1, l2, m1, m2⟩
end
end Go.Proofs.Ythlobpdcolgcoaa
