/- What the rows' proofs need: items that came in. -/
import Derived.Test.YthlobpdcolgcoaaRowC0
namespace Go.Proofs.Ythlobpdcolgcoaa
open Go.ChangeShapes Go.WideShapes Go.ChangeAt Go.RowKit
set_option linter.unusedVariables false
section
variable {H : Type} {enc : TypeId × Value → H} {w : World} {base : Nat} {spare : Nat → Bool} {held : Bool}
/-- The three cells of an item. -/
theorem trod_item {fuel : Nat} {cs : List Value} {x : DataW H × List MemPlace} (h : DataW.trod enc Try.prog w base spare held fuel 30 cs = some x) : ∃ i : It, cs = [.int .i64 i.u, .int .u8 i.t, .bool i.m] := by
  obtain ⟨xs, n, _, _, hlen, hxl, hel⟩ := DataW.trod_struct Try.underlying30 h
  have h3 : Try.prog.cellsOf 30 = 3 := by kernel_rfl
  have h2 : Try.prog.cellsOf 26 = 2 := by kernel_rfl
  have hcb : Try.prog.cellsOf 4 = 1 := by kernel_rfl
  have hci : Try.prog.cellsOf 3 = 1 := by kernel_rfl
  have hcu : Try.prog.cellsOf 5 = 1 := by kernel_rfl
  rw [h3] at hlen
  have e0 : DataW.trod enc Try.prog w base spare held n 26 ((cs.drop 0).take (Try.prog.cellsOf 26)) = xs[0]? := hel 0 _ rfl
  have e1 : DataW.trod enc Try.prog w base spare held n 4 ((cs.drop 2).take (Try.prog.cellsOf 4)) = xs[1]? := hel 1 _ rfl
  have hx : ∀ i, i < 2 → ∃ y, xs[i]? = some y := fun i hi => ⟨_, List.getElem?_eq_getElem (by rw [hxl]; exact hi)⟩
  obtain ⟨y0, hy0⟩ := hx 0 (by omega)
  obtain ⟨y1, hy1⟩ := hx 1 (by omega)
  rw [hy0, h2] at e0
  rw [hy1, hcb] at e1
  obtain ⟨xs', n', _, _, hlen', hxl', hel'⟩ := DataW.trod_struct Try.underlying26 e0
  have d0 : DataW.trod enc Try.prog w base spare held n' 3 ((((cs.drop 0).take 2).drop 0).take (Try.prog.cellsOf 3)) = xs'[0]? := hel' 0 _ rfl
  have d1 : DataW.trod enc Try.prog w base spare held n' 5 ((((cs.drop 0).take 2).drop 1).take (Try.prog.cellsOf 5)) = xs'[1]? := hel' 1 _ rfl
  have hx' : ∀ i, i < 2 → ∃ y, xs'[i]? = some y := fun i hi => ⟨_, List.getElem?_eq_getElem (by rw [hxl']; exact hi)⟩
  obtain ⟨z0, hz0⟩ := hx' 0 (by omega)
  obtain ⟨z1, hz1⟩ := hx' 1 (by omega)
  rw [hz0, hci] at d0
  rw [hz1, hcu] at d1
  obtain ⟨u, hu, _⟩ := DataW.trod_int Try.underlying3 d0
  obtain ⟨t, ht, _⟩ := DataW.trod_int Try.underlying5 d1
  obtain ⟨m, hm, _⟩ := DataW.trod_bool Try.underlying4 e1
  match cs, hlen with
  | [a, b, c], _ =>
    refine ⟨⟨u, t, m⟩, ?_⟩
    simp at hu ht hm
    rw [hu, ht, hm]
theorem cells3 {a : Addr} {cs : List Value} {x y z : Value} (h : w.cells? base a 3 = some cs) (hc : cs = [x, y, z]) : w.cell? (a.add 0) = some x ∧ w.cell? (a.add 1) = some y ∧ w.cell? (a.add 2) = some z := by
  unfold World.cells? at h
  split at h
  · have : (List.range 3) = [0, 1, 2] := rfl
    rw [this] at h
    simp only [List.mapM_cons, List.mapM_nil] at h
    cases h0 : w.cell? (a.add 0) with
    | none => rw [h0] at h; cases h
    | some p =>
      cases h1 : w.cell? (a.add 1) with
      | none => rw [h0, h1] at h; cases h
      | some q =>
        cases h2 : w.cell? (a.add 2) with
        | none => rw [h0, h1, h2] at h; cases h
        | some r =>
          rw [h0, h1, h2] at h
          have : cs = [p, q, r] := by simpa using h.symm
          rw [this] at hc
          cases hc
          exact ⟨rfl, rfl, rfl⟩
  · cases h
/-- An item that came in. -/
theorem open_item {r : Reach} {b0 : Nat} {v : Value} {d : DataW H} {p : List MemPlace}
    (hv : Value.okWide Try.prog w r b0 30 v) (h : DataW.Trod enc Try.prog w base spare held 30 v d p) : ∃ (u t : Int) (m : Bool), v = .agg #[.int .i64 u, .int .u8 t, .bool m] := by
  unfold Value.okWide at hv
  rw [Try.underlying30] at hv
  obtain ⟨cs, rfl, hsz, _⟩ := hv
  obtain ⟨fuel, hf⟩ := h
  obtain ⟨i, hi⟩ := trod_item hf
  have hcs : (Value.agg cs).cells = cs := rfl
  rw [hcs] at hi
  refine ⟨i.u, i.t, i.m, ?_⟩
  obtain ⟨l⟩ := cs
  simp only at hi
  rw [hi]
/-- A slice of items that came in. -/
theorem open_items {r : Reach} {b0 : Nat} {v : Value} {d : DataW H} {p : List MemPlace}
    (hv : Value.okWide Try.prog w r b0 31 v) (h : DataW.Trod enc Try.prog w base spare held 31 v d p) :
    ∃ (l : List It) (A : Option Addr) (cap : Nat), v = .slice A l.length cap ∧ RdI w A l ∧ l.length ≤ cap ∧ l.length ≤ maxLen := by
  obtain ⟨a, len, cap, rfl⟩ := okWide_slice Try.underlying31 hv
  obtain ⟨fuel, hf⟩ := h
  have h3 : Try.prog.cellsOf 30 = 3 := by kernel_rfl
  rcases DataW.trod_slice Try.underlying31 hf with ⟨h0, _⟩ | ⟨ad, len', cap', elems, rest, n, _, hcs, _, hb, hl, hm, hlen, hel, _, _⟩
  · have h1 : [Value.slice a len cap] = [.slice none 0 0] := by simpa [Value.cells] using h0
    cases h1
    exact ⟨[], none, 0, rfl, .inl rfl, by simp, by simp⟩
  · have h1 : [Value.slice a len cap] = [.slice (some ad) len' cap'] := by simpa [Value.cells] using hcs
    cases h1
    have key : ∀ k, k ≤ len → ∃ l : List It, l.length = k ∧ ∀ (j : Nat) i, l[j]? = some i → w.cell? ((ad.add (j * 3)).add 0) = some (.int .i64 i.u) ∧ w.cell? ((ad.add (j * 3)).add 1) = some (.int .u8 i.t) ∧ w.cell? ((ad.add (j * 3)).add 2) = some (.bool i.m) := by
      intro k
      induction k with
      | zero => exact fun _ => ⟨[], rfl, fun j r hr => by cases hr⟩
      | succ k ih =>
        intro hk
        obtain ⟨l, q1, q2⟩ := ih (by omega)
        have e3 := hel k (by omega)
        have hk2 : k < elems.length := by omega
        rw [List.getElem?_eq_getElem hk2, h3] at e3
        obtain ⟨cs1, e4, e5⟩ := Option.bind_eq_some_iff.1 e3
        obtain ⟨i, hi⟩ := trod_item e5
        refine ⟨l ++ [i], by simp [q1], fun j u hu => ?_⟩
        rcases Nat.lt_or_ge j k with hj | hj
        · rw [List.getElem?_append_left (by omega)] at hu
          exact q2 j u hu
        · rw [List.getElem?_append_right (by omega)] at hu
          have hjk : j = k := by
            have := (List.getElem?_eq_some_iff.1 hu).1
            simp at this
            omega
          subst hjk
          rw [q1, Nat.sub_self] at hu
          cases hu
          exact cells3 e4 hi
    obtain ⟨l, q1, q2⟩ := key len (Nat.le_refl _)
    refine ⟨l, some ad, cap, by rw [q1], ?_, by omega, by omega⟩
    by_cases h0 : l = []
    · exact .inl h0
    · have h00 : 0 < l.length := List.length_pos_iff.2 h0
      have hsp := spotless (q2 0 _ (List.getElem?_eq_getElem h00)).1
      have hsp2 : ad = ⟨ad.block, ad.off, none⟩ := by
        obtain ⟨b, o, s⟩ := ad
        simp [Addr.add] at hsp
        simp [hsp]
      refine .inr ⟨ad.block, ad.off, congrArg some hsp2, fun j u t m hj => ?_⟩
      have := q2 j _ hj
      rw [hsp2, add_plain, add_plain, add_plain, add_plain] at this
      exact this
end
end Go.Proofs.Ythlobpdcolgcoaa
