/- What the rows' proofs need: how keys and slices of bytes that came in read. -/
import Derived.Test.YthgepclmlhbbaaaRows
import Derived.Test.YthgepclmlhbbaaaRef04Sum
import Derived.ProofKit
import Derived.OpenShut
import Derived.ShutString
import Derived.ChangeOld
import Derived.ChangeSlices
namespace Go.Proofs.Ythgepclmlhbbaaa
open Go.ChangeShapes Go.WideShapes Go.ChangeAt Go.RowKit
set_option linter.unusedVariables false

/-- An array of bytes that came in. -/
theorem open_bytes_arr {H : Type} {enc : TypeId × Value → H} {P : Program} {w : World} {base : Nat} {spare : Nat → Bool} {held : Bool} {r : Reach} {b0 n T e : Nat} {v : Value} {d : DataW H} {p : List MemPlace}
    (ht : P.underlying T = some (.array n e)) (he : P.underlying e = some (.int .u8)) (hC : P.cellsOf T = n) (hc : P.cellsOf e = 1)
    (hv : Value.okWide P w r b0 T v) (h : DataW.Trod enc P w base spare held T v d p) : ∃ ks : List Int, v = .agg (nums8 ks).toArray ∧ ks.length = n ∧ Bytes ks := by
  unfold Value.okWide at hv
  rw [ht] at hv
  obtain ⟨cs, rfl, hsz, _⟩ := hv
  obtain ⟨fuel, hf⟩ := h
  obtain ⟨xs, m, _, _, hlen, hl, hel⟩ := DataW.trod_array ht hf
  have hcs : (Value.agg cs).cells = cs := rfl
  rw [hcs] at hlen hel
  rw [hC] at hlen
  rw [hc] at hel
  have hz : ∀ i, i < n → ∃ z, cs.toList[i]? = some (.int .u8 z) ∧ Byte z := fun i hi => by
    have h1 := hel i hi
    rw [List.getElem?_eq_getElem (by omega)] at h1
    obtain ⟨z, hz, _, hw⟩ := DataW.trod_int he h1
    have h2 : ((cs.toList.drop (i * 1)).take 1)[0]? = some (.int .u8 z) := by rw [hz]; rfl
    rw [List.getElem?_take, if_pos (by omega), List.getElem?_drop, Nat.mul_one, Nat.add_zero] at h2
    have hb := bounds_u8 hw
    exact ⟨z, h2, hb.1, hb.2⟩
  refine ⟨cs.toList.map fun v => match v with | .int _ z => z | _ => 0, ?_, by simpa using hlen, ?_⟩
  · congr 1
    have : nums8 (cs.toList.map fun v => match v with | .int _ z => z | _ => 0) = cs.toList := by
      refine List.ext_getElem? fun i => ?_
      rcases Nat.lt_or_ge i n with hi | hi
      · obtain ⟨z, hz, _⟩ := hz i hi
        simp only [nums8, List.map_map, List.getElem?_map, hz]
        rfl
      · rw [List.getElem?_eq_none (by simp [nums8]; simp at hlen; omega), List.getElem?_eq_none (by omega)]
    rw [this]
  · intro c hc
    obtain ⟨v, hv, rfl⟩ := List.mem_map.1 hc
    obtain ⟨i, hi⟩ := List.getElem?_of_mem hv
    have hin : i < n := by have := (List.getElem?_eq_some_iff.1 hi).1; omega
    obtain ⟨z, hz, hb⟩ := hz i hin
    rw [hz] at hi
    cases hi
    exact hb

/-- A slice of bytes that came in. -/
theorem open_bytes {H : Type} {enc : TypeId × Value → H} {P : Program} {w : World} {base : Nat} {spare : Nat → Bool} {held : Bool} {r : Reach} {b0 T e : Nat} {v : Value} {d : DataW H} {p : List MemPlace}
    (ht : P.underlying T = some (.slice e)) (he : P.underlying e = some (.int .u8)) (hc : P.cellsOf e = 1)
    (hv : Value.okWide P w r b0 T v) (h : DataW.Trod enc P w base spare held T v d p) : ∃ (s : List Int) (A : Option Addr) (cap : Nat), v = .slice A s.length cap ∧ Bytes s ∧ RdV w A (nums8 s) ∧ s.length ≤ cap := by
  obtain ⟨a, len, cap, rfl⟩ := okWide_slice ht hv
  obtain ⟨fuel, hf⟩ := h
  rcases Go.ChangeShapes.open_ints ht he hc hf with ⟨h1, _⟩ | ⟨ad, l, c, zs, h1, _, hl, hm, hz, _, hcell, hwz⟩
  · have h1 : [Value.slice a len cap] = [.slice none 0 0] := by simpa [Value.cells] using h1
    cases h1
    exact ⟨[], none, 0, rfl, (fun c hc => by cases hc), .inl rfl, Nat.le_refl _⟩
  · have h1 : [Value.slice a len cap] = [.slice (some ad) l c] := by simpa [Value.cells] using h1
    cases h1
    have hzl : len ≤ zs.length := by rw [hz]; split <;> omega
    refine ⟨zs.take len, some ad, cap, by simp [Nat.min_eq_left hzl], fun c hc => ?_, ?_, by simp [Nat.min_eq_left hzl]; exact hl⟩
    · have := bounds_u8 (hwz c (List.mem_of_mem_take hc))
      exact ⟨this.1, this.2⟩
    · by_cases h0 : len = 0
      · subst h0
        exact .inl (by simp [nums8])
      · have hsp : ad = ⟨ad.block, ad.off, none⟩ := by
          have h0 := hcell 0 (by omega)
          have : ad.add 0 = ad := by simp [Addr.add]
          rw [this] at h0
          unfold World.cell? at h0
          split at h0
          · split at h0
            · cases h0
            · rename_i hs
              cases ad with
              | mk b o s =>
                cases s with
                | none => rfl
                | some x => exact absurd rfl hs
          · cases h0
        refine .inr ⟨ad.block, ad.off, congrArg some hsp, fun j u hu => ?_⟩
        simp only [nums8, List.getElem?_map, List.getElem?_take, Option.map_eq_some_iff] at hu
        obtain ⟨x, hx, rfl⟩ := hu
        split at hx
        · rename_i hj
          have h2 := hcell j (by omega)
          have : ad.add j = ⟨ad.block, ad.off + j, none⟩ := by
            obtain ⟨b, o, s⟩ := ad
            cases hsp
            unfold Addr.add
            split
            · rename_i hj0
              rw [hj0]
              rfl
            · rfl
          rw [this] at h2
          rw [h2, List.getD_eq_getElem?_getD, hx]
          rfl
        · cases hx
end Go.Proofs.Ythgepclmlhbbaaa
