/- What the rows' proofs need: how a key that came in reads. -/
import Derived.Test.YtdhldigbaapboaaRows
import Derived.Test.YtdhldigbaapboaaLawDelay5
import Derived.ProofKit
import Derived.OpenShut
import Derived.ShutString
import Derived.ChangeOld
namespace Go.Proofs.Ytdhldigbaapboaa
open Go.ChangeShapes Go.WideShapes Go.ChangeAt Go.RowKit
set_option linter.unusedVariables false

/-- An array of bytes that came in. -/
theorem open_bytes_arr {H : Type} {enc : TypeId × Value → H} {P : Program} {w : World} {base : Nat} {spare : Nat → Bool} {held : Bool} {r : Reach} {b0 n T e : Nat} {v : Value} {d : DataW H} {p : List MemPlace}
    (ht : P.underlying T = some (.array n e)) (he : P.underlying e = some (.int .u8)) (hC : P.cellsOf T = n) (hc : P.cellsOf e = 1)
    (hv : Value.okWide P w r b0 T v) (h : DataW.Trod enc P w base spare held T v d p) : ∃ ks : List Int, v = .agg (nums8 ks).toArray ∧ ks.length = n ∧ Bytes ks := by
  unfold Value.okWide at hv
  rw [ht] at hv
  obtain ⟨cs, rfl, hsz, _⟩ := hv
  obtain ⟨fuel, hf⟩ := h
  obtain ⟨xs, m, _, _, hlen, hl, hel⟩ := DataW.trod_array ht hf
  have hcs : (Value.agg cs).cells = cs := rfl
  rw [hcs] at hlen hel
  rw [hC] at hlen
  rw [hc] at hel
  have hz : ∀ i, i < n → ∃ z, cs.toList[i]? = some (.int .u8 z) ∧ Byte z := fun i hi => by
    have h1 := hel i hi
    rw [List.getElem?_eq_getElem (by omega)] at h1
    obtain ⟨z, hz, _, hw⟩ := DataW.trod_int he h1
    have h2 : ((cs.toList.drop (i * 1)).take 1)[0]? = some (.int .u8 z) := by rw [hz]; rfl
    rw [List.getElem?_take, if_pos (by omega), List.getElem?_drop, Nat.mul_one, Nat.add_zero] at h2
    have hb := bounds_u8 hw
    exact ⟨z, h2, hb.1, hb.2⟩
  refine ⟨cs.toList.map fun v => match v with | .int _ z => z | _ => 0, ?_, by simpa using hlen, ?_⟩
  · congr 1
    have : nums8 (cs.toList.map fun v => match v with | .int _ z => z | _ => 0) = cs.toList := by
      refine List.ext_getElem? fun i => ?_
      rcases Nat.lt_or_ge i n with hi | hi
      · obtain ⟨z, hz, _⟩ := hz i hi
        simp only [nums8, List.map_map, List.getElem?_map, hz]
        rfl
      · rw [List.getElem?_eq_none (by simp [nums8]; simp at hlen; omega), List.getElem?_eq_none (by omega)]
    rw [this]
  · intro c hc
    obtain ⟨v, hv, rfl⟩ := List.mem_map.1 hc
    obtain ⟨i, hi⟩ := List.getElem?_of_mem hv
    have hin : i < n := by have := (List.getElem?_eq_some_iff.1 hi).1; omega
    obtain ⟨z, hz, hb⟩ := hz i hin
    rw [hz] at hi
    cases hi
    exact hb
end Go.Proofs.Ytdhldigbaapboaa
