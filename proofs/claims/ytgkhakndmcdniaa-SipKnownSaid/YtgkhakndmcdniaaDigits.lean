/- Chapter 4: a key's digits are that key (plain law); a row of bytes as a string. -/
import Derived.Test.YtgkhakndmcdniaaLawKeys
import Derived.Test.YtgkhakndmcdniaaOwn
import Derived.Test.YtgkhakndmcdniaaSlice
import Derived.Laws.BytesArg
namespace Go.Proofs.Ytgkhakndmcdniaa
open Go.RowKit
set_option linter.unusedVariables false
set_option linter.unusedSimpArgs false

theorem bytesOf_strOf (xs : List Int) (h : Bytes xs) : bytesOf (strOfNums xs) = xs := by
  unfold bytesOf
  rw [strOfNums_data, List.map_map]
  conv => rhs; rw [← List.map_id xs]
  refine List.map_congr_left fun c hc => ?_
  obtain ⟨h0, h1⟩ := h c hc
  simp
  omega
theorem Bytes.append {a b : List Int} (ha : Bytes a) (hb : Bytes b) : Bytes (a ++ b) := fun c hc => by
  rcases List.mem_append.1 hc with h | h
  · exact ha c h
  · exact hb c h
theorem strOf_append (a b : List Int) : strOfNums (a ++ b) = strOfNums a ++ strOfNums b := by
  apply ByteArray.ext
  simp [strOfNums]

/-- 'string(b)'. -/
theorem run_string_of {P : Program} {w : World} {src e dst : TypeId} (hs : P.underlying src = some (.slice e)) (he : P.underlying e = some (.int .u8)) (hd : P.underlying dst = some .string) {A : Option Addr} {xs : List Int} (h : RdV w A (nums8 xs)) (cap : Nat) :
    (convert src dst (.slice A xs.length cap)).run P w = .ok (.string (strOfNums xs)) w := by
  rcases h with h | ⟨b, o, rfl, h⟩
  · have : xs = [] := List.map_eq_nil_iff.1 h
    subst this
    rw [run_convert_bytes_string w src dst e _ _ _ hs he hd]
    cases A with
    | none => simp [Conv.bytesToString]; rfl
    | some a =>
      have h0 : (loadCells a 0).run P w = .ok #[] w := run_loadCells_list (P := P) w a [] (fun j v hv => by cases hv)
      have := run_bytesToString (P := P) w a 0 cap [] (by simpa using h0)
      rw [List.length_nil, this]
      rfl
  · refine run_convert_bytes_arg w src e hs he b o xs.length cap xs rfl (fun i hi => ?_) dst hd
    rw [h i (.int .u8 xs[i]) (by simp [nums8, hi])]
    rw [List.getD_eq_getElem?_getD, List.getElem?_eq_getElem hi]
    rfl

theorem wpList_string {P : Program} {w : World} {ops : Array Oper} {rest : List Oper} {o : Oper} {a : Act} {Q : Exit → Act → World → Prop} (hw : Region.wanted o (yielded ops a.tmps) = true) (src dst : TypeId) (x : Operand) (ho : o.op = .convert src dst x)
    {e : TypeId} (hs : P.underlying src = some (.slice e)) (he : P.underlying e = some (.int .u8)) (hd : P.underlying dst = some .string) (A : Option Addr) (n cap : Nat) (hx : a.eval x = .slice A n cap) (xs : List Int) (hn : xs.length = n) (h : RdV w A (nums8 xs))
    (hk : wpList P ops Q rest (a.put o.dst (.string (strOfNums xs))) w) : wpList P ops Q (o :: rest) a w := by
  unfold wpList
  rw [if_pos hw]
  refine .inl ?_
  have hrun := run_string_of hs he hd h cap
  rw [hn] at hrun
  unfold Oper.wp
  simp only [execOp, ho, hx]
  simp [hrun, Result.andThen]
  exact hk
theorem Blk.rd {W : World} {g : Nat} {xs : List Int} {rest : List Value} {T : TypeId} (h : Blk W g (nums8 xs ++ rest) T) (l : Nat) : RdV W (some ⟨g, l, none⟩) (nums8 (xs.drop l)) := by
  refine .inr ⟨g, l, rfl, fun j v hv => h.cell (l + j) ?_⟩
  have hj : l + j < xs.length := by
    have := (List.getElem?_eq_some_iff.1 hv).1
    simp [nums8] at this
    omega
  rw [List.getElem?_append_left (by simpa [nums8] using hj)]
  simpa [nums8] using hv

def nib (ks : List Int) (j : Nat) : Int := if j % 2 = 0 then ks.getD (j / 2) 0 / 16 else ks.getD (j / 2) 0 % 16
def half (ks : List Int) (i j : Nat) : Int := if j < i / 2 then ks.getD j 0 else if j = i / 2 ∧ i % 2 = 1 then ks.getD j 0 / 16 else 0
def halfs (ks : List Int) (i : Nat) : List Int := (List.range 16).map (half ks i)
theorem half_step (ks : List Int) (hkb : Bytes ks) (hk : ks.length = 16) (i : Nat) (hi : i < 32) : putDig (halfs ks i) i (nib ks i) = halfs ks (i + 1) := by
  refine List.ext_getElem? fun j => ?_
  unfold putDig halfs
  rw [List.getElem?_set]
  rcases Nat.lt_or_ge 15 j with hj | hj
  · rw [List.getElem?_eq_none (by simp; omega), List.getElem?_eq_none (by simp; omega)]
    split
    · split
      · rename_i h1 h2; simp at h2; omega
      · rfl
    · rfl
  have hr : (List.range 16)[j]? = some j := by rw [List.getElem?_range (by omega)]
  have hB : Byte (ks.getD j 0) := by
    rw [List.getD_eq_getElem?_getD, List.getElem?_eq_getElem (by omega)]
    exact hkb _ (by simp)
  obtain ⟨h0, h1⟩ := hB
  simp only [List.getElem?_map, hr, Option.map_some]
  by_cases e : i / 2 = j
  · subst e
    rw [if_pos rfl, if_pos (by simp; omega)]
    rw [List.getD_eq_getElem?_getD, List.getElem?_map, hr]
    simp only [Option.map_some, Option.getD_some]
    congr 1
    unfold half nib
    by_cases h2 : i % 2 = 0
    · have e1 : (i + 1) / 2 = i / 2 := by omega
      rw [if_pos h2, if_neg (by omega), if_neg (by omega), e1, if_neg (by omega), if_pos ⟨rfl, by omega⟩]
      omega
    · have e1 : (i + 1) / 2 = i / 2 + 1 := by omega
      rw [if_neg h2, if_neg (by omega), if_pos ⟨rfl, by omega⟩, e1, if_pos (by omega)]
      omega
  · rw [if_neg e]
    congr 1
    unfold half
    by_cases h2 : i % 2 = 0
    · have e1 : (i + 1) / 2 = i / 2 := by omega
      rw [e1]
      by_cases h3 : j < i / 2
      · rw [if_pos h3, if_pos h3]
      · rw [if_neg h3, if_neg h3, if_neg (by omega), if_neg (by omega)]
    · have e1 : (i + 1) / 2 = i / 2 + 1 := by omega
      rw [e1]
      by_cases h3 : j < i / 2
      · rw [if_pos h3, if_pos (by omega)]
      · rw [if_neg h3, if_neg (by omega), if_neg (by omega), if_neg (by omega)]
theorem halfs_all (ks : List Int) (hk : ks.length = 16) : halfs ks 32 = ks := by
  refine List.ext_getElem? fun j => ?_
  unfold halfs
  rcases Nat.lt_or_ge j 16 with hj | hj
  · have hr : (List.range 16)[j]? = some j := by rw [List.getElem?_range (by omega)]
    rw [List.getElem?_map, hr]
    simp only [Option.map_some, half, show (32 : Nat) / 2 = 16 from rfl, if_pos hj]
    rw [List.getD_eq_getElem?_getD, List.getElem?_eq_getElem (by omega)]
    rfl
  · rw [List.getElem?_eq_none (by simp; omega), List.getElem?_eq_none (by omega)]
theorem halfs_zero (ks : List Int) : halfs ks 0 = zero16 := by
  unfold halfs half
  simp [zero16]
  decide
theorem digs_all (ks : List Int) (hk : ks.length = 16) (hkb : Bytes ks) (D : List Int) (hD : D.length = 32) (hd : ∀ j, j < 32 → ∃ c, D[j]? = some c ∧ dig c = nib ks j) (hn : ∀ j, j < 32 → 0 ≤ nib ks j) : digs D 0 zero16 = some ks := by
  have h : ∀ m i, i + m = 32 → digs (D.drop i) i (halfs ks i) = some ks := by
    intro m
    induction m with
    | zero =>
      intro i hi
      have : i = 32 := by omega
      subst this
      rw [List.drop_eq_nil_of_le (by omega), halfs_all ks hk]
      rfl
    | succ m ih =>
      intro i hi
      obtain ⟨c, hc, hdc⟩ := hd i (by omega)
      rw [digs_step D i _ c hc (by rw [hdc]; exact hn i (by omega)), hdc, half_step ks hkb hk i (by omega)]
      exact ih (i + 1) (by omega)
  have := h 32 0 rfl
  rwa [halfs_zero] at this
theorem nib_range (ks : List Int) (hkb : Bytes ks) (hk : ks.length = 16) (j : Nat) (hj : j < 32) : 0 ≤ nib ks j ∧ nib ks j ≤ 15 := by
  have hB : Byte (ks.getD (j / 2) 0) := by
    rw [List.getD_eq_getElem?_getD, List.getElem?_eq_getElem (by omega)]
    exact hkb _ (by simp)
  obtain ⟨h0, h1⟩ := hB
  unfold nib
  split <;> omega
theorem keyOf_digits (ks : List Int) (hk : ks.length = 16) (hkb : Bytes ks) (D : List Int) (hD : D.length = 32) (hd : ∀ j, j < 32 → ∃ c, D[j]? = some c ∧ dig c = nib ks j) : keyOf D = some ks := by
  unfold keyOf
  rw [cutW_short D (by omega), if_pos hD]
  exact digs_all ks hk hkb D hD hd (fun j hj => (nib_range ks hkb hk j hj).1)
theorem keyOf_white (D : List Int) (hD : D.length = 32) : keyOf (D ++ [32, 9, 13, 10]) = keyOf D := by
  have h : cutW (D ++ [32, 9, 13, 10]) = cutW D := by
    rw [show D ++ [32, 9, 13, 10] = (((D ++ [32]) ++ [9]) ++ [13]) ++ [10] by simp]
    rw [cutW_snoc, if_pos ⟨by simp [hD], rfl⟩, cutW_snoc, if_pos ⟨by simp [hD], rfl⟩, cutW_snoc, if_pos ⟨by simp [hD], rfl⟩, cutW_snoc, if_pos ⟨by simp [hD], rfl⟩]
  unfold keyOf
  rw [h]
theorem keyOf_less (D : List Int) (hD : D.length < 32) : keyOf D = none := by
  unfold keyOf
  rw [cutW_short D (by omega), if_neg (by omega)]
end Go.Proofs.Ytgkhakndmcdniaa
