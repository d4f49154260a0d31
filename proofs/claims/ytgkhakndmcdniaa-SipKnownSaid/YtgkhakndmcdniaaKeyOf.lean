/- Chapter 4: the contract of sip.Of. -/
import Derived.Test.YtgkhakndmcdniaaKey
import Derived.Test.YtgkhakndmcdniaaRowLaw
namespace Go.Proofs.Ytgkhakndmcdniaa
open Go.RowKit
set_option linter.unusedVariables false
set_option linter.unusedSimpArgs false

theorem cutW_snoc (l : List Int) (c : Int) : cutW (l ++ [c]) = if 32 ≤ l.length ∧ isW c = true then cutW l else l ++ [c] := by
  unfold cutW
  rw [List.reverse_append]
  simp only [List.reverse_cons, List.reverse_nil, List.nil_append, List.cons_append, cutR, List.length_reverse]
  split
  · rfl
  · simp
theorem cutR_short : ∀ l : List Int, l.length ≤ 32 → cutR l = l
  | [], _ => rfl
  | c :: r, h => by
    simp only [List.length_cons] at h
    rw [cutR, if_neg (by omega)]
theorem cutW_short (l : List Int) (h : l.length ≤ 32) : cutW l = l := by
  unfold cutW
  rw [cutR_short _ (by simpa using h), List.reverse_reverse]

theorem bytesOf_last (t : ByteArray) (h : 0 < t.size) : bytesOf t = bytesOf (t.extract 0 (t.size - 1)) ++ [(((t[t.size - 1]'(by omega)).toNat : Nat) : Int)] := by
  have hl : t.data.toList.length = t.size := by simp
  have h1 : (t.extract 0 (t.size - 1)).data.toList = t.data.toList.take (t.size - 1) := by
    have : (t.extract 0 (t.size - 1)).data = t.data.extract 0 (t.size - 1) := ByteArray.data_extract
    rw [this, Array.toList_extract]
    simp [List.extract]
  have h2 : t.data.toList = t.data.toList.take (t.size - 1) ++ [t[t.size - 1]'(by omega)] := by
    conv => lhs; rw [← List.take_append_drop (t.size - 1) t.data.toList]
    congr 1
    rw [List.drop_eq_getElem_cons (by omega), List.drop_eq_nil_of_le (by omega)]
    rfl
  unfold bytesOf
  rw [h1]
  conv => lhs; rw [h2]
  rw [List.map_append]
  rfl
theorem bytesOf_at (t : ByteArray) (i : Nat) (h : i < t.size) : (bytesOf t)[i]? = some (((t[i]'h).toNat : Nat) : Int) := by
  unfold bytesOf
  rw [List.getElem?_map, List.getElem?_eq_getElem (by simpa using h)]
  rfl

theorem or8 (x d : Int) (h : Byte x) (h0 : 0 ≤ d) (h1 : d ≤ 15) : bits .or .u8 (x * 16 % 256) d = x * 16 % 256 + d := by
  obtain ⟨x0, x1⟩ := h
  have k : ∀ n : Fin 256, ∀ m : Fin 16, bits .or .u8 ((n.1 : Int) * 16 % 256) (m.1 : Int) = (n.1 : Int) * 16 % 256 + (m.1 : Int) := by decide +kernel
  have := k ⟨x.toNat, by omega⟩ ⟨d.toNat, by omega⟩
  simp only [Int.toNat_of_nonneg x0, Int.toNat_of_nonneg h0] at this
  exact this

theorem rowKey : isRowT Try.prog 23 16 := ⟨by kernel_rfl, by kernel_rfl⟩
theorem row16 : isRowT Try.prog 22 16 := ⟨by kernel_rfl, by kernel_rfl⟩
theorem nums8_length (l : List Int) : (nums8 l).length = l.length := by simp [nums8]
theorem nums8_one (l : List Int) : (nums8 l).all (·.oneCell') = true := by simp [nums8]; intro x _; rfl
theorem digs_step (l : List Int) (i : Nat) (K : List Int) (c : Int) (h : l[i]? = some c) (hd : 0 ≤ dig c) : digs (l.drop i) i K = digs (l.drop (i + 1)) (i + 1) (putDig K i (dig c)) := by
  have hi := (List.getElem?_eq_some_iff.1 h).1
  have hc := (List.getElem?_eq_some_iff.1 h).2
  rw [List.drop_eq_getElem_cons hi, hc]
  show (if dig c < 0 then none else digs (l.drop (i + 1)) (i + 1) (putDig K i (dig c))) = _
  rw [if_neg (by omega)]
theorem digs_stop (l : List Int) (i : Nat) (K : List Int) (c : Int) (h : l[i]? = some c) (hd : dig c < 0) : digs (l.drop i) i K = none := by
  have hi := (List.getElem?_eq_some_iff.1 h).1
  have hc := (List.getElem?_eq_some_iff.1 h).2
  rw [List.drop_eq_getElem_cons hi, hc]
  show (if dig c < 0 then none else digs (l.drop (i + 1)) (i + 1) (putDig K i (dig c))) = _
  rw [if_pos hd]
theorem putDig_length (K : List Int) (i : Nat) (d : Int) : (putDig K i d).length = K.length := by simp [putDig]
theorem putDig_bytes (K : List Int) (i : Nat) (d : Int) (h : Bytes K) (h0 : 0 ≤ d) (h1 : d ≤ 15) : Bytes (putDig K i d) := fun c hc => by
  rcases List.mem_or_eq_of_mem_set hc with hc | rfl
  · exact h c hc
  · exact ⟨by omega, by omega⟩
theorem zero16_bytes : Bytes zero16 := fun c hc => by
  simp only [zero16, List.mem_cons, List.not_mem_nil, or_false] at hc
  rcases hc with rfl | rfl | rfl | rfl | rfl | rfl | rfl | rfl | rfl | rfl | rfl | rfl | rfl | rfl | rfl | rfl <;> exact ⟨by omega, by omega⟩

set_option maxRecDepth 100000 in
set_option maxHeartbeats 2000000 in
theorem keyof_calls (s : ByteArray) (hs : s.size ≤ 1000000) (w : World) :
    Calls Try.prog 14 #[.string s] w fun e w' => e = .returned (.tuple #[.agg (nums8 ((keyOf (bytesOf s)).getD zero16)).toArray, .bool (keyOf (bytesOf s)).isSome]) ∧ Ext w w' := by
  go_enter Try.func14, Try.ntmps14
  go_wp2_with fail
  refine wp_gen (fun W => Blk W w.heap.size (nums8 zero16) 23 ∧ Ext w W) ⟨(Blk.new w (nums8 zero16) _).congr rfl, (Ext.refl _).alloc _⟩ ?_
  rintro W0 ⟨hb0, hx0⟩
  go_loopw [0] (fun i W => ∃ t : ByteArray, t.size ≤ s.size ∧ i = .string t ∧ cutW (bytesOf t) = cutW (bytesOf s) ∧ Blk W w.heap.size (nums8 zero16) 23 ∧ Ext w W) (fun i _ => (match i with | .string t => t.size | _ => 0))
  case atStart => exact ⟨s, by omega, rfl, rfl, hb0, hx0⟩
  case round =>
    clear hb0 hx0
    obtain ⟨t, ht, rfl, hc, hb, hx⟩ := hrel
    by_cases h32 : 32 < t.size
    · have h32i : (32 : Int) < t.size := by omega
      obtain ⟨c, hcv⟩ : ∃ c, (((t[t.size - 1]'(by omega)).toNat : Nat) : Int) = c := ⟨_, rfl⟩
      have hcb : bytesOf t = bytesOf (t.extract 0 (t.size - 1)) ++ [c] := by rw [bytesOf_last t (by omega), hcv]
      by_cases hw : isW c = true
      · go_wp2_with fail
        refine (white_calls c wr).mono ?_
        rintro e w1 ⟨rfl, hx1⟩
        rw [hw]
        go_wp2_with fail
        go_roundw
        case rel =>
          refine ⟨t.extract 0 (t.size - 1), by simp; omega, by go_num, ?_, hb.ext hx1, hx.trans hx1⟩
          rw [← hc, hcb, cutW_snoc, if_pos ⟨by rw [bytesOf_length]; simp; omega, hw⟩]
        case measure => simp; omega
      · simp only [Bool.not_eq_true] at hw
        have h32n : (t.size : Int) ≠ 32 := by omega
        go_wp2_with fail
        refine (white_calls c wr).mono ?_
        rintro e w1 ⟨rfl, hx1⟩
        rw [hw]
        replace hb := hb.ext hx1
        replace hx := hx.trans hx1
        clear hx1
        go_wp2_with (refine wpList_store_blk rfl 23 (.tmp 2) (.tmp 29) rfl w.heap.size rfl (nums8 zero16) rfl hb rowKey rfl rfl ?_; intro WZ hbZ hoZ)
        have hk : keyOf (bytesOf s) = none := by
          unfold keyOf
          have hcs2 : cutW (bytesOf t) = bytesOf t := by
            rw [hcb, cutW_snoc, if_neg (show ¬ (_ ∧ isW c = true) from fun h => by rw [hw] at h; exact absurd h.2 (by decide))]
          rw [← hc, hcs2, if_neg (show ¬ (bytesOf t).length = 32 by rw [bytesOf_length]; omega)]
        refine bodyPost_ret (results_cell_tmp Try.results14 _ _ rfl (T' := 23) (cs := nums8 zero16) (v := .bool false) rowKey hbZ rfl) rfl ⟨(by rw [hk]; rfl), But.toNew hx hoZ (Nat.le_refl _)⟩
    · have h32i : ¬ (32 : Int) < t.size := by omega
      have hcs : cutW (bytesOf s) = bytesOf t := by rw [← hc, cutW_short _ (by rw [bytesOf_length]; omega)]
      by_cases h32e : t.size = 32
      · have h32j : (t.size : Int) = 32 := by omega
        have hk : keyOf (bytesOf s) = digs (bytesOf t) 0 zero16 := by
          unfold keyOf
          rw [hcs, if_pos (by rw [bytesOf_length]; exact h32e)]
        clear ht hc h32 hcs hs
        go_wp2_with fail
        go_loopw [31] (fun i W => ∃ (k : Nat) (K : List Int), k ≤ 32 ∧ i = .int .i64 k ∧ K.length = 16 ∧ Bytes K ∧ keyOf (bytesOf s) = digs ((bytesOf t).drop k) k K ∧ Blk W w.heap.size (nums8 K) 23 ∧ Ext w W) (fun i _ => 32 - (intOf i).toNat)
        case atStart => exact ⟨0, zero16, by omega, rfl, rfl, zero16_bytes, hk, hb, hx⟩
        case round =>
          clear hb hx hk
          obtain ⟨k, K, hk32, rfl, hKl, hKb, hK, hb, hx⟩ := hrel
          by_cases hlt : k < 32
          · obtain ⟨c, hcv⟩ : ∃ c, (((t[k]'(by omega)).toNat : Nat) : Int) = c := ⟨_, rfl⟩
            have hca : (bytesOf t)[k]? = some c := by rw [← hcv]; exact bytesOf_at t k (by omega)
            have hcB : Byte c := (bytesOf_bytes t).at_ hca
            have hdr := dig_range c hcB
            obtain ⟨r, hr⟩ : ∃ r, k / 2 = r := ⟨_, rfl⟩
            have hr16 : r < 16 := by omega
            have hrq : (k : Int).tdiv 2 = (r : Int) := by rw [← hr]; rfl
            obtain ⟨x, hx1⟩ : ∃ x, K[r]? = some x := ⟨K[r], by simp⟩
            have hxB := hKb.at_ hx1
            have c0 := hb.cell r (nums8_get hx1)
            have f0 := hb.frozen r
            have Hx := Lib.hid hx1
            have HK := Lib.hid hK
            have HKb := Lib.hid hKb
            have Hca := Lib.hid hca
            have HcB := Lib.hid hcB
            have HxB := Lib.hid hxB
            have Hr := Lib.hid hr
            have HKl := Lib.hid hKl
            clear hx1 hK hKb hca hcB hxB hr hKl
            by_cases hd : dig c < 0
            · go_wp2_with fail
              refine (value_calls c HcB.out wr).mono ?_
              rintro e w1 ⟨rfl, hx1⟩
              rw [if_pos hd, decide_eq_false (show ¬ 0 ≤ dig c by omega)]
              replace hb := hb.ext hx1
              replace hx := hx.trans hx1
              clear hx1 c0 f0
              go_wp2_with (refine wpList_store_blk rfl 23 (.tmp 2) (.tmp 43) rfl w.heap.size rfl (nums8 zero16) rfl hb rowKey (by rw [nums8_length, HKl.out]; rfl) rfl ?_; intro WZ hbZ hoZ)
              have hk : keyOf (bytesOf s) = none := by rw [HK.out]; exact digs_stop _ _ _ _ Hca.out hd
              refine bodyPost_ret (results_cell_tmp Try.results14 _ _ rfl (T' := 23) (cs := nums8 zero16) (v := .bool false) rowKey hbZ rfl) rfl ⟨(by rw [hk]; rfl), But.toNew hx hoZ (Nat.le_refl _)⟩
            · have hd0 : 0 ≤ dig c := by omega
              have hd15 : dig c ≤ 15 := hdr.2
              go_wp2_with fail
              refine (value_calls c HcB.out wr).mono ?_
              rintro e w1 ⟨rfl, hx1⟩
              rw [if_neg (show ¬ dig c < 0 by omega), decide_eq_true hd0]
              replace hb := hb.ext hx1
              replace hx := hx.trans hx1
              replace c0 := hx1.cell c0
              have f0 := hb.frozen r
              have hor : bits .or .u8 (x * 16 % 256) (dig c) = x * 16 % 256 + dig c := or8 x (dig c) HxB.out hd0 hd15
              clear hx1
              go_wp2_with fail
              go_roundw
              case rel =>
                refine ⟨k + 1, putDig K k (dig c), by omega, by go_num, by rw [putDig_length]; exact HKl.out, putDig_bytes _ _ _ HKb.out hd0 hd15, ?_, (hb.set r _).congr ?_, hx.setCell (Nat.le_refl _) _⟩
                · rw [HK.out]
                  exact digs_step _ _ _ _ Hca.out hd0
                · have h1 : K.getD r 0 = x := by rw [List.getD_eq_getElem?_getD, Hx.out]; rfl
                  rw [nums8_set]
                  unfold putDig
                  rw [Hr.out, h1]
              case measure => simp [intOf]; omega
          · obtain rfl : k = 32 := by omega
            have hT : isRowT Try.prog 23 (nums8 K).length := by rw [nums8_length, hKl]; exact rowKey
            have HT := Lib.hid hT
            clear hT
            go_wp2_with (first | (refine wpList_load_blk rfl 23 (.tmp 2) rfl w.heap.size rfl HT.out hb ?_) | (refine wpList_store_blk rfl 23 (.tmp 2) (.tmp 55) rfl w.heap.size rfl (nums8 K) rfl hb HT.out rfl (nums8_one K) ?_; intro WZ hbZ hoZ))
            have hk : keyOf (bytesOf s) = some K := by
              rw [hK, List.drop_eq_nil_of_le (by rw [bytesOf_length]; omega)]
              rfl
            refine bodyPost_ret (results_cell_tmp Try.results14 _ _ rfl (T' := 23) (cs := nums8 K) (v := .bool true) HT.out hbZ rfl) rfl ⟨(by rw [hk]; rfl), But.toNew hx hoZ (Nat.le_refl _)⟩
      · have h32j : ¬ (t.size : Int) = 32 := by omega
        go_wp2_with (refine wpList_store_blk rfl 23 (.tmp 2) (.tmp 29) rfl w.heap.size rfl (nums8 zero16) rfl hb rowKey rfl rfl ?_; intro WZ hbZ hoZ)
        have hk : keyOf (bytesOf s) = none := by
          unfold keyOf
          rw [hcs, if_neg (by rw [bytesOf_length]; exact h32e)]
        refine bodyPost_ret (results_cell_tmp Try.results14 _ _ rfl (T' := 23) (cs := nums8 zero16) (v := .bool false) rowKey hbZ rfl) rfl ⟨(by rw [hk]; rfl), But.toNew hx hoZ (Nat.le_refl _)⟩
end Go.Proofs.Ytgkhakndmcdniaa
