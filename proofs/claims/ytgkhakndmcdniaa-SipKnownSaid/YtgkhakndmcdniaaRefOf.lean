/- Chapter 4: the contract of the reference's Of. -/
import Derived.Test.YtgkhakndmcdniaaKeyOf
namespace Go.Proofs.Ytgkhakndmcdniaa
open Go.RowKit
set_option linter.unusedVariables false
set_option linter.unusedSimpArgs false

set_option maxRecDepth 100000 in
set_option maxHeartbeats 4000000 in
theorem rkeyof_calls (s : ByteArray) (hs : s.size ≤ 1000000) (w : World) :
    Calls Try.prog 15 #[.string s] w fun e w' => e = .returned (.tuple #[.agg (nums8 ((keyOf (bytesOf s)).getD zero16)).toArray, .bool (keyOf (bytesOf s)).isSome]) ∧ Ext w w' := by
  go_enter Try.func15, Try.ntmps15
  go_wp2_with fail
  have hn2 : Blk (((w.alloc (.cells (nums8 zero16).toArray 22))).alloc (.cells (nums8 zero16).toArray 22)) (w.heap.size + 1) (nums8 zero16) 22 := by
    have h := Blk.new (w.alloc (.cells (nums8 zero16).toArray 22)) (nums8 zero16) 22
    rw [World.size_alloc] at h
    exact h
  refine wp_gen (fun W => Blk W w.heap.size (nums8 zero16) 22 ∧ Blk W (w.heap.size + 1) (nums8 zero16) 22 ∧ Ext w W) ⟨((Blk.new w (nums8 zero16) _).alloc _).congr rfl, hn2.congr rfl, ((Ext.refl _).alloc _).alloc _⟩ ?_
  clear hn2
  rintro W0 ⟨hr0, hb0, hx0⟩
  go_loopw [0] (fun i W => ∃ t : ByteArray, t.size ≤ s.size ∧ i = .string t ∧ cutW (bytesOf t) = cutW (bytesOf s) ∧ Blk W w.heap.size (nums8 zero16) 22 ∧ Blk W (w.heap.size + 1) (nums8 zero16) 22 ∧ Ext w W) (fun i _ => (match i with | .string t => t.size | _ => 0))
  case atStart => exact ⟨s, by omega, rfl, rfl, hr0, hb0, hx0⟩
  case round =>
    clear hr0 hb0 hx0
    obtain ⟨t, ht, rfl, hc, hr, hb, hx⟩ := hrel
    by_cases h32 : 32 < t.size
    · have h32i : (32 : Int) < t.size := by omega
      obtain ⟨c, hcv⟩ : ∃ c, (((t[t.size - 1]'(by omega)).toNat : Nat) : Int) = c := ⟨_, rfl⟩
      have hcb : bytesOf t = bytesOf (t.extract 0 (t.size - 1)) ++ [c] := by rw [bytesOf_last t (by omega), hcv]
      by_cases w1 : c = 9
      · subst w1
        have hw : isW 9 = true := rfl
        go_wp2_with fail
        go_roundw
        case rel => exact ⟨t.extract 0 (t.size - 1), by simp; omega, by go_num, by rw [← hc, hcb, cutW_snoc, if_pos ⟨by rw [bytesOf_length]; simp; omega, hw⟩], hr, hb, hx⟩
        case measure => simp; omega
      by_cases w2 : c = 10
      · subst w2
        have hw : isW 10 = true := rfl
        go_wp2_with fail
        go_roundw
        case rel => exact ⟨t.extract 0 (t.size - 1), by simp; omega, by go_num, by rw [← hc, hcb, cutW_snoc, if_pos ⟨by rw [bytesOf_length]; simp; omega, hw⟩], hr, hb, hx⟩
        case measure => simp; omega
      by_cases w3 : c = 13
      · subst w3
        have hw : isW 13 = true := rfl
        go_wp2_with fail
        go_roundw
        case rel => exact ⟨t.extract 0 (t.size - 1), by simp; omega, by go_num, by rw [← hc, hcb, cutW_snoc, if_pos ⟨by rw [bytesOf_length]; simp; omega, hw⟩], hr, hb, hx⟩
        case measure => simp; omega
      by_cases w4 : c = 32
      · subst w4
        have hw : isW 32 = true := rfl
        go_wp2_with fail
        go_roundw
        case rel => exact ⟨t.extract 0 (t.size - 1), by simp; omega, by go_num, by rw [← hc, hcb, cutW_snoc, if_pos ⟨by rw [bytesOf_length]; simp; omega, hw⟩], hr, hb, hx⟩
        case measure => simp; omega
      · have hw : isW c = false := by simp [isW, w1, w2, w3, w4]
        have h32n : (t.size : Int) ≠ 32 := by omega
        have b1 : (c == 9) = false := by simp [w1]
        have b2 : (c == 10) = false := by simp [w2]
        have b3 : (c == 13) = false := by simp [w3]
        have b4 : (c == 32) = false := by simp [w4]
        go_wp2_with (first | (refine wpList_load_blk rfl 22 (.tmp 4) rfl (w.heap.size + 1) rfl (cs := nums8 zero16) row16 hb ?_) | (refine wpList_store_blk rfl 22 (.tmp 2) (.tmp 50) rfl w.heap.size rfl (nums8 zero16) rfl hr row16 rfl rfl ?_; intro WZ hbZ hoZ))
        have hk : keyOf (bytesOf s) = none := by
          unfold keyOf
          have hcs2 : cutW (bytesOf t) = bytesOf t := by
            rw [hcb, cutW_snoc, if_neg (show ¬ (_ ∧ isW c = true) from fun h => by rw [hw] at h; exact absurd h.2 (by decide))]
          rw [← hc, hcs2, if_neg (show ¬ (bytesOf t).length = 32 by rw [bytesOf_length]; omega)]
        refine bodyPost_ret (results_cell_tmp Try.results15 _ _ rfl (T' := 22) (cs := nums8 zero16) (v := .bool false) row16 hbZ rfl) rfl ⟨(by rw [hk]; rfl), But.toNew hx hoZ (Nat.le_refl _)⟩
    · have h32i : ¬ (32 : Int) < t.size := by omega
      have hcs : cutW (bytesOf s) = bytesOf t := by rw [← hc, cutW_short _ (by rw [bytesOf_length]; omega)]
      by_cases h32e : t.size = 32
      · have h32j : (t.size : Int) = 32 := by omega
        have hk : keyOf (bytesOf s) = digs (bytesOf t) 0 zero16 := by
          unfold keyOf
          rw [hcs, if_pos (by rw [bytesOf_length]; exact h32e)]
        clear ht hc h32 hcs hs
        go_wp2_with fail
        go_loopw [5] (fun i W => ∃ (k : Nat) (K : List Int), k ≤ 32 ∧ i = .int .i64 k ∧ K.length = 16 ∧ Bytes K ∧ keyOf (bytesOf s) = digs ((bytesOf t).drop k) k K ∧ Blk W w.heap.size (nums8 zero16) 22 ∧ Blk W (w.heap.size + 1) (nums8 K) 22 ∧ Ext w W) (fun i _ => 32 - (intOf i).toNat)
        case atStart => exact ⟨0, zero16, by omega, rfl, rfl, zero16_bytes, hk, hr, hb, hx⟩
        case round =>
          clear hb hx hk hr
          obtain ⟨k, K, hk32, rfl, hKl, hKb, hK, hR, hb, hx⟩ := hrel
          by_cases hlt : k < 32
          · obtain ⟨c, hcv⟩ : ∃ c, (((t[k]'(by omega)).toNat : Nat) : Int) = c := ⟨_, rfl⟩
            have hca : (bytesOf t)[k]? = some c := by rw [← hcv]; exact bytesOf_at t k (by omega)
            have hcB : Byte c := (bytesOf_bytes t).at_ hca
            have hdr := dig_range c hcB
            obtain ⟨r, hr⟩ : ∃ r, k / 2 = r := ⟨_, rfl⟩
            have hr16 : r < 16 := by omega
            have hrq : (k : Int).tdiv 2 = (r : Int) := by rw [← hr]; rfl
            obtain ⟨x, hx1⟩ : ∃ x, K[r]? = some x := ⟨K[r], by simp⟩
            have hxB := hKb.at_ hx1
            have c0 := hb.cell r (nums8_get hx1)
            have f0 := hb.frozen r
            have Hx := Lib.hid hx1
            have HK := Lib.hid hK
            have HKb := Lib.hid hKb
            have Hca := Lib.hid hca
            have HcB := Lib.hid hcB
            have Hr := Lib.hid hr
            have HKl := Lib.hid hKl
            obtain ⟨xB0, xB1⟩ := hxB
            clear hx1 hK hKb hca hcB hr hKl
            by_cases hd : dig c < 0
            · go_wp2_with fail
              refine (digit_calls c HcB.out wr).mono ?_
              rintro e w1 ⟨rfl, hx1⟩
              replace hb := hb.ext hx1
              replace hR := hR.ext hx1
              replace hx := hx.trans hx1
              clear hx1 c0 f0
              go_wp2_with (first | (refine wpList_load_blk rfl 22 (.tmp 4) rfl (w.heap.size + 1) rfl (cs := nums8 zero16) row16 hb ?_) | (refine wpList_store_blk rfl 22 (.tmp 2) (.tmp 61) rfl w.heap.size rfl (nums8 zero16) rfl hR row16 rfl rfl ?_; intro WZ hbZ hoZ))
              have hk : keyOf (bytesOf s) = none := by rw [HK.out]; exact digs_stop _ _ _ _ Hca.out hd
              refine bodyPost_ret (results_cell_tmp Try.results15 _ _ rfl (T' := 22) (cs := nums8 zero16) (v := .bool false) row16 hbZ rfl) rfl ⟨(by rw [hk]; rfl), But.toNew hx hoZ (Nat.le_refl _)⟩
            · have hd0 : 0 ≤ dig c := by omega
              have hd15 : dig c ≤ 15 := hdr.2
              go_wp2_with fail
              refine (digit_calls c HcB.out wr).mono ?_
              rintro e w1 ⟨rfl, hx1⟩
              replace hb := hb.ext hx1
              replace hR := hR.ext hx1
              replace hx := hx.trans hx1
              replace c0 := hx1.cell c0
              have f0 := hb.frozen r
              clear hx1
              go_wp2_with fail
              go_roundw
              case rel =>
                refine ⟨k + 1, putDig K k (dig c), by omega, by go_num, by rw [putDig_length]; exact HKl.out, putDig_bytes _ _ _ HKb.out hd0 hd15, ?_, hR.other (by simp) _, (hb.set r _).congr ?_, hx.setCell (Nat.le_succ _) _⟩
                · rw [HK.out]
                  exact digs_step _ _ _ _ Hca.out hd0
                · have h1 : K.getD r 0 = x := by rw [List.getD_eq_getElem?_getD, Hx.out]; rfl
                  rw [nums8_set]
                  unfold putDig
                  rw [Hr.out, h1]
              case measure => simp [intOf]; omega
          · obtain rfl : k = 32 := by omega
            have hT : isRowT Try.prog 22 (nums8 K).length := by rw [nums8_length, hKl]; exact row16
            have HT := Lib.hid hT
            clear hT
            go_wp2_with (first | (refine wpList_load_blk rfl 22 (.tmp 4) rfl (w.heap.size + 1) rfl HT.out hb ?_) | (refine wpList_store_blk rfl 22 (.tmp 2) (.tmp 73) rfl w.heap.size rfl (nums8 K) rfl hR HT.out (by rw [nums8_length K, hKl]; rfl) (nums8_one K) ?_; intro WZ hbZ hoZ))
            have hk : keyOf (bytesOf s) = some K := by
              rw [hK, List.drop_eq_nil_of_le (by rw [bytesOf_length]; omega)]
              rfl
            refine bodyPost_ret (results_cell_tmp Try.results15 _ _ rfl (T' := 22) (cs := nums8 K) (v := .bool true) HT.out hbZ rfl) rfl ⟨(by rw [hk]; rfl), But.toNew hx hoZ (Nat.le_refl _)⟩
      · have h32j : (t.size : Int) ≠ 32 := by omega
        have h32k : ((t.size : Int) != 32) = true := by simp [h32j]
        have h32l : decide ((32 : Int) < t.size) = false := by simp; omega
        go_wp2_with (first | (refine wpList_load_blk rfl 22 (.tmp 4) rfl (w.heap.size + 1) rfl (cs := nums8 zero16) row16 hb ?_) | (refine wpList_store_blk rfl 22 (.tmp 2) (.tmp 50) rfl w.heap.size rfl (nums8 zero16) rfl hr row16 rfl rfl ?_; intro WZ hbZ hoZ))
        have hk : keyOf (bytesOf s) = none := by
          unfold keyOf
          rw [hcs, if_neg (by rw [bytesOf_length]; exact h32e)]
        refine bodyPost_ret (results_cell_tmp Try.results15 _ _ rfl (T' := 22) (cs := nums8 zero16) (v := .bool false) row16 hbZ rfl) rfl ⟨(by rw [hk]; rfl), But.toNew hx hoZ (Nat.le_refl _)⟩
end Go.Proofs.Ytgkhakndmcdniaa
