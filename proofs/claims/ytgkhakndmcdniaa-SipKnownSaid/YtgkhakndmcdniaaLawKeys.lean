/- Chapter 4: the law SipKeys at any arguments. -/
import Derived.Test.YtgkhakndmcdniaaLawSums
namespace Go.Proofs.Ytgkhakndmcdniaa
open Go.RowKit
set_option linter.unusedVariables false
set_option linter.unusedSimpArgs false

theorem digs_length : ∀ (l : List Int) (i : Nat) (K R : List Int), digs l i K = some R → R.length = K.length
  | [], _, K, R, h => by cases h; rfl
  | c :: l, i, K, R, h => by
    unfold digs at h
    split at h
    · cases h
    · rw [digs_length l _ _ R h, putDig_length]
theorem keyOf_length (l R : List Int) (h : keyOf l = some R) : R.length = 16 := by
  unfold keyOf at h
  split at h
  · rw [digs_length _ _ _ R h]; rfl
  · cases h
theorem keyOf_getD (l : List Int) : ((keyOf l).getD zero16).length = 16 := by
  cases h : keyOf l with
  | none => rfl
  | some R => exact keyOf_length l R h

set_option maxHeartbeats 1000000 in
theorem law_keys (s : ByteArray) (w : World) (hs : s.size ≤ 9223372036854775807) :
    Calls Try.prog 5 #[.string s] w fun e w' => e = .returned (.bool true) ∧ Ext w w' := by
  by_cases h3 : 100 < s.size
  · have h3i : (100 : Int) < s.size := by omega
    go_enter Try.func5, Try.ntmps5
    go_wp2_with fail
    refine (works_calls _).mono ?_
    rintro e W1 ⟨rfl, hx1⟩
    go_wp2_with fail
    go_ret
    exact ⟨rfl, hx1⟩
  · have h3i : ¬ (100 : Int) < s.size := by omega
    have D1 := Lib.hid fun W => keyof_calls s (by omega) W
    have D2 := Lib.hid fun W => rkeyof_calls s (by omega) W
    have hl := keyOf_getD (bytesOf s)
    obtain ⟨K, hK⟩ : ∃ K, (keyOf (bytesOf s)).getD zero16 = K := ⟨_, rfl⟩
    obtain ⟨b, hb⟩ : ∃ b, (keyOf (bytesOf s)).isSome = b := ⟨_, rfl⟩
    rw [hK, hb] at D1 D2
    rw [hK] at hl
    clear hK hb
    have he := fun W => eq16 K K hl hl W
    rw [decide_eq_true rfl] at he
    have hg : Try.prog.eqGuardType Try.prog.depth 22 = false := by kernel_rfl
    have hT : isRowT Try.prog 23 (nums8 K).length := by rw [nums8_length, hl]; exact rowKey
    have hT2 : isRowT Try.prog 22 (nums8 K).length := by rw [nums8_length, hl]; exact row16
    have HT := Lib.hid hT
    have HT2 := Lib.hid hT2
    have hlen : (nums8 zero16).length = (nums8 K).length := by rw [nums8_length K, hl]; rfl
    have HL := Lib.hid hlen
    clear hT hT2 hlen
    go_enter Try.func5, Try.ntmps5
    go_wp2_with fail
    refine (D1.out _).mono ?_
    rintro e W1 ⟨rfl, hx1⟩
    have hz1 : Blk (W1.alloc (.cells (nums8 zero16).toArray 23)) W1.heap.size (nums8 zero16) 23 := Blk.new _ _ _
    go_upto_region 4 with (refine wpList_store_blk rfl 23 (.tmp 3) (.tmp 14) rfl W1.heap.size rfl (nums8 K) rfl hz1 HT.out HL.out (nums8_one K) ?_; intro W2 hb2 ho2)
    have hx2 : Ext w W2 := hx1.trans (But.toNew ((Ext.refl _).alloc _) ho2 (Nat.le_refl _))
    obtain ⟨g, hg2⟩ : ∃ g, W1.heap.size = g := ⟨_, rfl⟩
    rw [hg2] at hb2 ⊢
    clear hg2 ho2 hz1 hx1
    go_wp2_with fail
    refine (D2.out _).mono ?_
    rintro e W3 ⟨rfl, hx3⟩
    have hb3 := hb2.ext hx3
    replace hx3 : Ext w W3 := hx2.trans hx3
    have hz3 : Blk (W3.alloc (.cells (nums8 zero16).toArray 22)) W3.heap.size (nums8 zero16) 22 := Blk.new _ _ _
    go_upto_region 5 with (refine wpList_store_blk rfl 22 (.tmp 5) (.tmp 19) rfl W3.heap.size rfl (nums8 K) rfl hz3 HT2.out HL.out (nums8_one K) ?_; intro W4 hb4 ho4)
    have x34 : Ext W3 W4 := But.toNew ((Ext.refl _).alloc _) ho4 (Nat.le_refl _)
    have hx4 : Ext w W4 := hx3.trans x34
    have hb5 := hb3.ext x34
    obtain ⟨g', hg3⟩ : ∃ g, W3.heap.size = g := ⟨_, rfl⟩
    rw [hg3] at hb4 ⊢
    clear hg3 ho4 hz3 hx3 hx2 hb2 hb3 x34
    go_wp2_with (first | (refine wpList_load_blk rfl 23 (.tmp 3) rfl g rfl HT.out hb5 ?_) | (refine wpList_load_blk rfl 22 (.tmp 5) rfl g' rfl HT2.out hb4 ?_))
    refine (works_calls _).mono ?_
    rintro e W5 ⟨rfl, hx5⟩
    go_wp2_with fail
    go_ret
    exact ⟨rfl, hx4.trans hx5⟩
end Go.Proofs.Ytgkhakndmcdniaa
