/- Chapter 4: the law SipDigits at any arguments. -/
import Derived.Test.YtgkhakndmcdniaaDigits
namespace Go.Proofs.Ytgkhakndmcdniaa
open Go.RowKit
set_option linter.unusedVariables false
set_option linter.unusedSimpArgs false

def smallS : ByteArray := ⟨#[48, 49, 50, 51, 52, 53, 54, 55, 56, 57, 97, 98, 99, 100, 101, 102]⟩
def capsS : ByteArray := ⟨#[48, 49, 50, 51, 52, 53, 54, 55, 56, 57, 65, 66, 67, 68, 69, 70]⟩
theorem small_dig : ∀ m : Fin 16, dig (((smallS[m.1]'(by have := m.2; show m.1 < 16; omega)).toNat : Nat) : Int) = (m.1 : Int) := by decide +kernel
theorem caps_dig : ∀ m : Fin 16, dig (((capsS[m.1]'(by have := m.2; show m.1 < 16; omega)).toNat : Nat) : Int) = (m.1 : Int) := by decide +kernel

set_option maxRecDepth 100000 in
set_option maxHeartbeats 4000000 in
theorem law_digits (ks : List Int) (hk : ks.length = 16) (hkb : Bytes ks) (great at_ by_ : Int) (hg0 : 0 ≤ great) (hg1 : great ≤ 4294967295) (ha0 : 0 ≤ at_) (ha1 : at_ ≤ 255) (hy0 : 0 ≤ by_) (hy1 : by_ ≤ 255) (w : World) :
    Calls Try.prog 6 #[.agg (nums8 ks).toArray, .int .u32 great, .int .u8 at_, .int .u8 by_] w fun e w' => e = .returned (.bool true) ∧ Ext w w' := by
  have hT : isRowT Try.prog 23 (nums8 ks).length := by rw [nums8_length, hk]; exact rowKey
  have HT := Lib.hid hT
  clear hT
  obtain ⟨i0, hi, hz0, hz1, hz2⟩ := info_parts info8p
  go_enter Try.func6, Try.ntmps6
  go_wp2_with fail
  refine wp_gen (fun W => Blk W w.heap.size (nums8 ks) 23 ∧ Ext w W) ⟨Blk.new _ _ _, (Ext.refl w).alloc _⟩ ?_
  rintro W0 ⟨hb, hx⟩
  go_loopw [11, 12] (fun v i W => ∃ (n : Nat) (D : List Int), n ≤ 32 ∧ i = .int .i64 n ∧ D.length = n ∧ Bytes D ∧ (∀ j, j < n → ∃ c, D[j]? = some c ∧ dig c = nib ks j) ∧ W.ownsRow (w.heap.size + 1) 5 1 v n (nums8 D) ∧ Blk W w.heap.size (nums8 ks) 23 ∧ Ext w W) (fun v i _ => 32 - (intOf i).toNat)
  case atStart => exact ⟨0, [], by omega, rfl, rfl, (fun c hc => by cases hc), (fun j hj => by omega), World.ownsRow_nil _ _ _ _, hb, hx⟩
  case round =>
    clear hb hx
    obtain ⟨n, D, hn, rfl, hDl, hDb, hDd, hown, hb, hx⟩ := hrel
    have HDb := Lib.hid hDb
    have HDd := Lib.hid hDd
    have HDl := Lib.hid hDl
    clear hDb hDd hDl
    by_cases hlt : n < 32
    · have hlti : (n : Int) < 32 := by omega
      obtain ⟨r, hr⟩ : ∃ r, n / 2 = r := ⟨_, rfl⟩
      have hr16 : r < 16 := by omega
      have hrq : (n : Int).tdiv 2 = (r : Int) := by rw [← hr]; rfl
      obtain ⟨x, hx1⟩ : ∃ x, ks[r]? = some x := ⟨ks[r], by simp⟩
      obtain ⟨u, hu⟩ : ∃ u : Nat, (u : Int) = x := ⟨x.toNat, by have := (hkb.at_ hx1).lo; omega⟩
      have hu255 : u ≤ 255 := by have := (hkb.at_ hx1).hi; omega
      subst hu
      have c0 := hb.cell r (nums8_get hx1)
      by_cases hp : n % 2 = 0
      · have hpi : (n : Int).tmod 2 = 0 := by rw [Int.tmod_eq_emod_of_nonneg (by omega)]; omega
        obtain ⟨m, hm⟩ : ∃ m, u / 16 = m := ⟨_, rfl⟩
        have hm16 : m < 16 := by omega
        have hd : (u : Int).tdiv 16 = (m : Int) := by rw [← hm]; rfl
        have hmm : (m : Int).tmod 16 = (m : Int) := by rw [Int.tmod_eq_emod_of_nonneg (by omega)]; omega
        have hnib : nib ks n = (m : Int) := by unfold nib; rw [if_pos hp, hr, List.getD_eq_getElem?_getD, hx1, ← hm]; rfl
        have Hnib := Lib.hid hnib
        clear hnib hm hr hp hx1
        obtain ⟨cs, hcs⟩ : ∃ c : Int, ((((⟨#[48, 49, 50, 51, 52, 53, 54, 55, 56, 57, 97, 98, 99, 100, 101, 102]⟩ : ByteArray)[m]'(show m < 16 from hm16)).toNat : Nat) : Int) = c := ⟨_, rfl⟩
        obtain ⟨cc, hcc⟩ : ∃ c : Int, ((((⟨#[48, 49, 50, 51, 52, 53, 54, 55, 56, 57, 65, 66, 67, 68, 69, 70]⟩ : ByteArray)[m]'(show m < 16 from hm16)).toNat : Nat) : Int) = c := ⟨_, rfl⟩
        have Dcs := Lib.hid (show dig cs = (m : Int) by rw [← hcs]; exact small_dig ⟨m, hm16⟩)
        have Dcc := Lib.hid (show dig cc = (m : Int) by rw [← hcc]; exact caps_dig ⟨m, hm16⟩)
        have Bcs := Lib.hid (show Byte cs by rw [← hcs]; exact ⟨by omega, by have := UInt8.toNat_lt ((⟨#[48, 49, 50, 51, 52, 53, 54, 55, 56, 57, 97, 98, 99, 100, 101, 102]⟩ : ByteArray)[m]'(show m < 16 from hm16)); omega⟩)
        have Bcc := Lib.hid (show Byte cc by rw [← hcc]; exact ⟨by omega, by have := UInt8.toNat_lt ((⟨#[48, 49, 50, 51, 52, 53, 54, 55, 56, 57, 65, 66, 67, 68, 69, 70]⟩ : ByteArray)[m]'(show m < 16 from hm16)); omega⟩)
        go_upto_region 12 with (fail)
        · have hcw : (wr.alloc (.cells #[.int .u8 (cc)] 5)).cell? ⟨wr.heap.size, 0, none⟩ = some (.int .u8 (cc)) := (Blk.new wr [.int .u8 (cc)] 5).cell 0 rfl
          have hm : n + 1 ≤ maxLen := by unfold maxLen; omega
          have HC := Lib.hid hcw
          have HM := Lib.hid hm
          have hwh : w.heap.size + 1 ≤ wr.heap.size := hb.lt
          clear hcw hm
          go_wp2_with (at_builtin; refine wpList_append1 rfl (.tmp 52) (.tmp 54) 24 rfl (w.heap.size + 1) 5 i0 (.int .u8 0) 1 Try.underlying24 hi hz0 hz1 hz2 rfl u11 n (nums8 D) rfl (hown.alloc _) wr.heap.size 1 (.int .u8 (cc)) rfl HC.out rfl HM.out (by omega) (by simp; omega) ?_; intro v2 W2 hown2 hg2)
          go_roundw
          case rel =>
            have hne : some w.heap.size ≠ u11.ownBlock := fun e => by have := Owns.notNil hown _ e.symm; omega
            refine ⟨n + 1, D ++ [cc], by omega, by go_num, by simp [HDl.out], HDb.out.append (fun c hc => by rw [List.mem_singleton.1 hc]; exact Bcc.out), fun j hj => ?_, by rw [nums8_append]; exact hown2, Grown.blk hg2 (hb.alloc _) hne, Grown.toExt (hx.alloc _) hg2 (fun j hj => by have := Owns.notNil hown j hj; omega)⟩
            by_cases e : j < n
            · obtain ⟨c, h1, h2⟩ := HDd.out j e
              exact ⟨c, by rw [List.getElem?_append_left (by rw [HDl.out]; exact e)]; exact h1, h2⟩
            · obtain rfl : j = n := by omega
              refine ⟨cc, ?_, by rw [Hnib.out]; exact Dcc.out⟩
              rw [List.getElem?_append_right (by rw [HDl.out]; omega), HDl.out, Nat.sub_self]
              rfl
          case measure => simp [intOf]; omega
        · have hcw : (wr.alloc (.cells #[.int .u8 (cs)] 5)).cell? ⟨wr.heap.size, 0, none⟩ = some (.int .u8 (cs)) := (Blk.new wr [.int .u8 (cs)] 5).cell 0 rfl
          have hm : n + 1 ≤ maxLen := by unfold maxLen; omega
          have HC := Lib.hid hcw
          have HM := Lib.hid hm
          have hwh : w.heap.size + 1 ≤ wr.heap.size := hb.lt
          clear hcw hm
          go_wp2_with (at_builtin; refine wpList_append1 rfl (.tmp 52) (.tmp 54) 24 rfl (w.heap.size + 1) 5 i0 (.int .u8 0) 1 Try.underlying24 hi hz0 hz1 hz2 rfl u11 n (nums8 D) rfl (hown.alloc _) wr.heap.size 1 (.int .u8 (cs)) rfl HC.out rfl HM.out (by omega) (by simp; omega) ?_; intro v2 W2 hown2 hg2)
          go_roundw
          case rel =>
            have hne : some w.heap.size ≠ u11.ownBlock := fun e => by have := Owns.notNil hown _ e.symm; omega
            refine ⟨n + 1, D ++ [cs], by omega, by go_num, by simp [HDl.out], HDb.out.append (fun c hc => by rw [List.mem_singleton.1 hc]; exact Bcs.out), fun j hj => ?_, by rw [nums8_append]; exact hown2, Grown.blk hg2 (hb.alloc _) hne, Grown.toExt (hx.alloc _) hg2 (fun j hj => by have := Owns.notNil hown j hj; omega)⟩
            by_cases e : j < n
            · obtain ⟨c, h1, h2⟩ := HDd.out j e
              exact ⟨c, by rw [List.getElem?_append_left (by rw [HDl.out]; exact e)]; exact h1, h2⟩
            · obtain rfl : j = n := by omega
              refine ⟨cs, ?_, by rw [Hnib.out]; exact Dcs.out⟩
              rw [List.getElem?_append_right (by rw [HDl.out]; omega), HDl.out, Nat.sub_self]
              rfl
          case measure => simp [intOf]; omega
      · have hpi : (n : Int).tmod 2 = 1 := by rw [Int.tmod_eq_emod_of_nonneg (by omega)]; omega
        obtain ⟨m, hm⟩ : ∃ m, u % 16 = m := ⟨_, rfl⟩
        have hm16 : m < 16 := by omega
        have hd : (u : Int).tmod 16 = (m : Int) := by rw [← hm]; rfl
        have hnib : nib ks n = (m : Int) := by unfold nib; rw [if_neg hp, hr, List.getD_eq_getElem?_getD, hx1, ← hm]; rfl
        have Hnib := Lib.hid hnib
        clear hnib hm hr hp hx1
        obtain ⟨cs, hcs⟩ : ∃ c : Int, ((((⟨#[48, 49, 50, 51, 52, 53, 54, 55, 56, 57, 97, 98, 99, 100, 101, 102]⟩ : ByteArray)[m]'(show m < 16 from hm16)).toNat : Nat) : Int) = c := ⟨_, rfl⟩
        obtain ⟨cc, hcc⟩ : ∃ c : Int, ((((⟨#[48, 49, 50, 51, 52, 53, 54, 55, 56, 57, 65, 66, 67, 68, 69, 70]⟩ : ByteArray)[m]'(show m < 16 from hm16)).toNat : Nat) : Int) = c := ⟨_, rfl⟩
        have Dcs := Lib.hid (show dig cs = (m : Int) by rw [← hcs]; exact small_dig ⟨m, hm16⟩)
        have Dcc := Lib.hid (show dig cc = (m : Int) by rw [← hcc]; exact caps_dig ⟨m, hm16⟩)
        have Bcs := Lib.hid (show Byte cs by rw [← hcs]; exact ⟨by omega, by have := UInt8.toNat_lt ((⟨#[48, 49, 50, 51, 52, 53, 54, 55, 56, 57, 97, 98, 99, 100, 101, 102]⟩ : ByteArray)[m]'(show m < 16 from hm16)); omega⟩)
        have Bcc := Lib.hid (show Byte cc by rw [← hcc]; exact ⟨by omega, by have := UInt8.toNat_lt ((⟨#[48, 49, 50, 51, 52, 53, 54, 55, 56, 57, 65, 66, 67, 68, 69, 70]⟩ : ByteArray)[m]'(show m < 16 from hm16)); omega⟩)
        go_upto_region 12 with (fail)
        · have hcw : (wr.alloc (.cells #[.int .u8 (cc)] 5)).cell? ⟨wr.heap.size, 0, none⟩ = some (.int .u8 (cc)) := (Blk.new wr [.int .u8 (cc)] 5).cell 0 rfl
          have hm : n + 1 ≤ maxLen := by unfold maxLen; omega
          have HC := Lib.hid hcw
          have HM := Lib.hid hm
          have hwh : w.heap.size + 1 ≤ wr.heap.size := hb.lt
          clear hcw hm
          go_wp2_with (at_builtin; refine wpList_append1 rfl (.tmp 52) (.tmp 54) 24 rfl (w.heap.size + 1) 5 i0 (.int .u8 0) 1 Try.underlying24 hi hz0 hz1 hz2 rfl u11 n (nums8 D) rfl (hown.alloc _) wr.heap.size 1 (.int .u8 (cc)) rfl HC.out rfl HM.out (by omega) (by simp; omega) ?_; intro v2 W2 hown2 hg2)
          go_roundw
          case rel =>
            have hne : some w.heap.size ≠ u11.ownBlock := fun e => by have := Owns.notNil hown _ e.symm; omega
            refine ⟨n + 1, D ++ [cc], by omega, by go_num, by simp [HDl.out], HDb.out.append (fun c hc => by rw [List.mem_singleton.1 hc]; exact Bcc.out), fun j hj => ?_, by rw [nums8_append]; exact hown2, Grown.blk hg2 (hb.alloc _) hne, Grown.toExt (hx.alloc _) hg2 (fun j hj => by have := Owns.notNil hown j hj; omega)⟩
            by_cases e : j < n
            · obtain ⟨c, h1, h2⟩ := HDd.out j e
              exact ⟨c, by rw [List.getElem?_append_left (by rw [HDl.out]; exact e)]; exact h1, h2⟩
            · obtain rfl : j = n := by omega
              refine ⟨cc, ?_, by rw [Hnib.out]; exact Dcc.out⟩
              rw [List.getElem?_append_right (by rw [HDl.out]; omega), HDl.out, Nat.sub_self]
              rfl
          case measure => simp [intOf]; omega
        · have hcw : (wr.alloc (.cells #[.int .u8 (cs)] 5)).cell? ⟨wr.heap.size, 0, none⟩ = some (.int .u8 (cs)) := (Blk.new wr [.int .u8 (cs)] 5).cell 0 rfl
          have hm : n + 1 ≤ maxLen := by unfold maxLen; omega
          have HC := Lib.hid hcw
          have HM := Lib.hid hm
          have hwh : w.heap.size + 1 ≤ wr.heap.size := hb.lt
          clear hcw hm
          go_wp2_with (at_builtin; refine wpList_append1 rfl (.tmp 52) (.tmp 54) 24 rfl (w.heap.size + 1) 5 i0 (.int .u8 0) 1 Try.underlying24 hi hz0 hz1 hz2 rfl u11 n (nums8 D) rfl (hown.alloc _) wr.heap.size 1 (.int .u8 (cs)) rfl HC.out rfl HM.out (by omega) (by simp; omega) ?_; intro v2 W2 hown2 hg2)
          go_roundw
          case rel =>
            have hne : some w.heap.size ≠ u11.ownBlock := fun e => by have := Owns.notNil hown _ e.symm; omega
            refine ⟨n + 1, D ++ [cs], by omega, by go_num, by simp [HDl.out], HDb.out.append (fun c hc => by rw [List.mem_singleton.1 hc]; exact Bcs.out), fun j hj => ?_, by rw [nums8_append]; exact hown2, Grown.blk hg2 (hb.alloc _) hne, Grown.toExt (hx.alloc _) hg2 (fun j hj => by have := Owns.notNil hown j hj; omega)⟩
            by_cases e : j < n
            · obtain ⟨c, h1, h2⟩ := HDd.out j e
              exact ⟨c, by rw [List.getElem?_append_left (by rw [HDl.out]; exact e)]; exact h1, h2⟩
            · obtain rfl : j = n := by omega
              refine ⟨cs, ?_, by rw [Hnib.out]; exact Dcs.out⟩
              rw [List.getElem?_append_right (by rw [HDl.out]; omega), HDl.out, Nat.sub_self]
              rfl
          case measure => simp [intOf]; omega
    · obtain rfl : n = 32 := by omega
      have hD32 := HDl.out
      have hK := keyOf_digits ks hk hkb D hD32 HDd.out
      have HDb' := HDb.out
      obtain ⟨g, cap, rst, rfl, hgw, hcap, _, hB⟩ := Owns.blk hown (by omega)
      have K1 := Lib.hid fun W => keyof_calls (strOfNums D) (by rw [strOfNums_size, hD32]; decide) W
      have K2 := Lib.hid fun W => keyof_calls (strOfNums D ++ ⟨#[32, 9, 13, 10]⟩) (by rw [ByteArray.size_append, strOfNums_size, hD32]; decide) W
      have K3 := Lib.hid fun W => keyof_calls (strOfNums (D.drop 1)) (by rw [strOfNums_size, List.length_drop, hD32]; decide) W
      have hs4 : strOfNums D ++ (⟨#[32, 9, 13, 10]⟩ : ByteArray) = strOfNums (D ++ [32, 9, 13, 10]) := by rw [strOf_append]; rfl
      have hb4 : Bytes (D ++ [32, 9, 13, 10]) := HDb'.append (fun c hc => by
        simp only [List.mem_cons, List.not_mem_nil, or_false] at hc
        rcases hc with rfl | rfl | rfl | rfl <;> exact ⟨by omega, by omega⟩)
      rw [bytesOf_strOf D HDb', hK] at K1
      rw [hs4, bytesOf_strOf _ hb4, keyOf_white D hD32, hK, ← hs4] at K2
      rw [bytesOf_strOf _ (fun c hc => HDb' c (List.mem_of_mem_drop hc)), keyOf_less _ (by rw [List.length_drop, hD32]; decide)] at K3
      simp only [Option.getD_some, Option.getD_none, Option.isSome_some, Option.isSome_none] at K1 K2 K3
      obtain ⟨q, hq⟩ : ∃ q : Nat, at_.tmod 32 = (q : Int) := ⟨(at_ % 32).toNat, by rw [Int.tmod_eq_emod_of_nonneg ha0]; omega⟩
      have hq32 : q < 32 := by rw [Int.tmod_eq_emod_of_nonneg ha0] at hq; omega
      have hD2l : (D.set q by_).length = 32 := by rw [List.length_set, hD32]
      have hD2b : Bytes (D.set q by_) := fun c hc => by
        rcases List.mem_or_eq_of_mem_set hc with hc | rfl
        · exact HDb' c hc
        · exact ⟨hy0, hy1⟩
      have K4 := Lib.hid fun W => keyof_calls (strOfNums (D.set q by_)) (by rw [strOfNums_size, hD2l]; decide) W
      have K5 := Lib.hid fun W => rkeyof_calls (strOfNums (D.set q by_)) (by rw [strOfNums_size, hD2l]; decide) W
      rw [bytesOf_strOf _ hD2b] at K4 K5
      have hl2 := keyOf_getD (D.set q by_)
      obtain ⟨K, hKK⟩ : ∃ K, (keyOf (D.set q by_)).getD zero16 = K := ⟨_, rfl⟩
      obtain ⟨z, hz⟩ : ∃ b, (keyOf (D.set q by_)).isSome = b := ⟨_, rfl⟩
      rw [hKK, hz] at K4 K5
      rw [hKK] at hl2
      clear hKK hz hs4 hb4 hK
      have HD32 := Lib.hid hD32
      have hst := fun W => Eq.trans (neKey ks ks hk hk W) (by rw [decide_eq_true (rfl : ks = ks)]; rfl : _ = Result.ok (Value.bool false) W)
      have hg : Try.prog.eqGuardType Try.prog.depth 23 = false := by kernel_rfl
      clear hown
      go_wp2_with (refine wpList_string rfl 24 9 (.tmp 57) rfl Try.underlying24 Try.underlying5 Try.underlying9 (some ⟨g, 0, none⟩) 32 cap rfl D HD32.out (hB.rd 0) ?_)
      refine (K1.out _).mono ?_
      rintro e W1 ⟨rfl, x1⟩
      have z1 : Blk (W1.alloc (.cells (nums8 zero16).toArray 23)) W1.heap.size (nums8 zero16) 23 := Blk.new _ _ _
      go_upto_region 14 with (refine wpList_store_blk rfl 23 (.tmp 15) (.tmp 60) rfl W1.heap.size rfl (nums8 ks) rfl z1 HT.out (by rw [nums8_length ks, hk]; rfl) (nums8_one ks) ?_; intro W2 b15 o2)
      have x2 : Ext wr W2 := x1.trans (But.toNew ((Ext.refl _).alloc _) o2 (Nat.le_refl _))
      replace hb := hb.ext x2
      replace hB := hB.ext x2
      replace hx := hx.trans x2
      obtain ⟨g15, hg15⟩ : ∃ g, W1.heap.size = g := ⟨_, rfl⟩
      rw [hg15] at b15 ⊢
      clear x1 x2 z1 o2 hg15 K1
      have hsz : (strOfNums D).size = 32 := by rw [strOfNums_size, hD32]
      have hsz4 : (⟨#[32, 9, 13, 10]⟩ : ByteArray).size = 4 := rfl
      go_wp2_with (refine wpList_string rfl 24 9 (.tmp 63) rfl Try.underlying24 Try.underlying5 Try.underlying9 (some ⟨g, 0, none⟩) 32 cap rfl D HD32.out (hB.rd 0) ?_)
      refine (K2.out _).mono ?_
      rintro e W3 ⟨rfl, x1⟩
      have z1 : Blk (W3.alloc (.cells (nums8 zero16).toArray 23)) W3.heap.size (nums8 zero16) 23 := Blk.new _ _ _
      go_upto_region 15 with (refine wpList_store_blk rfl 23 (.tmp 17) (.tmp 67) rfl W3.heap.size rfl (nums8 ks) rfl z1 HT.out (by rw [nums8_length ks, hk]; rfl) (nums8_one ks) ?_; intro W4 b17 o4)
      have x2 : Ext W2 W4 := x1.trans (But.toNew ((Ext.refl _).alloc _) o4 (Nat.le_refl _))
      replace hb := hb.ext x2
      replace hB := hB.ext x2
      replace hx := hx.trans x2
      replace b15 := b15.ext x2
      obtain ⟨g17, hg17⟩ : ∃ g, W3.heap.size = g := ⟨_, rfl⟩
      rw [hg17] at b17 ⊢
      clear x1 x2 z1 o4 hg17 K2
      have hc1 : ¬ cap = 1 := by omega
      have hD31 : (D.drop 1).length = 31 := by rw [List.length_drop, hD32]
      have HD31 := Lib.hid hD31
      clear hD31
      go_wp2_with (refine wpList_string rfl 24 9 (.tmp 71) rfl Try.underlying24 Try.underlying5 Try.underlying9 (some ⟨g, 1, none⟩) 31 (cap - 1) rfl (D.drop 1) HD31.out (hB.rd 1) ?_)
      rw [List.drop_one] at K3
      refine (K3.out _).mono ?_
      rintro e W5 ⟨rfl, x1⟩
      have z1 : Blk (W5.alloc (.cells (nums8 zero16).toArray 23)) W5.heap.size (nums8 zero16) 23 := Blk.new _ _ _
      go_upto_region 16 with (refine wpList_store_blk rfl 23 (.tmp 19) (.tmp 74) rfl W5.heap.size rfl (nums8 zero16) rfl z1 rowKey rfl rfl ?_; intro W6 b19 o6)
      have x2 : Ext W4 W6 := x1.trans (But.toNew ((Ext.refl _).alloc _) o6 (Nat.le_refl _))
      replace hb := hb.ext x2
      replace hB := hB.ext x2
      replace hx := hx.trans x2
      replace b15 := b15.ext x2
      replace b17 := b17.ext x2
      clear x1 x2 z1 o6 K3 b19
      have hlq : q < (nums8 D ++ rst).length := by rw [List.length_append, nums8_length, hD32]; omega
      obtain ⟨v0, hv0⟩ : ∃ v, (nums8 D ++ rst)[q]? = some v := ⟨_, List.getElem?_eq_getElem hlq⟩
      go_upto_region 18 with (first | (refine wpList_load_blk rfl 23 (.tmp 4) rfl w.heap.size rfl HT.out hb ?_) | (refine wpList_load_blk rfl 23 (.tmp 15) rfl g15 rfl HT.out b15 ?_) | (refine wpList_load_blk rfl 23 (.tmp 17) rfl g17 rfl HT.out b17 ?_))
      have c1 := hB.cell q hv0
      have f1 := hB.frozen q
      have hqi : (q : Int) < 32 := by omega
      go_upto_region 19 with (fail)
      have hset : (nums8 D ++ rst).set q (.int .u8 by_) = nums8 (D.set q by_) ++ rst := by
        rw [List.set_append_left q _ (by rw [nums8_length, hD32]; exact hq32), nums8_set]
      refine wp_gen (fun W => Blk W g (nums8 (D.set q by_) ++ rst) 5 ∧ Ext w W) ⟨(hB.set q _).congr hset, hx.setCell (Nat.le_trans (Nat.le_succ _) hgw) _⟩ ?_
      have HD2l := Lib.hid hD2l
      clear hB hx c1 f1 hset hb b15 b17 hv0 hlq hst
      rintro W7 ⟨hB, hx⟩
      have hT1 : isRowT Try.prog 23 (nums8 K).length := by rw [nums8_length, hl2]; exact rowKey
      have hT2 : isRowT Try.prog 22 (nums8 K).length := by rw [nums8_length, hl2]; exact row16
      have HT1 := Lib.hid hT1
      have HT2 := Lib.hid hT2
      have hlen : (nums8 zero16).length = (nums8 K).length := by rw [nums8_length K, hl2]; rfl
      have HL := Lib.hid hlen
      clear hT1 hT2 hlen hD2l
      go_wp2_with (refine wpList_string rfl 24 9 (.tmp 101) rfl Try.underlying24 Try.underlying5 Try.underlying9 (some ⟨g, 0, none⟩) 32 cap rfl (D.set q by_) HD2l.out (hB.rd 0) ?_)
      refine (K4.out _).mono ?_
      rintro e W8 ⟨rfl, x1⟩
      have z1 : Blk (W8.alloc (.cells (nums8 zero16).toArray 23)) W8.heap.size (nums8 zero16) 23 := Blk.new _ _ _
      go_upto_region 20 with (refine wpList_store_blk rfl 23 (.tmp 21) (.tmp 104) rfl W8.heap.size rfl (nums8 K) rfl z1 HT1.out HL.out (nums8_one K) ?_; intro W9 b21 o9)
      have x2 : Ext W7 W9 := x1.trans (But.toNew ((Ext.refl _).alloc _) o9 (Nat.le_refl _))
      replace hB := hB.ext x2
      replace hx := hx.trans x2
      obtain ⟨g21, hg21⟩ : ∃ g, W8.heap.size = g := ⟨_, rfl⟩
      rw [hg21] at b21 ⊢
      clear x1 x2 z1 o9 hg21 K4
      go_wp2_with (refine wpList_string rfl 24 9 (.tmp 107) rfl Try.underlying24 Try.underlying5 Try.underlying9 (some ⟨g, 0, none⟩) 32 cap rfl (D.set q by_) HD2l.out (hB.rd 0) ?_)
      refine (K5.out _).mono ?_
      rintro e W10 ⟨rfl, x1⟩
      have z1 : Blk (W10.alloc (.cells (nums8 zero16).toArray 22)) W10.heap.size (nums8 zero16) 22 := Blk.new _ _ _
      go_upto_region 21 with (refine wpList_store_blk rfl 22 (.tmp 23) (.tmp 110) rfl W10.heap.size rfl (nums8 K) rfl z1 HT2.out HL.out (nums8_one K) ?_; intro W11 b23 o11)
      have x2 : Ext W9 W11 := x1.trans (But.toNew ((Ext.refl _).alloc _) o11 (Nat.le_refl _))
      replace hx := hx.trans x2
      replace b21 := b21.ext x2
      obtain ⟨g23, hg23⟩ : ∃ g, W10.heap.size = g := ⟨_, rfl⟩
      rw [hg23] at b23 ⊢
      clear x1 x2 z1 o11 hg23 K5 hB
      have he := fun W => eq16 K K hl2 hl2 W
      rw [decide_eq_true rfl] at he
      have hg16 : Try.prog.eqGuardType Try.prog.depth 22 = false := by kernel_rfl
      have hzz : (z == z) = true := by simp
      go_wp2_with (first | (refine wpList_load_blk rfl 23 (.tmp 21) rfl g21 rfl HT1.out b21 ?_) | (refine wpList_load_blk rfl 22 (.tmp 23) rfl g23 rfl HT2.out b23 ?_))
      refine (works_calls _).mono ?_
      rintro e W12 ⟨rfl, x12⟩
      go_wp2_with fail
      go_ret
      exact ⟨rfl, hx.trans x12⟩
end Go.Proofs.Ytgkhakndmcdniaa
