/- Chapter 4: the closed law SipKnown. -/
import Derived.Test.YtgkhakndmcdniaaLawDigits
import Derived.Test.YtgkhakndmcdniaaLawPieces
namespace Go.Proofs.Ytgkhakndmcdniaa
open Go.RowKit
set_option linter.unusedVariables false
set_option linter.unusedSimpArgs false

set_option maxHeartbeats 1000000 in
theorem add_nil_calls (A : Option Addr) (n cap : Nat) (w : World) : Calls Try.prog 12 #[.pointer none, .slice A n cap] w fun e w' => e = .returned (.tuple #[]) ∧ Ext w w' := by
  go_enter Try.func12, Try.ntmps12
  go_wp2_with fail
  refine bodyPost_ret (v := .tuple #[]) ?_ rfl ⟨rfl, Ext.refl _⟩
  simp [results, Try.results12, go_sem]
set_option maxHeartbeats 1000000 in
theorem sum_nil_calls (w : World) : Calls Try.prog 13 #[.pointer none] w fun e w' => e = .returned (.int .u64 0) ∧ Ext w w' := by
  go_enter Try.func13, Try.ntmps13
  go_wp2_with fail
  go_ret
  exact ⟨rfl, Ext.refl _⟩

def strs7 : List ByteArray := [⟨#[]⟩, ⟨#[32]⟩, ⟨#[48]⟩, ⟨#[103, 48, 48, 49, 48, 50, 48, 51, 48, 52, 48, 53, 48, 54, 48, 55, 48, 56, 48, 57, 48, 65, 48, 98, 48, 99, 48, 100, 48, 101, 48, 102]⟩, ⟨#[48, 48, 48, 49, 48, 50, 48, 51, 48, 52, 48, 53, 48, 54, 48, 55, 48, 56, 48, 57, 48, 65, 48, 98, 48, 99, 48, 100, 48, 101, 48, 102, 48]⟩, ⟨#[32, 48, 48, 49, 48, 50, 48, 51, 48, 52, 48, 53, 48, 54, 48, 55, 48, 56, 48, 57, 48, 65, 48, 98, 48, 99, 48, 100, 48, 101, 48, 102]⟩, ⟨#[48, 48, 48, 49, 48, 50, 48, 51, 48, 52, 48, 53, 48, 54, 48, 55, 48, 56, 48, 57, 48, 65, 48, 98, 48, 99, 48, 100, 48, 101, 32, 10]⟩]
theorem strs7_size : ∀ x ∈ strs7, x.size ≤ 100 := by decide +kernel

set_option maxRecDepth 100000 in
set_option maxHeartbeats 4000000 in
theorem law_known (w : World) : Calls Try.prog 7 #[] w fun e w' => e = .returned (.bool true) ∧ Ext w w' := by
  obtain ⟨i0, hi, hz0, hz1, hz2⟩ := info_parts info8p
  go_enter Try.func7, Try.ntmps7
  go_wp2_with fail
  refine wp_gen (fun W => Blk W w.heap.size (nums8 zero16) 23 ∧ Ext w W) ⟨(Blk.new w (nums8 zero16) _).congr rfl, (Ext.refl _).alloc _⟩ ?_
  rintro W0 ⟨hb0, hx0⟩
  go_loopw [2, 3] (fun v i W => ∃ (n : Nat) (K D : List Int), n ≤ 300 ∧ i = .int .i64 n ∧ K.length = 16 ∧ Bytes K ∧ D.length = n ∧ Bytes D ∧ W.ownsRow (w.heap.size + 1) 5 1 v n (nums8 D) ∧ Blk W w.heap.size (nums8 K) 23 ∧ Ext w W) (fun v i _ => 300 - (intOf i).toNat)
  case atStart => exact ⟨0, zero16, [], by omega, rfl, rfl, zero16_bytes, rfl, (fun c hc => by cases hc), World.ownsRow_nil _ _ _ _, hb0, hx0⟩
  case round =>
    clear hb0 hx0
    obtain ⟨n, K, D, hn, rfl, hKl, hKb, hDl, hDb, hown, hb, hx⟩ := hrel
    by_cases hlt : n < 300
    · have hlti : (n : Int) < 300 := by omega
      obtain ⟨r, hr⟩ : ∃ r, n % 16 = r := ⟨_, rfl⟩
      have hr16 : r < 16 := by omega
      have hrq : (n : Int).tmod 16 = (r : Int) := by rw [← hr]; rfl
      obtain ⟨x, hx1⟩ : ∃ x, K[r]? = some x := ⟨K[r], by simp⟩
      have c0 := hb.cell r (nums8_get hx1)
      have f0 := hb.frozen r
      have hnn : (n : Int) * n ≤ 90000 := by
        have := Nat.mul_le_mul hn hn
        have h2 : ((n * n : Nat) : Int) ≤ ((300 * 300 : Nat) : Int) := Int.ofNat_le.2 this
        simpa using h2
      have hnn0 : 0 ≤ (n : Int) * n := Int.mul_nonneg (by omega) (by omega)
      clear hx1 hr
      go_upto_region 7 with (fail)
      have hK1 : (K.set r ((n : Int) * 7 % 256)).length = 16 := by rw [List.length_set, hKl]
      have hK2 : Bytes (K.set r ((n : Int) * 7 % 256)) := fun c hc => by
        rcases List.mem_or_eq_of_mem_set hc with hc | rfl
        · exact hKb c hc
        · exact ⟨by omega, by omega⟩
      obtain ⟨K', hK'⟩ : ∃ K', K.set r ((n : Int) * 7 % 256) = K' := ⟨_, rfl⟩
      refine wp_gen (fun W => Blk W w.heap.size (nums8 K') 23 ∧ Ext w W ∧ W.ownsRow (w.heap.size + 1) 5 1 u2 n (nums8 D)) ⟨(hb.set r _).congr (by rw [nums8_set, hK']), hx.setCell (Nat.le_refl _) _, Owns.set hown _ _ (Nat.lt_succ_self _)⟩ ?_
      rw [hK'] at hK1 hK2
      clear hK' hb hx hown c0 f0 hKl hKb
      rintro W1 ⟨hb, hx, hown⟩
      obtain ⟨c, hc⟩ : ∃ c, (n : Int) * n % 256 = c := ⟨_, rfl⟩
      have hcB : Byte c := ⟨by omega, by omega⟩
      have HcB := Lib.hid hcB
      have hcw : (W1.alloc (.cells #[.int .u8 c] 5)).cell? ⟨W1.heap.size, 0, none⟩ = some (.int .u8 c) := (Blk.new W1 [.int .u8 c] 5).cell 0 rfl
      have hm : n + 1 ≤ maxLen := by unfold maxLen; omega
      have HC := Lib.hid hcw
      have HM := Lib.hid hm
      have hwh : w.heap.size + 1 ≤ W1.heap.size := hb.lt
      clear hcw hm hcB
      go_upto_region 8 with (at_builtin; refine wpList_append1 rfl (.tmp 17) (.tmp 22) 24 rfl (w.heap.size + 1) 5 i0 (.int .u8 0) 1 Try.underlying24 hi hz0 hz1 hz2 rfl u2 n (nums8 D) rfl (hown.alloc _) W1.heap.size 1 (.int .u8 c) rfl HC.out rfl HM.out (by omega) (by simp; omega) ?_; intro v2 W2 hown2 hg2)
      have hne : some w.heap.size ≠ u2.ownBlock := fun e => by have := Owns.notNil hown _ e.symm; omega
      have hb2 := Grown.blk hg2 (hb.alloc _) hne
      have hx2 := Grown.toExt (hx.alloc _) hg2 (fun j hj => by have := Owns.notNil hown j hj; omega)
      rw [show nums8 D ++ [Value.int .u8 c] = nums8 (D ++ [c]) by rw [nums8_append]; rfl] at hown2
      have hDl2 : (D ++ [c]).length = n + 1 := by simp [hDl]
      have hDb2 : Bytes (D ++ [c]) := hDb.append (fun y hy => by rw [List.mem_singleton.1 hy]; exact HcB.out)
      obtain ⟨D', hD'⟩ : ∃ D', D ++ [c] = D' := ⟨_, rfl⟩
      rw [hD'] at hown2 hDl2 hDb2
      obtain ⟨g, cap, rst, rfl, hgw, hcap, hl2, hB⟩ := Owns.blk hown2 (by omega)
      have hT : isRowT Try.prog 23 (nums8 K').length := by rw [nums8_length, hK1]; exact rowKey
      have HT := Lib.hid hT
      have S1 : ∀ W, Ext W2 W → Calls Try.prog 3 #[.agg (nums8 K').toArray, .slice (some ⟨g, 0, none⟩) (n + 1) cap] W fun e w' => e = .returned (.bool true) ∧ Ext W w' := fun W h => by
        have := law_sums K' hK1 hK2 D' hDb2 (some ⟨g, 0, none⟩) cap W ((hB.ext h).rd 0) (by omega)
        rwa [hDl2] at this
      have S2 : ∀ W B (m : Int), Ext W2 W → Byte m → Blk W B [.int .u8 m, .int .u8 1, .int .u8 7, .int .u8 8, .int .u8 9] 5 → Calls Try.prog 4 #[.agg (nums8 K').toArray, .slice (some ⟨g, 0, none⟩) (n + 1) cap, .slice (some ⟨B, 0, none⟩) 5 5] W fun e w' => e = .returned (.bool true) ∧ Ext W w' := fun W B m h hm hb => by
        have := law_pieces K' hK1 hK2 D' hDb2 (some ⟨g, 0, none⟩) cap [m, 1, 7, 8, 9] (fun y hy => by
          simp only [List.mem_cons, List.not_mem_nil, or_false] at hy
          rcases hy with rfl | rfl | rfl | rfl | rfl
          · exact hm
          all_goals exact ⟨by omega, by omega⟩) (some ⟨B, 0, none⟩) 5 W ((hB.ext h).rd 0) (by omega) (Blk.rd (rest := []) (xs := [m, 1, 7, 8, 9]) hb 0) (by simp)
        rwa [hDl2] at this
      have HS1 := Lib.hid S1
      have HS2 := Lib.hid S2
      have HK1 := Lib.hid hK1
      have HK2 := Lib.hid hK2
      have HDb2 := Lib.hid hDb2
      have HDl2 := Lib.hid hDl2
      clear S1 S2 hT hK1 hK2 hDb2 hDl2 hne hD' hl2 hB hg2 hwh hown hb hx hDl hDb hc
      obtain ⟨m, hm⟩ : ∃ m, n % 32 = m := ⟨_, rfl⟩
      have hmi : (n : Int).tmod 32 = (m : Int) := by rw [← hm]; rfl
      clear hm
      by_cases h40 : n < 40
      · have h40i : (n : Int) < 40 := by omega
        go_wp2_with (refine wpList_load_blk rfl 23 (.tmp 1) rfl w.heap.size rfl HT.out hb2 ?_)
        refine (HS1.out _ (Ext.refl _)).mono ?_
        rintro e W3 ⟨rfl, x3⟩
        replace hb2 := hb2.ext x3
        go_wp2_with (refine wpList_load_blk rfl 23 (.tmp 1) rfl w.heap.size rfl HT.out hb2 ?_)
        refine (HS2.out _ _ (n : Int) (x3.alloc _) ⟨by omega, by omega⟩ (Blk.new _ [.int .u8 (n : Int), .int .u8 1, .int .u8 7, .int .u8 8, .int .u8 9] _)).mono ?_
        rintro e W4 ⟨rfl, x4⟩
        have x24 : Ext W2 W4 := (x3.alloc _).trans x4
        replace hb2 := hb2.ext ((Ext.refl W3).alloc _ |>.trans x4)
        go_wp2_with fail
        go_roundw
        case rel => exact ⟨n + 1, K', D', by omega, by go_num, HK1.out, HK2.out, HDl2.out, HDb2.out, Owns.ext hown2 x24, hb2, hx2.trans x24⟩
        case measure => simp [intOf]; omega
      · have h40i : ¬ (n : Int) < 40 := by omega
        by_cases hm2 : m < 2
        · have hm2i : (m : Int) < 2 := by omega
          go_wp2_with (refine wpList_load_blk rfl 23 (.tmp 1) rfl w.heap.size rfl HT.out hb2 ?_)
          refine (HS1.out _ (Ext.refl _)).mono ?_
          rintro e W3 ⟨rfl, x3⟩
          replace hb2 := hb2.ext x3
          go_wp2_with fail
          go_roundw
          case rel => exact ⟨n + 1, K', D', by omega, by go_num, HK1.out, HK2.out, HDl2.out, HDb2.out, Owns.ext hown2 x3, hb2, hx2.trans x3⟩
          case measure => simp [intOf]; omega
        · have hm2i : ¬ (m : Int) < 2 := by omega
          have hd1 : decide ((n : Int) < 40) = false := by simp; omega
          have hd2 : decide ((m : Int) < 2) = false := by simp; omega
          go_wp2_with fail
          go_roundw
          case rel => exact ⟨n + 1, K', D', by omega, by go_num, HK1.out, HK2.out, HDl2.out, HDb2.out, hown2, hb2, hx2⟩
          case measure => simp [intOf]; omega
    · obtain rfl : n = 300 := by omega
      clear hown
      go_wp2_with fail
      refine (add_nil_calls _ _ _ _).mono ?_
      rintro e W1 ⟨rfl, x1⟩
      replace hb := hb.ext ((Ext.refl wr).alloc _ |>.trans x1)
      replace hx := hx.trans ((Ext.refl wr).alloc _ |>.trans x1)
      clear x1
      go_wp2_with fail
      obtain ⟨g, hg⟩ : ∃ g, W1.heap.size = g := ⟨_, rfl⟩
      have hsb : Blk (W1.alloc (.cells (strs7.map Value.string).toArray 9)) W1.heap.size (strs7.map Value.string) 9 := Blk.new _ _ _
      refine wp_gen (fun W => Blk W W1.heap.size (strs7.map Value.string) 9 ∧ Blk W w.heap.size (nums8 K) 23 ∧ Ext w W) ⟨hsb, hb.alloc _, hx.alloc _⟩ ?_
      rw [hg]
      clear hsb hg hb hx
      rintro W2 ⟨hs, hb, hx⟩
      go_loopw [53] (fun i W => ∃ k : Nat, k ≤ 7 ∧ i = .int .i64 k ∧ Blk W g (strs7.map Value.string) 9 ∧ Blk W w.heap.size (nums8 K) 23 ∧ Ext w W) (fun i _ => 7 - (intOf i).toNat)
      case atStart => exact ⟨0, by omega, rfl, hs, hb, hx⟩
      case round =>
        clear hs hb hx
        obtain ⟨k, hk, rfl, hs, hb, hx⟩ := hrel
        by_cases hk7 : k < 7
        · have hk7i : (k : Int) < 7 := by omega
          obtain ⟨x, hx1⟩ : ∃ x, strs7[k]? = some x := ⟨_, List.getElem?_eq_getElem (show k < strs7.length from hk7)⟩
          have hxs := strs7_size x (List.mem_of_getElem? hx1)
          have c0 := hs.cell k (show (strs7.map Value.string)[k]? = some (.string x) by rw [List.getElem?_map, hx1]; rfl)
          clear hx1
          go_wp2_with fail
          refine (law_keys x _ (by omega)).mono ?_
          rintro e W3 ⟨rfl, x3⟩
          go_wp2_with fail
          go_roundw
          case rel => exact ⟨k + 1, by omega, by go_num, hs.ext x3, hb.ext x3, hx.trans x3⟩
          case measure => simp [intOf]; omega
        · have hk7i : ¬ (k : Int) < 7 := by omega
          have hT : isRowT Try.prog 23 (nums8 K).length := by rw [nums8_length, hKl]; exact rowKey
          have HT := Lib.hid hT
          have S1 := Lib.hid fun W => law_sums zero16 rfl zero16_bytes [] (fun c hc => by cases hc) none 0 W (.inl rfl) (Nat.le_refl _)
          have S2 := Lib.hid fun W => law_digits K hKl hKb 4042322160 3 103 (by omega) (by omega) (by omega) (by omega) (by omega) (by omega) W
          have S3 := Lib.hid fun W => law_digits K hKl hKb 0 31 70 (by omega) (by omega) (by omega) (by omega) (by omega) (by omega) W
          clear hT
          go_wp2_with fail
          refine (sum_nil_calls _).mono ?_
          rintro e W3 ⟨rfl, x3⟩
          replace hb := hb.ext x3
          go_wp2_with fail
          refine (S1.out _).mono ?_
          rintro e W4 ⟨rfl, x4⟩
          replace hb := hb.ext x4
          go_wp2_with (refine wpList_load_blk rfl 23 (.tmp 1) rfl w.heap.size rfl HT.out hb ?_)
          refine (S2.out _).mono ?_
          rintro e W5 ⟨rfl, x5⟩
          replace hb := hb.ext x5
          go_wp2_with (refine wpList_load_blk rfl 23 (.tmp 1) rfl w.heap.size rfl HT.out hb ?_)
          refine (S3.out _).mono ?_
          rintro e W6 ⟨rfl, x6⟩
          go_wp2_with fail
          refine (works_calls _).mono ?_
          rintro e W7 ⟨rfl, x7⟩
          go_wp2_with fail
          go_ret
          exact ⟨rfl, ((((hx.trans x3).trans x4).trans x5).trans x6).trans x7⟩
end Go.Proofs.Ytgkhakndmcdniaa
