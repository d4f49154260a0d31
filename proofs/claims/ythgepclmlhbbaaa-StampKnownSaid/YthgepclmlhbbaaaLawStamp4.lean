/- Chapter 16: the closed law StampKnown. -/
import Derived.Test.YthgepclmlhbbaaaLawStamp2
namespace Go.Proofs.Ythgepclmlhbbaaa
open Go.RowKit
set_option linter.unusedVariables false
set_option linter.unusedSimpArgs false
attribute [local irreducible] stampOf

theorem okBig : okSt nmA 1234567890123456 = true := by decide +kernel

set_option maxRecDepth 100000 in
set_option maxHeartbeats 4000000 in
theorem law_known (w : World) : Calls Try.prog 7 #[] w fun e w' => e = .returned (.bool true) ∧ Ext w w' := by
  go_enter Try.func7, Try.ntmps7
  go_upto_region 2 with (fail)
  refine wp_region_mixAll (fun W => Ext w W) [(0, true), (1, true), (2, true), (3, true), (4, true), (7, true), (5, false), (6, false)] (by kernel_rfl) (by kernel_rfl) ((Ext.refl w).drew) ?_
  (apply mix_read; (case ho => rfl); (case hw => rfl); (case h1 => intro W' hx; (try dsimp only at hx); go_simp; (try go_bits); with_reducible rfl); (case hp => go_simp; first | done | with_reducible rfl))
  (apply mix_read; (case ho => rfl); (case hw => rfl); (case h1 => intro W' hx; (try dsimp only at hx); go_simp; (try go_bits); with_reducible rfl); (case hp => go_simp; first | done | with_reducible rfl))
  (apply mix_read; (case ho => rfl); (case hw => rfl); (case h1 => intro W' hx; (try dsimp only at hx); go_simp; (try go_bits); with_reducible rfl); (case hp => go_simp; first | done | with_reducible rfl))
  (apply mix_read; (case ho => rfl); (case hw => rfl); (case h1 => intro W' hx; (try dsimp only at hx); go_simp; (try go_bits); with_reducible rfl); (case hp => go_simp; first | done | with_reducible rfl))
  (apply mix_read; (case ho => rfl); (case hw => rfl); (case h1 => intro W' hx; (try dsimp only at hx); go_simp; (try go_bits); with_reducible rfl); (case hp => go_simp; first | done | with_reducible rfl))
  (apply mix_read; (case ho => rfl); (case hw => rfl); (case h1 => intro W' hx; (try dsimp only at hx); go_simp; (try go_bits); with_reducible rfl); (case hp => go_simp; first | done | with_reducible rfl))
  refine mix_loud rfl ?_; intro KY hKY
  go_wp2_with fail
  refine ⟨((Ext.refl w).drew).alloc _, ?_⟩
  refine mix_loud rfl ?_; intro KY hKY
  go_wp2_with fail
  refine ⟨((Ext.refl w).drew).alloc _, ?_⟩
  refine mix_nil ?_; unfold Q0
  go_wp2_with fail
  refine wp_gen (fun W => ∃ strs : List ByteArray, strs.length = 14 ∧ Blk W w.heap.size (strs.map Value.string) 9 ∧ Ext w W) ⟨[_, _, _, _, _, _, _, _, _, _, _, _, _, _], rfl, Blk.new (w.drew) _ _, ((Ext.refl w).drew).alloc _⟩ ?_
  rintro W0 ⟨strs, hlen, hb, hx⟩
  obtain ⟨G, hG⟩ : ∃ G, w.heap.size = G := ⟨_, rfl⟩
  rw [hG] at hb ⊢
  have HG := Lib.hid hG
  clear hG
  go_loopw [17] (fun i W => ∃ k : Nat, k ≤ 14 ∧ i = .int .i64 k ∧ Blk W G (strs.map Value.string) 9 ∧ Ext w W) (fun i _ => 14 - (intOf i).toNat)
  case atStart => exact ⟨0, by omega, rfl, hb, hx⟩
  case round =>
    clear hb hx
    obtain ⟨k, hk, rfl, hb, hx⟩ := hrel
    by_cases hlt : k < 14
    · have hki : (k : Int) < 14 := by omega
      obtain ⟨s, hs⟩ : ∃ s, strs[k]? = some s := ⟨_, List.getElem?_eq_getElem (by omega)⟩
      have c0 := hb.cell k (show (strs.map Value.string)[k]? = some (.string s) by rw [List.getElem?_map, hs]; rfl)
      clear hs
      go_wp2_with fail
      refine wp_gen (fun W => ∃ ns : List Int, ns.length = 7 ∧ Blk W wr.heap.size (ns.map (Value.int .i64)) 2 ∧ Blk W G (strs.map Value.string) 9 ∧ Ext w W) ⟨[_, _, _, _, _, _, _], rfl, Blk.new wr _ _, hb.alloc _, hx.alloc _⟩ ?_
      obtain ⟨G2, hG2⟩ : ∃ G, wr.heap.size = G := ⟨_, rfl⟩
      rw [hG2]
      clear hG2 hb hx c0
      rintro W1 ⟨ns, hnl, hb2, hb, hx⟩
      go_loopw [23] (fun i W => ∃ j : Nat, j ≤ 7 ∧ i = .int .i64 j ∧ Blk W G2 (ns.map (Value.int .i64)) 2 ∧ Blk W G (strs.map Value.string) 9 ∧ Ext w W) (fun i _ => 7 - (intOf i).toNat)
      case atStart => exact ⟨0, by omega, rfl, hb2, hb, hx⟩
      case round =>
        clear hb hx hb2
        obtain ⟨j, hj, rfl, hb2, hb, hx⟩ := hrel
        by_cases hjlt : j < 7
        · have hji : (j : Int) < 7 := by omega
          obtain ⟨n, hn⟩ : ∃ n, ns[j]? = some n := ⟨_, List.getElem?_eq_getElem (by omega)⟩
          have c0 := hb2.cell j (show (ns.map (Value.int .i64))[j]? = some (.int .i64 n) by rw [List.getElem?_map, hn]; rfl)
          clear hn
          go_wp2_with fail
          refine (law_puts s n _).mono ?_
          rintro e W2 ⟨rfl, x2⟩
          go_wp2_with fail
          refine (law_back s ⟨#[97]⟩ n _ 1 (by omega) (by omega) (by omega) (by omega) _).mono ?_
          rintro e W3 ⟨rfl, x3⟩
          have x := x2.trans x3
          replace hb := hb.ext x
          replace hb2 := hb2.ext x
          replace hx := hx.trans x
          clear x2 x3 x c0
          go_wp2_with fail
          go_roundw
          case rel => exact ⟨j + 1, by omega, by go_num, hb2, hb, hx⟩
          case measure => simp [intOf]; omega
        · obtain rfl : j = 7 := by omega
          go_wp2_with fail
          go_roundw
          case rel => exact ⟨k + 1, by omega, by go_num, hb, hx⟩
          case measure => simp [intOf]; omega
    · obtain rfl : k = 14 := by omega
      clear hb
      go_wp2_with fail
      refine (put_yes nmA (by decide) 1234567890123456 okBig _).mono ?_
      rintro e W1 ⟨g1, c1, rfl, hg1, hc1, r1, x1⟩
      have hw1 : w.heap.size ≤ g1 := by have := hx.size; omega
      replace hx := hx.trans x1
      have HS := Lib.hid (stampOf_length nmA 1234567890123456)
      have HB := Lib.hid (stampOf_bytes nmA 1234567890123456)
      obtain ⟨L, hL⟩ : ∃ L, stampOf nmA 1234567890123456 = L := ⟨_, rfl⟩
      rw [hL] at HS HB r1
      clear hL x1
      go_wp2_with fail
      go_loopw [8] (fun i W => ∃ i' : Nat, i' ≤ 256 ∧ i = .int .i64 i' ∧ RdA W g1 0 (nums8 L) ∧ Ext w W) (fun i _ => 256 - (intOf i).toNat)
      case atStart => exact ⟨0, by omega, rfl, r1, hx⟩
      case round =>
        clear r1 hx
        obtain ⟨i, hi, rfl, r1, hx⟩ := hrel
        by_cases hilt : i < 256
        · have hii : (i : Int) < 256 := by omega
          obtain ⟨q, hq⟩ : ∃ q, i / 8 = q := ⟨_, rfl⟩
          obtain ⟨r, hr⟩ : ∃ r, i % 8 = r := ⟨_, rfl⟩
          obtain ⟨t, ht⟩ : ∃ t, i % 33 = t := ⟨_, rfl⟩
          have hq32 : q < 32 := by omega
          have ht32 : t ≤ 32 := by omega
          have hr8 : r < 8 := by omega
          have hq1 : (i : Int).tdiv 8 = (q : Int) := by rw [← hq]; rfl
          have hr1 : (i : Int).tmod 8 = (r : Int) := by rw [← hr]; rfl
          have ht1 : (i : Int).tmod 33 = (t : Int) := by rw [← ht]; rfl
          have hq2 : (i : Int) / 8 = (q : Int) := by rw [← hq]; rfl
          have hr2 : (i : Int) % 8 = (r : Int) := by rw [← hr]; rfl
          have ht2 : (i : Int) % 33 = (t : Int) := by rw [← ht]; rfl
          have hq0 : (0 : Int) ≤ (q : Int) := Int.natCast_nonneg _
          have hq3 : (q : Int) < 32 := by omega
          have hr0 : (0 : Int) ≤ (r : Int) := Int.natCast_nonneg _
          have ht3 : (t : Int) ≤ c1 := by omega
          clear hq hr ht
          obtain ⟨x, hxq⟩ : ∃ x, L[q]? = some x := ⟨_, List.getElem?_eq_getElem (by rw [HS.out]; exact hq32)⟩
          have HX := Lib.hid hxq
          have HR := Lib.hid r1
          clear hxq r1
          have addj : ∀ b j, (⟨b, 0, none⟩ : Addr).add j = ⟨b, j, none⟩ := fun b j => by unfold Addr.add; split <;> simp_all
          have HNW := Lib.hid (show ∀ j u, (nums8 L)[j]? = some u → (wr.alloc (.cells #[] 5)).cell? ((⟨g1, 0, none⟩ : Addr).add j) = some u from fun j u hj => by
            rw [addj]
            have := HR.out j u hj
            rw [Nat.zero_add] at this
            exact ((Ext.refl wr).alloc _).cell this)
          have HOW := Lib.hid (show ∀ u ∈ nums8 L, u.oneCell' = true from fun u hu => List.all_eq_true.1 (nums8_one L) u hu)
          have hG1 : Hid (g1 < wr.heap.size) := Lib.hid (World.block_lt_of_cell? wr _ (HR.out 0 _ (List.getElem?_eq_getElem (by rw [nums8_length, HS.out]; omega))))
          have hWr := Lib.hid hx.size
          have HM := Lib.hid (show 0 + 32 ≤ maxLen by unfold maxLen; omega)
          obtain ⟨i0, hi0, hz0, hz1, hz2⟩ := info_parts info8p
          clear addj
          go_upto_region 17 with (at_builtin; refine wpList_append_grows _ rfl (.tmp 54) (.tmp 55) 23 rfl 5 i0 (.int .u8 0) 1 1 Try.underlying23 hi0 hz0 hz1 hz2 rfl (by decide) (some ⟨wr.heap.size, 0, none⟩) 0 0 [] rfl (fun e => by cases e) rfl (fun b _ j u hj => by cases hj) ⟨g1, 0, none⟩ 32 c1 (nums8 L) rfl (by rw [nums8_length, HS.out]) HNW.out HOW.out (by omega) HM.out (by omega) ?_; intro v5 W5 hown5 hg5; rw [List.nil_append] at hown5; obtain ⟨g, cap, rst, rfl, hgw, hcap, _, hB5⟩ := Owns.blk hown5 (by omega))
          have x45 : Ext wr W5 := Grown.toExt ((Ext.refl wr).alloc _) hg5 (fun k hk => by cases hk)
          have r5 := Lib.hid (HR.out.ext x45)
          replace hx := hx.trans x45
          have hgw' : w.heap.size ≤ g := by
            have h4 := hWr.out
            simp at hgw
            omega
          have hgne : g ≠ g1 := by
            have := hG1.out
            simp at hgw
            omega
          have c5 := hB5.cell q (show (nums8 L ++ rst)[q]? = some (.int .u8 x) by rw [List.getElem?_append_left (by rw [nums8_length, HS.out]; exact hq32)]; exact nums8_get HX.out)
          have f5 := hB5.frozen q
          clear x45 hg5 hown5 HR
          refine wp_region_mix (fun W => W.cell? ⟨g, q, none⟩ = some (.int .u8 x)) 12 [(0, true), (1, true), (2, true), (3, true), (4, true), (5, true), (6, true), (7, true), (8, true), (9, true), (10, true), (11, true), (12, false), (13, false)] (by kernel_rfl) (by kernel_rfl) (c5) ?_
          (apply mix_read; (case ho => rfl); (case hw => rfl); (case h1 => intro W' hx; (try dsimp only at hx); go_simp; (try go_bits); with_reducible rfl); (case hp => go_simp; first | done | with_reducible rfl))
          (apply mix_read; (case ho => rfl); (case hw => rfl); (case h1 => intro W' hx; (try dsimp only at hx); go_simp; (try go_bits); with_reducible rfl); (case hp => go_simp; first | done | with_reducible rfl))
          (apply mix_read; (case ho => rfl); (case hw => rfl); (case h1 => intro W' hx; (try dsimp only at hx); go_simp; (try go_bits); with_reducible rfl); (case hp => go_simp; first | done | with_reducible rfl))
          (apply mix_read; (case ho => rfl); (case hw => rfl); (case h1 => intro W' hx; (try dsimp only at hx); go_simp; (try go_bits); with_reducible rfl); (case hp => go_simp; first | done | with_reducible rfl))
          (apply mix_read; (case ho => rfl); (case hw => rfl); (case h1 => intro W' hx; (try dsimp only at hx); go_simp; (try go_bits); with_reducible rfl); (case hp => go_simp; first | done | with_reducible rfl))
          (apply mix_read; (case ho => rfl); (case hw => rfl); (case h1 => intro W' hx; (try dsimp only at hx); go_simp; (try go_bits); with_reducible rfl); (case hp => go_simp; first | done | with_reducible rfl))
          (apply mix_read; (case ho => rfl); (case hw => rfl); (case h1 => intro W' hx; (try dsimp only at hx); go_simp; (try go_bits); with_reducible rfl); (case hp => go_simp; first | done | with_reducible rfl))
          (apply mix_read; (case ho => rfl); (case hw => rfl); (case h1 => intro W' hx; (try dsimp only at hx); go_simp; (try go_bits); with_reducible rfl); (case hp => go_simp; first | done | with_reducible rfl))
          (apply mix_read; (case ho => rfl); (case hw => rfl); (case h1 => intro W' hx; (try dsimp only at hx); go_simp; (try go_bits); with_reducible rfl); (case hp => go_simp; first | done | with_reducible rfl))
          (apply mix_read; (case ho => rfl); (case hw => rfl); (case h1 => intro W' hx; (try dsimp only at hx); go_simp; (try go_bits); with_reducible rfl); (case hp => go_simp; first | done | with_reducible rfl))
          (apply mix_read; (case ho => rfl); (case hw => rfl); (case h1 => intro W' hx; (try dsimp only at hx); go_simp; (try go_bits); with_reducible rfl); (case hp => go_simp; first | done | with_reducible rfl))
          (apply mix_read; (case ho => rfl); (case hw => rfl); (case h1 => intro W' hx; (try dsimp only at hx); go_simp; (try go_bits); with_reducible rfl); (case hp => go_simp; first | done | with_reducible rfl))
          refine mix_end 12 (by kernel_rfl) (by kernel_rfl) ?_; simp only [List.take_succ_cons, List.take_zero, List.drop_succ_cons, List.drop_zero]; unfold Q0
          go_upto_region 18 with (fail)
          refine wp_gen (fun W => ∃ y, Byte y ∧ Blk W g (nums8 (L.set q y) ++ rst) 5 ∧ RdA W g1 0 (nums8 L) ∧ Ext w W) ⟨bits .xor .u8 x (2 ^ r % 256), xorB _ _, Blk.congr (hB5.set q (.int .u8 (bits .xor .u8 x (2 ^ r % 256)))).drew ?_, ?_, (hx.setCell hgw' _).drew⟩ ?_
          · rw [List.set_append_left q _ (by rw [nums8_length, HS.out]; exact hq32), nums8_set]
          · intro j u hj
            have := r5.out j u hj
            rw [← this]
            exact World.cell?_of_block (Below.heap_setCell _ _ _ _ (Ne.symm hgne))
          clear hB5 c5 f5 hx r5
          rintro W6 ⟨y, hyB, hB, hr1, hx⟩
          have hL2l : (L.set q y).length = 32 := by rw [List.length_set]; exact HS.out
          have hL2b : Bytes (L.set q y) := fun c hc => by
            rcases List.mem_or_eq_of_mem_set hc with hc | rfl
            · exact HB.out c hc
            · exact hyB
          have T1 := Lib.hid (law_takes nmA (L.set q y) hL2b (some ⟨g, 0, none⟩) cap W6 (.inr ⟨g, 0, rfl, fun j u hj => by
            rw [Nat.zero_add]
            exact hB.cell j (by rw [List.getElem?_append_left (List.getElem?_eq_some_iff.1 hj).1]; exact hj)⟩) (by omega))
          rw [hL2l] at T1
          have T2 := Lib.hid fun W h => law_takes nmA (L.take t) (fun c hc => HB.out c (List.mem_of_mem_take hc)) (some ⟨g1, 0, none⟩) c1 W h (by rw [List.length_take, HS.out]; omega)
          rw [show (L.take t).length = t by rw [List.length_take, HS.out]; omega] at T2
          have HR1 := Lib.hid hr1
          clear hB hr1 hL2l hL2b hyB
          go_wp2_with fail
          refine T1.out.mono ?_
          rintro e W7 ⟨rfl, x7⟩
          go_wp2_with fail
          refine (T2.out _ (.inr ⟨g1, 0, rfl, (HR1.out.ext x7).take t⟩)).mono ?_
          rintro e W8 ⟨rfl, x8⟩
          go_wp2_with fail
          refine (law_back nmA nmB _ _ _ (by omega) (by omega) (by omega) (by omega) _).mono ?_
          rintro e W9 ⟨rfl, x9⟩
          have x := (x7.trans x8).trans x9
          go_wp2_with fail
          go_roundw
          case rel => exact ⟨i + 1, by omega, by go_num, HR1.out.ext x, hx.trans x⟩
          case measure => simp [intOf]; omega
        · obtain rfl : i = 256 := by omega
          have LT := Lib.hid fun W h => law_takes ⟨#[97, 47, 98]⟩ L HB.out (some ⟨g1, 0, none⟩) c1 W h (by rw [HS.out]; exact hc1)
          rw [HS.out] at LT
          have r1' := Lib.hid r1
          clear r1
          go_wp2_with fail
          refine (LT.out _ (.inr ⟨g1, 0, rfl, r1'.out⟩)).mono ?_
          rintro e W2 ⟨rfl, x2⟩
          go_wp2_with fail
          refine (works_calls _).mono ?_
          rintro e W3 ⟨rfl, x3⟩
          go_wp2_with fail
          go_ret
          exact ⟨rfl, (hx.trans x2).trans x3⟩
end Go.Proofs.Ythgepclmlhbbaaa
