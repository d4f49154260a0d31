/- Chapter 16: the law StampBack at any arguments. -/
import Derived.Test.YthgepclmlhbbaaaStampAny
namespace Go.Proofs.Ythgepclmlhbbaaa
open Go.RowKit
set_option linter.unusedVariables false
set_option linter.unusedSimpArgs false
attribute [local irreducible] stampOf


set_option maxRecDepth 100000 in
set_option maxHeartbeats 4000000 in
theorem law_back (s o : ByteArray) (u at_ by_ : Int) (ha0 : 0 ≤ at_) (ha1 : at_ ≤ 255) (hb0 : 0 ≤ by_) (hb1 : by_ ≤ 255) (w : World) :
    Calls Try.prog 5 #[.string s, .string o, .int .i64 u, .int .u8 at_, .int .u8 by_] w fun e w' => e = .returned (.bool true) ∧ Ext w w' := by
  by_cases h200 : 200 < s.size
  · have hi : (200 : Int) < s.size := by omega
    go_enter Try.func5, Try.ntmps5; go_wp2_with fail; refine (works_calls _).mono ?_; rintro e W1 ⟨rfl, x1⟩; go_wp2_with fail; go_ret; exact ⟨rfl, x1⟩
  have hi : ¬ (200 : Int) < s.size := by omega
  by_cases h201 : 200 < o.size
  · have hi2 : (200 : Int) < o.size := by omega
    go_enter Try.func5, Try.ntmps5; go_wp2_with fail; refine (works_calls _).mono ?_; rintro e W1 ⟨rfl, x1⟩; go_wp2_with fail; go_ret; exact ⟨rfl, x1⟩
  have hi2 : ¬ (200 : Int) < o.size := by omega
  have hs : s.size ≤ 1000000 := by omega
  have ho : o.size ≤ 1000000 := by omega
  cases h : okSt s u with
  | false =>
    have P1 := Lib.hid fun W => put_no s hs u h W
    clear h
    go_enter Try.func5, Try.ntmps5
    go_wp2_with fail
    refine (P1.out _).mono ?_
    rintro e W1 ⟨rfl, x1⟩
    go_wp2_with fail
    refine (works_calls _).mono ?_
    rintro e W2 ⟨rfl, x2⟩
    go_wp2_with fail
    go_ret
    exact ⟨rfl, x1.trans x2⟩
  | true =>
    obtain ⟨hn, hu0, hu1⟩ := okSt_bounds h
    have P1 := Lib.hid fun W => put_yes s hs u h W
    have T1 := Lib.hid fun W g c hc hr => take_loop s hs hn (stampOf s u) (stampOf_length s u) (stampOf_bytes s u) g 0 c hc W hr
    unfold Took at T1
    rw [take_other s s u hu0 hu1, if_pos ⟨h, rfl⟩] at T1
    unfold takeV at T1
    have huu : (u == u) = true := by simp
    have huu' : (u != u) = false := by simp
    go_enter Try.func5, Try.ntmps5
    go_wp2_with fail
    refine (P1.out _).mono ?_
    rintro e W1 ⟨g1, c1, rfl, hg1, hc1, r1, x1⟩
    go_wp2_with fail
    refine (T1.out _ _ _ hc1 r1).mono ?_
    rintro e W2 ⟨rfl, x2⟩
    have r2 := r1.ext x2
    replace x1 := x1.trans x2
    clear r1 x2 P1 T1
    have hc31 : (31 : Int) ≤ c1 := by omega
    have HS := Lib.hid (stampOf_length s u)
    have HB := Lib.hid (stampOf_bytes s u)
    have HQ := Lib.hid (fun (by_ : Int) (h : by_ = 0) => h)
    have A1 := Lib.hid fun W hr => take_any o s ho u hu0 hu1 g1 c1 hc1 W hr
    have A2 := Lib.hid fun W => rput_any o s ho u W
    have HTS := Lib.hid (show takeOf s (stampOf s u) = some u by rw [take_other s s u hu0 hu1, if_pos ⟨h, rfl⟩])
    obtain ⟨L, hL⟩ : ∃ L, stampOf s u = L := ⟨_, rfl⟩
    obtain ⟨q, hq⟩ : ∃ q, sameSt o s u = q := ⟨_, rfl⟩
    rw [hL] at HS HB A1 A2 r2 HTS
    rw [hq] at A1 A2
    have hqq : (q != q) = false := by simp
    clear hL hq h
    go_wp2_with fail
    refine (A1.out _ r2).mono ?_
    rintro e W3 ⟨x3v, ev3, rfl, he3, x3⟩
    have r3 := r2.ext x3
    go_wp2_with fail
    refine (A2.out _).mono ?_
    rintro e W4 ⟨A4, n4, cap4, bo4, L4, rfl, hl4, rd4, hs4, x4⟩
    have r4 := r3.ext x4
    replace x1 := (x1.trans x3).trans x4
    have HL4 := Lib.hid hl4
    have HR4 := Lib.hid rd4
    have HR := Lib.hid r4
    clear x3 x4 r2 r3 r4 hl4 rd4 A1 A2
    go_upto_region 13 with (first | (refine wpList_string rfl 23 9 (.tmp 80) rfl Try.underlying23 Try.underlying5 Try.underlying9 A4 n4 cap4 rfl L4 HL4.out HR4.out ?_) | (refine wpList_string rfl 23 9 (.tmp 82) rfl Try.underlying23 Try.underlying5 Try.underlying9 (some ⟨g1, 0, none⟩) 32 c1 rfl L HS.out (.inr ⟨g1, 0, rfl, HR.out⟩) ?_))
    obtain ⟨q, hq⟩ : ∃ q : Nat, at_.tmod 32 = (q : Int) := ⟨(at_ % 32).toNat, by rw [Int.tmod_eq_emod_of_nonneg ha0]; omega⟩
    have hq32 : (q : Int) < 32 := by rw [← hq, Int.tmod_eq_emod_of_nonneg ha0]; omega
    have hqn : q < 32 := by omega
    obtain ⟨x, hx⟩ : ∃ x, L[q]? = some x := ⟨_, List.getElem?_eq_getElem (by rw [HS.out]; exact hqn)⟩
    obtain ⟨y, hy⟩ : ∃ y, bits .xor .u8 x by_ = y := ⟨_, rfl⟩
    have hyB : Byte y := by rw [← hy]; exact xorB _ _
    have hL2l : (L.set q y).length = 32 := by rw [List.length_set]; exact HS.out
    have hL2b : Bytes (L.set q y) := fun c hc => by
      rcases List.mem_or_eq_of_mem_set hc with hc | rfl
      · exact HB.out c hc
      · exact hyB
    have h0 : by_ = 0 → (takeOf s (L.set q y)).isSome = true := fun hb => by
      have : y = x := by rw [← hy, hb]; exact xor0 x (HB.out.at_ hx)
      rw [this, set_same L q x hx, HTS.out]
      rfl
    have HX := Lib.hid hx
    have HY := Lib.hid hy
    have T2 := Lib.hid fun W g c hc hr => take_two s hs hn (L.set q y) hL2l hL2b g c hc W hr
    have T3 := Lib.hid fun W A c => take_31 s hs hn A c W
    have T4 := Lib.hid fun W A c => take_33 s hs hn A c W
    have T5 := Lib.hid fun W g c hc hr => rtake_loop s hs (L.set q y) hL2l hL2b g 0 c hc W hr
    unfold TookR at T5
    obtain ⟨tm, htm⟩ : ∃ t, timeOf (L.set q y) = t := ⟨_, rfl⟩
    obtain ⟨tq, htq⟩ : ∃ t, (takeOf s (L.set q y)).isSome = t := ⟨_, rfl⟩
    rw [htm, htq] at T5
    rw [htq] at T2 h0
    have H0 := Lib.hid h0
    clear htm htq hx hy hyB hL2l hL2b h0 hs4 he3 HTS
    have HM := Lib.hid (show 0 + 32 ≤ maxLen by unfold maxLen; omega)
    obtain ⟨i0, hi0, hz0, hz1, hz2⟩ := info_parts info8p
    have addj : ∀ b j, (⟨b, 0, none⟩ : Addr).add j = ⟨b, j, none⟩ := fun b j => by unfold Addr.add; split <;> simp_all
    have HNW := Lib.hid (show ∀ j u, (nums8 L)[j]? = some u → (W4.alloc (.cells #[] 5)).cell? ((⟨g1, 0, none⟩ : Addr).add j) = some u from fun j u hj => by
      rw [addj]
      have := HR.out j u hj
      rw [Nat.zero_add] at this
      exact ((Ext.refl W4).alloc _).cell this)
    have HOW := Lib.hid (show ∀ u ∈ nums8 L, u.oneCell' = true from fun u hu => List.all_eq_true.1 (nums8_one L) u hu)
    have hW4 := Lib.hid x1.size
    have hG1 : Hid (g1 < W4.heap.size) := Lib.hid (World.block_lt_of_cell? W4 _ (HR.out 0 _ (List.getElem?_eq_getElem (by rw [nums8_length, HS.out]; omega))))
    clear addj
    go_upto_region 14 with (at_builtin; refine wpList_append_grows _ rfl (.tmp 86) (.tmp 87) 23 rfl 5 i0 (.int .u8 0) 1 1 Try.underlying23 hi0 hz0 hz1 hz2 rfl (by decide) (some ⟨W4.heap.size, 0, none⟩) 0 0 [] rfl (fun e => by cases e) rfl (fun b _ j u hj => by cases hj) ⟨g1, 0, none⟩ 32 c1 (nums8 L) rfl (by rw [nums8_length, HS.out]) HNW.out HOW.out (by omega) HM.out (by omega) ?_; intro v5 W5 hown5 hg5)
    have x45 : Ext W4 W5 := Grown.toExt ((Ext.refl W4).alloc _) hg5 (fun k hk => by cases hk)
    have r5 := Lib.hid (HR.out.ext x45)
    replace x1 := x1.trans x45
    rw [List.nil_append] at hown5
    obtain ⟨g, cap, rst, rfl, hgw, hcap, _, hB5⟩ := Owns.blk hown5 (by omega)
    have hgw' : w.heap.size ≤ g := by
      have h1 := x1.size
      have h2 := hg5.size
      simp at hgw h2
      have h3 := (x1.trans (Ext.refl W5)).size
      have h4 : w.heap.size ≤ W4.heap.size := hW4.out
      omega
    have hgne : g ≠ g1 := by
      have := hG1.out
      simp at hgw
      omega
    have c5 := hB5.cell q (show (nums8 L ++ rst)[q]? = some (.int .u8 x) by rw [List.getElem?_append_left (by rw [nums8_length, HS.out]; exact hqn)]; exact nums8_get HX.out)
    have f5 := hB5.frozen q
    have hq32' : (q : Int) < 32 := hq32
    clear x45 hg5
    go_upto_region 15 with (fail)
    have hyy : bits .xor .u8 x by_ = y := HY.out
    refine wp_gen (fun W => W.ownsRow (W4.heap.size + 1) 5 1 (.slice (some ⟨g, 0, none⟩) 32 cap) 32 (nums8 (L.set q y)) ∧ RdA W g1 0 (nums8 L) ∧ Ext w W) ⟨?_, ?_, x1.setCell hgw' _⟩ ?_
    · rw [← nums8_set, ← hyy]
      exact Owns.setOwn (by simpa using hown5) _ _
    · intro j u hj
      have := r5.out j u hj
      rw [← this]
      exact World.cell?_of_block (Below.heap_setCell _ _ _ _ (Ne.symm hgne))
    clear hown5 hB5 c5 f5 x1 hyy r5 HR
    rintro W6 ⟨hown, hr1, hx⟩
    obtain ⟨g', cap', rst', e1, _, hcap', _, hB⟩ := Owns.blk hown (by omega)
    cases e1
    have hrd : RdA W6 g 0 (nums8 (L.set q y)) := fun j u hj => by
      rw [Nat.zero_add]
      exact hB.cell j (by rw [List.getElem?_append_left (List.getElem?_eq_some_iff.1 hj).1]; exact hj)
    have HO6 := Lib.hid hown
    have HRD := Lib.hid hrd
    clear hown hrd hB
    go_wp2_with fail
    refine (T2.out _ _ _ hcap' HRD.out).mono ?_
    rintro e W7 ⟨x7v, ev7, rfl, he7, x7⟩
    go_wp2_with fail
    refine (T3.out _ _ _).mono ?_
    rintro e W8 ⟨rfl, x8⟩
    have x68 := x7.trans x8
    have hown8 := Owns.ext HO6.out x68
    have hx8 := hx.trans x68
    have hcw : (W8.alloc (.cells #[.int .u8 0] 5)).cell? ⟨W8.heap.size, 0, none⟩ = some (.int .u8 0) := (Blk.new W8 [.int .u8 0] 5).cell 0 rfl
    have HCW := Lib.hid hcw
    have HM2 := Lib.hid (show 32 + 1 ≤ maxLen by unfold maxLen; omega)
    clear x7 x8 x68 hcw HO6
    go_wp2_with (at_builtin; refine wpList_append1_keep rfl (.tmp 115) (.tmp 116) rfl (W4.heap.size + 1) g 32 cap (L.set q y) rfl (hown8.alloc _) W8.heap.size 1 (.int .u8 0) rfl HCW.out rfl HM2.out (by omega) ?_; intro A9 c9 W9 hg9 hr9)
    have hx9 := Grown.toExt (hx8.alloc _) hg9 (fun k hk => by cases hk; exact hgw')
    have HR9 := Lib.hid hr9
    clear hr9 hg9 hown8 hx8
    refine (T4.out _ _ _).mono ?_
    rintro e W10 ⟨rfl, x10⟩
    go_wp2_with fail
    refine (T5.out _ _ _ hcap' (HR9.out.ext x10)).mono ?_
    rintro e W11 ⟨rfl, x11⟩
    have hx11 := (hx9.trans x10).trans x11
    have htt : (tq == tq) = true := by simp
    clear hx9 x10 x11 HR9 hx
    by_cases hby : by_ = 0
    · have htq : tq = true := H0.out hby
      have hb0 : (by_ != 0) = false := by rw [hby]; rfl
      have Hby := Lib.hid hby
      subst htq
      clear hby
      go_wp2_with fail
      refine (works_calls _).mono ?_
      rintro e W12 ⟨rfl, x12⟩
      go_wp2_with fail
      go_ret
      exact ⟨rfl, hx11.trans x12⟩
    · have hb0 : (by_ != 0) = true := by rw [bne_iff_ne]; exact hby
      clear hby
      go_wp2_with fail
      refine (works_calls _).mono ?_
      rintro e W12 ⟨rfl, x12⟩
      go_wp2_with fail
      go_ret
      exact ⟨rfl, hx11.trans x12⟩
end Go.Proofs.Ythgepclmlhbbaaa
