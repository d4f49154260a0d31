/- Chapter 23: the law CycleTurned (under way). -/
import Derived.Test.YthlobpdcolgcoaaLawAhead
import Derived.Test.YthlobpdcolgcoaaNextLaw
import Derived.Test.YthlobpdcolgcoaaAppItem
namespace Go.Proofs.Ythlobpdcolgcoaa
open Go.RowKit Go.Maps Go.Lib
set_option linter.unusedVariables false
set_option linter.unusedSimpArgs false

set_option maxRecDepth 100000 in
set_option maxHeartbeats 4000000 in
theorem law_turned (cs : List Value) (af be : List (List Int)) (l : List It) (A : Option Addr) (cap : Nat) (w : World) (h : GR w cs af be) (hr : RdI w A l) (hcap : l.length ≤ cap) (hmax : l.length ≤ 9223372036854775807) (h1 : cs.all (·.oneCell') = true) :
    Calls Try.prog 5 #[.agg cs.toArray, .slice A l.length cap] w fun e w' => e = .returned (.bool true) ∧ Ext w w' := by
  have hl : cs.length = 10 := by obtain ⟨_, _, _, _, _, _, h0, _⟩ := h; exact h0
  have HT := Lib.hid (rowG cs.length hl)
  have HT10 := Lib.hid hl
  have HW := Lib.hid fun W => works_calls W
  clear hl
  go_enter Try.func5, Try.ntmps5
  go_upto_region 1 with (fail)
  refine wp_gen (fun W => Blk W w.heap.size cs 24 ∧ GR W cs af be ∧ RdI W A l ∧ Ext w W)
    ⟨Blk.newAt _ _ _ _ rfl, h.ext ((Ext.refl w).alloc _), hr.ext ((Ext.refl w).alloc _), (Ext.refl w).alloc _⟩ ?_
  obtain ⟨G, hG⟩ : ∃ G, w.heap.size = G := ⟨_, rfl⟩
  rw [hG]
  clear hG h hr
  rintro W0 ⟨hb, h, hr, hx0⟩
  have F := Lib.hid (few_calls cs af be W0 h)
  cases hf : fewB af be with
  | false =>
    rw [hf] at F
    go_wp2_with (refine wpList_load_blk rfl 24 (.tmp 2) rfl G rfl HT.out hb ?_)
    refine F.out.mono ?_
    rintro e W1 ⟨rfl, x1⟩
    go_wp2_with fail
    refine (HW.out _).mono ?_
    rintro e W2 ⟨rfl, x2⟩
    go_wp2_with fail
    go_ret
    exact ⟨rfl, (hx0.trans x1).trans x2⟩
  | true =>
    rw [hf] at F
    clear hf
    by_cases h30 : l.length ≤ 30
    case neg =>
      have h30i : (30 : Int) < l.length := by omega
      go_wp2_with (refine wpList_load_blk rfl 24 (.tmp 2) rfl G rfl HT.out hb ?_)
      refine F.out.mono ?_
      rintro e W1 ⟨rfl, x1⟩
      go_wp2_with fail
      refine (HW.out _).mono ?_
      rintro e W2 ⟨rfl, x2⟩
      go_wp2_with fail
      go_ret
      exact ⟨rfl, (hx0.trans x1).trans x2⟩
    case pos =>
      have h30i : ¬ (30 : Int) < l.length := by omega
      have h30d : decide ((30 : Int) < l.length) = false := decide_eq_false h30i
      go_wp2_with (refine wpList_load_blk rfl 24 (.tmp 2) rfl G rfl HT.out hb ?_)
      refine F.out.mono ?_
      rintro e W1 ⟨rfl, x1⟩
      replace hb := hb.ext x1
      replace h := h.ext x1
      replace hr := hr.ext x1
      have hx1 := hx0.trans x1
      clear F x1 hx0
      have U := Lib.hid (units_calls cs af be l A cap W1 h hr hmax)
      generalize l.all (unitB af.length be.length) = un at U
      cases un
      · go_wp2_with (first | (refine wpList_load_blk rfl 24 (.tmp 2) rfl G rfl HT.out hb ?_))
        refine U.out.mono ?_
        rintro e W2 ⟨rfl, x2⟩
        go_wp2_with fail
        refine (HW.out _).mono ?_
        rintro e W3 ⟨rfl, x3⟩
        go_wp2_with fail
        go_ret
        exact ⟨rfl, (hx1.trans x2).trans x3⟩
      · go_wp2_with (first | (refine wpList_load_blk rfl 24 (.tmp 2) rfl G rfl HT.out hb ?_))
        refine U.out.mono ?_
        rintro e W2 ⟨rfl, x2⟩
        replace hb := hb.ext x2
        replace h := h.ext x2
        replace hr := hr.ext x2
        have hx2 := hx1.trans x2
        clear U x2 hx1
        go_upto_region 5 with (fail)
        obtain ⟨M, hM⟩ : ∃ M, W2.heap.size = M := ⟨_, rfl⟩
        go_loopw [8, 5, 6, 7] (fun i v1 v2 v3 W => ∃ j : Nat, j ≤ l.length ∧ i = .int .i64 j ∧ IR W M W.heap.size [(v1, typed (l.take j) 1), (v2, typed (l.take j) 2), (v3, typed (l.take j) 3)] ∧ Ext W2 W) (fun i _ _ _ _ => l.length - (RowKit.intOf i).toNat)
        case atStart => exact ⟨0, by omega, rfl, IR.nil3 _ M _ (by omega), Ext.refl _⟩
        case round =>
          obtain ⟨j, hj, rfl, hI, hx⟩ := hrel
          by_cases hlt : j < l.length
          · have hlti : (j : Int) < l.length := by omega
            obtain ⟨b, o, u, t, m, rfl, he, f1, f2, f3⟩ := (hr.ext hx).at hlt
            go_upto_region 8 with (fail)
            refine wp_gen (fun W => IR W M wr.heap.size [(u5, typed (l.take j) 1), (u6, typed (l.take j) 2), (u7, typed (l.take j) 3)] ∧ Ext W2 W ∧ Blk W wr.heap.size [.int .i64 u, .int .u8 t, .bool m] 30) ⟨hI.ext ((Ext.refl _).alloc _), hx.alloc _, Blk.newAt wr [.int .i64 u, .int .u8 t, .bool m] _ _ rfl⟩ ?_
            have hMq : M ≤ wr.heap.size := hI.low
            obtain ⟨q, hq⟩ : ∃ q, wr.heap.size = q := ⟨_, rfl⟩
            rw [hq] at hMq ⊢
            clear hI hx f1 f2 f3 hq
            rintro W3 ⟨hI, hx, hk⟩
            have hlr : (l.take j).length ≤ 30 := by rw [List.length_take]; omega
            have hI0 := hI
            clear hI
            have hI := hI0
            clear hI0
            have d1 := hk.cell 1 rfl; have z1 := hk.frozen 1; go_upto_region 9 with (fail); refine wp_gen (fun W => IR W M q _ ∧ Ext W2 W ∧ Blk W q [.int .i64 u, .int .u8 1, .bool m] 30) ⟨hI.set 1 _, hx.setCell (by simp; omega) _, hk.set 1 (.int .u8 1)⟩ ?_; clear hI hx hk d1 z1; rintro W4 ⟨hI, hx, hk⟩; have hown := hI.own 0 _ _ rfl; have hql := hk.lt; go_upto_region 10 with (first | (refine wpList_load_blk rfl 30 (.tmp 9) rfl q rfl (cs := [.int .i64 u, .int .u8 1, .bool m]) rowItem hk ?_) | (refine wpList_append_item rfl (.tmp 39) (.tmp 41) rfl M _ (typed (l.take j) 1) rfl (Owns.ext hown ((Ext.refl W4).alloc _)) W4.heap.size 1 ⟨u, 1, m⟩ rfl (Blk.newAt W4 [.int .i64 u, .int .u8 1, .bool m] _ _ rfl) (by rw [typed_length]; omega) (Nat.le_trans hI.low (by rw [World.size_alloc]; omega)) ?_; intro v' W5 o5 g5 s5)); have hI5 := (hI.ext ((Ext.refl W4).alloc _)).step (i := 0) rfl (by rw [World.size_alloc]; omega) o5 g5 s5; have hx5 := Grown.toExt (hx.alloc _) g5 (fun k hk => by rw [hM]; exact ((hown.lt k hk).1)); have hk5 := Grown.blk g5 (hk.alloc _) (fun e => hI.off 0 _ _ rfl e.symm); simp only [List.set_cons_zero, List.set_cons_succ] at hI5; clear hI hx hk hown hql o5 g5 s5; rename IR _ _ _ _ => hI; rename Ext W2 _ => hx; rename Blk _ q _ _ => hk
            have d1 := hk.cell 1 rfl; have z1 := hk.frozen 1; go_upto_region 11 with (fail); refine wp_gen (fun W => IR W M q _ ∧ Ext W2 W ∧ Blk W q [.int .i64 u, .int .u8 2, .bool m] 30) ⟨hI.set 1 _, hx.setCell (by simp; omega) _, hk.set 1 (.int .u8 2)⟩ ?_; clear hI hx hk d1 z1; rintro W4 ⟨hI, hx, hk⟩; have hown := hI.own 1 _ _ rfl; have hql := hk.lt; go_upto_region 12 with (first | (refine wpList_load_blk rfl 30 (.tmp 9) rfl q rfl (cs := [.int .i64 u, .int .u8 2, .bool m]) rowItem hk ?_) | (refine wpList_append_item rfl (.tmp 45) (.tmp 47) rfl M _ (typed (l.take j) 2) rfl (Owns.ext hown ((Ext.refl W4).alloc _)) W4.heap.size 1 ⟨u, 2, m⟩ rfl (Blk.newAt W4 [.int .i64 u, .int .u8 2, .bool m] _ _ rfl) (by rw [typed_length]; omega) (Nat.le_trans hI.low (by rw [World.size_alloc]; omega)) ?_; intro v' W5 o5 g5 s5)); have hI5 := (hI.ext ((Ext.refl W4).alloc _)).step (i := 1) rfl (by rw [World.size_alloc]; omega) o5 g5 s5; have hx5 := Grown.toExt (hx.alloc _) g5 (fun k hk => by rw [hM]; exact ((hown.lt k hk).1)); have hk5 := Grown.blk g5 (hk.alloc _) (fun e => hI.off 1 _ _ rfl e.symm); simp only [List.set_cons_zero, List.set_cons_succ] at hI5; clear hI hx hk hown hql o5 g5 s5; rename IR _ _ _ _ => hI; rename Ext W2 _ => hx; rename Blk _ q _ _ => hk
            have d1 := hk.cell 1 rfl; have z1 := hk.frozen 1; go_upto_region 13 with (fail); refine wp_gen (fun W => IR W M q _ ∧ Ext W2 W ∧ Blk W q [.int .i64 u, .int .u8 3, .bool m] 30) ⟨hI.set 1 _, hx.setCell (by simp; omega) _, hk.set 1 (.int .u8 3)⟩ ?_; clear hI hx hk d1 z1; rintro W4 ⟨hI, hx, hk⟩; have hown := hI.own 2 _ _ rfl; have hql := hk.lt; go_upto_region 6 with (first | (refine wpList_load_blk rfl 30 (.tmp 9) rfl q rfl (cs := [.int .i64 u, .int .u8 3, .bool m]) rowItem hk ?_) | (refine wpList_append_item rfl (.tmp 51) (.tmp 53) rfl M _ (typed (l.take j) 3) rfl (Owns.ext hown ((Ext.refl W4).alloc _)) W4.heap.size 1 ⟨u, 3, m⟩ rfl (Blk.newAt W4 [.int .i64 u, .int .u8 3, .bool m] _ _ rfl) (by rw [typed_length]; omega) (Nat.le_trans hI.low (by rw [World.size_alloc]; omega)) ?_; intro v' W5 o5 g5 s5)); have hI5 := (hI.ext ((Ext.refl W4).alloc _)).step (i := 2) rfl (by rw [World.size_alloc]; omega) o5 g5 s5; have hx5 := Grown.toExt (hx.alloc _) g5 (fun k hk => by rw [hM]; exact ((hown.lt k hk).1)); have hk5 := Grown.blk g5 (hk.alloc _) (fun e => hI.off 2 _ _ rfl e.symm); simp only [List.set_cons_zero, List.set_cons_succ] at hI5; clear hI hx hk hown hql o5 g5 s5; rename IR _ _ _ _ => hI; rename Ext W2 _ => hx; rename Blk _ q _ _ => hk
            have T1 := Lib.hid (typed_step he 1)
            have T2 := Lib.hid (typed_step he 2)
            have T3 := Lib.hid (typed_step he 3)
            go_wp2_with fail
            go_roundw
            case rel => exact ⟨j + 1, by omega, by go_num, by rw [T1.out, T2.out, T3.out]; exact hI.fresh (Nat.le_refl _), hx⟩
            case measure => simp [RowKit.intOf]; omega
          · obtain rfl : j = l.length := by omega
            rw [List.take_of_length_le (Nat.le_refl _)] at hI
            have o1 := hI.own 0 _ _ rfl
            have o2 := hI.own 1 _ _ rfl
            have o3 := hI.own 2 _ _ rfl
            obtain ⟨A1, c1, rfl, n1, r1, _⟩ := OwnsI.rd o1
            obtain ⟨A2, c2, rfl, n2, r2, _⟩ := OwnsI.rd o2
            obtain ⟨A3, c3, rfl, n3, r3, _⟩ := OwnsI.rd o3
            replace hb := hb.ext hx
            replace h := h.ext hx
            have hx3 := hx2.trans hx
            clear hI o1 o2 o3 hr hx
            go_upto_region 14 with (fail)
            have hlen := HT10.out
            rename World => W3
            have H1 := Lib.hid h1
            go_upto_region 15 with (first | (refine wpList_load_blk rfl 24 (.tmp 2) rfl G rfl HT.out hb ?_) | (refine wpList_store_blk rfl 24 (.tmp 10) (.tmp 55) rfl W3.heap.size rfl cs rfl (cs' := [.slice none 0 0, .slice none 0 0, .slice none 0 0, .slice none 0 0, .slice none 0 0, .slice none 0 0, .slice none 0 0, .slice none 0 0, .slice none 0 0, .slice none 0 0]) (Blk.newAt W3 [.slice none 0 0, .slice none 0 0, .slice none 0 0, .slice none 0 0, .slice none 0 0, .slice none 0 0, .slice none 0 0, .slice none 0 0, .slice none 0 0, .slice none 0 0] _ _ rfl) HT.out (by rw [hlen]; rfl) H1.out ?_; intro W4 kA bA))
            have x4 : Ext W3 W4 := But.toExt ((Ext.refl W3).alloc _) bA (Nat.le_refl _)
            obtain ⟨q, hq⟩ : ∃ q, W3.heap.size = q := ⟨_, rfl⟩
            have hGq : G < q := by rw [← hq]; exact hb.lt
            have hqn : W3.heap.size ≤ q := by omega
            rw [hq] at kA ⊢
            have hb4 := hb.ext x4
            have h0 := h
            obtain ⟨B4, d4, rs4, B5, d5, rs5, _, g4, g5, k4, k5, ha4, hb5, m4, m5, p4, p5⟩ := h0
            have f5 := hb4.cell 5 g5
            have f4 := hb4.cell 4 g4
            have j4 := kA.cell 4 g4
            have j5 := kA.cell 5 g5
            have z4 := kA.frozen 4
            have z5 := kA.frozen 5
            have kB := (kA.set 4 (.slice B5 rs5.length d5)).set 5 (.slice B4 rs4.length d4)
            obtain ⟨cs', hcs'⟩ : ∃ cs' : List Value, (cs.set 4 (.slice B5 rs5.length d5)).set 5 (.slice B4 rs4.length d4) = cs' := ⟨_, rfl⟩
            have hgr' : GR W3 cs' be af := ⟨B5, d5, rs5, B4, d4, rs4, by rw [← hcs']; simpa using hlen, by rw [← hcs', List.getElem?_set_ne (by omega), List.getElem?_set_self (by omega)], by rw [← hcs', List.getElem?_set_self (by rw [List.length_set]; omega)], k5, k4, hb5, ha4, m5, m4, p5, p4⟩
            have HT' := Lib.hid (show isRowT Try.prog 24 cs'.length by
              have : cs'.length = cs.length := by rw [← hcs']; simp
              rw [this]; exact HT.out)
            rw [hcs'] at kB
            have x6 : Ext W3 ((W4.setCell ⟨q, 4, none⟩ (.slice B5 rs5.length d5)).setCell ⟨q, 5, none⟩ (.slice B4 rs4.length d4)) := (x4.setCell (by simpa using hqn) _).setCell (by simpa using hqn) _
            have hb6 : Blk ((W4.setCell ⟨q, 4, none⟩ (.slice B5 rs5.length d5)).setCell ⟨q, 5, none⟩ (.slice B4 rs4.length d4)) G cs 24 := (hb4.other (by simp; omega) _).other (by simp; omega) _
            have hGR := Lib.hid (h.ext x6)
            have hGR' := Lib.hid (hgr'.ext x6)
            have hR1 := r1.ext x6
            have hR2 := r2.ext x6
            have hR3 := r3.ext x6
            have hX := hx3.trans x6
            clear hcs' hlen k4 k5 m4 m5 p4 p5 g4 g5 ha4 hb5 bA hb h r1 r2 r3 hgr' x6 x4 hq hb4
            go_upto_region 17 with (fail)
            refine wp_gen (fun W => Blk W G cs 24 ∧ Blk W q cs' 24 ∧ GR W cs af be ∧ GR W cs' be af ∧ RdI W A1 (typed l 1) ∧ RdI W A2 (typed l 2) ∧ RdI W A3 (typed l 3) ∧ Ext w W) ⟨hb6, kB, hGR.out, hGR'.out, hR1, hR2, hR3, hX⟩ ?_
            clear hb6 kB hGR hGR' hR1 hR2 hR3 hX kA f4 f5 z4 z5 j4 j5
            rintro W7 ⟨kG, kQ, hg, hg', q1, q2, q3, hx⟩
            have n30 : ∀ t, (typed l t).length ≤ 64 := fun t => by rw [typed_length]; omega
            have R1 := Lib.hid fun W (x : Ext W7 W) => Ring_calls cs af be (typed l 1) A1 c1 W (hg.ext x) (q1.ext x) (n30 1) n1
            have R2 := Lib.hid fun W (x : Ext W7 W) => Ring_calls cs' be af (typed l 1) A1 c1 W (hg'.ext x) (q1.ext x) (n30 1) n1
            have R3 := Lib.hid fun W (x : Ext W7 W) => Ring_calls cs af be (typed l 2) A2 c2 W (hg.ext x) (q2.ext x) (n30 2) n2
            have R4 := Lib.hid fun W (x : Ext W7 W) => Ring_calls cs af be (typed l 3) A3 c3 W (hg.ext x) (q3.ext x) (n30 3) n3
            have R5 := Lib.hid fun W (x : Ext W7 W) => Ring_calls cs' be af (typed l 2) A2 c2 W (hg'.ext x) (q2.ext x) (n30 2) n2
            have E1 := turned_starts af be l
            have E2 := turned_stops af be l
            have E3 := turned_again af be l
            have E4 := (turned_stops be af l).trans E1
            generalize RingL (nextL af be (typed l 1)) = L1 at R1 E1 E2 E3 E4
            generalize RingL (nextL be af (typed l 1)) = L2 at R2 E1
            generalize RingL (nextL af be (typed l 2)) = L3 at R3 E2
            generalize RingL (nextL af be (typed l 3)) = L4 at R4 E3
            generalize RingL (nextL be af (typed l 2)) = L5 at R5 E4
            rw [E1] at R2
            rw [E2] at R3
            rw [E3] at R4
            rw [E4] at R5
            clear E1 E2 E3 E4 n30 hg hg' q1 q2 q3
            go_wp2_with (first | (refine wpList_load_blk rfl 24 (.tmp 2) rfl G rfl HT.out kG ?_) | (refine wpList_load_blk rfl 24 (.tmp 10) rfl q rfl HT'.out kQ ?_))
            refine (R1.out _ (Ext.refl _)).mono ?_
            rintro e W8 ⟨B8, c8, rfl, _, x8⟩
            have kG8 := kG.ext x8
            have kQ8 := kQ.ext x8
            go_wp2_with (first | (refine wpList_load_blk rfl 24 (.tmp 2) rfl G rfl HT.out kG8 ?_) | (refine wpList_load_blk rfl 24 (.tmp 10) rfl q rfl HT'.out kQ8 ?_))
            refine (R2.out _ x8).mono ?_
            rintro e W9 ⟨B9, c9, rfl, _, y9⟩
            have x9 := x8.trans y9
            have kG9 := kG.ext x9
            have kQ9 := kQ.ext x9
            clear y9
            go_wp2_with (first | (refine wpList_load_blk rfl 24 (.tmp 2) rfl G rfl HT.out kG9 ?_) | (refine wpList_load_blk rfl 24 (.tmp 10) rfl q rfl HT'.out kQ9 ?_))
            refine (R3.out _ x9).mono ?_
            rintro e W10 ⟨B10, c10, rfl, _, y10⟩
            have x10 := x9.trans y10
            have kG10 := kG.ext x10
            have kQ10 := kQ.ext x10
            clear y10
            go_wp2_with (first | (refine wpList_load_blk rfl 24 (.tmp 2) rfl G rfl HT.out kG10 ?_) | (refine wpList_load_blk rfl 24 (.tmp 10) rfl q rfl HT'.out kQ10 ?_))
            refine (R4.out _ x10).mono ?_
            rintro e W11 ⟨B11, c11, rfl, _, y11⟩
            have x11 := x10.trans y11
            have kG11 := kG.ext x11
            have kQ11 := kQ.ext x11
            clear y11
            go_wp2_with (first | (refine wpList_load_blk rfl 24 (.tmp 2) rfl G rfl HT.out kG11 ?_) | (refine wpList_load_blk rfl 24 (.tmp 10) rfl q rfl HT'.out kQ11 ?_))
            refine (R5.out _ x11).mono ?_
            rintro e W12 ⟨B12, c12, rfl, _, y12⟩
            have x12 := x11.trans y12
            have kG12 := kG.ext x12
            have kQ12 := kQ.ext x12
            clear y12
            go_wp2_with (first | (refine wpList_load_blk rfl 24 (.tmp 2) rfl G rfl HT.out kG12 ?_) | (refine wpList_load_blk rfl 24 (.tmp 10) rfl q rfl HT'.out kQ12 ?_))
            refine (HW.out _).mono ?_
            rintro e W13 ⟨rfl, y13⟩
            go_wp2_with fail
            go_ret
            exact ⟨rfl, hx.trans (x12.trans y13)⟩
end Go.Proofs.Ythlobpdcolgcoaa
