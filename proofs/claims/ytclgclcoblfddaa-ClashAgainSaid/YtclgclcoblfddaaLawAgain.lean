/- Chapter 22: the law ClashAgain. -/
import Derived.Test.YtclgclcoblfddaaWorks22
import Derived.Test.YtclgclcoblfddaaAgainL
import Derived.Test.YtclgclcoblfddaaGuards22
import Derived.Test.YtclgclcoblfddaaItems22
namespace Go.Proofs.Ytclgclcoblfddaa
open Go.RowKit Go.Lib
set_option linter.unusedVariables false
set_option linter.unusedSimpArgs false
theorem G7.rd.ext {w W : World} {G : G7} (h : G.rd w) (hx : Ext w W) : G.rd W := ⟨h.k0.ext hx, h.k1.ext hx, h.k2.ext hx, h.k6.ext hx, h.k7.ext hx, h.k8.ext hx, h.k9.ext hx⟩
theorem few22_ok {w : World} {G : G7} {n m : Nat} (h : G.rd w) (hf : fewB G.l n m = true) : G.ok w ∧ n ≤ 14 ∧ m ≤ 30 := by
  simp only [fewB, G7.l, Bool.and_eq_true, decide_eq_true_iff] at hf
  obtain ⟨⟨⟨⟨⟨⟨⟨⟨h0, h1⟩, h2⟩, h6⟩, h7⟩, h8⟩, h9⟩, hn⟩, hm⟩ := hf
  exact ⟨⟨h.k0.ok h0, h.k1.ok h1, h.k2.ok h2, h.k6.ok h6, h.k7.ok h7, h.k8.ok h8, h.k9.ok h9⟩, hn, hm⟩
set_option maxRecDepth 100000 in
set_option maxHeartbeats 4000000 in
theorem again_calls (G : G7) (Aon : Option Addr) (con : Nat) (on : List Bool) (u t : Int) (ban : List Jb) (Ab : Option Addr) (cb : Nat) (w : World)
    (hG : G.rd w) (hon : RdV w Aon (on.map .bool)) (hol : on.length ≤ maxLen) (hb : RdJ w Ab ban) (hbl : ban.length ≤ maxLen) (hcb : ban.length ≤ cb) :
    Calls Try.prog 9 #[.agg G.cs.toArray, .slice Aon on.length con, .agg #[.int .i64 u, .int .u8 t], .slice Ab ban.length cb] w fun e w' => e = .returned (.bool true) ∧ Ext w w' := by
  have HFEW := Lib.hid (fun W (hx : Ext w W) => few22_calls G Aon Ab on.length ban.length con cb W (hG.ext hx) hol hbl)
  have HWK := Lib.hid works22_calls
  have HT := Lib.hid (rowG7 G)
  obtain ⟨q, hq⟩ : ∃ q, w.heap.size = q := ⟨_, rfl⟩
  cases hf : fewB G.l on.length ban.length with
  | false =>
    rw [hf] at HFEW
    clear hG hon hb hf
    go_enter Try.func9, Try.ntmps9
    go_upto_region 1 with (fail)
    refine wp_gen (fun W => Blk W q G.cs 24 ∧ Blk W (q + 1) [.int .i64 u, .int .u8 t] 32 ∧ Ext w W) ⟨(Blk.newAt w _ _ _ hq.symm).alloc _, Blk.newAt _ _ _ _ (by simp [hq]), ((Ext.refl w).alloc _).alloc _⟩ ?_
    rintro W0 ⟨bg, ba, hx0⟩
    go_wp2_with (first | (refine wpList_load_blk rfl 24 (.tmp 4) rfl q rfl HT.out bg ?_) | (go_at_call 28; refine (HFEW.out _ hx0).mono ?_; rintro e W1 ⟨rfl, hx1⟩) | (go_at_call 29; refine (HWK.out _).mono ?_; rintro e W2 ⟨rfl, hx2⟩))
    go_ret
    exact ⟨rfl, Ext.trans hx0 (Ext.trans hx1 hx2)⟩
  | true =>
    obtain ⟨hok, hn, hm⟩ := few22_ok hG hf
    rw [hf] at HFEW
    clear hG hf hol hbl
    by_cases hin : 0 ≤ u ∧ u < on.length ∧ knownB t = true
    · have HF1 := Lib.hid (fun W (hx : Ext w W) => free_calls W G Aon con on u t ban Ab cb (hok.ext hx) (hon.ext hx) (by omega) (hb.ext hx) (by omega) hcb hin)
      have HF2 := Lib.hid (fun W (hx : Ext w W) (bs : List Jb) A2 c2 (hr : RdJ W A2 bs) (hl : bs.length ≤ 1000) (hc : bs.length ≤ c2) => free_calls W G Aon con on u t bs A2 c2 (hok.ext hx) (hon.ext hx) (by omega) hr hl hc hin)
      have hfa := free_again G.l on ban (u, t) hin
      obtain ⟨R, hR⟩ : ∃ R, freeL G.l on ban (u, t) = R := ⟨_, rfl⟩
      rw [hR] at HF1 hfa
      clear hR
      rcases hfa with rfl | ⟨h0, h1, h2, h3, h4, h5⟩
      · clear HF2 hok hon hb
        go_enter Try.func9, Try.ntmps9
        go_upto_region 1 with (fail)
        refine wp_gen (fun W => Blk W q G.cs 24 ∧ Blk W (q + 1) [.int .i64 u, .int .u8 t] 32 ∧ Ext w W) ⟨(Blk.newAt w _ _ _ hq.symm).alloc _, Blk.newAt _ _ _ _ (by simp [hq]), ((Ext.refl w).alloc _).alloc _⟩ ?_
        rintro W0 ⟨bg, ba, hx0⟩
        go_upto_region 3 with (first | (refine wpList_load_blk rfl 24 (.tmp 4) rfl q rfl HT.out bg ?_) | (go_at_call 28; refine (HFEW.out _ hx0).mono ?_; rintro e W1 ⟨rfl, hx1⟩))
        have hx01 := Ext.trans hx0 hx1
        have bg1 := bg.ext hx1
        have ba1 := ba.ext hx1
        have a0 := ba1.cell 0 rfl
        have a1 := ba1.cell 1 rfl
        have H1 := Lib.hid (HF1.out W1 hx01)
        go_upto_region 4 with (first | (refine wpList_load_blk rfl 24 (.tmp 4) rfl q rfl HT.out bg1 ?_) | (go_at_call 30; refine H1.out.mono ?_; rintro e W3 ⟨v1, v2, rfl, o1, o2, hx3⟩))
        obtain ⟨A1, c1, rfl, hc1, hr1, _⟩ := OwnsI.rd o1
        obtain ⟨A2, c2, rfl, hc2, hr2, _⟩ := OwnsJ.rd o2
        simp only [List.length_nil] at *
        clear o1 o2 hr1 hr2 H1 a0 a1
        go_wp2_with (go_at_call 29; refine (HWK.out _).mono ?_; rintro e W2 ⟨rfl, hx2⟩)
        go_ret
        exact ⟨rfl, Ext.trans hx01 (Ext.trans hx3 hx2)⟩
      · obtain ⟨l, bans, code⟩ := R
        simp only at h0 h1 h2 h3 h4 h5
        subst h0
        have hl2 : bans.length ≤ 1000 := by omega
        have hl1 : l.length ≤ 1000000 := by omega
        have HMEM := Lib.hid h3
        have H1R := Lib.hid h1
        have HV := Lib.hid h2
        have HBR := Lib.hid (fun W (hx : Ext w W) => hb.ext hx)
        clear hok hon hb h3 h1 h2 h4 h5
        go_enter Try.func9, Try.ntmps9
        go_upto_region 1 with (fail)
        refine wp_gen (fun W => Blk W q G.cs 24 ∧ Blk W (q + 1) [.int .i64 u, .int .u8 t] 32 ∧ Ext w W) ⟨(Blk.newAt w _ _ _ hq.symm).alloc _, Blk.newAt _ _ _ _ (by simp [hq]), ((Ext.refl w).alloc _).alloc _⟩ ?_
        rintro W0 ⟨bg, ba, hx0⟩
        go_upto_region 3 with (first | (refine wpList_load_blk rfl 24 (.tmp 4) rfl q rfl HT.out bg ?_) | (go_at_call 28; refine (HFEW.out _ hx0).mono ?_; rintro e W1 ⟨rfl, hx1⟩))
        have hx01 := Ext.trans hx0 hx1
        have bg1 := bg.ext hx1
        have ba1 := ba.ext hx1
        have a0 := ba1.cell 0 rfl
        have a1 := ba1.cell 1 rfl
        have H1 := Lib.hid (HF1.out W1 hx01)
        go_upto_region 4 with (first | (refine wpList_load_blk rfl 24 (.tmp 4) rfl q rfl HT.out bg1 ?_) | (go_at_call 30; refine H1.out.mono ?_; rintro e W3 ⟨v1, v2, rfl, o1, o2, hx3⟩))
        (try dsimp only at o1 o2)
        obtain ⟨A1, c1, rfl, hc1, hr1, _⟩ := OwnsI.rd o1
        obtain ⟨A2, c2, rfl, hc2, hr2, _⟩ := OwnsJ.rd o2
        have hx03 := Ext.trans hx01 hx3
        have bg3 := bg1.ext hx3
        have ba3 := ba1.ext hx3
        have H2 := HF2.out W3 hx03 bans A2 c2 hr2 hl2 hc2
        rw [H1R.out] at H2
        replace H2 := Lib.hid H2
        have HR1 := Lib.hid hr1
        have HR2 := Lib.hid hr2
        clear o1 o2 hr1 hr2 H1 a0 a1 bg ba hx1 bg1 ba1 hx3 hx01 hx0
        have a0 := ba3.cell 0 rfl
        have a1 := ba3.cell 1 rfl
        go_upto_region 7 with (first | (refine wpList_load_blk rfl 24 (.tmp 4) rfl q rfl HT.out bg3 ?_) | (go_at_call 30; refine H2.out.mono ?_; rintro e W4 ⟨v3, v4, rfl, o3, o4, hx4⟩))
        (try dsimp only at o3 o4)
        obtain ⟨A3, c3, rfl, hc3, hr3, _⟩ := OwnsI.rd o3
        obtain ⟨A4, c4, rfl, hc4, hr4, _⟩ := OwnsJ.rd o4
        have HR3 := Lib.hid hr3
        have HR4 := Lib.hid hr4
        have hx04 := Ext.trans hx03 hx4
        have H3 := vict_calls l A1 c1 W4 (HR1.out.ext hx4) hl1
        rw [HV.out] at H3
        replace H3 := Lib.hid H3
        clear o3 o4 hr3 hr4 H2 a0 a1 ba3
        go_upto_region 8 with (go_at_call 39; refine H3.out.mono ?_; rintro e W5 ⟨rfl, hx5⟩)
        refine wp_gen (fun W => Ext W4 W) (Ext.alloc hx5 _) ?_
        clear H3 hx5
        rintro W6 hx6
        have q3 := HR3.out.ext hx6
        have q1 := (HR1.out.ext hx4).ext hx6
        have q4 := HR4.out.ext hx6
        have q2 := (HR2.out.ext hx4).ext hx6
        have HI3 := Lib.hid (fun W (hx : Ext W6 W) => items22_calls l A3 c3 W (q3.ext hx) hl1)
        have HI1 := Lib.hid (fun W (hx : Ext W6 W) => items22_calls l A1 c1 W (q1.ext hx) hl1)
        have HA4 := Lib.hid (fun W (hx : Ext W6 W) => all22_calls bans A4 c4 W (q4.ext hx) (by omega))
        have HA2 := Lib.hid (fun W (hx : Ext W6 W) => all22_calls bans A2 c2 W (q2.ext hx) (by omega))
        clear q1 q2 q3 q4
        go_upto_region 10 with (first
          | (go_at_call 36; with_reducible refine (HI3.out _ (Ext.refl _)).mono ?_; rintro e V1 ⟨x1, rfl, p1, y1⟩)
          | (go_at_call 36; with_reducible refine (HI1.out _ y1).mono ?_; rintro e V2 ⟨x2, rfl, p2, y2⟩; obtain ⟨X1, k1, rfl, _, r1, _⟩ := OwnsI.rd p1; obtain ⟨X2, k2, rfl, _, r2, _⟩ := OwnsI.rd p2; have z2 := Ext.trans y1 y2; have S1 := Lib.hid (same22_calls l l X1 X2 k1 k2 V2 (r1.ext y2) r2 hl1 hl1 true ⟨fun _ => rfl, fun _ => rfl⟩))
          | (go_at_call 35; with_reducible refine S1.out.mono ?_; rintro e V3 ⟨rfl, y3⟩; have z3 := Ext.trans z2 y3)
          | (go_at_call 34; with_reducible refine (HA4.out _ z3).mono ?_; rintro e V4 ⟨x4, rfl, p4, y4⟩; have z4 := Ext.trans z3 y4)
          | (go_at_call 34; with_reducible refine (HA2.out _ z4).mono ?_; rintro e V5 ⟨x5, rfl, p5, y5⟩; obtain ⟨X4, k4, rfl, _, r4, _⟩ := OwnsI.rd p4; obtain ⟨X5, k5, rfl, _, r5, _⟩ := OwnsI.rd p5; have z5 := Ext.trans z4 y5; have S2 := Lib.hid (same22_calls (bans.map rfJ) (bans.map rfJ) X4 X5 k4 k5 V5 (r4.ext y5) r5 (by rw [List.length_map]; omega) (by rw [List.length_map]; omega) true ⟨fun _ => rfl, fun _ => rfl⟩); simp only [List.length_map] at S2)
          | (go_at_call 35; with_reducible refine S2.out.mono ?_; rintro e V6 ⟨rfl, y6⟩; have z6 := Ext.trans z5 y6))
        have hx46 : Ext W4 V6 := Ext.trans hx6 z6
        have hxw6 : Ext w V6 := Ext.trans hx04 hx46
        have HQ2 := Lib.hid (fun W (hx : Ext V6 W) => (HR2.out.ext hx4).ext (Ext.trans hx46 hx))
        have HQB := Lib.hid (fun W (hx : Ext V6 W) => HBR.out W (Ext.trans hxw6 hx))
        clear HI1 HI3 HA2 HA4 p1 p2 p4 p5 r1 r2 r4 r5 S1 S2 y1 y2 y3 y4 y5 y6 z2 z3 z4 z5 z6 hx6 hx46 hx4 hx04 HR1 HR2 HR3 HR4 HBR bg3 HF1 HF2 H1R HV HFEW HT hx03
        go_wp2_with fail
        go_loopw [18] (fun iv W => ∃ k : Nat, k ≤ ban.length ∧ iv = .int .i64 k ∧ Ext V6 W) (fun iv _ => ban.length - (RowKit.intOf iv).toNat)
        case atStart => exact ⟨0, by omega, rfl, Ext.refl _⟩
        case round =>
          obtain ⟨k, hk, rfl, hx⟩ := hrel
          by_cases hlt : k < ban.length
          · have hlti : (k : Int) < ban.length := by omega
            obtain ⟨bb, ob, ub, tb, rfl, he, f1, f2⟩ := (HQB.out _ hx).at hlt
            have hmem := HMEM.out _ (List.mem_of_getElem? he)
            have HM := Lib.hid hmem
            clear hmem he
            go_upto_region 15 with (fail)
            go_loopw [19, 20] (fun nv jv W => ∃ (j : Nat) (f : Bool), j ≤ bans.length ∧ nv = .bool f ∧ jv = .int .i64 j ∧ (f = true ↔ (ub, tb) ∈ bans.take j) ∧ Ext wr W) (fun _ jv _ => bans.length - (RowKit.intOf jv).toNat)
            case atStart => exact ⟨0, false, by omega, rfl, rfl, by simp, Ext.refl _⟩
            case round =>
              obtain ⟨j, f, hj, rfl, rfl, hff, hy⟩ := hrel
              have HFF := Lib.hid hff
              clear hff
              by_cases hlj : j < bans.length
              · have hlji : (j : Int) < bans.length := by omega
                obtain ⟨b2, o2, u2, t2, rfl, he2, g1, g2⟩ := (HQ2.out _ (Ext.trans hx hy)).at hlj
                have HE2 := Lib.hid he2
                have d1 : ∀ W, Ext wr W → W.cell? ⟨b2, o2 + j * 2, none⟩ = some (.int .i64 u2) := fun W h => h.cell g1
                have d2 : ∀ W, Ext wr W → W.cell? ⟨b2, o2 + j * 2 + 1, none⟩ = some (.int .u8 t2) := fun W h => h.cell g2
                have d3 : ∀ W, Ext wr W → W.cell? ⟨bb, ob + k * 2, none⟩ = some (.int .i64 ub) := fun W h => (Ext.trans hy h).cell f1
                have d4 : ∀ W, Ext wr W → W.cell? ⟨bb, ob + k * 2 + 1, none⟩ = some (.int .u8 tb) := fun W h => (Ext.trans hy h).cell f2
                have heq := eqlJob (u2, t2) (ub, tb)
                dsimp only at heq
                have HHY := Lib.hid hy
                have HHX := Lib.hid hx
                clear he2 g1 g2 hx hy
                cases f
                · obtain ⟨c, hc⟩ : ∃ c, decide ((u2, t2) = (ub, tb)) = c := ⟨_, rfl⟩
                  rw [hc] at heq
                  have HC := Lib.hid hc
                  clear hc
                  go_upto_region 17 with (fail)
                  refine wp_region_mix (fun W => Ext wr W) 10 [(0, true), (1, true), (2, true), (3, true), (4, true), (5, true), (6, true), (7, true), (8, true), (9, true), (10, false), (11, false), (12, false)] (by kernel_rfl) (by kernel_rfl) ((Ext.refl wr).drew) ?_
                  iterate 10 (first | (apply mix_read; (case ho => rfl); (case hw => rfl); (case h1 => intro W' hx; have d1' := d1 W' hx; have d2' := d2 W' hx; have d3' := d3 W' hx; have d4' := d4 W' hx; go_simp; (try go_bits); with_reducible rfl); (case hp => go_simp; first | done | with_reducible rfl)) | (apply mix_skip; (case ho => rfl); (case hw => rfl); (case hp => go_simp; first | done | with_reducible rfl)))
                  clear d1 d2 d3 d4
                  refine mix_end 10 (by kernel_rfl) (by kernel_rfl) ?_; simp only [List.take_succ_cons, List.take_zero, List.drop_succ_cons, List.drop_zero]; unfold Q0
                  go_wp2_with fail
                  go_roundw
                  case rel => exact ⟨j + 1, _, by omega, rfl, by go_num, by
                    rw [List.take_add_one, HE2.out, ← HC.out]
                    have := HFF.out
                    simp only [decide_eq_true_eq, Option.toList_some, List.mem_append, List.mem_singleton]
                    exact ⟨fun h => .inr h.symm, fun h => h.elim (fun h => absurd (this.2 h) (by decide)) fun h => h.symm⟩, Ext.trans HHY.out (Ext.refl wr).drew⟩
                  case measure => simp [RowKit.intOf]; omega
                · go_upto_region 17 with (fail)
                  refine wp_region_mix (fun W => Ext wr W) 10 [(0, true), (1, true), (2, true), (3, true), (4, true), (5, true), (6, true), (7, true), (8, true), (9, true), (10, false), (11, false), (12, false)] (by kernel_rfl) (by kernel_rfl) ((Ext.refl wr).drew) ?_
                  iterate 10 (first | (apply mix_read; (case ho => rfl); (case hw => rfl); (case h1 => intro W' hx; have d1' := d1 W' hx; have d2' := d2 W' hx; have d3' := d3 W' hx; have d4' := d4 W' hx; go_simp; (try go_bits); with_reducible rfl); (case hp => go_simp; first | done | with_reducible rfl)) | (apply mix_skip; (case ho => rfl); (case hw => rfl); (case hp => go_simp; first | done | with_reducible rfl)))
                  clear d1 d2 d3 d4
                  refine mix_end 10 (by kernel_rfl) (by kernel_rfl) ?_; simp only [List.take_succ_cons, List.take_zero, List.drop_succ_cons, List.drop_zero]; unfold Q0
                  go_wp2_with fail
                  go_roundw
                  case rel => exact ⟨j + 1, true, by omega, rfl, by go_num, ⟨fun _ => by
                    rw [List.take_add_one]
                    exact List.mem_append_left _ (HFF.out.1 rfl), fun _ => rfl⟩, Ext.trans HHY.out (Ext.refl wr).drew⟩
                  case measure => simp [RowKit.intOf]; omega
              · obtain rfl : j = bans.length := by omega
                have htr : f = true := HFF.out.2 (by rw [List.take_of_length_le (Nat.le_refl _)]; exact HM.out)
                subst htr
                go_wp2_with fail
                go_roundw
                case rel => exact ⟨k + 1, by omega, by go_num, Ext.trans hx hy⟩
                case measure => simp [RowKit.intOf]; omega
          · obtain rfl : k = ban.length := by omega
            go_wp2_with (go_at_call 29; refine (HWK.out _).mono ?_; rintro e W8 ⟨rfl, hx8⟩)
            go_ret
            exact ⟨rfl, Ext.trans hxw6 (Ext.trans hx hx8)⟩
    · have HFA := Lib.hid (fun W => free_arg W G Aon con on u t ban Ab cb hin)
      clear hok hon hb
      go_enter Try.func9, Try.ntmps9
      go_upto_region 1 with (fail)
      refine wp_gen (fun W => Blk W q G.cs 24 ∧ Blk W (q + 1) [.int .i64 u, .int .u8 t] 32 ∧ Ext w W) ⟨(Blk.newAt w _ _ _ hq.symm).alloc _, Blk.newAt _ _ _ _ (by simp [hq]), ((Ext.refl w).alloc _).alloc _⟩ ?_
      rintro W0 ⟨bg, ba, hx0⟩
      go_upto_region 3 with (first | (refine wpList_load_blk rfl 24 (.tmp 4) rfl q rfl HT.out bg ?_) | (go_at_call 28; refine (HFEW.out _ hx0).mono ?_; rintro e W1 ⟨rfl, hx1⟩))
      have hx01 := Ext.trans hx0 hx1
      have bg1 := bg.ext hx1
      have ba1 := ba.ext hx1
      have a0 := ba1.cell 0 rfl
      have a1 := ba1.cell 1 rfl
      have H1 := Lib.hid (HFA.out W1)
      go_wp2_with (first | (refine wpList_load_blk rfl 24 (.tmp 4) rfl q rfl HT.out bg1 ?_) | (go_at_call 30; refine H1.out.mono ?_; rintro e W3 ⟨rfl, hx3⟩) | (go_at_call 29; refine (HWK.out _).mono ?_; rintro e W2 ⟨rfl, hx2⟩))
      go_ret
      exact ⟨rfl, Ext.trans hx01 (Ext.trans hx3 hx2)⟩
end Go.Proofs.Ytclgclcoblfddaa
