/- Chapter 19: GraphAhead holds. -/
import Derived.Test.YtdpfppibbnjemaaLawGraph
namespace Go.Proofs.Ytdpfppibbnjemaa
open Go.RowKit Go.Shelf
set_option linter.unusedVariables false
set_option linter.unusedSimpArgs false
set_option maxRecDepth 100000 in
set_option maxHeartbeats 4000000 in
theorem graphAhead_calls (l : List NR) (A : Option Addr) (cap : Nat) (a b : Int) (w : World) (hr : RdN w A l) (hL : Long l) :
    Calls Try.prog 4 #[.slice A l.length cap, .int .i64 a, .int .i64 b] w fun e w' => e = .returned (.bool true) ∧ Ext w w' := by
  have HSH := Lib.hid (short_calls l A cap w hr hL.len hL.names)
  by_cases hsh : shortB l = true
  · obtain ⟨h40, hnd, hsm⟩ := shortB_parts hsh
    rw [hsh] at HSH
    have HT := Lib.hid fun W (hx : Ext w W) => table_calls l A cap W (hr.ext hx) (by omega)
    have HG := Lib.hid fun B c W hu (hx : Ext w W) => graph_calls l B c W hu (fun x hm => (hr.2 x hm).ext hx) hnd hsm
    have HP := Lib.hid fun W (hx : Ext w W) => plain_calls l A cap W (hr.ext hx) (by omega)
    have HSM := Lib.hid hsm
    have hn0 : l.length ≤ 40 := h40
    clear hsh hnd hsm hL
    go_enter Try.func4, Try.ntmps4
    go_upto_region 3 with (go_at_call 11; refine HSH.out.mono ?_; rintro e W0 ⟨rfl, hx0⟩)
    clear HSH
    go_upto_region 4 with (first | (go_at_call 13; refine (HT.out _ hx0).mono ?_; rintro e W1 ⟨BU, cu, rfl, hu, hx1⟩) | (go_at_call 14; refine (HG.out _ _ _ hu (hx0.trans hx1)).mono ?_; rintro e W3 ⟨cs, rfl, hgv, hx3⟩) | (refine wpList_store_blk rfl 31 (.tmp 7) (.tmp 17) rfl W3.heap.size rfl cs rfl (Blk.newAt W3 _ _ _ rfl) (rowGT _ hgv.1) (by rw [hgv.1]; rfl) hgv.one ?_; intro W4 hb4 hbut))
    have hx34 : Ext W3 W4 := But.toExt ((Ext.refl W3).alloc _) hbut (Nat.le_refl _)
    have hg4 := hgv.ext hx34
    have hx4 := ((hx0.trans hx1).trans hx3).trans hx34
    obtain ⟨G, hGe⟩ : ∃ G, W3.heap.size = G := ⟨_, rfl⟩
    rw [hGe] at hb4 ⊢
    clear hGe hgv hbut hx34 hu hx1 hx3 HG HT
    go_upto_region 5 with (go_at_call 15; refine (HP.out _ hx4).mono ?_; rintro e W5 ⟨BP, cp, rfl, hp5, hx45⟩)
    have HB := Lib.hid (hb4.ext hx45)
    have HGR := Lib.hid ((hg4.ext hx45).gr (by omega))
    have HRG := Lib.hid (rowGT cs.length hg4.1)
    have HPN := Lib.hid hp5
    have HX := Lib.hid (hx4.trans hx45)
    have HA := Lib.hid fun W (hx : Ext W5 W) a b => (show Calls Try.prog 19 #[.agg cs.toArray, .int .i64 a, .int .i64 b] W fun e w' => e = .returned (.bool (aheadN l a b)) ∧ Ext W w' from by
      rw [← upB_eq]
      exact gahead_calls cs _ _ a b W (((hg4.ext hx45).gr (by omega)).ext hx))
    have HR := Lib.hid fun W (hx : Ext W5 W) a b => rahead_calls l BP cp a b W (hp5.ext hx) HSM.out
    clear hb4 hg4 hp5 hx4 hx45 HP
    obtain ⟨p, hp⟩ : ∃ p, aheadN l a b = p := ⟨_, rfl⟩
    have HA1 := Lib.hid fun W hx => HA.out W hx a b
    have HR1 := Lib.hid fun W hx => HR.out W hx a b
    rw [hp] at HA1 HR1
    clear hp
    go_upto_region 8 with (first | refine wpList_load_blk rfl 31 (.tmp 7) rfl G rfl HRG.out HB.out ?_ | (go_at_call 19; refine (HA1.out _ (Ext.refl _)).mono ?_; rintro e W6 ⟨rfl, y6⟩) | (go_at_call 20; refine (HR1.out _ y6).mono ?_; rintro e W7 ⟨rfl, y7⟩))
    have hy7 := y6.trans y7
    clear y6 y7 HA1 HR1
    go_loopw [9] (fun iv W => ∃ i : Int, iv = .int .i64 i ∧ -1 ≤ i ∧ i ≤ l.length + 1 ∧ Ext W5 W) (fun iv _ => ((l.length : Int) + 1 - RowKit.intOf iv).toNat)
    case atStart => exact ⟨-1, rfl, by omega, by omega, hy7⟩
    case round =>
      clear hy7
      obtain ⟨i, rfl, hi1, hi2, hy⟩ := hrel
      by_cases hlt : i ≤ l.length
      · go_upto_region 11 with (fail)
        go_loopw [10] (fun kv W => ∃ k : Int, kv = .int .i64 k ∧ -1 ≤ k ∧ k ≤ l.length + 1 ∧ Ext W5 W) (fun kv _ => ((l.length : Int) + 1 - RowKit.intOf kv).toNat)
        case atStart => exact ⟨-1, rfl, by omega, by omega, hy⟩
        case round =>
          clear hy
          obtain ⟨k, rfl, hk1, hk2, hy⟩ := hrel
          by_cases hkt : k ≤ l.length
          · obtain ⟨q, hq⟩ : ∃ q, aheadN l i k = q := ⟨_, rfl⟩
            have HA1 := Lib.hid fun W hx => HA.out W hx i k
            have HR1 := Lib.hid fun W hx => HR.out W hx i k
            rw [hq] at HA1 HR1
            clear hq
            have HBW := Lib.hid (HB.out.ext hy)
            go_upto_region 12 with (first | refine wpList_load_blk rfl 31 (.tmp 7) rfl G rfl HRG.out HBW.out ?_ | (go_at_call 19; refine (HA1.out _ hy).mono ?_; rintro e W6 ⟨rfl, y6⟩) | (go_at_call 20; refine (HR1.out _ (hy.trans y6)).mono ?_; rintro e W7 ⟨rfl, y7⟩))
            have hy7 := hy.trans (y6.trans y7)
            clear HA1 HR1 HBW y6 y7 hy
            go_wp2_with fail
            go_roundw
            case rel => exact ⟨k + 1, rfl, by omega, by omega, hy7⟩
            case measure => simp [RowKit.intOf]; omega
          · go_wp2_with fail
            go_roundw
            case rel => exact ⟨i + 1, rfl, by omega, by omega, hy⟩
            case measure => simp [RowKit.intOf]; omega
      · go_wp2_with (go_at_call 12; refine (works_calls _).mono ?_; rintro e V1 ⟨rfl, y1⟩)
        go_ret
        exact ⟨rfl, HX.out.trans (hy.trans y1)⟩
  · rw [Bool.not_eq_true] at hsh
    rw [hsh] at HSH
    clear hsh hr hL
    go_enter Try.func4, Try.ntmps4
    go_wp2_with (first | (go_at_call 11; refine HSH.out.mono ?_; rintro e W0 ⟨rfl, hx0⟩) | (go_at_call 12; refine (works_calls _).mono ?_; rintro e W1 ⟨rfl, hx1⟩))
    go_ret
    exact ⟨rfl, hx0.trans hx1⟩
end Go.Proofs.Ytdpfppibbnjemaa
