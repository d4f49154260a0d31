/- Chapter 19: GraphOf holds. -/
import Derived.Test.YtdpfppibbnjemaaWorks19
namespace Go.Proofs.Ytdpfppibbnjemaa
open Go.RowKit Go.Shelf
set_option linter.unusedVariables false
set_option linter.unusedSimpArgs false
theorem shortB_parts {l : List NR} (h : shortB l = true) : l.length ≤ 40 ∧ (l.map NR.name).Nodup ∧ Small l := by
  unfold shortB at h
  simp only [Bool.and_eq_true, decide_eq_true_eq] at h
  obtain ⟨h1, h2, h3⟩ := h
  refine ⟨h1, h2, ⟨by omega, fun x hx s hs => ?_⟩⟩
  have := List.all_eq_true.1 h3 x hx
  have := of_decide_eq_true (List.all_eq_true.1 this s hs)
  omega
structure Long (l : List NR) : Prop where
  len : l.length ≤ 9223372036854775807
  names : ∀ x ∈ l, ∀ s ∈ x.ks, s.ss.length ≤ 9223372036854775807
/-- Ten tables, cell by cell. -/
theorem GV.ten {W : World} {l : List NR} {cs : List Value} (h : GV W l.length cs (gAll l)) : ∃ A0 c0 A1 c1 A2 c2 A3 c3 A4 c4 A5 c5 A6 c6 A7 c7 A8 c8 A9 c9, cs = [.slice A0 l.length c0, .slice A1 l.length c1, .slice A2 l.length c2, .slice A3 l.length c3, .slice A4 l.length c4, .slice A5 l.length c5, .slice A6 l.length c6, .slice A7 l.length c7, .slice A8 l.length c8, .slice A9 l.length c9] := by
  obtain ⟨A0, c0, h0, _⟩ := h.2.2 0 _ rfl
  obtain ⟨A1, c1, h1, _⟩ := h.2.2 1 _ rfl
  obtain ⟨A2, c2, h2, _⟩ := h.2.2 2 _ rfl
  obtain ⟨A3, c3, h3, _⟩ := h.2.2 3 _ rfl
  obtain ⟨A4, c4, h4, _⟩ := h.2.2 4 _ rfl
  obtain ⟨A5, c5, h5, _⟩ := h.2.2 5 _ rfl
  obtain ⟨A6, c6, h6, _⟩ := h.2.2 6 _ rfl
  obtain ⟨A7, c7, h7, _⟩ := h.2.2 7 _ rfl
  obtain ⟨A8, c8, h8, _⟩ := h.2.2 8 _ rfl
  obtain ⟨A9, c9, h9, _⟩ := h.2.2 9 _ rfl
  have hl := h.1
  refine ⟨A0, c0, A1, c1, A2, c2, A3, c3, A4, c4, A5, c5, A6, c6, A7, c7, A8, c8, A9, c9, ?_⟩
  match cs, hl with
  | [x0, x1, x2, x3, x4, x5, x6, x7, x8, x9], _ =>
    cases h0; cases h1; cases h2; cases h3; cases h4; cases h5; cases h6; cases h7; cases h8; cases h9
    rfl
/-- A row of the graph, at its place. -/
theorem GV.row {W : World} {l : List NR} {cs : List Value} (h : GV W l.length cs (gAll l)) {kind i : Nat} (hk : kind < 10) (hi : i < l.length) : ∃ b o c, cs[kind]? = some (.slice (some ⟨b, o, none⟩) l.length c) ∧ ∃ B d, W.cell? ⟨b, o + i, none⟩ = some (.slice B (below l.length (rowP l i kind)).length d) ∧ RdV W B (ints (below l.length (rowP l i kind))) := by
  obtain ⟨A, c, h1, R, r1, r2, r3⟩ := h.2.2 kind _ (gAll_get l hk)
  obtain ⟨b, o, B, d, xs, rfl, he, hc, hrd⟩ := r1.at (i := i) (by omega)
  have hx : xs = below l.length (rowP l i kind) := by
    have := rows_get R i
    rw [r2, he, gRows_get l kind hi] at this
    simpa using this.symm
  subst hx
  exact ⟨b, o, c, h1, B, d, hc, hrd⟩
set_option maxRecDepth 100000 in
set_option maxHeartbeats 4000000 in
theorem graphOf_calls (l : List NR) (A : Option Addr) (cap : Nat) (w : World) (hr : RdN w A l) (hL : Long l) :
    Calls Try.prog 3 #[.slice A l.length cap] w fun e w' => e = .returned (.bool true) ∧ Ext w w' := by
  have HSH := Lib.hid (short_calls l A cap w hr hL.len hL.names)
  by_cases hsh : shortB l = true
  · obtain ⟨h40, hnd, hsm⟩ := shortB_parts hsh
    rw [hsh] at HSH
    have HT := Lib.hid fun W (hx : Ext w W) => table_calls l A cap W (hr.ext hx) (by omega)
    have HG := Lib.hid fun B c W hu (hx : Ext w W) => graph_calls l B c W hu (fun x hm => (hr.2 x hm).ext hx) hnd hsm
    have HP := Lib.hid fun W (hx : Ext w W) => plain_calls l A cap W (hr.ext hx) (by omega)
    have HRW := Lib.hid fun B c W a kind h ha hk => rrow_calls l B c a kind W h hsm ha hk
    have HSM := Lib.hid hsm
    have hn0 : l.length ≤ 40 := h40
    clear hsh hnd hsm hL
    go_enter Try.func3, Try.ntmps3
    go_upto_region 3 with (go_at_call 11; refine HSH.out.mono ?_; rintro e W0 ⟨rfl, hx0⟩)
    clear HSH
    go_upto_region 4 with (go_at_call 13; refine (HT.out _ hx0).mono ?_; rintro e W1 ⟨BU, cu, rfl, hu, hx1⟩)
    refine wp_gen (fun W => W.cell? ⟨W1.heap.size, 0, none⟩ = some (.slice BU l.length cu) ∧ RdU W BU (l.map luOf) ∧ Ext w W) ⟨by go_simp, hu.ext ((Ext.refl _).alloc _), (hx0.trans hx1).alloc _⟩ ?_
    obtain ⟨T, hTe⟩ : ∃ T, W1.heap.size = T := ⟨_, rfl⟩
    rw [hTe]
    clear hTe hu hx1 hx0 HT
    rintro W2 ⟨ht, hu, hx2⟩
    go_upto_region 5 with (first | (go_at_call 14; refine (HG.out _ _ _ hu hx2).mono ?_; rintro e W3 ⟨cs, rfl, hgv, hx3⟩) | (refine wpList_store_blk rfl 31 (.tmp 4) (.tmp 20) rfl W3.heap.size rfl cs rfl (Blk.newAt W3 _ _ _ rfl) (rowGT _ hgv.1) (by rw [hgv.1]; rfl) hgv.one ?_; intro W4 hb4 hbut))
    have hx34 : Ext W2 W4 := hx3.trans (But.toExt ((Ext.refl W3).alloc _) hbut (Nat.le_refl _))
    have hg4 := hgv.ext (But.toExt ((Ext.refl W3).alloc _) hbut (Nat.le_refl _))
    have ht4 := hx34.cell ht
    have hu4 := hu.ext hx34
    have hx4 := hx2.trans hx34
    obtain ⟨G, hGe⟩ : ∃ G, W3.heap.size = G := ⟨_, rfl⟩
    rw [hGe] at hb4 ⊢
    clear hGe hgv hbut hx34 ht hu hx2 hx3 HG
    go_upto_region 6 with (go_at_call 15; refine (HP.out _ hx4).mono ?_; rintro e W5 ⟨BP, cp, rfl, hp5, hx45⟩)
    have hb5 := hb4.ext hx45
    have hg5 := hg4.ext hx45
    have ht5 := hx45.cell ht4
    have hu5 := hu4.ext hx45
    have hx5 := hx4.trans hx45
    clear hb4 hg4 ht4 hu4 hx4 hx45 HP
    obtain ⟨A0, c0, A1, c1, A2, c2, A3, c3, A4, c4, A5, c5, A6, c6, A7, c7, A8, c8, A9, c9, rfl⟩ := hg5.ten
    have e0 := hb5.cell 0 rfl
    have e1 := hb5.cell 1 rfl
    have e2 := hb5.cell 2 rfl
    have e3 := hb5.cell 3 rfl
    have e4 := hb5.cell 4 rfl
    have e5 := hb5.cell 5 rfl
    have e6 := hb5.cell 6 rfl
    have e7 := hb5.cell 7 rfl
    have e8 := hb5.cell 8 rfl
    have e9 := hb5.cell 9 rfl
    go_upto_region 7 with (fail)
    obtain ⟨cs, hcs⟩ : ∃ cs : List Value, [.slice A0 l.length c0, .slice A1 l.length c1, .slice A2 l.length c2, .slice A3 l.length c3, .slice A4 l.length c4, .slice A5 l.length c5, .slice A6 l.length c6, .slice A7 l.length c7, .slice A8 l.length c8, .slice A9 l.length c9] = cs := ⟨_, rfl⟩
    refine wp_gen (fun W => Blk W W5.heap.size cs 29 ∧ GV W l.length cs (gAll l) ∧ W.cell? ⟨T, 0, none⟩ = some (.slice BU l.length cu) ∧ RdU W BU (l.map luOf) ∧ RdN W BP l ∧ Ext w W) ⟨by rw [← hcs]; exact Blk.newAt W5 _ _ _ rfl, by rw [← hcs]; exact hg5.ext ((Ext.refl _).alloc _), ((Ext.refl _).alloc _).cell ht5, hu5.ext ((Ext.refl _).alloc _), hp5.ext ((Ext.refl _).alloc _), hx5.alloc _⟩ ?_
    obtain ⟨Q, hQe⟩ : ∃ Q, W5.heap.size = Q := ⟨_, rfl⟩
    rw [hQe]
    clear hQe hcs e0 e1 e2 e3 e4 e5 e6 e7 e8 e9 hb5 hg5 ht5 hu5 hp5 hx5
    rintro W6 ⟨hb, hg, ht, hu, hp, hx⟩
    have hsz : Q < W6.heap.size := hb.lt
    have HB := Lib.hid hb
    have HGV := Lib.hid hg
    have HTC := Lib.hid ht
    have HU := Lib.hid hu
    have HPN := Lib.hid hp
    have HXW := Lib.hid hx
    clear hb hg ht hu hp hx
    go_upto_region 8 with (fail)
    go_loopw [7] (fun kv W => ∃ kd : Nat, kv = .int .i64 kd ∧ kd ≤ 10 ∧ Ext W6 W) (fun kv _ => 10 - (RowKit.intOf kv).toNat)
    case atStart => exact ⟨0, rfl, by omega, Ext.refl _⟩
    case round =>
      obtain ⟨kd, rfl, hkd, hy⟩ := hrel
      by_cases hk : kd < 10
      · have hki : (kd : Int) < 10 := by omega
        obtain ⟨Ak, ck, hck, _⟩ := HGV.out.2.2 kd _ (gAll_get l hk)
        have hq := hy.cell (HB.out.cell kd hck)
        go_upto_region 13 with (fail)
        go_loopw [8] (fun iv W => ∃ i : Nat, iv = .int .i64 i ∧ i ≤ l.length ∧ Ext W6 W) (fun iv _ => l.length - (RowKit.intOf iv).toNat)
        case atStart => exact ⟨0, rfl, by omega, hy⟩
        case round =>
          clear hy hq
          obtain ⟨i, rfl, hi, hy⟩ := hrel
          by_cases hlt : i < l.length
          · have hlti : (i : Int) < l.length := by omega
            obtain ⟨b, o, c, hcs, B, d, hc1, hrd⟩ := HGV.out.row hk hlt
            rw [hck] at hcs
            cases hcs
            have q1 : ∀ W, Ext wr W → W.cell? ⟨Q, kd, none⟩ = some (.slice (some ⟨b, o, none⟩) l.length ck) := fun W h => (hy.trans h).cell (HB.out.cell kd hck)
            have q2 : ∀ W, Ext wr W → W.cell? ⟨b, o + i, none⟩ = some (.slice B (below l.length (rowP l i kd)).length d) := fun W h => (hy.trans h).cell hc1
            have HRD := Lib.hid hrd
            clear hrd hc1
            have hbl := below_length l.length (rowP l i kd)
            go_upto_region 15 with (fail)
            refine wp_region_mixAll (fun W => Ext wr W) [(0, true), (1, true), (2, true), (3, true), (4, true), (5, true), (6, true), (7, true), (8, true), (9, true), (10, false), (11, false), (12, false)] (by kernel_rfl) (by kernel_rfl) ((Ext.refl wr).drew) ?_
            iterate 10 (apply mix_read; (case ho => rfl); (case hw => rfl); (case h1 => intro W' hx; have q1' := q1 W' hx; have q2' := q2 W' hx; go_simp; (try go_bits); with_reducible rfl); (case hp => go_simp; first | done | with_reducible rfl))
            clear q1 q2
            refine mix_loud rfl ?_; intro KY hKY
            go_wp2_with (go_at_call 17; refine (HRW.out BP cp _ i kd (HPN.out.ext (hy.trans (Ext.refl wr).drew)) hlt hk).mono ?_; rintro e V1 ⟨B1, d1, rfl, o1, y1⟩)
            have z1 : Ext wr V1 := Ext.trans (Ext.refl wr).drew y1
            refine ⟨z1, ?_⟩
            have hrb : RdV V1 B1 (ints (below l.length (rowP l i kd))) := by
              obtain ⟨A', c', he, h, _⟩ := Owns.rd o1
              cases he
              exact h
            have HSA := Lib.hid (same_calls (below l.length (rowP l i kd)) (below l.length (rowP l i kd)) B B1 d d1 V1 (HRD.out.ext (hy.trans z1)) hrb (by omega) (by omega))
            refine mix_loud rfl ?_; intro KY hKY
            go_wp2_with (go_at_call 16; refine HSA.out.mono ?_; rintro e V2 ⟨rfl, y2⟩; simp only [decide_true])
            refine ⟨z1.trans y2, ?_⟩
            have z2 := hy.trans (z1.trans y2)
            refine mix_loud rfl ?_; intro KY hKY
            go_wp2_with fail
            refine ⟨z1.trans y2, ?_⟩
            refine mix_nil ?_; unfold Q0
            go_wp2_with fail
            go_roundw
            case rel => exact ⟨i + 1, by go_num, by omega, z2⟩
            case measure => simp [RowKit.intOf]; omega
          · obtain rfl : i = l.length := by omega
            go_wp2_with fail
            go_roundw
            case rel => exact ⟨kd + 1, by go_num, by omega, hy⟩
            case measure => simp [RowKit.intOf]; omega
      · have hki : ¬ (kd : Int) < 10 := by omega
        clear hk
        go_upto_region 18 with (fail)
        go_loopw [9] (fun iv W => ∃ i : Nat, iv = .int .i64 i ∧ i ≤ l.length ∧ Ext W6 W) (fun iv _ => l.length - (RowKit.intOf iv).toNat)
        case atStart => exact ⟨0, rfl, by omega, hy⟩
        case round =>
          clear hy
          obtain ⟨i, rfl, hi, hy⟩ := hrel
          by_cases hlt : i < l.length
          · have hlti : (i : Int) < l.length := by omega
            have htc := hy.cell HTC.out
            obtain ⟨x, hlx⟩ : ∃ x, l[i]? = some x := ⟨_, List.getElem?_eq_getElem hlt⟩
            have hux : (l.map luOf)[i]? = some (luOf x) := by rw [List.getElem?_map, hlx]; rfl
            rcases HU.out.ext hy with h0 | ⟨ub, uo, rfl, huc⟩
            · rw [List.map_eq_nil_iff.1 h0] at hlt
              cases hlt
            have hrg : Rng wr ub (uo + i * 26 + 1 + 1) (luOf x).unit := by
              have h1 : Rng wr ub (uo + i * 26) (luOf x).cells := fun k v hv => huc i _ hux k v hv
              intro k v hv
              unfold LU.unit at hv
              rw [List.getElem?_take] at hv
              split at hv
              · rw [List.getElem?_drop] at hv
                have := h1 _ v hv
                rwa [show uo + i * 26 + (2 + k) = uo + i * 26 + 1 + 1 + k by omega] at this
              · cases hv
            have HRG := Lib.hid hrg
            have HUT := Lib.hid (rowUU (luOf x).unit.length (luOf x).unit_length)
            have hxo := hr.2 x (List.mem_of_getElem? hlx)
            obtain ⟨nm, ks⟩ := x
            obtain ⟨s0, s1, s2, s3, s4, s5, s6, rfl⟩ := seven hxo
            have HLX := Lib.hid hlx
            have HXO := Lib.hid hxo
            clear hlx hux huc hrg hxo
            have hone : (luOf ⟨nm, [s0, s1, s2, s3, s4, s5, s6]⟩).unit.all (·.oneCell') = true := by rfl
            have HONE := Lib.hid hone
            clear hone
            go_upto_region 21 with (first | refine wpList_load_rng rfl 41 (.tmp 86) rfl ub (uo + i * 26 + 1 + 1) rfl HUT.out HRG.out ?_ | (refine wpList_store_blk rfl 41 (.tmp 10) (.tmp 87) rfl wr.heap.size rfl _ rfl (Blk.newAt wr _ _ _ rfl) HUT.out (by rw [LU.unit_length]; rfl) HONE.out ?_; intro W8 hb8 hbu8))
            have y8 : Ext W6 W8 := hy.trans (But.toExt ((Ext.refl wr).alloc _) hbu8 (Nat.le_refl _))
            have g0 := hb8.cell 0 (show (luOf ⟨nm, [s0, s1, s2, s3, s4, s5, s6]⟩).unit[0]? = some s0.val from rfl)
            have g1 := hb8.cell 1 (show (luOf ⟨nm, [s0, s1, s2, s3, s4, s5, s6]⟩).unit[1]? = some s1.val from rfl)
            have g2 := hb8.cell 2 (show (luOf ⟨nm, [s0, s1, s2, s3, s4, s5, s6]⟩).unit[2]? = some s2.val from rfl)
            have g3 := hb8.cell 3 (show (luOf ⟨nm, [s0, s1, s2, s3, s4, s5, s6]⟩).unit[3]? = some s3.val from rfl)
            have g4 := hb8.cell 4 (show (luOf ⟨nm, [s0, s1, s2, s3, s4, s5, s6]⟩).unit[4]? = some s4.val from rfl)
            have g5 := hb8.cell 5 (show (luOf ⟨nm, [s0, s1, s2, s3, s4, s5, s6]⟩).unit[5]? = some s5.val from rfl)
            have g6 := hb8.cell 6 (show (luOf ⟨nm, [s0, s1, s2, s3, s4, s5, s6]⟩).unit[6]? = some s6.val from rfl)
            obtain ⟨q, hqe⟩ : ∃ q, wr.heap.size = q := ⟨_, rfl⟩
            rw [hqe] at g0 g1 g2 g3 g4 g5 g6 ⊢
            clear hqe hb8 hbu8 hy htc HRG HUT HONE
            unfold SK.val at g0 g1 g2 g3 g4 g5 g6
            go_upto_region 22 with (fail)
            refine wp_gen (fun W => Blk W W8.heap.size [s0.val, s1.val, s2.val, s3.val, s4.val, s5.val, s6.val] 39 ∧ Ext W6 W) ⟨Blk.newAt W8 _ _ _ rfl, y8.alloc _⟩ ?_
            obtain ⟨Q2, hQ2⟩ : ∃ q, W8.heap.size = q := ⟨_, rfl⟩
            rw [hQ2]
            clear hQ2 g0 g1 g2 g3 g4 g5 g6 y8
            rintro W9 ⟨hb9, hy9⟩
            have HB9 := Lib.hid hb9
            clear hb9
            go_upto_region 23 with (fail)
            go_loopw [12] (fun kv W => ∃ k : Nat, kv = .int .i64 k ∧ k ≤ 7 ∧ Ext W9 W) (fun kv _ => 7 - (RowKit.intOf kv).toNat)
            case atStart => exact ⟨0, rfl, by omega, Ext.refl _⟩
            case round =>
              obtain ⟨k, rfl, hk, hy⟩ := hrel
              by_cases hk7 : k < 7
              · have hk7i : (k : Int) < 7 := by omega
                obtain ⟨sk, hsk⟩ : ∃ sk, [s0, s1, s2, s3, s4, s5, s6][k]? = some sk := ⟨_, List.getElem?_eq_getElem hk7⟩
                have hc1 := hy.cell (HB9.out.cell k (show [s0.val, s1.val, s2.val, s3.val, s4.val, s5.val, s6.val][k]? = some sk.val by
                  have : [s0.val, s1.val, s2.val, s3.val, s4.val, s5.val, s6.val] = [s0, s1, s2, s3, s4, s5, s6].map SK.val := rfl
                  rw [this, List.getElem?_map, hsk]; rfl))
                obtain ⟨b, o, nm', ks', rfl, hli, _, hks, _, _⟩ := (hr.ext (HXW.out.trans (hy9.trans hy))).at hlt
                have he := HLX.out
                rw [hli] at he
                cases he
                have hc2 := hks k sk hsk
                have hrk := HXO.out.2 sk (List.mem_of_getElem? hsk)
                have hsl := HSM.out.names _ (List.mem_of_getElem? hli) sk (List.mem_of_getElem? hsk)
                obtain ⟨Ak, ck, ss⟩ := sk
                simp only [SK.val] at hc1 hc2 hrk hsl
                have q1 : ∀ W, Ext wr W → W.cell? ⟨Q2, k, none⟩ = some (.slice Ak ss.length ck) := fun W h => h.cell hc1
                have q2 : ∀ W, Ext wr W → W.cell? ⟨b, o + i * 8 + 1 + k, none⟩ = some (.slice Ak ss.length ck) := fun W h => h.cell hc2
                have hrk2 := (hrk.ext (HXW.out.trans (hy9.trans hy))).ext (Ext.refl wr).drew
                have HSN := Lib.hid (sameNames_calls ss Ak Ak ck ck wr.drew hrk2 hrk2 (by omega))
                clear hc1 hc2 hrk hrk2 hks hli hsk
                go_upto_region 25 with (fail)
                refine wp_region_mix (fun W => Ext wr W) 11 [(0, true), (1, true), (2, true), (3, true), (4, true), (5, true), (6, true), (7, true), (8, true), (9, true), (10, true), (11, false), (12, false)] (by kernel_rfl) (by kernel_rfl) ((Ext.refl wr).drew) ?_
                iterate 11 (apply mix_read; (case ho => rfl); (case hw => rfl); (case h1 => intro W' hx; have q1' := q1 W' hx; have q2' := q2 W' hx; go_simp; (try go_bits); with_reducible rfl); (case hp => go_simp; first | done | with_reducible rfl))
                clear q1 q2
                refine mix_end 11 (by kernel_rfl) (by kernel_rfl) ?_; simp only [List.take_succ_cons, List.take_zero, List.drop_succ_cons, List.drop_zero]; unfold Q0
                go_wp2_with (go_at_call 18; refine HSN.out.mono ?_; rintro e V1 ⟨rfl, y1⟩)
                go_roundw
                case rel => exact ⟨k + 1, by go_num, by omega, hy.trans (Ext.trans (Ext.refl wr).drew y1)⟩
                case measure => simp [RowKit.intOf]; omega
              · obtain rfl : k = 7 := by omega
                go_wp2_with fail
                go_roundw
                case rel => exact ⟨i + 1, by go_num, by omega, hy9.trans hy⟩
                case measure => simp [RowKit.intOf]; omega
          · obtain rfl : i = l.length := by omega
            go_wp2_with (go_at_call 12; refine (works_calls _).mono ?_; rintro e V1 ⟨rfl, y1⟩)
            go_ret
            exact ⟨rfl, HXW.out.trans (hy.trans y1)⟩
  · rw [Bool.not_eq_true] at hsh
    rw [hsh] at HSH
    clear hsh hr hL
    go_enter Try.func3, Try.ntmps3
    go_wp2_with (first | (go_at_call 11; refine HSH.out.mono ?_; rintro e W0 ⟨rfl, hx0⟩) | (go_at_call 12; refine (works_calls _).mono ?_; rintro e W1 ⟨rfl, hx1⟩))
    go_ret
    exact ⟨rfl, hx0.trans hx1⟩
end Go.Proofs.Ytdpfppibbnjemaa
