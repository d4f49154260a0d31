/- Chapter 23: the law CycleMany (under way). -/
import Derived.Test.YthlobpdcolgcoaaLawAhead
import Derived.Test.YthlobpdcolgcoaaJa2
namespace Go.Proofs.Ythlobpdcolgcoaa
open Go.RowKit Go.Maps Go.Lib
set_option linter.unusedVariables false
set_option linter.unusedSimpArgs false

theorem RdV.ints_at {W : World} {B : Option Addr} {xs : List Int} (h : RdV W B (ints xs)) (hx : xs ≠ []) : ∃ b o, B = some ⟨b, o, none⟩ ∧ ∀ (i : Nat) x, xs[i]? = some x → ∀ W', Ext W W' → W'.cell? ⟨b, o + i, none⟩ = some (.int .i64 x) := by
  rcases h with h | ⟨b, o, rfl, hc⟩
  · exact absurd (List.map_eq_nil_iff.1 h) hx
  · exact ⟨b, o, rfl, fun i x hi W' hW => hW.cell (hc i _ (by simp [ints, hi]))⟩
theorem RdI.all_at {W : World} {A : Option Addr} {l : List It} (h : RdI W A l) (hl : l ≠ []) : ∃ b o, A = some ⟨b, o, none⟩ ∧ ∀ (i : Nat) a, l[i]? = some a → ∀ W', Ext W W' → W'.cell? ⟨b, o + i * 3, none⟩ = some (.int .i64 a.u) ∧ W'.cell? ⟨b, o + i * 3 + 1, none⟩ = some (.int .u8 a.t) := by
  rcases h with h | ⟨b, o, rfl, hc⟩
  · exact absurd h hl
  · refine ⟨b, o, rfl, fun i a hi W' hW => ?_⟩
    obtain ⟨u, t, m⟩ := a
    obtain ⟨h1, h2, _⟩ := hc i u t m hi
    exact ⟨hW.cell h1, hW.cell h2⟩

set_option maxRecDepth 100000 in
set_option maxHeartbeats 40000000 in
theorem law_many (cs : List Value) (af be : List (List Int)) (l : List It) (u t : Int) (m : Bool) (A : Option Addr) (cap : Nat) (w : World) (h : GR w cs af be) (hr : RdI w A l) (hcap : l.length ≤ cap) (hmax : l.length ≤ 9223372036854775807) :
    Calls Try.prog 4 #[.agg cs.toArray, .slice A l.length cap, .agg #[.int .i64 u, .int .u8 t, .bool m]] w fun e w' => e = .returned (.bool true) ∧ Ext w w' := by
  have hl : cs.length = 10 := by obtain ⟨_, _, _, _, _, _, h0, _⟩ := h; exact h0
  have HT := Lib.hid (rowG cs.length hl)
  have HW := Lib.hid fun W => works_calls W
  clear hl
  go_enter Try.func4, Try.ntmps4
  go_upto_region 1 with (fail)
  refine wp_gen (fun W => Blk W w.heap.size cs 24 ∧ Blk W (w.heap.size + 1) [.int .i64 u, .int .u8 t, .bool m] 30 ∧ GR W cs af be ∧ RdI W A l ∧ Ext w W)
    ⟨(Blk.newAt _ _ _ _ rfl).alloc _, Blk.newAt _ [.int .i64 u, .int .u8 t, .bool m] _ _ (by simp), h.ext (((Ext.refl w).alloc _).alloc _), hr.ext (((Ext.refl w).alloc _).alloc _), ((Ext.refl w).alloc _).alloc _⟩ ?_
  obtain ⟨G, hG⟩ : ∃ G, w.heap.size = G := ⟨_, rfl⟩
  rw [hG]
  clear hG h hr
  rintro W0 ⟨hb, hm, h, hr, hx0⟩
  have F := Lib.hid (few_calls cs af be W0 h)
  cases hf : fewB af be with
  | false =>
    rw [hf] at F
    go_wp2_with (refine wpList_load_blk rfl 24 (.tmp 3) rfl G rfl HT.out hb ?_)
    refine F.out.mono ?_
    rintro e W1 ⟨rfl, x1⟩
    go_wp2_with fail
    refine (HW.out _).mono ?_; rintro e WF ⟨rfl, xF⟩; go_wp2_with fail; go_ret
    exact ⟨rfl, (hx0.trans x1).trans xF⟩
  | true =>
    rw [hf] at F
    clear hf
    by_cases h60 : l.length ≤ 60
    case neg =>
      have h60i : (60 : Int) < l.length := by omega
      go_wp2_with (refine wpList_load_blk rfl 24 (.tmp 3) rfl G rfl HT.out hb ?_)
      refine F.out.mono ?_
      rintro e W1 ⟨rfl, x1⟩
      go_wp2_with fail
      refine (HW.out _).mono ?_; rintro e WF ⟨rfl, xF⟩; go_wp2_with fail; go_ret
      exact ⟨rfl, (hx0.trans x1).trans xF⟩
    case pos =>
      have h60i : ¬ (60 : Int) < l.length := by omega
      have h60d : decide ((60 : Int) < l.length) = false := decide_eq_false h60i
      go_wp2_with (refine wpList_load_blk rfl 24 (.tmp 3) rfl G rfl HT.out hb ?_)
      refine F.out.mono ?_
      rintro e W1 ⟨rfl, x1⟩
      replace hb := hb.ext x1
      replace hm := hm.ext x1
      replace h := h.ext x1
      replace hr := hr.ext x1
      have hx1 := hx0.trans x1
      clear F x1 hx0
      have U := Lib.hid (units_calls cs af be l A cap W1 h hr hmax)
      generalize l.all (unitB af.length be.length) = un at U
      cases un
      · go_wp2_with (refine wpList_load_blk rfl 24 (.tmp 3) rfl G rfl HT.out hb ?_)
        refine U.out.mono ?_
        rintro e W2 ⟨rfl, x2⟩
        go_wp2_with fail
        refine (HW.out _).mono ?_; rintro e WF ⟨rfl, xF⟩; go_wp2_with fail; go_ret
        exact ⟨rfl, (hx1.trans x2).trans xF⟩
      · go_wp2_with (refine wpList_load_blk rfl 24 (.tmp 3) rfl G rfl HT.out hb ?_)
        refine U.out.mono ?_
        rintro e W2 ⟨rfl, x2⟩
        replace hb := hb.ext x2
        replace hm := hm.ext x2
        replace h := h.ext x2
        replace hr := hr.ext x2
        have hx2 := hx1.trans x2
        clear U x2 hx1
        have U := Lib.hid (units_calls cs af be [⟨u, t, m⟩] (some ⟨W2.heap.size, 0, none⟩) 1 _ (h.ext ((Ext.refl W2).alloc _)) (RdI.of1 (Blk.new W2 [.int .i64 u, .int .u8 t, .bool m] 30)) (by simp))
        generalize ([⟨u, t, m⟩] : List It).all (unitB af.length be.length) = un at U
        have m0 := hm.cell 0 rfl
        have m1 := hm.cell 1 rfl
        have m2 := hm.cell 2 rfl
        cases un
        · go_wp2_with (first | (refine wpList_load_blk rfl 24 (.tmp 3) rfl G rfl HT.out hb ?_) | (refine wpList_load_blk rfl 30 (.tmp 5) rfl (G + 1) rfl rowItem hm ?_))
          refine U.out.mono ?_
          rintro e W3 ⟨rfl, x3⟩
          go_wp2_with fail
          refine (HW.out _).mono ?_; rintro e WF ⟨rfl, xF⟩; go_wp2_with fail; go_ret
          exact ⟨rfl, ((hx2.alloc _).trans x3).trans xF⟩
        · go_wp2_with (first | (refine wpList_load_blk rfl 24 (.tmp 3) rfl G rfl HT.out hb ?_) | (refine wpList_load_blk rfl 30 (.tmp 5) rfl (G + 1) rfl rowItem hm ?_))
          refine U.out.mono ?_
          rintro e W3 ⟨rfl, x3⟩
          have y3 := ((Ext.refl W2).alloc _).trans x3
          replace hb := hb.ext y3
          replace hm := hm.ext y3
          replace h := h.ext y3
          replace hr := hr.ext y3
          have hx3 := hx2.trans y3
          clear U x3 y3 hx2 m0 m1 m2
          go_upto_region 3 with (fail)
          refine wp_region_mixAll (fun W => Ext W3 W) [(0, true), (1, true), (3, true), (4, true), (2, false), (5, false), (6, false), (7, false)] (by kernel_rfl) (by kernel_rfl) ((Ext.refl W3).drew) ?_
          (apply mix_read; (case ho => rfl); (case hw => rfl); (case h1 => intro W' hx; exact read_load_blk rfl rfl (HT.out) (hb.ext hx)); (case hp => go_simp; first | done | with_reducible rfl))
          (apply mix_read; (case ho => rfl); (case hw => rfl); (case h1 => intro W' hx; (try dsimp only at hx); go_simp; (try go_bits); with_reducible rfl); (case hp => go_simp; first | done | with_reducible rfl))
          (apply mix_read; (case ho => rfl); (case hw => rfl); (case h1 => intro W' hx; exact read_load_blk rfl rfl (HT.out) (hb.ext hx)); (case hp => go_simp; first | done | with_reducible rfl))
          (apply mix_read; (case ho => rfl); (case hw => rfl); (case h1 => intro W' hx; (try dsimp only at hx); go_simp; (try go_bits); with_reducible rfl); (case hp => go_simp; first | done | with_reducible rfl))
          refine mix_loud rfl ?_; intro KY hKY
          go_wp2_with fail
          refine (Ring_calls cs af be l A cap _ (h.ext (Ext.refl W3).drew) (hr.ext (Ext.refl W3).drew) (by omega) hcap).mono ?_
          rintro e W4 ⟨B4, c4, rfl, ho4, x4⟩
          go_wp2_with fail
          have y4 := (Ext.refl W3).drew.trans x4
          refine ⟨y4, ?_⟩
          refine mix_loud rfl ?_; intro KY hKY
          go_wp2_with fail
          refine (Order_calls cs af be l A cap _ (h.ext y4) (hr.ext y4) (by omega) hcap).mono ?_
          rintro e W5 ⟨B5, c5, rfl, ho5, x5⟩
          go_wp2_with fail
          have y5 := y4.trans x5
          refine ⟨y5, ?_⟩
          refine mix_loud rfl ?_; intro KY hKY
          go_wp2_with fail
          refine ⟨y5, ?_⟩
          refine mix_loud rfl ?_; intro KY hKY
          go_wp2_with fail
          refine ⟨y5, ?_⟩
          refine mix_nil ?_; unfold Q0
          replace hb := hb.ext y5
          replace hm := hm.ext y5
          replace h := h.ext y5
          replace hr := hr.ext y5
          have hx5 := hx3.trans y5
          have q4 := (ho4.ext x5).1
          have q5 := ho5.1
          have P := Lib.hid (many_p af be l ⟨u, t, m⟩)
          generalize RingL (nextL af be l) = r at P q4
          generalize OrderL (nextL af be l) = o at P q5
          clear ho4 ho5 x4 x5 y4 y5 hx3
          go_upto_region 5 with (fail)
          go_loopw [9, 10] (fun i k W => ∃ j : Nat, j ≤ r.length ∧ i = .int .i64 j ∧ Ext W5 W) (fun i _ _ => r.length - (RowKit.intOf i).toNat)
          case atStart => exact ⟨0, by omega, rfl, Ext.refl _⟩
          case round =>
            obtain ⟨j, hj, rfl, hx⟩ := hrel
            have hrn : r.length ≤ 60 := Nat.le_trans P.out.rlen h60
            by_cases hlt : j < r.length
            · have hlti : (j : Int) < r.length := by omega
              obtain ⟨p, q, z, a, b, e1, e2, e3, hz, hp, hq, ea, eb, hab⟩ := P.out.ring j hlt
              obtain ⟨s, hs⟩ : ∃ s, (j + 1) % r.length = s := ⟨_, rfl⟩
              have hsl : s < r.length := by rw [← hs]; exact Nat.mod_lt _ (by omega)
              have hsli : (s : Int) < r.length := by omega
              have hmod : ((j : Int) + 1).tmod r.length = (s : Int) := by rw [← hs]; rfl
              rw [hs] at e2
              clear hs
              have hne : r ≠ [] := by intro e; rw [e] at hlt; simp at hlt
              have hln : l ≠ [] := by intro e; rw [e] at hp; simp at hp
              obtain ⟨b4, o4, rfl, f4⟩ := RdV.ints_at (q4.ext hx) hne
              obtain ⟨bl, ol, rfl, fl⟩ := RdI.all_at (hr.ext hx) hln
              have g1 := f4 _ _ e1
              have g2 := f4 _ _ e2
              have g3 : ∀ W', Ext wr W' → W'.cell? ⟨b4, o4, none⟩ = some (.int .i64 z) := f4 _ _ e3
              have g4 := fl _ _ ea
              have g5 := fl _ _ eb
              have hr0 : ¬ (r.length : Int) = 0 := by omega
              have t2 := g2 _ (Ext.refl _)
              go_upto_region 8 with (fail)
              have AH := Lib.hid fun W (x : Ext wr W) => ahead_calls cs af be a.u a.t b.u b.t W ((h.ext hx).ext x)
              have hb8 := hb.ext hx
              have k1 : ¬ (p : Int) < 0 := by omega
              have k2 : ¬ (l.length : Int) ≤ p := by omega
              have k3 : ¬ (q : Int) < 0 := by omega
              have k4 : ¬ (l.length : Int) ≤ q := by omega
              have k5 : ¬ (p : Int) < z := by omega
              have k6 : (p : Int) < l.length := by omega
              have k7 : (q : Int) < l.length := by omega
              have k8 : (0 : Int) < r.length := by omega
              have k9 : 0 < r.length := by omega
              have d1 := fun W' hW => (g4 W' hW).1
              have d2 := fun W' hW => (g4 W' hW).2
              have d3 := fun W' hW => (g5 W' hW).1
              have d4 := fun W' hW => (g5 W' hW).2
              have HAB := Lib.hid (show aheadB af be a.u a.t b.u b.t = true from hab)
              clear g4 g5 t2 hab fl f4 e1 e2 e3
              refine wp_region_mixAll (fun W => Ext wr W) [(0, true), (1, true), (2, true), (3, true), (4, true), (5, true), (6, true), (7, true), (8, true), (9, true), (10, true), (11, true), (12, true), (13, true), (14, true), (15, true), (16, true), (17, true), (18, true), (19, true), (20, true), (21, true), (22, true), (23, true), (24, true), (25, true), (26, true), (27, true), (28, true), (29, true), (30, true), (31, true), (32, true), (33, true), (34, true), (35, true), (36, true), (37, true), (38, true), (39, false), (40, true), (41, true), (42, true), (43, true), (44, true), (45, true), (46, true), (47, true), (48, true), (49, true), (50, true), (51, true)] (by kernel_rfl) (by kernel_rfl) ((Ext.refl wr).drew) ?_
              (repeat (first | (apply mix_read; (case ho => rfl); (case hw => rfl); (case h1 => intro W' hx; exact read_load_blk rfl rfl (HT.out) (hb8.ext hx)); (case hp => go_simp; first | done | with_reducible rfl)) | (apply mix_read; (case ho => rfl); (case hw => rfl); (case h1 => intro W' hx; (try dsimp only at hx); go_simp; (try go_bits); with_reducible rfl); (case hp => go_simp; first | done | with_reducible rfl)) | (apply mix_skip; (case ho => rfl); (case hw => rfl); (case hp => go_simp; first | done | with_reducible rfl))))
              refine mix_loud rfl ?_; intro KY hKY
              go_wp2_with fail
              refine (AH.out _ (Ext.refl wr).drew).mono ?_
              rw [HAB.out]
              rintro e W6 ⟨rfl, x6⟩
              have y6 := (Ext.refl wr).drew.trans x6
              go_wp2_with fail
              refine ⟨y6, ?_⟩
              (repeat (first | (apply mix_read; (case ho => rfl); (case hw => rfl); (case h1 => intro W' hx; (try dsimp only at hx); go_simp; (try go_bits); with_reducible rfl); (case hp => go_simp; first | done | with_reducible rfl)) | (apply mix_skip; (case ho => rfl); (case hw => rfl); (case hp => go_simp; first | done | with_reducible rfl))))
              refine mix_nil ?_; unfold Q0
              go_wp2_with fail
              go_roundw
              case rel => exact ⟨j + 1, by omega, by go_num, hx.trans y6⟩
              case measure => simp [RowKit.intOf]; omega
            · obtain rfl : j = r.length := by omega
              have hol := P.out.len
              have hrl := P.out.rlen
              replace hb := hb.ext hx
              replace hm := hm.ext hx
              replace h := h.ext hx
              replace hr := hr.ext hx
              replace q5 := q5.ext hx
              have hx6 := hx5.trans hx
              clear hx hx5 q4
              have C1 := P.out.none
              have C2 := P.out.some
              have hsr : (RingL (nextL af be (l ++ [⟨u, t, m⟩]))).length ≤ 61 := by
                have := many_rlen af be (l ++ [⟨u, t, m⟩])
                rw [List.length_append] at this
                simp at this
                omega
              have key : (r.length = 0 ∧ o.length = l.length ∧ l.length = 0) ∨ (r.length = 0 ∧ o.length = l.length ∧ 0 < l.length) ∨ (0 < r.length ∧ o.length = 0 ∧ 0 < l.length ∧ ((r.length : Int) == 0) = false ∧ ((0 : Int) == l.length) = false) := by
                by_cases e : r = []
                · have := C1 e
                  have e0 : r.length = 0 := by rw [e]; rfl
                  rcases Nat.eq_zero_or_pos l.length with h0 | h0
                  · exact .inl ⟨e0, this, h0⟩
                  · exact .inr (.inl ⟨e0, this, h0⟩)
                · exact .inr (.inr ⟨List.length_pos_iff.2 e, by rw [(C2 e).1]; rfl, (C2 e).2, by
                    have := List.length_pos_iff.2 e
                    rw [beq_eq_false_iff_ne]; omega, by have := (C2 e).2; rw [beq_eq_false_iff_ne]; omega⟩)
              clear C1 C2 hj hlt
              rename World => W6
              rcases key with ⟨n1, n2, n3⟩ | ⟨n1, n2, n3⟩ | ⟨n1, n2, n3, b1, b2⟩
              all_goals
                go_upto_region 14 with (fail)
                have N1 := Lib.hid n1
                have N2 := Lib.hid n2
                have N3 := Lib.hid n3
                (try clear b1 b2)
                clear n1 n2 n3
                refine wp_gen (fun W => Blk W W6.heap.size (seenL []) 42 ∧ Ext W6 W) ⟨by rw [seenL_nil]; exact Blk.newAt W6 (List.replicate 64 (.bool false)) _ _ rfl, (Ext.refl W6).alloc _⟩ ?_
                obtain ⟨sb, hsb⟩ : ∃ sb, W6.heap.size = sb := ⟨_, rfl⟩
                rw [hsb]
                rintro W7 ⟨hs, hx7⟩
                go_loopw [12, 13] (fun i k W => ∃ j : Nat, j ≤ o.length ∧ i = .int .i64 j ∧ Blk W sb (seenL (o.take j)) 42 ∧ Ext W6 W) (fun i _ _ => o.length - (RowKit.intOf i).toNat)
                case atStart => exact ⟨0, by omega, rfl, by simpa using hs, hx7⟩
                case round =>
                  clear hs hx7
                  obtain ⟨j, hj, rfl, hs, hx⟩ := hrel
                  by_cases hlt : j < o.length
                  · first
                    | exfalso; have := N2.out; have := N3.out; omega
                    | have hlti : (j : Int) < o.length := by omega
                      obtain ⟨p, a, e1, hp, ea, hnew, hall⟩ := P.out.order j hlt
                      have hne : o ≠ [] := by intro e; rw [e] at hlt; simp at hlt
                      have hln : l ≠ [] := by intro e; rw [e] at hp; simp at hp
                      obtain ⟨b5, o5, rfl, f5⟩ := RdV.ints_at (q5.ext hx) hne
                      obtain ⟨bl, ol, rfl, fl⟩ := RdI.all_at (hr.ext hx) hln
                      have g1 := f5 _ _ e1
                      have g4 := fl _ _ ea
                      have d1 := fun W' hW => (g4 W' hW).1
                      have d2 := fun W' hW => (g4 W' hW).2
                      have k1 : ¬ (p : Int) < 0 := by omega
                      have k2 : ¬ (l.length : Int) ≤ p := by omega
                      have k3 : (p : Int) < l.length := by omega
                      have k4 : (p : Int) < 64 := by omega
                      have k5 : p < 64 := by omega
                      have t1 := g1 _ (Ext.refl _)
                      have t2 : wr.cell? ⟨sb, p, none⟩ = some (.bool false) := by
                        have := hs.cell p (seenL_get _ k5)
                        rw [this, decide_eq_false hnew]
                      go_upto_region 19 with (fail)
                      clear t1 t2 g4
                      rename World => wo
                      go_loopw [13] (fun i W => ∃ n : Nat, n ≤ l.length ∧ i = .int .i64 n ∧ Ext wo W) (fun i _ => l.length - (RowKit.intOf i).toNat)
                      case atStart => exact ⟨0, by omega, rfl, Ext.refl _⟩
                      case round =>
                        obtain ⟨n, hn, rfl, hxi⟩ := hrel
                        by_cases hlt2 : n < l.length
                        · have hlti2 : (n : Int) < l.length := by omega
                          obtain ⟨b, eb⟩ : ∃ b, l[n]? = some b := ⟨_, List.getElem?_eq_getElem hlt2⟩
                          have g5 := fl _ _ eb
                          have AH := Lib.hid fun W (x : Ext wr W) => ahead_calls cs af be b.u b.t a.u a.t W (((h.ext hx).ext hxi).ext x)
                          have hb8 := (hb.ext hx).ext hxi
                          have c1 := fun W' (hW : Ext wr W') => d1 W' (hxi.trans hW)
                          have c2 := fun W' (hW : Ext wr W') => d2 W' (hxi.trans hW)
                          have c3 := fun W' (hW : Ext wr W') => (g5 W' (hxi.trans hW)).1
                          have c4 := fun W' (hW : Ext wr W') => (g5 W' (hxi.trans hW)).2
                          have c5 := fun W' (hW : Ext wr W') => g1 W' (hxi.trans hW)
                          have hc := seenL_get (o.take j) (k := n) (by omega)
                          have c6 := fun W' (hW : Ext wr W') => ((hs.ext hxi).ext hW).cell n hc
                          have k6 : (n : Int) < 64 := by omega
                          have k7 : n < 64 := by omega
                          obtain ⟨v, hv⟩ : ∃ v, ahd af be b a = v := ⟨_, rfl⟩
                          have HV := Lib.hid (show aheadB af be b.u b.t a.u a.t = v from hv)
                          have hh := hall n b eb
                          rw [hv] at hh
                          clear hall hv g5 d1 d2 g1 hc
                          cases v
                          · clear hh
                            go_upto_region 21 with (fail)
                            refine wp_region_mixAll (fun W => Ext wr W) [(0, true), (1, true), (2, true), (3, true), (4, true), (5, true), (6, true), (7, true), (8, true), (9, true), (10, true), (11, true), (12, true), (13, true), (14, false), (15, true), (16, true), (17, true), (18, true), (19, true), (20, true)] (by kernel_rfl) (by kernel_rfl) ((Ext.refl wr).drew) ?_
                            (repeat (first | (apply mix_read; (case ho => rfl); (case hw => rfl); (case h1 => intro W' hx; exact read_load_blk rfl rfl (HT.out) (hb8.ext hx)); (case hp => go_simp; first | done | with_reducible rfl)) | (apply mix_read; (case ho => rfl); (case hw => rfl); (case h1 => intro W' hx; (try dsimp only at hx); go_simp; (try go_bits); with_reducible rfl); (case hp => go_simp; first | done | with_reducible rfl)) | (apply mix_skip; (case ho => rfl); (case hw => rfl); (case hp => go_simp; first | done | with_reducible rfl))))
                            refine mix_loud rfl ?_; intro KY hKY
                            go_wp2_with fail
                            refine (AH.out _ (Ext.refl wr).drew).mono ?_
                            rw [HV.out]
                            rintro e WA ⟨rfl, xA⟩
                            have yA := (Ext.refl wr).drew.trans xA
                            go_wp2_with fail
                            refine ⟨yA, ?_⟩
                            (repeat (first | (apply mix_read; (case ho => rfl); (case hw => rfl); (case h1 => intro W' hx; (try dsimp only at hx); go_simp; (try go_bits); with_reducible rfl); (case hp => go_simp; first | done | with_reducible rfl)) | (apply mix_skip; (case ho => rfl); (case hw => rfl); (case hp => go_simp; first | done | with_reducible rfl))))
                            refine mix_nil ?_; unfold Q0
                            go_wp2_with fail
                            go_roundw
                            case rel => exact ⟨n + 1, by omega, by go_num, hxi.trans yA⟩
                            case measure => simp [RowKit.intOf]; omega
                          · rw [decide_eq_true (hh rfl)] at c6
                            clear hh
                            go_upto_region 21 with (fail)
                            refine wp_region_mixAll (fun W => Ext wr W) [(0, true), (1, true), (2, true), (3, true), (4, true), (5, true), (6, true), (7, true), (8, true), (9, true), (10, true), (11, true), (12, true), (13, true), (14, false), (15, true), (16, true), (17, true), (18, true), (19, true), (20, true)] (by kernel_rfl) (by kernel_rfl) ((Ext.refl wr).drew) ?_
                            (repeat (first | (apply mix_read; (case ho => rfl); (case hw => rfl); (case h1 => intro W' hx; exact read_load_blk rfl rfl (HT.out) (hb8.ext hx)); (case hp => go_simp; first | done | with_reducible rfl)) | (apply mix_read; (case ho => rfl); (case hw => rfl); (case h1 => intro W' hx; (try dsimp only at hx); go_simp; (try go_bits); with_reducible rfl); (case hp => go_simp; first | done | with_reducible rfl)) | (apply mix_skip; (case ho => rfl); (case hw => rfl); (case hp => go_simp; first | done | with_reducible rfl))))
                            refine mix_loud rfl ?_; intro KY hKY
                            go_wp2_with fail
                            refine (AH.out _ (Ext.refl wr).drew).mono ?_
                            rw [HV.out]
                            rintro e WA ⟨rfl, xA⟩
                            have yA := (Ext.refl wr).drew.trans xA
                            go_wp2_with fail
                            refine ⟨yA, ?_⟩
                            (repeat (first | (apply mix_read; (case ho => rfl); (case hw => rfl); (case h1 => intro W' hx; (try dsimp only at hx); go_simp; (try go_bits); with_reducible rfl); (case hp => go_simp; first | done | with_reducible rfl)) | (apply mix_skip; (case ho => rfl); (case hw => rfl); (case hp => go_simp; first | done | with_reducible rfl))))
                            refine mix_nil ?_; unfold Q0
                            go_wp2_with fail
                            go_roundw
                            case rel => exact ⟨n + 1, by omega, by go_num, hxi.trans yA⟩
                            case measure => simp [RowKit.intOf]; omega
                        · obtain rfl : n = l.length := by omega
                          have t3 := g1 _ hxi
                          have hs' := hs.ext hxi
                          have t4 := hs'.cell p (seenL_get _ k5)
                          have t5 := hs'.frozen p
                          have E1 := Lib.hid e1
                          clear e1 f5 fl hall ea d1 d2 g1
                          have k8 : (j : Int) < l.length := by omega
                          have k9 : j < l.length := by omega
                          go_upto_region 23 with (fail)
                          go_wp2_with fail
                          go_roundw
                          case rel => exact ⟨j + 1, by omega, by go_num, by rw [List.take_add_one, E1.out]; rw [Option.toList, ← seenL_set _ _ k5]; exact hs'.set p (.bool true), (hx.trans hxi).setCell (by simp; omega) _⟩
                          case measure => simp [RowKit.intOf]; omega
                  · obtain rfl : j = o.length := by omega
                    clear hs
                    replace hb := hb.ext hx
                    replace hm := hm.ext hx
                    replace h := h.ext hx
                    replace hr := hr.ext hx
                    have hx8 := hx6.trans hx
                    clear hx q5 hx6 hlt hj
                    go_upto_region 26 with (refine wpList_append_its rfl (.tmp 194) (.tmp 195) rfl wr.heap.size (.slice none 0 0) [] rfl (World.ownsRow_nil _ _ _ _) A cap l rfl hr (by simp; omega) (Nat.le_refl _) ?_; intro v8 W8 o8 g8 s8)
                    have x8 : Ext wr W8 := Grown.toExt (Ext.refl wr) g8 (fun k hk => by cases hk)
                    have hm8 := hm.ext x8
                    have m0 := hm8.cell 0 rfl
                    have m1 := hm8.cell 1 rfl
                    have m2 := hm8.cell 2 rfl
                    simp only [List.nil_append] at o8
                    go_upto_region 27 with (refine wpList_append_item rfl (.tmp 197) (.tmp 199) rfl wr.heap.size v8 l rfl (Owns.ext o8 ((Ext.refl W8).alloc _)) W8.heap.size 1 ⟨u, t, m⟩ rfl (Blk.newAt W8 [.int .i64 u, .int .u8 t, .bool m] _ _ rfl) (by omega) (Nat.le_trans x8.size (by rw [World.size_alloc]; omega)) ?_; intro v9 W9 o9 g9 s9)
                    have x9 : Ext wr W9 := Grown.toExt (x8.alloc _) g9 (fun k hk => (o8.lt k hk).1)
                    have hl9 : (l ++ [(⟨u, t, m⟩ : It)]).length ≤ 64 := by rw [List.length_append]; simp; omega
                    have PM := P.out.more
                    obtain ⟨l9, hq⟩ : ∃ l9, l ++ [(⟨u, t, m⟩ : It)] = l9 := ⟨_, rfl⟩
                    rw [hq] at o9 hsr hl9 PM
                    clear P hq
                    obtain ⟨A9, c9, rfl, n9, r9, _⟩ := OwnsI.rd o9
                    have hb9 := hb.ext x9
                    have h9 := h.ext x9
                    have hx9 := hx8.trans x9
                    have HR := Lib.hid (Ring_calls cs af be l9 A9 c9 W9 h9 r9 hl9 n9)
                    clear o8 g8 s8 m0 m1 m2 hm8 x8 o9 g9 s9 hb hm h hr x9 hx8
                    generalize RingL (nextL af be l9) = s at HR PM hsr
                    have key2 : r.length = 0 ∨ (((r.length : Int) == 0) = false ∧ 0 < s.length ∧ s.length ≤ r.length ∧ 0 < r.length) := by
                      rcases PM with e | ⟨e1, e2⟩
                      · exact .inl (by rw [e]; rfl)
                      · have := List.length_pos_iff.2 e1
                        exact .inr ⟨by rw [beq_eq_false_iff_ne]; omega, this, e2, by omega⟩
                    clear PM
                    have HSR := Lib.hid hsr
                    clear hsr
                    go_wp2_with (refine wpList_load_blk rfl 24 (.tmp 3) rfl G rfl HT.out hb9 ?_)
                    refine HR.out.mono ?_
                    rintro e W10 ⟨B10, c10, rfl, _, x10⟩
                    clear HR
                    rcases key2 with z1 | ⟨z1, z2, z3, z4⟩
                    all_goals
                      go_wp2_with fail
                      refine (HW.out _).mono ?_
                      rintro e WF ⟨rfl, xF⟩
                      go_wp2_with fail
                      go_ret
                      exact ⟨rfl, (hx9.trans x10).trans xF⟩
end Go.Proofs.Ythlobpdcolgcoaa
