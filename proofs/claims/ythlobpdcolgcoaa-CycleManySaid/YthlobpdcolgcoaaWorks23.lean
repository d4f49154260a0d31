/- Chapter 23: works: the chapter's examples. -/
import Derived.Test.YthlobpdcolgcoaaOrder
namespace Go.Proofs.Ythlobpdcolgcoaa
open Go.RowKit Go.Maps Go.Lib
set_option linter.unusedVariables false
set_option linter.unusedSimpArgs false

def gAf : List (List Int) := [[2], [0], [1]]
def gBe : List (List Int) := [[], [], []]
theorem ringEx : RingL (nextL gAf gBe [⟨0, 1, false⟩, ⟨1, 1, false⟩, ⟨2, 1, false⟩]) = [0, 1, 2] := by decide +kernel
theorem orderA : OrderL (nextL gAf gBe [⟨0, 1, false⟩, ⟨1, 1, false⟩]) = [0, 1] := by decide +kernel
theorem orderB : OrderL (nextL gAf gBe [⟨0, 2, false⟩, ⟨1, 2, false⟩]) = [1, 0] := by decide +kernel

theorem RdI.of2 {W : World} {b : Nat} {u0 t0 u1 t1 : Int} {m0 m1 : Bool} {T : TypeId} (h : Blk W b [.int .i64 u0, .int .u8 t0, .bool m0, .int .i64 u1, .int .u8 t1, .bool m1] T) : RdI W (some ⟨b, 0, none⟩) [⟨u0, t0, m0⟩, ⟨u1, t1, m1⟩] :=
  .inr ⟨b, 0, rfl, fun j u t m hj => by
    match j, hj with
    | 0, hj => cases hj; exact ⟨h.cell 0 rfl, h.cell 1 rfl, h.cell 2 rfl⟩
    | 1, hj => cases hj; exact ⟨h.cell 3 rfl, h.cell 4 rfl, h.cell 5 rfl⟩⟩
theorem RdI.of3 {W : World} {b : Nat} {u0 t0 u1 t1 u2 t2 : Int} {m0 m1 m2 : Bool} {T : TypeId} (h : Blk W b [.int .i64 u0, .int .u8 t0, .bool m0, .int .i64 u1, .int .u8 t1, .bool m1, .int .i64 u2, .int .u8 t2, .bool m2] T) : RdI W (some ⟨b, 0, none⟩) [⟨u0, t0, m0⟩, ⟨u1, t1, m1⟩, ⟨u2, t2, m2⟩] :=
  .inr ⟨b, 0, rfl, fun j u t m hj => by
    match j, hj with
    | 0, hj => cases hj; exact ⟨h.cell 0 rfl, h.cell 1 rfl, h.cell 2 rfl⟩
    | 1, hj => cases hj; exact ⟨h.cell 3 rfl, h.cell 4 rfl, h.cell 5 rfl⟩
    | 2, hj => cases hj; exact ⟨h.cell 6 rfl, h.cell 7 rfl, h.cell 8 rfl⟩⟩
theorem RdV.of1 {W : World} {b : Nat} {v0 : Value} (h0 : W.cell? ⟨b, 0, none⟩ = some v0) : RdV W (some ⟨b, 0, none⟩) [v0] := .inr ⟨b, 0, rfl, fun j v hv => by
  match j, hv with
  | 0, hv => cases hv; exact h0⟩
theorem RdV.of3 {W : World} {b : Nat} {v0 v1 v2 : Value} (h0 : W.cell? ⟨b, 0, none⟩ = some v0) (h1 : W.cell? ⟨b, 1, none⟩ = some v1) (h2 : W.cell? ⟨b, 2, none⟩ = some v2) : RdV W (some ⟨b, 0, none⟩) [v0, v1, v2] := .inr ⟨b, 0, rfl, fun j v hv => by
  match j, hv with
  | 0, hv => cases hv; exact h0
  | 1, hv => cases hv; exact h1
  | 2, hv => cases hv; exact h2⟩
theorem one_calls (u t : Int) (w : World) : Calls Try.prog 21 #[.int .i64 u, .int .u8 t] w fun e w' => e = .returned (.agg #[.int .i64 u, .int .u8 t, .bool false]) ∧ Ext w w' := by
  go_enter Try.func21, Try.ntmps21
  go_upto_region 1 with (fail)
  refine wp_gen (fun W => Ext w W ∧ Blk W w.heap.size [.int .i64 0, .int .u8 0, .bool false] 30) ⟨(Ext.refl w).alloc _, Blk.new w [.int .i64 0, .int .u8 0, .bool false] _⟩ ?_
  rintro W0 ⟨hx, hb⟩
  have d0 := hb.cell 0 rfl
  have d1 := hb.cell 1 rfl
  have d2 := hb.cell 2 rfl
  have z0 := hb.frozen 0
  have z1 := hb.frozen 1
  have z2 := hb.frozen 2
  have hb2 := ((hb.set 0 (.int .i64 u)).set 1 (.int .u8 t)).set 2 (.bool false)
  have hx2 := ((hx.setCell (p := ⟨w.heap.size, 0, none⟩) (by simp) (.int .i64 u)).setCell (p := ⟨w.heap.size, 1, none⟩) (by simp) (.int .u8 t)).setCell (p := ⟨w.heap.size, 2, none⟩) (by simp) (.bool false)
  have HB := Lib.hid hb2
  have HX := Lib.hid hx2
  clear hb2 hx2 hb hx
  go_wp2_with fail
  exact bodyPost_ret (v := .agg #[.int .i64 u, .int .u8 t, .bool false]) (results_cell Try.results21 _ _ rfl rowItem HB.out) rfl ⟨rfl, HX.out⟩

set_option maxRecDepth 100000 in
set_option maxHeartbeats 2000000 in
theorem works_calls (w : World) : Calls Try.prog 10 #[] w fun e w' => e = .returned (.bool true) ∧ Ext w w' := by
  go_enter Try.func10, Try.ntmps10
  go_upto_region 2 with (fail)
  refine wp_gen (fun W => ∃ cs, Blk W (w.heap.size + 1 + 1 + 1 + 1 + 1 + 1 + 1 + 1) cs 24 ∧ GR W cs gAf gBe ∧ Ext w W)
    ⟨[.slice none 0 0, .slice none 0 0, .slice none 0 0, .slice none 0 0, .slice (some ⟨w.heap.size + 1 + 1 + 1, 0, none⟩) 3 3, .slice (some ⟨w.heap.size + 1 + 1 + 1 + 1 + 1 + 1 + 1, 0, none⟩) 3 3, .slice none 0 0, .slice none 0 0, .slice none 0 0, .slice none 0 0],
      Blk.newAt _ _ _ _ (by simp), ⟨_, 3, [⟨some ⟨w.heap.size, 0, none⟩, 1, [2]⟩, ⟨some ⟨w.heap.size + 1, 0, none⟩, 1, [0]⟩, ⟨some ⟨w.heap.size + 1 + 1, 0, none⟩, 1, [1]⟩], _, 3, [⟨some ⟨w.heap.size + 1 + 1 + 1 + 1, 0, none⟩, 0, []⟩, ⟨some ⟨w.heap.size + 1 + 1 + 1 + 1 + 1, 0, none⟩, 0, []⟩, ⟨some ⟨w.heap.size + 1 + 1 + 1 + 1 + 1 + 1, 0, none⟩, 0, []⟩],
        rfl, rfl, rfl, ⟨RdV.of3 (by first | (go_simp; done) | (go_simp; rfl)) (by first | (go_simp; done) | (go_simp; rfl)) (by first | (go_simp; done) | (go_simp; rfl)), fun r hr => ?_⟩, ⟨RdV.of3 (by first | (go_simp; done) | (go_simp; rfl)) (by first | (go_simp; done) | (go_simp; rfl)) (by first | (go_simp; done) | (go_simp; rfl)), fun r hr => ?_⟩, rfl, rfl, ?_, ?_, by simp, by simp⟩, ?_⟩ ?_
  · rcases List.mem_cons.1 hr with rfl | hr
    · exact RdV.of1 (by go_simp)
    rcases List.mem_cons.1 hr with rfl | hr
    · exact RdV.of1 (by go_simp)
    rcases List.mem_cons.1 hr with rfl | hr
    · exact RdV.of1 (by go_simp)
    cases hr
  · rcases List.mem_cons.1 hr with rfl | hr
    · exact .inl rfl
    rcases List.mem_cons.1 hr with rfl | hr
    · exact .inl rfl
    rcases List.mem_cons.1 hr with rfl | hr
    · exact .inl rfl
    cases hr
  · intro r hr
    simp only [List.mem_cons, List.not_mem_nil, or_false] at hr
    rcases hr with rfl | rfl | rfl <;> simp
  · intro r hr
    simp only [List.mem_cons, List.not_mem_nil, or_false] at hr
    rcases hr with rfl | rfl | rfl <;> simp
  · exact (((((((((Ext.refl w).alloc _).alloc _).alloc _).alloc _).alloc _).alloc _).alloc _).alloc _).alloc _
  generalize w.heap.size + 1 + 1 + 1 + 1 + 1 + 1 + 1 + 1 = G
  rintro W1 ⟨cs, hb, hg, hx⟩
  have hl : cs.length = 10 := by obtain ⟨_, _, _, _, _, _, h0, _⟩ := hg; exact h0
  have HT := Lib.hid (rowG cs.length hl)
  clear hl
  refine wp_region_mix (fun W => Blk W G cs 24) 5 [(0, true), (1, false), (2, false), (3, false), (4, false), (5, false), (6, false)] (by kernel_rfl) (by kernel_rfl) (hb.drew) ?_
  (apply mix_read; (case ho => rfl); (case hw => rfl); (case h1 => intro W' hx; exact read_load_blk rfl rfl (HT.out) hx); (case hp => go_simp; first | done | with_reducible rfl))
  refine mix_loud rfl ?_; intro KY hKY; go_wp2_with fail; refine (one_calls 0 1 _).mono ?_; rintro e W2 ⟨rfl, x2⟩; go_wp2_with fail; refine ⟨Blk.ext hb.drew x2, ?_⟩
  refine mix_loud rfl ?_; intro KY hKY; go_wp2_with fail; refine (one_calls 1 1 _).mono ?_; rintro e W3 ⟨rfl, x3⟩; go_wp2_with fail; refine ⟨Blk.ext (hb.drew.ext x2) x3, ?_⟩
  refine mix_loud rfl ?_; intro KY hKY; go_wp2_with fail; refine (one_calls 2 1 _).mono ?_; rintro e W4 ⟨rfl, x4⟩; go_wp2_with fail; refine ⟨Blk.ext ((hb.drew.ext x2).ext x3) x4, ?_⟩
  refine mix_loud rfl ?_; intro KY hKY
  go_wp2_with fail
  have xa := ((((Ext.refl W1).drew).trans x2).trans x3).trans x4
  refine ⟨(hb.ext xa).alloc _, ?_⟩
  refine mix_end 5 (by kernel_rfl) (by kernel_rfl) ?_; simp only [List.take_succ_cons, List.take_zero, List.drop_succ_cons, List.drop_zero]; unfold Q0
  have C := Lib.hid (Ring_calls cs gAf gBe [⟨0, 1, false⟩, ⟨1, 1, false⟩, ⟨2, 1, false⟩] (some ⟨W4.heap.size, 0, none⟩) 3 _ ((hg.ext xa).ext ((Ext.refl W4).alloc _)) (RdI.of3 (Blk.new W4 [.int .i64 0, .int .u8 1, .bool false, .int .i64 1, .int .u8 1, .bool false, .int .i64 2, .int .u8 1, .bool false] 30)) (by decide) (by decide))
  rw [ringEx] at C
  go_wp2_with fail
  refine C.out.mono ?_
  rintro e W5 ⟨B1, c1, rfl, ⟨r1, _⟩, x5⟩
  have xb := (xa.alloc _).trans x5
  clear x5
  clear x2 x3 x4 xa C
  go_upto_region 3 with (fail)
  have hb5 := hb.ext xb
  refine wp_region_mix (fun W => Blk W G cs 24) 4 [(0, true), (1, false), (2, false), (3, false), (4, false), (5, false)] (by kernel_rfl) (by kernel_rfl) (hb5.drew) ?_
  (apply mix_read; (case ho => rfl); (case hw => rfl); (case h1 => intro W' hx; exact read_load_blk rfl rfl (HT.out) hx); (case hp => go_simp; first | done | with_reducible rfl))
  refine mix_loud rfl ?_; intro KY hKY; go_wp2_with fail; refine (one_calls 0 1 _).mono ?_; rintro e W2 ⟨rfl, x2⟩; go_wp2_with fail; refine ⟨Blk.ext hb5.drew x2, ?_⟩
  refine mix_loud rfl ?_; intro KY hKY; go_wp2_with fail; refine (one_calls 1 1 _).mono ?_; rintro e W3 ⟨rfl, x3⟩; go_wp2_with fail; refine ⟨Blk.ext (hb5.drew.ext x2) x3, ?_⟩
  refine mix_loud rfl ?_; intro KY hKY
  go_wp2_with fail
  have xa := ((Ext.drew xb).trans x2).trans x3
  refine ⟨(hb.ext xa).alloc _, ?_⟩
  refine mix_end 4 (by kernel_rfl) (by kernel_rfl) ?_; simp only [List.take_succ_cons, List.take_zero, List.drop_succ_cons, List.drop_zero]; unfold Q0
  have C := Lib.hid (Order_calls cs gAf gBe [⟨0, 1, false⟩, ⟨1, 1, false⟩] (some ⟨W3.heap.size, 0, none⟩) 2 _ ((hg.ext xa).ext ((Ext.refl W3).alloc _)) (RdI.of2 (Blk.new W3 [.int .i64 0, .int .u8 1, .bool false, .int .i64 1, .int .u8 1, .bool false] 30)) (by decide) (by decide))
  rw [orderA] at C
  go_wp2_with fail
  refine C.out.mono ?_
  rintro e W6 ⟨B2, c2, rfl, ⟨r2, _⟩, x5⟩
  have xc := (xa.alloc _).trans x5
  clear C xa
  have y2 : Ext W5 W6 := ((((Ext.refl W5).drew).trans x2).trans x3 |>.alloc _).trans x5
  clear x2 x3 x5
  go_upto_region 4 with (fail)
  have hb6 := hb.ext xc
  refine wp_region_mix (fun W => Blk W G cs 24) 4 [(0, true), (1, false), (2, false), (3, false), (4, false), (5, false)] (by kernel_rfl) (by kernel_rfl) (hb6.drew) ?_
  (apply mix_read; (case ho => rfl); (case hw => rfl); (case h1 => intro W' hx; exact read_load_blk rfl rfl (HT.out) hx); (case hp => go_simp; first | done | with_reducible rfl))
  refine mix_loud rfl ?_; intro KY hKY; go_wp2_with fail; refine (one_calls 0 2 _).mono ?_; rintro e W2 ⟨rfl, x2⟩; go_wp2_with fail; refine ⟨Blk.ext hb6.drew x2, ?_⟩
  refine mix_loud rfl ?_; intro KY hKY; go_wp2_with fail; refine (one_calls 1 2 _).mono ?_; rintro e W3 ⟨rfl, x3⟩; go_wp2_with fail; refine ⟨Blk.ext (hb6.drew.ext x2) x3, ?_⟩
  refine mix_loud rfl ?_; intro KY hKY
  go_wp2_with fail
  have xa := ((Ext.drew xc).trans x2).trans x3
  refine ⟨(hb.ext xa).alloc _, ?_⟩
  refine mix_end 4 (by kernel_rfl) (by kernel_rfl) ?_; simp only [List.take_succ_cons, List.take_zero, List.drop_succ_cons, List.drop_zero]; unfold Q0
  have C := Lib.hid (Order_calls cs gAf gBe [⟨0, 2, false⟩, ⟨1, 2, false⟩] (some ⟨W3.heap.size, 0, none⟩) 2 _ ((hg.ext xa).ext ((Ext.refl W3).alloc _)) (RdI.of2 (Blk.new W3 [.int .i64 0, .int .u8 2, .bool false, .int .i64 1, .int .u8 2, .bool false] 30)) (by decide) (by decide))
  rw [orderB] at C
  go_wp2_with fail
  refine C.out.mono ?_
  rintro e W7 ⟨B3, c3, rfl, ⟨r3, _⟩, x5⟩
  have xd := (xa.alloc _).trans x5
  clear C xa
  have y3 : Ext W6 W7 := ((((Ext.refl W6).drew).trans x2).trans x3 |>.alloc _).trans x5
  clear x2 x3 x5 hb5 hb6 HT
  have q1 := (r1.ext y2).ext y3
  have q2 := r2.ext y3
  have xw := hx.trans xd
  have S1 := Lib.hid (same_calls [0, 1, 2] [0, 1, 2] B1 (some ⟨W7.heap.size, 0, none⟩) c1 3 _ (q1.ext ((Ext.refl W7).alloc (.cells #[.int .i64 0, .int .i64 1, .int .i64 2] 3))) (RdV.of3 ((Blk.new W7 [.int .i64 0, .int .i64 1, .int .i64 2] 3).cell 0 rfl) ((Blk.new W7 [.int .i64 0, .int .i64 1, .int .i64 2] 3).cell 1 rfl) ((Blk.new W7 [.int .i64 0, .int .i64 1, .int .i64 2] 3).cell 2 rfl)) (by decide) (by decide))
  go_wp2_with fail
  refine S1.out.mono ?_
  rintro e W8 ⟨rfl, z8⟩
  have w8 := (xw.alloc _).trans z8
  have q22 := (q2.ext ((Ext.refl W7).alloc _)).ext z8
  have q33 := (r3.ext ((Ext.refl W7).alloc _)).ext z8
  clear S1 z8
  have S2 := Lib.hid (same_calls [0, 1] [0, 1] B2 (some ⟨W8.heap.size, 0, none⟩) c2 2 _ (q22.ext ((Ext.refl W8).alloc (.cells #[.int .i64 0, .int .i64 1] 3))) (Blk.rdv (Blk.new W8 [.int .i64 0, .int .i64 1] 3)) (by decide) (by decide))
  go_wp2_with fail
  refine S2.out.mono ?_
  rintro e W9 ⟨rfl, z9⟩
  have w9 := (w8.alloc _).trans z9
  have q333 := (q33.ext ((Ext.refl W8).alloc _)).ext z9
  clear S2 z9
  have S3 := Lib.hid (same_calls [1, 0] [1, 0] B3 (some ⟨W9.heap.size, 0, none⟩) c3 2 _ (q333.ext ((Ext.refl W9).alloc (.cells #[.int .i64 1, .int .i64 0] 3))) (Blk.rdv (Blk.new W9 [.int .i64 1, .int .i64 0] 3)) (by decide) (by decide))
  go_wp2_with fail
  refine S3.out.mono ?_
  rintro e W10 ⟨rfl, z10⟩
  have w10 := (w9.alloc _).trans z10
  clear S3
  go_wp2_with fail
  go_ret
  exact ⟨rfl, w10⟩
end Go.Proofs.Ythlobpdcolgcoaa
