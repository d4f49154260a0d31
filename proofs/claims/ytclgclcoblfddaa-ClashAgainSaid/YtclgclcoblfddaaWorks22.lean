/- Chapter 22: works: the chapter's examples. -/
import Derived.Test.YtclgclcoblfddaaFreeArg
namespace Go.Proofs.Ytclgclcoblfddaa
open Go.RowKit Go.Maps Go.Lib
set_option linter.unusedVariables false
set_option linter.unusedSimpArgs false
def g22 : GL := ⟨[[1], [], [], []], [[2, 3], [], [], []], [], [[], [2], [1], []], [], [], []⟩
def h22 : GL := ⟨[[1, 2], [], [], []], [], [], [[], [2], [1], []], [], [], []⟩
theorem free22a : freeL g22 [false, false, false, false] [] (0, 1) = ([⟨0, 1, true⟩, ⟨1, 1, true⟩, ⟨2, 2, true⟩, ⟨3, 1, false⟩], [(1, 2)], 0) := by kernel_rfl
theorem free22b : freeL h22 [false, false, false, false] [] (0, 1) = ([], [], 220) := by kernel_rfl
theorem four_ok {W : World} {A0 A1 A2 A3 : Option Addr} {c0 c1 c2 c3 : Nat} {x0 x1 x2 x3 : List Int} {b : Nat} (hb : Blk W b [.slice A0 x0.length c0, .slice A1 x1.length c1, .slice A2 x2.length c2, .slice A3 x3.length c3] 60)
    (h0 : RdV W A0 (ints x0)) (h1 : RdV W A1 (ints x1)) (h2 : RdV W A2 (ints x2)) (h3 : RdV W A3 (ints x3)) (l0 : x0.length ≤ 1000) (l1 : x1.length ≤ 1000) (l2 : x2.length ≤ 1000) (l3 : x3.length ≤ 1000) :
    (⟨some ⟨b, 0, none⟩, [⟨A0, c0, x0⟩, ⟨A1, c1, x1⟩, ⟨A2, c2, x2⟩, ⟨A3, c3, x3⟩], 4⟩ : Tb).ok W := by
  refine ⟨⟨Blk.rdv hb, fun r hr => ?_⟩, (by show 4 ≤ 1000; omega), fun r hr => ?_⟩
  · simp only [List.mem_cons, List.not_mem_nil, or_false] at hr
    rcases hr with rfl | rfl | rfl | rfl <;> assumption
  · simp only [List.mem_cons, List.not_mem_nil, or_false] at hr
    rcases hr with rfl | rfl | rfl | rfl <;> assumption
set_option maxRecDepth 100000 in
set_option maxHeartbeats 4000000 in
theorem works22_calls (w : World) : Calls Try.prog 29 #[] w fun e w' => e = .returned (.bool true) ∧ Ext w w' := by
  obtain ⟨B, hB⟩ : ∃ B, w.heap.size = B := ⟨_, rfl⟩
  go_enter Try.func29, Try.ntmps29
  go_upto_region 2 with (fail)
  refine wp_gen (fun W => Blk W B [.int .i64 1] 3 ∧ Blk W (B + 1 + 1 + 1 + 1) [.slice (some ⟨B, 0, none⟩) 1 1, .slice (some ⟨B + 1, 0, none⟩) 0 0, .slice (some ⟨B + 1 + 1, 0, none⟩) 0 0, .slice (some ⟨B + 1 + 1 + 1, 0, none⟩) 0 0] 60 ∧ Blk W (B + 1 + 1 + 1 + 1 + 1) [.int .i64 2, .int .i64 3] 3 ∧ Blk W (B + 1 + 1 + 1 + 1 + 1 + 1 + 1 + 1 + 1) [.slice (some ⟨B + 1 + 1 + 1 + 1 + 1, 0, none⟩) 2 2, .slice (some ⟨B + 1 + 1 + 1 + 1 + 1 + 1, 0, none⟩) 0 0, .slice (some ⟨B + 1 + 1 + 1 + 1 + 1 + 1 + 1, 0, none⟩) 0 0, .slice (some ⟨B + 1 + 1 + 1 + 1 + 1 + 1 + 1 + 1, 0, none⟩) 0 0] 60 ∧ Blk W (B + 1 + 1 + 1 + 1 + 1 + 1 + 1 + 1 + 1 + 1 + 1) [.int .i64 2] 3 ∧ Blk W (B + 1 + 1 + 1 + 1 + 1 + 1 + 1 + 1 + 1 + 1 + 1 + 1) [.int .i64 1] 3 ∧ Blk W (B + 1 + 1 + 1 + 1 + 1 + 1 + 1 + 1 + 1 + 1 + 1 + 1 + 1 + 1) [.slice (some ⟨B + 1 + 1 + 1 + 1 + 1 + 1 + 1 + 1 + 1 + 1, 0, none⟩) 0 0, .slice (some ⟨B + 1 + 1 + 1 + 1 + 1 + 1 + 1 + 1 + 1 + 1 + 1, 0, none⟩) 1 1, .slice (some ⟨B + 1 + 1 + 1 + 1 + 1 + 1 + 1 + 1 + 1 + 1 + 1 + 1, 0, none⟩) 1 1, .slice (some ⟨B + 1 + 1 + 1 + 1 + 1 + 1 + 1 + 1 + 1 + 1 + 1 + 1 + 1, 0, none⟩) 0 0] 60 ∧
    Blk W (B + 1 + 1 + 1 + 1 + 1 + 1 + 1 + 1 + 1 + 1 + 1 + 1 + 1 + 1 + 1) [.slice (some ⟨B + 1 + 1 + 1 + 1, 0, none⟩) 4 4, .slice (some ⟨B + 1 + 1 + 1 + 1 + 1 + 1 + 1 + 1 + 1, 0, none⟩) 4 4, .slice none 0 0, .slice none 0 0, .slice none 0 0, .slice none 0 0, .slice (some ⟨B + 1 + 1 + 1 + 1 + 1 + 1 + 1 + 1 + 1 + 1 + 1 + 1 + 1 + 1, 0, none⟩) 4 4, .slice none 0 0, .slice none 0 0, .slice none 0 0] 24 ∧ Ext w W) ⟨(by repeat (first | (refine Blk.newAt _ _ _ _ ?_; simp [hB]; done) | apply Blk.alloc)), (by repeat (first | (refine Blk.newAt _ _ _ _ ?_; simp [hB]; done) | apply Blk.alloc)), (by repeat (first | (refine Blk.newAt _ _ _ _ ?_; simp [hB]; done) | apply Blk.alloc)), (by repeat (first | (refine Blk.newAt _ _ _ _ ?_; simp [hB]; done) | apply Blk.alloc)), (by repeat (first | (refine Blk.newAt _ _ _ _ ?_; simp [hB]; done) | apply Blk.alloc)), (by repeat (first | (refine Blk.newAt _ _ _ _ ?_; simp [hB]; done) | apply Blk.alloc)), (by repeat (first | (refine Blk.newAt _ _ _ _ ?_; simp [hB]; done) | apply Blk.alloc)), (by repeat (first | (refine Blk.newAt _ _ _ _ ?_; simp [hB]; done) | apply Blk.alloc)), by repeat (first | exact Ext.refl w | apply Ext.alloc)⟩ ?_
  rintro W0 ⟨b0, b4, b5, b9, b11, b12, b14, b15, hx0⟩
  obtain ⟨Tc, hTv, hTok, hTl⟩ : ∃ Tc : Tb, Tc.v = .slice (some ⟨B + 1 + 1 + 1 + 1 + 1 + 1 + 1 + 1 + 1 + 1 + 1 + 1 + 1 + 1, 0, none⟩) 4 4 ∧ Tc.ok W0 ∧ Tc.l = [[], [2], [1], []] :=
    ⟨⟨some ⟨B + 1 + 1 + 1 + 1 + 1 + 1 + 1 + 1 + 1 + 1 + 1 + 1 + 1 + 1, 0, none⟩, [⟨some ⟨B + 1 + 1 + 1 + 1 + 1 + 1 + 1 + 1 + 1 + 1, 0, none⟩, 0, []⟩, ⟨some ⟨B + 1 + 1 + 1 + 1 + 1 + 1 + 1 + 1 + 1 + 1 + 1, 0, none⟩, 1, [2]⟩, ⟨some ⟨B + 1 + 1 + 1 + 1 + 1 + 1 + 1 + 1 + 1 + 1 + 1 + 1, 0, none⟩, 1, [1]⟩, ⟨some ⟨B + 1 + 1 + 1 + 1 + 1 + 1 + 1 + 1 + 1 + 1 + 1 + 1 + 1, 0, none⟩, 0, []⟩], 4⟩, rfl, four_ok b14 (.inl rfl) (Blk.rdv b11) (Blk.rdv b12) (.inl rfl) (by decide) (by decide) (by decide) (by decide), rfl⟩
  obtain ⟨G, hcs, hok, hGl⟩ : ∃ G : G7, G.cs = [.slice (some ⟨B + 1 + 1 + 1 + 1, 0, none⟩) 4 4, .slice (some ⟨B + 1 + 1 + 1 + 1 + 1 + 1 + 1 + 1 + 1, 0, none⟩) 4 4, .slice none 0 0, .slice none 0 0, .slice none 0 0, .slice none 0 0, .slice (some ⟨B + 1 + 1 + 1 + 1 + 1 + 1 + 1 + 1 + 1 + 1 + 1 + 1 + 1 + 1, 0, none⟩) 4 4, .slice none 0 0, .slice none 0 0, .slice none 0 0] ∧ G.ok W0 ∧ G.l = g22 :=
    ⟨⟨⟨some ⟨B + 1 + 1 + 1 + 1, 0, none⟩, [⟨some ⟨B, 0, none⟩, 1, [1]⟩, ⟨some ⟨B + 1, 0, none⟩, 0, []⟩, ⟨some ⟨B + 1 + 1, 0, none⟩, 0, []⟩, ⟨some ⟨B + 1 + 1 + 1, 0, none⟩, 0, []⟩], 4⟩, ⟨some ⟨B + 1 + 1 + 1 + 1 + 1 + 1 + 1 + 1 + 1, 0, none⟩, [⟨some ⟨B + 1 + 1 + 1 + 1 + 1, 0, none⟩, 2, [2, 3]⟩, ⟨some ⟨B + 1 + 1 + 1 + 1 + 1 + 1, 0, none⟩, 0, []⟩, ⟨some ⟨B + 1 + 1 + 1 + 1 + 1 + 1 + 1, 0, none⟩, 0, []⟩, ⟨some ⟨B + 1 + 1 + 1 + 1 + 1 + 1 + 1 + 1, 0, none⟩, 0, []⟩], 4⟩, tbNil, .slice none 0 0, .slice none 0 0, .slice none 0 0, Tc, tbNil, tbNil, tbNil⟩, by simp only [G7.cs]; rw [hTv]; rfl, ⟨four_ok b4 (Blk.rdv b0) (.inl rfl) (.inl rfl) (.inl rfl) (by decide) (by decide) (by decide) (by decide),
      four_ok b9 (Blk.rdv b5) (.inl rfl) (.inl rfl) (.inl rfl) (by decide) (by decide) (by decide) (by decide), tbNil_ok _, hTok, tbNil_ok _, tbNil_ok _, tbNil_ok _⟩, by show GL.mk _ _ _ Tc.l _ _ _ = _; rw [hTl]; rfl⟩
  rw [← hcs] at b15
  generalize B + 1 + 1 + 1 + 1 + 1 + 1 + 1 + 1 + 1 + 1 + 1 + 1 + 1 + 1 + 1 = q at b15 ⊢
  have HF := Lib.hid (fun W (hx : Ext W0 W) Aon con (hon : RdV W Aon [.bool false, .bool false, .bool false, .bool false]) => free_calls W G Aon con [false, false, false, false] 0 1 [] none 0 (hok.ext hx) hon (by decide) (.inl rfl) (by decide) (Nat.le_refl _) (by decide))
  rw [hGl, free22a] at HF
  have HT := Lib.hid (rowG7 G)
  have hc6 : G.cs[6]? = some (.slice (some ⟨B + 1 + 1 + 1 + 1 + 1 + 1 + 1 + 1 + 1 + 1 + 1 + 1 + 1 + 1, 0, none⟩) 4 4) := by rw [hcs]; rfl
  have HTV := Lib.hid hTv
  clear b0 b4 b5 b9 b11 b12 b14 hcs hok hGl hTv
  have hmk : (Instr.makeSlice 25 (.int .i64 4) (.int .i64 4)).run Try.prog W0 = .ok (.slice (some ⟨W0.heap.size, 0, none⟩) 4 4) (W0.alloc (.cells #[.bool false, .bool false, .bool false, .bool false] 4)) := make_bools 4 (by omega) W0
  go_upto_region 3 with (fail)
  clear hmk
  refine wp_gen (fun W => Blk W W0.heap.size [.bool false, .bool false, .bool false, .bool false] 4 ∧ Blk W q G.cs 24 ∧ Ext W0 W) ⟨Blk.newAt _ _ _ _ rfl, b15.alloc _, (Ext.refl W0).alloc _⟩ ?_
  obtain ⟨qo, hqo⟩ : ∃ qo, W0.heap.size = qo := ⟨_, rfl⟩
  rw [hqo]
  clear b15
  rintro W1 ⟨bo, bg, hx1⟩
  have H1 := Lib.hid (HF.out W1 hx1 (some ⟨qo, 0, none⟩) 4 (Blk.rdv bo))
  go_upto_region 4 with (first
    | (refine wpList_load_blk rfl 24 (.tmp 1) rfl q rfl HT.out bg ?_)
    | (go_at_call 30; refine H1.out.mono ?_; rintro e W3 ⟨v1, v2, rfl, o1, o2, hx3⟩))
  replace bo := bo.ext hx3
  replace bg := bg.ext hx3
  have hx3' : Ext W0 W3 := Ext.trans hx1 hx3
  clear H1 hx1 hx3 HF
  obtain ⟨C, hC⟩ : ∃ C, W3.heap.size = C := ⟨_, rfl⟩
  have c6 : W3.cell? ⟨q, 6, none⟩ = some (.slice (some ⟨B + 1 + 1 + 1 + 1 + 1 + 1 + 1 + 1 + 1 + 1 + 1 + 1 + 1 + 1, 0, none⟩) 4 4) := bg.cell 6 hc6
  have c6' : ∀ o1 o2 o3 o4 o5, (((((W3.alloc o1).alloc o2).alloc o3).alloc o4).alloc o5).cell? ⟨q, 6, none⟩ = some (.slice (some ⟨B + 1 + 1 + 1 + 1 + 1 + 1 + 1 + 1 + 1 + 1 + 1 + 1 + 1 + 1, 0, none⟩) 4 4) := fun o1 o2 o3 o4 o5 => ((((((Ext.refl W3).alloc o1).alloc o2).alloc o3).alloc o4).alloc o5).cell c6
  replace bo := Lib.hid bo
  replace hx3' := Lib.hid hx3'
  replace hx0 := Lib.hid hx0
  replace o1 := Lib.hid o1
  replace o2 := Lib.hid o2
  clear bg c6
  go_upto_region 5 with (fail)
  refine wp_gen (fun W => Blk W C [.int .i64 1, .int .i64 2] 3 ∧ Blk W (C + 1 + 1 + 1 + 1) [.slice (some ⟨C, 0, none⟩) 2 2, .slice (some ⟨C + 1, 0, none⟩) 0 0, .slice (some ⟨C + 1 + 1, 0, none⟩) 0 0, .slice (some ⟨C + 1 + 1 + 1, 0, none⟩) 0 0] 60 ∧ Blk W (C + 1 + 1 + 1 + 1 + 1) [.slice (some ⟨C + 1 + 1 + 1 + 1, 0, none⟩) 4 4, .slice none 0 0, .slice none 0 0, .slice none 0 0, .slice none 0 0, .slice none 0 0, .slice (some ⟨B + 1 + 1 + 1 + 1 + 1 + 1 + 1 + 1 + 1 + 1 + 1 + 1 + 1 + 1, 0, none⟩) 4 4, .slice none 0 0, .slice none 0 0, .slice none 0 0] 24 ∧ Ext W3 W)
    ⟨(by repeat (first | (refine Blk.newAt _ _ _ _ ?_; simp [hC]; done) | apply Blk.alloc)), (by repeat (first | (refine Blk.newAt _ _ _ _ ?_; simp [hC]; done) | apply Blk.alloc)), (by repeat (first | (refine Blk.newAt _ _ _ _ ?_; simp [hC]; done) | apply Blk.alloc)), by repeat (first | exact Ext.refl _ | apply Ext.alloc)⟩ ?_
  clear c6'
  rintro W4 ⟨d0, d4, d5, hx4⟩
  obtain ⟨H, hcs2, hok2, hHl⟩ : ∃ H : G7, H.cs = [.slice (some ⟨C + 1 + 1 + 1 + 1, 0, none⟩) 4 4, .slice none 0 0, .slice none 0 0, .slice none 0 0, .slice none 0 0, .slice none 0 0, .slice (some ⟨B + 1 + 1 + 1 + 1 + 1 + 1 + 1 + 1 + 1 + 1 + 1 + 1 + 1 + 1, 0, none⟩) 4 4, .slice none 0 0, .slice none 0 0, .slice none 0 0] ∧ H.ok W4 ∧ H.l = h22 :=
    ⟨⟨⟨some ⟨C + 1 + 1 + 1 + 1, 0, none⟩, [⟨some ⟨C, 0, none⟩, 2, [1, 2]⟩, ⟨some ⟨C + 1, 0, none⟩, 0, []⟩, ⟨some ⟨C + 1 + 1, 0, none⟩, 0, []⟩, ⟨some ⟨C + 1 + 1 + 1, 0, none⟩, 0, []⟩], 4⟩, tbNil, tbNil, .slice none 0 0, .slice none 0 0, .slice none 0 0, Tc, tbNil, tbNil, tbNil⟩, by simp only [G7.cs]; rw [HTV.out]; rfl, ⟨four_ok d4 (Blk.rdv d0) (.inl rfl) (.inl rfl) (.inl rfl) (by decide) (by decide) (by decide) (by decide),
      tbNil_ok _, tbNil_ok _, Tb.ok.ext hTok (Ext.trans hx3'.out hx4), tbNil_ok _, tbNil_ok _, tbNil_ok _⟩, by show GL.mk _ _ _ Tc.l _ _ _ = _; rw [hTl]; rfl⟩
  rw [← hcs2] at d5
  generalize C + 1 + 1 + 1 + 1 + 1 = q2 at d5 ⊢
  have H2 := free_calls W4 H (some ⟨qo, 0, none⟩) 4 [false, false, false, false] 0 1 [] none 0 hok2 (Blk.rdv (bo.out.ext hx4)) (by decide) (.inl rfl) (by decide) (Nat.le_refl _) (by decide)
  rw [hHl, free22b] at H2
  replace H2 := Lib.hid H2
  have HT2 := Lib.hid (rowG7 H)
  replace o1 := Owns.ext o1.out hx4
  replace o2 := Owns.ext o2.out hx4
  have hx4' : Ext W0 W4 := Ext.trans hx3'.out hx4
  clear d0 d4 hcs2 hok2 hHl hTok hTl hx4 hx3' bo HT hC hc6 hqo
  obtain ⟨A1, c1, rfl, hc1, hr1, _⟩ := OwnsI.rd o1
  obtain ⟨A2, c2, rfl, hc2, hr2, _⟩ := OwnsJ.rd o2
  rcases hr1 with hr1 | ⟨b1, o1', h1, h2⟩
  · cases hr1
  cases h1
  rcases hr2 with hr2 | ⟨b2, o2', h3, h4⟩
  · cases hr2
  subst h3
  have y0 := (h2 0 0 1 true rfl).2.2
  have y1 := (h2 1 1 1 true rfl).2.1
  have y2 := (h2 2 2 2 true rfl).2.1
  have y3 := (h2 2 2 2 true rfl).2.2
  have y4 := (h2 3 3 1 false rfl).2.1
  have y5 := (h2 3 3 1 false rfl).2.2
  have y6 := (h4 0 1 2 rfl).1
  have y7 := (h4 0 1 2 rfl).2
  simp only [Nat.zero_mul, Nat.add_zero, Nat.one_mul] at y0 y1 y2 y3 y4 y5 y6 y7
  replace y0 := Lib.hid y0
  replace y1 := Lib.hid y1
  replace y2 := Lib.hid y2
  replace y3 := Lib.hid y3
  replace y4 := Lib.hid y4
  replace y5 := Lib.hid y5
  replace y6 := Lib.hid y6
  replace y7 := Lib.hid y7
  clear h2 h4 o1 o2
  simp only [List.length_cons, List.length_nil, Nat.zero_add, Nat.reduceAdd] at *
  go_wp2_with (first
    | (refine wpList_load_blk rfl 24 (.tmp 6) rfl q2 rfl HT2.out d5 ?_)
    | (go_at_call 30; refine H2.out.mono ?_; rintro e W5 ⟨v3, v4, rfl, o3, o4, hx5⟩; have x0 := hx5.cell y0.out; have x1 := hx5.cell y1.out; have x2 := hx5.cell y2.out; have x3 := hx5.cell y3.out; have x4 := hx5.cell y4.out; have x5 := hx5.cell y5.out; have x6 := hx5.cell y6.out; have x7 := hx5.cell y7.out))
  go_ret
  exact ⟨rfl, Ext.trans hx0.out (Ext.trans hx4' hx5)⟩
end Go.Proofs.Ytclgclcoblfddaa
