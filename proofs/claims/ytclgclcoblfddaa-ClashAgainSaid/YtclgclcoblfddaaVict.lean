/- Chapter 22: clash.Victim. -/
import Derived.Test.YtclgclcoblfddaaDelI
namespace Go.Proofs.Ytclgclcoblfddaa
open Go.RowKit Go.Shelf
set_option linter.unusedVariables false
set_option linter.unusedSimpArgs false
theorem grown_cell {A B : World} {r : Option Nat} (h : A.grownBy B r) {g o : Nat} {v : Value} (hc : A.cell? ⟨g, o, none⟩ = some v) (hn : some g ≠ r) : B.cell? ⟨g, o, none⟩ = some v := by
  have hlt : g < A.heap.size := World.block_lt_of_cell? _ _ hc
  rw [← hc]
  simp [World.cell?, h.block g hlt hn]
theorem results_cell_tmp2 {P : Program} {fn : Func} {p q r : Tmp} {T : TypeId} (h : fn.results = #[.cell p T, .tmp q, .tmp r]) (tmps : Array Value) (w : World) {g : Nat} {cs : List Value} {T' : TypeId} {v u : Value}
    (hp : tmps.getD p undef = .pointer (some ⟨g, 0, none⟩)) (hT : isRowT P T cs.length) (hb : Blk w g cs T') (hq : tmps.getD q undef = v) (hr : tmps.getD r undef = u) :
    (results fn tmps).run P w = .ok (.tuple #[.agg cs.toArray, v, u]) w := by
  have hp' : tmps[p]?.getD undef = .pointer (some ⟨g, 0, none⟩) := by simpa using hp
  have hq' : tmps[q]?.getD undef = v := by simpa using hq
  have hr' : tmps[r]?.getD undef = u := by simpa using hr
  simp [results, h, hp', hq', hr', asAddr, run_loadVar_blk hT hb]
theorem rowJobV : isRowT Try.prog 32 2 := ⟨by kernel_rfl, by kernel_rfl⟩
/-- The job that has to go. -/
def victL (l : List It) : Jb × Bool × Int :=
  match (wholeL (sortedL l)).2 with
  | [] => ((0, 0), false, 0)
  | b :: _ => match ((sortedL l).filter fun x => !stays b.1 x).getLast? with
    | none => ((0, 0), false, 220)
    | some x => (jobOf x, true, 0)
set_option maxRecDepth 100000 in
set_option maxHeartbeats 4000000 in
theorem vict_calls (l : List It) (A : Option Addr) (cap : Nat) (w : World) (hr : RdI w A l) (hlen : l.length ≤ 1000000) :
    Calls Try.prog 39 #[.slice A l.length cap] w
      fun e w' => e = .returned (.tuple #[.agg #[.int .i64 (victL l).1.1, .int .u8 (victL l).1.2], .bool (victL l).2.1, .int .i64 (victL l).2.2]) ∧ Ext w w' := by
  have HWH := Lib.hid (fun W (hx : Ext w W) => Whole_calls l A cap W (hr.ext hx) hlen)
  have HSO := Lib.hid (fun W (hx : Ext w W) => Sorted_calls l A cap W (hr.ext hx) hlen)
  have hsl := sortedL_len l
  obtain ⟨s, hs⟩ : ∃ s, sortedL l = s := ⟨_, rfl⟩
  obtain ⟨wh, hwh⟩ : ∃ wh, wholeL (sortedL l) = wh := ⟨_, rfl⟩
  obtain ⟨R, hR⟩ : ∃ R, victL l = R := ⟨_, rfl⟩
  rw [hR]
  unfold victL at hR
  rw [hwh, hs] at hR
  rw [hwh] at HWH
  rw [hs] at HSO hsl
  have HR := Lib.hid hR
  clear hr hR hwh hs
  obtain ⟨V, hV⟩ : ∃ V, w.heap.size = V := ⟨_, rfl⟩
  go_enter Try.func39, Try.ntmps39
  go_upto_region 1 with (fail)
  refine wp_gen (fun W => Blk W V [.int .i64 0, .int .u8 0] 32 ∧ Ext w W) ⟨Blk.newAt w _ _ _ hV.symm, (Ext.refl w).alloc _⟩ ?_
  rintro W0 ⟨hbv, hx0⟩
  obtain ⟨whl, bad⟩ := wh
  have hV0 := hbv.lt
  go_upto_region 2 with (go_at_call 63; refine (HWH.out _ hx0).mono ?_; rintro e W1 ⟨v1, v2, rfl, ho1, ho2, hx1⟩; dsimp only at ho2; obtain ⟨Ab, cb, hv2, _, hrb, _⟩ := OwnsJ.rd ho2; subst hv2; dsimp only)
  have hx01 : Ext w W1 := Ext.trans hx0 hx1
  have hbv1 := hbv.ext hx1
  refine wp_gen (fun W => Blk W W1.heap.size [.slice Ab bad.length cb] 36 ∧ Blk W V [.int .i64 0, .int .u8 0] 32 ∧ RdJ W Ab bad ∧ Ext w W) ⟨Blk.newAt W1 _ _ _ rfl, hbv1.alloc _, hrb.ext ((Ext.refl W1).alloc _), Ext.alloc hx01 _⟩ ?_
  obtain ⟨Bm, hBm⟩ : ∃ Bm, W1.heap.size = Bm := ⟨_, rfl⟩
  have hVB : V < Bm := by have := hbv1.lt; omega
  rw [hBm]
  clear ho1 ho2 hrb hbv hbv1 hx1 hx01 hx0 hBm
  rintro W2 ⟨hbm, hbv2, hrb2, hx2⟩
  have fb : W2.cell? ⟨Bm, 0, none⟩ = some (.slice Ab bad.length cb) := hbm.cell 0 rfl
  have hVw : w.heap.size ≤ V := by omega
  have z0 : W2.frozen? ⟨V, 0, none⟩ = false := by have hb0 : W2.heap[V]? = _ := hbv2; simp [World.frozen?, hb0]
  have z1 : W2.frozen? ⟨V, 1, none⟩ = false := by have hb0 : W2.heap[V]? = _ := hbv2; simp [World.frozen?, hb0]
  cases bad with
  | nil =>
    have c0 := hbv2.cell 0 rfl
    have c1 := hbv2.cell 1 rfl
    have hRR := HR.out
    dsimp only at hRR
    subst hRR
    simp only [List.length_nil] at fb
    have hbe : Blk ((W2.setCell ⟨V, 0, none⟩ (.int .i64 0)).setCell ⟨V, 1, none⟩ (.int .u8 0)) V [.int .i64 0, .int .u8 0] 32 := (hbv2.set 0 (.int .i64 0)).set 1 (.int .u8 0)
    have hxe := (hx2.setCell (p := ⟨V, 0, none⟩) hVw (.int .i64 0)).setCell (p := ⟨V, 1, none⟩) hVw (.int .u8 0)
    go_wp2_with fail
    refine bodyPost_ret (results_cell_tmp2 Try.results39 _ _ (g := V) rfl (T' := 32) (cs := [.int .i64 0, .int .u8 0]) (v := .bool false) (u := .int .i64 0) rowJobV hbe rfl rfl) rfl ⟨rfl, hxe⟩
  | cons b bs =>
    obtain ⟨b1, o1, ub, tb, rfl, he, f1, f2⟩ := hrb2.at (i := 0) (by simp)
    cases he
    have hb1 : b1 < W2.heap.size := World.block_lt_of_cell? _ _ f1
    have hBmW := hbm.lt
    simp only [Nat.zero_mul, Nat.add_zero] at f1
    obtain ⟨n, hn⟩ : ∃ n, ((ub, tb) :: bs : List Jb).length = n := ⟨_, rfl⟩
    have hn0 : 0 < n := by rw [← hn]; simp
    rw [hn] at fb
    have hni : ¬ (n : Int) = 0 := by omega
    obtain ⟨mm, hmm⟩ : ∃ mm, s.filter (fun x => !stays ub x) = mm := ⟨_, rfl⟩
    have HM := Lib.hid hmm
    have hml : mm.length ≤ s.length := by rw [← hmm]; exact List.length_filter_le _ _
    clear hmm f2 hrb2 hbm hn
    go_upto_region 5 with (first
      | (go_at_call 48; refine (HSO.out _ hx2).mono ?_; rintro e W3 ⟨v3, rfl, ho3, hx3⟩; have hnb : ∀ k, v3.ownBlock = some k → W2.heap.size ≤ k := (fun k hk => (ho3.lt k hk).1); have fb3 := hx3.cell fb; have f13 := hx3.cell f1; have hsz := hx3.size; have HD := Lib.hid (deleteI_calls (stays ub) Bm s W3 ho3 (by omega) (fun W hg x => vict1_calls ub Bm b1 o1 n cb W hn0 (grown_cell hg fb3 (fun e => by have := hnb Bm e.symm; omega)) (grown_cell hg f13 (fun e => by have := hnb b1 e.symm; omega)) x)))
      | (go_at_call 66; refine HD.out.mono ?_; rintro e W4 ⟨v4, rfl, ho4, hg4, hv4⟩))
    have hxw3 : Ext w W3 := Ext.trans hx2 hx3
    have hxw4 : Ext w W4 := Below.grown hxw3 hg4 hxw3.size (fun k e => by have := hnb k e; have := hx2.size; omega)
    have hV2 : V < W2.heap.size := hbv2.lt
    have hbv4 : Blk W4 V [.int .i64 0, .int .u8 0] 32 := Grown.blk hg4 (hbv2.ext hx3) (fun e => by have := hnb V e.symm; omega)
    obtain ⟨A4, c4, hv4e, hc4, hr4, _⟩ := OwnsI.rd ho4
    rw [HM.out] at hv4e hc4 hr4
    have y0 : W4.frozen? ⟨V, 0, none⟩ = false := by have hb0 : W4.heap[V]? = _ := hbv4; simp [World.frozen?, hb0]
    have y1 : W4.frozen? ⟨V, 1, none⟩ = false := by have hb0 : W4.heap[V]? = _ := hbv4; simp [World.frozen?, hb0]
    have c0 := hbv4.cell 0 rfl
    have c1 := hbv4.cell 1 rfl
    have hRR := HR.out
    (try dsimp only at hRR)
    rw [HM.out] at hRR
    subst hv4e
    clear ho4 hg4 hv4 HD hnb fb3 f13 hsz ho3 hx3 fb f1 z0 z1 hbv2 hxw3 HM
    rcases List.eq_nil_or_concat mm with h0 | ⟨d, x, h0⟩
    · subst h0
      simp only [List.getLast?_nil] at hRR
      subst hRR
      simp only [List.length_nil]
      have hbe : Blk ((W4.setCell ⟨V, 0, none⟩ (.int .i64 0)).setCell ⟨V, 1, none⟩ (.int .u8 0)) V [.int .i64 0, .int .u8 0] 32 := (hbv4.set 0 (.int .i64 0)).set 1 (.int .u8 0)
      have hxe := (hxw4.setCell (p := ⟨V, 0, none⟩) hVw (.int .i64 0)).setCell (p := ⟨V, 1, none⟩) hVw (.int .u8 0)
      go_wp2_with fail
      refine bodyPost_ret (results_cell_tmp2 Try.results39 _ _ (g := V) rfl (T' := 32) (cs := [.int .i64 0, .int .u8 0]) (v := .bool false) (u := .int .i64 220) rowJobV hbe rfl rfl) rfl ⟨rfl, hxe⟩
    · rw [List.concat_eq_append] at h0
      have hmd : mm.length = d.length + 1 := by rw [h0]; simp
      have hlast : mm.getLast? = some x := by rw [h0]; simp
      rw [hlast] at hRR
      dsimp only at hRR
      subst hRR
      obtain ⟨b4, o4, u, t, m, rfl, he4, g1, g2, g3⟩ := hr4.at (i := d.length) (by omega)
      have hx4 : x = ⟨u, t, m⟩ := by
        rw [h0, List.getElem?_append_right (Nat.le_refl _), Nat.sub_self] at he4
        exact Option.some.inj he4
      subst hx4
      have hm1 : ¬ (mm.length : Int) = 0 := by omega
      have hm2 : (mm.length : Int) - 1 = (d.length : Int) := by omega
      have hm3 : (d.length : Int) < mm.length := by omega
      have hm4 : (0 : Int) ≤ d.length := by omega
      have hbe : Blk ((W4.setCell ⟨V, 0, none⟩ (.int .i64 u)).setCell ⟨V, 1, none⟩ (.int .u8 t)) V [.int .i64 u, .int .u8 t] 32 := (hbv4.set 0 (.int .i64 u)).set 1 (.int .u8 t)
      have hxe := (hxw4.setCell (p := ⟨V, 0, none⟩) hVw (.int .i64 u)).setCell (p := ⟨V, 1, none⟩) hVw (.int .u8 t)
      clear h0 hlast he4 hr4 hmd
      go_wp2_with fail
      refine bodyPost_ret (results_cell_tmp2 Try.results39 _ _ (g := V) rfl (T' := 32) (cs := [.int .i64 u, .int .u8 t]) (v := .bool true) (u := .int .i64 0) rowJobV hbe rfl rfl) rfl ⟨rfl, hxe⟩
end Go.Proofs.Ytclgclcoblfddaa
