/- Chapter 23: the document's graph and Ahead. -/
import Derived.Test.YthlobpdcolgcoaaGuards
namespace Go.Proofs.Ythlobpdcolgcoaa
open Go.RowKit Go.Lib
set_option linter.unusedVariables false
set_option linter.unusedSimpArgs false

/-- The document's graph, by value. -/
def RG (W : World) (gv : Value) (af be : List (List Int)) : Prop :=
  ∃ A1 c1 rs1 A2 c2 rs2, gv = .agg #[.slice A1 (rs1 : List Row).length c1, .slice A2 (rs2 : List Row).length c2] ∧ RdR W A1 rs1 ∧ RdR W A2 rs2 ∧ rows rs1 = af ∧ rows rs2 = be ∧
    (∀ r ∈ rs1, r.xs.length ≤ 9223372036854775807) ∧ (∀ r ∈ rs2, r.xs.length ≤ 9223372036854775807)
theorem RG.ext {W W' : World} {gv : Value} {af be : List (List Int)} (h : RG W gv af be) (hx : Ext W W') : RG W' gv af be := by
  obtain ⟨A1, c1, rs1, A2, c2, rs2, h2, h3, h4, r⟩ := h
  exact ⟨A1, c1, rs1, A2, c2, rs2, h2, h3.ext hx, h4.ext hx, r⟩

theorem rowR : isRowT Try.prog 38 2 := ⟨by kernel_rfl, by kernel_rfl⟩

theorem plain_calls (cs : List Value) (af be : List (List Int)) (w : World) (h : GR w cs af be) :
    Calls Try.prog 13 #[.agg cs.toArray] w fun e w' => ∃ gv, e = .returned gv ∧ RG w' gv af be ∧ Ext w w' := by
  obtain ⟨A1, c1, rs1, A2, c2, rs2, h0, h1, h2, h3, h4, rfl, rfl, h5, h6, h7, h8⟩ := h
  have hb : Blk (w.alloc (.cells cs.toArray 24)) w.heap.size cs 24 := Blk.new _ _ _
  have e4 := hb.cell 4 h1
  have e5 := hb.cell 5 h2
  have hx : Ext w (w.alloc (.cells cs.toArray 24)) := (Ext.refl w).alloc _
  have H3 := Lib.hid fun W hW => h3.ext (W' := W) hW
  have H4 := Lib.hid fun W hW => h4.ext (W' := W) hW
  clear h3 h4 h0 h1 h2
  go_enter Try.func13, Try.ntmps13
  go_upto_region 1 with (fail)
  refine wp_gen (fun W => Ext w W ∧ Blk W (w.heap.size + 1) [.slice none 0 0, .slice none 0 0] 38 ∧ W.cell? ⟨w.heap.size, 4, none⟩ = some (.slice A1 rs1.length c1) ∧ W.cell? ⟨w.heap.size, 5, none⟩ = some (.slice A2 rs2.length c2))
    ⟨hx.alloc _, by have := Blk.new (w.alloc (.cells cs.toArray 24)) [.slice none 0 0, .slice none 0 0] 38; simpa using this, ((Ext.refl _).alloc _).cell e4, ((Ext.refl _).alloc _).cell e5⟩ ?_
  clear e4 e5 hx hb
  obtain ⟨G, hG⟩ : ∃ G, w.heap.size = G := ⟨_, rfl⟩
  have hG1 : w.heap.size ≤ G + 1 := by omega
  rw [hG]
  clear hG
  rintro W0 ⟨hx, hb, e4, e5⟩
  have d0 := hb.cell 0 rfl
  have d1 := hb.cell 1 rfl
  have z0 := hb.frozen 0
  have z1 := hb.frozen 1
  go_wp2_with fail
  have hb2 : Blk ((W0.setCell ⟨G + 1, 0, none⟩ (.slice A1 rs1.length c1)).setCell ⟨G + 1, 1, none⟩ (.slice A2 rs2.length c2)) (G + 1) [.slice A1 rs1.length c1, .slice A2 rs2.length c2] 38 := (hb.set 0 _).set 1 _
  have hx2 : Ext w ((W0.setCell ⟨G + 1, 0, none⟩ (.slice A1 rs1.length c1)).setCell ⟨G + 1, 1, none⟩ (.slice A2 rs2.length c2)) := (hx.setCell (by simp only; omega) _).setCell (by simp only; omega) _
  exact bodyPost_ret (v := .agg #[.slice A1 rs1.length c1, .slice A2 rs2.length c2]) (results_cell Try.results13 _ _ rfl rowR hb2) rfl
    ⟨_, rfl, ⟨A1, c1, rs1, A2, c2, rs2, rfl, H3.out _ hx2, H4.out _ hx2, rfl, rfl, h5, h6⟩, hx2⟩

set_option maxHeartbeats 1000000 in
theorem rahead_calls (gv : Value) (af be : List (List Int)) (u t v s : Int) (m n : Bool) (w : World) (h : RG w gv af be) :
    Calls Try.prog 12 #[gv, .agg #[.int .i64 u, .int .u8 t, .bool m], .agg #[.int .i64 v, .int .u8 s, .bool n]] w fun e w' => e = .returned (.bool (aheadB af be u t v s)) ∧ Ext w w' := by
  obtain ⟨A1, c1, rs1, A2, c2, rs2, rfl, h3, h4, rfl, rfl, h5, h6⟩ := h
  have C := Lib.hid fun (a b : Int) W (hW : Ext w W) => runits_calls A1 c1 rs1 A2 c2 rs2 a b W (h3.ext hW) (h4.ext hW) h5 h6
  unfold aheadB
  obtain ⟨p, hp⟩ : ∃ p, upB (rows rs1) (rows rs2) u v = p := ⟨_, rfl⟩
  obtain ⟨q, hq⟩ : ∃ q, upB (rows rs1) (rows rs2) v u = q := ⟨_, rfl⟩
  have C1 := Lib.hid fun W hW => hp ▸ C.out u v W hW
  have C2 := Lib.hid fun W hW => hq ▸ C.out v u W hW
  rw [hp, hq]
  clear C hp hq h3 h4 h5 h6
  generalize (Value.slice A1 rs1.length c1) = X1 at *
  generalize (Value.slice A2 rs2.length c2) = X2 at *
  obtain ⟨r, hr⟩ : ∃ r, (if u = v then false else if t = 2 then (if s = 2 then q else p || q) else if s = 2 then false else p) = r := ⟨_, rfl⟩
  rw [hr]
  have HR := Lib.hid hr
  clear hr
  go_enter Try.func12, Try.ntmps12
  go_upto_region 1 with (fail)
  refine wp_gen (fun W => Blk W w.heap.size [X1, X2] 38 ∧ Blk W (w.heap.size + 1) [.int .i64 u, .int .u8 t, .bool m] 34 ∧ Blk W (w.heap.size + 1 + 1) [.int .i64 v, .int .u8 s, .bool n] 34 ∧ Ext w W)
    ⟨((Blk.new w [X1, X2] _).alloc _).alloc _, by
      have := (Blk.new (w.alloc (.cells #[X1, X2] 38)) [.int .i64 u, .int .u8 t, .bool m] 34).alloc (.cells #[.int .i64 v, .int .u8 s, .bool n] 34)
      simpa using this, by
      have := (Blk.new ((w.alloc (.cells #[X1, X2] 38)).alloc (.cells #[.int .i64 u, .int .u8 t, .bool m] 34)) [.int .i64 v, .int .u8 s, .bool n] 34)
      simpa using this, (((Ext.refl w).alloc _).alloc _).alloc _⟩ ?_
  obtain ⟨G, hG⟩ : ∃ G, w.heap.size = G := ⟨_, rfl⟩
  rw [hG]
  clear hG
  rintro W0 ⟨hb, hb1, hb2, hx⟩
  have f1 := hb1.cell 0 rfl
  have f2 := hb1.cell 1 rfl
  have f3 := hb2.cell 0 rfl
  have f4 := hb2.cell 1 rfl
  by_cases huv : u = v
  case neg =>
    have huv2 : (u == v) = false := by simpa using huv
    by_cases ht : t = 2
    case neg =>
      have ht2 : (t == 2) = false := by simpa using ht
      have ht3 : (t != 2) = true := by simpa using ht
      by_cases hs : s = 2
      case neg =>
        have hs2 : (s == 2) = false := by simpa using hs
        have hs3 : (s != 2) = true := by simpa using hs
        go_wp2_with (refine wpList_load_blk rfl 38 (.tmp 3) rfl G rfl (cs := [X1, X2]) rowR hb ?_)
        refine (C1.out _ hx).mono ?_
        rintro e W1 ⟨rfl, hx1⟩
        go_wp2_with fail
        go_ret
        exact ⟨by rw [← HR.out]; simp [*], hx.trans hx1⟩
      case pos =>
        subst hs
        go_wp2_with (refine wpList_load_blk rfl 38 (.tmp 3) rfl G rfl (cs := [X1, X2]) rowR hb ?_)
        go_ret
        exact ⟨by rw [← HR.out]; simp [*], hx⟩
    case pos =>
      subst ht
      by_cases hs : s = 2
      case neg =>
        have hs2 : (s == 2) = false := by simpa using hs
        have hs3 : (s != 2) = true := by simpa using hs
        cases p
        · go_wp2_with (refine wpList_load_blk rfl 38 (.tmp 3) rfl G rfl (cs := [X1, X2]) rowR hb ?_)
          refine (C1.out _ hx).mono ?_
          rintro e W1 ⟨rfl, hx1⟩
          have k1 := hx1.cell f1
          have k3 := hx1.cell f3
          go_wp2_with (refine wpList_load_blk rfl 38 (.tmp 3) rfl G rfl (cs := [X1, X2]) rowR (hb.ext hx1) ?_)
          refine (C2.out _ (hx.trans hx1)).mono ?_
          rintro e W2 ⟨rfl, hx2⟩
          go_wp2_with fail
          go_ret
          exact ⟨by rw [← HR.out]; simp [*], (hx.trans hx1).trans hx2⟩
        · go_wp2_with (refine wpList_load_blk rfl 38 (.tmp 3) rfl G rfl (cs := [X1, X2]) rowR hb ?_)
          refine (C1.out _ hx).mono ?_
          rintro e W1 ⟨rfl, hx1⟩
          go_wp2_with fail
          go_ret
          exact ⟨by rw [← HR.out]; simp [*], hx.trans hx1⟩
      case pos =>
        subst hs
        go_wp2_with (refine wpList_load_blk rfl 38 (.tmp 3) rfl G rfl (cs := [X1, X2]) rowR hb ?_)
        refine (C2.out _ hx).mono ?_
        rintro e W1 ⟨rfl, hx1⟩
        go_wp2_with fail
        go_ret
        exact ⟨by rw [← HR.out]; simp [*], hx.trans hx1⟩
  case pos =>
    subst huv
    go_wp2_with (refine wpList_load_blk rfl 38 (.tmp 3) rfl G rfl (cs := [X1, X2]) rowR hb ?_)
    go_ret
    exact ⟨by rw [← HR.out]; simp [*], hx⟩
end Go.Proofs.Ythlobpdcolgcoaa
