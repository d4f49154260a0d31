/- closure.order (and clash.order): jobs in order; slices.SortFunc and Compact over jobs. -/
import Derived.Test.YtclgclcoblfddaaSortedJob
import Derived.Test.YtclgclcoblfddaaInPlace
import Derived.Test.YtclgclcoblfddaaDelJ
namespace Go.Proofs.Ytclgclcoblfddaa
open Go.RowKit Go.Shelf Go.Sort
set_option linter.unusedVariables false
set_option linter.unusedSimpArgs false
/-- Grown by new blocks, some orders drawn. -/
def Grew (w w' : World) : Prop := ∃ q os', w' = grow (w.drewN q) os'
theorem Grew.alloc {w w' : World} (h : Grew w w') (o : Obj) : Grew w (w'.alloc o) := by
  obtain ⟨q, os, rfl⟩ := h
  exact ⟨q, os ++ #[o], by rw [alloc_eq_grow, grow_grow]⟩
theorem Grew.refl (w : World) : Grew w w := ⟨0, #[], by rw [grow_empty]; rfl⟩
theorem Grew.trans {a b c : World} (h : Grew a b) (k : Grew b c) : Grew a c := by
  obtain ⟨q, os, rfl⟩ := h
  obtain ⟨q', os', rfl⟩ := k
  refine ⟨q + q', os ++ os', ?_⟩
  rw [show (grow (a.drewN q) os).drewN q' = grow ((a.drewN q).drewN q') os from rfl, grow_grow, World.drewN_drewN]
theorem Grew.blk {w w' : World} (h : Grew w w') {g : Nat} {cs : List Value} {T : TypeId} (hb : Blk w g cs T) : Blk w' g cs T := by
  obtain ⟨q, os, rfl⟩ := h
  have hlt := hb.lt
  unfold Blk at *
  show (w.heap ++ os)[g]? = _
  rw [Array.getElem?_append_left hlt]
  exact hb
theorem less_job (x y : Int × Int) (w : World) : Calls Try.prog 80 #[.agg (encJc x).toArray, .agg (encJc y).toArray] w fun e w' => e = .returned (.bool (decide (cmpJ x y < 0))) ∧ Grew w w' := by
  obtain ⟨u, t⟩ := x
  obtain ⟨v, s⟩ := y
  have HO := Lib.hid (show ∀ W, Calls Try.prog 74 #[.agg #[.int .i64 u, .int .u8 t], .agg #[.int .i64 v, .int .u8 s]] W fun e w' => e = .returned (.int .i64 (cmpJ (u, t) (v, s))) ∧ Grew W w' from fun W => order_job (u, t) (v, s) W)
  show Calls Try.prog 80 #[.agg #[.int .i64 u, .int .u8 t], .agg #[.int .i64 v, .int .u8 s]] w _
  obtain ⟨c, hc⟩ : ∃ c, cmpJ (u, t) (v, s) = c := ⟨_, rfl⟩
  rw [hc] at HO ⊢
  clear hc
  go_enter Try.func80, Try.ntmps80
  by_cases h : c < 0
  · have hd : decide (c < 0) = true := decide_eq_true h
    rw [hd]
    clear hd
    go_wp2_with (go_at_call 74; refine (HO.out _).mono ?_; rintro e w' ⟨rfl, hg⟩)
    go_ret
    exact ⟨by simp [h], (((Grew.refl w).alloc _).alloc _).trans hg⟩
  · have hd : decide (c < 0) = false := decide_eq_false h
    rw [hd]
    clear hd
    have h' : 0 ≤ c := by omega
    go_wp2_with (go_at_call 74; refine (HO.out _).mono ?_; rintro e w' ⟨rfl, hg⟩)
    go_ret
    exact ⟨by simp [h'], (((Grew.refl w).alloc _).alloc _).trans hg⟩
theorem cmpI_swap (a b : Int) : cmpI b a = -cmpI a b := by unfold cmpI; split <;> split <;> omega
theorem cmpJ_swap (x y : Int × Int) : cmpJ y x = -cmpJ x y := by
  unfold cmpJ orI
  rw [cmpI_swap x.1 y.1, cmpI_swap x.2 y.2]
  split <;> split <;> omega
theorem cmpI_vals (a b : Int) : cmpI a b = -1 ∨ cmpI a b = 0 ∨ cmpI a b = 1 := by unfold cmpI; split; simp; split <;> simp
theorem cmpJ_vals (x y : Int × Int) : cmpJ x y = -1 ∨ cmpJ x y = 0 ∨ cmpJ x y = 1 := by
  unfold cmpJ orI
  split
  · exact cmpI_vals _ _
  · exact cmpI_vals _ _
theorem order_closure (x y : Int × Int) (w : World) : Calls Try.prog 60 #[.agg (encJc x).toArray, .agg (encJc y).toArray] w fun e w' => e = .returned (.int .i64 (cmpJ x y)) ∧ Grew w w' := by
  (obtain ⟨u, t⟩ := x; obtain ⟨v, s⟩ := y; have HA := Lib.hid (show ∀ W, Calls Try.prog 80 #[.agg #[.int .i64 u, .int .u8 t], .agg #[.int .i64 v, .int .u8 s]] W fun e w' => e = .returned (.bool (decide (cmpJ (u, t) (v, s) < 0))) ∧ Grew W w' from fun W => less_job (u, t) (v, s) W); have HB := Lib.hid (show ∀ W, Calls Try.prog 80 #[.agg #[.int .i64 v, .int .u8 s], .agg #[.int .i64 u, .int .u8 t]] W fun e w' => e = .returned (.bool (decide (cmpJ (v, s) (u, t) < 0))) ∧ Grew W w' from fun W => less_job (v, s) (u, t) W); show Calls Try.prog 60 #[.agg #[.int .i64 u, .int .u8 t], .agg #[.int .i64 v, .int .u8 s]] w _; rw [cmpJ_swap (u, t) (v, s)] at HB; have hv := cmpJ_vals (u, t) (v, s); generalize cmpJ (u, t) (v, s) = c at HA HB hv ⊢; rcases hv with rfl | rfl | rfl; (have h1 : decide ((-1 : Int) < 0) = true := rfl; rw [h1] at HA; go_enter Try.func60, Try.ntmps60; go_upto_region 1 with (fail); refine wp_gen (fun W => Blk W w.heap.size [.int .i64 u, .int .u8 t] 32 ∧ Blk W (w.heap.size + 1) [.int .i64 v, .int .u8 s] 32 ∧ Grew w W) ⟨(Blk.newAt _ _ _ _ rfl).alloc _, Blk.newAt _ _ _ _ (by simp), ((Grew.refl w).alloc _).alloc _⟩ ?_; rintro W0 ⟨b0, b1, g0⟩; have e0 := b0.cell 0 rfl; have e1 := b0.cell 1 rfl; have e2 := b1.cell 0 rfl; have e3 := b1.cell 1 rfl; go_wp2_with (go_at_call 80; refine (HA.out _).mono ?_; rintro e w' ⟨rfl, hg⟩); go_ret; exact ⟨rfl, g0.trans hg⟩); (have h1 : decide ((0 : Int) < 0) = false := rfl; have h2 : decide (-(0 : Int) < 0) = false := rfl; rw [h1] at HA; rw [h2] at HB; go_enter Try.func60, Try.ntmps60; go_upto_region 1 with (fail); refine wp_gen (fun W => Blk W w.heap.size [.int .i64 u, .int .u8 t] 32 ∧ Blk W (w.heap.size + 1) [.int .i64 v, .int .u8 s] 32 ∧ Grew w W) ⟨(Blk.newAt _ _ _ _ rfl).alloc _, Blk.newAt _ _ _ _ (by simp), ((Grew.refl w).alloc _).alloc _⟩ ?_; rintro W0 ⟨b0, b1, g0⟩; have e0 := b0.cell 0 rfl; have e1 := b0.cell 1 rfl; have e2 := b1.cell 0 rfl; have e3 := b1.cell 1 rfl; go_upto_region 3 with (go_at_call 80; refine (HA.out _).mono ?_; rintro e W1 ⟨rfl, hg1⟩); have d0 := (hg1.blk b0).cell 0 rfl; have d1 := (hg1.blk b0).cell 1 rfl; have d2 := (hg1.blk b1).cell 0 rfl; have d3 := (hg1.blk b1).cell 1 rfl; go_wp2_with (go_at_call 80; refine (HB.out _).mono ?_; rintro e W2 ⟨rfl, hg2⟩); go_ret; exact ⟨rfl, (g0.trans hg1).trans hg2⟩); (have h1 : decide ((1 : Int) < 0) = false := rfl; have h2 : decide (-(1 : Int) < 0) = true := rfl; rw [h1] at HA; rw [h2] at HB; go_enter Try.func60, Try.ntmps60; go_upto_region 1 with (fail); refine wp_gen (fun W => Blk W w.heap.size [.int .i64 u, .int .u8 t] 32 ∧ Blk W (w.heap.size + 1) [.int .i64 v, .int .u8 s] 32 ∧ Grew w W) ⟨(Blk.newAt _ _ _ _ rfl).alloc _, Blk.newAt _ _ _ _ (by simp), ((Grew.refl w).alloc _).alloc _⟩ ?_; rintro W0 ⟨b0, b1, g0⟩; have e0 := b0.cell 0 rfl; have e1 := b0.cell 1 rfl; have e2 := b1.cell 0 rfl; have e3 := b1.cell 1 rfl; go_upto_region 3 with (go_at_call 80; refine (HA.out _).mono ?_; rintro e W1 ⟨rfl, hg1⟩); have d0 := (hg1.blk b0).cell 0 rfl; have d1 := (hg1.blk b0).cell 1 rfl; have d2 := (hg1.blk b1).cell 0 rfl; have d3 := (hg1.blk b1).cell 1 rfl; go_wp2_with (go_at_call 80; refine (HB.out _).mono ?_; rintro e W2 ⟨rfl, hg2⟩); go_ret; exact ⟨rfl, (g0.trans hg1).trans hg2⟩))
theorem order_clash (x y : Int × Int) (w : World) : Calls Try.prog 64 #[.agg (encJc x).toArray, .agg (encJc y).toArray] w fun e w' => e = .returned (.int .i64 (cmpJ x y)) ∧ Grew w w' := by
  (obtain ⟨u, t⟩ := x; obtain ⟨v, s⟩ := y; have HA := Lib.hid (show ∀ W, Calls Try.prog 80 #[.agg #[.int .i64 u, .int .u8 t], .agg #[.int .i64 v, .int .u8 s]] W fun e w' => e = .returned (.bool (decide (cmpJ (u, t) (v, s) < 0))) ∧ Grew W w' from fun W => less_job (u, t) (v, s) W); have HB := Lib.hid (show ∀ W, Calls Try.prog 80 #[.agg #[.int .i64 v, .int .u8 s], .agg #[.int .i64 u, .int .u8 t]] W fun e w' => e = .returned (.bool (decide (cmpJ (v, s) (u, t) < 0))) ∧ Grew W w' from fun W => less_job (v, s) (u, t) W); show Calls Try.prog 64 #[.agg #[.int .i64 u, .int .u8 t], .agg #[.int .i64 v, .int .u8 s]] w _; rw [cmpJ_swap (u, t) (v, s)] at HB; have hv := cmpJ_vals (u, t) (v, s); generalize cmpJ (u, t) (v, s) = c at HA HB hv ⊢; rcases hv with rfl | rfl | rfl; (have h1 : decide ((-1 : Int) < 0) = true := rfl; rw [h1] at HA; go_enter Try.func64, Try.ntmps64; go_upto_region 1 with (fail); refine wp_gen (fun W => Blk W w.heap.size [.int .i64 u, .int .u8 t] 32 ∧ Blk W (w.heap.size + 1) [.int .i64 v, .int .u8 s] 32 ∧ Grew w W) ⟨(Blk.newAt _ _ _ _ rfl).alloc _, Blk.newAt _ _ _ _ (by simp), ((Grew.refl w).alloc _).alloc _⟩ ?_; rintro W0 ⟨b0, b1, g0⟩; have e0 := b0.cell 0 rfl; have e1 := b0.cell 1 rfl; have e2 := b1.cell 0 rfl; have e3 := b1.cell 1 rfl; go_wp2_with (go_at_call 80; refine (HA.out _).mono ?_; rintro e w' ⟨rfl, hg⟩); go_ret; exact ⟨rfl, g0.trans hg⟩); (have h1 : decide ((0 : Int) < 0) = false := rfl; have h2 : decide (-(0 : Int) < 0) = false := rfl; rw [h1] at HA; rw [h2] at HB; go_enter Try.func64, Try.ntmps64; go_upto_region 1 with (fail); refine wp_gen (fun W => Blk W w.heap.size [.int .i64 u, .int .u8 t] 32 ∧ Blk W (w.heap.size + 1) [.int .i64 v, .int .u8 s] 32 ∧ Grew w W) ⟨(Blk.newAt _ _ _ _ rfl).alloc _, Blk.newAt _ _ _ _ (by simp), ((Grew.refl w).alloc _).alloc _⟩ ?_; rintro W0 ⟨b0, b1, g0⟩; have e0 := b0.cell 0 rfl; have e1 := b0.cell 1 rfl; have e2 := b1.cell 0 rfl; have e3 := b1.cell 1 rfl; go_upto_region 3 with (go_at_call 80; refine (HA.out _).mono ?_; rintro e W1 ⟨rfl, hg1⟩); have d0 := (hg1.blk b0).cell 0 rfl; have d1 := (hg1.blk b0).cell 1 rfl; have d2 := (hg1.blk b1).cell 0 rfl; have d3 := (hg1.blk b1).cell 1 rfl; go_wp2_with (go_at_call 80; refine (HB.out _).mono ?_; rintro e W2 ⟨rfl, hg2⟩); go_ret; exact ⟨rfl, (g0.trans hg1).trans hg2⟩); (have h1 : decide ((1 : Int) < 0) = false := rfl; have h2 : decide (-(1 : Int) < 0) = true := rfl; rw [h1] at HA; rw [h2] at HB; go_enter Try.func64, Try.ntmps64; go_upto_region 1 with (fail); refine wp_gen (fun W => Blk W w.heap.size [.int .i64 u, .int .u8 t] 32 ∧ Blk W (w.heap.size + 1) [.int .i64 v, .int .u8 s] 32 ∧ Grew w W) ⟨(Blk.newAt _ _ _ _ rfl).alloc _, Blk.newAt _ _ _ _ (by simp), ((Grew.refl w).alloc _).alloc _⟩ ?_; rintro W0 ⟨b0, b1, g0⟩; have e0 := b0.cell 0 rfl; have e1 := b0.cell 1 rfl; have e2 := b1.cell 0 rfl; have e3 := b1.cell 1 rfl; go_upto_region 3 with (go_at_call 80; refine (HA.out _).mono ?_; rintro e W1 ⟨rfl, hg1⟩); have d0 := (hg1.blk b0).cell 0 rfl; have d1 := (hg1.blk b0).cell 1 rfl; have d2 := (hg1.blk b1).cell 0 rfl; have d3 := (hg1.blk b1).cell 1 rfl; go_wp2_with (go_at_call 80; refine (HB.out _).mono ?_; rintro e W2 ⟨rfl, hg2⟩); go_ret; exact ⟨rfl, (g0.trans hg1).trans hg2⟩))
theorem sortBy_calls (fn : Nat) (hfn : ∀ args w, (callFunc fn args).run Try.prog w = .ok (.enter fn args) w) (hc : ∀ (x y : Int × Int) (w : World), Calls Try.prog fn #[.agg (encJc x).toArray, .agg (encJc y).toArray] w fun e w' => e = .returned (.int .i64 (cmpJ x y)) ∧ Grew w w')
    {base : Nat} {v : Value} {ss : List (Int × Int)} {w : World} (h : w.ownsRow base 32 2 v ss.length (cellsJ ss)) (hmax : ss.length ≤ 1000000) :
    Calls Try.prog 59 #[v, .func (.func fn) #[] #[]] w fun e w' => e = .returned (.tuple #[]) ∧ w'.ownsRow base 32 2 v (sortJ ss).length (cellsJ (sortJ ss)) ∧ w.grownBy w' v.ownBlock := by
  obtain ⟨hl, h2⟩ := h
  rcases h2 with ⟨rfl, h0⟩ | ⟨g, cap, cur, rfl, hb, hg, hn, hcap, hs, ht⟩
  · have : ss = [] := List.eq_nil_of_length_eq_zero h0
    subst this
    refine (AnyF.slices_SortFunc_none Try.sortJob none 0 _ w).mono ?_
    rintro e w' ⟨rfl, rfl⟩
    have hs : sortJ [] = [] := by simp [sortJ]
    rw [hs]
    exact ⟨rfl, World.ownsRow_nil _ _ _ _, rfl, rfl, rfl, Nat.le_refl _, fun _ _ _ => rfl⟩
  · have hcell : ∀ j, j < ss.length * 2 → w.cell? ⟨g, j, none⟩ = (cellsJ ss)[j]? := by
      intro j hj
      rw [← ht, List.getElem?_take, if_pos hj]
      simp [World.cell?, hg]
    have hH : HoldsK encJc 2 w g 0 ss.toArray := by
      intro j hj
      rw [size_flatK] at hj
      have hj' : j < ss.length * 2 := by simpa using hj
      rw [Nat.zero_add]
      refine ⟨?_, by simp [World.frozen?, hg]⟩
      rw [hcell j hj', ← flatK_cells, Array.getElem?_toList, Array.getElem?_eq_getElem (by rw [size_flatK]; exact hj), getElem!_pos _ j (by rw [size_flatK]; exact hj)]
      rfl
    have hlt : g < w.heap.size := (Array.getElem?_eq_some_iff.1 hg).1
    have hcon := AnyQ.slices_SortFunc_total Try.sortJob 2 Try.isAgg32 Try.sizeOf32 encJc (fun _ => rfl) (fun x u hu => by simp [encJc] at hu; rcases hu with rfl | rfl <;> rfl) cmpJ swoJ fn #[] g 0 cap ss.toArray w
      hfn (fun _ _ _ _ x y => hc x y _) hH hlt (by simp; omega) totJ
    change Calls Try.prog 59 _ _ _ at hcon
    rw [List.size_toArray] at hcon
    refine hcon.mono ?_
    rintro e w' ⟨rfl, n, os, rfl⟩
    have hsj : (ss.toArray.toList.mergeSort fun x y => !(ltOf cmpJ) y x) = sortJ ss := rfl
    rw [hsj]
    have hfs : (flatK encJc 2 (sortJ ss).toArray).size = ss.length * 2 := by rw [size_flatK, List.size_toArray, sortJ_length]
    have hw : (sortWorldK encJc 2 w g 0 n (sortJ ss).toArray os).heap[g]? = some (.cells (putCells id 0 (flatK encJc 2 (sortJ ss).toArray) cur) 32 (0, 0)) := by
      show (w.heap.modify g (onCells (putCells id 0 (flatK encJc 2 (sortJ ss).toArray))) ++ os)[g]? = _
      rw [Array.getElem?_append_left (by simpa using hlt), Array.getElem?_modify, if_pos rfl, hg]
      rfl
    have hpt := putCells_take (flatK encJc 2 (sortJ ss).toArray) cur (by rw [hfs, hs]; exact Nat.mul_le_mul_right _ hn)
    refine ⟨rfl, ⟨cellsJ_length _, .inr ⟨g, cap, _, by rw [sortJ_length], hb, hw, by rw [sortJ_length]; exact hn, hcap, by rw [hpt.2]; exact hs, ?_⟩⟩, ?_⟩
    · rw [sortJ_length, ← hfs, hpt.1, flatK_cells]
    · refine ⟨rfl, rfl, rfl, ?_, fun k hk hne => ?_⟩
      · show w.heap.size ≤ (w.heap.modify g _ ++ os).size
        simp
      · show (w.heap.modify g _ ++ os)[k]? = _
        have hgk : g ≠ k := fun e => hne (by rw [← e]; rfl)
        rw [Array.getElem?_append_left (by simpa using hk), Array.getElem?_modify, if_neg hgk]
theorem sort_closure {base : Nat} {v : Value} {ss : List (Int × Int)} {w : World} (h : w.ownsRow base 32 2 v ss.length (cellsJ ss)) (hmax : ss.length ≤ 1000000) :
    Calls Try.prog 59 #[v, .func (.func 60) #[] #[]] w fun e w' => e = .returned (.tuple #[]) ∧ w'.ownsRow base 32 2 v (sortJ ss).length (cellsJ (sortJ ss)) ∧ w.grownBy w' v.ownBlock :=
  sortBy_calls 60 (enters_of Try.func60 (by kernel_rfl) rfl) order_closure h hmax
theorem sort_clash {base : Nat} {v : Value} {ss : List (Int × Int)} {w : World} (h : w.ownsRow base 32 2 v ss.length (cellsJ ss)) (hmax : ss.length ≤ 1000000) :
    Calls Try.prog 59 #[v, .func (.func 64) #[] #[]] w fun e w' => e = .returned (.tuple #[]) ∧ w'.ownsRow base 32 2 v (sortJ ss).length (cellsJ (sortJ ss)) ∧ w.grownBy w' v.ownBlock :=
  sortBy_calls 64 (enters_of Try.func64 (by kernel_rfl) rfl) order_clash h hmax
end Go.Proofs.Ytclgclcoblfddaa
