/- Printed by a program for this claim: functions of the program as plain functions, and that the machine computes them. -/
import Derived.Test.YtgchfibcaecjcaaPx0
import Derived.Test.YtgchfibcaecjcaaPShort
import Derived.Test.YtgchfibcaecjcaaPx4
namespace Go.Proofs.Ytgchfibcaecjcaa.P
open Go.RowKit Go.Proofs.YtgchfibcaecjcaaW.PrintWords Go.Proofs.YtgchfibcaecjcaaW.PrintLast Go.Proofs.YtgchfibcaecjcaaW.PrintMore
attribute [local go_sem] max2_int min2_int max_two min_two max_three min_three max_four min_four   -- for this text's walks alone
set_option linter.unusedVariables false
set_option linter.unusedSimpArgs false
def u5_0 : Array Bool := #[false, false, false, false, false, false, false, false, false, false, false, false, false, false, false]
def u5_1 : Array Bool := #[true, false, false, false, false, false, false, false, false, false, false, false, false, false, false]
def u5_2 : Array Bool := #[true, true, false, false, false, false, false, false, false, false, false, false, false, false, false]
def u5_3 : Array Bool := #[true, true, true, false, false, false, false, false, false, false, false, false, false, false, false]
def u5_4 : Array Bool := #[true, true, true, true, false, false, false, false, false, false, false, false, false, false, false]
def u5_5 : Array Bool := #[true, true, true, true, true, false, false, false, false, false, false, false, false, false, false]
def u5_6 : Array Bool := #[true, true, true, true, true, true, false, false, false, false, false, false, false, false, false]
def u5_7 : Array Bool := #[true, true, true, true, true, true, true, false, false, false, false, false, false, false, false]
def u5_8 : Array Bool := #[true, true, true, true, true, true, true, true, false, false, false, false, false, false, false]
def u5_9 : Array Bool := #[true, true, true, true, true, true, true, true, false, true, false, false, false, false, false]
def u5_10 : Array Bool := #[true, true, true, true, true, true, true, true, false, true, true, false, false, false, false]
def u5_11 : Array Bool := #[true, true, true, true, true, true, true, true, false, true, true, true, false, false, false]
def u5_12 : Array Bool := #[true, true, true, true, true, true, true, true, true, true, true, true, false, false, false]
def u5_13 : Array Bool := #[true, true, true, true, true, true, true, true, true, true, true, true, true, false, false]
def u5_14 : Array Bool := #[true, true, true, true, true, true, true, true, true, true, true, true, true, true, false]
def u5_15 : Array Bool := #[true, true, true, true, true, true, true, true, true, true, true, true, true, true, true]
def u5_16 : Array Bool := #[false, false, false, false, false, false, false, false, false, false, false, false, false, false, false, false]
def u5_17 : Array Bool := #[true, false, false, false, false, false, false, false, false, false, false, false, false, false, false, false]
def u5_18 : Array Bool := #[true, true, false, false, false, false, false, false, false, false, false, false, false, false, false, false]
def u5_19 : Array Bool := #[true, true, true, false, false, false, false, false, false, false, false, false, false, false, false, false]
def u5_20 : Array Bool := #[true, true, true, true, false, false, false, false, false, false, false, false, false, false, false, false]
def u5_21 : Array Bool := #[true, true, true, true, true, false, false, false, false, false, false, false, false, false, false, false]
def u5_22 : Array Bool := #[true, true, true, true, true, true, false, false, false, false, false, false, false, false, false, false]
def u5_23 : Array Bool := #[true, true, true, true, true, true, true, false, false, false, false, false, false, false, false, false]
def u5_24 : Array Bool := #[true, true, true, true, true, true, true, true, false, false, false, false, false, false, false, false]
def u5_25 : Array Bool := #[true, true, true, true, true, true, true, true, false, true, false, false, false, false, false, false]
def u5_26 : Array Bool := #[true, true, true, true, true, true, true, true, false, true, true, false, false, false, false, false]
def u5_27 : Array Bool := #[true, true, true, true, true, true, true, true, false, true, true, true, false, false, false, false]
def u5_28 : Array Bool := #[true, true, true, true, true, true, true, true, true, true, true, true, false, false, false, false]
def u5_29 : Array Bool := #[true, true, true, true, true, true, true, true, true, true, true, true, true, false, false, false]
def u5_30 : Array Bool := #[true, true, true, true, true, true, true, true, true, true, true, true, true, true, false, false]
def u5_31 : Array Bool := #[true, true, true, true, true, true, true, true, true, true, true, true, true, true, true, false]
def u5_32 : Array Bool := #[true, true, true, true, true, true, true, true, true, true, true, true, true, true, true, true]
def u5_33 : Array Bool := #[false, false, false, false, false, false, false, false, false, false, false, false]
def u5_34 : Array Bool := #[true, false, false, false, false, false, false, false, false, false, false, false]
def u5_35 : Array Bool := #[true, true, false, false, false, false, false, false, false, false, false, false]
def u5_36 : Array Bool := #[true, true, true, false, false, false, false, false, false, false, false, false]
def u5_37 : Array Bool := #[true, true, true, true, false, false, false, false, false, false, false, false]
def u5_38 : Array Bool := #[true, true, true, true, true, false, false, false, false, false, false, false]
def u5_39 : Array Bool := #[true, true, true, true, true, true, false, false, false, false, false, false]
def u5_40 : Array Bool := #[true, true, true, true, true, true, false, false, false, true, false, false]
def u5_41 : Array Bool := #[true, true, true, true, true, true, true, false, false, true, false, false]
def u5_42 : Array Bool := #[true, true, true, true, true, true, true, true, false, true, false, false]
def u5_43 : Array Bool := #[true, true, true, true, true, true, true, true, true, true, false, false]
def u5_44 : Array Bool := #[true, true, true, true, true, true, true, true, true, true, true, false]
def u5_45 : Array Bool := #[true, true, true, true, true, true, true, true, true, true, true, true]
def u5_46 : Array Bool := #[true, true, true, true, true, true, true, true, true, false, false, false, false, false, false]
def u5_47 : Array Bool := #[true, true, true, true, true, true, true, true, true, true, false, false, false, false, false]
def u5_48 : Array Bool := #[true, true, true, true, true, true, true, true, true, true, true, false, false, false, false]
def u5_49 : Array Bool := #[true, true, true, true, true, true, true, true, true, false, false, false, false, false, false, false]
def u5_50 : Array Bool := #[true, true, true, true, true, true, true, true, true, true, false, false, false, false, false, false]
def u5_51 : Array Bool := #[true, true, true, true, true, true, true, true, true, true, true, false, false, false, false, false]
private theorem ownlen_ (A : Option Addr) (n m c : Nat) : (Value.slice A n c).ownBlock = (Value.slice A m c).ownBlock := by cases A <;> rfl

/-! ### clepsydraref20_Sorted: function 14 -/
mutual
def clepsydraref20_Sorted.l0 : Nat → List (S37) → List (S37) → Int → Option ((List (S37)))
 | 0, _, _, _ => none
 | k + 1, x0, x3, x4 => if x4 < (x0.length : Int) then (clepsydraref20_Sorted.l1 k x0 x3 x4 0) else (some x3)
def clepsydraref20_Sorted.l1 : Nat → List (S37) → List (S37) → Int → Int → Option ((List (S37)))
 | 0, _, _, _, _ => none
 | k + 1, x0, x3, x4, x5 => if x5 < (x3.length : Int) then (if 0 ≤ x5 then (if 0 ≤ x4 then (if x4 < (x0.length : Int) then ((clepsydraref20_Less.f ((rd_T37 x3 x5).f0) ((rd_T37 x3 x5).f1) ((rd_T37 x3 x5).f2) ((rd_T37 x0 x4).f0) ((rd_T37 x0 x4).f1) ((rd_T37 x0 x4).f2)).bind fun t141 => (if t141 = true then (clepsydraref20_Sorted.l1 k x0 x3 x4 (wrap64 (x5 + 1))) else ((clepsydraref20_Less.f ((rd_T37 x0 x4).f0) ((rd_T37 x0 x4).f1) ((rd_T37 x0 x4).f2) ((rd_T37 x3 x5).f0) ((rd_T37 x3 x5).f1) ((rd_T37 x3 x5).f2)).bind fun t144 => (if t144 = true then (if x5 ≤ (x3.length : Int) then ((some (x3.drop (x5 : Int).toNat : List (S37))).bind fun y145 => (if ([] : List (S37)).length + y145.length < 8796093022208 then ((some (([] : List (S37)) ++ y145 : List (S37))).bind fun y149 => ((some (x3.take (x5 : Int).toNat : List (S37))).bind fun y152 => (if y152.length < 8796093022208 then ((some (y152 ++ [(⟨(rd_T37 x0 x4).f0, (rd_T37 x0 x4).f1, (rd_T37 x0 x4).f2⟩ : S37)] : List (S37))).bind fun y156 => (if y156.length + y149.length < 8796093022208 then (clepsydraref20_Sorted.l0 k x0 (y156 ++ y149) (wrap64 (x4 + 1))) else (none))) else (none)))) else (none))) else (none)) else (if (rd_T37 x3 x5).f2 = true then (clepsydraref20_Sorted.l0 k x0 (x3.set (x5 : Int).toNat (⟨(rd_T37 x3 x5).f0, (rd_T37 x3 x5).f1, true⟩ : S37)) (wrap64 (x4 + 1))) else (clepsydraref20_Sorted.l0 k x0 (x3.set (x5 : Int).toNat (⟨(rd_T37 x3 x5).f0, (rd_T37 x3 x5).f1, (rd_T37 x0 x4).f2⟩ : S37)) (wrap64 (x4 + 1)))))))) else (none)) else (none)) else (none)) else (if 0 ≤ x5 then (if x5 ≤ (x3.length : Int) then ((some (x3.drop (x5 : Int).toNat : List (S37))).bind fun y166 => (if ([] : List (S37)).length + y166.length < 8796093022208 then ((some (([] : List (S37)) ++ y166 : List (S37))).bind fun y170 => ((some (x3.take (x5 : Int).toNat : List (S37))).bind fun y173 => (if 0 ≤ x4 then (if x4 < (x0.length : Int) then (if y173.length < 8796093022208 then ((some (y173 ++ [(⟨(rd_T37 x0 x4).f0, (rd_T37 x0 x4).f1, (rd_T37 x0 x4).f2⟩ : S37)] : List (S37))).bind fun y177 => (if y177.length + y170.length < 8796093022208 then (clepsydraref20_Sorted.l0 k x0 (y177 ++ y170) (wrap64 (x4 + 1))) else (none))) else (none)) else (none)) else (none)))) else (none))) else (none)) else (none))
end
def clepsydraref20_Sorted.f (k : Nat) (l0 : List (S37)) : Option ((List (S37))) := clepsydraref20_Sorted.l0 k l0 ([] : List (S37)) 0
theorem clepsydraref20_Sorted.mono_l : ∀ k, (∀ y0 y1 y2, LeO (clepsydraref20_Sorted.l0 k y0 y1 y2) (clepsydraref20_Sorted.l0 (k + 1) y0 y1 y2)) ∧ (∀ y0 y1 y2 y3, LeO (clepsydraref20_Sorted.l1 k y0 y1 y2 y3) (clepsydraref20_Sorted.l1 (k + 1) y0 y1 y2 y3))
 | 0 => ⟨fun _ _ _ r h => by simp [clepsydraref20_Sorted.l0] at h, fun _ _ _ _ r h => by simp [clepsydraref20_Sorted.l1] at h⟩
 | k + 1 => by
  obtain ⟨ih0, ih1⟩ := clepsydraref20_Sorted.mono_l k
  refine ⟨?_, ?_⟩
  ·intro y0 y1 y2
   unfold clepsydraref20_Sorted.l0
   repeat' first
   | (with_reducible exact ih0 _ _ _)
   | (with_reducible exact ih1 _ _ _ _)
   | (with_reducible exact LeO.refl _)
   | (with_reducible exact LeO.none _)
   | (with_reducible refine LeO.ite ?_ ?_)
   | (with_reducible refine LeO.bind ?_ (fun _ => ?_))
   | exact ih0 _ _ _
   | exact ih1 _ _ _ _
   | exact LeO.none _
   | refine LeO.ite ?_ ?_
   | refine LeO.bind ?_ (fun _ => ?_)
  ·intro y0 y1 y2 y3
   unfold clepsydraref20_Sorted.l1
   repeat' first
   | (with_reducible exact ih0 _ _ _)
   | (with_reducible exact ih1 _ _ _ _)
   | (with_reducible exact LeO.refl _)
   | (with_reducible exact LeO.none _)
   | (with_reducible refine LeO.ite ?_ ?_)
   | (with_reducible refine LeO.bind ?_ (fun _ => ?_))
   | exact ih0 _ _ _
   | exact ih1 _ _ _ _
   | exact LeO.none _
   | refine LeO.ite ?_ ?_
   | refine LeO.bind ?_ (fun _ => ?_)
theorem clepsydraref20_Sorted.mono : ∀ a0 k, LeO (clepsydraref20_Sorted.f k a0) (clepsydraref20_Sorted.f (k + 1) a0) := by
 intro a0 k
 obtain ⟨ih0, ih1⟩ := clepsydraref20_Sorted.mono_l k
 unfold clepsydraref20_Sorted.f
 repeat' first
   | (with_reducible exact ih0 _ _ _)
   | (with_reducible exact ih1 _ _ _ _)
   | (with_reducible exact LeO.refl _)
   | (with_reducible exact LeO.none _)
   | (with_reducible refine LeO.ite ?_ ?_)
   | (with_reducible refine LeO.bind ?_ (fun _ => ?_))
   | exact ih0 _ _ _
   | exact ih1 _ _ _ _
   | exact LeO.none _
   | refine LeO.ite ?_ ?_
   | refine LeO.bind ?_ (fun _ => ?_)
def clepsydraref20_Sorted.T6 : Bool × List (List Nat × List Nat) := (true, [([], []), ([], []), ([1], [1]), ([0, 2], [0, 2]), ([3], [3]), ([4], [4]), ([4], [4]), ([5, 6, 4], [4, 5, 6]), ([7, 4], [4, 7]), ([4], [4]), ([4], [4]), ([9, 10, 4], [4, 9, 10]), ([11, 4], [4, 11]), ([8, 12, 4, 4], [4, 8, 12]), ([4, 13], [4, 13])])
def clepsydraref20_Sorted.B6 : List Nat := [0, 0, 2, 7, 15, 31, 31, 127, 255, 31, 31, 1567, 3615, 8191, 16383]
theorem clepsydraref20_Sorted.tab6 : rtab .any (opsOf Try.f14 6) = clepsydraref20_Sorted.T6 := by kernel_rfl
theorem clepsydraref20_Sorted.bits6 : waitsOk clepsydraref20_Sorted.T6.2 clepsydraref20_Sorted.B6 = true := by kernel_rfl
def clepsydraref20_Sorted.T8 : Bool × List (List Nat × List Nat) := (true, [([], []), ([], []), ([1], [1]), ([0, 2], [0, 2]), ([3], [3]), ([4], [4]), ([4], [4]), ([5, 6, 4], [4, 5, 6]), ([7, 4], [4, 7]), ([4], [4]), ([4], [4]), ([9, 10, 4], [4, 9, 10]), ([11, 4], [4, 11]), ([8, 12, 4, 4], [4, 8, 12]), ([13, 4], [4, 13]), ([4, 14], [4, 14])])
def clepsydraref20_Sorted.B8 : List Nat := [0, 0, 2, 7, 15, 31, 31, 127, 255, 31, 31, 1567, 3615, 8191, 16383, 32767]
theorem clepsydraref20_Sorted.tab8 : rtab .any (opsOf Try.f14 8) = clepsydraref20_Sorted.T8 := by kernel_rfl
theorem clepsydraref20_Sorted.bits8 : waitsOk clepsydraref20_Sorted.T8.2 clepsydraref20_Sorted.B8 = true := by kernel_rfl
def clepsydraref20_Sorted.T12 : Bool × List (List Nat × List Nat) := (true, [([], []), ([], []), ([0, 1], [0, 1]), ([], []), ([], []), ([3, 4], [3, 4]), ([5], [5]), ([6], [6]), ([2, 7], [2, 7]), ([], []), ([8, 9, 8], [8, 9]), ([10, 10, 0, 1, 2, 3, 4, 5, 6, 7, 8, 9, 10], [0, 10])])
def clepsydraref20_Sorted.B12 : List Nat := [0, 0, 3, 0, 0, 24, 56, 120, 255, 0, 1023, 2047]
theorem clepsydraref20_Sorted.tab12 : rtab .any (opsOf Try.f14 12) = clepsydraref20_Sorted.T12 := by kernel_rfl
theorem clepsydraref20_Sorted.bits12 : waitsOk clepsydraref20_Sorted.T12.2 clepsydraref20_Sorted.B12 = true := by kernel_rfl
set_option maxHeartbeats 8000000 in
set_option maxRecDepth 100000 in
theorem clepsydraref20_Sorted.calls (k : Nat) (A0 : Option Addr) (c0 : Nat) (l0 : List (S37)) (r : List (S37)) (w : World) (hr0 : Kd.C k37 w A0 l0.length l0) (hc0 : l0.length ≤ c0) (h : clepsydraref20_Sorted.f k l0 = some r) :
  Calls Try.prog 14 #[.slice A0 l0.length c0] w fun e w' => ∃ v0_ : Value, e = .returned (v0_) ∧ Kd.R k37 37 w' w.heap.size (fun _ => True) v0_ r ∧ Below w.heap.size w w' := by
 have hu37 := Try.underlying37
 have HR0 := Aside0.mk hr0
 have HC0 := Aside0.mk hc0
 clear hr0 hc0
 have HB := Aside0.mk (Below.refl w.heap.size w)
 have H : (clepsydraref20_Sorted.l0 k l0 ([] : List (S37)) 0) = some r := h
 clear h
 have H' := Aside0.mk H
 clear H
 go_enter Try.func14, Try.ntmps14
 go_wp2
 go_loopg [3, 4] k (fun kq v3 v4 w' => ∃ (x3_1 : List (S37)) (x4_1 : Int), v4 = .int .i64 x4_1 ∧ Aside0 (clepsydraref20_Sorted.l0 kq l0 x3_1 x4_1 = some r) ∧ Aside0 (kq ≤ k) ∧ Aside0 (Kd.R k37 37 w' w.heap.size (fun _ => True) v3 x3_1) ∧ Aside0 (Below w.heap.size w w'))
 case atStart => exact ⟨(([] : List (S37))), (0), (by first | rfl | (simp; done) | (simp [*]; done)), H', ⟨Nat.le_refl _⟩, ⟨by first | exact Kd.R_nil _ _ _ _ _ | exact Kd.N_nil _ _ _ _ _ | exact Kd.V_nil _ _ _ _ _ | exact Kd.Q_nil _ _ _ _ _ | exact Kd.S_nil _ _ _ _ _⟩, ⟨by repeat (first | (with_reducible first | exact HB.out | apply below_alloc | apply pw_below_drewN | apply below_drew1) | exact HB.out)⟩⟩
 case round =>
  clear H'
  try clear c1
  obtain ⟨x3_1, x4_1, rfl, HA, HK1, HO_3, HB⟩ := hrel
  cases gk with
  | zero => exact absurd HA.out (by simp [clepsydraref20_Sorted.l0])
  | succ k1 =>
   have H := HA.out
   clear HA
   simp only [clepsydraref20_Sorted.l0] at H
   by_cases c2 : x4_1 < (l0.length : Int)
   ·rw [if_pos c2] at H
    have c2b0 : decide (x4_1 < (l0.length : Int)) = true := decide_eq_true c2
    clear c2
    have H' := Aside0.mk H
    clear H
    go_wp2
    go_loopg [5] k1 (fun kq v5 w' => ∃ (x5_2 : Int), v5 = .int .i64 x5_2 ∧ Aside0 (clepsydraref20_Sorted.l1 kq l0 x3_1 x4_1 x5_2 = some r) ∧ Aside0 (kq ≤ k1) ∧ Aside0 (Kd.R k37 37 w' w.heap.size (fun _ => True) u3 x3_1) ∧ Aside0 (Below w.heap.size w w'))
    case atStart => exact ⟨(0), (by first | rfl | (simp; done) | (simp [*]; done)), H', ⟨Nat.le_refl _⟩, ⟨by (with_reducible repeat (first | apply Kd.R_alloc | apply Kd.R_drewN | apply Kd.R_drew)); exact HO_3.out⟩, ⟨by repeat (first | (with_reducible first | exact HB.out | apply below_alloc | apply pw_below_drewN | apply below_drew1) | exact HB.out)⟩⟩
    case round =>
     clear H'
     try clear c1
     try clear c2
     try clear c2b0
     try clear p2
     obtain ⟨x5_2, rfl, HA, HK2, HO_3, HB⟩ := hrel
     cases gk with
     | zero => exact absurd HA.out (by simp [clepsydraref20_Sorted.l1])
     | succ k2 =>
      have H := HA.out
      clear HA
      simp only [clepsydraref20_Sorted.l1] at H
      by_cases c3 : x5_2 < (x3_1.length : Int)
      ·rw [if_pos c3] at H
       have c3b0 : decide (x5_2 < (x3_1.length : Int)) = true := decide_eq_true c3
       clear c3
       by_cases c4 : 0 ≤ x5_2
       ·rw [if_pos c4] at H
        have c4b0 : decide (0 ≤ x5_2) = true := decide_eq_true c4
        clear c4
        by_cases c5 : 0 ≤ x4_1
        ·rw [if_pos c5] at H
         have c5b0 : decide (0 ≤ x4_1) = true := decide_eq_true c5
         clear c5
         by_cases c6 : x4_1 < (l0.length : Int)
         ·rw [if_pos c6] at H
          have c6b0 : decide (x4_1 < (l0.length : Int)) = true := decide_eq_true c6
          clear c6
          replace H := Option.bind_eq_some_iff.mp H
          obtain ⟨t141, A70, H⟩ := H
          replace H : (if t141 = true then (clepsydraref20_Sorted.l1 k2 l0 x3_1 x4_1 (wrap64 (x5_2 + 1))) else ((clepsydraref20_Less.f ((rd_T37 l0 x4_1).f0) ((rd_T37 l0 x4_1).f1) ((rd_T37 l0 x4_1).f2) ((rd_T37 x3_1 x5_2).f0) ((rd_T37 x3_1 x5_2).f1) ((rd_T37 x3_1 x5_2).f2)).bind fun t144 => (if t144 = true then (if x5_2 ≤ (x3_1.length : Int) then ((some (x3_1.drop (x5_2 : Int).toNat : List (S37))).bind fun y145 => (if ([] : List (S37)).length + y145.length < 8796093022208 then ((some (([] : List (S37)) ++ y145 : List (S37))).bind fun y149 => ((some (x3_1.take (x5_2 : Int).toNat : List (S37))).bind fun y152 => (if y152.length < 8796093022208 then ((some (y152 ++ [(⟨(rd_T37 l0 x4_1).f0, (rd_T37 l0 x4_1).f1, (rd_T37 l0 x4_1).f2⟩ : S37)] : List (S37))).bind fun y156 => (if y156.length + y149.length < 8796093022208 then (clepsydraref20_Sorted.l0 k2 l0 (y156 ++ y149) (wrap64 (x4_1 + 1))) else (none))) else (none)))) else (none))) else (none)) else (if (rd_T37 x3_1 x5_2).f2 = true then (clepsydraref20_Sorted.l0 k2 l0 (x3_1.set (x5_2 : Int).toNat (⟨(rd_T37 x3_1 x5_2).f0, (rd_T37 x3_1 x5_2).f1, true⟩ : S37)) (wrap64 (x4_1 + 1))) else (clepsydraref20_Sorted.l0 k2 l0 (x3_1.set (x5_2 : Int).toNat (⟨(rd_T37 x3_1 x5_2).f0, (rd_T37 x3_1 x5_2).f1, (rd_T37 l0 x4_1).f2⟩ : S37)) (wrap64 (x4_1 + 1))))))) = some r := H
          have A7 := Aside0.mk A70
          clear A70
          by_cases c8 : t141 = true
          ·subst c8
           have H1 : (clepsydraref20_Sorted.l1 k2 l0 x3_1 x4_1 (wrap64 (x5_2 + 1))) = some r := by rw [if_pos rfl] at H; exact H
           clear H
           have H := H1
           clear H1
           have H' := Aside0.mk H
           clear H
           try go_wp2
           have n0_ := Aside0.mk (Kd.R_drew HO_3.out)
           have n1_ := Aside0.mk (below_drew1 HB.out)
           clear HO_3
           clear HB
           have HO_3 := n0_
           have HB := n1_
           clear n0_ n1_
           obtain ⟨Ao10, co10, eo10⟩ := Kd.R_slice HO_3.out
           (first | subst eo10 | (injection eo10 with f1_ f2_ f3_; have f4_ := f1_.symm; have f5_ := f3_.symm; clear f1_ f2_ f3_; subst f4_; subst f5_))
           have p139 : 0 ≤ (x5_2 : Int) := of_decide_eq_true (by first | (with_reducible assumption) | assumption)
           have q139 : x5_2 < (x3_1.length : Int) := of_decide_eq_true (by first | (with_reducible assumption) | assumption)
           obtain ⟨ad139, e139, hx139_0, hx139_1, hx139_2⟩ := at_T37 (Kd.R_reads' HO_3.out).2.2 x5_2 p139 q139
           cases e139
           replace p139 := eq_true p139
           replace q139 := eq_true q139
           have p140 : 0 ≤ (x4_1 : Int) := of_decide_eq_true (by first | (with_reducible assumption) | assumption)
           have q140 : x4_1 < (l0.length : Int) := of_decide_eq_true (by first | (with_reducible assumption) | assumption)
           obtain ⟨ad140, e140, hx140_0, hx140_1, hx140_2⟩ := at_T37 HR0.out x4_1 p140 q140
           have hw140_2 := hx140_2
           have hw140_1 := hx140_1
           have hw140_0 := hx140_0
           cases e140
           replace hx140_0 := (HB.out.cell (World.block_lt_of_cell? w _ hx140_0)).trans hx140_0
           replace hx140_1 := (HB.out.cell (World.block_lt_of_cell? w _ hx140_1)).trans hx140_1
           replace hx140_2 := (HB.out.cell (World.block_lt_of_cell? w _ hx140_2)).trans hx140_2
           replace p140 := eq_true p140
           replace q140 := eq_true q140
           refine start_ (n := 15) (S := fun w' => w'.cell? (ad139.add ((x5_2).toNat * 3)) = some (.int .i64 ((rd_T37 x3_1 x5_2).f0)) ∧ w'.cell? ⟨(ad139.add ((x5_2).toNat * 3)).block, (ad139.add ((x5_2).toNat * 3)).off + 1, none⟩ = some (.int .u8 ((rd_T37 x3_1 x5_2).f1)) ∧ w'.cell? ⟨(ad139.add ((x5_2).toNat * 3)).block, (ad139.add ((x5_2).toNat * 3)).off + 2, none⟩ = some (.bool ((rd_T37 x3_1 x5_2).f2)) ∧ w'.cell? (ad140.add ((x4_1).toNat * 3)) = some (.int .i64 ((rd_T37 l0 x4_1).f0)) ∧ w'.cell? ⟨(ad140.add ((x4_1).toNat * 3)).block, (ad140.add ((x4_1).toNat * 3)).off + 1, none⟩ = some (.int .u8 ((rd_T37 l0 x4_1).f1)) ∧ w'.cell? ⟨(ad140.add ((x4_1).toNat * 3)).block, (ad140.add ((x4_1).toNat * 3)).off + 2, none⟩ = some (.bool ((rd_T37 l0 x4_1).f2))) (ds := []) u5_0 (by kernel_rfl) rfl rfl ⟨hx139_0, hx139_1, hx139_2, ((HB.out.cell (World.block_lt_of_cell? w _ hw140_0)).trans hw140_0), ((HB.out.cell (World.block_lt_of_cell? w _ hw140_1)).trans hw140_1), ((HB.out.cell (World.block_lt_of_cell? w _ hw140_2)).trans hw140_2)⟩ (fun hHeld => ?_); refine with_tabW clepsydraref20_Sorted.tab6 clepsydraref20_Sorted.bits6 (fun HT_ HW_ => ?_)
           generalize wr.drew = w9 at HO_3 HB hx139_0 hx139_1 hx139_2 hx140_0 hx140_1 hx140_2 hHeld ⊢
           refine pure_ (i := 0) (N := some 13) (v := ?_) (a' := ?_) u5_1 rfl rfl (any_of HT_.out (by kernel_rfl)) (fun _ _ _ h => h) (Or.inl ⟨by rfl, ?_⟩) ?_ ?_
           rotate_left
           ·intro w'
            go_simp
            with_reducible rfl
           rotate_left
           ·simp only [Act.put, s0_, s1_, s2_, i64_w, i32_w]
            rfl
           refine pure_ (i := 1) (N := some 14) (v := ?_) (a' := ?_) u5_2 rfl rfl (any_of HT_.out (by kernel_rfl)) (fun _ _ _ h => h) (Or.inl ⟨by rfl, ?_⟩) ?_ ?_
           rotate_left
           ·intro w'
            go_simp
            with_reducible rfl
           rotate_left
           ·simp only [Act.put, s0_, s1_, s2_, i64_w, i32_w]
            rfl
           refine pure_ (i := 2) (N := some 15) (v := ?_) (a' := ?_) u5_3 rfl rfl (any_of HT_.out (by kernel_rfl)) (fun _ _ _ h => h) (Or.inl ⟨by rfl, ?_⟩) ?_ ?_
           rotate_left
           ·intro w'
            go_simp
            with_reducible rfl
           rotate_left
           ·simp only [Act.put, s0_, s1_, s2_, i64_w, i32_w]
            rfl
           refine pure_ (i := 3) (N := some 16) (v := ?_) (a' := ?_) u5_4 rfl rfl (any_of HT_.out (by kernel_rfl)) (fun _ _ _ h => h) (Or.inl ⟨by rfl, ?_⟩) ?_ ?_
           rotate_left
           ·intro w'
            go_simp
            with_reducible rfl
           rotate_left
           ·simp only [Act.put, s0_, s1_, s2_, i64_w, i32_w]
            rfl
           refine pure_ (i := 4) (N := some 17) (v := ?_) (a' := ?_) u5_5 rfl rfl (any_of HT_.out (by kernel_rfl)) (fun _ _ _ h => h) (Or.inl ⟨by rfl, ?_⟩) ?_ ?_
           rotate_left
           ·intro w'
            go_simp
            with_reducible rfl
           rotate_left
           ·simp only [Act.put, s0_, s1_, s2_, i64_w, i32_w]
            rfl
           refine pure_ (i := 5) (N := some 18) (v := ?_) (a' := ?_) u5_6 rfl rfl (any_of HT_.out (by kernel_rfl)) (fun _ _ _ h => h) (Or.inl ⟨by rfl, ?_⟩) ?_ ?_
           rotate_left
           ·intro w'
            go_simp
            with_reducible rfl
           rotate_left
           ·simp only [Act.put, s0_, s1_, s2_, i64_w, i32_w]
            rfl
           refine pure_ (i := 6) (N := some 19) (v := ?_) (a' := ?_) u5_7 rfl rfl (any_of HT_.out (by kernel_rfl)) (fun _ _ _ h => h) (Or.inl ⟨by rfl, ?_⟩) ?_ ?_
           rotate_left
           ·intro w'
            go_simp
            with_reducible rfl
           rotate_left
           ·simp only [Act.put, s0_, s1_, s2_, i64_w, i32_w]
            rfl
           refine pure_ (i := 7) (N := some 20) (v := ?_) (a' := ?_) u5_8 rfl rfl (any_of HT_.out (by kernel_rfl)) (fun _ _ _ h => h) (Or.inl ⟨by rfl, ?_⟩) ?_ ?_
           rotate_left
           ·intro w'
            go_simp
            with_reducible rfl
           rotate_left
           ·simp only [Act.put, s0_, s1_, s2_, i64_w, i32_w]
            rfl
           refine pure_ (i := 9) (N := some 22) (v := ?_) (a' := ?_) u5_9 rfl rfl (any_of HT_.out (by kernel_rfl)) (fun _ _ _ h => h) (Or.inl ⟨by rfl, ?_⟩) ?_ ?_
           rotate_left
           ·intro w'
            go_simp
            with_reducible rfl
           rotate_left
           ·simp only [Act.put, s0_, s1_, s2_, i64_w, i32_w]
            rfl
           refine pure_ (i := 10) (N := some 23) (v := ?_) (a' := ?_) u5_10 rfl rfl (any_of HT_.out (by kernel_rfl)) (fun _ _ _ h => h) (Or.inl ⟨by rfl, ?_⟩) ?_ ?_
           rotate_left
           ·intro w'
            go_simp
            with_reducible rfl
           rotate_left
           ·simp only [Act.put, s0_, s1_, s2_, i64_w, i32_w]
            rfl
           refine pure_ (i := 11) (N := some 24) (v := ?_) (a' := ?_) u5_11 rfl rfl (any_of HT_.out (by kernel_rfl)) (fun _ _ _ h => h) (Or.inl ⟨by rfl, ?_⟩) ?_ ?_
           rotate_left
           ·intro w'
            go_simp
            with_reducible rfl
           rotate_left
           ·simp only [Act.put, s0_, s1_, s2_, i64_w, i32_w]
            rfl
           refine take_ (i := 8) (N := some 21) (v := ?_) (a' := ?_) u5_12 rfl rfl (take_ofW HT_.out HW_.out (by kernel_rfl)) (fun _ _ _ h => h) (Or.inl ⟨by rfl, ?_⟩) hHeld ?_ ?_
           rotate_left
           ·rintro w' ⟨s0, s1, s2, s3, s4, s5⟩
            go_simp
            with_reducible rfl
           rotate_left
           ·simp only [Act.put, s0_, s1_, s2_, i64_w, i32_w]
            rfl
           refine take_ (i := 12) (N := some 25) (v := ?_) (a' := ?_) u5_13 rfl rfl (take_ofW HT_.out HW_.out (by kernel_rfl)) (fun _ _ _ h => h) (Or.inl ⟨by rfl, ?_⟩) hHeld ?_ ?_
           rotate_left
           ·rintro w' ⟨s0, s1, s2, s3, s4, s5⟩
            go_simp
            with_reducible rfl
           rotate_left
           ·simp only [Act.put, s0_, s1_, s2_, i64_w, i32_w]
            rfl
           refine one_ (i := 13) (N := some 26) u5_14 rfl rfl (one_of HT_.out (by kernel_rfl)) (by decide) (fun K hK => ?_)
           refine goes_ Try.func19 (by kernel_rfl) rfl #[.agg #[.int .i64 ((rd_T37 x3_1 x5_2).f0), .int .u8 ((rd_T37 x3_1 x5_2).f1), .bool ((rd_T37 x3_1 x5_2).f2)], .agg #[.int .i64 ((rd_T37 l0 x4_1).f0), .int .u8 ((rd_T37 l0 x4_1).f1), .bool ((rd_T37 l0 x4_1).f2)]] (by rfl) rfl rfl (by (try simp only [List.map_toArray, List.map_cons, List.map_nil]); first | done | rfl | (simp only [List.length_drop, List.length_take]; rfl)) ?_
           with_reducible refine (clepsydraref20_Less.calls ((rd_T37 x3_1 x5_2).f0) ((rd_T37 x3_1 x5_2).f1) ((rd_T37 x3_1 x5_2).f2) ((rd_T37 l0 x4_1).f0) ((rd_T37 l0 x4_1).f1) ((rd_T37 l0 x4_1).f2) true _ A7.out).mono ?_
           rintro e w11 ⟨rfl, hb⟩
           have HS0_ := (hb.cell (World.block_lt_of_cell? _ _ (hHeld.1))).trans (hHeld.1)
           have HS1_ := (hb.cell (World.block_lt_of_cell? _ _ (hHeld.2.1))).trans (hHeld.2.1)
           have HS2_ := (hb.cell (World.block_lt_of_cell? _ _ (hHeld.2.2.1))).trans (hHeld.2.2.1)
           refine ⟨_, rfl, ?_⟩
           have n0_ := Aside0.mk (Kd.R_below (by (with_reducible repeat (first | apply Kd.R_alloc | apply Kd.R_drewN | apply Kd.R_drew)); exact HO_3.out) hb)
           have n1_ := Aside0.mk (below_step (by repeat (first | (with_reducible first | exact HB.out | apply below_alloc | apply pw_below_drewN | apply below_drew1) | exact HB.out)) hb)
           clear HO_3
           clear HB
           have HO_3 := n0_
           have HB := n1_
           clear n0_ n1_
           (try clear hb)
           (try clear hb2)
           (try clear hk)
           (try clear hi)
           refine hK.out _ _ ⟨HS0_, HS1_, HS2_, ((HB.out.cell (World.block_lt_of_cell? w _ hw140_0)).trans hw140_0), ((HB.out.cell (World.block_lt_of_cell? w _ hw140_1)).trans hw140_1), ((HB.out.cell (World.block_lt_of_cell? w _ hw140_2)).trans hw140_2)⟩ (fun hHeld => ?_)
           clear hK K
           refine norm_ (a' := ?_) ?_ ?_
           rotate_left
           ·show Act.put _ (some 26) _ = _
            simp only [Act.put, s0_, s1_, s2_, i64_w, i32_w]
            rfl
           refine pure_ (i := 14) (N := some 27) (v := ?_) (a' := ?_) u5_15 rfl rfl (any_of HT_.out (by kernel_rfl)) (fun _ _ _ h => h) (Or.inl ⟨by rfl, ?_⟩) ?_ ?_
           rotate_left
           ·intro w'
            go_simp
            with_reducible rfl
           rotate_left
           ·simp only [Act.put, s0_, s1_, s2_, i64_w, i32_w]
            rfl
           refine done_ (done_of HT_.out (by kernel_rfl)) ?_
           try go_wp2
           go_roundg k2
           case measure => have := HK1.out; have := HK2.out; omega
           case rel => exact ⟨(wrap64 (x5_2 + 1)), (by first | rfl | (simp; done) | (simp [*]; done)), H', ⟨by have := HK1.out; have := HK2.out; omega⟩, ⟨by (with_reducible repeat (first | apply Kd.R_alloc | apply Kd.R_drewN | apply Kd.R_drew)); exact HO_3.out⟩, ⟨by repeat (first | (with_reducible first | exact HB.out | apply below_alloc | apply pw_below_drewN | apply below_drew1) | exact HB.out)⟩⟩
          ·replace c8 := Bool.eq_false_iff.mpr c8
           subst c8
           have H1 : ((clepsydraref20_Less.f ((rd_T37 l0 x4_1).f0) ((rd_T37 l0 x4_1).f1) ((rd_T37 l0 x4_1).f2) ((rd_T37 x3_1 x5_2).f0) ((rd_T37 x3_1 x5_2).f1) ((rd_T37 x3_1 x5_2).f2)).bind fun t144 => (if t144 = true then (if x5_2 ≤ (x3_1.length : Int) then ((some (x3_1.drop (x5_2 : Int).toNat : List (S37))).bind fun y145 => (if ([] : List (S37)).length + y145.length < 8796093022208 then ((some (([] : List (S37)) ++ y145 : List (S37))).bind fun y149 => ((some (x3_1.take (x5_2 : Int).toNat : List (S37))).bind fun y152 => (if y152.length < 8796093022208 then ((some (y152 ++ [(⟨(rd_T37 l0 x4_1).f0, (rd_T37 l0 x4_1).f1, (rd_T37 l0 x4_1).f2⟩ : S37)] : List (S37))).bind fun y156 => (if y156.length + y149.length < 8796093022208 then (clepsydraref20_Sorted.l0 k2 l0 (y156 ++ y149) (wrap64 (x4_1 + 1))) else (none))) else (none)))) else (none))) else (none)) else (if (rd_T37 x3_1 x5_2).f2 = true then (clepsydraref20_Sorted.l0 k2 l0 (x3_1.set (x5_2 : Int).toNat (⟨(rd_T37 x3_1 x5_2).f0, (rd_T37 x3_1 x5_2).f1, true⟩ : S37)) (wrap64 (x4_1 + 1))) else (clepsydraref20_Sorted.l0 k2 l0 (x3_1.set (x5_2 : Int).toNat (⟨(rd_T37 x3_1 x5_2).f0, (rd_T37 x3_1 x5_2).f1, (rd_T37 l0 x4_1).f2⟩ : S37)) (wrap64 (x4_1 + 1)))))) = some r := by rw [if_neg (show ¬ (false = true) by decide)] at H; exact H
           clear H
           have H := H1
           clear H1
           replace H := Option.bind_eq_some_iff.mp H
           obtain ⟨t144, A120, H⟩ := H
           replace H : (if t144 = true then (if x5_2 ≤ (x3_1.length : Int) then ((some (x3_1.drop (x5_2 : Int).toNat : List (S37))).bind fun y145 => (if ([] : List (S37)).length + y145.length < 8796093022208 then ((some (([] : List (S37)) ++ y145 : List (S37))).bind fun y149 => ((some (x3_1.take (x5_2 : Int).toNat : List (S37))).bind fun y152 => (if y152.length < 8796093022208 then ((some (y152 ++ [(⟨(rd_T37 l0 x4_1).f0, (rd_T37 l0 x4_1).f1, (rd_T37 l0 x4_1).f2⟩ : S37)] : List (S37))).bind fun y156 => (if y156.length + y149.length < 8796093022208 then (clepsydraref20_Sorted.l0 k2 l0 (y156 ++ y149) (wrap64 (x4_1 + 1))) else (none))) else (none)))) else (none))) else (none)) else (if (rd_T37 x3_1 x5_2).f2 = true then (clepsydraref20_Sorted.l0 k2 l0 (x3_1.set (x5_2 : Int).toNat (⟨(rd_T37 x3_1 x5_2).f0, (rd_T37 x3_1 x5_2).f1, true⟩ : S37)) (wrap64 (x4_1 + 1))) else (clepsydraref20_Sorted.l0 k2 l0 (x3_1.set (x5_2 : Int).toNat (⟨(rd_T37 x3_1 x5_2).f0, (rd_T37 x3_1 x5_2).f1, (rd_T37 l0 x4_1).f2⟩ : S37)) (wrap64 (x4_1 + 1))))) = some r := H
           have A12 := Aside0.mk A120
           clear A120
           by_cases c13 : t144 = true
           ·subst c13
            have H1 : (if x5_2 ≤ (x3_1.length : Int) then ((some (x3_1.drop (x5_2 : Int).toNat : List (S37))).bind fun y145 => (if ([] : List (S37)).length + y145.length < 8796093022208 then ((some (([] : List (S37)) ++ y145 : List (S37))).bind fun y149 => ((some (x3_1.take (x5_2 : Int).toNat : List (S37))).bind fun y152 => (if y152.length < 8796093022208 then ((some (y152 ++ [(⟨(rd_T37 l0 x4_1).f0, (rd_T37 l0 x4_1).f1, (rd_T37 l0 x4_1).f2⟩ : S37)] : List (S37))).bind fun y156 => (if y156.length + y149.length < 8796093022208 then (clepsydraref20_Sorted.l0 k2 l0 (y156 ++ y149) (wrap64 (x4_1 + 1))) else (none))) else (none)))) else (none))) else (none)) = some r := by rw [if_pos rfl] at H; exact H
            clear H
            have H := H1
            clear H1
            have c14b0 := eq_true (of_decide_eq_true (by first | (with_reducible assumption) | assumption) : 0 ≤ x5_2)
            by_cases c15 : x5_2 ≤ (x3_1.length : Int)
            ·rw [if_pos c15] at H
             have c15b0 := eq_true c15
             have c15b1 : decide (x5_2 ≤ (x3_1.length : Int)) = true := decide_eq_true c15
             clear c15
             obtain ⟨y145, hy145⟩ : ∃ y_ : List (S37), y_ = (x3_1.drop (x5_2 : Int).toNat) := ⟨_, rfl⟩
             replace H : (if ([] : List (S37)).length + y145.length < 8796093022208 then ((some (([] : List (S37)) ++ y145 : List (S37))).bind fun y149 => ((some (x3_1.take (x5_2 : Int).toNat : List (S37))).bind fun y152 => (if y152.length < 8796093022208 then ((some (y152 ++ [(⟨(rd_T37 l0 x4_1).f0, (rd_T37 l0 x4_1).f1, (rd_T37 l0 x4_1).f2⟩ : S37)] : List (S37))).bind fun y156 => (if y156.length + y149.length < 8796093022208 then (clepsydraref20_Sorted.l0 k2 l0 (y156 ++ y149) (wrap64 (x4_1 + 1))) else (none))) else (none)))) else (none)) = some r := by first | (rw [hy145]; with_reducible exact H) | (have H2_ := (Option.bind_some _ _).symm.trans H; rw [hy145]; with_reducible exact H2_) | (have H2_ := (Option.bind_some _ _).symm.trans H; with_reducible exact H2_) | with_reducible exact H | (rw [hy145]; exact H) | exact H
             have Ny145 := Aside0.mk hy145
             clear hy145
             by_cases c16 : ([] : List (S37)).length + y145.length < 8796093022208
             ·rw [if_pos c16] at H
              have LMc16 := Aside0.mk c16
              clear c16
              obtain ⟨y149, hy149⟩ : ∃ y_ : List (S37), y_ = (([] : List (S37)) ++ y145) := ⟨_, rfl⟩
              replace H : ((some (x3_1.take (x5_2 : Int).toNat : List (S37))).bind fun y152 => (if y152.length < 8796093022208 then ((some (y152 ++ [(⟨(rd_T37 l0 x4_1).f0, (rd_T37 l0 x4_1).f1, (rd_T37 l0 x4_1).f2⟩ : S37)] : List (S37))).bind fun y156 => (if y156.length + y149.length < 8796093022208 then (clepsydraref20_Sorted.l0 k2 l0 (y156 ++ y149) (wrap64 (x4_1 + 1))) else (none))) else (none))) = some r := by first | (rw [hy149]; with_reducible exact H) | (have H2_ := (Option.bind_some _ _).symm.trans H; rw [hy149]; with_reducible exact H2_) | (have H2_ := (Option.bind_some _ _).symm.trans H; with_reducible exact H2_) | with_reducible exact H | (rw [hy149]; exact H) | exact H
              have Ny149 := Aside0.mk hy149
              clear hy149
              have c17b0 := eq_true (of_decide_eq_true (by first | (with_reducible assumption) | assumption) : x5_2 ≤ (x3_1.length : Int))
              obtain ⟨y152, hy152⟩ : ∃ y_ : List (S37), y_ = (x3_1.take (x5_2 : Int).toNat) := ⟨_, rfl⟩
              replace H : (if y152.length < 8796093022208 then ((some (y152 ++ [(⟨(rd_T37 l0 x4_1).f0, (rd_T37 l0 x4_1).f1, (rd_T37 l0 x4_1).f2⟩ : S37)] : List (S37))).bind fun y156 => (if y156.length + y149.length < 8796093022208 then (clepsydraref20_Sorted.l0 k2 l0 (y156 ++ y149) (wrap64 (x4_1 + 1))) else (none))) else (none)) = some r := by first | (rw [hy152]; with_reducible exact H) | (have H2_ := (Option.bind_some _ _).symm.trans H; rw [hy152]; with_reducible exact H2_) | (have H2_ := (Option.bind_some _ _).symm.trans H; with_reducible exact H2_) | with_reducible exact H | (rw [hy152]; exact H) | exact H
              have Ny152 := Aside0.mk hy152
              clear hy152
              by_cases c18 : y152.length < 8796093022208
              ·rw [if_pos c18] at H
               have LMc18 := Aside0.mk c18
               clear c18
               obtain ⟨y156, hy156⟩ : ∃ y_ : List (S37), y_ = (y152 ++ [(⟨(rd_T37 l0 x4_1).f0, (rd_T37 l0 x4_1).f1, (rd_T37 l0 x4_1).f2⟩ : S37)]) := ⟨_, rfl⟩
               replace H : (if y156.length + y149.length < 8796093022208 then (clepsydraref20_Sorted.l0 k2 l0 (y156 ++ y149) (wrap64 (x4_1 + 1))) else (none)) = some r := by first | (rw [hy156]; with_reducible exact H) | (have H2_ := (Option.bind_some _ _).symm.trans H; rw [hy156]; with_reducible exact H2_) | (have H2_ := (Option.bind_some _ _).symm.trans H; with_reducible exact H2_) | with_reducible exact H | (rw [hy156]; exact H) | exact H
               have Ny156 := Aside0.mk hy156
               clear hy156
               by_cases c19 : y156.length + y149.length < 8796093022208
               ·rw [if_pos c19] at H
                have LMc19 := Aside0.mk c19
                clear c19
                obtain ⟨y159, hy159⟩ : ∃ y_ : List (S37), y_ = (y156 ++ y149) := ⟨_, rfl⟩
                replace H : (clepsydraref20_Sorted.l0 k2 l0 y159 (wrap64 (x4_1 + 1))) = some r := by first | (rw [hy159]; with_reducible exact H) | (have H2_ := (Option.bind_some _ _).symm.trans H; rw [hy159]; with_reducible exact H2_) | (have H2_ := (Option.bind_some _ _).symm.trans H; with_reducible exact H2_) | with_reducible exact H | (rw [hy159]; exact H) | exact H
                have Ny159 := Aside0.mk hy159
                clear hy159
                have H' := Aside0.mk H
                clear H
                try go_wp2
                have n0_ := Aside0.mk (Kd.R_drew HO_3.out)
                have n1_ := Aside0.mk (below_drew1 HB.out)
                clear HO_3
                clear HB
                have HO_3 := n0_
                have HB := n1_
                clear n0_ n1_
                obtain ⟨Ao21, co21, eo21⟩ := Kd.R_slice HO_3.out
                (first | subst eo21 | (injection eo21 with f1_ f2_ f3_; have f4_ := f1_.symm; have f5_ := f3_.symm; clear f1_ f2_ f3_; subst f4_; subst f5_))
                have p139 : 0 ≤ (x5_2 : Int) := of_decide_eq_true (by first | (with_reducible assumption) | assumption)
                have q139 : x5_2 < (x3_1.length : Int) := of_decide_eq_true (by first | (with_reducible assumption) | assumption)
                obtain ⟨ad139, e139, hx139_0, hx139_1, hx139_2⟩ := at_T37 (Kd.R_reads' HO_3.out).2.2 x5_2 p139 q139
                cases e139
                replace p139 := eq_true p139
                replace q139 := eq_true q139
                have p140 : 0 ≤ (x4_1 : Int) := of_decide_eq_true (by first | (with_reducible assumption) | assumption)
                have q140 : x4_1 < (l0.length : Int) := of_decide_eq_true (by first | (with_reducible assumption) | assumption)
                obtain ⟨ad140, e140, hx140_0, hx140_1, hx140_2⟩ := at_T37 HR0.out x4_1 p140 q140
                have hw140_2 := hx140_2
                have hw140_1 := hx140_1
                have hw140_0 := hx140_0
                cases e140
                replace hx140_0 := (HB.out.cell (World.block_lt_of_cell? w _ hx140_0)).trans hx140_0
                replace hx140_1 := (HB.out.cell (World.block_lt_of_cell? w _ hx140_1)).trans hx140_1
                replace hx140_2 := (HB.out.cell (World.block_lt_of_cell? w _ hx140_2)).trans hx140_2
                replace p140 := eq_true p140
                replace q140 := eq_true q140
                refine start_ (n := 15) (S := fun w' => w'.cell? (ad139.add ((x5_2).toNat * 3)) = some (.int .i64 ((rd_T37 x3_1 x5_2).f0)) ∧ w'.cell? ⟨(ad139.add ((x5_2).toNat * 3)).block, (ad139.add ((x5_2).toNat * 3)).off + 1, none⟩ = some (.int .u8 ((rd_T37 x3_1 x5_2).f1)) ∧ w'.cell? ⟨(ad139.add ((x5_2).toNat * 3)).block, (ad139.add ((x5_2).toNat * 3)).off + 2, none⟩ = some (.bool ((rd_T37 x3_1 x5_2).f2)) ∧ w'.cell? (ad140.add ((x4_1).toNat * 3)) = some (.int .i64 ((rd_T37 l0 x4_1).f0)) ∧ w'.cell? ⟨(ad140.add ((x4_1).toNat * 3)).block, (ad140.add ((x4_1).toNat * 3)).off + 1, none⟩ = some (.int .u8 ((rd_T37 l0 x4_1).f1)) ∧ w'.cell? ⟨(ad140.add ((x4_1).toNat * 3)).block, (ad140.add ((x4_1).toNat * 3)).off + 2, none⟩ = some (.bool ((rd_T37 l0 x4_1).f2))) (ds := []) u5_0 (by kernel_rfl) rfl rfl ⟨hx139_0, hx139_1, hx139_2, ((HB.out.cell (World.block_lt_of_cell? w _ hw140_0)).trans hw140_0), ((HB.out.cell (World.block_lt_of_cell? w _ hw140_1)).trans hw140_1), ((HB.out.cell (World.block_lt_of_cell? w _ hw140_2)).trans hw140_2)⟩ (fun hHeld => ?_); refine with_tabW clepsydraref20_Sorted.tab6 clepsydraref20_Sorted.bits6 (fun HT_ HW_ => ?_)
                generalize wr.drew = w20 at HO_3 HB hx139_0 hx139_1 hx139_2 hx140_0 hx140_1 hx140_2 hHeld ⊢
                refine pure_ (i := 0) (N := some 13) (v := ?_) (a' := ?_) u5_1 rfl rfl (any_of HT_.out (by kernel_rfl)) (fun _ _ _ h => h) (Or.inl ⟨by rfl, ?_⟩) ?_ ?_
                rotate_left
                ·intro w'
                 go_simp
                 with_reducible rfl
                rotate_left
                ·simp only [Act.put, s0_, s1_, s2_, i64_w, i32_w]
                 rfl
                refine pure_ (i := 1) (N := some 14) (v := ?_) (a' := ?_) u5_2 rfl rfl (any_of HT_.out (by kernel_rfl)) (fun _ _ _ h => h) (Or.inl ⟨by rfl, ?_⟩) ?_ ?_
                rotate_left
                ·intro w'
                 go_simp
                 with_reducible rfl
                rotate_left
                ·simp only [Act.put, s0_, s1_, s2_, i64_w, i32_w]
                 rfl
                refine pure_ (i := 2) (N := some 15) (v := ?_) (a' := ?_) u5_3 rfl rfl (any_of HT_.out (by kernel_rfl)) (fun _ _ _ h => h) (Or.inl ⟨by rfl, ?_⟩) ?_ ?_
                rotate_left
                ·intro w'
                 go_simp
                 with_reducible rfl
                rotate_left
                ·simp only [Act.put, s0_, s1_, s2_, i64_w, i32_w]
                 rfl
                refine pure_ (i := 3) (N := some 16) (v := ?_) (a' := ?_) u5_4 rfl rfl (any_of HT_.out (by kernel_rfl)) (fun _ _ _ h => h) (Or.inl ⟨by rfl, ?_⟩) ?_ ?_
                rotate_left
                ·intro w'
                 go_simp
                 with_reducible rfl
                rotate_left
                ·simp only [Act.put, s0_, s1_, s2_, i64_w, i32_w]
                 rfl
                refine pure_ (i := 4) (N := some 17) (v := ?_) (a' := ?_) u5_5 rfl rfl (any_of HT_.out (by kernel_rfl)) (fun _ _ _ h => h) (Or.inl ⟨by rfl, ?_⟩) ?_ ?_
                rotate_left
                ·intro w'
                 go_simp
                 with_reducible rfl
                rotate_left
                ·simp only [Act.put, s0_, s1_, s2_, i64_w, i32_w]
                 rfl
                refine pure_ (i := 5) (N := some 18) (v := ?_) (a' := ?_) u5_6 rfl rfl (any_of HT_.out (by kernel_rfl)) (fun _ _ _ h => h) (Or.inl ⟨by rfl, ?_⟩) ?_ ?_
                rotate_left
                ·intro w'
                 go_simp
                 with_reducible rfl
                rotate_left
                ·simp only [Act.put, s0_, s1_, s2_, i64_w, i32_w]
                 rfl
                refine pure_ (i := 6) (N := some 19) (v := ?_) (a' := ?_) u5_7 rfl rfl (any_of HT_.out (by kernel_rfl)) (fun _ _ _ h => h) (Or.inl ⟨by rfl, ?_⟩) ?_ ?_
                rotate_left
                ·intro w'
                 go_simp
                 with_reducible rfl
                rotate_left
                ·simp only [Act.put, s0_, s1_, s2_, i64_w, i32_w]
                 rfl
                refine pure_ (i := 7) (N := some 20) (v := ?_) (a' := ?_) u5_8 rfl rfl (any_of HT_.out (by kernel_rfl)) (fun _ _ _ h => h) (Or.inl ⟨by rfl, ?_⟩) ?_ ?_
                rotate_left
                ·intro w'
                 go_simp
                 with_reducible rfl
                rotate_left
                ·simp only [Act.put, s0_, s1_, s2_, i64_w, i32_w]
                 rfl
                refine pure_ (i := 9) (N := some 22) (v := ?_) (a' := ?_) u5_9 rfl rfl (any_of HT_.out (by kernel_rfl)) (fun _ _ _ h => h) (Or.inl ⟨by rfl, ?_⟩) ?_ ?_
                rotate_left
                ·intro w'
                 go_simp
                 with_reducible rfl
                rotate_left
                ·simp only [Act.put, s0_, s1_, s2_, i64_w, i32_w]
                 rfl
                refine pure_ (i := 10) (N := some 23) (v := ?_) (a' := ?_) u5_10 rfl rfl (any_of HT_.out (by kernel_rfl)) (fun _ _ _ h => h) (Or.inl ⟨by rfl, ?_⟩) ?_ ?_
                rotate_left
                ·intro w'
                 go_simp
                 with_reducible rfl
                rotate_left
                ·simp only [Act.put, s0_, s1_, s2_, i64_w, i32_w]
                 rfl
                refine pure_ (i := 11) (N := some 24) (v := ?_) (a' := ?_) u5_11 rfl rfl (any_of HT_.out (by kernel_rfl)) (fun _ _ _ h => h) (Or.inl ⟨by rfl, ?_⟩) ?_ ?_
                rotate_left
                ·intro w'
                 go_simp
                 with_reducible rfl
                rotate_left
                ·simp only [Act.put, s0_, s1_, s2_, i64_w, i32_w]
                 rfl
                refine take_ (i := 8) (N := some 21) (v := ?_) (a' := ?_) u5_12 rfl rfl (take_ofW HT_.out HW_.out (by kernel_rfl)) (fun _ _ _ h => h) (Or.inl ⟨by rfl, ?_⟩) hHeld ?_ ?_
                rotate_left
                ·rintro w' ⟨s0, s1, s2, s3, s4, s5⟩
                 go_simp
                 with_reducible rfl
                rotate_left
                ·simp only [Act.put, s0_, s1_, s2_, i64_w, i32_w]
                 rfl
                refine take_ (i := 12) (N := some 25) (v := ?_) (a' := ?_) u5_13 rfl rfl (take_ofW HT_.out HW_.out (by kernel_rfl)) (fun _ _ _ h => h) (Or.inl ⟨by rfl, ?_⟩) hHeld ?_ ?_
                rotate_left
                ·rintro w' ⟨s0, s1, s2, s3, s4, s5⟩
                 go_simp
                 with_reducible rfl
                rotate_left
                ·simp only [Act.put, s0_, s1_, s2_, i64_w, i32_w]
                 rfl
                refine one_ (i := 13) (N := some 26) u5_14 rfl rfl (one_of HT_.out (by kernel_rfl)) (by decide) (fun K hK => ?_)
                refine goes_ Try.func19 (by kernel_rfl) rfl #[.agg #[.int .i64 ((rd_T37 x3_1 x5_2).f0), .int .u8 ((rd_T37 x3_1 x5_2).f1), .bool ((rd_T37 x3_1 x5_2).f2)], .agg #[.int .i64 ((rd_T37 l0 x4_1).f0), .int .u8 ((rd_T37 l0 x4_1).f1), .bool ((rd_T37 l0 x4_1).f2)]] (by rfl) rfl rfl (by (try simp only [List.map_toArray, List.map_cons, List.map_nil]); first | done | rfl | (simp only [List.length_drop, List.length_take]; rfl)) ?_
                with_reducible refine (clepsydraref20_Less.calls ((rd_T37 x3_1 x5_2).f0) ((rd_T37 x3_1 x5_2).f1) ((rd_T37 x3_1 x5_2).f2) ((rd_T37 l0 x4_1).f0) ((rd_T37 l0 x4_1).f1) ((rd_T37 l0 x4_1).f2) false _ A7.out).mono ?_
                rintro e w22 ⟨rfl, hb⟩
                have HS0_ := (hb.cell (World.block_lt_of_cell? _ _ (hHeld.1))).trans (hHeld.1)
                have HS1_ := (hb.cell (World.block_lt_of_cell? _ _ (hHeld.2.1))).trans (hHeld.2.1)
                have HS2_ := (hb.cell (World.block_lt_of_cell? _ _ (hHeld.2.2.1))).trans (hHeld.2.2.1)
                refine ⟨_, rfl, ?_⟩
                have n0_ := Aside0.mk (Kd.R_below (by (with_reducible repeat (first | apply Kd.R_alloc | apply Kd.R_drewN | apply Kd.R_drew)); exact HO_3.out) hb)
                have n1_ := Aside0.mk (below_step (by repeat (first | (with_reducible first | exact HB.out | apply below_alloc | apply pw_below_drewN | apply below_drew1) | exact HB.out)) hb)
                clear HO_3
                clear HB
                have HO_3 := n0_
                have HB := n1_
                clear n0_ n1_
                (try clear hb)
                (try clear hb2)
                (try clear hk)
                (try clear hi)
                refine hK.out _ _ ⟨HS0_, HS1_, HS2_, ((HB.out.cell (World.block_lt_of_cell? w _ hw140_0)).trans hw140_0), ((HB.out.cell (World.block_lt_of_cell? w _ hw140_1)).trans hw140_1), ((HB.out.cell (World.block_lt_of_cell? w _ hw140_2)).trans hw140_2)⟩ (fun hHeld => ?_)
                clear hK K
                refine norm_ (a' := ?_) ?_ ?_
                rotate_left
                ·show Act.put _ (some 26) _ = _
                 simp only [Act.put, s0_, s1_, s2_, i64_w, i32_w]
                 rfl
                refine pure_ (i := 14) (N := some 27) (v := ?_) (a' := ?_) u5_15 rfl rfl (any_of HT_.out (by kernel_rfl)) (fun _ _ _ h => h) (Or.inl ⟨by rfl, ?_⟩) ?_ ?_
                rotate_left
                ·intro w'
                 go_simp
                 with_reducible rfl
                rotate_left
                ·simp only [Act.put, s0_, s1_, s2_, i64_w, i32_w]
                 rfl
                refine done_ (done_of HT_.out (by kernel_rfl)) ?_
                try go_wp2
                have n0_ := Aside0.mk (Kd.R_drew HO_3.out)
                have n1_ := Aside0.mk (below_drew1 HB.out)
                clear HO_3
                clear HB
                have HO_3 := n0_
                have HB := n1_
                clear n0_ n1_
                have p142 : 0 ≤ (x4_1 : Int) := of_decide_eq_true (by first | (with_reducible assumption) | assumption)
                have q142 : x4_1 < (l0.length : Int) := of_decide_eq_true (by first | (with_reducible assumption) | assumption)
                obtain ⟨ad142, e142, hx142_0, hx142_1, hx142_2⟩ := at_T37 HR0.out x4_1 p142 q142
                have hw142_2 := hx142_2
                have hw142_1 := hx142_1
                have hw142_0 := hx142_0
                obtain rfl : ad140 = ad142 := (by injection e142)
                replace hx142_0 := (HB.out.cell (World.block_lt_of_cell? w _ hx142_0)).trans hx142_0
                replace hx142_1 := (HB.out.cell (World.block_lt_of_cell? w _ hx142_1)).trans hx142_1
                replace hx142_2 := (HB.out.cell (World.block_lt_of_cell? w _ hx142_2)).trans hx142_2
                replace p142 := eq_true p142
                replace q142 := eq_true q142
                have p143 : 0 ≤ (x5_2 : Int) := of_decide_eq_true (by first | (with_reducible assumption) | assumption)
                have q143 : x5_2 < (x3_1.length : Int) := of_decide_eq_true (by first | (with_reducible assumption) | assumption)
                obtain ⟨ad143, e143, hx143_0, hx143_1, hx143_2⟩ := at_T37 (Kd.R_reads' HO_3.out).2.2 x5_2 p143 q143
                obtain rfl : ad139 = ad143 := (by injection e143)
                replace p143 := eq_true p143
                replace q143 := eq_true q143
                refine start_ (n := 16) (S := fun w' => w'.cell? (ad140.add ((x4_1).toNat * 3)) = some (.int .i64 ((rd_T37 l0 x4_1).f0)) ∧ w'.cell? ⟨(ad140.add ((x4_1).toNat * 3)).block, (ad140.add ((x4_1).toNat * 3)).off + 1, none⟩ = some (.int .u8 ((rd_T37 l0 x4_1).f1)) ∧ w'.cell? ⟨(ad140.add ((x4_1).toNat * 3)).block, (ad140.add ((x4_1).toNat * 3)).off + 2, none⟩ = some (.bool ((rd_T37 l0 x4_1).f2)) ∧ w'.cell? (ad139.add ((x5_2).toNat * 3)) = some (.int .i64 ((rd_T37 x3_1 x5_2).f0)) ∧ w'.cell? ⟨(ad139.add ((x5_2).toNat * 3)).block, (ad139.add ((x5_2).toNat * 3)).off + 1, none⟩ = some (.int .u8 ((rd_T37 x3_1 x5_2).f1)) ∧ w'.cell? ⟨(ad139.add ((x5_2).toNat * 3)).block, (ad139.add ((x5_2).toNat * 3)).off + 2, none⟩ = some (.bool ((rd_T37 x3_1 x5_2).f2))) (ds := []) u5_16 (by kernel_rfl) rfl rfl ⟨((HB.out.cell (World.block_lt_of_cell? w _ hw142_0)).trans hw142_0), ((HB.out.cell (World.block_lt_of_cell? w _ hw142_1)).trans hw142_1), ((HB.out.cell (World.block_lt_of_cell? w _ hw142_2)).trans hw142_2), hx143_0, hx143_1, hx143_2⟩ (fun hHeld => ?_); refine with_tabW clepsydraref20_Sorted.tab8 clepsydraref20_Sorted.bits8 (fun HT_ HW_ => ?_)
                generalize w22.drew = w23 at HO_3 HB hx142_0 hx142_1 hx142_2 hx143_0 hx143_1 hx143_2 hHeld ⊢
                refine pure_ (i := 0) (N := some 30) (v := ?_) (a' := ?_) u5_17 rfl rfl (any_of HT_.out (by kernel_rfl)) (fun _ _ _ h => h) (Or.inl ⟨by rfl, ?_⟩) ?_ ?_
                rotate_left
                ·intro w'
                 go_simp
                 with_reducible rfl
                rotate_left
                ·simp only [Act.put, s0_, s1_, s2_, i64_w, i32_w]
                 rfl
                refine pure_ (i := 1) (N := some 31) (v := ?_) (a' := ?_) u5_18 rfl rfl (any_of HT_.out (by kernel_rfl)) (fun _ _ _ h => h) (Or.inl ⟨by rfl, ?_⟩) ?_ ?_
                rotate_left
                ·intro w'
                 go_simp
                 with_reducible rfl
                rotate_left
                ·simp only [Act.put, s0_, s1_, s2_, i64_w, i32_w]
                 rfl
                refine pure_ (i := 2) (N := some 32) (v := ?_) (a' := ?_) u5_19 rfl rfl (any_of HT_.out (by kernel_rfl)) (fun _ _ _ h => h) (Or.inl ⟨by rfl, ?_⟩) ?_ ?_
                rotate_left
                ·intro w'
                 go_simp
                 with_reducible rfl
                rotate_left
                ·simp only [Act.put, s0_, s1_, s2_, i64_w, i32_w]
                 rfl
                refine pure_ (i := 3) (N := some 33) (v := ?_) (a' := ?_) u5_20 rfl rfl (any_of HT_.out (by kernel_rfl)) (fun _ _ _ h => h) (Or.inl ⟨by rfl, ?_⟩) ?_ ?_
                rotate_left
                ·intro w'
                 go_simp
                 with_reducible rfl
                rotate_left
                ·simp only [Act.put, s0_, s1_, s2_, i64_w, i32_w]
                 rfl
                refine pure_ (i := 4) (N := some 34) (v := ?_) (a' := ?_) u5_21 rfl rfl (any_of HT_.out (by kernel_rfl)) (fun _ _ _ h => h) (Or.inl ⟨by rfl, ?_⟩) ?_ ?_
                rotate_left
                ·intro w'
                 go_simp
                 with_reducible rfl
                rotate_left
                ·simp only [Act.put, s0_, s1_, s2_, i64_w, i32_w]
                 rfl
                refine pure_ (i := 5) (N := some 35) (v := ?_) (a' := ?_) u5_22 rfl rfl (any_of HT_.out (by kernel_rfl)) (fun _ _ _ h => h) (Or.inl ⟨by rfl, ?_⟩) ?_ ?_
                rotate_left
                ·intro w'
                 go_simp
                 with_reducible rfl
                rotate_left
                ·simp only [Act.put, s0_, s1_, s2_, i64_w, i32_w]
                 rfl
                refine pure_ (i := 6) (N := some 36) (v := ?_) (a' := ?_) u5_23 rfl rfl (any_of HT_.out (by kernel_rfl)) (fun _ _ _ h => h) (Or.inl ⟨by rfl, ?_⟩) ?_ ?_
                rotate_left
                ·intro w'
                 go_simp
                 with_reducible rfl
                rotate_left
                ·simp only [Act.put, s0_, s1_, s2_, i64_w, i32_w]
                 rfl
                refine pure_ (i := 7) (N := some 37) (v := ?_) (a' := ?_) u5_24 rfl rfl (any_of HT_.out (by kernel_rfl)) (fun _ _ _ h => h) (Or.inl ⟨by rfl, ?_⟩) ?_ ?_
                rotate_left
                ·intro w'
                 go_simp
                 with_reducible rfl
                rotate_left
                ·simp only [Act.put, s0_, s1_, s2_, i64_w, i32_w]
                 rfl
                refine pure_ (i := 9) (N := some 39) (v := ?_) (a' := ?_) u5_25 rfl rfl (any_of HT_.out (by kernel_rfl)) (fun _ _ _ h => h) (Or.inl ⟨by rfl, ?_⟩) ?_ ?_
                rotate_left
                ·intro w'
                 go_simp
                 with_reducible rfl
                rotate_left
                ·simp only [Act.put, s0_, s1_, s2_, i64_w, i32_w]
                 rfl
                refine pure_ (i := 10) (N := some 40) (v := ?_) (a' := ?_) u5_26 rfl rfl (any_of HT_.out (by kernel_rfl)) (fun _ _ _ h => h) (Or.inl ⟨by rfl, ?_⟩) ?_ ?_
                rotate_left
                ·intro w'
                 go_simp
                 with_reducible rfl
                rotate_left
                ·simp only [Act.put, s0_, s1_, s2_, i64_w, i32_w]
                 rfl
                refine pure_ (i := 11) (N := some 41) (v := ?_) (a' := ?_) u5_27 rfl rfl (any_of HT_.out (by kernel_rfl)) (fun _ _ _ h => h) (Or.inl ⟨by rfl, ?_⟩) ?_ ?_
                rotate_left
                ·intro w'
                 go_simp
                 with_reducible rfl
                rotate_left
                ·simp only [Act.put, s0_, s1_, s2_, i64_w, i32_w]
                 rfl
                refine take_ (i := 8) (N := some 38) (v := ?_) (a' := ?_) u5_28 rfl rfl (take_ofW HT_.out HW_.out (by kernel_rfl)) (fun _ _ _ h => h) (Or.inl ⟨by rfl, ?_⟩) hHeld ?_ ?_
                rotate_left
                ·rintro w' ⟨s0, s1, s2, s3, s4, s5⟩
                 go_simp
                 with_reducible rfl
                rotate_left
                ·simp only [Act.put, s0_, s1_, s2_, i64_w, i32_w]
                 rfl
                refine take_ (i := 12) (N := some 42) (v := ?_) (a' := ?_) u5_29 rfl rfl (take_ofW HT_.out HW_.out (by kernel_rfl)) (fun _ _ _ h => h) (Or.inl ⟨by rfl, ?_⟩) hHeld ?_ ?_
                rotate_left
                ·rintro w' ⟨s0, s1, s2, s3, s4, s5⟩
                 go_simp
                 with_reducible rfl
                rotate_left
                ·simp only [Act.put, s0_, s1_, s2_, i64_w, i32_w]
                 rfl
                refine one_ (i := 13) (N := some 43) u5_30 rfl rfl (one_of HT_.out (by kernel_rfl)) (by decide) (fun K hK => ?_)
                refine goes_ Try.func19 (by kernel_rfl) rfl #[.agg #[.int .i64 ((rd_T37 l0 x4_1).f0), .int .u8 ((rd_T37 l0 x4_1).f1), .bool ((rd_T37 l0 x4_1).f2)], .agg #[.int .i64 ((rd_T37 x3_1 x5_2).f0), .int .u8 ((rd_T37 x3_1 x5_2).f1), .bool ((rd_T37 x3_1 x5_2).f2)]] (by rfl) rfl rfl (by (try simp only [List.map_toArray, List.map_cons, List.map_nil]); first | done | rfl | (simp only [List.length_drop, List.length_take]; rfl)) ?_
                with_reducible refine (clepsydraref20_Less.calls ((rd_T37 l0 x4_1).f0) ((rd_T37 l0 x4_1).f1) ((rd_T37 l0 x4_1).f2) ((rd_T37 x3_1 x5_2).f0) ((rd_T37 x3_1 x5_2).f1) ((rd_T37 x3_1 x5_2).f2) true _ A12.out).mono ?_
                rintro e w24 ⟨rfl, hb⟩
                have HS3_ := (hb.cell (World.block_lt_of_cell? _ _ (hHeld.2.2.2.1))).trans (hHeld.2.2.2.1)
                have HS4_ := (hb.cell (World.block_lt_of_cell? _ _ (hHeld.2.2.2.2.1))).trans (hHeld.2.2.2.2.1)
                have HS5_ := (hb.cell (World.block_lt_of_cell? _ _ (hHeld.2.2.2.2.2))).trans (hHeld.2.2.2.2.2)
                refine ⟨_, rfl, ?_⟩
                have n0_ := Aside0.mk (Kd.R_below (by (with_reducible repeat (first | apply Kd.R_alloc | apply Kd.R_drewN | apply Kd.R_drew)); exact HO_3.out) hb)
                have n1_ := Aside0.mk (below_step (by repeat (first | (with_reducible first | exact HB.out | apply below_alloc | apply pw_below_drewN | apply below_drew1) | exact HB.out)) hb)
                clear HO_3
                clear HB
                have HO_3 := n0_
                have HB := n1_
                clear n0_ n1_
                (try clear hb)
                (try clear hb2)
                (try clear hk)
                (try clear hi)
                refine hK.out _ _ ⟨((HB.out.cell (World.block_lt_of_cell? w _ hw142_0)).trans hw142_0), ((HB.out.cell (World.block_lt_of_cell? w _ hw142_1)).trans hw142_1), ((HB.out.cell (World.block_lt_of_cell? w _ hw142_2)).trans hw142_2), HS3_, HS4_, HS5_⟩ (fun hHeld => ?_)
                clear hK K
                refine norm_ (a' := ?_) ?_ ?_
                rotate_left
                ·show Act.put _ (some 43) _ = _
                 simp only [Act.put, s0_, s1_, s2_, i64_w, i32_w]
                 rfl
                refine pure_ (i := 14) (N := some 44) (v := ?_) (a' := ?_) u5_31 rfl rfl (any_of HT_.out (by kernel_rfl)) (fun _ _ _ h => h) (Or.inl ⟨by rfl, ?_⟩) ?_ ?_
                rotate_left
                ·intro w'
                 go_simp
                 with_reducible rfl
                rotate_left
                ·simp only [Act.put, s0_, s1_, s2_, i64_w, i32_w]
                 rfl
                refine pure_ (i := 15) (N := some 45) (v := ?_) (a' := ?_) u5_32 rfl rfl (any_of HT_.out (by kernel_rfl)) (fun _ _ _ h => h) (Or.inl ⟨by rfl, ?_⟩) ?_ ?_
                rotate_left
                ·intro w'
                 go_simp
                 with_reducible rfl
                rotate_left
                ·simp only [Act.put, s0_, s1_, s2_, i64_w, i32_w]
                 rfl
                refine done_ (done_of HT_.out (by kernel_rfl)) ?_
                have q25 : (x5_2 : Int) ≤ ((x3_1.length : Int) : Int) := of_decide_eq_true (by first | (with_reducible assumption) | assumption)
                obtain ⟨i025, hi025, _, hsz25, _⟩ := info_parts info37
                have hroom25 : x3_1.length ≤ co21 := (Kd.R_reads' HO_3.out).2.1
                have hC25 : Kd.C k37 _ (some ad139) x3_1.length x3_1 := (Kd.R_reads' HO_3.out).2.2
                have q025 : (0 : Int) ≤ (x5_2 : Int) := of_decide_eq_true (by first | (with_reducible assumption) | assumption)
                have hcut25 := cut_from (P := Try.prog) 24 37 .i64 Try.underlying24 hi025 3 hsz25 (some ad139) x3_1.length co21 x5_2 q025 q25
                have hr25 := Kd.C_drop (m := (x5_2 : Int).toNat) (c := co21) hC25 (by omega) hroom25
                obtain ⟨A25, hA25⟩ : ∃ A1, A1 = (if co21 = (x5_2 : Int).toNat then (some ad139) else ((some ad139) : Option Addr).map (·.add ((x5_2 : Int).toNat * 3))) := ⟨_, rfl⟩
                obtain ⟨c25, hc25⟩ : ∃ c1, c1 = co21 - (x5_2 : Int).toNat := ⟨_, rfl⟩
                have hy25 : y145.length = x3_1.length - (x5_2 : Int).toNat := (by rw [Ny145.out, List.length_drop] <;> omega)
                rw [show (x3_1).drop (x5_2 : Int).toNat = y145 from Ny145.out.symm] at hr25
                replace hr25 : Kd.C k37 _ A25 y145.length y145 := (by rw [hA25]; exact hr25)
                rw [← hy25, ← hA25, ← hc25] at hcut25
                have HR148 := Aside0.mk hr25
                have HC148 := Aside0.mk (show y145.length ≤ c25 from by rw [hy25, hc25]; exact Nat.sub_le_sub_right hroom25 _)
                clear hr25 hC25 hroom25 hi025 hsz25 hc25
                have KY25 := Aside0.mk hy25
                have KA25 := Aside0.mk hA25
                clear hy25 hA25
                have KL25 := Aside0.mk (show (x5_2 : Int).toNat ≤ x3_1.length from by omega)
                replace q25 := eq_true q25
                try go_wp2_with (first | ((with_reducible refine gate_builtin (b := .append) (xs := #[.tmp 62, .tmp 65]) rfl ?_); at_builtin; refine Kd.R_append_rows k37 (w0 := w) w.heap.size rfl (.tmp 62) (.tmp 65) 24 37 (.agg #[(.int .i64 0), (.int .u8 0), (.bool false)]) 16 rfl Try.underlying24 info37 rfl (by decide) (by omega) (.slice none 0 0) ([] : List (S37)) y145 _ _ _ (fun k_ => some k_ ≠ (.slice (some ad139) x3_1.length co21 : Value).ownBlock) (fun _ => False) rfl rfl ?aO ?aR (fun _ _ h => h) (fun _ h => h.elim) ?aF ?aB ?aS ?aL ?_; (case aR => repeat (first | exact (by repeat (first | (with_reducible exact HR148.out) | (with_reducible refine Kd.C_alloc ?_ _) | (with_reducible refine Kd.C_drewN ?_ _) | (with_reducible refine Kd.C_drew ?_) | exact HR148.out)) | (with_reducible refine Kd.C_alloc ?_ _) | (with_reducible refine Kd.C_drewN ?_ _) | (with_reducible refine Kd.C_drew ?_))); (case aB => exact (by repeat (first | (with_reducible first | exact HB.out | apply below_alloc | apply pw_below_drewN | apply below_drew1) | exact HB.out))); (case aF => exact (fun k_ hk => Kd.fresh' (Kd.R_lt (by (with_reducible repeat (first | apply Kd.R_alloc | apply Kd.R_drewN | apply Kd.R_drew)); exact HO_3.out)) k_ hk)); (case aO => exact ((Kd.R_nil _ _ _ _ (fun k_ => some k_ ≠ (.slice (some ad139) x3_1.length co21 : Value).ownBlock)))); (case aS => exact (below_size (by repeat (first | (with_reducible first | exact HB.out | apply below_alloc | apply pw_below_drewN | apply below_drew1) | exact HB.out)))); (case aL => have := LMc16.out; omega); intro v150 w26 ho hb hg hat; rw [← Ny149.out] at ho; have n0_ := Aside0.mk (Kd.R_after (Kd.R_apart_nil (by (with_reducible repeat (first | apply Kd.R_alloc | apply Kd.R_drewN | apply Kd.R_drew)); exact HO_3.out)) hg hat); have n1_ := Aside0.mk (hb); have n2_ := Aside0.mk ((show Kd.C k37 w26 A25 y145.length y145 from by rw [Ny145.out, KA25.out]; exact Kd.C_drop (m := (x5_2 : Int).toNat) (c := co21) ((Kd.R_reads' (Kd.R_after (Kd.R_apart_nil (by (with_reducible repeat (first | apply Kd.R_alloc | apply Kd.R_drewN | apply Kd.R_drew)); exact HO_3.out)) hg hat)).2.2) KL25.out ((Kd.R_reads' (Kd.R_after (Kd.R_apart_nil (by (with_reducible repeat (first | apply Kd.R_alloc | apply Kd.R_drewN | apply Kd.R_drew)); exact HO_3.out)) hg hat)).2.1))); have n3_ := Aside0.mk (ho); clear HO_3; clear HB; clear HR148; have HO_3 := n0_; have HB := n1_; have HR148 := n2_; have HO151 := n3_; clear n0_ n1_ n2_ n3_; clear ho hb hg hat))
                have n0_ := Aside0.mk (Kd.R_drew HO_3.out)
                have n1_ := Aside0.mk (Kd.R_drew HO151.out)
                have n2_ := Aside0.mk (Kd.C_drew HR148.out)
                have n3_ := Aside0.mk (below_drew1 HB.out)
                clear HO_3
                clear HO151
                clear HR148
                clear HB
                have HO_3 := n0_
                have HO151 := n1_
                have HR148 := n2_
                have HB := n3_
                clear n0_ n1_ n2_ n3_
                have q28 : (x5_2 : Int) ≤ ((x3_1.length : Int) : Int) := of_decide_eq_true (by first | (with_reducible assumption) | assumption)
                obtain ⟨i028, hi028, _, hsz28, _⟩ := info_parts info37
                have hcut28 := cut_to (P := Try.prog) 24 37 .i64 Try.underlying24 hi028 (some ad139) x3_1.length co21 x5_2 (of_decide_eq_true (by first | (with_reducible assumption) | assumption)) q28 (Kd.R_reads' HO_3.out).2.1
                have hr28 := Kd.R_take (m := (x5_2 : Int).toNat) HO_3.out (by omega)
                have hy28 : y152.length = (x5_2 : Int).toNat := (by rw [Ny152.out, List.length_take]; omega)
                rw [← Ny152.out] at hr28
                rw [← hy28] at hr28 hcut28
                clear hy28 hi028 hsz28 HO_3
                have HO154 := Aside0.mk hr28
                clear hr28
                replace q28 := eq_true q28
                have p155 : 0 ≤ (x4_1 : Int) := of_decide_eq_true (by first | (with_reducible assumption) | assumption)
                have q155 : x4_1 < (l0.length : Int) := of_decide_eq_true (by first | (with_reducible assumption) | assumption)
                obtain ⟨ad155, e155, hx155_0, hx155_1, hx155_2⟩ := at_T37 HR0.out x4_1 p155 q155
                have hw155_2 := hx155_2
                have hw155_1 := hx155_1
                have hw155_0 := hx155_0
                obtain rfl : ad140 = ad155 := (by injection e155)
                replace hx155_0 := (HB.out.cell (World.block_lt_of_cell? w _ hx155_0)).trans hx155_0
                replace hx155_1 := (HB.out.cell (World.block_lt_of_cell? w _ hx155_1)).trans hx155_1
                replace hx155_2 := (HB.out.cell (World.block_lt_of_cell? w _ hx155_2)).trans hx155_2
                replace p155 := eq_true p155
                replace q155 := eq_true q155
                refine start_ (n := 12) (S := fun w' => w'.cell? (ad140.add ((x4_1).toNat * 3)) = some (.int .i64 ((rd_T37 l0 x4_1).f0)) ∧ w'.cell? ⟨(ad140.add ((x4_1).toNat * 3)).block, (ad140.add ((x4_1).toNat * 3)).off + 1, none⟩ = some (.int .u8 ((rd_T37 l0 x4_1).f1)) ∧ w'.cell? ⟨(ad140.add ((x4_1).toNat * 3)).block, (ad140.add ((x4_1).toNat * 3)).off + 2, none⟩ = some (.bool ((rd_T37 l0 x4_1).f2))) (ds := []) u5_33 (by kernel_rfl) rfl rfl ⟨((HB.out.cell (World.block_lt_of_cell? w _ hw155_0)).trans hw155_0), ((HB.out.cell (World.block_lt_of_cell? w _ hw155_1)).trans hw155_1), ((HB.out.cell (World.block_lt_of_cell? w _ hw155_2)).trans hw155_2)⟩ (fun hHeld => ?_); refine with_tabW clepsydraref20_Sorted.tab12 clepsydraref20_Sorted.bits12 (fun HT_ HW_ => ?_)
                generalize w26.drew = w27 at HO_3 HO151 HR148 HB HO154 hx155_0 hx155_1 hx155_2 hHeld ⊢
                refine pure_ (i := 0) (N := some 67) (v := ?_) (a' := ?_) u5_34 rfl rfl (any_of HT_.out (by kernel_rfl)) (fun _ _ _ h => h) (Or.inl ⟨by rfl, ?_⟩) ?_ ?_
                rotate_left
                ·intro w'
                 go_simp
                 with_reducible rfl
                rotate_left
                ·simp only [Act.put, s0_, s1_, s2_, i64_w, i32_w]
                 rfl
                refine pure_ (i := 1) (N := some 68) (v := ?_) (a' := ?_) u5_35 rfl rfl (any_of HT_.out (by kernel_rfl)) (fun _ _ _ h => h) (Or.inl ⟨by rfl, ?_⟩) ?_ ?_
                rotate_left
                ·intro w'
                 go_simp
                 with_reducible rfl
                rotate_left
                ·simp only [Act.put, s0_, s1_, s2_, i64_w, i32_w]
                 rfl
                refine pure_ (i := 2) (N := some 69) (v := ?_) (a' := ?_) u5_36 rfl rfl (any_of HT_.out (by kernel_rfl)) (fun _ _ _ h => h) (Or.inl ⟨by rfl, ?_⟩) ?_ ?_
                rotate_left
                ·intro w'
                 go_simp
                 with_reducible rfl
                rotate_left
                ·simp only [Act.put, s0_, s1_, s2_, i64_w, i32_w]
                 rfl
                refine pure_ (i := 3) (N := some 70) (v := ?_) (a' := ?_) u5_37 rfl rfl (any_of HT_.out (by kernel_rfl)) (fun _ _ _ h => h) (Or.inl ⟨by rfl, ?_⟩) ?_ ?_
                rotate_left
                ·intro w'
                 go_simp
                 with_reducible rfl
                rotate_left
                ·simp only [Act.put, s0_, s1_, s2_, i64_w, i32_w]
                 rfl
                refine pure_ (i := 4) (N := some 71) (v := ?_) (a' := ?_) u5_38 rfl rfl (any_of HT_.out (by kernel_rfl)) (fun _ _ _ h => h) (Or.inl ⟨by rfl, ?_⟩) ?_ ?_
                rotate_left
                ·intro w'
                 go_simp
                 with_reducible rfl
                rotate_left
                ·simp only [Act.put, s0_, s1_, s2_, i64_w, i32_w]
                 rfl
                refine pure_ (i := 5) (N := some 72) (v := ?_) (a' := ?_) u5_39 rfl rfl (any_of HT_.out (by kernel_rfl)) (fun _ _ _ h => h) (Or.inl ⟨by rfl, ?_⟩) ?_ ?_
                rotate_left
                ·intro w'
                 go_simp
                 with_reducible rfl
                rotate_left
                ·simp only [Act.put, s0_, s1_, s2_, i64_w, i32_w]
                 rfl
                refine pure_ (i := 9) (N := some 76) (v := ?_) (a' := ?_) u5_40 rfl rfl (any_of HT_.out (by kernel_rfl)) (fun _ _ _ h => h) (Or.inl ⟨by rfl, ?_⟩) ?_ ?_
                rotate_left
                ·intro w'
                 go_simp
                 with_reducible rfl
                rotate_left
                ·simp only [Act.put, s0_, s1_, s2_, i64_w, i32_w]
                 rfl
                refine take_ (i := 6) (N := some 73) (v := ?_) (a' := ?_) u5_41 rfl rfl (take_ofW HT_.out HW_.out (by kernel_rfl)) (fun _ _ _ h => h) (Or.inl ⟨by rfl, ?_⟩) hHeld ?_ ?_
                rotate_left
                ·rintro w' ⟨s0, s1, s2⟩
                 go_simp
                 with_reducible rfl
                rotate_left
                ·simp only [Act.put, s0_, s1_, s2_, i64_w, i32_w]
                 rfl
                refine one_ (i := 7) (N := some 74) u5_42 rfl rfl (one_of HT_.out (by kernel_rfl)) (by decide) (fun K hK => ?_)
                refine value_ (w1 := ?_) (v := ?_) (by rfl) rfl ?_ ?_
                rotate_left 2
                ·go_simp
                 constructor
                 ·rfl
                 ·rfl
                refine hK.out _ _ ⟨(World.cell?_alloc_lt _ _ _ (World.block_lt_of_cell? _ _ (((HB.out.cell (World.block_lt_of_cell? w _ hw155_0)).trans hw155_0)))).trans (((HB.out.cell (World.block_lt_of_cell? w _ hw155_0)).trans hw155_0)), (World.cell?_alloc_lt _ _ _ (World.block_lt_of_cell? _ _ (((HB.out.cell (World.block_lt_of_cell? w _ hw155_1)).trans hw155_1)))).trans (((HB.out.cell (World.block_lt_of_cell? w _ hw155_1)).trans hw155_1)), (World.cell?_alloc_lt _ _ _ (World.block_lt_of_cell? _ _ (((HB.out.cell (World.block_lt_of_cell? w _ hw155_2)).trans hw155_2)))).trans (((HB.out.cell (World.block_lt_of_cell? w _ hw155_2)).trans hw155_2))⟩ (fun hHeld => ?_)
                clear hK K
                refine norm_ (a' := ?_) ?_ ?_
                rotate_left
                ·show Act.put _ (some 74) _ = _
                 simp only [Act.put, s0_, s1_, s2_, i64_w, i32_w]
                 rfl
                refine one_ (i := 8) (N := some 75) u5_43 rfl rfl (one_of HT_.out (by kernel_rfl)) (by decide) (fun K hK => ?_)
                refine Kd.R_append_step k37 (w0 := w) w.heap.size (by rfl) (.tmp 69) (.tmp 74) 24 37 (.agg #[(.int .i64 0), (.int .u8 0), (.bool false)]) 16 rfl Try.underlying24 info37 rfl (by decide) (by omega) (.slice (some ad139) y152.length co21) y152 (⟨(rd_T37 l0 x4_1).f0, (rd_T37 l0 x4_1).f1, (rd_T37 l0 x4_1).f2⟩ : S37) [.int .i64 ((rd_T37 l0 x4_1).f0), .int .u8 ((rd_T37 l0 x4_1).f1), .bool ((rd_T37 l0 x4_1).f2)] (fun k_ => some k_ ≠ (v150 : Value).ownBlock) (fun _ => False) rfl rfl ?aP (fun _ hk => hk.elim) ?aF ?aO ?aB ?aS ?aL ?_
                (case aP => exact k37_mkM _ _ _ (⟨(rd_T37 l0 x4_1).f0, (rd_T37 l0 x4_1).f1, (rd_T37 l0 x4_1).f2⟩ : S37))
                (case aB => exact (by repeat (first | (with_reducible first | exact HB.out | apply below_alloc | apply pw_below_drewN | apply below_drew1) | exact HB.out)))
                (case aF => exact (fun k_ hk => Kd.fresh' (Kd.R_lt (by (with_reducible repeat (first | apply Kd.R_alloc | apply Kd.R_drewN | apply Kd.R_drew)); exact HO151.out)) k_ hk))
                (case aO => exact (by (with_reducible repeat (first | apply Kd.R_alloc | apply Kd.R_drewN | apply Kd.R_drew)); exact Kd.R_mono HO154.out (fun _ hk => hk.2)))
                (case aS => exact (below_size (by repeat (first | (with_reducible first | exact HB.out | apply below_alloc | apply pw_below_drewN | apply below_drew1) | exact HB.out))))
                (case aL => have := LMc18.out; omega)
                intro v157 w29 ho hb hg hat
                rw [← Ny156.out] at ho
                have n0_ := Aside0.mk (Kd.R_after (ok := (fun _ => True)) (by (with_reducible repeat (first | apply Kd.R_alloc | apply Kd.R_drewN | apply Kd.R_drew)); exact Kd.R_mono HO151.out (fun _ hk => ⟨trivial, hk⟩)) hg hat)
                have n1_ := Aside0.mk (hb)
                have n2_ := Aside0.mk (ho)
                clear HO151
                clear HB
                clear HO154
                have HO151 := n0_
                have HB := n1_
                have HO158 := n2_
                clear n0_ n1_ n2_
                clear ho hb hg hat
                obtain ⟨Ao31, co31, eo31⟩ := Kd.R_slice HO151.out
                (first | subst eo31 | (injection eo31 with f1_ f2_ f3_; have f4_ := f1_.symm; have f5_ := f3_.symm; clear f1_ f2_ f3_; subst f4_; subst f5_))
                refine hK.out _ _ ⟨((HB.out.cell (World.block_lt_of_cell? w _ hw155_0)).trans hw155_0), ((HB.out.cell (World.block_lt_of_cell? w _ hw155_1)).trans hw155_1), ((HB.out.cell (World.block_lt_of_cell? w _ hw155_2)).trans hw155_2)⟩ (fun hHeld => ?_)
                clear hK K
                refine norm_ (a' := ?_) ?_ ?_
                rotate_left
                ·show Act.put _ (some 75) _ = _
                 simp only [Act.put, s0_, s1_, s2_, i64_w, i32_w]
                 rfl
                refine one_ (i := 10) (N := some 77) u5_44 rfl rfl (one_of HT_.out (by kernel_rfl)) (by decide) (fun K hK => ?_)
                refine Kd.R_append_rows_step k37 (w0 := w) w.heap.size (by rfl) (.tmp 75) (.tmp 76) 24 37 (.agg #[(.int .i64 0), (.int .u8 0), (.bool false)]) 16 rfl Try.underlying24 info37 rfl (by decide) (by omega) v157 y156 y149 _ _ _ (fun k_ => some k_ ≠ (.slice Ao31 y149.length co31 : Value).ownBlock) (fun _ => False) rfl rfl ?aO ?aR (fun _ _ h => h) (fun _ h => h.elim) ?aF ?aB ?aS ?aL ?_
                (case aR => repeat (first | exact (Kd.R_reads' HO151.out).2.2 | (with_reducible refine Kd.C_alloc ?_ _) | (with_reducible refine Kd.C_drewN ?_ _) | (with_reducible refine Kd.C_drew ?_)))
                (case aB => exact (by repeat (first | (with_reducible first | exact HB.out | apply below_alloc | apply pw_below_drewN | apply below_drew1) | exact HB.out)))
                (case aF => exact (fun k_ hk => Kd.fresh' (Kd.R_lt (by (with_reducible repeat (first | apply Kd.R_alloc | apply Kd.R_drewN | apply Kd.R_drew)); exact HO151.out)) k_ hk))
                (case aO => exact (by (with_reducible repeat (first | apply Kd.R_alloc | apply Kd.R_drewN | apply Kd.R_drew)); exact HO158.out))
                (case aS => exact (below_size (by repeat (first | (with_reducible first | exact HB.out | apply below_alloc | apply pw_below_drewN | apply below_drew1) | exact HB.out))))
                (case aL => have := LMc19.out; omega)
                intro v160 w30 ho hb hg hat
                rw [← Ny159.out] at ho
                have n0_ := Aside0.mk (Kd.R_after (ok := (fun _ => True)) (by (with_reducible repeat (first | apply Kd.R_alloc | apply Kd.R_drewN | apply Kd.R_drew)); exact HO151.out) hg hat)
                have n1_ := Aside0.mk (hb)
                have n2_ := Aside0.mk (ho)
                clear HO151
                clear HB
                clear HO158
                have HO151 := n0_
                have HB := n1_
                have HO161 := n2_
                clear n0_ n1_ n2_
                clear ho hb hg hat
                refine hK.out _ _ ⟨((HB.out.cell (World.block_lt_of_cell? w _ hw155_0)).trans hw155_0), ((HB.out.cell (World.block_lt_of_cell? w _ hw155_1)).trans hw155_1), ((HB.out.cell (World.block_lt_of_cell? w _ hw155_2)).trans hw155_2)⟩ (fun hHeld => ?_)
                clear hK K
                refine norm_ (a' := ?_) ?_ ?_
                rotate_left
                ·show Act.put _ (some 77) _ = _
                 simp only [Act.put, s0_, s1_, s2_, i64_w, i32_w]
                 rfl
                refine pure_ (i := 11) (N := some 3) (v := ?_) (a' := ?_) u5_45 rfl rfl (any_of HT_.out (by kernel_rfl)) (fun _ _ _ h => h) (Or.inl ⟨by rfl, ?_⟩) ?_ ?_
                rotate_left
                ·intro w'
                 go_simp
                 with_reducible rfl
                rotate_left
                ·simp only [Act.put, s0_, s1_, s2_, i64_w, i32_w]
                 rfl
                refine done_ (done_of HT_.out (by kernel_rfl)) ?_
                try go_wp2
                go_roundg k2
                case measure => have := HK1.out; have := HK2.out; omega
                case rel => exact ⟨(y159), (wrap64 (x4_1 + 1)), (by first | rfl | (simp; done) | (simp [*]; done)), H', ⟨by have := HK1.out; have := HK2.out; omega⟩, ⟨by (with_reducible repeat (first | apply Kd.R_alloc | apply Kd.R_drewN | apply Kd.R_drew)); exact Kd.R_mono HO161.out (fun _ hk => trivial)⟩, ⟨by repeat (first | (with_reducible first | exact HB.out | apply below_alloc | apply pw_below_drewN | apply below_drew1) | exact HB.out)⟩⟩
               ·rw [if_neg c19] at H
                exact absurd H (by simp)
              ·rw [if_neg c18] at H
               exact absurd H (by simp)
             ·rw [if_neg c16] at H
              exact absurd H (by simp)
            ·rw [if_neg c15] at H
             exact absurd H (by simp)
           ·replace c13 := Bool.eq_false_iff.mpr c13
            subst c13
            have H1 : (if (rd_T37 x3_1 x5_2).f2 = true then (clepsydraref20_Sorted.l0 k2 l0 (x3_1.set (x5_2 : Int).toNat (⟨(rd_T37 x3_1 x5_2).f0, (rd_T37 x3_1 x5_2).f1, true⟩ : S37)) (wrap64 (x4_1 + 1))) else (clepsydraref20_Sorted.l0 k2 l0 (x3_1.set (x5_2 : Int).toNat (⟨(rd_T37 x3_1 x5_2).f0, (rd_T37 x3_1 x5_2).f1, (rd_T37 l0 x4_1).f2⟩ : S37)) (wrap64 (x4_1 + 1)))) = some r := by rw [if_neg (show ¬ (false = true) by decide)] at H; exact H
            clear H
            have H := H1
            clear H1
            obtain ⟨bq32, hbq32⟩ : ∃ b_ : Bool, b_ = ((rd_T37 x3_1 x5_2).f2) := ⟨_, rfl⟩
            replace H : (if bq32 = true then (clepsydraref20_Sorted.l0 k2 l0 (x3_1.set (x5_2 : Int).toNat (⟨(rd_T37 x3_1 x5_2).f0, (rd_T37 x3_1 x5_2).f1, true⟩ : S37)) (wrap64 (x4_1 + 1))) else (clepsydraref20_Sorted.l0 k2 l0 (x3_1.set (x5_2 : Int).toNat (⟨(rd_T37 x3_1 x5_2).f0, (rd_T37 x3_1 x5_2).f1, (rd_T37 l0 x4_1).f2⟩ : S37)) (wrap64 (x4_1 + 1)))) = some r := by rw [← hbq32] at H; exact H
            have Nbq32 := Aside0.mk hbq32
            clear hbq32
            by_cases c33 : bq32 = true
            ·subst c33
             have H1 : (clepsydraref20_Sorted.l0 k2 l0 (x3_1.set (x5_2 : Int).toNat (⟨(rd_T37 x3_1 x5_2).f0, (rd_T37 x3_1 x5_2).f1, true⟩ : S37)) (wrap64 (x4_1 + 1))) = some r := by rw [if_pos rfl] at H; exact H
             clear H
             have H := H1
             clear H1
             obtain ⟨y163, hy163⟩ : ∃ y_ : List (S37), y_ = (x3_1.set (x5_2 : Int).toNat (⟨(rd_T37 x3_1 x5_2).f0, (rd_T37 x3_1 x5_2).f1, true⟩ : S37)) := ⟨_, rfl⟩
             replace H : (clepsydraref20_Sorted.l0 k2 l0 y163 (wrap64 (x4_1 + 1))) = some r := by first | (rw [hy163]; with_reducible exact H) | (have H2_ := (Option.bind_some _ _).symm.trans H; rw [hy163]; with_reducible exact H2_) | (have H2_ := (Option.bind_some _ _).symm.trans H; with_reducible exact H2_) | with_reducible exact H | (rw [hy163]; exact H) | exact H
             have Ny163 := Aside0.mk hy163
             clear hy163
             have H' := Aside0.mk H
             clear H
             try go_wp2
             have n0_ := Aside0.mk (Kd.R_drew HO_3.out)
             have n1_ := Aside0.mk (below_drew1 HB.out)
             clear HO_3
             clear HB
             have HO_3 := n0_
             have HB := n1_
             clear n0_ n1_
             obtain ⟨Ao36, co36, eo36⟩ := Kd.R_slice HO_3.out
             (first | subst eo36 | (injection eo36 with f1_ f2_ f3_; have f4_ := f1_.symm; have f5_ := f3_.symm; clear f1_ f2_ f3_; subst f4_; subst f5_))
             have p139 : 0 ≤ (x5_2 : Int) := of_decide_eq_true (by first | (with_reducible assumption) | assumption)
             have q139 : x5_2 < (x3_1.length : Int) := of_decide_eq_true (by first | (with_reducible assumption) | assumption)
             obtain ⟨ad139, e139, hx139_0, hx139_1, hx139_2⟩ := at_T37 (Kd.R_reads' HO_3.out).2.2 x5_2 p139 q139
             (try rw [← Nbq32.out] at hx139_2)
             cases e139
             replace p139 := eq_true p139
             replace q139 := eq_true q139
             have p140 : 0 ≤ (x4_1 : Int) := of_decide_eq_true (by first | (with_reducible assumption) | assumption)
             have q140 : x4_1 < (l0.length : Int) := of_decide_eq_true (by first | (with_reducible assumption) | assumption)
             obtain ⟨ad140, e140, hx140_0, hx140_1, hx140_2⟩ := at_T37 HR0.out x4_1 p140 q140
             have hw140_2 := hx140_2
             have hw140_1 := hx140_1
             have hw140_0 := hx140_0
             (try rw [← Nbq32.out] at hx140_2)
             cases e140
             replace hx140_0 := (HB.out.cell (World.block_lt_of_cell? w _ hx140_0)).trans hx140_0
             replace hx140_1 := (HB.out.cell (World.block_lt_of_cell? w _ hx140_1)).trans hx140_1
             replace hx140_2 := (HB.out.cell (World.block_lt_of_cell? w _ hx140_2)).trans hx140_2
             replace p140 := eq_true p140
             replace q140 := eq_true q140
             refine start_ (n := 15) (S := fun w' => w'.cell? (ad139.add ((x5_2).toNat * 3)) = some (.int .i64 ((rd_T37 x3_1 x5_2).f0)) ∧ w'.cell? ⟨(ad139.add ((x5_2).toNat * 3)).block, (ad139.add ((x5_2).toNat * 3)).off + 1, none⟩ = some (.int .u8 ((rd_T37 x3_1 x5_2).f1)) ∧ w'.cell? ⟨(ad139.add ((x5_2).toNat * 3)).block, (ad139.add ((x5_2).toNat * 3)).off + 2, none⟩ = some (.bool true) ∧ w'.cell? (ad140.add ((x4_1).toNat * 3)) = some (.int .i64 ((rd_T37 l0 x4_1).f0)) ∧ w'.cell? ⟨(ad140.add ((x4_1).toNat * 3)).block, (ad140.add ((x4_1).toNat * 3)).off + 1, none⟩ = some (.int .u8 ((rd_T37 l0 x4_1).f1)) ∧ w'.cell? ⟨(ad140.add ((x4_1).toNat * 3)).block, (ad140.add ((x4_1).toNat * 3)).off + 2, none⟩ = some (.bool ((rd_T37 l0 x4_1).f2))) (ds := []) u5_0 (by kernel_rfl) rfl rfl ⟨hx139_0, hx139_1, hx139_2, ((HB.out.cell (World.block_lt_of_cell? w _ hw140_0)).trans hw140_0), ((HB.out.cell (World.block_lt_of_cell? w _ hw140_1)).trans hw140_1), ((HB.out.cell (World.block_lt_of_cell? w _ hw140_2)).trans hw140_2)⟩ (fun hHeld => ?_); refine with_tabW clepsydraref20_Sorted.tab6 clepsydraref20_Sorted.bits6 (fun HT_ HW_ => ?_)
             generalize wr.drew = w35 at HO_3 HB hx139_0 hx139_1 hx139_2 hx140_0 hx140_1 hx140_2 hHeld ⊢
             refine pure_ (i := 0) (N := some 13) (v := ?_) (a' := ?_) u5_1 rfl rfl (any_of HT_.out (by kernel_rfl)) (fun _ _ _ h => h) (Or.inl ⟨by rfl, ?_⟩) ?_ ?_
             rotate_left
             ·intro w'
              go_simp
              with_reducible rfl
             rotate_left
             ·simp only [Act.put, s0_, s1_, s2_, i64_w, i32_w]
              rfl
             refine pure_ (i := 1) (N := some 14) (v := ?_) (a' := ?_) u5_2 rfl rfl (any_of HT_.out (by kernel_rfl)) (fun _ _ _ h => h) (Or.inl ⟨by rfl, ?_⟩) ?_ ?_
             rotate_left
             ·intro w'
              go_simp
              with_reducible rfl
             rotate_left
             ·simp only [Act.put, s0_, s1_, s2_, i64_w, i32_w]
              rfl
             refine pure_ (i := 2) (N := some 15) (v := ?_) (a' := ?_) u5_3 rfl rfl (any_of HT_.out (by kernel_rfl)) (fun _ _ _ h => h) (Or.inl ⟨by rfl, ?_⟩) ?_ ?_
             rotate_left
             ·intro w'
              go_simp
              with_reducible rfl
             rotate_left
             ·simp only [Act.put, s0_, s1_, s2_, i64_w, i32_w]
              rfl
             refine pure_ (i := 3) (N := some 16) (v := ?_) (a' := ?_) u5_4 rfl rfl (any_of HT_.out (by kernel_rfl)) (fun _ _ _ h => h) (Or.inl ⟨by rfl, ?_⟩) ?_ ?_
             rotate_left
             ·intro w'
              go_simp
              with_reducible rfl
             rotate_left
             ·simp only [Act.put, s0_, s1_, s2_, i64_w, i32_w]
              rfl
             refine pure_ (i := 4) (N := some 17) (v := ?_) (a' := ?_) u5_5 rfl rfl (any_of HT_.out (by kernel_rfl)) (fun _ _ _ h => h) (Or.inl ⟨by rfl, ?_⟩) ?_ ?_
             rotate_left
             ·intro w'
              go_simp
              with_reducible rfl
             rotate_left
             ·simp only [Act.put, s0_, s1_, s2_, i64_w, i32_w]
              rfl
             refine pure_ (i := 5) (N := some 18) (v := ?_) (a' := ?_) u5_6 rfl rfl (any_of HT_.out (by kernel_rfl)) (fun _ _ _ h => h) (Or.inl ⟨by rfl, ?_⟩) ?_ ?_
             rotate_left
             ·intro w'
              go_simp
              with_reducible rfl
             rotate_left
             ·simp only [Act.put, s0_, s1_, s2_, i64_w, i32_w]
              rfl
             refine pure_ (i := 6) (N := some 19) (v := ?_) (a' := ?_) u5_7 rfl rfl (any_of HT_.out (by kernel_rfl)) (fun _ _ _ h => h) (Or.inl ⟨by rfl, ?_⟩) ?_ ?_
             rotate_left
             ·intro w'
              go_simp
              with_reducible rfl
             rotate_left
             ·simp only [Act.put, s0_, s1_, s2_, i64_w, i32_w]
              rfl
             refine pure_ (i := 7) (N := some 20) (v := ?_) (a' := ?_) u5_8 rfl rfl (any_of HT_.out (by kernel_rfl)) (fun _ _ _ h => h) (Or.inl ⟨by rfl, ?_⟩) ?_ ?_
             rotate_left
             ·intro w'
              go_simp
              with_reducible rfl
             rotate_left
             ·simp only [Act.put, s0_, s1_, s2_, i64_w, i32_w]
              rfl
             refine pure_ (i := 9) (N := some 22) (v := ?_) (a' := ?_) u5_9 rfl rfl (any_of HT_.out (by kernel_rfl)) (fun _ _ _ h => h) (Or.inl ⟨by rfl, ?_⟩) ?_ ?_
             rotate_left
             ·intro w'
              go_simp
              with_reducible rfl
             rotate_left
             ·simp only [Act.put, s0_, s1_, s2_, i64_w, i32_w]
              rfl
             refine pure_ (i := 10) (N := some 23) (v := ?_) (a' := ?_) u5_10 rfl rfl (any_of HT_.out (by kernel_rfl)) (fun _ _ _ h => h) (Or.inl ⟨by rfl, ?_⟩) ?_ ?_
             rotate_left
             ·intro w'
              go_simp
              with_reducible rfl
             rotate_left
             ·simp only [Act.put, s0_, s1_, s2_, i64_w, i32_w]
              rfl
             refine pure_ (i := 11) (N := some 24) (v := ?_) (a' := ?_) u5_11 rfl rfl (any_of HT_.out (by kernel_rfl)) (fun _ _ _ h => h) (Or.inl ⟨by rfl, ?_⟩) ?_ ?_
             rotate_left
             ·intro w'
              go_simp
              with_reducible rfl
             rotate_left
             ·simp only [Act.put, s0_, s1_, s2_, i64_w, i32_w]
              rfl
             refine take_ (i := 8) (N := some 21) (v := ?_) (a' := ?_) u5_12 rfl rfl (take_ofW HT_.out HW_.out (by kernel_rfl)) (fun _ _ _ h => h) (Or.inl ⟨by rfl, ?_⟩) hHeld ?_ ?_
             rotate_left
             ·rintro w' ⟨s0, s1, s2, s3, s4, s5⟩
              go_simp
              with_reducible rfl
             rotate_left
             ·simp only [Act.put, s0_, s1_, s2_, i64_w, i32_w]
              rfl
             refine take_ (i := 12) (N := some 25) (v := ?_) (a' := ?_) u5_13 rfl rfl (take_ofW HT_.out HW_.out (by kernel_rfl)) (fun _ _ _ h => h) (Or.inl ⟨by rfl, ?_⟩) hHeld ?_ ?_
             rotate_left
             ·rintro w' ⟨s0, s1, s2, s3, s4, s5⟩
              go_simp
              with_reducible rfl
             rotate_left
             ·simp only [Act.put, s0_, s1_, s2_, i64_w, i32_w]
              rfl
             refine one_ (i := 13) (N := some 26) u5_14 rfl rfl (one_of HT_.out (by kernel_rfl)) (by decide) (fun K hK => ?_)
             refine goes_ Try.func19 (by kernel_rfl) rfl #[.agg #[.int .i64 ((rd_T37 x3_1 x5_2).f0), .int .u8 ((rd_T37 x3_1 x5_2).f1), .bool true], .agg #[.int .i64 ((rd_T37 l0 x4_1).f0), .int .u8 ((rd_T37 l0 x4_1).f1), .bool ((rd_T37 l0 x4_1).f2)]] (by rfl) rfl rfl (by (try simp only [List.map_toArray, List.map_cons, List.map_nil]); first | done | rfl | (simp only [List.length_drop, List.length_take]; rfl)) ?_
             with_reducible refine (clepsydraref20_Less.calls ((rd_T37 x3_1 x5_2).f0) ((rd_T37 x3_1 x5_2).f1) true ((rd_T37 l0 x4_1).f0) ((rd_T37 l0 x4_1).f1) ((rd_T37 l0 x4_1).f2) false _ (by first | exact A7.out | (have A_ := A7.out; rw [← Nbq32.out] at A_; exact A_))).mono ?_
             rintro e w37 ⟨rfl, hb⟩
             have HS0_ := (hb.cell (World.block_lt_of_cell? _ _ (hHeld.1))).trans (hHeld.1)
             have HS1_ := (hb.cell (World.block_lt_of_cell? _ _ (hHeld.2.1))).trans (hHeld.2.1)
             have HS2_ := (hb.cell (World.block_lt_of_cell? _ _ (hHeld.2.2.1))).trans (hHeld.2.2.1)
             refine ⟨_, rfl, ?_⟩
             have n0_ := Aside0.mk (Kd.R_below (by (with_reducible repeat (first | apply Kd.R_alloc | apply Kd.R_drewN | apply Kd.R_drew)); exact HO_3.out) hb)
             have n1_ := Aside0.mk (below_step (by repeat (first | (with_reducible first | exact HB.out | apply below_alloc | apply pw_below_drewN | apply below_drew1) | exact HB.out)) hb)
             clear HO_3
             clear HB
             have HO_3 := n0_
             have HB := n1_
             clear n0_ n1_
             (try clear hb)
             (try clear hb2)
             (try clear hk)
             (try clear hi)
             refine hK.out _ _ ⟨HS0_, HS1_, HS2_, ((HB.out.cell (World.block_lt_of_cell? w _ hw140_0)).trans hw140_0), ((HB.out.cell (World.block_lt_of_cell? w _ hw140_1)).trans hw140_1), ((HB.out.cell (World.block_lt_of_cell? w _ hw140_2)).trans hw140_2)⟩ (fun hHeld => ?_)
             clear hK K
             refine norm_ (a' := ?_) ?_ ?_
             rotate_left
             ·show Act.put _ (some 26) _ = _
              simp only [Act.put, s0_, s1_, s2_, i64_w, i32_w]
              rfl
             refine pure_ (i := 14) (N := some 27) (v := ?_) (a' := ?_) u5_15 rfl rfl (any_of HT_.out (by kernel_rfl)) (fun _ _ _ h => h) (Or.inl ⟨by rfl, ?_⟩) ?_ ?_
             rotate_left
             ·intro w'
              go_simp
              with_reducible rfl
             rotate_left
             ·simp only [Act.put, s0_, s1_, s2_, i64_w, i32_w]
              rfl
             refine done_ (done_of HT_.out (by kernel_rfl)) ?_
             try go_wp2
             have n0_ := Aside0.mk (Kd.R_drew HO_3.out)
             have n1_ := Aside0.mk (below_drew1 HB.out)
             clear HO_3
             clear HB
             have HO_3 := n0_
             have HB := n1_
             clear n0_ n1_
             have p142 : 0 ≤ (x4_1 : Int) := of_decide_eq_true (by first | (with_reducible assumption) | assumption)
             have q142 : x4_1 < (l0.length : Int) := of_decide_eq_true (by first | (with_reducible assumption) | assumption)
             obtain ⟨ad142, e142, hx142_0, hx142_1, hx142_2⟩ := at_T37 HR0.out x4_1 p142 q142
             have hw142_2 := hx142_2
             have hw142_1 := hx142_1
             have hw142_0 := hx142_0
             (try rw [← Nbq32.out] at hx142_2)
             obtain rfl : ad140 = ad142 := (by injection e142)
             replace hx142_0 := (HB.out.cell (World.block_lt_of_cell? w _ hx142_0)).trans hx142_0
             replace hx142_1 := (HB.out.cell (World.block_lt_of_cell? w _ hx142_1)).trans hx142_1
             replace hx142_2 := (HB.out.cell (World.block_lt_of_cell? w _ hx142_2)).trans hx142_2
             replace p142 := eq_true p142
             replace q142 := eq_true q142
             have p143 : 0 ≤ (x5_2 : Int) := of_decide_eq_true (by first | (with_reducible assumption) | assumption)
             have q143 : x5_2 < (x3_1.length : Int) := of_decide_eq_true (by first | (with_reducible assumption) | assumption)
             obtain ⟨ad143, e143, hx143_0, hx143_1, hx143_2⟩ := at_T37 (Kd.R_reads' HO_3.out).2.2 x5_2 p143 q143
             (try rw [← Nbq32.out] at hx143_2)
             obtain rfl : ad139 = ad143 := (by injection e143)
             replace p143 := eq_true p143
             replace q143 := eq_true q143
             refine start_ (n := 16) (S := fun w' => w'.cell? (ad140.add ((x4_1).toNat * 3)) = some (.int .i64 ((rd_T37 l0 x4_1).f0)) ∧ w'.cell? ⟨(ad140.add ((x4_1).toNat * 3)).block, (ad140.add ((x4_1).toNat * 3)).off + 1, none⟩ = some (.int .u8 ((rd_T37 l0 x4_1).f1)) ∧ w'.cell? ⟨(ad140.add ((x4_1).toNat * 3)).block, (ad140.add ((x4_1).toNat * 3)).off + 2, none⟩ = some (.bool ((rd_T37 l0 x4_1).f2)) ∧ w'.cell? (ad139.add ((x5_2).toNat * 3)) = some (.int .i64 ((rd_T37 x3_1 x5_2).f0)) ∧ w'.cell? ⟨(ad139.add ((x5_2).toNat * 3)).block, (ad139.add ((x5_2).toNat * 3)).off + 1, none⟩ = some (.int .u8 ((rd_T37 x3_1 x5_2).f1)) ∧ w'.cell? ⟨(ad139.add ((x5_2).toNat * 3)).block, (ad139.add ((x5_2).toNat * 3)).off + 2, none⟩ = some (.bool true)) (ds := []) u5_16 (by kernel_rfl) rfl rfl ⟨((HB.out.cell (World.block_lt_of_cell? w _ hw142_0)).trans hw142_0), ((HB.out.cell (World.block_lt_of_cell? w _ hw142_1)).trans hw142_1), ((HB.out.cell (World.block_lt_of_cell? w _ hw142_2)).trans hw142_2), hx143_0, hx143_1, hx143_2⟩ (fun hHeld => ?_); refine with_tabW clepsydraref20_Sorted.tab8 clepsydraref20_Sorted.bits8 (fun HT_ HW_ => ?_)
             generalize w37.drew = w38 at HO_3 HB hx142_0 hx142_1 hx142_2 hx143_0 hx143_1 hx143_2 hHeld ⊢
             refine pure_ (i := 0) (N := some 30) (v := ?_) (a' := ?_) u5_17 rfl rfl (any_of HT_.out (by kernel_rfl)) (fun _ _ _ h => h) (Or.inl ⟨by rfl, ?_⟩) ?_ ?_
             rotate_left
             ·intro w'
              go_simp
              with_reducible rfl
             rotate_left
             ·simp only [Act.put, s0_, s1_, s2_, i64_w, i32_w]
              rfl
             refine pure_ (i := 1) (N := some 31) (v := ?_) (a' := ?_) u5_18 rfl rfl (any_of HT_.out (by kernel_rfl)) (fun _ _ _ h => h) (Or.inl ⟨by rfl, ?_⟩) ?_ ?_
             rotate_left
             ·intro w'
              go_simp
              with_reducible rfl
             rotate_left
             ·simp only [Act.put, s0_, s1_, s2_, i64_w, i32_w]
              rfl
             refine pure_ (i := 2) (N := some 32) (v := ?_) (a' := ?_) u5_19 rfl rfl (any_of HT_.out (by kernel_rfl)) (fun _ _ _ h => h) (Or.inl ⟨by rfl, ?_⟩) ?_ ?_
             rotate_left
             ·intro w'
              go_simp
              with_reducible rfl
             rotate_left
             ·simp only [Act.put, s0_, s1_, s2_, i64_w, i32_w]
              rfl
             refine pure_ (i := 3) (N := some 33) (v := ?_) (a' := ?_) u5_20 rfl rfl (any_of HT_.out (by kernel_rfl)) (fun _ _ _ h => h) (Or.inl ⟨by rfl, ?_⟩) ?_ ?_
             rotate_left
             ·intro w'
              go_simp
              with_reducible rfl
             rotate_left
             ·simp only [Act.put, s0_, s1_, s2_, i64_w, i32_w]
              rfl
             refine pure_ (i := 4) (N := some 34) (v := ?_) (a' := ?_) u5_21 rfl rfl (any_of HT_.out (by kernel_rfl)) (fun _ _ _ h => h) (Or.inl ⟨by rfl, ?_⟩) ?_ ?_
             rotate_left
             ·intro w'
              go_simp
              with_reducible rfl
             rotate_left
             ·simp only [Act.put, s0_, s1_, s2_, i64_w, i32_w]
              rfl
             refine pure_ (i := 5) (N := some 35) (v := ?_) (a' := ?_) u5_22 rfl rfl (any_of HT_.out (by kernel_rfl)) (fun _ _ _ h => h) (Or.inl ⟨by rfl, ?_⟩) ?_ ?_
             rotate_left
             ·intro w'
              go_simp
              with_reducible rfl
             rotate_left
             ·simp only [Act.put, s0_, s1_, s2_, i64_w, i32_w]
              rfl
             refine pure_ (i := 6) (N := some 36) (v := ?_) (a' := ?_) u5_23 rfl rfl (any_of HT_.out (by kernel_rfl)) (fun _ _ _ h => h) (Or.inl ⟨by rfl, ?_⟩) ?_ ?_
             rotate_left
             ·intro w'
              go_simp
              with_reducible rfl
             rotate_left
             ·simp only [Act.put, s0_, s1_, s2_, i64_w, i32_w]
              rfl
             refine pure_ (i := 7) (N := some 37) (v := ?_) (a' := ?_) u5_24 rfl rfl (any_of HT_.out (by kernel_rfl)) (fun _ _ _ h => h) (Or.inl ⟨by rfl, ?_⟩) ?_ ?_
             rotate_left
             ·intro w'
              go_simp
              with_reducible rfl
             rotate_left
             ·simp only [Act.put, s0_, s1_, s2_, i64_w, i32_w]
              rfl
             refine pure_ (i := 9) (N := some 39) (v := ?_) (a' := ?_) u5_25 rfl rfl (any_of HT_.out (by kernel_rfl)) (fun _ _ _ h => h) (Or.inl ⟨by rfl, ?_⟩) ?_ ?_
             rotate_left
             ·intro w'
              go_simp
              with_reducible rfl
             rotate_left
             ·simp only [Act.put, s0_, s1_, s2_, i64_w, i32_w]
              rfl
             refine pure_ (i := 10) (N := some 40) (v := ?_) (a' := ?_) u5_26 rfl rfl (any_of HT_.out (by kernel_rfl)) (fun _ _ _ h => h) (Or.inl ⟨by rfl, ?_⟩) ?_ ?_
             rotate_left
             ·intro w'
              go_simp
              with_reducible rfl
             rotate_left
             ·simp only [Act.put, s0_, s1_, s2_, i64_w, i32_w]
              rfl
             refine pure_ (i := 11) (N := some 41) (v := ?_) (a' := ?_) u5_27 rfl rfl (any_of HT_.out (by kernel_rfl)) (fun _ _ _ h => h) (Or.inl ⟨by rfl, ?_⟩) ?_ ?_
             rotate_left
             ·intro w'
              go_simp
              with_reducible rfl
             rotate_left
             ·simp only [Act.put, s0_, s1_, s2_, i64_w, i32_w]
              rfl
             refine take_ (i := 8) (N := some 38) (v := ?_) (a' := ?_) u5_28 rfl rfl (take_ofW HT_.out HW_.out (by kernel_rfl)) (fun _ _ _ h => h) (Or.inl ⟨by rfl, ?_⟩) hHeld ?_ ?_
             rotate_left
             ·rintro w' ⟨s0, s1, s2, s3, s4, s5⟩
              go_simp
              with_reducible rfl
             rotate_left
             ·simp only [Act.put, s0_, s1_, s2_, i64_w, i32_w]
              rfl
             refine take_ (i := 12) (N := some 42) (v := ?_) (a' := ?_) u5_29 rfl rfl (take_ofW HT_.out HW_.out (by kernel_rfl)) (fun _ _ _ h => h) (Or.inl ⟨by rfl, ?_⟩) hHeld ?_ ?_
             rotate_left
             ·rintro w' ⟨s0, s1, s2, s3, s4, s5⟩
              go_simp
              with_reducible rfl
             rotate_left
             ·simp only [Act.put, s0_, s1_, s2_, i64_w, i32_w]
              rfl
             refine one_ (i := 13) (N := some 43) u5_30 rfl rfl (one_of HT_.out (by kernel_rfl)) (by decide) (fun K hK => ?_)
             refine goes_ Try.func19 (by kernel_rfl) rfl #[.agg #[.int .i64 ((rd_T37 l0 x4_1).f0), .int .u8 ((rd_T37 l0 x4_1).f1), .bool ((rd_T37 l0 x4_1).f2)], .agg #[.int .i64 ((rd_T37 x3_1 x5_2).f0), .int .u8 ((rd_T37 x3_1 x5_2).f1), .bool true]] (by rfl) rfl rfl (by (try simp only [List.map_toArray, List.map_cons, List.map_nil]); first | done | rfl | (simp only [List.length_drop, List.length_take]; rfl)) ?_
             with_reducible refine (clepsydraref20_Less.calls ((rd_T37 l0 x4_1).f0) ((rd_T37 l0 x4_1).f1) ((rd_T37 l0 x4_1).f2) ((rd_T37 x3_1 x5_2).f0) ((rd_T37 x3_1 x5_2).f1) true false _ (by first | exact A12.out | (have A_ := A12.out; rw [← Nbq32.out] at A_; exact A_))).mono ?_
             rintro e w39 ⟨rfl, hb⟩
             have HS3_ := (hb.cell (World.block_lt_of_cell? _ _ (hHeld.2.2.2.1))).trans (hHeld.2.2.2.1)
             have HS4_ := (hb.cell (World.block_lt_of_cell? _ _ (hHeld.2.2.2.2.1))).trans (hHeld.2.2.2.2.1)
             have HS5_ := (hb.cell (World.block_lt_of_cell? _ _ (hHeld.2.2.2.2.2))).trans (hHeld.2.2.2.2.2)
             refine ⟨_, rfl, ?_⟩
             have n0_ := Aside0.mk (Kd.R_below (by (with_reducible repeat (first | apply Kd.R_alloc | apply Kd.R_drewN | apply Kd.R_drew)); exact HO_3.out) hb)
             have n1_ := Aside0.mk (below_step (by repeat (first | (with_reducible first | exact HB.out | apply below_alloc | apply pw_below_drewN | apply below_drew1) | exact HB.out)) hb)
             clear HO_3
             clear HB
             have HO_3 := n0_
             have HB := n1_
             clear n0_ n1_
             (try clear hb)
             (try clear hb2)
             (try clear hk)
             (try clear hi)
             refine hK.out _ _ ⟨((HB.out.cell (World.block_lt_of_cell? w _ hw142_0)).trans hw142_0), ((HB.out.cell (World.block_lt_of_cell? w _ hw142_1)).trans hw142_1), ((HB.out.cell (World.block_lt_of_cell? w _ hw142_2)).trans hw142_2), HS3_, HS4_, HS5_⟩ (fun hHeld => ?_)
             clear hK K
             refine norm_ (a' := ?_) ?_ ?_
             rotate_left
             ·show Act.put _ (some 43) _ = _
              simp only [Act.put, s0_, s1_, s2_, i64_w, i32_w]
              rfl
             refine pure_ (i := 14) (N := some 44) (v := ?_) (a' := ?_) u5_31 rfl rfl (any_of HT_.out (by kernel_rfl)) (fun _ _ _ h => h) (Or.inl ⟨by rfl, ?_⟩) ?_ ?_
             rotate_left
             ·intro w'
              go_simp
              with_reducible rfl
             rotate_left
             ·simp only [Act.put, s0_, s1_, s2_, i64_w, i32_w]
              rfl
             refine pure_ (i := 15) (N := some 45) (v := ?_) (a' := ?_) u5_32 rfl rfl (any_of HT_.out (by kernel_rfl)) (fun _ _ _ h => h) (Or.inl ⟨by rfl, ?_⟩) ?_ ?_
             rotate_left
             ·intro w'
              go_simp
              with_reducible rfl
             rotate_left
             ·simp only [Act.put, s0_, s1_, s2_, i64_w, i32_w]
              rfl
             refine done_ (done_of HT_.out (by kernel_rfl)) ?_
             have p162 : 0 ≤ (x5_2 : Int) := of_decide_eq_true (by first | (with_reducible assumption) | assumption)
             have q162 : x5_2 < (x3_1.length : Int) := of_decide_eq_true (by first | (with_reducible assumption) | assumption)
             obtain ⟨ad162, e162, hx162_0, hx162_1, hx162_2⟩ := at_T37 (Kd.R_reads' HO_3.out).2.2 x5_2 p162 q162
             (try rw [← Nbq32.out] at hx162_2)
             obtain rfl : ad139 = ad162 := (by injection e162)
             replace p162 := eq_true p162
             replace q162 := eq_true q162
             have p34 : 0 ≤ (x5_2 : Int) := of_decide_eq_true (by first | (with_reducible assumption) | assumption)
             have q34 : (x5_2 : Int) < ((x3_1.length : Int) : Int) := of_decide_eq_true (by first | (with_reducible assumption) | assumption)
             obtain ⟨go34, co34, eo34, gb34, gl34, cl34, HG34⟩ := Kd.R_form HO_3.out (by omega)
             (first | cases eo34 | (injection eo34 with ea_ en_ ec_; (first | subst ea_ | (injection ea_ with ea_; subst ea_)); subst ec_; clear en_))
             have GB34 := Aside0.mk gb34
             have GG34 := Aside0.mk HG34
             clear gb34 gl34 HG34
             (first | simp only [add_plain] at hx139_0 | skip)
             (first | simp only [add_plain] at hx139_1 | skip)
             (first | simp only [add_plain] at hx139_2 | skip)
             (first | simp only [add_plain] at hx143_0 | skip)
             (first | simp only [add_plain] at hx143_1 | skip)
             (first | simp only [add_plain] at hx143_2 | skip)
             (first | simp only [add_plain] at hx162_0 | skip)
             (first | simp only [add_plain] at hx162_1 | skip)
             (first | simp only [add_plain] at hx162_2 | skip)
             obtain ⟨ce34, hcl34, hM34, hcc34, hfr34⟩ := Kd.R_elem HO_3.out z37 (x5_2 : Int) p34 q34
             obtain rfl := k37_openM hM34
             have hx34_0 : w39.cell? ⟨go34, (x5_2 : Int).toNat * 3, none⟩ = some (.int .i64 ((rd_T37 x3_1 x5_2).f0)) := hcc34 0 _ rfl
             have hx34_1 : w39.cell? ⟨go34, (x5_2 : Int).toNat * 3 + 1, none⟩ = some (.int .u8 ((rd_T37 x3_1 x5_2).f1)) := hcc34 1 _ rfl
             have hx34_2 : w39.cell? ⟨go34, (x5_2 : Int).toNat * 3 + 2, none⟩ = some (.bool ((rd_T37 x3_1 x5_2).f2)) := hcc34 2 _ rfl
             have hf34_0 : w39.frozen? ⟨go34, (x5_2 : Int).toNat * 3, none⟩ = false := hfr34 0
             have hf34_1 : w39.frozen? ⟨go34, (x5_2 : Int).toNat * 3 + 1, none⟩ = false := hfr34 1
             have hf34_2 : w39.frozen? ⟨go34, (x5_2 : Int).toNat * 3 + 2, none⟩ = false := hfr34 2
             clear hcl34 hcc34 hfr34 hM34
             replace p34 := eq_true p34
             replace q34 := eq_true q34
             have HX40 := Aside0.mk (show Kd.R k37 37 w39 w.heap.size (fun _ => True) (.slice (some ⟨go34, 0, none⟩) x3_1.length co36) x3_1 from (by (with_reducible repeat (first | apply Kd.R_alloc | apply Kd.R_drewN | apply Kd.R_drew)); exact HO_3.out))
             obtain ⟨ce40, hcl40, hM40, hcc40, hfr40⟩ := Kd.R_elem HX40.out z37 (x5_2 : Int) (of_decide_eq_true (by first | (with_reducible assumption) | assumption)) (by have h_ : (x5_2 : Int) < ((x3_1.length : Int) : Int) := of_decide_eq_true (by first | (with_reducible assumption) | assumption); first | exact h_ | (have e_ := (Kd.R_reads' HO_3.out).1; omega) | simpa using h_)
             obtain rfl := k37_openM hM40
             have HP40 := Kd.R_seg HX40.out (x5_2 : Int) (of_decide_eq_true (by first | (with_reducible assumption) | assumption)) (by have h_ : (x5_2 : Int) < ((x3_1.length : Int) : Int) := of_decide_eq_true (by first | (with_reducible assumption) | assumption); first | exact h_ | (have e_ := (Kd.R_reads' HO_3.out).1; omega) | simpa using h_) (seg := [.bool true]) (j := 2) hcl40 hcc40 (show 3 ≤ 3 from by decide) (x' := (⟨(rd_T37 x3_1 x5_2).f0, (rd_T37 x3_1 x5_2).f1, true⟩ : S37)) (k37_mkM _ _ _ (⟨(rd_T37 x3_1 x5_2).f0, (rd_T37 x3_1 x5_2).f1, true⟩ : S37) ) (fun _ hk => hk)
             have hx40_2 := hcc40 2 _ rfl
             (try simp only [show (k37).sz = 3 from rfl, Nat.mul_one, Nat.add_zero] at hx40_2)
             have hf40_2 := hfr40 2
             (try simp only [show (k37).sz = 3 from rfl, Nat.mul_one, Nat.add_zero] at hf40_2)
             clear hcl40 hcc40 hfr40 hM40
             try go_wp2_with (first | ((with_reducible refine gate_store (t := 4) (p := 61) rfl ?_); refine store_event (t := 4) (p := 61) (v := ?vo_w41) (w1 := (w39.setCell ⟨go34, (x5_2 : Int).toNat * 3 + 2, none⟩ (.bool true))) ?hg ?ho ?hn ?hr ?_; (case ho => rfl); (case hg => rfl); (case hn => rfl); (case hr => first | (go_simp; done) | (go_simp; rfl)); intro w41 hw; have hg : w39.grownBy w41 (some go34) := (by rw [hw]; exact HP40.2); have hp_ : Kd.R k37 37 w41 w.heap.size (fun _ => True) (.slice (some ⟨go34, 0, none⟩) x3_1.length co36) y163 := (by rw [hw, Ny163.out]; exact HP40.1); clear HP40; have n0_ := Aside0.mk (hp_); have n1_ := Aside0.mk ((by rw [hw]; exact below_set (HB.out) GB34.out : Below w.heap.size w w41)); clear HO_3; clear HB; have HO_3 := n0_; have HB := n1_; clear n0_ n1_; clear hg hw hp_))
             go_roundg k2
             case measure => have := HK1.out; have := HK2.out; omega
             case rel => exact ⟨(y163), (wrap64 (x4_1 + 1)), (by first | rfl | (simp; done) | (simp [*]; done)), H', ⟨by have := HK1.out; have := HK2.out; omega⟩, ⟨by (with_reducible repeat (first | apply Kd.R_alloc | apply Kd.R_drewN | apply Kd.R_drew)); exact HO_3.out⟩, ⟨by repeat (first | (with_reducible first | exact HB.out | apply below_alloc | apply pw_below_drewN | apply below_drew1) | exact HB.out)⟩⟩
            ·replace c33 := Bool.eq_false_iff.mpr c33
             subst c33
             have H1 : (clepsydraref20_Sorted.l0 k2 l0 (x3_1.set (x5_2 : Int).toNat (⟨(rd_T37 x3_1 x5_2).f0, (rd_T37 x3_1 x5_2).f1, (rd_T37 l0 x4_1).f2⟩ : S37)) (wrap64 (x4_1 + 1))) = some r := by rw [if_neg (show ¬ (false = true) by decide)] at H; exact H
             clear H
             have H := H1
             clear H1
             obtain ⟨y165, hy165⟩ : ∃ y_ : List (S37), y_ = (x3_1.set (x5_2 : Int).toNat (⟨(rd_T37 x3_1 x5_2).f0, (rd_T37 x3_1 x5_2).f1, (rd_T37 l0 x4_1).f2⟩ : S37)) := ⟨_, rfl⟩
             replace H : (clepsydraref20_Sorted.l0 k2 l0 y165 (wrap64 (x4_1 + 1))) = some r := by first | (rw [hy165]; with_reducible exact H) | (have H2_ := (Option.bind_some _ _).symm.trans H; rw [hy165]; with_reducible exact H2_) | (have H2_ := (Option.bind_some _ _).symm.trans H; with_reducible exact H2_) | with_reducible exact H | (rw [hy165]; exact H) | exact H
             have Ny165 := Aside0.mk hy165
             clear hy165
             have H' := Aside0.mk H
             clear H
             try go_wp2
             have n0_ := Aside0.mk (Kd.R_drew HO_3.out)
             have n1_ := Aside0.mk (below_drew1 HB.out)
             clear HO_3
             clear HB
             have HO_3 := n0_
             have HB := n1_
             clear n0_ n1_
             obtain ⟨Ao44, co44, eo44⟩ := Kd.R_slice HO_3.out
             (first | subst eo44 | (injection eo44 with f1_ f2_ f3_; have f4_ := f1_.symm; have f5_ := f3_.symm; clear f1_ f2_ f3_; subst f4_; subst f5_))
             have p139 : 0 ≤ (x5_2 : Int) := of_decide_eq_true (by first | (with_reducible assumption) | assumption)
             have q139 : x5_2 < (x3_1.length : Int) := of_decide_eq_true (by first | (with_reducible assumption) | assumption)
             obtain ⟨ad139, e139, hx139_0, hx139_1, hx139_2⟩ := at_T37 (Kd.R_reads' HO_3.out).2.2 x5_2 p139 q139
             (try rw [← Nbq32.out] at hx139_2)
             cases e139
             replace p139 := eq_true p139
             replace q139 := eq_true q139
             have p140 : 0 ≤ (x4_1 : Int) := of_decide_eq_true (by first | (with_reducible assumption) | assumption)
             have q140 : x4_1 < (l0.length : Int) := of_decide_eq_true (by first | (with_reducible assumption) | assumption)
             obtain ⟨ad140, e140, hx140_0, hx140_1, hx140_2⟩ := at_T37 HR0.out x4_1 p140 q140
             have hw140_2 := hx140_2
             have hw140_1 := hx140_1
             have hw140_0 := hx140_0
             (try rw [← Nbq32.out] at hx140_2)
             cases e140
             replace hx140_0 := (HB.out.cell (World.block_lt_of_cell? w _ hx140_0)).trans hx140_0
             replace hx140_1 := (HB.out.cell (World.block_lt_of_cell? w _ hx140_1)).trans hx140_1
             replace hx140_2 := (HB.out.cell (World.block_lt_of_cell? w _ hx140_2)).trans hx140_2
             replace p140 := eq_true p140
             replace q140 := eq_true q140
             refine start_ (n := 15) (S := fun w' => w'.cell? (ad139.add ((x5_2).toNat * 3)) = some (.int .i64 ((rd_T37 x3_1 x5_2).f0)) ∧ w'.cell? ⟨(ad139.add ((x5_2).toNat * 3)).block, (ad139.add ((x5_2).toNat * 3)).off + 1, none⟩ = some (.int .u8 ((rd_T37 x3_1 x5_2).f1)) ∧ w'.cell? ⟨(ad139.add ((x5_2).toNat * 3)).block, (ad139.add ((x5_2).toNat * 3)).off + 2, none⟩ = some (.bool false) ∧ w'.cell? (ad140.add ((x4_1).toNat * 3)) = some (.int .i64 ((rd_T37 l0 x4_1).f0)) ∧ w'.cell? ⟨(ad140.add ((x4_1).toNat * 3)).block, (ad140.add ((x4_1).toNat * 3)).off + 1, none⟩ = some (.int .u8 ((rd_T37 l0 x4_1).f1)) ∧ w'.cell? ⟨(ad140.add ((x4_1).toNat * 3)).block, (ad140.add ((x4_1).toNat * 3)).off + 2, none⟩ = some (.bool ((rd_T37 l0 x4_1).f2))) (ds := []) u5_0 (by kernel_rfl) rfl rfl ⟨hx139_0, hx139_1, hx139_2, ((HB.out.cell (World.block_lt_of_cell? w _ hw140_0)).trans hw140_0), ((HB.out.cell (World.block_lt_of_cell? w _ hw140_1)).trans hw140_1), ((HB.out.cell (World.block_lt_of_cell? w _ hw140_2)).trans hw140_2)⟩ (fun hHeld => ?_); refine with_tabW clepsydraref20_Sorted.tab6 clepsydraref20_Sorted.bits6 (fun HT_ HW_ => ?_)
             generalize wr.drew = w43 at HO_3 HB hx139_0 hx139_1 hx139_2 hx140_0 hx140_1 hx140_2 hHeld ⊢
             refine pure_ (i := 0) (N := some 13) (v := ?_) (a' := ?_) u5_1 rfl rfl (any_of HT_.out (by kernel_rfl)) (fun _ _ _ h => h) (Or.inl ⟨by rfl, ?_⟩) ?_ ?_
             rotate_left
             ·intro w'
              go_simp
              with_reducible rfl
             rotate_left
             ·simp only [Act.put, s0_, s1_, s2_, i64_w, i32_w]
              rfl
             refine pure_ (i := 1) (N := some 14) (v := ?_) (a' := ?_) u5_2 rfl rfl (any_of HT_.out (by kernel_rfl)) (fun _ _ _ h => h) (Or.inl ⟨by rfl, ?_⟩) ?_ ?_
             rotate_left
             ·intro w'
              go_simp
              with_reducible rfl
             rotate_left
             ·simp only [Act.put, s0_, s1_, s2_, i64_w, i32_w]
              rfl
             refine pure_ (i := 2) (N := some 15) (v := ?_) (a' := ?_) u5_3 rfl rfl (any_of HT_.out (by kernel_rfl)) (fun _ _ _ h => h) (Or.inl ⟨by rfl, ?_⟩) ?_ ?_
             rotate_left
             ·intro w'
              go_simp
              with_reducible rfl
             rotate_left
             ·simp only [Act.put, s0_, s1_, s2_, i64_w, i32_w]
              rfl
             refine pure_ (i := 3) (N := some 16) (v := ?_) (a' := ?_) u5_4 rfl rfl (any_of HT_.out (by kernel_rfl)) (fun _ _ _ h => h) (Or.inl ⟨by rfl, ?_⟩) ?_ ?_
             rotate_left
             ·intro w'
              go_simp
              with_reducible rfl
             rotate_left
             ·simp only [Act.put, s0_, s1_, s2_, i64_w, i32_w]
              rfl
             refine pure_ (i := 4) (N := some 17) (v := ?_) (a' := ?_) u5_5 rfl rfl (any_of HT_.out (by kernel_rfl)) (fun _ _ _ h => h) (Or.inl ⟨by rfl, ?_⟩) ?_ ?_
             rotate_left
             ·intro w'
              go_simp
              with_reducible rfl
             rotate_left
             ·simp only [Act.put, s0_, s1_, s2_, i64_w, i32_w]
              rfl
             refine pure_ (i := 5) (N := some 18) (v := ?_) (a' := ?_) u5_6 rfl rfl (any_of HT_.out (by kernel_rfl)) (fun _ _ _ h => h) (Or.inl ⟨by rfl, ?_⟩) ?_ ?_
             rotate_left
             ·intro w'
              go_simp
              with_reducible rfl
             rotate_left
             ·simp only [Act.put, s0_, s1_, s2_, i64_w, i32_w]
              rfl
             refine pure_ (i := 6) (N := some 19) (v := ?_) (a' := ?_) u5_7 rfl rfl (any_of HT_.out (by kernel_rfl)) (fun _ _ _ h => h) (Or.inl ⟨by rfl, ?_⟩) ?_ ?_
             rotate_left
             ·intro w'
              go_simp
              with_reducible rfl
             rotate_left
             ·simp only [Act.put, s0_, s1_, s2_, i64_w, i32_w]
              rfl
             refine pure_ (i := 7) (N := some 20) (v := ?_) (a' := ?_) u5_8 rfl rfl (any_of HT_.out (by kernel_rfl)) (fun _ _ _ h => h) (Or.inl ⟨by rfl, ?_⟩) ?_ ?_
             rotate_left
             ·intro w'
              go_simp
              with_reducible rfl
             rotate_left
             ·simp only [Act.put, s0_, s1_, s2_, i64_w, i32_w]
              rfl
             refine pure_ (i := 9) (N := some 22) (v := ?_) (a' := ?_) u5_9 rfl rfl (any_of HT_.out (by kernel_rfl)) (fun _ _ _ h => h) (Or.inl ⟨by rfl, ?_⟩) ?_ ?_
             rotate_left
             ·intro w'
              go_simp
              with_reducible rfl
             rotate_left
             ·simp only [Act.put, s0_, s1_, s2_, i64_w, i32_w]
              rfl
             refine pure_ (i := 10) (N := some 23) (v := ?_) (a' := ?_) u5_10 rfl rfl (any_of HT_.out (by kernel_rfl)) (fun _ _ _ h => h) (Or.inl ⟨by rfl, ?_⟩) ?_ ?_
             rotate_left
             ·intro w'
              go_simp
              with_reducible rfl
             rotate_left
             ·simp only [Act.put, s0_, s1_, s2_, i64_w, i32_w]
              rfl
             refine pure_ (i := 11) (N := some 24) (v := ?_) (a' := ?_) u5_11 rfl rfl (any_of HT_.out (by kernel_rfl)) (fun _ _ _ h => h) (Or.inl ⟨by rfl, ?_⟩) ?_ ?_
             rotate_left
             ·intro w'
              go_simp
              with_reducible rfl
             rotate_left
             ·simp only [Act.put, s0_, s1_, s2_, i64_w, i32_w]
              rfl
             refine take_ (i := 8) (N := some 21) (v := ?_) (a' := ?_) u5_12 rfl rfl (take_ofW HT_.out HW_.out (by kernel_rfl)) (fun _ _ _ h => h) (Or.inl ⟨by rfl, ?_⟩) hHeld ?_ ?_
             rotate_left
             ·rintro w' ⟨s0, s1, s2, s3, s4, s5⟩
              go_simp
              with_reducible rfl
             rotate_left
             ·simp only [Act.put, s0_, s1_, s2_, i64_w, i32_w]
              rfl
             refine take_ (i := 12) (N := some 25) (v := ?_) (a' := ?_) u5_13 rfl rfl (take_ofW HT_.out HW_.out (by kernel_rfl)) (fun _ _ _ h => h) (Or.inl ⟨by rfl, ?_⟩) hHeld ?_ ?_
             rotate_left
             ·rintro w' ⟨s0, s1, s2, s3, s4, s5⟩
              go_simp
              with_reducible rfl
             rotate_left
             ·simp only [Act.put, s0_, s1_, s2_, i64_w, i32_w]
              rfl
             refine one_ (i := 13) (N := some 26) u5_14 rfl rfl (one_of HT_.out (by kernel_rfl)) (by decide) (fun K hK => ?_)
             refine goes_ Try.func19 (by kernel_rfl) rfl #[.agg #[.int .i64 ((rd_T37 x3_1 x5_2).f0), .int .u8 ((rd_T37 x3_1 x5_2).f1), .bool false], .agg #[.int .i64 ((rd_T37 l0 x4_1).f0), .int .u8 ((rd_T37 l0 x4_1).f1), .bool ((rd_T37 l0 x4_1).f2)]] (by rfl) rfl rfl (by (try simp only [List.map_toArray, List.map_cons, List.map_nil]); first | done | rfl | (simp only [List.length_drop, List.length_take]; rfl)) ?_
             with_reducible refine (clepsydraref20_Less.calls ((rd_T37 x3_1 x5_2).f0) ((rd_T37 x3_1 x5_2).f1) false ((rd_T37 l0 x4_1).f0) ((rd_T37 l0 x4_1).f1) ((rd_T37 l0 x4_1).f2) false _ (by first | exact A7.out | (have A_ := A7.out; rw [← Nbq32.out] at A_; exact A_))).mono ?_
             rintro e w45 ⟨rfl, hb⟩
             have HS0_ := (hb.cell (World.block_lt_of_cell? _ _ (hHeld.1))).trans (hHeld.1)
             have HS1_ := (hb.cell (World.block_lt_of_cell? _ _ (hHeld.2.1))).trans (hHeld.2.1)
             have HS2_ := (hb.cell (World.block_lt_of_cell? _ _ (hHeld.2.2.1))).trans (hHeld.2.2.1)
             refine ⟨_, rfl, ?_⟩
             have n0_ := Aside0.mk (Kd.R_below (by (with_reducible repeat (first | apply Kd.R_alloc | apply Kd.R_drewN | apply Kd.R_drew)); exact HO_3.out) hb)
             have n1_ := Aside0.mk (below_step (by repeat (first | (with_reducible first | exact HB.out | apply below_alloc | apply pw_below_drewN | apply below_drew1) | exact HB.out)) hb)
             clear HO_3
             clear HB
             have HO_3 := n0_
             have HB := n1_
             clear n0_ n1_
             (try clear hb)
             (try clear hb2)
             (try clear hk)
             (try clear hi)
             refine hK.out _ _ ⟨HS0_, HS1_, HS2_, ((HB.out.cell (World.block_lt_of_cell? w _ hw140_0)).trans hw140_0), ((HB.out.cell (World.block_lt_of_cell? w _ hw140_1)).trans hw140_1), ((HB.out.cell (World.block_lt_of_cell? w _ hw140_2)).trans hw140_2)⟩ (fun hHeld => ?_)
             clear hK K
             refine norm_ (a' := ?_) ?_ ?_
             rotate_left
             ·show Act.put _ (some 26) _ = _
              simp only [Act.put, s0_, s1_, s2_, i64_w, i32_w]
              rfl
             refine pure_ (i := 14) (N := some 27) (v := ?_) (a' := ?_) u5_15 rfl rfl (any_of HT_.out (by kernel_rfl)) (fun _ _ _ h => h) (Or.inl ⟨by rfl, ?_⟩) ?_ ?_
             rotate_left
             ·intro w'
              go_simp
              with_reducible rfl
             rotate_left
             ·simp only [Act.put, s0_, s1_, s2_, i64_w, i32_w]
              rfl
             refine done_ (done_of HT_.out (by kernel_rfl)) ?_
             try go_wp2
             have n0_ := Aside0.mk (Kd.R_drew HO_3.out)
             have n1_ := Aside0.mk (below_drew1 HB.out)
             clear HO_3
             clear HB
             have HO_3 := n0_
             have HB := n1_
             clear n0_ n1_
             have p142 : 0 ≤ (x4_1 : Int) := of_decide_eq_true (by first | (with_reducible assumption) | assumption)
             have q142 : x4_1 < (l0.length : Int) := of_decide_eq_true (by first | (with_reducible assumption) | assumption)
             obtain ⟨ad142, e142, hx142_0, hx142_1, hx142_2⟩ := at_T37 HR0.out x4_1 p142 q142
             have hw142_2 := hx142_2
             have hw142_1 := hx142_1
             have hw142_0 := hx142_0
             (try rw [← Nbq32.out] at hx142_2)
             obtain rfl : ad140 = ad142 := (by injection e142)
             replace hx142_0 := (HB.out.cell (World.block_lt_of_cell? w _ hx142_0)).trans hx142_0
             replace hx142_1 := (HB.out.cell (World.block_lt_of_cell? w _ hx142_1)).trans hx142_1
             replace hx142_2 := (HB.out.cell (World.block_lt_of_cell? w _ hx142_2)).trans hx142_2
             replace p142 := eq_true p142
             replace q142 := eq_true q142
             have p143 : 0 ≤ (x5_2 : Int) := of_decide_eq_true (by first | (with_reducible assumption) | assumption)
             have q143 : x5_2 < (x3_1.length : Int) := of_decide_eq_true (by first | (with_reducible assumption) | assumption)
             obtain ⟨ad143, e143, hx143_0, hx143_1, hx143_2⟩ := at_T37 (Kd.R_reads' HO_3.out).2.2 x5_2 p143 q143
             (try rw [← Nbq32.out] at hx143_2)
             obtain rfl : ad139 = ad143 := (by injection e143)
             replace p143 := eq_true p143
             replace q143 := eq_true q143
             refine start_ (n := 16) (S := fun w' => w'.cell? (ad140.add ((x4_1).toNat * 3)) = some (.int .i64 ((rd_T37 l0 x4_1).f0)) ∧ w'.cell? ⟨(ad140.add ((x4_1).toNat * 3)).block, (ad140.add ((x4_1).toNat * 3)).off + 1, none⟩ = some (.int .u8 ((rd_T37 l0 x4_1).f1)) ∧ w'.cell? ⟨(ad140.add ((x4_1).toNat * 3)).block, (ad140.add ((x4_1).toNat * 3)).off + 2, none⟩ = some (.bool ((rd_T37 l0 x4_1).f2)) ∧ w'.cell? (ad139.add ((x5_2).toNat * 3)) = some (.int .i64 ((rd_T37 x3_1 x5_2).f0)) ∧ w'.cell? ⟨(ad139.add ((x5_2).toNat * 3)).block, (ad139.add ((x5_2).toNat * 3)).off + 1, none⟩ = some (.int .u8 ((rd_T37 x3_1 x5_2).f1)) ∧ w'.cell? ⟨(ad139.add ((x5_2).toNat * 3)).block, (ad139.add ((x5_2).toNat * 3)).off + 2, none⟩ = some (.bool false)) (ds := []) u5_16 (by kernel_rfl) rfl rfl ⟨((HB.out.cell (World.block_lt_of_cell? w _ hw142_0)).trans hw142_0), ((HB.out.cell (World.block_lt_of_cell? w _ hw142_1)).trans hw142_1), ((HB.out.cell (World.block_lt_of_cell? w _ hw142_2)).trans hw142_2), hx143_0, hx143_1, hx143_2⟩ (fun hHeld => ?_); refine with_tabW clepsydraref20_Sorted.tab8 clepsydraref20_Sorted.bits8 (fun HT_ HW_ => ?_)
             generalize w45.drew = w46 at HO_3 HB hx142_0 hx142_1 hx142_2 hx143_0 hx143_1 hx143_2 hHeld ⊢
             refine pure_ (i := 0) (N := some 30) (v := ?_) (a' := ?_) u5_17 rfl rfl (any_of HT_.out (by kernel_rfl)) (fun _ _ _ h => h) (Or.inl ⟨by rfl, ?_⟩) ?_ ?_
             rotate_left
             ·intro w'
              go_simp
              with_reducible rfl
             rotate_left
             ·simp only [Act.put, s0_, s1_, s2_, i64_w, i32_w]
              rfl
             refine pure_ (i := 1) (N := some 31) (v := ?_) (a' := ?_) u5_18 rfl rfl (any_of HT_.out (by kernel_rfl)) (fun _ _ _ h => h) (Or.inl ⟨by rfl, ?_⟩) ?_ ?_
             rotate_left
             ·intro w'
              go_simp
              with_reducible rfl
             rotate_left
             ·simp only [Act.put, s0_, s1_, s2_, i64_w, i32_w]
              rfl
             refine pure_ (i := 2) (N := some 32) (v := ?_) (a' := ?_) u5_19 rfl rfl (any_of HT_.out (by kernel_rfl)) (fun _ _ _ h => h) (Or.inl ⟨by rfl, ?_⟩) ?_ ?_
             rotate_left
             ·intro w'
              go_simp
              with_reducible rfl
             rotate_left
             ·simp only [Act.put, s0_, s1_, s2_, i64_w, i32_w]
              rfl
             refine pure_ (i := 3) (N := some 33) (v := ?_) (a' := ?_) u5_20 rfl rfl (any_of HT_.out (by kernel_rfl)) (fun _ _ _ h => h) (Or.inl ⟨by rfl, ?_⟩) ?_ ?_
             rotate_left
             ·intro w'
              go_simp
              with_reducible rfl
             rotate_left
             ·simp only [Act.put, s0_, s1_, s2_, i64_w, i32_w]
              rfl
             refine pure_ (i := 4) (N := some 34) (v := ?_) (a' := ?_) u5_21 rfl rfl (any_of HT_.out (by kernel_rfl)) (fun _ _ _ h => h) (Or.inl ⟨by rfl, ?_⟩) ?_ ?_
             rotate_left
             ·intro w'
              go_simp
              with_reducible rfl
             rotate_left
             ·simp only [Act.put, s0_, s1_, s2_, i64_w, i32_w]
              rfl
             refine pure_ (i := 5) (N := some 35) (v := ?_) (a' := ?_) u5_22 rfl rfl (any_of HT_.out (by kernel_rfl)) (fun _ _ _ h => h) (Or.inl ⟨by rfl, ?_⟩) ?_ ?_
             rotate_left
             ·intro w'
              go_simp
              with_reducible rfl
             rotate_left
             ·simp only [Act.put, s0_, s1_, s2_, i64_w, i32_w]
              rfl
             refine pure_ (i := 6) (N := some 36) (v := ?_) (a' := ?_) u5_23 rfl rfl (any_of HT_.out (by kernel_rfl)) (fun _ _ _ h => h) (Or.inl ⟨by rfl, ?_⟩) ?_ ?_
             rotate_left
             ·intro w'
              go_simp
              with_reducible rfl
             rotate_left
             ·simp only [Act.put, s0_, s1_, s2_, i64_w, i32_w]
              rfl
             refine pure_ (i := 7) (N := some 37) (v := ?_) (a' := ?_) u5_24 rfl rfl (any_of HT_.out (by kernel_rfl)) (fun _ _ _ h => h) (Or.inl ⟨by rfl, ?_⟩) ?_ ?_
             rotate_left
             ·intro w'
              go_simp
              with_reducible rfl
             rotate_left
             ·simp only [Act.put, s0_, s1_, s2_, i64_w, i32_w]
              rfl
             refine pure_ (i := 9) (N := some 39) (v := ?_) (a' := ?_) u5_25 rfl rfl (any_of HT_.out (by kernel_rfl)) (fun _ _ _ h => h) (Or.inl ⟨by rfl, ?_⟩) ?_ ?_
             rotate_left
             ·intro w'
              go_simp
              with_reducible rfl
             rotate_left
             ·simp only [Act.put, s0_, s1_, s2_, i64_w, i32_w]
              rfl
             refine pure_ (i := 10) (N := some 40) (v := ?_) (a' := ?_) u5_26 rfl rfl (any_of HT_.out (by kernel_rfl)) (fun _ _ _ h => h) (Or.inl ⟨by rfl, ?_⟩) ?_ ?_
             rotate_left
             ·intro w'
              go_simp
              with_reducible rfl
             rotate_left
             ·simp only [Act.put, s0_, s1_, s2_, i64_w, i32_w]
              rfl
             refine pure_ (i := 11) (N := some 41) (v := ?_) (a' := ?_) u5_27 rfl rfl (any_of HT_.out (by kernel_rfl)) (fun _ _ _ h => h) (Or.inl ⟨by rfl, ?_⟩) ?_ ?_
             rotate_left
             ·intro w'
              go_simp
              with_reducible rfl
             rotate_left
             ·simp only [Act.put, s0_, s1_, s2_, i64_w, i32_w]
              rfl
             refine take_ (i := 8) (N := some 38) (v := ?_) (a' := ?_) u5_28 rfl rfl (take_ofW HT_.out HW_.out (by kernel_rfl)) (fun _ _ _ h => h) (Or.inl ⟨by rfl, ?_⟩) hHeld ?_ ?_
             rotate_left
             ·rintro w' ⟨s0, s1, s2, s3, s4, s5⟩
              go_simp
              with_reducible rfl
             rotate_left
             ·simp only [Act.put, s0_, s1_, s2_, i64_w, i32_w]
              rfl
             refine take_ (i := 12) (N := some 42) (v := ?_) (a' := ?_) u5_29 rfl rfl (take_ofW HT_.out HW_.out (by kernel_rfl)) (fun _ _ _ h => h) (Or.inl ⟨by rfl, ?_⟩) hHeld ?_ ?_
             rotate_left
             ·rintro w' ⟨s0, s1, s2, s3, s4, s5⟩
              go_simp
              with_reducible rfl
             rotate_left
             ·simp only [Act.put, s0_, s1_, s2_, i64_w, i32_w]
              rfl
             refine one_ (i := 13) (N := some 43) u5_30 rfl rfl (one_of HT_.out (by kernel_rfl)) (by decide) (fun K hK => ?_)
             refine goes_ Try.func19 (by kernel_rfl) rfl #[.agg #[.int .i64 ((rd_T37 l0 x4_1).f0), .int .u8 ((rd_T37 l0 x4_1).f1), .bool ((rd_T37 l0 x4_1).f2)], .agg #[.int .i64 ((rd_T37 x3_1 x5_2).f0), .int .u8 ((rd_T37 x3_1 x5_2).f1), .bool false]] (by rfl) rfl rfl (by (try simp only [List.map_toArray, List.map_cons, List.map_nil]); first | done | rfl | (simp only [List.length_drop, List.length_take]; rfl)) ?_
             with_reducible refine (clepsydraref20_Less.calls ((rd_T37 l0 x4_1).f0) ((rd_T37 l0 x4_1).f1) ((rd_T37 l0 x4_1).f2) ((rd_T37 x3_1 x5_2).f0) ((rd_T37 x3_1 x5_2).f1) false false _ (by first | exact A12.out | (have A_ := A12.out; rw [← Nbq32.out] at A_; exact A_))).mono ?_
             rintro e w47 ⟨rfl, hb⟩
             have HS3_ := (hb.cell (World.block_lt_of_cell? _ _ (hHeld.2.2.2.1))).trans (hHeld.2.2.2.1)
             have HS4_ := (hb.cell (World.block_lt_of_cell? _ _ (hHeld.2.2.2.2.1))).trans (hHeld.2.2.2.2.1)
             have HS5_ := (hb.cell (World.block_lt_of_cell? _ _ (hHeld.2.2.2.2.2))).trans (hHeld.2.2.2.2.2)
             refine ⟨_, rfl, ?_⟩
             have n0_ := Aside0.mk (Kd.R_below (by (with_reducible repeat (first | apply Kd.R_alloc | apply Kd.R_drewN | apply Kd.R_drew)); exact HO_3.out) hb)
             have n1_ := Aside0.mk (below_step (by repeat (first | (with_reducible first | exact HB.out | apply below_alloc | apply pw_below_drewN | apply below_drew1) | exact HB.out)) hb)
             clear HO_3
             clear HB
             have HO_3 := n0_
             have HB := n1_
             clear n0_ n1_
             (try clear hb)
             (try clear hb2)
             (try clear hk)
             (try clear hi)
             refine hK.out _ _ ⟨((HB.out.cell (World.block_lt_of_cell? w _ hw142_0)).trans hw142_0), ((HB.out.cell (World.block_lt_of_cell? w _ hw142_1)).trans hw142_1), ((HB.out.cell (World.block_lt_of_cell? w _ hw142_2)).trans hw142_2), HS3_, HS4_, HS5_⟩ (fun hHeld => ?_)
             clear hK K
             refine norm_ (a' := ?_) ?_ ?_
             rotate_left
             ·show Act.put _ (some 43) _ = _
              simp only [Act.put, s0_, s1_, s2_, i64_w, i32_w]
              rfl
             refine pure_ (i := 14) (N := some 44) (v := ?_) (a' := ?_) u5_31 rfl rfl (any_of HT_.out (by kernel_rfl)) (fun _ _ _ h => h) (Or.inl ⟨by rfl, ?_⟩) ?_ ?_
             rotate_left
             ·intro w'
              go_simp
              with_reducible rfl
             rotate_left
             ·simp only [Act.put, s0_, s1_, s2_, i64_w, i32_w]
              rfl
             refine pure_ (i := 15) (N := some 45) (v := ?_) (a' := ?_) u5_32 rfl rfl (any_of HT_.out (by kernel_rfl)) (fun _ _ _ h => h) (Or.inl ⟨by rfl, ?_⟩) ?_ ?_
             rotate_left
             ·intro w'
              go_simp
              with_reducible rfl
             rotate_left
             ·simp only [Act.put, s0_, s1_, s2_, i64_w, i32_w]
              rfl
             refine done_ (done_of HT_.out (by kernel_rfl)) ?_
             have p162 : 0 ≤ (x5_2 : Int) := of_decide_eq_true (by first | (with_reducible assumption) | assumption)
             have q162 : x5_2 < (x3_1.length : Int) := of_decide_eq_true (by first | (with_reducible assumption) | assumption)
             obtain ⟨ad162, e162, hx162_0, hx162_1, hx162_2⟩ := at_T37 (Kd.R_reads' HO_3.out).2.2 x5_2 p162 q162
             (try rw [← Nbq32.out] at hx162_2)
             obtain rfl : ad139 = ad162 := (by injection e162)
             replace p162 := eq_true p162
             replace q162 := eq_true q162
             have p164 : 0 ≤ (x4_1 : Int) := of_decide_eq_true (by first | (with_reducible assumption) | assumption)
             have q164 : x4_1 < (l0.length : Int) := of_decide_eq_true (by first | (with_reducible assumption) | assumption)
             obtain ⟨ad164, e164, hx164_0, hx164_1, hx164_2⟩ := at_T37 HR0.out x4_1 p164 q164
             (try rw [← Nbq32.out] at hx164_2)
             obtain rfl : ad140 = ad164 := (by injection e164)
             replace hx164_0 := (HB.out.cell (World.block_lt_of_cell? w _ hx164_0)).trans hx164_0
             replace hx164_1 := (HB.out.cell (World.block_lt_of_cell? w _ hx164_1)).trans hx164_1
             replace hx164_2 := (HB.out.cell (World.block_lt_of_cell? w _ hx164_2)).trans hx164_2
             replace p164 := eq_true p164
             replace q164 := eq_true q164
             have p42 : 0 ≤ (x5_2 : Int) := of_decide_eq_true (by first | (with_reducible assumption) | assumption)
             have q42 : (x5_2 : Int) < ((x3_1.length : Int) : Int) := of_decide_eq_true (by first | (with_reducible assumption) | assumption)
             obtain ⟨go42, co42, eo42, gb42, gl42, cl42, HG42⟩ := Kd.R_form HO_3.out (by omega)
             (first | cases eo42 | (injection eo42 with ea_ en_ ec_; (first | subst ea_ | (injection ea_ with ea_; subst ea_)); subst ec_; clear en_))
             have GB42 := Aside0.mk gb42
             have GG42 := Aside0.mk HG42
             clear gb42 gl42 HG42
             (first | simp only [add_plain] at hx139_0 | skip)
             (first | simp only [add_plain] at hx139_1 | skip)
             (first | simp only [add_plain] at hx139_2 | skip)
             (first | simp only [add_plain] at hx143_0 | skip)
             (first | simp only [add_plain] at hx143_1 | skip)
             (first | simp only [add_plain] at hx143_2 | skip)
             (first | simp only [add_plain] at hx162_0 | skip)
             (first | simp only [add_plain] at hx162_1 | skip)
             (first | simp only [add_plain] at hx162_2 | skip)
             obtain ⟨ce42, hcl42, hM42, hcc42, hfr42⟩ := Kd.R_elem HO_3.out z37 (x5_2 : Int) p42 q42
             obtain rfl := k37_openM hM42
             have hx42_0 : w47.cell? ⟨go42, (x5_2 : Int).toNat * 3, none⟩ = some (.int .i64 ((rd_T37 x3_1 x5_2).f0)) := hcc42 0 _ rfl
             have hx42_1 : w47.cell? ⟨go42, (x5_2 : Int).toNat * 3 + 1, none⟩ = some (.int .u8 ((rd_T37 x3_1 x5_2).f1)) := hcc42 1 _ rfl
             have hx42_2 : w47.cell? ⟨go42, (x5_2 : Int).toNat * 3 + 2, none⟩ = some (.bool ((rd_T37 x3_1 x5_2).f2)) := hcc42 2 _ rfl
             have hf42_0 : w47.frozen? ⟨go42, (x5_2 : Int).toNat * 3, none⟩ = false := hfr42 0
             have hf42_1 : w47.frozen? ⟨go42, (x5_2 : Int).toNat * 3 + 1, none⟩ = false := hfr42 1
             have hf42_2 : w47.frozen? ⟨go42, (x5_2 : Int).toNat * 3 + 2, none⟩ = false := hfr42 2
             clear hcl42 hcc42 hfr42 hM42
             replace p42 := eq_true p42
             replace q42 := eq_true q42
             have HX48 := Aside0.mk (show Kd.R k37 37 w47 w.heap.size (fun _ => True) (.slice (some ⟨go42, 0, none⟩) x3_1.length co44) x3_1 from (by (with_reducible repeat (first | apply Kd.R_alloc | apply Kd.R_drewN | apply Kd.R_drew)); exact HO_3.out))
             obtain ⟨ce48, hcl48, hM48, hcc48, hfr48⟩ := Kd.R_elem HX48.out z37 (x5_2 : Int) (of_decide_eq_true (by first | (with_reducible assumption) | assumption)) (by have h_ : (x5_2 : Int) < ((x3_1.length : Int) : Int) := of_decide_eq_true (by first | (with_reducible assumption) | assumption); first | exact h_ | (have e_ := (Kd.R_reads' HO_3.out).1; omega) | simpa using h_)
             obtain rfl := k37_openM hM48
             have HP48 := Kd.R_seg HX48.out (x5_2 : Int) (of_decide_eq_true (by first | (with_reducible assumption) | assumption)) (by have h_ : (x5_2 : Int) < ((x3_1.length : Int) : Int) := of_decide_eq_true (by first | (with_reducible assumption) | assumption); first | exact h_ | (have e_ := (Kd.R_reads' HO_3.out).1; omega) | simpa using h_) (seg := [.bool ((rd_T37 l0 x4_1).f2)]) (j := 2) hcl48 hcc48 (show 3 ≤ 3 from by decide) (x' := (⟨(rd_T37 x3_1 x5_2).f0, (rd_T37 x3_1 x5_2).f1, (rd_T37 l0 x4_1).f2⟩ : S37)) (k37_mkM _ _ _ (⟨(rd_T37 x3_1 x5_2).f0, (rd_T37 x3_1 x5_2).f1, (rd_T37 l0 x4_1).f2⟩ : S37) ) (fun _ hk => hk)
             have hx48_2 := hcc48 2 _ rfl
             (try simp only [show (k37).sz = 3 from rfl, Nat.mul_one, Nat.add_zero] at hx48_2)
             have hf48_2 := hfr48 2
             (try simp only [show (k37).sz = 3 from rfl, Nat.mul_one, Nat.add_zero] at hf48_2)
             clear hcl48 hcc48 hfr48 hM48
             try go_wp2_with (first | ((with_reducible refine gate_store (t := 4) (p := 61) rfl ?_); refine store_event (t := 4) (p := 61) (v := ?vo_w49) (w1 := (w47.setCell ⟨go42, (x5_2 : Int).toNat * 3 + 2, none⟩ (.bool ((rd_T37 l0 x4_1).f2)))) ?hg ?ho ?hn ?hr ?_; (case ho => rfl); (case hg => rfl); (case hn => rfl); (case hr => first | (go_simp; done) | (go_simp; rfl)); intro w49 hw; have hg : w47.grownBy w49 (some go42) := (by rw [hw]; exact HP48.2); have hp_ : Kd.R k37 37 w49 w.heap.size (fun _ => True) (.slice (some ⟨go42, 0, none⟩) x3_1.length co44) y165 := (by rw [hw, Ny165.out]; exact HP48.1); clear HP48; have n0_ := Aside0.mk (hp_); have n1_ := Aside0.mk ((by rw [hw]; exact below_set (HB.out) GB42.out : Below w.heap.size w w49)); clear HO_3; clear HB; have HO_3 := n0_; have HB := n1_; clear n0_ n1_; clear hg hw hp_))
             go_roundg k2
             case measure => have := HK1.out; have := HK2.out; omega
             case rel => exact ⟨(y165), (wrap64 (x4_1 + 1)), (by first | rfl | (simp; done) | (simp [*]; done)), H', ⟨by have := HK1.out; have := HK2.out; omega⟩, ⟨by (with_reducible repeat (first | apply Kd.R_alloc | apply Kd.R_drewN | apply Kd.R_drew)); exact HO_3.out⟩, ⟨by repeat (first | (with_reducible first | exact HB.out | apply below_alloc | apply pw_below_drewN | apply below_drew1) | exact HB.out)⟩⟩
         ·rw [if_neg c6] at H
          exact absurd H (by simp)
        ·rw [if_neg c5] at H
         exact absurd H (by simp)
       ·rw [if_neg c4] at H
        exact absurd H (by simp)
      ·rw [if_neg c3] at H
       have c3b0 : decide (x5_2 < (x3_1.length : Int)) = false := decide_eq_false c3
       clear c3
       by_cases c50 : 0 ≤ x5_2
       ·rw [if_pos c50] at H
        have c50b0 := eq_true c50
        have c50b1 : decide (0 ≤ x5_2) = true := decide_eq_true c50
        clear c50
        by_cases c51 : x5_2 ≤ (x3_1.length : Int)
        ·rw [if_pos c51] at H
         have c51b0 := eq_true c51
         have c51b1 : decide (x5_2 ≤ (x3_1.length : Int)) = true := decide_eq_true c51
         clear c51
         obtain ⟨y166, hy166⟩ : ∃ y_ : List (S37), y_ = (x3_1.drop (x5_2 : Int).toNat) := ⟨_, rfl⟩
         replace H : (if ([] : List (S37)).length + y166.length < 8796093022208 then ((some (([] : List (S37)) ++ y166 : List (S37))).bind fun y170 => ((some (x3_1.take (x5_2 : Int).toNat : List (S37))).bind fun y173 => (if 0 ≤ x4_1 then (if x4_1 < (l0.length : Int) then (if y173.length < 8796093022208 then ((some (y173 ++ [(⟨(rd_T37 l0 x4_1).f0, (rd_T37 l0 x4_1).f1, (rd_T37 l0 x4_1).f2⟩ : S37)] : List (S37))).bind fun y177 => (if y177.length + y170.length < 8796093022208 then (clepsydraref20_Sorted.l0 k2 l0 (y177 ++ y170) (wrap64 (x4_1 + 1))) else (none))) else (none)) else (none)) else (none)))) else (none)) = some r := by first | (rw [hy166]; with_reducible exact H) | (have H2_ := (Option.bind_some _ _).symm.trans H; rw [hy166]; with_reducible exact H2_) | (have H2_ := (Option.bind_some _ _).symm.trans H; with_reducible exact H2_) | with_reducible exact H | (rw [hy166]; exact H) | exact H
         have Ny166 := Aside0.mk hy166
         clear hy166
         by_cases c52 : ([] : List (S37)).length + y166.length < 8796093022208
         ·rw [if_pos c52] at H
          have LMc52 := Aside0.mk c52
          clear c52
          obtain ⟨y170, hy170⟩ : ∃ y_ : List (S37), y_ = (([] : List (S37)) ++ y166) := ⟨_, rfl⟩
          replace H : ((some (x3_1.take (x5_2 : Int).toNat : List (S37))).bind fun y173 => (if 0 ≤ x4_1 then (if x4_1 < (l0.length : Int) then (if y173.length < 8796093022208 then ((some (y173 ++ [(⟨(rd_T37 l0 x4_1).f0, (rd_T37 l0 x4_1).f1, (rd_T37 l0 x4_1).f2⟩ : S37)] : List (S37))).bind fun y177 => (if y177.length + y170.length < 8796093022208 then (clepsydraref20_Sorted.l0 k2 l0 (y177 ++ y170) (wrap64 (x4_1 + 1))) else (none))) else (none)) else (none)) else (none))) = some r := by first | (rw [hy170]; with_reducible exact H) | (have H2_ := (Option.bind_some _ _).symm.trans H; rw [hy170]; with_reducible exact H2_) | (have H2_ := (Option.bind_some _ _).symm.trans H; with_reducible exact H2_) | with_reducible exact H | (rw [hy170]; exact H) | exact H
          have Ny170 := Aside0.mk hy170
          clear hy170
          have c53b0 := eq_true (of_decide_eq_true (by first | (with_reducible assumption) | assumption) : x5_2 ≤ (x3_1.length : Int))
          obtain ⟨y173, hy173⟩ : ∃ y_ : List (S37), y_ = (x3_1.take (x5_2 : Int).toNat) := ⟨_, rfl⟩
          replace H : (if 0 ≤ x4_1 then (if x4_1 < (l0.length : Int) then (if y173.length < 8796093022208 then ((some (y173 ++ [(⟨(rd_T37 l0 x4_1).f0, (rd_T37 l0 x4_1).f1, (rd_T37 l0 x4_1).f2⟩ : S37)] : List (S37))).bind fun y177 => (if y177.length + y170.length < 8796093022208 then (clepsydraref20_Sorted.l0 k2 l0 (y177 ++ y170) (wrap64 (x4_1 + 1))) else (none))) else (none)) else (none)) else (none)) = some r := by first | (rw [hy173]; with_reducible exact H) | (have H2_ := (Option.bind_some _ _).symm.trans H; rw [hy173]; with_reducible exact H2_) | (have H2_ := (Option.bind_some _ _).symm.trans H; with_reducible exact H2_) | with_reducible exact H | (rw [hy173]; exact H) | exact H
          have Ny173 := Aside0.mk hy173
          clear hy173
          by_cases c54 : 0 ≤ x4_1
          ·rw [if_pos c54] at H
           have c54b0 : decide (0 ≤ x4_1) = true := decide_eq_true c54
           clear c54
           by_cases c55 : x4_1 < (l0.length : Int)
           ·rw [if_pos c55] at H
            have c55b0 : decide (x4_1 < (l0.length : Int)) = true := decide_eq_true c55
            clear c55
            by_cases c56 : y173.length < 8796093022208
            ·rw [if_pos c56] at H
             have LMc56 := Aside0.mk c56
             clear c56
             obtain ⟨y177, hy177⟩ : ∃ y_ : List (S37), y_ = (y173 ++ [(⟨(rd_T37 l0 x4_1).f0, (rd_T37 l0 x4_1).f1, (rd_T37 l0 x4_1).f2⟩ : S37)]) := ⟨_, rfl⟩
             replace H : (if y177.length + y170.length < 8796093022208 then (clepsydraref20_Sorted.l0 k2 l0 (y177 ++ y170) (wrap64 (x4_1 + 1))) else (none)) = some r := by first | (rw [hy177]; with_reducible exact H) | (have H2_ := (Option.bind_some _ _).symm.trans H; rw [hy177]; with_reducible exact H2_) | (have H2_ := (Option.bind_some _ _).symm.trans H; with_reducible exact H2_) | with_reducible exact H | (rw [hy177]; exact H) | exact H
             have Ny177 := Aside0.mk hy177
             clear hy177
             by_cases c57 : y177.length + y170.length < 8796093022208
             ·rw [if_pos c57] at H
              have LMc57 := Aside0.mk c57
              clear c57
              obtain ⟨y180, hy180⟩ : ∃ y_ : List (S37), y_ = (y177 ++ y170) := ⟨_, rfl⟩
              replace H : (clepsydraref20_Sorted.l0 k2 l0 y180 (wrap64 (x4_1 + 1))) = some r := by first | (rw [hy180]; with_reducible exact H) | (have H2_ := (Option.bind_some _ _).symm.trans H; rw [hy180]; with_reducible exact H2_) | (have H2_ := (Option.bind_some _ _).symm.trans H; with_reducible exact H2_) | with_reducible exact H | (rw [hy180]; exact H) | exact H
              have Ny180 := Aside0.mk hy180
              clear hy180
              have H' := Aside0.mk H
              clear H
              try go_wp2
              have n0_ := Aside0.mk (Kd.R_drew HO_3.out)
              have n1_ := Aside0.mk (below_drew1 HB.out)
              clear HO_3
              clear HB
              have HO_3 := n0_
              have HB := n1_
              clear n0_ n1_
              obtain ⟨Ao59, co59, eo59⟩ := Kd.R_slice HO_3.out
              (first | subst eo59 | (injection eo59 with f1_ f2_ f3_; have f4_ := f1_.symm; have f5_ := f3_.symm; clear f1_ f2_ f3_; subst f4_; subst f5_))
              refine start_ (n := 15) (S := fun w' => True) (ds := []) u5_0 (by kernel_rfl) rfl rfl trivial (fun hHeld => ?_); refine with_tabW clepsydraref20_Sorted.tab6 clepsydraref20_Sorted.bits6 (fun HT_ HW_ => ?_)
              generalize wr.drew = w58 at HO_3 HB hHeld ⊢
              refine pure_ (i := 0) (N := some 13) (v := ?_) (a' := ?_) u5_1 rfl rfl (any_of HT_.out (by kernel_rfl)) (fun _ _ _ h => h) (Or.inl ⟨by rfl, ?_⟩) ?_ ?_
              rotate_left
              ·intro w'
               go_simp
               with_reducible rfl
              rotate_left
              ·simp only [Act.put, s0_, s1_, s2_, i64_w, i32_w]
               rfl
              refine pure_ (i := 1) (N := some 14) (v := ?_) (a' := ?_) u5_2 rfl rfl (any_of HT_.out (by kernel_rfl)) (fun _ _ _ h => h) (Or.inl ⟨by rfl, ?_⟩) ?_ ?_
              rotate_left
              ·intro w'
               go_simp
               with_reducible rfl
              rotate_left
              ·simp only [Act.put, s0_, s1_, s2_, i64_w, i32_w]
               rfl
              refine pure_ (i := 2) (N := some 15) (v := ?_) (a' := ?_) u5_3 rfl rfl (any_of HT_.out (by kernel_rfl)) (fun _ _ _ h => h) (Or.inl ⟨by rfl, ?_⟩) ?_ ?_
              rotate_left
              ·intro w'
               go_simp
               with_reducible rfl
              rotate_left
              ·simp only [Act.put, s0_, s1_, s2_, i64_w, i32_w]
               rfl
              refine pure_ (i := 3) (N := some 16) (v := ?_) (a' := ?_) u5_4 rfl rfl (any_of HT_.out (by kernel_rfl)) (fun _ _ _ h => h) (Or.inl ⟨by rfl, ?_⟩) ?_ ?_
              rotate_left
              ·intro w'
               go_simp
               with_reducible rfl
              rotate_left
              ·simp only [Act.put, s0_, s1_, s2_, i64_w, i32_w]
               rfl
              refine pure_ (i := 4) (N := some 17) (v := ?_) (a' := ?_) u5_5 rfl rfl (any_of HT_.out (by kernel_rfl)) (fun _ _ _ h => h) (Or.inl ⟨by rfl, ?_⟩) ?_ ?_
              rotate_left
              ·intro w'
               go_simp
               with_reducible rfl
              rotate_left
              ·simp only [Act.put, s0_, s1_, s2_, i64_w, i32_w]
               rfl
              refine pure_ (i := 5) (N := some 18) (v := undef) (a' := ?_) u5_6 rfl rfl (any_of HT_.out (by kernel_rfl)) (fun _ _ _ h => h) (Or.inr ⟨by rfl, rfl⟩) ?_ ?_
              rotate_left
              ·simp only [Act.put, s0_, s1_, s2_, i64_w, i32_w]
               rfl
              refine pure_ (i := 6) (N := some 19) (v := undef) (a' := ?_) u5_7 rfl rfl (any_of HT_.out (by kernel_rfl)) (fun _ _ _ h => h) (Or.inr ⟨by rfl, rfl⟩) ?_ ?_
              rotate_left
              ·simp only [Act.put, s0_, s1_, s2_, i64_w, i32_w]
               rfl
              refine pure_ (i := 7) (N := some 20) (v := undef) (a' := ?_) u5_8 rfl rfl (any_of HT_.out (by kernel_rfl)) (fun _ _ _ h => h) (Or.inr ⟨by rfl, rfl⟩) ?_ ?_
              rotate_left
              ·simp only [Act.put, s0_, s1_, s2_, i64_w, i32_w]
               rfl
              refine pure_ (i := 8) (N := some 21) (v := undef) (a' := ?_) u5_46 rfl rfl (any_of HT_.out (by kernel_rfl)) (fun _ _ _ h => h) (Or.inr ⟨by rfl, rfl⟩) ?_ ?_
              rotate_left
              ·simp only [Act.put, s0_, s1_, s2_, i64_w, i32_w]
               rfl
              refine pure_ (i := 9) (N := some 22) (v := undef) (a' := ?_) u5_47 rfl rfl (any_of HT_.out (by kernel_rfl)) (fun _ _ _ h => h) (Or.inr ⟨by rfl, rfl⟩) ?_ ?_
              rotate_left
              ·simp only [Act.put, s0_, s1_, s2_, i64_w, i32_w]
               rfl
              refine pure_ (i := 10) (N := some 23) (v := undef) (a' := ?_) u5_48 rfl rfl (any_of HT_.out (by kernel_rfl)) (fun _ _ _ h => h) (Or.inr ⟨by rfl, rfl⟩) ?_ ?_
              rotate_left
              ·simp only [Act.put, s0_, s1_, s2_, i64_w, i32_w]
               rfl
              refine pure_ (i := 11) (N := some 24) (v := undef) (a' := ?_) u5_12 rfl rfl (any_of HT_.out (by kernel_rfl)) (fun _ _ _ h => h) (Or.inr ⟨by rfl, rfl⟩) ?_ ?_
              rotate_left
              ·simp only [Act.put, s0_, s1_, s2_, i64_w, i32_w]
               rfl
              refine pure_ (i := 12) (N := some 25) (v := undef) (a' := ?_) u5_13 rfl rfl (any_of HT_.out (by kernel_rfl)) (fun _ _ _ h => h) (Or.inr ⟨by rfl, rfl⟩) ?_ ?_
              rotate_left
              ·simp only [Act.put, s0_, s1_, s2_, i64_w, i32_w]
               rfl
              refine pure_ (i := 13) (N := some 26) (v := undef) (a' := ?_) u5_14 rfl rfl (any_of HT_.out (by kernel_rfl)) (fun _ _ _ h => h) (Or.inr ⟨by rfl, rfl⟩) ?_ ?_
              rotate_left
              ·simp only [Act.put, s0_, s1_, s2_, i64_w, i32_w]
               rfl
              refine pure_ (i := 14) (N := some 27) (v := ?_) (a' := ?_) u5_15 rfl rfl (any_of HT_.out (by kernel_rfl)) (fun _ _ _ h => h) (Or.inl ⟨by rfl, ?_⟩) ?_ ?_
              rotate_left
              ·intro w'
               go_simp
               with_reducible rfl
              rotate_left
              ·simp only [Act.put, s0_, s1_, s2_, i64_w, i32_w]
               rfl
              refine done_ (done_of HT_.out (by kernel_rfl)) ?_
              try go_wp2
              have n0_ := Aside0.mk (Kd.R_drew HO_3.out)
              have n1_ := Aside0.mk (below_drew1 HB.out)
              clear HO_3
              clear HB
              have HO_3 := n0_
              have HB := n1_
              clear n0_ n1_
              refine start_ (n := 16) (S := fun w' => True) (ds := []) u5_16 (by kernel_rfl) rfl rfl trivial (fun hHeld => ?_); refine with_tabW clepsydraref20_Sorted.tab8 clepsydraref20_Sorted.bits8 (fun HT_ HW_ => ?_)
              generalize w58.drew = w60 at HO_3 HB hHeld ⊢
              refine pure_ (i := 0) (N := some 30) (v := ?_) (a' := ?_) u5_17 rfl rfl (any_of HT_.out (by kernel_rfl)) (fun _ _ _ h => h) (Or.inl ⟨by rfl, ?_⟩) ?_ ?_
              rotate_left
              ·intro w'
               go_simp
               with_reducible rfl
              rotate_left
              ·simp only [Act.put, s0_, s1_, s2_, i64_w, i32_w]
               rfl
              refine pure_ (i := 1) (N := some 31) (v := ?_) (a' := ?_) u5_18 rfl rfl (any_of HT_.out (by kernel_rfl)) (fun _ _ _ h => h) (Or.inl ⟨by rfl, ?_⟩) ?_ ?_
              rotate_left
              ·intro w'
               go_simp
               with_reducible rfl
              rotate_left
              ·simp only [Act.put, s0_, s1_, s2_, i64_w, i32_w]
               rfl
              refine pure_ (i := 2) (N := some 32) (v := ?_) (a' := ?_) u5_19 rfl rfl (any_of HT_.out (by kernel_rfl)) (fun _ _ _ h => h) (Or.inl ⟨by rfl, ?_⟩) ?_ ?_
              rotate_left
              ·intro w'
               go_simp
               with_reducible rfl
              rotate_left
              ·simp only [Act.put, s0_, s1_, s2_, i64_w, i32_w]
               rfl
              refine pure_ (i := 3) (N := some 33) (v := ?_) (a' := ?_) u5_20 rfl rfl (any_of HT_.out (by kernel_rfl)) (fun _ _ _ h => h) (Or.inl ⟨by rfl, ?_⟩) ?_ ?_
              rotate_left
              ·intro w'
               go_simp
               with_reducible rfl
              rotate_left
              ·simp only [Act.put, s0_, s1_, s2_, i64_w, i32_w]
               rfl
              refine pure_ (i := 4) (N := some 34) (v := ?_) (a' := ?_) u5_21 rfl rfl (any_of HT_.out (by kernel_rfl)) (fun _ _ _ h => h) (Or.inl ⟨by rfl, ?_⟩) ?_ ?_
              rotate_left
              ·intro w'
               go_simp
               with_reducible rfl
              rotate_left
              ·simp only [Act.put, s0_, s1_, s2_, i64_w, i32_w]
               rfl
              refine pure_ (i := 5) (N := some 35) (v := undef) (a' := ?_) u5_22 rfl rfl (any_of HT_.out (by kernel_rfl)) (fun _ _ _ h => h) (Or.inr ⟨by rfl, rfl⟩) ?_ ?_
              rotate_left
              ·simp only [Act.put, s0_, s1_, s2_, i64_w, i32_w]
               rfl
              refine pure_ (i := 6) (N := some 36) (v := undef) (a' := ?_) u5_23 rfl rfl (any_of HT_.out (by kernel_rfl)) (fun _ _ _ h => h) (Or.inr ⟨by rfl, rfl⟩) ?_ ?_
              rotate_left
              ·simp only [Act.put, s0_, s1_, s2_, i64_w, i32_w]
               rfl
              refine pure_ (i := 7) (N := some 37) (v := undef) (a' := ?_) u5_24 rfl rfl (any_of HT_.out (by kernel_rfl)) (fun _ _ _ h => h) (Or.inr ⟨by rfl, rfl⟩) ?_ ?_
              rotate_left
              ·simp only [Act.put, s0_, s1_, s2_, i64_w, i32_w]
               rfl
              refine pure_ (i := 8) (N := some 38) (v := undef) (a' := ?_) u5_49 rfl rfl (any_of HT_.out (by kernel_rfl)) (fun _ _ _ h => h) (Or.inr ⟨by rfl, rfl⟩) ?_ ?_
              rotate_left
              ·simp only [Act.put, s0_, s1_, s2_, i64_w, i32_w]
               rfl
              refine pure_ (i := 9) (N := some 39) (v := undef) (a' := ?_) u5_50 rfl rfl (any_of HT_.out (by kernel_rfl)) (fun _ _ _ h => h) (Or.inr ⟨by rfl, rfl⟩) ?_ ?_
              rotate_left
              ·simp only [Act.put, s0_, s1_, s2_, i64_w, i32_w]
               rfl
              refine pure_ (i := 10) (N := some 40) (v := undef) (a' := ?_) u5_51 rfl rfl (any_of HT_.out (by kernel_rfl)) (fun _ _ _ h => h) (Or.inr ⟨by rfl, rfl⟩) ?_ ?_
              rotate_left
              ·simp only [Act.put, s0_, s1_, s2_, i64_w, i32_w]
               rfl
              refine pure_ (i := 11) (N := some 41) (v := undef) (a' := ?_) u5_28 rfl rfl (any_of HT_.out (by kernel_rfl)) (fun _ _ _ h => h) (Or.inr ⟨by rfl, rfl⟩) ?_ ?_
              rotate_left
              ·simp only [Act.put, s0_, s1_, s2_, i64_w, i32_w]
               rfl
              refine pure_ (i := 12) (N := some 42) (v := undef) (a' := ?_) u5_29 rfl rfl (any_of HT_.out (by kernel_rfl)) (fun _ _ _ h => h) (Or.inr ⟨by rfl, rfl⟩) ?_ ?_
              rotate_left
              ·simp only [Act.put, s0_, s1_, s2_, i64_w, i32_w]
               rfl
              refine pure_ (i := 13) (N := some 43) (v := undef) (a' := ?_) u5_30 rfl rfl (any_of HT_.out (by kernel_rfl)) (fun _ _ _ h => h) (Or.inr ⟨by rfl, rfl⟩) ?_ ?_
              rotate_left
              ·simp only [Act.put, s0_, s1_, s2_, i64_w, i32_w]
               rfl
              refine pure_ (i := 14) (N := some 44) (v := undef) (a' := ?_) u5_31 rfl rfl (any_of HT_.out (by kernel_rfl)) (fun _ _ _ h => h) (Or.inr ⟨by rfl, rfl⟩) ?_ ?_
              rotate_left
              ·simp only [Act.put, s0_, s1_, s2_, i64_w, i32_w]
               rfl
              refine pure_ (i := 15) (N := some 45) (v := ?_) (a' := ?_) u5_32 rfl rfl (any_of HT_.out (by kernel_rfl)) (fun _ _ _ h => h) (Or.inl ⟨by rfl, ?_⟩) ?_ ?_
              rotate_left
              ·intro w'
               go_simp
               with_reducible rfl
              rotate_left
              ·simp only [Act.put, s0_, s1_, s2_, i64_w, i32_w]
               rfl
              refine done_ (done_of HT_.out (by kernel_rfl)) ?_
              have q61 : (x5_2 : Int) ≤ ((x3_1.length : Int) : Int) := of_decide_eq_true (by first | (with_reducible assumption) | assumption)
              obtain ⟨i061, hi061, _, hsz61, _⟩ := info_parts info37
              have hroom61 : x3_1.length ≤ co59 := (Kd.R_reads' HO_3.out).2.1
              have hC61 : Kd.C k37 _ Ao59 x3_1.length x3_1 := (Kd.R_reads' HO_3.out).2.2
              have q061 : (0 : Int) ≤ (x5_2 : Int) := of_decide_eq_true (by first | (with_reducible assumption) | assumption)
              have hcut61 := cut_from (P := Try.prog) 24 37 .i64 Try.underlying24 hi061 3 hsz61 Ao59 x3_1.length co59 x5_2 q061 q61
              have hr61 := Kd.C_drop (m := (x5_2 : Int).toNat) (c := co59) hC61 (by omega) hroom61
              obtain ⟨A61, hA61⟩ : ∃ A1, A1 = (if co59 = (x5_2 : Int).toNat then Ao59 else (Ao59 : Option Addr).map (·.add ((x5_2 : Int).toNat * 3))) := ⟨_, rfl⟩
              obtain ⟨c61, hc61⟩ : ∃ c1, c1 = co59 - (x5_2 : Int).toNat := ⟨_, rfl⟩
              have hy61 : y166.length = x3_1.length - (x5_2 : Int).toNat := (by rw [Ny166.out, List.length_drop] <;> omega)
              rw [show (x3_1).drop (x5_2 : Int).toNat = y166 from Ny166.out.symm] at hr61
              replace hr61 : Kd.C k37 _ A61 y166.length y166 := (by rw [hA61]; exact hr61)
              rw [← hy61, ← hA61, ← hc61] at hcut61
              have HR169 := Aside0.mk hr61
              have HC169 := Aside0.mk (show y166.length ≤ c61 from by rw [hy61, hc61]; exact Nat.sub_le_sub_right hroom61 _)
              clear hr61 hC61 hroom61 hi061 hsz61 hc61
              have KY61 := Aside0.mk hy61
              have KA61 := Aside0.mk hA61
              clear hy61 hA61
              have KL61 := Aside0.mk (show (x5_2 : Int).toNat ≤ x3_1.length from by omega)
              replace q61 := eq_true q61
              try go_wp2_with (first | ((with_reducible refine gate_builtin (b := .append) (xs := #[.tmp 62, .tmp 65]) rfl ?_); at_builtin; refine Kd.R_append_rows k37 (w0 := w) w.heap.size rfl (.tmp 62) (.tmp 65) 24 37 (.agg #[(.int .i64 0), (.int .u8 0), (.bool false)]) 16 rfl Try.underlying24 info37 rfl (by decide) (by omega) (.slice none 0 0) ([] : List (S37)) y166 _ _ _ (fun k_ => some k_ ≠ (.slice Ao59 x3_1.length co59 : Value).ownBlock) (fun _ => False) rfl rfl ?aO ?aR (fun _ _ h => h) (fun _ h => h.elim) ?aF ?aB ?aS ?aL ?_; (case aR => repeat (first | exact (by repeat (first | (with_reducible exact HR169.out) | (with_reducible refine Kd.C_alloc ?_ _) | (with_reducible refine Kd.C_drewN ?_ _) | (with_reducible refine Kd.C_drew ?_) | exact HR169.out)) | (with_reducible refine Kd.C_alloc ?_ _) | (with_reducible refine Kd.C_drewN ?_ _) | (with_reducible refine Kd.C_drew ?_))); (case aB => exact (by repeat (first | (with_reducible first | exact HB.out | apply below_alloc | apply pw_below_drewN | apply below_drew1) | exact HB.out))); (case aF => exact (fun k_ hk => Kd.fresh' (Kd.R_lt (by (with_reducible repeat (first | apply Kd.R_alloc | apply Kd.R_drewN | apply Kd.R_drew)); exact HO_3.out)) k_ hk)); (case aO => exact ((Kd.R_nil _ _ _ _ (fun k_ => some k_ ≠ (.slice Ao59 x3_1.length co59 : Value).ownBlock)))); (case aS => exact (below_size (by repeat (first | (with_reducible first | exact HB.out | apply below_alloc | apply pw_below_drewN | apply below_drew1) | exact HB.out)))); (case aL => have := LMc52.out; omega); intro v171 w62 ho hb hg hat; rw [← Ny170.out] at ho; have n0_ := Aside0.mk (Kd.R_after (Kd.R_apart_nil (by (with_reducible repeat (first | apply Kd.R_alloc | apply Kd.R_drewN | apply Kd.R_drew)); exact HO_3.out)) hg hat); have n1_ := Aside0.mk (hb); have n2_ := Aside0.mk ((show Kd.C k37 w62 A61 y166.length y166 from by rw [Ny166.out, KA61.out]; exact Kd.C_drop (m := (x5_2 : Int).toNat) (c := co59) ((Kd.R_reads' (Kd.R_after (Kd.R_apart_nil (by (with_reducible repeat (first | apply Kd.R_alloc | apply Kd.R_drewN | apply Kd.R_drew)); exact HO_3.out)) hg hat)).2.2) KL61.out ((Kd.R_reads' (Kd.R_after (Kd.R_apart_nil (by (with_reducible repeat (first | apply Kd.R_alloc | apply Kd.R_drewN | apply Kd.R_drew)); exact HO_3.out)) hg hat)).2.1))); have n3_ := Aside0.mk (ho); clear HO_3; clear HB; clear HR169; have HO_3 := n0_; have HB := n1_; have HR169 := n2_; have HO172 := n3_; clear n0_ n1_ n2_ n3_; clear ho hb hg hat))
              have n0_ := Aside0.mk (Kd.R_drew HO_3.out)
              have n1_ := Aside0.mk (Kd.R_drew HO172.out)
              have n2_ := Aside0.mk (Kd.C_drew HR169.out)
              have n3_ := Aside0.mk (below_drew1 HB.out)
              clear HO_3
              clear HO172
              clear HR169
              clear HB
              have HO_3 := n0_
              have HO172 := n1_
              have HR169 := n2_
              have HB := n3_
              clear n0_ n1_ n2_ n3_
              have q64 : (x5_2 : Int) ≤ ((x3_1.length : Int) : Int) := of_decide_eq_true (by first | (with_reducible assumption) | assumption)
              obtain ⟨i064, hi064, _, hsz64, _⟩ := info_parts info37
              have hcut64 := cut_to (P := Try.prog) 24 37 .i64 Try.underlying24 hi064 Ao59 x3_1.length co59 x5_2 (of_decide_eq_true (by first | (with_reducible assumption) | assumption)) q64 (Kd.R_reads' HO_3.out).2.1
              have hr64 := Kd.R_take (m := (x5_2 : Int).toNat) HO_3.out (by omega)
              have hy64 : y173.length = (x5_2 : Int).toNat := (by rw [Ny173.out, List.length_take]; omega)
              rw [← Ny173.out] at hr64
              rw [← hy64] at hr64 hcut64
              clear hy64 hi064 hsz64 HO_3
              have HO175 := Aside0.mk hr64
              clear hr64
              replace q64 := eq_true q64
              have p176 : 0 ≤ (x4_1 : Int) := of_decide_eq_true (by first | (with_reducible assumption) | assumption)
              have q176 : x4_1 < (l0.length : Int) := of_decide_eq_true (by first | (with_reducible assumption) | assumption)
              obtain ⟨ad176, e176, hx176_0, hx176_1, hx176_2⟩ := at_T37 HR0.out x4_1 p176 q176
              have hw176_2 := hx176_2
              have hw176_1 := hx176_1
              have hw176_0 := hx176_0
              cases e176
              replace hx176_0 := (HB.out.cell (World.block_lt_of_cell? w _ hx176_0)).trans hx176_0
              replace hx176_1 := (HB.out.cell (World.block_lt_of_cell? w _ hx176_1)).trans hx176_1
              replace hx176_2 := (HB.out.cell (World.block_lt_of_cell? w _ hx176_2)).trans hx176_2
              replace p176 := eq_true p176
              replace q176 := eq_true q176
              refine start_ (n := 12) (S := fun w' => w'.cell? (ad176.add ((x4_1).toNat * 3)) = some (.int .i64 ((rd_T37 l0 x4_1).f0)) ∧ w'.cell? ⟨(ad176.add ((x4_1).toNat * 3)).block, (ad176.add ((x4_1).toNat * 3)).off + 1, none⟩ = some (.int .u8 ((rd_T37 l0 x4_1).f1)) ∧ w'.cell? ⟨(ad176.add ((x4_1).toNat * 3)).block, (ad176.add ((x4_1).toNat * 3)).off + 2, none⟩ = some (.bool ((rd_T37 l0 x4_1).f2))) (ds := []) u5_33 (by kernel_rfl) rfl rfl ⟨((HB.out.cell (World.block_lt_of_cell? w _ hw176_0)).trans hw176_0), ((HB.out.cell (World.block_lt_of_cell? w _ hw176_1)).trans hw176_1), ((HB.out.cell (World.block_lt_of_cell? w _ hw176_2)).trans hw176_2)⟩ (fun hHeld => ?_); refine with_tabW clepsydraref20_Sorted.tab12 clepsydraref20_Sorted.bits12 (fun HT_ HW_ => ?_)
              generalize w62.drew = w63 at HO_3 HO172 HR169 HB HO175 hx176_0 hx176_1 hx176_2 hHeld ⊢
              refine pure_ (i := 0) (N := some 67) (v := ?_) (a' := ?_) u5_34 rfl rfl (any_of HT_.out (by kernel_rfl)) (fun _ _ _ h => h) (Or.inl ⟨by rfl, ?_⟩) ?_ ?_
              rotate_left
              ·intro w'
               go_simp
               with_reducible rfl
              rotate_left
              ·simp only [Act.put, s0_, s1_, s2_, i64_w, i32_w]
               rfl
              refine pure_ (i := 1) (N := some 68) (v := ?_) (a' := ?_) u5_35 rfl rfl (any_of HT_.out (by kernel_rfl)) (fun _ _ _ h => h) (Or.inl ⟨by rfl, ?_⟩) ?_ ?_
              rotate_left
              ·intro w'
               go_simp
               with_reducible rfl
              rotate_left
              ·simp only [Act.put, s0_, s1_, s2_, i64_w, i32_w]
               rfl
              refine pure_ (i := 2) (N := some 69) (v := ?_) (a' := ?_) u5_36 rfl rfl (any_of HT_.out (by kernel_rfl)) (fun _ _ _ h => h) (Or.inl ⟨by rfl, ?_⟩) ?_ ?_
              rotate_left
              ·intro w'
               go_simp
               with_reducible rfl
              rotate_left
              ·simp only [Act.put, s0_, s1_, s2_, i64_w, i32_w]
               rfl
              refine pure_ (i := 3) (N := some 70) (v := ?_) (a' := ?_) u5_37 rfl rfl (any_of HT_.out (by kernel_rfl)) (fun _ _ _ h => h) (Or.inl ⟨by rfl, ?_⟩) ?_ ?_
              rotate_left
              ·intro w'
               go_simp
               with_reducible rfl
              rotate_left
              ·simp only [Act.put, s0_, s1_, s2_, i64_w, i32_w]
               rfl
              refine pure_ (i := 4) (N := some 71) (v := ?_) (a' := ?_) u5_38 rfl rfl (any_of HT_.out (by kernel_rfl)) (fun _ _ _ h => h) (Or.inl ⟨by rfl, ?_⟩) ?_ ?_
              rotate_left
              ·intro w'
               go_simp
               with_reducible rfl
              rotate_left
              ·simp only [Act.put, s0_, s1_, s2_, i64_w, i32_w]
               rfl
              refine pure_ (i := 5) (N := some 72) (v := ?_) (a' := ?_) u5_39 rfl rfl (any_of HT_.out (by kernel_rfl)) (fun _ _ _ h => h) (Or.inl ⟨by rfl, ?_⟩) ?_ ?_
              rotate_left
              ·intro w'
               go_simp
               with_reducible rfl
              rotate_left
              ·simp only [Act.put, s0_, s1_, s2_, i64_w, i32_w]
               rfl
              refine pure_ (i := 9) (N := some 76) (v := ?_) (a' := ?_) u5_40 rfl rfl (any_of HT_.out (by kernel_rfl)) (fun _ _ _ h => h) (Or.inl ⟨by rfl, ?_⟩) ?_ ?_
              rotate_left
              ·intro w'
               go_simp
               with_reducible rfl
              rotate_left
              ·simp only [Act.put, s0_, s1_, s2_, i64_w, i32_w]
               rfl
              refine take_ (i := 6) (N := some 73) (v := ?_) (a' := ?_) u5_41 rfl rfl (take_ofW HT_.out HW_.out (by kernel_rfl)) (fun _ _ _ h => h) (Or.inl ⟨by rfl, ?_⟩) hHeld ?_ ?_
              rotate_left
              ·rintro w' ⟨s0, s1, s2⟩
               go_simp
               with_reducible rfl
              rotate_left
              ·simp only [Act.put, s0_, s1_, s2_, i64_w, i32_w]
               rfl
              refine one_ (i := 7) (N := some 74) u5_42 rfl rfl (one_of HT_.out (by kernel_rfl)) (by decide) (fun K hK => ?_)
              refine value_ (w1 := ?_) (v := ?_) (by rfl) rfl ?_ ?_
              rotate_left 2
              ·go_simp
               constructor
               ·rfl
               ·rfl
              refine hK.out _ _ ⟨(World.cell?_alloc_lt _ _ _ (World.block_lt_of_cell? _ _ (((HB.out.cell (World.block_lt_of_cell? w _ hw176_0)).trans hw176_0)))).trans (((HB.out.cell (World.block_lt_of_cell? w _ hw176_0)).trans hw176_0)), (World.cell?_alloc_lt _ _ _ (World.block_lt_of_cell? _ _ (((HB.out.cell (World.block_lt_of_cell? w _ hw176_1)).trans hw176_1)))).trans (((HB.out.cell (World.block_lt_of_cell? w _ hw176_1)).trans hw176_1)), (World.cell?_alloc_lt _ _ _ (World.block_lt_of_cell? _ _ (((HB.out.cell (World.block_lt_of_cell? w _ hw176_2)).trans hw176_2)))).trans (((HB.out.cell (World.block_lt_of_cell? w _ hw176_2)).trans hw176_2))⟩ (fun hHeld => ?_)
              clear hK K
              refine norm_ (a' := ?_) ?_ ?_
              rotate_left
              ·show Act.put _ (some 74) _ = _
               simp only [Act.put, s0_, s1_, s2_, i64_w, i32_w]
               rfl
              refine one_ (i := 8) (N := some 75) u5_43 rfl rfl (one_of HT_.out (by kernel_rfl)) (by decide) (fun K hK => ?_)
              refine Kd.R_append_step k37 (w0 := w) w.heap.size (by rfl) (.tmp 69) (.tmp 74) 24 37 (.agg #[(.int .i64 0), (.int .u8 0), (.bool false)]) 16 rfl Try.underlying24 info37 rfl (by decide) (by omega) (.slice Ao59 y173.length co59) y173 (⟨(rd_T37 l0 x4_1).f0, (rd_T37 l0 x4_1).f1, (rd_T37 l0 x4_1).f2⟩ : S37) [.int .i64 ((rd_T37 l0 x4_1).f0), .int .u8 ((rd_T37 l0 x4_1).f1), .bool ((rd_T37 l0 x4_1).f2)] (fun k_ => some k_ ≠ (v171 : Value).ownBlock) (fun _ => False) rfl rfl ?aP (fun _ hk => hk.elim) ?aF ?aO ?aB ?aS ?aL ?_
              (case aP => exact k37_mkM _ _ _ (⟨(rd_T37 l0 x4_1).f0, (rd_T37 l0 x4_1).f1, (rd_T37 l0 x4_1).f2⟩ : S37))
              (case aB => exact (by repeat (first | (with_reducible first | exact HB.out | apply below_alloc | apply pw_below_drewN | apply below_drew1) | exact HB.out)))
              (case aF => exact (fun k_ hk => Kd.fresh' (Kd.R_lt (by (with_reducible repeat (first | apply Kd.R_alloc | apply Kd.R_drewN | apply Kd.R_drew)); exact HO172.out)) k_ hk))
              (case aO => exact (by (with_reducible repeat (first | apply Kd.R_alloc | apply Kd.R_drewN | apply Kd.R_drew)); exact Kd.R_mono HO175.out (fun _ hk => hk.2)))
              (case aS => exact (below_size (by repeat (first | (with_reducible first | exact HB.out | apply below_alloc | apply pw_below_drewN | apply below_drew1) | exact HB.out))))
              (case aL => have := LMc56.out; omega)
              intro v178 w65 ho hb hg hat
              rw [← Ny177.out] at ho
              have n0_ := Aside0.mk (Kd.R_after (ok := (fun _ => True)) (by (with_reducible repeat (first | apply Kd.R_alloc | apply Kd.R_drewN | apply Kd.R_drew)); exact Kd.R_mono HO172.out (fun _ hk => ⟨trivial, fun e_ => hk (e_.trans (ownlen_ _ _ _ _))⟩)) hg hat)
              have n1_ := Aside0.mk (hb)
              have n2_ := Aside0.mk (ho)
              clear HO172
              clear HB
              clear HO175
              have HO172 := n0_
              have HB := n1_
              have HO179 := n2_
              clear n0_ n1_ n2_
              clear ho hb hg hat
              obtain ⟨Ao67, co67, eo67⟩ := Kd.R_slice HO172.out
              (first | subst eo67 | (injection eo67 with f1_ f2_ f3_; have f4_ := f1_.symm; have f5_ := f3_.symm; clear f1_ f2_ f3_; subst f4_; subst f5_))
              refine hK.out _ _ ⟨((HB.out.cell (World.block_lt_of_cell? w _ hw176_0)).trans hw176_0), ((HB.out.cell (World.block_lt_of_cell? w _ hw176_1)).trans hw176_1), ((HB.out.cell (World.block_lt_of_cell? w _ hw176_2)).trans hw176_2)⟩ (fun hHeld => ?_)
              clear hK K
              refine norm_ (a' := ?_) ?_ ?_
              rotate_left
              ·show Act.put _ (some 75) _ = _
               simp only [Act.put, s0_, s1_, s2_, i64_w, i32_w]
               rfl
              refine one_ (i := 10) (N := some 77) u5_44 rfl rfl (one_of HT_.out (by kernel_rfl)) (by decide) (fun K hK => ?_)
              refine Kd.R_append_rows_step k37 (w0 := w) w.heap.size (by rfl) (.tmp 75) (.tmp 76) 24 37 (.agg #[(.int .i64 0), (.int .u8 0), (.bool false)]) 16 rfl Try.underlying24 info37 rfl (by decide) (by omega) v178 y177 y170 _ _ _ (fun k_ => some k_ ≠ (.slice Ao67 y170.length co67 : Value).ownBlock) (fun _ => False) rfl rfl ?aO ?aR (fun _ _ h => h) (fun _ h => h.elim) ?aF ?aB ?aS ?aL ?_
              (case aR => repeat (first | exact (Kd.R_reads' HO172.out).2.2 | (with_reducible refine Kd.C_alloc ?_ _) | (with_reducible refine Kd.C_drewN ?_ _) | (with_reducible refine Kd.C_drew ?_)))
              (case aB => exact (by repeat (first | (with_reducible first | exact HB.out | apply below_alloc | apply pw_below_drewN | apply below_drew1) | exact HB.out)))
              (case aF => exact (fun k_ hk => Kd.fresh' (Kd.R_lt (by (with_reducible repeat (first | apply Kd.R_alloc | apply Kd.R_drewN | apply Kd.R_drew)); exact HO172.out)) k_ hk))
              (case aO => exact (by (with_reducible repeat (first | apply Kd.R_alloc | apply Kd.R_drewN | apply Kd.R_drew)); exact HO179.out))
              (case aS => exact (below_size (by repeat (first | (with_reducible first | exact HB.out | apply below_alloc | apply pw_below_drewN | apply below_drew1) | exact HB.out))))
              (case aL => have := LMc57.out; omega)
              intro v181 w66 ho hb hg hat
              rw [← Ny180.out] at ho
              have n0_ := Aside0.mk (Kd.R_after (ok := (fun _ => True)) (by (with_reducible repeat (first | apply Kd.R_alloc | apply Kd.R_drewN | apply Kd.R_drew)); exact HO172.out) hg hat)
              have n1_ := Aside0.mk (hb)
              have n2_ := Aside0.mk (ho)
              clear HO172
              clear HB
              clear HO179
              have HO172 := n0_
              have HB := n1_
              have HO182 := n2_
              clear n0_ n1_ n2_
              clear ho hb hg hat
              refine hK.out _ _ ⟨((HB.out.cell (World.block_lt_of_cell? w _ hw176_0)).trans hw176_0), ((HB.out.cell (World.block_lt_of_cell? w _ hw176_1)).trans hw176_1), ((HB.out.cell (World.block_lt_of_cell? w _ hw176_2)).trans hw176_2)⟩ (fun hHeld => ?_)
              clear hK K
              refine norm_ (a' := ?_) ?_ ?_
              rotate_left
              ·show Act.put _ (some 77) _ = _
               simp only [Act.put, s0_, s1_, s2_, i64_w, i32_w]
               rfl
              refine pure_ (i := 11) (N := some 3) (v := ?_) (a' := ?_) u5_45 rfl rfl (any_of HT_.out (by kernel_rfl)) (fun _ _ _ h => h) (Or.inl ⟨by rfl, ?_⟩) ?_ ?_
              rotate_left
              ·intro w'
               go_simp
               with_reducible rfl
              rotate_left
              ·simp only [Act.put, s0_, s1_, s2_, i64_w, i32_w]
               rfl
              refine done_ (done_of HT_.out (by kernel_rfl)) ?_
              try go_wp2
              go_roundg k2
              case measure => have := HK1.out; have := HK2.out; omega
              case rel => exact ⟨(y180), (wrap64 (x4_1 + 1)), (by first | rfl | (simp; done) | (simp [*]; done)), H', ⟨by have := HK1.out; have := HK2.out; omega⟩, ⟨by (with_reducible repeat (first | apply Kd.R_alloc | apply Kd.R_drewN | apply Kd.R_drew)); exact Kd.R_mono HO182.out (fun _ hk => trivial)⟩, ⟨by repeat (first | (with_reducible first | exact HB.out | apply below_alloc | apply pw_below_drewN | apply below_drew1) | exact HB.out)⟩⟩
             ·rw [if_neg c57] at H
              exact absurd H (by simp)
            ·rw [if_neg c56] at H
             exact absurd H (by simp)
           ·rw [if_neg c55] at H
            exact absurd H (by simp)
          ·rw [if_neg c54] at H
           exact absurd H (by simp)
         ·rw [if_neg c52] at H
          exact absurd H (by simp)
        ·rw [if_neg c51] at H
         exact absurd H (by simp)
       ·rw [if_neg c50] at H
        exact absurd H (by simp)
   ·rw [if_neg c2] at H
    have c2b0 : decide (x4_1 < (l0.length : Int)) = false := decide_eq_false c2
    clear c2
    obtain rfl := Option.some.inj H
    go_wp2
    go_ret
    exact ⟨_, by first | rfl | (simp [errW_none, errW_some] <;> rfl) | (simp [*, errW_none, errW_some] <;> rfl), by (with_reducible repeat (first | apply Kd.R_alloc | apply Kd.R_drewN | apply Kd.R_drew)); exact HO_3.out, by repeat (first | (with_reducible first | exact HB.out | apply below_alloc | apply pw_below_drewN | apply below_drew1) | exact HB.out)⟩

end Go.Proofs.Ytgchfibcaecjcaa.P
