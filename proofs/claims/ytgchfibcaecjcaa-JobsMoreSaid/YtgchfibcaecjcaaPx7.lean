/- Printed by a program for this claim: functions of the program as plain functions, and that the machine computes them. -/
import Derived.Test.YtgchfibcaecjcaaPx0
import Derived.Test.YtgchfibcaecjcaaPShort
import Derived.Test.YtgchfibcaecjcaaPx5
import Derived.Test.YtgchfibcaecjcaaPx6
namespace Go.Proofs.Ytgchfibcaecjcaa.P
open Go.RowKit Go.Proofs.YtgchfibcaecjcaaW.PrintWords Go.Proofs.YtgchfibcaecjcaaW.PrintLast Go.Proofs.YtgchfibcaecjcaaW.PrintMore
attribute [local go_sem] max2_int min2_int max_two min_two max_three min_three max_four min_four   -- for this text's walks alone
set_option linter.unusedVariables false
set_option linter.unusedSimpArgs false
def u7_0 : Array Bool := #[false, false, false, false, false, false, false, false, false, false, false, false, false, false, false, false, false]
def u7_1 : Array Bool := #[true, false, false, false, false, false, false, false, false, false, false, false, false, false, false, false, false]
def u7_2 : Array Bool := #[true, true, false, false, false, false, false, false, false, false, false, false, false, false, false, false, false]
def u7_3 : Array Bool := #[true, true, true, false, false, false, false, false, false, false, false, false, false, false, false, false, false]
def u7_4 : Array Bool := #[true, true, true, true, false, false, false, false, false, false, false, false, false, false, false, false, false]
def u7_5 : Array Bool := #[true, true, true, true, true, false, false, false, false, false, false, false, false, false, false, false, false]
def u7_6 : Array Bool := #[true, true, true, true, true, true, false, false, false, false, false, false, false, false, false, false, false]
def u7_7 : Array Bool := #[true, true, true, true, true, true, true, false, false, false, false, false, false, false, false, false, false]
def u7_8 : Array Bool := #[true, true, true, true, true, true, true, true, false, false, false, false, false, false, false, false, false]
def u7_9 : Array Bool := #[true, true, true, true, true, true, true, true, true, false, false, false, false, false, false, false, false]
def u7_10 : Array Bool := #[true, true, true, true, true, true, true, true, true, false, true, false, false, false, false, false, false]
def u7_11 : Array Bool := #[true, true, true, true, true, true, true, true, true, false, true, true, false, false, false, false, false]
def u7_12 : Array Bool := #[true, true, true, true, true, true, true, true, true, false, true, true, true, false, false, false, false]
def u7_13 : Array Bool := #[true, true, true, true, true, true, true, true, true, false, true, true, true, true, false, false, false]
def u7_14 : Array Bool := #[true, true, true, true, true, true, true, true, true, true, true, true, true, true, false, false, false]
def u7_15 : Array Bool := #[true, true, true, true, true, true, true, true, true, true, true, true, true, true, true, false, false]
def u7_16 : Array Bool := #[true, true, true, true, true, true, true, true, true, true, true, true, true, true, true, true, false]
def u7_17 : Array Bool := #[true, true, true, true, true, true, true, true, true, true, true, true, true, true, true, true, true]
def u7_18 : Array Bool := #[false, false, false, false, false, false, false, false, false, false, false, false, false]
def u7_19 : Array Bool := #[true, false, false, false, false, false, false, false, false, false, false, false, false]
def u7_20 : Array Bool := #[true, false, true, false, false, false, false, false, false, false, false, false, false]
def u7_21 : Array Bool := #[true, false, true, true, false, false, false, false, false, false, false, false, false]
def u7_22 : Array Bool := #[true, false, true, true, true, false, false, false, false, false, false, false, false]
def u7_23 : Array Bool := #[true, false, true, true, true, true, false, false, false, false, false, false, false]
def u7_24 : Array Bool := #[true, true, true, true, true, true, false, false, false, false, false, false, false]
def u7_25 : Array Bool := #[true, true, true, true, true, true, true, false, false, false, false, false, false]
def u7_26 : Array Bool := #[true, true, true, true, true, true, true, true, false, false, false, false, false]
def u7_27 : Array Bool := #[true, true, true, true, true, true, true, true, true, false, false, false, false]
def u7_28 : Array Bool := #[true, true, true, true, true, true, true, true, true, true, false, false, false]
def u7_29 : Array Bool := #[true, true, true, true, true, true, true, true, true, true, true, false, false]
def u7_30 : Array Bool := #[true, true, true, true, true, true, true, true, true, true, true, true, false]
def u7_31 : Array Bool := #[true, true, true, true, true, true, true, true, true, true, true, true, true]
def u7_32 : Array Bool := #[true, true, true, true, true, true, true, true, true, true, false, false, false, false, false, false, false]
def u7_33 : Array Bool := #[true, true, true, true, true, true, true, true, true, true, true, false, false, false, false, false, false]
def u7_34 : Array Bool := #[true, true, true, true, true, true, true, true, true, true, true, true, false, false, false, false, false]
def u7_35 : Array Bool := #[true, true, true, true, true, true, true, true, true, true, true, true, true, false, false, false, false]

/-! ### clepsydraref20_Whole: function 12 -/
mutual
def clepsydraref20_Whole.l0 : Nat → List (S37) → List (S37) → List (S37) → Int → Option ((List (S37)) × (List (S37)))
 | 0, _, _, _, _ => none
 | k + 1, x4, x5, x6, x7 => if x7 < (x4.length : Int) then (if 0 ≤ x7 then ((clepsydraref20_Known.f ((rd_T37 x4 x7).f1)).bind fun t191 => (clepsydraref20_Whole.l1 k x4 x5 x6 x7 x7 t191 ((rd_T37 x4 x7).f0) ((rd_T37 x4 x7).f1) ((rd_T37 x4 x7).f2))) else (none)) else (some (x5, x6))
def clepsydraref20_Whole.j2 : Nat → List (S37) → List (S37) → List (S37) → Int → Int → Bool → Int → Int → Bool → Option ((List (S37)) × (List (S37)))
 | 0, _, _, _, _, _, _, _, _, _ => none
 | k + 1, x4, x5, x6, x7, x8, x10, x190000, x190001, x190002 => if x10 = true then (if x5.length < 8796093022208 then (clepsydraref20_Whole.j3 k x4 (x5 ++ [(⟨x190000, x190001, x190002⟩ : S37)]) x6 x7 x8 x10) else (none)) else (clepsydraref20_Whole.j3 k x4 x5 x6 x7 x8 x10)
def clepsydraref20_Whole.j3 : Nat → List (S37) → List (S37) → List (S37) → Int → Int → Bool → Option ((List (S37)) × (List (S37)))
 | 0, _, _, _, _, _, _ => none
 | k + 1, x4, x5, x6, x7, x8, x10 => clepsydraref20_Whole.l2 k x4 x5 x6 x7 x8 x10
def clepsydraref20_Whole.l2 : Nat → List (S37) → List (S37) → List (S37) → Int → Int → Bool → Option ((List (S37)) × (List (S37)))
 | 0, _, _, _, _, _, _ => none
 | k + 1, x4, x5, x6, x7, x8, x10 => if x7 < x8 then (if x10 = true then (clepsydraref20_Whole.l2 k x4 x5 x6 (wrap64 (x7 + 1)) x8 x10) else (if 0 ≤ x7 then (if x7 < (x4.length : Int) then (if x6.length < 8796093022208 then (clepsydraref20_Whole.l2 k x4 x5 (x6 ++ [(⟨(rd_T37 x4 x7).f0, (rd_T37 x4 x7).f1, (rd_T37 x4 x7).f2⟩ : S37)]) (wrap64 (x7 + 1)) x8 x10) else (none)) else (none)) else (none))) else (clepsydraref20_Whole.l0 k x4 x5 x6 x7)
def clepsydraref20_Whole.l1 : Nat → List (S37) → List (S37) → List (S37) → Int → Int → Bool → Int → Int → Bool → Option ((List (S37)) × (List (S37)))
 | 0, _, _, _, _, _, _, _, _, _ => none
 | k + 1, x4, x5, x6, x7, x8, x10, x190000, x190001, x190002 => if x8 < (x4.length : Int) then (if 0 ≤ x8 then (if 0 ≤ x7 then (if x7 < (x4.length : Int) then (if ((rd_T37 x4 x8).f0) = ((rd_T37 x4 x7).f0) then ((clepsydraref20_Merge.f x190001 ((rd_T37 x4 x8).f1)).bind fun bt195 => (if x10 = true then (if x190002 = true then (clepsydraref20_Whole.l1 k x4 x5 x6 x7 (wrap64 (x8 + 1)) bt195.2 x190000 bt195.1 true) else (clepsydraref20_Whole.l1 k x4 x5 x6 x7 (wrap64 (x8 + 1)) bt195.2 x190000 bt195.1 ((rd_T37 x4 x8).f2))) else (if x190002 = true then (clepsydraref20_Whole.l1 k x4 x5 x6 x7 (wrap64 (x8 + 1)) false x190000 bt195.1 true) else (clepsydraref20_Whole.l1 k x4 x5 x6 x7 (wrap64 (x8 + 1)) false x190000 bt195.1 ((rd_T37 x4 x8).f2))))) else (clepsydraref20_Whole.j2 k x4 x5 x6 x7 x8 x10 x190000 x190001 x190002)) else (none)) else (none)) else (none)) else (clepsydraref20_Whole.j2 k x4 x5 x6 x7 x8 x10 x190000 x190001 x190002)
end
def clepsydraref20_Whole.f (k : Nat) (l0 : List (S37)) : Option ((List (S37)) × (List (S37))) := (clepsydraref20_Sorted.f k l0).bind fun t185 => (clepsydraref20_Whole.l0 k t185 ([] : List (S37)) ([] : List (S37)) 0)
theorem clepsydraref20_Whole.mono_l : ∀ k, (∀ y0 y1 y2 y3, LeO (clepsydraref20_Whole.l0 k y0 y1 y2 y3) (clepsydraref20_Whole.l0 (k + 1) y0 y1 y2 y3)) ∧ (∀ y0 y1 y2 y3 y4 y5 y6 y7 y8, LeO (clepsydraref20_Whole.j2 k y0 y1 y2 y3 y4 y5 y6 y7 y8) (clepsydraref20_Whole.j2 (k + 1) y0 y1 y2 y3 y4 y5 y6 y7 y8)) ∧ (∀ y0 y1 y2 y3 y4 y5, LeO (clepsydraref20_Whole.j3 k y0 y1 y2 y3 y4 y5) (clepsydraref20_Whole.j3 (k + 1) y0 y1 y2 y3 y4 y5)) ∧ (∀ y0 y1 y2 y3 y4 y5, LeO (clepsydraref20_Whole.l2 k y0 y1 y2 y3 y4 y5) (clepsydraref20_Whole.l2 (k + 1) y0 y1 y2 y3 y4 y5)) ∧ (∀ y0 y1 y2 y3 y4 y5 y6 y7 y8, LeO (clepsydraref20_Whole.l1 k y0 y1 y2 y3 y4 y5 y6 y7 y8) (clepsydraref20_Whole.l1 (k + 1) y0 y1 y2 y3 y4 y5 y6 y7 y8))
 | 0 => ⟨fun _ _ _ _ r h => by simp [clepsydraref20_Whole.l0] at h, fun _ _ _ _ _ _ _ _ _ r h => by simp [clepsydraref20_Whole.j2] at h, fun _ _ _ _ _ _ r h => by simp [clepsydraref20_Whole.j3] at h, fun _ _ _ _ _ _ r h => by simp [clepsydraref20_Whole.l2] at h, fun _ _ _ _ _ _ _ _ _ r h => by simp [clepsydraref20_Whole.l1] at h⟩
 | k + 1 => by
  obtain ⟨ih0, ih1, ih2, ih3, ih4⟩ := clepsydraref20_Whole.mono_l k
  refine ⟨?_, ?_, ?_, ?_, ?_⟩
  ·intro y0 y1 y2 y3
   unfold clepsydraref20_Whole.l0
   repeat' first
   | (with_reducible exact ih0 _ _ _ _)
   | (with_reducible exact ih1 _ _ _ _ _ _ _ _ _)
   | (with_reducible exact ih2 _ _ _ _ _ _)
   | (with_reducible exact ih3 _ _ _ _ _ _)
   | (with_reducible exact ih4 _ _ _ _ _ _ _ _ _)
   | (with_reducible exact clepsydraref20_Sorted.mono _ _)
   | (with_reducible exact LeO.refl _)
   | (with_reducible exact LeO.none _)
   | (with_reducible refine LeO.ite ?_ ?_)
   | (with_reducible refine LeO.bind ?_ (fun _ => ?_))
   | exact ih0 _ _ _ _
   | exact ih1 _ _ _ _ _ _ _ _ _
   | exact ih2 _ _ _ _ _ _
   | exact ih3 _ _ _ _ _ _
   | exact ih4 _ _ _ _ _ _ _ _ _
   | exact clepsydraref20_Sorted.mono _ _
   | exact LeO.none _
   | refine LeO.ite ?_ ?_
   | refine LeO.bind ?_ (fun _ => ?_)
  ·intro y0 y1 y2 y3 y4 y5 y6 y7 y8
   unfold clepsydraref20_Whole.j2
   repeat' first
   | (with_reducible exact ih0 _ _ _ _)
   | (with_reducible exact ih1 _ _ _ _ _ _ _ _ _)
   | (with_reducible exact ih2 _ _ _ _ _ _)
   | (with_reducible exact ih3 _ _ _ _ _ _)
   | (with_reducible exact ih4 _ _ _ _ _ _ _ _ _)
   | (with_reducible exact clepsydraref20_Sorted.mono _ _)
   | (with_reducible exact LeO.refl _)
   | (with_reducible exact LeO.none _)
   | (with_reducible refine LeO.ite ?_ ?_)
   | (with_reducible refine LeO.bind ?_ (fun _ => ?_))
   | exact ih0 _ _ _ _
   | exact ih1 _ _ _ _ _ _ _ _ _
   | exact ih2 _ _ _ _ _ _
   | exact ih3 _ _ _ _ _ _
   | exact ih4 _ _ _ _ _ _ _ _ _
   | exact clepsydraref20_Sorted.mono _ _
   | exact LeO.none _
   | refine LeO.ite ?_ ?_
   | refine LeO.bind ?_ (fun _ => ?_)
  ·intro y0 y1 y2 y3 y4 y5
   unfold clepsydraref20_Whole.j3
   repeat' first
   | (with_reducible exact ih0 _ _ _ _)
   | (with_reducible exact ih1 _ _ _ _ _ _ _ _ _)
   | (with_reducible exact ih2 _ _ _ _ _ _)
   | (with_reducible exact ih3 _ _ _ _ _ _)
   | (with_reducible exact ih4 _ _ _ _ _ _ _ _ _)
   | (with_reducible exact clepsydraref20_Sorted.mono _ _)
   | (with_reducible exact LeO.refl _)
   | (with_reducible exact LeO.none _)
   | (with_reducible refine LeO.ite ?_ ?_)
   | (with_reducible refine LeO.bind ?_ (fun _ => ?_))
   | exact ih0 _ _ _ _
   | exact ih1 _ _ _ _ _ _ _ _ _
   | exact ih2 _ _ _ _ _ _
   | exact ih3 _ _ _ _ _ _
   | exact ih4 _ _ _ _ _ _ _ _ _
   | exact clepsydraref20_Sorted.mono _ _
   | exact LeO.none _
   | refine LeO.ite ?_ ?_
   | refine LeO.bind ?_ (fun _ => ?_)
  ·intro y0 y1 y2 y3 y4 y5
   unfold clepsydraref20_Whole.l2
   repeat' first
   | (with_reducible exact ih0 _ _ _ _)
   | (with_reducible exact ih1 _ _ _ _ _ _ _ _ _)
   | (with_reducible exact ih2 _ _ _ _ _ _)
   | (with_reducible exact ih3 _ _ _ _ _ _)
   | (with_reducible exact ih4 _ _ _ _ _ _ _ _ _)
   | (with_reducible exact clepsydraref20_Sorted.mono _ _)
   | (with_reducible exact LeO.refl _)
   | (with_reducible exact LeO.none _)
   | (with_reducible refine LeO.ite ?_ ?_)
   | (with_reducible refine LeO.bind ?_ (fun _ => ?_))
   | exact ih0 _ _ _ _
   | exact ih1 _ _ _ _ _ _ _ _ _
   | exact ih2 _ _ _ _ _ _
   | exact ih3 _ _ _ _ _ _
   | exact ih4 _ _ _ _ _ _ _ _ _
   | exact clepsydraref20_Sorted.mono _ _
   | exact LeO.none _
   | refine LeO.ite ?_ ?_
   | refine LeO.bind ?_ (fun _ => ?_)
  ·intro y0 y1 y2 y3 y4 y5 y6 y7 y8
   unfold clepsydraref20_Whole.l1
   repeat' first
   | (with_reducible exact ih0 _ _ _ _)
   | (with_reducible exact ih1 _ _ _ _ _ _ _ _ _)
   | (with_reducible exact ih2 _ _ _ _ _ _)
   | (with_reducible exact ih3 _ _ _ _ _ _)
   | (with_reducible exact ih4 _ _ _ _ _ _ _ _ _)
   | (with_reducible exact clepsydraref20_Sorted.mono _ _)
   | (with_reducible exact LeO.refl _)
   | (with_reducible exact LeO.none _)
   | (with_reducible refine LeO.ite ?_ ?_)
   | (with_reducible refine LeO.bind ?_ (fun _ => ?_))
   | exact ih0 _ _ _ _
   | exact ih1 _ _ _ _ _ _ _ _ _
   | exact ih2 _ _ _ _ _ _
   | exact ih3 _ _ _ _ _ _
   | exact ih4 _ _ _ _ _ _ _ _ _
   | exact clepsydraref20_Sorted.mono _ _
   | exact LeO.none _
   | refine LeO.ite ?_ ?_
   | refine LeO.bind ?_ (fun _ => ?_)
theorem clepsydraref20_Whole.mono : ∀ a0 k, LeO (clepsydraref20_Whole.f k a0) (clepsydraref20_Whole.f (k + 1) a0) := by
 intro a0 k
 obtain ⟨ih0, ih1, ih2, ih3, ih4⟩ := clepsydraref20_Whole.mono_l k
 unfold clepsydraref20_Whole.f
 repeat' first
   | (with_reducible exact ih0 _ _ _ _)
   | (with_reducible exact ih1 _ _ _ _ _ _ _ _ _)
   | (with_reducible exact ih2 _ _ _ _ _ _)
   | (with_reducible exact ih3 _ _ _ _ _ _)
   | (with_reducible exact ih4 _ _ _ _ _ _ _ _ _)
   | (with_reducible exact clepsydraref20_Sorted.mono _ _)
   | (with_reducible exact LeO.refl _)
   | (with_reducible exact LeO.none _)
   | (with_reducible refine LeO.ite ?_ ?_)
   | (with_reducible refine LeO.bind ?_ (fun _ => ?_))
   | exact ih0 _ _ _ _
   | exact ih1 _ _ _ _ _ _ _ _ _
   | exact ih2 _ _ _ _ _ _
   | exact ih3 _ _ _ _ _ _
   | exact ih4 _ _ _ _ _ _ _ _ _
   | exact clepsydraref20_Sorted.mono _ _
   | exact LeO.none _
   | refine LeO.ite ?_ ?_
   | refine LeO.bind ?_ (fun _ => ?_)
def clepsydraref20_Whole.T8 : Bool × List (List Nat × List Nat) := (true, [([], []), ([], []), ([1], [1]), ([0, 2], [0, 2]), ([3], [3]), ([4], [4]), ([4], [4]), ([5, 6, 4], [4, 5, 6]), ([7, 4], [4, 7]), ([8, 4], [4, 8]), ([4], [4]), ([4], [4]), ([10, 11, 4], [4, 10, 11]), ([12, 4], [4, 12]), ([13, 4], [4, 13]), ([9, 14, 4], [4, 9, 14]), ([4, 15], [4, 15])])
def clepsydraref20_Whole.B8 : List Nat := [0, 0, 2, 7, 15, 31, 31, 127, 255, 511, 31, 31, 3103, 7199, 15391, 32767, 65535]
theorem clepsydraref20_Whole.tab8 : rtab .any (opsOf Try.f12 8) = clepsydraref20_Whole.T8 := by kernel_rfl
theorem clepsydraref20_Whole.bits8 : waitsOk clepsydraref20_Whole.T8.2 clepsydraref20_Whole.B8 = true := by kernel_rfl
def clepsydraref20_Whole.T9 : Bool × List (List Nat × List Nat) := (true, [([], []), ([0], [0]), ([], []), ([], []), ([2, 3], [2, 3]), ([4], [4]), ([5], [5]), ([1, 6], [1, 6]), ([7], [7]), ([8], [8]), ([8], [8]), ([9, 7, 0, 1, 2, 3, 4, 5, 6, 7, 8, 9], [9]), ([10, 11, 0, 1, 2, 3, 4, 5, 6, 7, 8, 9, 10, 11], [10])])
def clepsydraref20_Whole.B9 : List Nat := [0, 1, 0, 0, 12, 28, 60, 127, 255, 511, 511, 1023, 4095]
theorem clepsydraref20_Whole.tab9 : rtab .any (opsOf Try.f12 9) = clepsydraref20_Whole.T9 := by kernel_rfl
theorem clepsydraref20_Whole.bits9 : waitsOk clepsydraref20_Whole.T9.2 clepsydraref20_Whole.B9 = true := by kernel_rfl
set_option maxHeartbeats 8000000 in
set_option maxRecDepth 100000 in
theorem clepsydraref20_Whole.calls (k : Nat) (A0 : Option Addr) (c0 : Nat) (l0 : List (S37)) (r1 : List (S37)) (r2 : List (S37)) (w : World) (hr0 : Kd.C k37 w A0 l0.length l0) (hc0 : l0.length ≤ c0) (h : clepsydraref20_Whole.f k l0 = some (r1, r2)) :
  Calls Try.prog 12 #[.slice A0 l0.length c0] w fun e w' => ∃ v0_ v1_ : Value, e = .returned (.tuple #[v0_, v1_]) ∧ Kd.R k37 37 w' w.heap.size (fun k_ => some k_ ≠ (v1_ : Value).ownBlock) v0_ r1 ∧ Kd.R k37 37 w' w.heap.size (fun k_ => some k_ ≠ (v0_ : Value).ownBlock) v1_ r2 ∧ Below w.heap.size w w' := by
 have hu37 := Try.underlying37
 have HR0 := Aside0.mk hr0
 have HC0 := Aside0.mk hc0
 clear hr0 hc0
 have HB := Aside0.mk (Below.refl w.heap.size w)
 have H : ((clepsydraref20_Sorted.f k l0).bind fun t185 => (clepsydraref20_Whole.l0 k t185 ([] : List (S37)) ([] : List (S37)) 0)) = some (r1, r2) := h
 clear h
 replace H := Option.bind_eq_some_iff.mp H
 obtain ⟨t185, A20, H⟩ := H
 replace H : (clepsydraref20_Whole.l0 k t185 ([] : List (S37)) ([] : List (S37)) 0) = some (r1, r2) := H
 have A2 := Aside0.mk A20
 clear A20
 have H' := Aside0.mk H
 clear H
 go_enter Try.func12, Try.ntmps12
 go_wp2_with (first | ((with_reducible refine gate_callee (f := 14) rfl ?_); refine goesL_ (some 14) rfl rfl Try.func14 (by kernel_rfl) rfl #[.slice A0 l0.length c0] rfl (by (try simp only [List.map_toArray, List.map_cons, List.map_nil]); first | done | rfl | (simp only [List.length_drop, List.length_take]; rfl)) ?_; (with_reducible refine (clepsydraref20_Sorted.calls k _ _ l0 t185 _ ?side1 ?side2 A2.out).mono ?_); (case side1 => repeat (first | exact HR0.out | (with_reducible refine Kd.C_alloc ?_ _) | (with_reducible refine Kd.C_drewN ?_ _) | (with_reducible refine Kd.C_drew ?_))); (case side2 => exact HC0.out); rintro e w3 ⟨v186, rfl, ho0, hb⟩; refine ⟨_, rfl, ?_⟩; have n0_ := Aside0.mk (Kd.R_lower ho0 (below_size (by repeat (first | (with_reducible first | exact HB.out | apply below_alloc | apply pw_below_drewN | apply below_drew1) | exact HB.out)))); have n1_ := Aside0.mk (below_step (by repeat (first | (with_reducible first | exact HB.out | apply below_alloc | apply pw_below_drewN | apply below_drew1) | exact HB.out)) hb); clear HB; have HO187 := n0_; have HB := n1_; clear n0_ n1_; (try clear hb); (try clear hb2); (try clear hk); (try clear hi); (try clear ho0)))
 go_loopg [5, 6, 7] k (fun kq v5 v6 v7 w' => ∃ (x5_1 : List (S37)) (x6_1 : List (S37)) (x7_1 : Int), v7 = .int .i64 x7_1 ∧ Aside0 (clepsydraref20_Whole.l0 kq t185 x5_1 x6_1 x7_1 = some (r1, r2)) ∧ Aside0 (kq ≤ k) ∧ Aside0 (Kd.R k37 37 w' w.heap.size (fun k_ => some k_ ≠ (v5 : Value).ownBlock ∧ some k_ ≠ (v6 : Value).ownBlock) v186 t185) ∧ Aside0 (Kd.R k37 37 w' w.heap.size (fun k_ => some k_ ≠ (v186 : Value).ownBlock ∧ some k_ ≠ (v6 : Value).ownBlock) v5 x5_1) ∧ Aside0 (Kd.R k37 37 w' w.heap.size (fun k_ => some k_ ≠ (v186 : Value).ownBlock ∧ some k_ ≠ (v5 : Value).ownBlock) v6 x6_1) ∧ Aside0 (Below w.heap.size w w'))
 case atStart => exact ⟨(([] : List (S37))), (([] : List (S37))), (0), (by first | rfl | (simp; done) | (simp [*]; done)), H', ⟨Nat.le_refl _⟩, ⟨by (with_reducible repeat (first | apply Kd.R_alloc | apply Kd.R_drewN | apply Kd.R_drew)); exact Kd.R_mono HO187.out (fun _ hk => ⟨(by simp [Value.ownBlock]), (by simp [Value.ownBlock])⟩)⟩, ⟨by first | exact Kd.R_nil _ _ _ _ _ | exact Kd.N_nil _ _ _ _ _ | exact Kd.V_nil _ _ _ _ _ | exact Kd.Q_nil _ _ _ _ _ | exact Kd.S_nil _ _ _ _ _⟩, ⟨by first | exact Kd.R_nil _ _ _ _ _ | exact Kd.N_nil _ _ _ _ _ | exact Kd.V_nil _ _ _ _ _ | exact Kd.Q_nil _ _ _ _ _ | exact Kd.S_nil _ _ _ _ _⟩, ⟨by repeat (first | (with_reducible first | exact HB.out | apply below_alloc | apply pw_below_drewN | apply below_drew1) | exact HB.out)⟩⟩
 case round =>
  clear H'
  try clear c1
  try clear p2
  obtain ⟨x5_1, x6_1, x7_1, rfl, HA, HK1, HO_4, HO_5, HO_6, HB⟩ := hrel
  cases gk with
  | zero => exact absurd HA.out (by simp [clepsydraref20_Whole.l0])
  | succ k1 =>
   have H := HA.out
   clear HA
   simp only [clepsydraref20_Whole.l0] at H
   by_cases c4 : x7_1 < (t185.length : Int)
   ·rw [if_pos c4] at H
    have c4b0 : decide (x7_1 < (t185.length : Int)) = true := decide_eq_true c4
    clear c4
    by_cases c5 : 0 ≤ x7_1
    ·rw [if_pos c5] at H
     have c5b0 : decide (0 ≤ x7_1) = true := decide_eq_true c5
     clear c5
     replace H := Option.bind_eq_some_iff.mp H
     obtain ⟨t191, A60, H⟩ := H
     replace H : (clepsydraref20_Whole.l1 k1 t185 x5_1 x6_1 x7_1 x7_1 t191 ((rd_T37 t185 x7_1).f0) ((rd_T37 t185 x7_1).f1) ((rd_T37 t185 x7_1).f2)) = some (r1, r2) := H
     have A6 := Aside0.mk A60
     clear A60
     have HC7 := Aside0.mk H
     clear H
     obtain ⟨Ao8, co8, eo8⟩ := Kd.R_slice HO_4.out
     subst eo8
     have p188 : 0 ≤ (x7_1 : Int) := of_decide_eq_true (by first | (with_reducible assumption) | assumption)
     have q188 : x7_1 < (t185.length : Int) := of_decide_eq_true (by first | (with_reducible assumption) | assumption)
     obtain ⟨ad188, e188, hx188_0, hx188_1, hx188_2⟩ := at_T37 (Kd.R_reads' HO_4.out).2.2 x7_1 p188 q188
     cases e188
     replace p188 := eq_true p188
     replace q188 := eq_true q188
     go_upto_block 2 with (first | ((with_reducible refine gate_dst (N := 9) rfl ?_); refine box_event ?hg (N := 9) ?hd (cs := #[.int .i64 0, .int .u8 0, .bool false]) (t := 37) ?hr ?_; (case hd => rfl); (case hg => rfl); (case hr => first | (go_simp; done) | (go_simp; rfl)); intro gb189 hg w9 hbox hb; have n0_ := Aside0.mk (Kd.R_below (Kd.R_elderB (by (with_reducible repeat (first | apply Kd.R_alloc | apply Kd.R_drewN | apply Kd.R_drew)); exact HO_4.out) gb189 (Nat.le_of_eq hg.symm)) hb); have n1_ := Aside0.mk (Kd.R_below (Kd.R_elderB (by (with_reducible repeat (first | apply Kd.R_alloc | apply Kd.R_drewN | apply Kd.R_drew)); exact HO_5.out) gb189 (Nat.le_of_eq hg.symm)) hb); have n2_ := Aside0.mk (Kd.R_below (Kd.R_elderB (by (with_reducible repeat (first | apply Kd.R_alloc | apply Kd.R_drewN | apply Kd.R_drew)); exact HO_6.out) gb189 (Nat.le_of_eq hg.symm)) hb); have n3_ := Aside0.mk (below_step (by repeat (first | (with_reducible first | exact HB.out | apply below_alloc | apply pw_below_drewN | apply below_drew1) | exact HB.out)) hb); have n4_ := Aside0.mk (hbox); have n5_ := Aside0.mk ((by rw [hg]; exact (below_size (by repeat (first | (with_reducible first | exact HB.out | apply below_alloc | apply pw_below_drewN | apply below_drew1) | exact HB.out))) : w.heap.size ≤ gb189)); have n6_ := Aside0.mk ((by rw [hg]; exact (below_size (by repeat (first | (with_reducible first | exact HB.out | apply below_alloc | apply pw_below_drewN | apply below_drew1) | exact HB.out))) : w.heap.size ≤ gb189)); clear HO_4; clear HO_5; clear HO_6; clear HB; have HO_4 := n0_; have HO_5 := n1_; have HO_6 := n2_; have HB := n3_; have BK189 := n4_; have GW189 := n5_; have GE189 := n6_; clear n0_ n1_ n2_ n3_ n4_ n5_ n6_; clear hb hbox hg; have hcz10_0 : w9.cell? ⟨gb189, 0, none⟩ = some (.int .i64 0) := (blk_cell BK189.out 0).trans rfl; have hcz10_1 : w9.cell? ⟨gb189, 1, none⟩ = some (.int .u8 0) := (blk_cell BK189.out 1).trans rfl; have hcz10_2 : w9.cell? ⟨gb189, 2, none⟩ = some (.bool false) := (blk_cell BK189.out 2).trans rfl; have hfz10_0 := blk_frozen BK189.out 0; have hfz10_1 := blk_frozen BK189.out 1; have hfz10_2 := blk_frozen BK189.out 2; have p190 : 0 ≤ (x7_1 : Int) := of_decide_eq_true (by first | (with_reducible assumption) | assumption); have q190 : x7_1 < (t185.length : Int) := of_decide_eq_true (by first | (with_reducible assumption) | assumption); obtain ⟨ad190, e190, hx190_0, hx190_1, hx190_2⟩ := at_T37 (Kd.R_reads' HO_4.out).2.2 x7_1 p190 q190; obtain rfl : ad188 = ad190 := (by injection e190); have hn190_0 : ad188.block ≠ gb189 := Kd.own_blk ((by first | exact Kd.R_ne HO_4.out BK189.out (by decide) | (intro h_; have h2_ := HO_4.out.1 _ h_.symm; simp at h2_))); have hn190_1 : ad188.block ≠ gb189 := Kd.own_blk ((by first | exact Kd.R_ne HO_4.out BK189.out (by decide) | (intro h_; have h2_ := HO_4.out.1 _ h_.symm; simp at h2_))); have hn190_2 : ad188.block ≠ gb189 := Kd.own_blk ((by first | exact Kd.R_ne HO_4.out BK189.out (by decide) | (intro h_; have h2_ := HO_4.out.1 _ h_.symm; simp at h2_))); replace hx190_0 := (cell_far (p := ⟨gb189, 0, none⟩) (by first | (rw [add_block]; exact hn190_0) | (show (Addr.add _ _).block ≠ _; rw [add_block]; exact hn190_0) | exact hn190_0) (.int .i64 ((rd_T37 t185 x7_1).f0))).trans hx190_0; replace hx190_1 := (cell_far (p := ⟨gb189, 0, none⟩) (by first | (rw [add_block]; exact hn190_0) | (show (Addr.add _ _).block ≠ _; rw [add_block]; exact hn190_0) | exact hn190_0) (.int .i64 ((rd_T37 t185 x7_1).f0))).trans hx190_1; replace hx190_2 := (cell_far (p := ⟨gb189, 0, none⟩) (by first | (rw [add_block]; exact hn190_0) | (show (Addr.add _ _).block ≠ _; rw [add_block]; exact hn190_0) | exact hn190_0) (.int .i64 ((rd_T37 t185 x7_1).f0))).trans hx190_2; replace hx190_0 := (cell_far (p := ⟨gb189, 1, none⟩) (by first | (rw [add_block]; exact hn190_1) | (show (Addr.add _ _).block ≠ _; rw [add_block]; exact hn190_1) | exact hn190_1) (.int .u8 ((rd_T37 t185 x7_1).f1))).trans hx190_0; replace hx190_1 := (cell_far (p := ⟨gb189, 1, none⟩) (by first | (rw [add_block]; exact hn190_1) | (show (Addr.add _ _).block ≠ _; rw [add_block]; exact hn190_1) | exact hn190_1) (.int .u8 ((rd_T37 t185 x7_1).f1))).trans hx190_1; replace hx190_2 := (cell_far (p := ⟨gb189, 1, none⟩) (by first | (rw [add_block]; exact hn190_1) | (show (Addr.add _ _).block ≠ _; rw [add_block]; exact hn190_1) | exact hn190_1) (.int .u8 ((rd_T37 t185 x7_1).f1))).trans hx190_2; replace hx190_0 := (cell_far (p := ⟨gb189, 2, none⟩) (by first | (rw [add_block]; exact hn190_2) | (show (Addr.add _ _).block ≠ _; rw [add_block]; exact hn190_2) | exact hn190_2) (.bool ((rd_T37 t185 x7_1).f2))).trans hx190_0; replace hx190_1 := (cell_far (p := ⟨gb189, 2, none⟩) (by first | (rw [add_block]; exact hn190_2) | (show (Addr.add _ _).block ≠ _; rw [add_block]; exact hn190_2) | exact hn190_2) (.bool ((rd_T37 t185 x7_1).f2))).trans hx190_1; replace hx190_2 := (cell_far (p := ⟨gb189, 2, none⟩) (by first | (rw [add_block]; exact hn190_2) | (show (Addr.add _ _).block ≠ _; rw [add_block]; exact hn190_2) | exact hn190_2) (.bool ((rd_T37 t185 x7_1).f2))).trans hx190_2; clear hn190_0; clear hn190_1; clear hn190_2; replace p190 := eq_true p190; replace q190 := eq_true q190) | ((with_reducible refine gate_callee (f := 20) rfl ?_); refine goesL_ (some 29) rfl rfl Try.func20 (by kernel_rfl) rfl #[.int .u8 ((rd_T37 t185 x7_1).f1)] rfl (by (try simp only [List.map_toArray, List.map_cons, List.map_nil]); first | done | rfl | (simp only [List.length_drop, List.length_take]; rfl)) ?_; (with_reducible refine (clepsydraref20_Known.calls ((rd_T37 t185 x7_1).f1) t191 _ A6.out).mono ?_); rintro e w' ⟨rfl, ⟨nd, rfl⟩⟩; refine ⟨_, rfl, ?_⟩))
     (try simp only [Act.put, List.setIfInBounds_toArray, List.set_cons_zero, List.set_cons_succ])
     go_cut [8, 10] (fun v8 v10 wc => ∃ (kq : Nat) (x8_6 : Int) (x10_6 : Bool) (x190001_6 : Int) (x190002_6 : Bool), v8 = .int .i64 x8_6 ∧ v10 = .bool x10_6 ∧ Aside0 (clepsydraref20_Whole.j2 kq t185 x5_1 x6_1 x7_1 x8_6 x10_6 ((rd_T37 t185 x7_1).f0) x190001_6 x190002_6 = some (r1, r2)) ∧ Aside0 (kq ≤ k1) ∧ Aside0 (Kd.R k37 37 wc w.heap.size (fun k_ => some k_ ≠ (u5 : Value).ownBlock ∧ some k_ ≠ (u6 : Value).ownBlock ∧ k_ ≠ gb189) (.slice (some ad188) t185.length co8) t185) ∧ Aside0 (Kd.R k37 37 wc w.heap.size (fun k_ => some k_ ≠ ((.slice (some ad188) t185.length co8) : Value).ownBlock ∧ some k_ ≠ (u6 : Value).ownBlock ∧ k_ ≠ gb189) u5 x5_1) ∧ Aside0 (Kd.R k37 37 wc w.heap.size (fun k_ => some k_ ≠ ((.slice (some ad188) t185.length co8) : Value).ownBlock ∧ some k_ ≠ (u5 : Value).ownBlock ∧ k_ ≠ gb189) u6 x6_1) ∧ Aside0 (wc.heap[gb189]? = some (.cells #[.int .i64 ((rd_T37 t185 x7_1).f0), .int .u8 x190001_6, .bool x190002_6] 37 (0, 0))) ∧ Aside0 (Below w.heap.size w wc))
     case first =>
      have H := HC7.out
      clear HC7
      have H' := Aside0.mk H
      clear H
      go_wp2
      go_loopg [8, 10] k1 (fun kq v8 v10 w' => ∃ (x8_2 : Int) (x10_2 : Bool) (x190001_2 : Int) (x190002_2 : Bool), v8 = .int .i64 x8_2 ∧ v10 = .bool x10_2 ∧ Aside0 (clepsydraref20_Whole.l1 kq t185 x5_1 x6_1 x7_1 x8_2 x10_2 ((rd_T37 t185 x7_1).f0) x190001_2 x190002_2 = some (r1, r2)) ∧ Aside0 (kq ≤ k1) ∧ Aside0 (Kd.R k37 37 w' w.heap.size (fun k_ => some k_ ≠ (u5 : Value).ownBlock ∧ some k_ ≠ (u6 : Value).ownBlock ∧ k_ ≠ gb189) (.slice (some ad188) t185.length co8) t185) ∧ Aside0 (Kd.R k37 37 w' w.heap.size (fun k_ => some k_ ≠ ((.slice (some ad188) t185.length co8) : Value).ownBlock ∧ some k_ ≠ (u6 : Value).ownBlock ∧ k_ ≠ gb189) u5 x5_1) ∧ Aside0 (Kd.R k37 37 w' w.heap.size (fun k_ => some k_ ≠ ((.slice (some ad188) t185.length co8) : Value).ownBlock ∧ some k_ ≠ (u5 : Value).ownBlock ∧ k_ ≠ gb189) u6 x6_1) ∧ Aside0 (w'.heap[gb189]? = some (.cells #[.int .i64 ((rd_T37 t185 x7_1).f0), .int .u8 x190001_2, .bool x190002_2] 37 (0, 0))) ∧ Aside0 (Below w.heap.size w w'))
      case atStart => exact ⟨(x7_1), (t191), ((rd_T37 t185 x7_1).f1), ((rd_T37 t185 x7_1).f2), (by first | rfl | (simp; done) | (simp [*]; done)), (by first | rfl | (simp; done) | (simp [*]; done)), H', ⟨Nat.le_refl _⟩, ⟨by (with_reducible repeat (first | apply Kd.R_alloc | apply Kd.R_drewN | apply Kd.R_drew)); exact Kd.R_mono (Kd.R_far (p := ⟨gb189, 2, none⟩) (Kd.R_far (p := ⟨gb189, 1, none⟩) (Kd.R_far (p := ⟨gb189, 0, none⟩) (Kd.R_mono HO_4.out (fun k_ hk => (⟨hk, hk.2⟩ : _ ∧ k_ ≠ gb189))) (fun _ hk => hk.2) (.int .i64 ((rd_T37 t185 x7_1).f0))) (fun _ hk => hk.2) (.int .u8 ((rd_T37 t185 x7_1).f1))) (fun _ hk => hk.2) (.bool ((rd_T37 t185 x7_1).f2))) (fun _ hk => ⟨hk.1.1.1, ⟨hk.1.1.2, hk.1.2⟩⟩)⟩, ⟨by (with_reducible repeat (first | apply Kd.R_alloc | apply Kd.R_drewN | apply Kd.R_drew)); exact Kd.R_mono (Kd.R_far (p := ⟨gb189, 2, none⟩) (Kd.R_far (p := ⟨gb189, 1, none⟩) (Kd.R_far (p := ⟨gb189, 0, none⟩) (Kd.R_mono HO_5.out (fun k_ hk => (⟨hk, hk.2⟩ : _ ∧ k_ ≠ gb189))) (fun _ hk => hk.2) (.int .i64 ((rd_T37 t185 x7_1).f0))) (fun _ hk => hk.2) (.int .u8 ((rd_T37 t185 x7_1).f1))) (fun _ hk => hk.2) (.bool ((rd_T37 t185 x7_1).f2))) (fun _ hk => ⟨hk.1.1.1, ⟨hk.1.1.2, hk.1.2⟩⟩)⟩, ⟨by (with_reducible repeat (first | apply Kd.R_alloc | apply Kd.R_drewN | apply Kd.R_drew)); exact Kd.R_mono (Kd.R_far (p := ⟨gb189, 2, none⟩) (Kd.R_far (p := ⟨gb189, 1, none⟩) (Kd.R_far (p := ⟨gb189, 0, none⟩) (Kd.R_mono HO_6.out (fun k_ hk => (⟨hk, hk.2⟩ : _ ∧ k_ ≠ gb189))) (fun _ hk => hk.2) (.int .i64 ((rd_T37 t185 x7_1).f0))) (fun _ hk => hk.2) (.int .u8 ((rd_T37 t185 x7_1).f1))) (fun _ hk => hk.2) (.bool ((rd_T37 t185 x7_1).f2))) (fun _ hk => ⟨hk.1.1.1, ⟨hk.1.1.2, hk.1.2⟩⟩)⟩, ⟨by (with_reducible repeat (first | refine blk_drewN ?_ _ | refine blk_drew ?_ | refine blk_alloc ?_ _)); refine blk_put (cs := #[.int .i64 ((rd_T37 t185 x7_1).f0), .int .u8 ((rd_T37 t185 x7_1).f1), .bool false]) ?_ 2 _ rfl; (with_reducible repeat (first | refine blk_drewN ?_ _ | refine blk_drew ?_ | refine blk_alloc ?_ _)); refine blk_put (cs := #[.int .i64 ((rd_T37 t185 x7_1).f0), .int .u8 0, .bool false]) ?_ 1 _ rfl; (with_reducible repeat (first | refine blk_drewN ?_ _ | refine blk_drew ?_ | refine blk_alloc ?_ _)); refine blk_put (cs := #[.int .i64 0, .int .u8 0, .bool false]) ?_ 0 _ rfl; (with_reducible repeat (first | refine blk_drewN ?_ _ | refine blk_drew ?_ | refine blk_alloc ?_ _)); exact BK189.out⟩, ⟨by repeat (first | (with_reducible first | exact HB.out | apply below_alloc | apply pw_below_drewN | apply below_drew1 | refine below_set ?_ GE189.out) | exact HB.out)⟩⟩
      case round =>
       clear H'
       try clear c1
       try clear p1
       try clear q1
       try clear hx1
       try clear c2
       try clear p2
       try clear c4
       try clear c4b0
       try clear c5
       try clear c5b0
       try clear hcz10_0
       try clear hcz10_1
       try clear hcz10_2
       try clear hfz10_0
       try clear hfz10_1
       try clear hfz10_2
       try clear hx188_0
       try clear hx188_1
       try clear hx188_2
       try clear hx190_0
       try clear hx190_1
       try clear hx190_2
       try clear p188
       try clear p190
       try clear p2
       try clear q188
       try clear q190
       obtain ⟨x8_2, x10_2, x190001_2, x190002_2, rfl, rfl, HA, HK2, HO_4, HO_5, HO_6, BK189, HB⟩ := hrel
       cases gk with
       | zero => exact absurd HA.out (by simp [clepsydraref20_Whole.l1])
       | succ k2 =>
        have H := HA.out
        clear HA
        simp only [clepsydraref20_Whole.l1] at H
        by_cases c11 : x8_2 < (t185.length : Int)
        ·rw [if_pos c11] at H
         have c11b0 : decide (x8_2 < (t185.length : Int)) = true := decide_eq_true c11
         clear c11
         (first | rw [c11b0] | (simp only [i64_w, i32_w]; rw [c11b0]) | skip)
         by_cases c12 : 0 ≤ x8_2
         ·rw [if_pos c12] at H
          have c12b0 : decide (0 ≤ x8_2) = true := decide_eq_true c12
          clear c12
          by_cases c13 : 0 ≤ x7_1
          ·rw [if_pos c13] at H
           have c13b0 : decide (0 ≤ x7_1) = true := decide_eq_true c13
           clear c13
           by_cases c14 : x7_1 < (t185.length : Int)
           ·rw [if_pos c14] at H
            have c14b0 : decide (x7_1 < (t185.length : Int)) = true := decide_eq_true c14
            clear c14
            by_cases c15 : ((rd_T37 t185 x8_2).f0) = ((rd_T37 t185 x7_1).f0)
            ·rw [if_pos c15] at H
             have c15b0 : (((rd_T37 t185 x8_2).f0) == ((rd_T37 t185 x7_1).f0)) = true := beq_iff_eq.mpr c15
             have c15b1 : (((rd_T37 t185 x8_2).f0) != ((rd_T37 t185 x7_1).f0)) = false := bne_eq_false_iff_eq.mpr c15
             clear c15
             replace H := Option.bind_eq_some_iff.mp H
             obtain ⟨⟨t195, t196⟩, A160, H⟩ := H
             replace H : (if x10_2 = true then (if x190002_2 = true then (clepsydraref20_Whole.l1 k2 t185 x5_1 x6_1 x7_1 (wrap64 (x8_2 + 1)) t196 ((rd_T37 t185 x7_1).f0) t195 true) else (clepsydraref20_Whole.l1 k2 t185 x5_1 x6_1 x7_1 (wrap64 (x8_2 + 1)) t196 ((rd_T37 t185 x7_1).f0) t195 ((rd_T37 t185 x8_2).f2))) else (if x190002_2 = true then (clepsydraref20_Whole.l1 k2 t185 x5_1 x6_1 x7_1 (wrap64 (x8_2 + 1)) false ((rd_T37 t185 x7_1).f0) t195 true) else (clepsydraref20_Whole.l1 k2 t185 x5_1 x6_1 x7_1 (wrap64 (x8_2 + 1)) false ((rd_T37 t185 x7_1).f0) t195 ((rd_T37 t185 x8_2).f2)))) = some (r1, r2) := H
             have A16 := Aside0.mk A160
             clear A160
             by_cases c17 : x10_2 = true
             ·subst c17
              have H1 : (if x190002_2 = true then (clepsydraref20_Whole.l1 k2 t185 x5_1 x6_1 x7_1 (wrap64 (x8_2 + 1)) t196 ((rd_T37 t185 x7_1).f0) t195 true) else (clepsydraref20_Whole.l1 k2 t185 x5_1 x6_1 x7_1 (wrap64 (x8_2 + 1)) t196 ((rd_T37 t185 x7_1).f0) t195 ((rd_T37 t185 x8_2).f2))) = some (r1, r2) := by rw [if_pos rfl] at H; exact H
              clear H
              have H := H1
              clear H1
              by_cases c18 : x190002_2 = true
              ·subst c18
               have H1 : (clepsydraref20_Whole.l1 k2 t185 x5_1 x6_1 x7_1 (wrap64 (x8_2 + 1)) t196 ((rd_T37 t185 x7_1).f0) t195 true) = some (r1, r2) := by rw [if_pos rfl] at H; exact H
               clear H
               have H := H1
               clear H1
               have H' := Aside0.mk H
               clear H
               try go_wp2
               have n0_ := Aside0.mk (Kd.R_drew HO_4.out)
               have n1_ := Aside0.mk (Kd.R_drew HO_5.out)
               have n2_ := Aside0.mk (Kd.R_drew HO_6.out)
               have n3_ := Aside0.mk (blk_drew BK189.out)
               have n4_ := Aside0.mk (below_drew1 HB.out)
               clear HO_4
               clear HO_5
               clear HO_6
               clear BK189
               clear HB
               have HO_4 := n0_
               have HO_5 := n1_
               have HO_6 := n2_
               have BK189 := n3_
               have HB := n4_
               clear n0_ n1_ n2_ n3_ n4_
               have p192 : 0 ≤ (x8_2 : Int) := of_decide_eq_true (by first | (with_reducible assumption) | assumption)
               have q192 : x8_2 < (t185.length : Int) := of_decide_eq_true (by first | (with_reducible assumption) | assumption)
               obtain ⟨ad192, e192, hx192_0, hx192_1, hx192_2⟩ := at_T37 (Kd.R_reads' HO_4.out).2.2 x8_2 p192 q192
               obtain rfl : ad188 = ad192 := (by injection e192)
               replace p192 := eq_true p192
               replace q192 := eq_true q192
               have p193 : 0 ≤ (x7_1 : Int) := of_decide_eq_true (by first | (with_reducible assumption) | assumption)
               have q193 : x7_1 < (t185.length : Int) := of_decide_eq_true (by first | (with_reducible assumption) | assumption)
               obtain ⟨ad193, e193, hx193_0, hx193_1, hx193_2⟩ := at_T37 (Kd.R_reads' HO_4.out).2.2 x7_1 p193 q193
               obtain rfl : ad188 = ad193 := (by injection e193)
               replace p193 := eq_true p193
               replace q193 := eq_true q193
               refine start_ (n := 17) (S := fun w' => w'.cell? (ad188.add ((x8_2).toNat * 3)) = some (.int .i64 ((rd_T37 t185 x8_2).f0)) ∧ w'.cell? ⟨(ad188.add ((x8_2).toNat * 3)).block, (ad188.add ((x8_2).toNat * 3)).off + 1, none⟩ = some (.int .u8 ((rd_T37 t185 x8_2).f1)) ∧ w'.cell? ⟨(ad188.add ((x8_2).toNat * 3)).block, (ad188.add ((x8_2).toNat * 3)).off + 2, none⟩ = some (.bool ((rd_T37 t185 x8_2).f2)) ∧ w'.cell? (ad188.add ((x7_1).toNat * 3)) = some (.int .i64 ((rd_T37 t185 x7_1).f0)) ∧ w'.cell? ⟨(ad188.add ((x7_1).toNat * 3)).block, (ad188.add ((x7_1).toNat * 3)).off + 1, none⟩ = some (.int .u8 ((rd_T37 t185 x7_1).f1)) ∧ w'.cell? ⟨(ad188.add ((x7_1).toNat * 3)).block, (ad188.add ((x7_1).toNat * 3)).off + 2, none⟩ = some (.bool ((rd_T37 t185 x7_1).f2))) (ds := []) u7_0 (by kernel_rfl) rfl rfl ⟨hx192_0, hx192_1, hx192_2, hx193_0, hx193_1, hx193_2⟩ (fun hHeld => ?_); refine with_tabW clepsydraref20_Whole.tab8 clepsydraref20_Whole.bits8 (fun HT_ HW_ => ?_)
               generalize wr.drew = w19 at HO_4 HO_5 HO_6 BK189 HB hx192_0 hx192_1 hx192_2 hx193_0 hx193_1 hx193_2 hHeld ⊢
               refine pure_ (i := 0) (N := some 30) (v := ?_) (a' := ?_) u7_1 rfl rfl (any_of HT_.out (by kernel_rfl)) (fun _ _ _ h => h) (Or.inl ⟨by rfl, ?_⟩) ?_ ?_
               rotate_left
               ·intro w'
                go_simp
                with_reducible rfl
               rotate_left
               ·simp only [Act.put, s0_, s1_, s2_, i64_w, i32_w]
                rfl
               refine pure_ (i := 1) (N := some 31) (v := ?_) (a' := ?_) u7_2 rfl rfl (any_of HT_.out (by kernel_rfl)) (fun _ _ _ h => h) (Or.inl ⟨by rfl, ?_⟩) ?_ ?_
               rotate_left
               ·intro w'
                go_simp
                with_reducible rfl
               rotate_left
               ·simp only [Act.put, s0_, s1_, s2_, i64_w, i32_w]
                rfl
               refine pure_ (i := 2) (N := some 32) (v := ?_) (a' := ?_) u7_3 rfl rfl (any_of HT_.out (by kernel_rfl)) (fun _ _ _ h => h) (Or.inl ⟨by rfl, ?_⟩) ?_ ?_
               rotate_left
               ·intro w'
                go_simp
                with_reducible rfl
               rotate_left
               ·simp only [Act.put, s0_, s1_, s2_, i64_w, i32_w]
                rfl
               refine pure_ (i := 3) (N := some 33) (v := ?_) (a' := ?_) u7_4 rfl rfl (any_of HT_.out (by kernel_rfl)) (fun _ _ _ h => h) (Or.inl ⟨by rfl, ?_⟩) ?_ ?_
               rotate_left
               ·intro w'
                go_simp
                with_reducible rfl
               rotate_left
               ·simp only [Act.put, s0_, s1_, s2_, i64_w, i32_w]
                rfl
               refine pure_ (i := 4) (N := some 34) (v := ?_) (a' := ?_) u7_5 rfl rfl (any_of HT_.out (by kernel_rfl)) (fun _ _ _ h => h) (Or.inl ⟨by rfl, ?_⟩) ?_ ?_
               rotate_left
               ·intro w'
                go_simp
                with_reducible rfl
               rotate_left
               ·simp only [Act.put, s0_, s1_, s2_, i64_w, i32_w]
                rfl
               refine pure_ (i := 5) (N := some 35) (v := ?_) (a' := ?_) u7_6 rfl rfl (any_of HT_.out (by kernel_rfl)) (fun _ _ _ h => h) (Or.inl ⟨by rfl, ?_⟩) ?_ ?_
               rotate_left
               ·intro w'
                go_simp
                with_reducible rfl
               rotate_left
               ·simp only [Act.put, s0_, s1_, s2_, i64_w, i32_w]
                rfl
               refine pure_ (i := 6) (N := some 36) (v := ?_) (a' := ?_) u7_7 rfl rfl (any_of HT_.out (by kernel_rfl)) (fun _ _ _ h => h) (Or.inl ⟨by rfl, ?_⟩) ?_ ?_
               rotate_left
               ·intro w'
                go_simp
                with_reducible rfl
               rotate_left
               ·simp only [Act.put, s0_, s1_, s2_, i64_w, i32_w]
                rfl
               refine pure_ (i := 7) (N := some 37) (v := ?_) (a' := ?_) u7_8 rfl rfl (any_of HT_.out (by kernel_rfl)) (fun _ _ _ h => h) (Or.inl ⟨by rfl, ?_⟩) ?_ ?_
               rotate_left
               ·intro w'
                go_simp
                with_reducible rfl
               rotate_left
               ·simp only [Act.put, s0_, s1_, s2_, i64_w, i32_w]
                rfl
               refine pure_ (i := 8) (N := some 38) (v := ?_) (a' := ?_) u7_9 rfl rfl (any_of HT_.out (by kernel_rfl)) (fun _ _ _ h => h) (Or.inl ⟨by rfl, ?_⟩) ?_ ?_
               rotate_left
               ·intro w'
                go_simp
                with_reducible rfl
               rotate_left
               ·simp only [Act.put, s0_, s1_, s2_, i64_w, i32_w]
                rfl
               refine pure_ (i := 10) (N := some 40) (v := ?_) (a' := ?_) u7_10 rfl rfl (any_of HT_.out (by kernel_rfl)) (fun _ _ _ h => h) (Or.inl ⟨by rfl, ?_⟩) ?_ ?_
               rotate_left
               ·intro w'
                go_simp
                with_reducible rfl
               rotate_left
               ·simp only [Act.put, s0_, s1_, s2_, i64_w, i32_w]
                rfl
               refine pure_ (i := 11) (N := some 41) (v := ?_) (a' := ?_) u7_11 rfl rfl (any_of HT_.out (by kernel_rfl)) (fun _ _ _ h => h) (Or.inl ⟨by rfl, ?_⟩) ?_ ?_
               rotate_left
               ·intro w'
                go_simp
                with_reducible rfl
               rotate_left
               ·simp only [Act.put, s0_, s1_, s2_, i64_w, i32_w]
                rfl
               refine pure_ (i := 12) (N := some 42) (v := ?_) (a' := ?_) u7_12 rfl rfl (any_of HT_.out (by kernel_rfl)) (fun _ _ _ h => h) (Or.inl ⟨by rfl, ?_⟩) ?_ ?_
               rotate_left
               ·intro w'
                go_simp
                with_reducible rfl
               rotate_left
               ·simp only [Act.put, s0_, s1_, s2_, i64_w, i32_w]
                rfl
               refine pure_ (i := 13) (N := some 43) (v := ?_) (a' := ?_) u7_13 rfl rfl (any_of HT_.out (by kernel_rfl)) (fun _ _ _ h => h) (Or.inl ⟨by rfl, ?_⟩) ?_ ?_
               rotate_left
               ·intro w'
                go_simp
                with_reducible rfl
               rotate_left
               ·simp only [Act.put, s0_, s1_, s2_, i64_w, i32_w]
                rfl
               refine take_ (i := 9) (N := some 39) (v := ?_) (a' := ?_) u7_14 rfl rfl (take_ofW HT_.out HW_.out (by kernel_rfl)) (fun _ _ _ h => h) (Or.inl ⟨by rfl, ?_⟩) hHeld ?_ ?_
               rotate_left
               ·rintro w' ⟨s0, s1, s2, s3, s4, s5⟩
                go_simp
                with_reducible rfl
               rotate_left
               ·simp only [Act.put, s0_, s1_, s2_, i64_w, i32_w]
                rfl
               refine take_ (i := 14) (N := some 44) (v := ?_) (a' := ?_) u7_15 rfl rfl (take_ofW HT_.out HW_.out (by kernel_rfl)) (fun _ _ _ h => h) (Or.inl ⟨by rfl, ?_⟩) hHeld ?_ ?_
               rotate_left
               ·rintro w' ⟨s0, s1, s2, s3, s4, s5⟩
                go_simp
                with_reducible rfl
               rotate_left
               ·simp only [Act.put, s0_, s1_, s2_, i64_w, i32_w]
                rfl
               refine pure_ (i := 15) (N := some 45) (v := ?_) (a' := ?_) u7_16 rfl rfl (any_of HT_.out (by kernel_rfl)) (fun _ _ _ h => h) (Or.inl ⟨by rfl, ?_⟩) ?_ ?_
               rotate_left
               ·intro w'
                go_simp
                with_reducible rfl
               rotate_left
               ·simp only [Act.put, s0_, s1_, s2_, i64_w, i32_w]
                rfl
               refine pure_ (i := 16) (N := some 46) (v := ?_) (a' := ?_) u7_17 rfl rfl (any_of HT_.out (by kernel_rfl)) (fun _ _ _ h => h) (Or.inl ⟨by rfl, ?_⟩) ?_ ?_
               rotate_left
               ·intro w'
                go_simp
                with_reducible rfl
               rotate_left
               ·simp only [Act.put, s0_, s1_, s2_, i64_w, i32_w]
                rfl
               refine done_ (done_of HT_.out (by kernel_rfl)) ?_
               try go_wp2
               have n0_ := Aside0.mk (Kd.R_drew HO_4.out)
               have n1_ := Aside0.mk (Kd.R_drew HO_5.out)
               have n2_ := Aside0.mk (Kd.R_drew HO_6.out)
               have n3_ := Aside0.mk (blk_drew BK189.out)
               have n4_ := Aside0.mk (below_drew1 HB.out)
               clear HO_4
               clear HO_5
               clear HO_6
               clear BK189
               clear HB
               have HO_4 := n0_
               have HO_5 := n1_
               have HO_6 := n2_
               have BK189 := n3_
               have HB := n4_
               clear n0_ n1_ n2_ n3_ n4_
               have p194 : 0 ≤ (x8_2 : Int) := of_decide_eq_true (by first | (with_reducible assumption) | assumption)
               have q194 : x8_2 < (t185.length : Int) := of_decide_eq_true (by first | (with_reducible assumption) | assumption)
               obtain ⟨ad194, e194, hx194_0, hx194_1, hx194_2⟩ := at_T37 (Kd.R_reads' HO_4.out).2.2 x8_2 p194 q194
               obtain rfl : ad188 = ad194 := (by injection e194)
               replace p194 := eq_true p194
               replace q194 := eq_true q194
               refine start_ (n := 13) (S := fun w' => w'.cell? ⟨gb189, 0, none⟩ = some (.int .i64 ((rd_T37 t185 x7_1).f0)) ∧ w'.cell? ⟨gb189, 1, none⟩ = some (.int .u8 x190001_2) ∧ w'.cell? ⟨gb189, 2, none⟩ = some (.bool true) ∧ w'.cell? (ad188.add ((x8_2).toNat * 3)) = some (.int .i64 ((rd_T37 t185 x8_2).f0)) ∧ w'.cell? ⟨(ad188.add ((x8_2).toNat * 3)).block, (ad188.add ((x8_2).toNat * 3)).off + 1, none⟩ = some (.int .u8 ((rd_T37 t185 x8_2).f1)) ∧ w'.cell? ⟨(ad188.add ((x8_2).toNat * 3)).block, (ad188.add ((x8_2).toNat * 3)).off + 2, none⟩ = some (.bool ((rd_T37 t185 x8_2).f2))) (ds := []) u7_18 (by kernel_rfl) rfl rfl ⟨(blk_cell BK189.out 0).trans rfl, (blk_cell BK189.out 1).trans rfl, (blk_cell BK189.out 2).trans rfl, hx194_0, hx194_1, hx194_2⟩ (fun hHeld => ?_); refine with_tabW clepsydraref20_Whole.tab9 clepsydraref20_Whole.bits9 (fun HT_ HW_ => ?_)
               generalize w19.drew = w20 at HO_4 HO_5 HO_6 BK189 HB hx194_0 hx194_1 hx194_2 hHeld ⊢
               refine pure_ (i := 0) (N := some 48) (v := ?_) (a' := ?_) u7_19 rfl rfl (any_of HT_.out (by kernel_rfl)) (fun _ _ _ h => h) (Or.inl ⟨by rfl, ?_⟩) ?_ ?_
               rotate_left
               ·intro w'
                go_simp
                with_reducible rfl
               rotate_left
               ·simp only [Act.put, s0_, s1_, s2_, i64_w, i32_w]
                rfl
               refine pure_ (i := 2) (N := some 50) (v := ?_) (a' := ?_) u7_20 rfl rfl (any_of HT_.out (by kernel_rfl)) (fun _ _ _ h => h) (Or.inl ⟨by rfl, ?_⟩) ?_ ?_
               rotate_left
               ·intro w'
                go_simp
                with_reducible rfl
               rotate_left
               ·simp only [Act.put, s0_, s1_, s2_, i64_w, i32_w]
                rfl
               refine pure_ (i := 3) (N := some 51) (v := ?_) (a' := ?_) u7_21 rfl rfl (any_of HT_.out (by kernel_rfl)) (fun _ _ _ h => h) (Or.inl ⟨by rfl, ?_⟩) ?_ ?_
               rotate_left
               ·intro w'
                go_simp
                with_reducible rfl
               rotate_left
               ·simp only [Act.put, s0_, s1_, s2_, i64_w, i32_w]
                rfl
               refine pure_ (i := 4) (N := some 52) (v := ?_) (a' := ?_) u7_22 rfl rfl (any_of HT_.out (by kernel_rfl)) (fun _ _ _ h => h) (Or.inl ⟨by rfl, ?_⟩) ?_ ?_
               rotate_left
               ·intro w'
                go_simp
                with_reducible rfl
               rotate_left
               ·simp only [Act.put, s0_, s1_, s2_, i64_w, i32_w]
                rfl
               refine pure_ (i := 5) (N := some 53) (v := ?_) (a' := ?_) u7_23 rfl rfl (any_of HT_.out (by kernel_rfl)) (fun _ _ _ h => h) (Or.inl ⟨by rfl, ?_⟩) ?_ ?_
               rotate_left
               ·intro w'
                go_simp
                with_reducible rfl
               rotate_left
               ·simp only [Act.put, s0_, s1_, s2_, i64_w, i32_w]
                rfl
               refine take_ (i := 1) (N := some 49) (v := ?_) (a' := ?_) u7_24 rfl rfl (take_ofW HT_.out HW_.out (by kernel_rfl)) (fun _ _ _ h => h) (Or.inl ⟨by rfl, ?_⟩) hHeld ?_ ?_
               rotate_left
               ·rintro w' ⟨s0, s1, s2, s3, s4, s5⟩
                go_simp
                with_reducible rfl
               rotate_left
               ·simp only [Act.put, s0_, s1_, s2_, i64_w, i32_w]
                rfl
               refine take_ (i := 6) (N := some 54) (v := ?_) (a' := ?_) u7_25 rfl rfl (take_ofW HT_.out HW_.out (by kernel_rfl)) (fun _ _ _ h => h) (Or.inl ⟨by rfl, ?_⟩) hHeld ?_ ?_
               rotate_left
               ·rintro w' ⟨s0, s1, s2, s3, s4, s5⟩
                go_simp
                with_reducible rfl
               rotate_left
               ·simp only [Act.put, s0_, s1_, s2_, i64_w, i32_w]
                rfl
               refine one_ (i := 7) (N := some 55) u7_26 rfl rfl (one_of HT_.out (by kernel_rfl)) (by decide) (fun K hK => ?_)
               refine goes_ Try.func18 (by kernel_rfl) rfl #[.int .u8 x190001_2, .int .u8 ((rd_T37 t185 x8_2).f1)] (by rfl) rfl rfl (by (try simp only [List.map_toArray, List.map_cons, List.map_nil]); first | done | rfl | (simp only [List.length_drop, List.length_take]; rfl)) ?_
               with_reducible refine (clepsydraref20_Merge.calls x190001_2 ((rd_T37 t185 x8_2).f1) t195 t196 _ A16.out).mono ?_
               rintro e w21 ⟨rfl, hb⟩
               have HS3_ := (hb.cell (World.block_lt_of_cell? _ _ (hHeld.2.2.2.1))).trans (hHeld.2.2.2.1)
               have HS4_ := (hb.cell (World.block_lt_of_cell? _ _ (hHeld.2.2.2.2.1))).trans (hHeld.2.2.2.2.1)
               have HS5_ := (hb.cell (World.block_lt_of_cell? _ _ (hHeld.2.2.2.2.2))).trans (hHeld.2.2.2.2.2)
               refine ⟨_, rfl, ?_⟩
               have n0_ := Aside0.mk (Kd.R_below (by (with_reducible repeat (first | apply Kd.R_alloc | apply Kd.R_drewN | apply Kd.R_drew)); exact HO_4.out) hb)
               have n1_ := Aside0.mk (Kd.R_below (by (with_reducible repeat (first | apply Kd.R_alloc | apply Kd.R_drewN | apply Kd.R_drew)); exact HO_5.out) hb)
               have n2_ := Aside0.mk (Kd.R_below (by (with_reducible repeat (first | apply Kd.R_alloc | apply Kd.R_drewN | apply Kd.R_drew)); exact HO_6.out) hb)
               have n3_ := Aside0.mk (blk_below (g := gb189) (o := .cells #[.int .i64 ((rd_T37 t185 x7_1).f0), .int .u8 x190001_2, .bool true] 37 (0, 0)) (by (with_reducible repeat (first | refine blk_drewN ?_ _ | refine blk_drew ?_ | refine blk_alloc ?_ _)); exact BK189.out) hb)
               have n4_ := Aside0.mk (below_step (by repeat (first | (with_reducible first | exact HB.out | apply below_alloc | apply pw_below_drewN | apply below_drew1 | refine below_set ?_ GE189.out) | exact HB.out)) hb)
               clear HO_4
               clear HO_5
               clear HO_6
               clear BK189
               clear HB
               have HO_4 := n0_
               have HO_5 := n1_
               have HO_6 := n2_
               have BK189 := n3_
               have HB := n4_
               clear n0_ n1_ n2_ n3_ n4_
               (try clear hb)
               (try clear hb2)
               (try clear hk)
               (try clear hi)
               refine hK.out _ _ ⟨(blk_cell BK189.out 0).trans rfl, (blk_cell BK189.out 1).trans rfl, (blk_cell BK189.out 2).trans rfl, HS3_, HS4_, HS5_⟩ (fun hHeld => ?_)
               clear hK K
               refine norm_ (a' := ?_) ?_ ?_
               rotate_left
               ·show Act.put _ (some 55) _ = _
                simp only [Act.put, s0_, s1_, s2_, i64_w, i32_w]
                rfl
               refine pure_ (i := 8) (N := some 47) (v := ?_) (a' := ?_) u7_27 rfl rfl (any_of HT_.out (by kernel_rfl)) (fun _ _ _ h => h) (Or.inl ⟨by rfl, ?_⟩) ?_ ?_
               rotate_left
               ·intro w'
                go_simp
                with_reducible rfl
               rotate_left
               ·simp only [Act.put, s0_, s1_, s2_, i64_w, i32_w]
                rfl
               refine pure_ (i := 9) (N := some 56) (v := ?_) (a' := ?_) u7_28 rfl rfl (any_of HT_.out (by kernel_rfl)) (fun _ _ _ h => h) (Or.inl ⟨by rfl, ?_⟩) ?_ ?_
               rotate_left
               ·intro w'
                go_simp
                with_reducible rfl
               rotate_left
               ·simp only [Act.put, s0_, s1_, s2_, i64_w, i32_w]
                rfl
               refine pure_ (i := 10) (N := some 57) (v := ?_) (a' := ?_) u7_29 rfl rfl (any_of HT_.out (by kernel_rfl)) (fun _ _ _ h => h) (Or.inl ⟨by rfl, ?_⟩) ?_ ?_
               rotate_left
               ·intro w'
                go_simp
                with_reducible rfl
               rotate_left
               ·simp only [Act.put, s0_, s1_, s2_, i64_w, i32_w]
                rfl
               refine pure_ (i := 11) (N := some 11) (v := ?_) (a' := ?_) u7_30 rfl rfl (any_of HT_.out (by kernel_rfl)) (fun _ _ _ h => h) (Or.inl ⟨by rfl, ?_⟩) ?_ ?_
               rotate_left
               ·intro w'
                go_simp
                with_reducible rfl
               rotate_left
               ·simp only [Act.put, s0_, s1_, s2_, i64_w, i32_w]
                rfl
               refine pure_ (i := 12) (N := some 12) (v := ?_) (a' := ?_) u7_31 rfl rfl (any_of HT_.out (by kernel_rfl)) (fun _ _ _ h => h) (Or.inl ⟨by rfl, ?_⟩) ?_ ?_
               rotate_left
               ·intro w'
                go_simp
                with_reducible rfl
               rotate_left
               ·simp only [Act.put, s0_, s1_, s2_, i64_w, i32_w]
                rfl
               refine done_ (done_of HT_.out (by kernel_rfl)) ?_
               have hcz22_0 : w21.cell? ⟨gb189, 0, none⟩ = some (.int .i64 ((rd_T37 t185 x7_1).f0)) := (blk_cell BK189.out 0).trans rfl
               have hcz22_1 : w21.cell? ⟨gb189, 1, none⟩ = some (.int .u8 x190001_2) := (blk_cell BK189.out 1).trans rfl
               have hcz22_2 : w21.cell? ⟨gb189, 2, none⟩ = some (.bool true) := (blk_cell BK189.out 2).trans rfl
               have hfz22_0 := blk_frozen BK189.out 0
               have hfz22_1 := blk_frozen BK189.out 1
               have hfz22_2 := blk_frozen BK189.out 2
               try go_wp2
               go_roundg k2
               case measure => have := HK1.out; have := HK2.out; omega
               case rel => exact ⟨(wrap64 (x8_2 + 1)), (t196), (t195), (true), (by first | rfl | (simp; done) | (simp [*]; done)), (by first | rfl | (simp; done) | (simp [*]; done)), H', ⟨by have := HK1.out; have := HK2.out; omega⟩, ⟨by (with_reducible repeat (first | apply Kd.R_alloc | apply Kd.R_drewN | apply Kd.R_drew)); exact Kd.R_mono (Kd.R_far (p := ⟨gb189, 2, none⟩) (Kd.R_far (p := ⟨gb189, 1, none⟩) (Kd.R_mono HO_4.out (fun k_ hk => (⟨hk, hk.2.2⟩ : _ ∧ k_ ≠ gb189))) (fun _ hk => hk.2) (.int .u8 t195)) (fun _ hk => hk.2) (.bool true)) (fun _ hk => ⟨hk.1.1, ⟨hk.1.2.1, hk.1.2.2⟩⟩)⟩, ⟨by (with_reducible repeat (first | apply Kd.R_alloc | apply Kd.R_drewN | apply Kd.R_drew)); exact Kd.R_mono (Kd.R_far (p := ⟨gb189, 2, none⟩) (Kd.R_far (p := ⟨gb189, 1, none⟩) (Kd.R_mono HO_5.out (fun k_ hk => (⟨hk, hk.2.2⟩ : _ ∧ k_ ≠ gb189))) (fun _ hk => hk.2) (.int .u8 t195)) (fun _ hk => hk.2) (.bool true)) (fun _ hk => ⟨hk.1.1, ⟨hk.1.2.1, hk.1.2.2⟩⟩)⟩, ⟨by (with_reducible repeat (first | apply Kd.R_alloc | apply Kd.R_drewN | apply Kd.R_drew)); exact Kd.R_mono (Kd.R_far (p := ⟨gb189, 2, none⟩) (Kd.R_far (p := ⟨gb189, 1, none⟩) (Kd.R_mono HO_6.out (fun k_ hk => (⟨hk, hk.2.2⟩ : _ ∧ k_ ≠ gb189))) (fun _ hk => hk.2) (.int .u8 t195)) (fun _ hk => hk.2) (.bool true)) (fun _ hk => ⟨hk.1.1, ⟨hk.1.2.1, hk.1.2.2⟩⟩)⟩, ⟨by (with_reducible repeat (first | refine blk_drewN ?_ _ | refine blk_drew ?_ | refine blk_alloc ?_ _)); refine blk_put (cs := #[.int .i64 ((rd_T37 t185 x7_1).f0), .int .u8 t195, .bool true]) ?_ 2 _ rfl; (with_reducible repeat (first | refine blk_drewN ?_ _ | refine blk_drew ?_ | refine blk_alloc ?_ _)); refine blk_put (cs := #[.int .i64 ((rd_T37 t185 x7_1).f0), .int .u8 x190001_2, .bool true]) ?_ 1 _ rfl; (with_reducible repeat (first | refine blk_drewN ?_ _ | refine blk_drew ?_ | refine blk_alloc ?_ _)); exact BK189.out⟩, ⟨by repeat (first | (with_reducible first | exact HB.out | apply below_alloc | apply pw_below_drewN | apply below_drew1 | refine below_set ?_ GE189.out) | exact HB.out)⟩⟩
              ·replace c18 := Bool.eq_false_iff.mpr c18
               subst c18
               have H1 : (clepsydraref20_Whole.l1 k2 t185 x5_1 x6_1 x7_1 (wrap64 (x8_2 + 1)) t196 ((rd_T37 t185 x7_1).f0) t195 ((rd_T37 t185 x8_2).f2)) = some (r1, r2) := by rw [if_neg (show ¬ (false = true) by decide)] at H; exact H
               clear H
               have H := H1
               clear H1
               have H' := Aside0.mk H
               clear H
               try go_wp2
               have n0_ := Aside0.mk (Kd.R_drew HO_4.out)
               have n1_ := Aside0.mk (Kd.R_drew HO_5.out)
               have n2_ := Aside0.mk (Kd.R_drew HO_6.out)
               have n3_ := Aside0.mk (blk_drew BK189.out)
               have n4_ := Aside0.mk (below_drew1 HB.out)
               clear HO_4
               clear HO_5
               clear HO_6
               clear BK189
               clear HB
               have HO_4 := n0_
               have HO_5 := n1_
               have HO_6 := n2_
               have BK189 := n3_
               have HB := n4_
               clear n0_ n1_ n2_ n3_ n4_
               have p192 : 0 ≤ (x8_2 : Int) := of_decide_eq_true (by first | (with_reducible assumption) | assumption)
               have q192 : x8_2 < (t185.length : Int) := of_decide_eq_true (by first | (with_reducible assumption) | assumption)
               obtain ⟨ad192, e192, hx192_0, hx192_1, hx192_2⟩ := at_T37 (Kd.R_reads' HO_4.out).2.2 x8_2 p192 q192
               obtain rfl : ad188 = ad192 := (by injection e192)
               replace p192 := eq_true p192
               replace q192 := eq_true q192
               have p193 : 0 ≤ (x7_1 : Int) := of_decide_eq_true (by first | (with_reducible assumption) | assumption)
               have q193 : x7_1 < (t185.length : Int) := of_decide_eq_true (by first | (with_reducible assumption) | assumption)
               obtain ⟨ad193, e193, hx193_0, hx193_1, hx193_2⟩ := at_T37 (Kd.R_reads' HO_4.out).2.2 x7_1 p193 q193
               obtain rfl : ad188 = ad193 := (by injection e193)
               replace p193 := eq_true p193
               replace q193 := eq_true q193
               refine start_ (n := 17) (S := fun w' => w'.cell? (ad188.add ((x8_2).toNat * 3)) = some (.int .i64 ((rd_T37 t185 x8_2).f0)) ∧ w'.cell? ⟨(ad188.add ((x8_2).toNat * 3)).block, (ad188.add ((x8_2).toNat * 3)).off + 1, none⟩ = some (.int .u8 ((rd_T37 t185 x8_2).f1)) ∧ w'.cell? ⟨(ad188.add ((x8_2).toNat * 3)).block, (ad188.add ((x8_2).toNat * 3)).off + 2, none⟩ = some (.bool ((rd_T37 t185 x8_2).f2)) ∧ w'.cell? (ad188.add ((x7_1).toNat * 3)) = some (.int .i64 ((rd_T37 t185 x7_1).f0)) ∧ w'.cell? ⟨(ad188.add ((x7_1).toNat * 3)).block, (ad188.add ((x7_1).toNat * 3)).off + 1, none⟩ = some (.int .u8 ((rd_T37 t185 x7_1).f1)) ∧ w'.cell? ⟨(ad188.add ((x7_1).toNat * 3)).block, (ad188.add ((x7_1).toNat * 3)).off + 2, none⟩ = some (.bool ((rd_T37 t185 x7_1).f2))) (ds := []) u7_0 (by kernel_rfl) rfl rfl ⟨hx192_0, hx192_1, hx192_2, hx193_0, hx193_1, hx193_2⟩ (fun hHeld => ?_); refine with_tabW clepsydraref20_Whole.tab8 clepsydraref20_Whole.bits8 (fun HT_ HW_ => ?_)
               generalize wr.drew = w23 at HO_4 HO_5 HO_6 BK189 HB hx192_0 hx192_1 hx192_2 hx193_0 hx193_1 hx193_2 hHeld ⊢
               refine pure_ (i := 0) (N := some 30) (v := ?_) (a' := ?_) u7_1 rfl rfl (any_of HT_.out (by kernel_rfl)) (fun _ _ _ h => h) (Or.inl ⟨by rfl, ?_⟩) ?_ ?_
               rotate_left
               ·intro w'
                go_simp
                with_reducible rfl
               rotate_left
               ·simp only [Act.put, s0_, s1_, s2_, i64_w, i32_w]
                rfl
               refine pure_ (i := 1) (N := some 31) (v := ?_) (a' := ?_) u7_2 rfl rfl (any_of HT_.out (by kernel_rfl)) (fun _ _ _ h => h) (Or.inl ⟨by rfl, ?_⟩) ?_ ?_
               rotate_left
               ·intro w'
                go_simp
                with_reducible rfl
               rotate_left
               ·simp only [Act.put, s0_, s1_, s2_, i64_w, i32_w]
                rfl
               refine pure_ (i := 2) (N := some 32) (v := ?_) (a' := ?_) u7_3 rfl rfl (any_of HT_.out (by kernel_rfl)) (fun _ _ _ h => h) (Or.inl ⟨by rfl, ?_⟩) ?_ ?_
               rotate_left
               ·intro w'
                go_simp
                with_reducible rfl
               rotate_left
               ·simp only [Act.put, s0_, s1_, s2_, i64_w, i32_w]
                rfl
               refine pure_ (i := 3) (N := some 33) (v := ?_) (a' := ?_) u7_4 rfl rfl (any_of HT_.out (by kernel_rfl)) (fun _ _ _ h => h) (Or.inl ⟨by rfl, ?_⟩) ?_ ?_
               rotate_left
               ·intro w'
                go_simp
                with_reducible rfl
               rotate_left
               ·simp only [Act.put, s0_, s1_, s2_, i64_w, i32_w]
                rfl
               refine pure_ (i := 4) (N := some 34) (v := ?_) (a' := ?_) u7_5 rfl rfl (any_of HT_.out (by kernel_rfl)) (fun _ _ _ h => h) (Or.inl ⟨by rfl, ?_⟩) ?_ ?_
               rotate_left
               ·intro w'
                go_simp
                with_reducible rfl
               rotate_left
               ·simp only [Act.put, s0_, s1_, s2_, i64_w, i32_w]
                rfl
               refine pure_ (i := 5) (N := some 35) (v := ?_) (a' := ?_) u7_6 rfl rfl (any_of HT_.out (by kernel_rfl)) (fun _ _ _ h => h) (Or.inl ⟨by rfl, ?_⟩) ?_ ?_
               rotate_left
               ·intro w'
                go_simp
                with_reducible rfl
               rotate_left
               ·simp only [Act.put, s0_, s1_, s2_, i64_w, i32_w]
                rfl
               refine pure_ (i := 6) (N := some 36) (v := ?_) (a' := ?_) u7_7 rfl rfl (any_of HT_.out (by kernel_rfl)) (fun _ _ _ h => h) (Or.inl ⟨by rfl, ?_⟩) ?_ ?_
               rotate_left
               ·intro w'
                go_simp
                with_reducible rfl
               rotate_left
               ·simp only [Act.put, s0_, s1_, s2_, i64_w, i32_w]
                rfl
               refine pure_ (i := 7) (N := some 37) (v := ?_) (a' := ?_) u7_8 rfl rfl (any_of HT_.out (by kernel_rfl)) (fun _ _ _ h => h) (Or.inl ⟨by rfl, ?_⟩) ?_ ?_
               rotate_left
               ·intro w'
                go_simp
                with_reducible rfl
               rotate_left
               ·simp only [Act.put, s0_, s1_, s2_, i64_w, i32_w]
                rfl
               refine pure_ (i := 8) (N := some 38) (v := ?_) (a' := ?_) u7_9 rfl rfl (any_of HT_.out (by kernel_rfl)) (fun _ _ _ h => h) (Or.inl ⟨by rfl, ?_⟩) ?_ ?_
               rotate_left
               ·intro w'
                go_simp
                with_reducible rfl
               rotate_left
               ·simp only [Act.put, s0_, s1_, s2_, i64_w, i32_w]
                rfl
               refine pure_ (i := 10) (N := some 40) (v := ?_) (a' := ?_) u7_10 rfl rfl (any_of HT_.out (by kernel_rfl)) (fun _ _ _ h => h) (Or.inl ⟨by rfl, ?_⟩) ?_ ?_
               rotate_left
               ·intro w'
                go_simp
                with_reducible rfl
               rotate_left
               ·simp only [Act.put, s0_, s1_, s2_, i64_w, i32_w]
                rfl
               refine pure_ (i := 11) (N := some 41) (v := ?_) (a' := ?_) u7_11 rfl rfl (any_of HT_.out (by kernel_rfl)) (fun _ _ _ h => h) (Or.inl ⟨by rfl, ?_⟩) ?_ ?_
               rotate_left
               ·intro w'
                go_simp
                with_reducible rfl
               rotate_left
               ·simp only [Act.put, s0_, s1_, s2_, i64_w, i32_w]
                rfl
               refine pure_ (i := 12) (N := some 42) (v := ?_) (a' := ?_) u7_12 rfl rfl (any_of HT_.out (by kernel_rfl)) (fun _ _ _ h => h) (Or.inl ⟨by rfl, ?_⟩) ?_ ?_
               rotate_left
               ·intro w'
                go_simp
                with_reducible rfl
               rotate_left
               ·simp only [Act.put, s0_, s1_, s2_, i64_w, i32_w]
                rfl
               refine pure_ (i := 13) (N := some 43) (v := ?_) (a' := ?_) u7_13 rfl rfl (any_of HT_.out (by kernel_rfl)) (fun _ _ _ h => h) (Or.inl ⟨by rfl, ?_⟩) ?_ ?_
               rotate_left
               ·intro w'
                go_simp
                with_reducible rfl
               rotate_left
               ·simp only [Act.put, s0_, s1_, s2_, i64_w, i32_w]
                rfl
               refine take_ (i := 9) (N := some 39) (v := ?_) (a' := ?_) u7_14 rfl rfl (take_ofW HT_.out HW_.out (by kernel_rfl)) (fun _ _ _ h => h) (Or.inl ⟨by rfl, ?_⟩) hHeld ?_ ?_
               rotate_left
               ·rintro w' ⟨s0, s1, s2, s3, s4, s5⟩
                go_simp
                with_reducible rfl
               rotate_left
               ·simp only [Act.put, s0_, s1_, s2_, i64_w, i32_w]
                rfl
               refine take_ (i := 14) (N := some 44) (v := ?_) (a' := ?_) u7_15 rfl rfl (take_ofW HT_.out HW_.out (by kernel_rfl)) (fun _ _ _ h => h) (Or.inl ⟨by rfl, ?_⟩) hHeld ?_ ?_
               rotate_left
               ·rintro w' ⟨s0, s1, s2, s3, s4, s5⟩
                go_simp
                with_reducible rfl
               rotate_left
               ·simp only [Act.put, s0_, s1_, s2_, i64_w, i32_w]
                rfl
               refine pure_ (i := 15) (N := some 45) (v := ?_) (a' := ?_) u7_16 rfl rfl (any_of HT_.out (by kernel_rfl)) (fun _ _ _ h => h) (Or.inl ⟨by rfl, ?_⟩) ?_ ?_
               rotate_left
               ·intro w'
                go_simp
                with_reducible rfl
               rotate_left
               ·simp only [Act.put, s0_, s1_, s2_, i64_w, i32_w]
                rfl
               refine pure_ (i := 16) (N := some 46) (v := ?_) (a' := ?_) u7_17 rfl rfl (any_of HT_.out (by kernel_rfl)) (fun _ _ _ h => h) (Or.inl ⟨by rfl, ?_⟩) ?_ ?_
               rotate_left
               ·intro w'
                go_simp
                with_reducible rfl
               rotate_left
               ·simp only [Act.put, s0_, s1_, s2_, i64_w, i32_w]
                rfl
               refine done_ (done_of HT_.out (by kernel_rfl)) ?_
               try go_wp2
               have n0_ := Aside0.mk (Kd.R_drew HO_4.out)
               have n1_ := Aside0.mk (Kd.R_drew HO_5.out)
               have n2_ := Aside0.mk (Kd.R_drew HO_6.out)
               have n3_ := Aside0.mk (blk_drew BK189.out)
               have n4_ := Aside0.mk (below_drew1 HB.out)
               clear HO_4
               clear HO_5
               clear HO_6
               clear BK189
               clear HB
               have HO_4 := n0_
               have HO_5 := n1_
               have HO_6 := n2_
               have BK189 := n3_
               have HB := n4_
               clear n0_ n1_ n2_ n3_ n4_
               have p194 : 0 ≤ (x8_2 : Int) := of_decide_eq_true (by first | (with_reducible assumption) | assumption)
               have q194 : x8_2 < (t185.length : Int) := of_decide_eq_true (by first | (with_reducible assumption) | assumption)
               obtain ⟨ad194, e194, hx194_0, hx194_1, hx194_2⟩ := at_T37 (Kd.R_reads' HO_4.out).2.2 x8_2 p194 q194
               obtain rfl : ad188 = ad194 := (by injection e194)
               replace p194 := eq_true p194
               replace q194 := eq_true q194
               refine start_ (n := 13) (S := fun w' => w'.cell? ⟨gb189, 0, none⟩ = some (.int .i64 ((rd_T37 t185 x7_1).f0)) ∧ w'.cell? ⟨gb189, 1, none⟩ = some (.int .u8 x190001_2) ∧ w'.cell? ⟨gb189, 2, none⟩ = some (.bool false) ∧ w'.cell? (ad188.add ((x8_2).toNat * 3)) = some (.int .i64 ((rd_T37 t185 x8_2).f0)) ∧ w'.cell? ⟨(ad188.add ((x8_2).toNat * 3)).block, (ad188.add ((x8_2).toNat * 3)).off + 1, none⟩ = some (.int .u8 ((rd_T37 t185 x8_2).f1)) ∧ w'.cell? ⟨(ad188.add ((x8_2).toNat * 3)).block, (ad188.add ((x8_2).toNat * 3)).off + 2, none⟩ = some (.bool ((rd_T37 t185 x8_2).f2))) (ds := []) u7_18 (by kernel_rfl) rfl rfl ⟨(blk_cell BK189.out 0).trans rfl, (blk_cell BK189.out 1).trans rfl, (blk_cell BK189.out 2).trans rfl, hx194_0, hx194_1, hx194_2⟩ (fun hHeld => ?_); refine with_tabW clepsydraref20_Whole.tab9 clepsydraref20_Whole.bits9 (fun HT_ HW_ => ?_)
               generalize w23.drew = w24 at HO_4 HO_5 HO_6 BK189 HB hx194_0 hx194_1 hx194_2 hHeld ⊢
               refine pure_ (i := 0) (N := some 48) (v := ?_) (a' := ?_) u7_19 rfl rfl (any_of HT_.out (by kernel_rfl)) (fun _ _ _ h => h) (Or.inl ⟨by rfl, ?_⟩) ?_ ?_
               rotate_left
               ·intro w'
                go_simp
                with_reducible rfl
               rotate_left
               ·simp only [Act.put, s0_, s1_, s2_, i64_w, i32_w]
                rfl
               refine pure_ (i := 2) (N := some 50) (v := ?_) (a' := ?_) u7_20 rfl rfl (any_of HT_.out (by kernel_rfl)) (fun _ _ _ h => h) (Or.inl ⟨by rfl, ?_⟩) ?_ ?_
               rotate_left
               ·intro w'
                go_simp
                with_reducible rfl
               rotate_left
               ·simp only [Act.put, s0_, s1_, s2_, i64_w, i32_w]
                rfl
               refine pure_ (i := 3) (N := some 51) (v := ?_) (a' := ?_) u7_21 rfl rfl (any_of HT_.out (by kernel_rfl)) (fun _ _ _ h => h) (Or.inl ⟨by rfl, ?_⟩) ?_ ?_
               rotate_left
               ·intro w'
                go_simp
                with_reducible rfl
               rotate_left
               ·simp only [Act.put, s0_, s1_, s2_, i64_w, i32_w]
                rfl
               refine pure_ (i := 4) (N := some 52) (v := ?_) (a' := ?_) u7_22 rfl rfl (any_of HT_.out (by kernel_rfl)) (fun _ _ _ h => h) (Or.inl ⟨by rfl, ?_⟩) ?_ ?_
               rotate_left
               ·intro w'
                go_simp
                with_reducible rfl
               rotate_left
               ·simp only [Act.put, s0_, s1_, s2_, i64_w, i32_w]
                rfl
               refine pure_ (i := 5) (N := some 53) (v := ?_) (a' := ?_) u7_23 rfl rfl (any_of HT_.out (by kernel_rfl)) (fun _ _ _ h => h) (Or.inl ⟨by rfl, ?_⟩) ?_ ?_
               rotate_left
               ·intro w'
                go_simp
                with_reducible rfl
               rotate_left
               ·simp only [Act.put, s0_, s1_, s2_, i64_w, i32_w]
                rfl
               refine take_ (i := 1) (N := some 49) (v := ?_) (a' := ?_) u7_24 rfl rfl (take_ofW HT_.out HW_.out (by kernel_rfl)) (fun _ _ _ h => h) (Or.inl ⟨by rfl, ?_⟩) hHeld ?_ ?_
               rotate_left
               ·rintro w' ⟨s0, s1, s2, s3, s4, s5⟩
                go_simp
                with_reducible rfl
               rotate_left
               ·simp only [Act.put, s0_, s1_, s2_, i64_w, i32_w]
                rfl
               refine take_ (i := 6) (N := some 54) (v := ?_) (a' := ?_) u7_25 rfl rfl (take_ofW HT_.out HW_.out (by kernel_rfl)) (fun _ _ _ h => h) (Or.inl ⟨by rfl, ?_⟩) hHeld ?_ ?_
               rotate_left
               ·rintro w' ⟨s0, s1, s2, s3, s4, s5⟩
                go_simp
                with_reducible rfl
               rotate_left
               ·simp only [Act.put, s0_, s1_, s2_, i64_w, i32_w]
                rfl
               refine one_ (i := 7) (N := some 55) u7_26 rfl rfl (one_of HT_.out (by kernel_rfl)) (by decide) (fun K hK => ?_)
               refine goes_ Try.func18 (by kernel_rfl) rfl #[.int .u8 x190001_2, .int .u8 ((rd_T37 t185 x8_2).f1)] (by rfl) rfl rfl (by (try simp only [List.map_toArray, List.map_cons, List.map_nil]); first | done | rfl | (simp only [List.length_drop, List.length_take]; rfl)) ?_
               with_reducible refine (clepsydraref20_Merge.calls x190001_2 ((rd_T37 t185 x8_2).f1) t195 t196 _ A16.out).mono ?_
               rintro e w25 ⟨rfl, hb⟩
               have HS3_ := (hb.cell (World.block_lt_of_cell? _ _ (hHeld.2.2.2.1))).trans (hHeld.2.2.2.1)
               have HS4_ := (hb.cell (World.block_lt_of_cell? _ _ (hHeld.2.2.2.2.1))).trans (hHeld.2.2.2.2.1)
               have HS5_ := (hb.cell (World.block_lt_of_cell? _ _ (hHeld.2.2.2.2.2))).trans (hHeld.2.2.2.2.2)
               refine ⟨_, rfl, ?_⟩
               have n0_ := Aside0.mk (Kd.R_below (by (with_reducible repeat (first | apply Kd.R_alloc | apply Kd.R_drewN | apply Kd.R_drew)); exact HO_4.out) hb)
               have n1_ := Aside0.mk (Kd.R_below (by (with_reducible repeat (first | apply Kd.R_alloc | apply Kd.R_drewN | apply Kd.R_drew)); exact HO_5.out) hb)
               have n2_ := Aside0.mk (Kd.R_below (by (with_reducible repeat (first | apply Kd.R_alloc | apply Kd.R_drewN | apply Kd.R_drew)); exact HO_6.out) hb)
               have n3_ := Aside0.mk (blk_below (g := gb189) (o := .cells #[.int .i64 ((rd_T37 t185 x7_1).f0), .int .u8 x190001_2, .bool false] 37 (0, 0)) (by (with_reducible repeat (first | refine blk_drewN ?_ _ | refine blk_drew ?_ | refine blk_alloc ?_ _)); exact BK189.out) hb)
               have n4_ := Aside0.mk (below_step (by repeat (first | (with_reducible first | exact HB.out | apply below_alloc | apply pw_below_drewN | apply below_drew1 | refine below_set ?_ GE189.out) | exact HB.out)) hb)
               clear HO_4
               clear HO_5
               clear HO_6
               clear BK189
               clear HB
               have HO_4 := n0_
               have HO_5 := n1_
               have HO_6 := n2_
               have BK189 := n3_
               have HB := n4_
               clear n0_ n1_ n2_ n3_ n4_
               (try clear hb)
               (try clear hb2)
               (try clear hk)
               (try clear hi)
               refine hK.out _ _ ⟨(blk_cell BK189.out 0).trans rfl, (blk_cell BK189.out 1).trans rfl, (blk_cell BK189.out 2).trans rfl, HS3_, HS4_, HS5_⟩ (fun hHeld => ?_)
               clear hK K
               refine norm_ (a' := ?_) ?_ ?_
               rotate_left
               ·show Act.put _ (some 55) _ = _
                simp only [Act.put, s0_, s1_, s2_, i64_w, i32_w]
                rfl
               refine pure_ (i := 8) (N := some 47) (v := ?_) (a' := ?_) u7_27 rfl rfl (any_of HT_.out (by kernel_rfl)) (fun _ _ _ h => h) (Or.inl ⟨by rfl, ?_⟩) ?_ ?_
               rotate_left
               ·intro w'
                go_simp
                with_reducible rfl
               rotate_left
               ·simp only [Act.put, s0_, s1_, s2_, i64_w, i32_w]
                rfl
               refine pure_ (i := 9) (N := some 56) (v := ?_) (a' := ?_) u7_28 rfl rfl (any_of HT_.out (by kernel_rfl)) (fun _ _ _ h => h) (Or.inl ⟨by rfl, ?_⟩) ?_ ?_
               rotate_left
               ·intro w'
                go_simp
                with_reducible rfl
               rotate_left
               ·simp only [Act.put, s0_, s1_, s2_, i64_w, i32_w]
                rfl
               refine pure_ (i := 10) (N := some 57) (v := ?_) (a' := ?_) u7_29 rfl rfl (any_of HT_.out (by kernel_rfl)) (fun _ _ _ h => h) (Or.inl ⟨by rfl, ?_⟩) ?_ ?_
               rotate_left
               ·intro w'
                go_simp
                with_reducible rfl
               rotate_left
               ·simp only [Act.put, s0_, s1_, s2_, i64_w, i32_w]
                rfl
               refine pure_ (i := 11) (N := some 11) (v := ?_) (a' := ?_) u7_30 rfl rfl (any_of HT_.out (by kernel_rfl)) (fun _ _ _ h => h) (Or.inl ⟨by rfl, ?_⟩) ?_ ?_
               rotate_left
               ·intro w'
                go_simp
                with_reducible rfl
               rotate_left
               ·simp only [Act.put, s0_, s1_, s2_, i64_w, i32_w]
                rfl
               refine pure_ (i := 12) (N := some 12) (v := ?_) (a' := ?_) u7_31 rfl rfl (any_of HT_.out (by kernel_rfl)) (fun _ _ _ h => h) (Or.inl ⟨by rfl, ?_⟩) ?_ ?_
               rotate_left
               ·intro w'
                go_simp
                with_reducible rfl
               rotate_left
               ·simp only [Act.put, s0_, s1_, s2_, i64_w, i32_w]
                rfl
               refine done_ (done_of HT_.out (by kernel_rfl)) ?_
               have hcz26_0 : w25.cell? ⟨gb189, 0, none⟩ = some (.int .i64 ((rd_T37 t185 x7_1).f0)) := (blk_cell BK189.out 0).trans rfl
               have hcz26_1 : w25.cell? ⟨gb189, 1, none⟩ = some (.int .u8 x190001_2) := (blk_cell BK189.out 1).trans rfl
               have hcz26_2 : w25.cell? ⟨gb189, 2, none⟩ = some (.bool false) := (blk_cell BK189.out 2).trans rfl
               have hfz26_0 := blk_frozen BK189.out 0
               have hfz26_1 := blk_frozen BK189.out 1
               have hfz26_2 := blk_frozen BK189.out 2
               have p197 : 0 ≤ (x8_2 : Int) := of_decide_eq_true (by first | (with_reducible assumption) | assumption)
               have q197 : x8_2 < (t185.length : Int) := of_decide_eq_true (by first | (with_reducible assumption) | assumption)
               obtain ⟨ad197, e197, hx197_0, hx197_1, hx197_2⟩ := at_T37 (Kd.R_reads' HO_4.out).2.2 x8_2 p197 q197
               obtain rfl : ad188 = ad197 := (by injection e197)
               have hn197_0 : ad188.block ≠ gb189 := Kd.own_blk ((by first | exact Kd.R_ne HO_4.out BK189.out (by decide) | (intro h_; have h2_ := HO_4.out.1 _ h_.symm; simp at h2_)))
               replace hx197_0 := (cell_far (p := ⟨gb189, 1, none⟩) (by first | (rw [add_block]; exact hn197_0) | (show (Addr.add _ _).block ≠ _; rw [add_block]; exact hn197_0) | exact hn197_0) (.int .u8 t195)).trans hx197_0
               replace hx197_1 := (cell_far (p := ⟨gb189, 1, none⟩) (by first | (rw [add_block]; exact hn197_0) | (show (Addr.add _ _).block ≠ _; rw [add_block]; exact hn197_0) | exact hn197_0) (.int .u8 t195)).trans hx197_1
               replace hx197_2 := (cell_far (p := ⟨gb189, 1, none⟩) (by first | (rw [add_block]; exact hn197_0) | (show (Addr.add _ _).block ≠ _; rw [add_block]; exact hn197_0) | exact hn197_0) (.int .u8 t195)).trans hx197_2
               clear hn197_0
               replace p197 := eq_true p197
               replace q197 := eq_true q197
               try go_wp2
               go_roundg k2
               case measure => have := HK1.out; have := HK2.out; omega
               case rel => exact ⟨(wrap64 (x8_2 + 1)), (t196), (t195), ((rd_T37 t185 x8_2).f2), (by first | rfl | (simp; done) | (simp [*]; done)), (by first | rfl | (simp; done) | (simp [*]; done)), H', ⟨by have := HK1.out; have := HK2.out; omega⟩, ⟨by (with_reducible repeat (first | apply Kd.R_alloc | apply Kd.R_drewN | apply Kd.R_drew)); exact Kd.R_mono (Kd.R_far (p := ⟨gb189, 2, none⟩) (Kd.R_far (p := ⟨gb189, 1, none⟩) (Kd.R_mono HO_4.out (fun k_ hk => (⟨hk, hk.2.2⟩ : _ ∧ k_ ≠ gb189))) (fun _ hk => hk.2) (.int .u8 t195)) (fun _ hk => hk.2) (.bool ((rd_T37 t185 x8_2).f2))) (fun _ hk => ⟨hk.1.1, ⟨hk.1.2.1, hk.1.2.2⟩⟩)⟩, ⟨by (with_reducible repeat (first | apply Kd.R_alloc | apply Kd.R_drewN | apply Kd.R_drew)); exact Kd.R_mono (Kd.R_far (p := ⟨gb189, 2, none⟩) (Kd.R_far (p := ⟨gb189, 1, none⟩) (Kd.R_mono HO_5.out (fun k_ hk => (⟨hk, hk.2.2⟩ : _ ∧ k_ ≠ gb189))) (fun _ hk => hk.2) (.int .u8 t195)) (fun _ hk => hk.2) (.bool ((rd_T37 t185 x8_2).f2))) (fun _ hk => ⟨hk.1.1, ⟨hk.1.2.1, hk.1.2.2⟩⟩)⟩, ⟨by (with_reducible repeat (first | apply Kd.R_alloc | apply Kd.R_drewN | apply Kd.R_drew)); exact Kd.R_mono (Kd.R_far (p := ⟨gb189, 2, none⟩) (Kd.R_far (p := ⟨gb189, 1, none⟩) (Kd.R_mono HO_6.out (fun k_ hk => (⟨hk, hk.2.2⟩ : _ ∧ k_ ≠ gb189))) (fun _ hk => hk.2) (.int .u8 t195)) (fun _ hk => hk.2) (.bool ((rd_T37 t185 x8_2).f2))) (fun _ hk => ⟨hk.1.1, ⟨hk.1.2.1, hk.1.2.2⟩⟩)⟩, ⟨by (with_reducible repeat (first | refine blk_drewN ?_ _ | refine blk_drew ?_ | refine blk_alloc ?_ _)); refine blk_put (cs := #[.int .i64 ((rd_T37 t185 x7_1).f0), .int .u8 t195, .bool false]) ?_ 2 _ rfl; (with_reducible repeat (first | refine blk_drewN ?_ _ | refine blk_drew ?_ | refine blk_alloc ?_ _)); refine blk_put (cs := #[.int .i64 ((rd_T37 t185 x7_1).f0), .int .u8 x190001_2, .bool false]) ?_ 1 _ rfl; (with_reducible repeat (first | refine blk_drewN ?_ _ | refine blk_drew ?_ | refine blk_alloc ?_ _)); exact BK189.out⟩, ⟨by repeat (first | (with_reducible first | exact HB.out | apply below_alloc | apply pw_below_drewN | apply below_drew1 | refine below_set ?_ GE189.out) | exact HB.out)⟩⟩
             ·replace c17 := Bool.eq_false_iff.mpr c17
              subst c17
              have H1 : (if x190002_2 = true then (clepsydraref20_Whole.l1 k2 t185 x5_1 x6_1 x7_1 (wrap64 (x8_2 + 1)) false ((rd_T37 t185 x7_1).f0) t195 true) else (clepsydraref20_Whole.l1 k2 t185 x5_1 x6_1 x7_1 (wrap64 (x8_2 + 1)) false ((rd_T37 t185 x7_1).f0) t195 ((rd_T37 t185 x8_2).f2))) = some (r1, r2) := by rw [if_neg (show ¬ (false = true) by decide)] at H; exact H
              clear H
              have H := H1
              clear H1
              by_cases c27 : x190002_2 = true
              ·subst c27
               have H1 : (clepsydraref20_Whole.l1 k2 t185 x5_1 x6_1 x7_1 (wrap64 (x8_2 + 1)) false ((rd_T37 t185 x7_1).f0) t195 true) = some (r1, r2) := by rw [if_pos rfl] at H; exact H
               clear H
               have H := H1
               clear H1
               have H' := Aside0.mk H
               clear H
               try go_wp2
               have n0_ := Aside0.mk (Kd.R_drew HO_4.out)
               have n1_ := Aside0.mk (Kd.R_drew HO_5.out)
               have n2_ := Aside0.mk (Kd.R_drew HO_6.out)
               have n3_ := Aside0.mk (blk_drew BK189.out)
               have n4_ := Aside0.mk (below_drew1 HB.out)
               clear HO_4
               clear HO_5
               clear HO_6
               clear BK189
               clear HB
               have HO_4 := n0_
               have HO_5 := n1_
               have HO_6 := n2_
               have BK189 := n3_
               have HB := n4_
               clear n0_ n1_ n2_ n3_ n4_
               have p192 : 0 ≤ (x8_2 : Int) := of_decide_eq_true (by first | (with_reducible assumption) | assumption)
               have q192 : x8_2 < (t185.length : Int) := of_decide_eq_true (by first | (with_reducible assumption) | assumption)
               obtain ⟨ad192, e192, hx192_0, hx192_1, hx192_2⟩ := at_T37 (Kd.R_reads' HO_4.out).2.2 x8_2 p192 q192
               obtain rfl : ad188 = ad192 := (by injection e192)
               replace p192 := eq_true p192
               replace q192 := eq_true q192
               have p193 : 0 ≤ (x7_1 : Int) := of_decide_eq_true (by first | (with_reducible assumption) | assumption)
               have q193 : x7_1 < (t185.length : Int) := of_decide_eq_true (by first | (with_reducible assumption) | assumption)
               obtain ⟨ad193, e193, hx193_0, hx193_1, hx193_2⟩ := at_T37 (Kd.R_reads' HO_4.out).2.2 x7_1 p193 q193
               obtain rfl : ad188 = ad193 := (by injection e193)
               replace p193 := eq_true p193
               replace q193 := eq_true q193
               refine start_ (n := 17) (S := fun w' => w'.cell? (ad188.add ((x8_2).toNat * 3)) = some (.int .i64 ((rd_T37 t185 x8_2).f0)) ∧ w'.cell? ⟨(ad188.add ((x8_2).toNat * 3)).block, (ad188.add ((x8_2).toNat * 3)).off + 1, none⟩ = some (.int .u8 ((rd_T37 t185 x8_2).f1)) ∧ w'.cell? ⟨(ad188.add ((x8_2).toNat * 3)).block, (ad188.add ((x8_2).toNat * 3)).off + 2, none⟩ = some (.bool ((rd_T37 t185 x8_2).f2)) ∧ w'.cell? (ad188.add ((x7_1).toNat * 3)) = some (.int .i64 ((rd_T37 t185 x7_1).f0)) ∧ w'.cell? ⟨(ad188.add ((x7_1).toNat * 3)).block, (ad188.add ((x7_1).toNat * 3)).off + 1, none⟩ = some (.int .u8 ((rd_T37 t185 x7_1).f1)) ∧ w'.cell? ⟨(ad188.add ((x7_1).toNat * 3)).block, (ad188.add ((x7_1).toNat * 3)).off + 2, none⟩ = some (.bool ((rd_T37 t185 x7_1).f2))) (ds := []) u7_0 (by kernel_rfl) rfl rfl ⟨hx192_0, hx192_1, hx192_2, hx193_0, hx193_1, hx193_2⟩ (fun hHeld => ?_); refine with_tabW clepsydraref20_Whole.tab8 clepsydraref20_Whole.bits8 (fun HT_ HW_ => ?_)
               generalize wr.drew = w28 at HO_4 HO_5 HO_6 BK189 HB hx192_0 hx192_1 hx192_2 hx193_0 hx193_1 hx193_2 hHeld ⊢
               refine pure_ (i := 0) (N := some 30) (v := ?_) (a' := ?_) u7_1 rfl rfl (any_of HT_.out (by kernel_rfl)) (fun _ _ _ h => h) (Or.inl ⟨by rfl, ?_⟩) ?_ ?_
               rotate_left
               ·intro w'
                go_simp
                with_reducible rfl
               rotate_left
               ·simp only [Act.put, s0_, s1_, s2_, i64_w, i32_w]
                rfl
               refine pure_ (i := 1) (N := some 31) (v := ?_) (a' := ?_) u7_2 rfl rfl (any_of HT_.out (by kernel_rfl)) (fun _ _ _ h => h) (Or.inl ⟨by rfl, ?_⟩) ?_ ?_
               rotate_left
               ·intro w'
                go_simp
                with_reducible rfl
               rotate_left
               ·simp only [Act.put, s0_, s1_, s2_, i64_w, i32_w]
                rfl
               refine pure_ (i := 2) (N := some 32) (v := ?_) (a' := ?_) u7_3 rfl rfl (any_of HT_.out (by kernel_rfl)) (fun _ _ _ h => h) (Or.inl ⟨by rfl, ?_⟩) ?_ ?_
               rotate_left
               ·intro w'
                go_simp
                with_reducible rfl
               rotate_left
               ·simp only [Act.put, s0_, s1_, s2_, i64_w, i32_w]
                rfl
               refine pure_ (i := 3) (N := some 33) (v := ?_) (a' := ?_) u7_4 rfl rfl (any_of HT_.out (by kernel_rfl)) (fun _ _ _ h => h) (Or.inl ⟨by rfl, ?_⟩) ?_ ?_
               rotate_left
               ·intro w'
                go_simp
                with_reducible rfl
               rotate_left
               ·simp only [Act.put, s0_, s1_, s2_, i64_w, i32_w]
                rfl
               refine pure_ (i := 4) (N := some 34) (v := ?_) (a' := ?_) u7_5 rfl rfl (any_of HT_.out (by kernel_rfl)) (fun _ _ _ h => h) (Or.inl ⟨by rfl, ?_⟩) ?_ ?_
               rotate_left
               ·intro w'
                go_simp
                with_reducible rfl
               rotate_left
               ·simp only [Act.put, s0_, s1_, s2_, i64_w, i32_w]
                rfl
               refine pure_ (i := 5) (N := some 35) (v := ?_) (a' := ?_) u7_6 rfl rfl (any_of HT_.out (by kernel_rfl)) (fun _ _ _ h => h) (Or.inl ⟨by rfl, ?_⟩) ?_ ?_
               rotate_left
               ·intro w'
                go_simp
                with_reducible rfl
               rotate_left
               ·simp only [Act.put, s0_, s1_, s2_, i64_w, i32_w]
                rfl
               refine pure_ (i := 6) (N := some 36) (v := ?_) (a' := ?_) u7_7 rfl rfl (any_of HT_.out (by kernel_rfl)) (fun _ _ _ h => h) (Or.inl ⟨by rfl, ?_⟩) ?_ ?_
               rotate_left
               ·intro w'
                go_simp
                with_reducible rfl
               rotate_left
               ·simp only [Act.put, s0_, s1_, s2_, i64_w, i32_w]
                rfl
               refine pure_ (i := 7) (N := some 37) (v := ?_) (a' := ?_) u7_8 rfl rfl (any_of HT_.out (by kernel_rfl)) (fun _ _ _ h => h) (Or.inl ⟨by rfl, ?_⟩) ?_ ?_
               rotate_left
               ·intro w'
                go_simp
                with_reducible rfl
               rotate_left
               ·simp only [Act.put, s0_, s1_, s2_, i64_w, i32_w]
                rfl
               refine pure_ (i := 8) (N := some 38) (v := ?_) (a' := ?_) u7_9 rfl rfl (any_of HT_.out (by kernel_rfl)) (fun _ _ _ h => h) (Or.inl ⟨by rfl, ?_⟩) ?_ ?_
               rotate_left
               ·intro w'
                go_simp
                with_reducible rfl
               rotate_left
               ·simp only [Act.put, s0_, s1_, s2_, i64_w, i32_w]
                rfl
               refine pure_ (i := 10) (N := some 40) (v := ?_) (a' := ?_) u7_10 rfl rfl (any_of HT_.out (by kernel_rfl)) (fun _ _ _ h => h) (Or.inl ⟨by rfl, ?_⟩) ?_ ?_
               rotate_left
               ·intro w'
                go_simp
                with_reducible rfl
               rotate_left
               ·simp only [Act.put, s0_, s1_, s2_, i64_w, i32_w]
                rfl
               refine pure_ (i := 11) (N := some 41) (v := ?_) (a' := ?_) u7_11 rfl rfl (any_of HT_.out (by kernel_rfl)) (fun _ _ _ h => h) (Or.inl ⟨by rfl, ?_⟩) ?_ ?_
               rotate_left
               ·intro w'
                go_simp
                with_reducible rfl
               rotate_left
               ·simp only [Act.put, s0_, s1_, s2_, i64_w, i32_w]
                rfl
               refine pure_ (i := 12) (N := some 42) (v := ?_) (a' := ?_) u7_12 rfl rfl (any_of HT_.out (by kernel_rfl)) (fun _ _ _ h => h) (Or.inl ⟨by rfl, ?_⟩) ?_ ?_
               rotate_left
               ·intro w'
                go_simp
                with_reducible rfl
               rotate_left
               ·simp only [Act.put, s0_, s1_, s2_, i64_w, i32_w]
                rfl
               refine pure_ (i := 13) (N := some 43) (v := ?_) (a' := ?_) u7_13 rfl rfl (any_of HT_.out (by kernel_rfl)) (fun _ _ _ h => h) (Or.inl ⟨by rfl, ?_⟩) ?_ ?_
               rotate_left
               ·intro w'
                go_simp
                with_reducible rfl
               rotate_left
               ·simp only [Act.put, s0_, s1_, s2_, i64_w, i32_w]
                rfl
               refine take_ (i := 9) (N := some 39) (v := ?_) (a' := ?_) u7_14 rfl rfl (take_ofW HT_.out HW_.out (by kernel_rfl)) (fun _ _ _ h => h) (Or.inl ⟨by rfl, ?_⟩) hHeld ?_ ?_
               rotate_left
               ·rintro w' ⟨s0, s1, s2, s3, s4, s5⟩
                go_simp
                with_reducible rfl
               rotate_left
               ·simp only [Act.put, s0_, s1_, s2_, i64_w, i32_w]
                rfl
               refine take_ (i := 14) (N := some 44) (v := ?_) (a' := ?_) u7_15 rfl rfl (take_ofW HT_.out HW_.out (by kernel_rfl)) (fun _ _ _ h => h) (Or.inl ⟨by rfl, ?_⟩) hHeld ?_ ?_
               rotate_left
               ·rintro w' ⟨s0, s1, s2, s3, s4, s5⟩
                go_simp
                with_reducible rfl
               rotate_left
               ·simp only [Act.put, s0_, s1_, s2_, i64_w, i32_w]
                rfl
               refine pure_ (i := 15) (N := some 45) (v := ?_) (a' := ?_) u7_16 rfl rfl (any_of HT_.out (by kernel_rfl)) (fun _ _ _ h => h) (Or.inl ⟨by rfl, ?_⟩) ?_ ?_
               rotate_left
               ·intro w'
                go_simp
                with_reducible rfl
               rotate_left
               ·simp only [Act.put, s0_, s1_, s2_, i64_w, i32_w]
                rfl
               refine pure_ (i := 16) (N := some 46) (v := ?_) (a' := ?_) u7_17 rfl rfl (any_of HT_.out (by kernel_rfl)) (fun _ _ _ h => h) (Or.inl ⟨by rfl, ?_⟩) ?_ ?_
               rotate_left
               ·intro w'
                go_simp
                with_reducible rfl
               rotate_left
               ·simp only [Act.put, s0_, s1_, s2_, i64_w, i32_w]
                rfl
               refine done_ (done_of HT_.out (by kernel_rfl)) ?_
               try go_wp2
               have n0_ := Aside0.mk (Kd.R_drew HO_4.out)
               have n1_ := Aside0.mk (Kd.R_drew HO_5.out)
               have n2_ := Aside0.mk (Kd.R_drew HO_6.out)
               have n3_ := Aside0.mk (blk_drew BK189.out)
               have n4_ := Aside0.mk (below_drew1 HB.out)
               clear HO_4
               clear HO_5
               clear HO_6
               clear BK189
               clear HB
               have HO_4 := n0_
               have HO_5 := n1_
               have HO_6 := n2_
               have BK189 := n3_
               have HB := n4_
               clear n0_ n1_ n2_ n3_ n4_
               have p194 : 0 ≤ (x8_2 : Int) := of_decide_eq_true (by first | (with_reducible assumption) | assumption)
               have q194 : x8_2 < (t185.length : Int) := of_decide_eq_true (by first | (with_reducible assumption) | assumption)
               obtain ⟨ad194, e194, hx194_0, hx194_1, hx194_2⟩ := at_T37 (Kd.R_reads' HO_4.out).2.2 x8_2 p194 q194
               obtain rfl : ad188 = ad194 := (by injection e194)
               replace p194 := eq_true p194
               replace q194 := eq_true q194
               refine start_ (n := 13) (S := fun w' => w'.cell? ⟨gb189, 0, none⟩ = some (.int .i64 ((rd_T37 t185 x7_1).f0)) ∧ w'.cell? ⟨gb189, 1, none⟩ = some (.int .u8 x190001_2) ∧ w'.cell? ⟨gb189, 2, none⟩ = some (.bool true) ∧ w'.cell? (ad188.add ((x8_2).toNat * 3)) = some (.int .i64 ((rd_T37 t185 x8_2).f0)) ∧ w'.cell? ⟨(ad188.add ((x8_2).toNat * 3)).block, (ad188.add ((x8_2).toNat * 3)).off + 1, none⟩ = some (.int .u8 ((rd_T37 t185 x8_2).f1)) ∧ w'.cell? ⟨(ad188.add ((x8_2).toNat * 3)).block, (ad188.add ((x8_2).toNat * 3)).off + 2, none⟩ = some (.bool ((rd_T37 t185 x8_2).f2))) (ds := []) u7_18 (by kernel_rfl) rfl rfl ⟨(blk_cell BK189.out 0).trans rfl, (blk_cell BK189.out 1).trans rfl, (blk_cell BK189.out 2).trans rfl, hx194_0, hx194_1, hx194_2⟩ (fun hHeld => ?_); refine with_tabW clepsydraref20_Whole.tab9 clepsydraref20_Whole.bits9 (fun HT_ HW_ => ?_)
               generalize w28.drew = w29 at HO_4 HO_5 HO_6 BK189 HB hx194_0 hx194_1 hx194_2 hHeld ⊢
               refine pure_ (i := 0) (N := some 48) (v := ?_) (a' := ?_) u7_19 rfl rfl (any_of HT_.out (by kernel_rfl)) (fun _ _ _ h => h) (Or.inl ⟨by rfl, ?_⟩) ?_ ?_
               rotate_left
               ·intro w'
                go_simp
                with_reducible rfl
               rotate_left
               ·simp only [Act.put, s0_, s1_, s2_, i64_w, i32_w]
                rfl
               refine pure_ (i := 2) (N := some 50) (v := ?_) (a' := ?_) u7_20 rfl rfl (any_of HT_.out (by kernel_rfl)) (fun _ _ _ h => h) (Or.inl ⟨by rfl, ?_⟩) ?_ ?_
               rotate_left
               ·intro w'
                go_simp
                with_reducible rfl
               rotate_left
               ·simp only [Act.put, s0_, s1_, s2_, i64_w, i32_w]
                rfl
               refine pure_ (i := 3) (N := some 51) (v := ?_) (a' := ?_) u7_21 rfl rfl (any_of HT_.out (by kernel_rfl)) (fun _ _ _ h => h) (Or.inl ⟨by rfl, ?_⟩) ?_ ?_
               rotate_left
               ·intro w'
                go_simp
                with_reducible rfl
               rotate_left
               ·simp only [Act.put, s0_, s1_, s2_, i64_w, i32_w]
                rfl
               refine pure_ (i := 4) (N := some 52) (v := ?_) (a' := ?_) u7_22 rfl rfl (any_of HT_.out (by kernel_rfl)) (fun _ _ _ h => h) (Or.inl ⟨by rfl, ?_⟩) ?_ ?_
               rotate_left
               ·intro w'
                go_simp
                with_reducible rfl
               rotate_left
               ·simp only [Act.put, s0_, s1_, s2_, i64_w, i32_w]
                rfl
               refine pure_ (i := 5) (N := some 53) (v := ?_) (a' := ?_) u7_23 rfl rfl (any_of HT_.out (by kernel_rfl)) (fun _ _ _ h => h) (Or.inl ⟨by rfl, ?_⟩) ?_ ?_
               rotate_left
               ·intro w'
                go_simp
                with_reducible rfl
               rotate_left
               ·simp only [Act.put, s0_, s1_, s2_, i64_w, i32_w]
                rfl
               refine take_ (i := 1) (N := some 49) (v := ?_) (a' := ?_) u7_24 rfl rfl (take_ofW HT_.out HW_.out (by kernel_rfl)) (fun _ _ _ h => h) (Or.inl ⟨by rfl, ?_⟩) hHeld ?_ ?_
               rotate_left
               ·rintro w' ⟨s0, s1, s2, s3, s4, s5⟩
                go_simp
                with_reducible rfl
               rotate_left
               ·simp only [Act.put, s0_, s1_, s2_, i64_w, i32_w]
                rfl
               refine take_ (i := 6) (N := some 54) (v := ?_) (a' := ?_) u7_25 rfl rfl (take_ofW HT_.out HW_.out (by kernel_rfl)) (fun _ _ _ h => h) (Or.inl ⟨by rfl, ?_⟩) hHeld ?_ ?_
               rotate_left
               ·rintro w' ⟨s0, s1, s2, s3, s4, s5⟩
                go_simp
                with_reducible rfl
               rotate_left
               ·simp only [Act.put, s0_, s1_, s2_, i64_w, i32_w]
                rfl
               refine one_ (i := 7) (N := some 55) u7_26 rfl rfl (one_of HT_.out (by kernel_rfl)) (by decide) (fun K hK => ?_)
               refine goes_ Try.func18 (by kernel_rfl) rfl #[.int .u8 x190001_2, .int .u8 ((rd_T37 t185 x8_2).f1)] (by rfl) rfl rfl (by (try simp only [List.map_toArray, List.map_cons, List.map_nil]); first | done | rfl | (simp only [List.length_drop, List.length_take]; rfl)) ?_
               with_reducible refine (clepsydraref20_Merge.calls x190001_2 ((rd_T37 t185 x8_2).f1) t195 t196 _ A16.out).mono ?_
               rintro e w30 ⟨rfl, hb⟩
               have HS3_ := (hb.cell (World.block_lt_of_cell? _ _ (hHeld.2.2.2.1))).trans (hHeld.2.2.2.1)
               have HS4_ := (hb.cell (World.block_lt_of_cell? _ _ (hHeld.2.2.2.2.1))).trans (hHeld.2.2.2.2.1)
               have HS5_ := (hb.cell (World.block_lt_of_cell? _ _ (hHeld.2.2.2.2.2))).trans (hHeld.2.2.2.2.2)
               refine ⟨_, rfl, ?_⟩
               have n0_ := Aside0.mk (Kd.R_below (by (with_reducible repeat (first | apply Kd.R_alloc | apply Kd.R_drewN | apply Kd.R_drew)); exact HO_4.out) hb)
               have n1_ := Aside0.mk (Kd.R_below (by (with_reducible repeat (first | apply Kd.R_alloc | apply Kd.R_drewN | apply Kd.R_drew)); exact HO_5.out) hb)
               have n2_ := Aside0.mk (Kd.R_below (by (with_reducible repeat (first | apply Kd.R_alloc | apply Kd.R_drewN | apply Kd.R_drew)); exact HO_6.out) hb)
               have n3_ := Aside0.mk (blk_below (g := gb189) (o := .cells #[.int .i64 ((rd_T37 t185 x7_1).f0), .int .u8 x190001_2, .bool true] 37 (0, 0)) (by (with_reducible repeat (first | refine blk_drewN ?_ _ | refine blk_drew ?_ | refine blk_alloc ?_ _)); exact BK189.out) hb)
               have n4_ := Aside0.mk (below_step (by repeat (first | (with_reducible first | exact HB.out | apply below_alloc | apply pw_below_drewN | apply below_drew1 | refine below_set ?_ GE189.out) | exact HB.out)) hb)
               clear HO_4
               clear HO_5
               clear HO_6
               clear BK189
               clear HB
               have HO_4 := n0_
               have HO_5 := n1_
               have HO_6 := n2_
               have BK189 := n3_
               have HB := n4_
               clear n0_ n1_ n2_ n3_ n4_
               (try clear hb)
               (try clear hb2)
               (try clear hk)
               (try clear hi)
               refine hK.out _ _ ⟨(blk_cell BK189.out 0).trans rfl, (blk_cell BK189.out 1).trans rfl, (blk_cell BK189.out 2).trans rfl, HS3_, HS4_, HS5_⟩ (fun hHeld => ?_)
               clear hK K
               refine norm_ (a' := ?_) ?_ ?_
               rotate_left
               ·show Act.put _ (some 55) _ = _
                simp only [Act.put, s0_, s1_, s2_, i64_w, i32_w]
                rfl
               refine pure_ (i := 8) (N := some 47) (v := ?_) (a' := ?_) u7_27 rfl rfl (any_of HT_.out (by kernel_rfl)) (fun _ _ _ h => h) (Or.inl ⟨by rfl, ?_⟩) ?_ ?_
               rotate_left
               ·intro w'
                go_simp
                with_reducible rfl
               rotate_left
               ·simp only [Act.put, s0_, s1_, s2_, i64_w, i32_w]
                rfl
               refine pure_ (i := 9) (N := some 56) (v := ?_) (a' := ?_) u7_28 rfl rfl (any_of HT_.out (by kernel_rfl)) (fun _ _ _ h => h) (Or.inl ⟨by rfl, ?_⟩) ?_ ?_
               rotate_left
               ·intro w'
                go_simp
                with_reducible rfl
               rotate_left
               ·simp only [Act.put, s0_, s1_, s2_, i64_w, i32_w]
                rfl
               refine pure_ (i := 10) (N := some 57) (v := ?_) (a' := ?_) u7_29 rfl rfl (any_of HT_.out (by kernel_rfl)) (fun _ _ _ h => h) (Or.inl ⟨by rfl, ?_⟩) ?_ ?_
               rotate_left
               ·intro w'
                go_simp
                with_reducible rfl
               rotate_left
               ·simp only [Act.put, s0_, s1_, s2_, i64_w, i32_w]
                rfl
               refine pure_ (i := 11) (N := some 11) (v := ?_) (a' := ?_) u7_30 rfl rfl (any_of HT_.out (by kernel_rfl)) (fun _ _ _ h => h) (Or.inl ⟨by rfl, ?_⟩) ?_ ?_
               rotate_left
               ·intro w'
                go_simp
                with_reducible rfl
               rotate_left
               ·simp only [Act.put, s0_, s1_, s2_, i64_w, i32_w]
                rfl
               refine pure_ (i := 12) (N := some 12) (v := ?_) (a' := ?_) u7_31 rfl rfl (any_of HT_.out (by kernel_rfl)) (fun _ _ _ h => h) (Or.inl ⟨by rfl, ?_⟩) ?_ ?_
               rotate_left
               ·intro w'
                go_simp
                with_reducible rfl
               rotate_left
               ·simp only [Act.put, s0_, s1_, s2_, i64_w, i32_w]
                rfl
               refine done_ (done_of HT_.out (by kernel_rfl)) ?_
               have hcz31_0 : w30.cell? ⟨gb189, 0, none⟩ = some (.int .i64 ((rd_T37 t185 x7_1).f0)) := (blk_cell BK189.out 0).trans rfl
               have hcz31_1 : w30.cell? ⟨gb189, 1, none⟩ = some (.int .u8 x190001_2) := (blk_cell BK189.out 1).trans rfl
               have hcz31_2 : w30.cell? ⟨gb189, 2, none⟩ = some (.bool true) := (blk_cell BK189.out 2).trans rfl
               have hfz31_0 := blk_frozen BK189.out 0
               have hfz31_1 := blk_frozen BK189.out 1
               have hfz31_2 := blk_frozen BK189.out 2
               try go_wp2
               go_roundg k2
               case measure => have := HK1.out; have := HK2.out; omega
               case rel => exact ⟨(wrap64 (x8_2 + 1)), (false), (t195), (true), (by first | rfl | (simp; done) | (simp [*]; done)), (by first | rfl | (simp; done) | (simp [*]; done)), H', ⟨by have := HK1.out; have := HK2.out; omega⟩, ⟨by (with_reducible repeat (first | apply Kd.R_alloc | apply Kd.R_drewN | apply Kd.R_drew)); exact Kd.R_mono (Kd.R_far (p := ⟨gb189, 2, none⟩) (Kd.R_far (p := ⟨gb189, 1, none⟩) (Kd.R_mono HO_4.out (fun k_ hk => (⟨hk, hk.2.2⟩ : _ ∧ k_ ≠ gb189))) (fun _ hk => hk.2) (.int .u8 t195)) (fun _ hk => hk.2) (.bool true)) (fun _ hk => ⟨hk.1.1, ⟨hk.1.2.1, hk.1.2.2⟩⟩)⟩, ⟨by (with_reducible repeat (first | apply Kd.R_alloc | apply Kd.R_drewN | apply Kd.R_drew)); exact Kd.R_mono (Kd.R_far (p := ⟨gb189, 2, none⟩) (Kd.R_far (p := ⟨gb189, 1, none⟩) (Kd.R_mono HO_5.out (fun k_ hk => (⟨hk, hk.2.2⟩ : _ ∧ k_ ≠ gb189))) (fun _ hk => hk.2) (.int .u8 t195)) (fun _ hk => hk.2) (.bool true)) (fun _ hk => ⟨hk.1.1, ⟨hk.1.2.1, hk.1.2.2⟩⟩)⟩, ⟨by (with_reducible repeat (first | apply Kd.R_alloc | apply Kd.R_drewN | apply Kd.R_drew)); exact Kd.R_mono (Kd.R_far (p := ⟨gb189, 2, none⟩) (Kd.R_far (p := ⟨gb189, 1, none⟩) (Kd.R_mono HO_6.out (fun k_ hk => (⟨hk, hk.2.2⟩ : _ ∧ k_ ≠ gb189))) (fun _ hk => hk.2) (.int .u8 t195)) (fun _ hk => hk.2) (.bool true)) (fun _ hk => ⟨hk.1.1, ⟨hk.1.2.1, hk.1.2.2⟩⟩)⟩, ⟨by (with_reducible repeat (first | refine blk_drewN ?_ _ | refine blk_drew ?_ | refine blk_alloc ?_ _)); refine blk_put (cs := #[.int .i64 ((rd_T37 t185 x7_1).f0), .int .u8 t195, .bool true]) ?_ 2 _ rfl; (with_reducible repeat (first | refine blk_drewN ?_ _ | refine blk_drew ?_ | refine blk_alloc ?_ _)); refine blk_put (cs := #[.int .i64 ((rd_T37 t185 x7_1).f0), .int .u8 x190001_2, .bool true]) ?_ 1 _ rfl; (with_reducible repeat (first | refine blk_drewN ?_ _ | refine blk_drew ?_ | refine blk_alloc ?_ _)); exact BK189.out⟩, ⟨by repeat (first | (with_reducible first | exact HB.out | apply below_alloc | apply pw_below_drewN | apply below_drew1 | refine below_set ?_ GE189.out) | exact HB.out)⟩⟩
              ·replace c27 := Bool.eq_false_iff.mpr c27
               subst c27
               have H1 : (clepsydraref20_Whole.l1 k2 t185 x5_1 x6_1 x7_1 (wrap64 (x8_2 + 1)) false ((rd_T37 t185 x7_1).f0) t195 ((rd_T37 t185 x8_2).f2)) = some (r1, r2) := by rw [if_neg (show ¬ (false = true) by decide)] at H; exact H
               clear H
               have H := H1
               clear H1
               have H' := Aside0.mk H
               clear H
               try go_wp2
               have n0_ := Aside0.mk (Kd.R_drew HO_4.out)
               have n1_ := Aside0.mk (Kd.R_drew HO_5.out)
               have n2_ := Aside0.mk (Kd.R_drew HO_6.out)
               have n3_ := Aside0.mk (blk_drew BK189.out)
               have n4_ := Aside0.mk (below_drew1 HB.out)
               clear HO_4
               clear HO_5
               clear HO_6
               clear BK189
               clear HB
               have HO_4 := n0_
               have HO_5 := n1_
               have HO_6 := n2_
               have BK189 := n3_
               have HB := n4_
               clear n0_ n1_ n2_ n3_ n4_
               have p192 : 0 ≤ (x8_2 : Int) := of_decide_eq_true (by first | (with_reducible assumption) | assumption)
               have q192 : x8_2 < (t185.length : Int) := of_decide_eq_true (by first | (with_reducible assumption) | assumption)
               obtain ⟨ad192, e192, hx192_0, hx192_1, hx192_2⟩ := at_T37 (Kd.R_reads' HO_4.out).2.2 x8_2 p192 q192
               obtain rfl : ad188 = ad192 := (by injection e192)
               replace p192 := eq_true p192
               replace q192 := eq_true q192
               have p193 : 0 ≤ (x7_1 : Int) := of_decide_eq_true (by first | (with_reducible assumption) | assumption)
               have q193 : x7_1 < (t185.length : Int) := of_decide_eq_true (by first | (with_reducible assumption) | assumption)
               obtain ⟨ad193, e193, hx193_0, hx193_1, hx193_2⟩ := at_T37 (Kd.R_reads' HO_4.out).2.2 x7_1 p193 q193
               obtain rfl : ad188 = ad193 := (by injection e193)
               replace p193 := eq_true p193
               replace q193 := eq_true q193
               refine start_ (n := 17) (S := fun w' => w'.cell? (ad188.add ((x8_2).toNat * 3)) = some (.int .i64 ((rd_T37 t185 x8_2).f0)) ∧ w'.cell? ⟨(ad188.add ((x8_2).toNat * 3)).block, (ad188.add ((x8_2).toNat * 3)).off + 1, none⟩ = some (.int .u8 ((rd_T37 t185 x8_2).f1)) ∧ w'.cell? ⟨(ad188.add ((x8_2).toNat * 3)).block, (ad188.add ((x8_2).toNat * 3)).off + 2, none⟩ = some (.bool ((rd_T37 t185 x8_2).f2)) ∧ w'.cell? (ad188.add ((x7_1).toNat * 3)) = some (.int .i64 ((rd_T37 t185 x7_1).f0)) ∧ w'.cell? ⟨(ad188.add ((x7_1).toNat * 3)).block, (ad188.add ((x7_1).toNat * 3)).off + 1, none⟩ = some (.int .u8 ((rd_T37 t185 x7_1).f1)) ∧ w'.cell? ⟨(ad188.add ((x7_1).toNat * 3)).block, (ad188.add ((x7_1).toNat * 3)).off + 2, none⟩ = some (.bool ((rd_T37 t185 x7_1).f2))) (ds := []) u7_0 (by kernel_rfl) rfl rfl ⟨hx192_0, hx192_1, hx192_2, hx193_0, hx193_1, hx193_2⟩ (fun hHeld => ?_); refine with_tabW clepsydraref20_Whole.tab8 clepsydraref20_Whole.bits8 (fun HT_ HW_ => ?_)
               generalize wr.drew = w32 at HO_4 HO_5 HO_6 BK189 HB hx192_0 hx192_1 hx192_2 hx193_0 hx193_1 hx193_2 hHeld ⊢
               refine pure_ (i := 0) (N := some 30) (v := ?_) (a' := ?_) u7_1 rfl rfl (any_of HT_.out (by kernel_rfl)) (fun _ _ _ h => h) (Or.inl ⟨by rfl, ?_⟩) ?_ ?_
               rotate_left
               ·intro w'
                go_simp
                with_reducible rfl
               rotate_left
               ·simp only [Act.put, s0_, s1_, s2_, i64_w, i32_w]
                rfl
               refine pure_ (i := 1) (N := some 31) (v := ?_) (a' := ?_) u7_2 rfl rfl (any_of HT_.out (by kernel_rfl)) (fun _ _ _ h => h) (Or.inl ⟨by rfl, ?_⟩) ?_ ?_
               rotate_left
               ·intro w'
                go_simp
                with_reducible rfl
               rotate_left
               ·simp only [Act.put, s0_, s1_, s2_, i64_w, i32_w]
                rfl
               refine pure_ (i := 2) (N := some 32) (v := ?_) (a' := ?_) u7_3 rfl rfl (any_of HT_.out (by kernel_rfl)) (fun _ _ _ h => h) (Or.inl ⟨by rfl, ?_⟩) ?_ ?_
               rotate_left
               ·intro w'
                go_simp
                with_reducible rfl
               rotate_left
               ·simp only [Act.put, s0_, s1_, s2_, i64_w, i32_w]
                rfl
               refine pure_ (i := 3) (N := some 33) (v := ?_) (a' := ?_) u7_4 rfl rfl (any_of HT_.out (by kernel_rfl)) (fun _ _ _ h => h) (Or.inl ⟨by rfl, ?_⟩) ?_ ?_
               rotate_left
               ·intro w'
                go_simp
                with_reducible rfl
               rotate_left
               ·simp only [Act.put, s0_, s1_, s2_, i64_w, i32_w]
                rfl
               refine pure_ (i := 4) (N := some 34) (v := ?_) (a' := ?_) u7_5 rfl rfl (any_of HT_.out (by kernel_rfl)) (fun _ _ _ h => h) (Or.inl ⟨by rfl, ?_⟩) ?_ ?_
               rotate_left
               ·intro w'
                go_simp
                with_reducible rfl
               rotate_left
               ·simp only [Act.put, s0_, s1_, s2_, i64_w, i32_w]
                rfl
               refine pure_ (i := 5) (N := some 35) (v := ?_) (a' := ?_) u7_6 rfl rfl (any_of HT_.out (by kernel_rfl)) (fun _ _ _ h => h) (Or.inl ⟨by rfl, ?_⟩) ?_ ?_
               rotate_left
               ·intro w'
                go_simp
                with_reducible rfl
               rotate_left
               ·simp only [Act.put, s0_, s1_, s2_, i64_w, i32_w]
                rfl
               refine pure_ (i := 6) (N := some 36) (v := ?_) (a' := ?_) u7_7 rfl rfl (any_of HT_.out (by kernel_rfl)) (fun _ _ _ h => h) (Or.inl ⟨by rfl, ?_⟩) ?_ ?_
               rotate_left
               ·intro w'
                go_simp
                with_reducible rfl
               rotate_left
               ·simp only [Act.put, s0_, s1_, s2_, i64_w, i32_w]
                rfl
               refine pure_ (i := 7) (N := some 37) (v := ?_) (a' := ?_) u7_8 rfl rfl (any_of HT_.out (by kernel_rfl)) (fun _ _ _ h => h) (Or.inl ⟨by rfl, ?_⟩) ?_ ?_
               rotate_left
               ·intro w'
                go_simp
                with_reducible rfl
               rotate_left
               ·simp only [Act.put, s0_, s1_, s2_, i64_w, i32_w]
                rfl
               refine pure_ (i := 8) (N := some 38) (v := ?_) (a' := ?_) u7_9 rfl rfl (any_of HT_.out (by kernel_rfl)) (fun _ _ _ h => h) (Or.inl ⟨by rfl, ?_⟩) ?_ ?_
               rotate_left
               ·intro w'
                go_simp
                with_reducible rfl
               rotate_left
               ·simp only [Act.put, s0_, s1_, s2_, i64_w, i32_w]
                rfl
               refine pure_ (i := 10) (N := some 40) (v := ?_) (a' := ?_) u7_10 rfl rfl (any_of HT_.out (by kernel_rfl)) (fun _ _ _ h => h) (Or.inl ⟨by rfl, ?_⟩) ?_ ?_
               rotate_left
               ·intro w'
                go_simp
                with_reducible rfl
               rotate_left
               ·simp only [Act.put, s0_, s1_, s2_, i64_w, i32_w]
                rfl
               refine pure_ (i := 11) (N := some 41) (v := ?_) (a' := ?_) u7_11 rfl rfl (any_of HT_.out (by kernel_rfl)) (fun _ _ _ h => h) (Or.inl ⟨by rfl, ?_⟩) ?_ ?_
               rotate_left
               ·intro w'
                go_simp
                with_reducible rfl
               rotate_left
               ·simp only [Act.put, s0_, s1_, s2_, i64_w, i32_w]
                rfl
               refine pure_ (i := 12) (N := some 42) (v := ?_) (a' := ?_) u7_12 rfl rfl (any_of HT_.out (by kernel_rfl)) (fun _ _ _ h => h) (Or.inl ⟨by rfl, ?_⟩) ?_ ?_
               rotate_left
               ·intro w'
                go_simp
                with_reducible rfl
               rotate_left
               ·simp only [Act.put, s0_, s1_, s2_, i64_w, i32_w]
                rfl
               refine pure_ (i := 13) (N := some 43) (v := ?_) (a' := ?_) u7_13 rfl rfl (any_of HT_.out (by kernel_rfl)) (fun _ _ _ h => h) (Or.inl ⟨by rfl, ?_⟩) ?_ ?_
               rotate_left
               ·intro w'
                go_simp
                with_reducible rfl
               rotate_left
               ·simp only [Act.put, s0_, s1_, s2_, i64_w, i32_w]
                rfl
               refine take_ (i := 9) (N := some 39) (v := ?_) (a' := ?_) u7_14 rfl rfl (take_ofW HT_.out HW_.out (by kernel_rfl)) (fun _ _ _ h => h) (Or.inl ⟨by rfl, ?_⟩) hHeld ?_ ?_
               rotate_left
               ·rintro w' ⟨s0, s1, s2, s3, s4, s5⟩
                go_simp
                with_reducible rfl
               rotate_left
               ·simp only [Act.put, s0_, s1_, s2_, i64_w, i32_w]
                rfl
               refine take_ (i := 14) (N := some 44) (v := ?_) (a' := ?_) u7_15 rfl rfl (take_ofW HT_.out HW_.out (by kernel_rfl)) (fun _ _ _ h => h) (Or.inl ⟨by rfl, ?_⟩) hHeld ?_ ?_
               rotate_left
               ·rintro w' ⟨s0, s1, s2, s3, s4, s5⟩
                go_simp
                with_reducible rfl
               rotate_left
               ·simp only [Act.put, s0_, s1_, s2_, i64_w, i32_w]
                rfl
               refine pure_ (i := 15) (N := some 45) (v := ?_) (a' := ?_) u7_16 rfl rfl (any_of HT_.out (by kernel_rfl)) (fun _ _ _ h => h) (Or.inl ⟨by rfl, ?_⟩) ?_ ?_
               rotate_left
               ·intro w'
                go_simp
                with_reducible rfl
               rotate_left
               ·simp only [Act.put, s0_, s1_, s2_, i64_w, i32_w]
                rfl
               refine pure_ (i := 16) (N := some 46) (v := ?_) (a' := ?_) u7_17 rfl rfl (any_of HT_.out (by kernel_rfl)) (fun _ _ _ h => h) (Or.inl ⟨by rfl, ?_⟩) ?_ ?_
               rotate_left
               ·intro w'
                go_simp
                with_reducible rfl
               rotate_left
               ·simp only [Act.put, s0_, s1_, s2_, i64_w, i32_w]
                rfl
               refine done_ (done_of HT_.out (by kernel_rfl)) ?_
               try go_wp2
               have n0_ := Aside0.mk (Kd.R_drew HO_4.out)
               have n1_ := Aside0.mk (Kd.R_drew HO_5.out)
               have n2_ := Aside0.mk (Kd.R_drew HO_6.out)
               have n3_ := Aside0.mk (blk_drew BK189.out)
               have n4_ := Aside0.mk (below_drew1 HB.out)
               clear HO_4
               clear HO_5
               clear HO_6
               clear BK189
               clear HB
               have HO_4 := n0_
               have HO_5 := n1_
               have HO_6 := n2_
               have BK189 := n3_
               have HB := n4_
               clear n0_ n1_ n2_ n3_ n4_
               have p194 : 0 ≤ (x8_2 : Int) := of_decide_eq_true (by first | (with_reducible assumption) | assumption)
               have q194 : x8_2 < (t185.length : Int) := of_decide_eq_true (by first | (with_reducible assumption) | assumption)
               obtain ⟨ad194, e194, hx194_0, hx194_1, hx194_2⟩ := at_T37 (Kd.R_reads' HO_4.out).2.2 x8_2 p194 q194
               obtain rfl : ad188 = ad194 := (by injection e194)
               replace p194 := eq_true p194
               replace q194 := eq_true q194
               refine start_ (n := 13) (S := fun w' => w'.cell? ⟨gb189, 0, none⟩ = some (.int .i64 ((rd_T37 t185 x7_1).f0)) ∧ w'.cell? ⟨gb189, 1, none⟩ = some (.int .u8 x190001_2) ∧ w'.cell? ⟨gb189, 2, none⟩ = some (.bool false) ∧ w'.cell? (ad188.add ((x8_2).toNat * 3)) = some (.int .i64 ((rd_T37 t185 x8_2).f0)) ∧ w'.cell? ⟨(ad188.add ((x8_2).toNat * 3)).block, (ad188.add ((x8_2).toNat * 3)).off + 1, none⟩ = some (.int .u8 ((rd_T37 t185 x8_2).f1)) ∧ w'.cell? ⟨(ad188.add ((x8_2).toNat * 3)).block, (ad188.add ((x8_2).toNat * 3)).off + 2, none⟩ = some (.bool ((rd_T37 t185 x8_2).f2))) (ds := []) u7_18 (by kernel_rfl) rfl rfl ⟨(blk_cell BK189.out 0).trans rfl, (blk_cell BK189.out 1).trans rfl, (blk_cell BK189.out 2).trans rfl, hx194_0, hx194_1, hx194_2⟩ (fun hHeld => ?_); refine with_tabW clepsydraref20_Whole.tab9 clepsydraref20_Whole.bits9 (fun HT_ HW_ => ?_)
               generalize w32.drew = w33 at HO_4 HO_5 HO_6 BK189 HB hx194_0 hx194_1 hx194_2 hHeld ⊢
               refine pure_ (i := 0) (N := some 48) (v := ?_) (a' := ?_) u7_19 rfl rfl (any_of HT_.out (by kernel_rfl)) (fun _ _ _ h => h) (Or.inl ⟨by rfl, ?_⟩) ?_ ?_
               rotate_left
               ·intro w'
                go_simp
                with_reducible rfl
               rotate_left
               ·simp only [Act.put, s0_, s1_, s2_, i64_w, i32_w]
                rfl
               refine pure_ (i := 2) (N := some 50) (v := ?_) (a' := ?_) u7_20 rfl rfl (any_of HT_.out (by kernel_rfl)) (fun _ _ _ h => h) (Or.inl ⟨by rfl, ?_⟩) ?_ ?_
               rotate_left
               ·intro w'
                go_simp
                with_reducible rfl
               rotate_left
               ·simp only [Act.put, s0_, s1_, s2_, i64_w, i32_w]
                rfl
               refine pure_ (i := 3) (N := some 51) (v := ?_) (a' := ?_) u7_21 rfl rfl (any_of HT_.out (by kernel_rfl)) (fun _ _ _ h => h) (Or.inl ⟨by rfl, ?_⟩) ?_ ?_
               rotate_left
               ·intro w'
                go_simp
                with_reducible rfl
               rotate_left
               ·simp only [Act.put, s0_, s1_, s2_, i64_w, i32_w]
                rfl
               refine pure_ (i := 4) (N := some 52) (v := ?_) (a' := ?_) u7_22 rfl rfl (any_of HT_.out (by kernel_rfl)) (fun _ _ _ h => h) (Or.inl ⟨by rfl, ?_⟩) ?_ ?_
               rotate_left
               ·intro w'
                go_simp
                with_reducible rfl
               rotate_left
               ·simp only [Act.put, s0_, s1_, s2_, i64_w, i32_w]
                rfl
               refine pure_ (i := 5) (N := some 53) (v := ?_) (a' := ?_) u7_23 rfl rfl (any_of HT_.out (by kernel_rfl)) (fun _ _ _ h => h) (Or.inl ⟨by rfl, ?_⟩) ?_ ?_
               rotate_left
               ·intro w'
                go_simp
                with_reducible rfl
               rotate_left
               ·simp only [Act.put, s0_, s1_, s2_, i64_w, i32_w]
                rfl
               refine take_ (i := 1) (N := some 49) (v := ?_) (a' := ?_) u7_24 rfl rfl (take_ofW HT_.out HW_.out (by kernel_rfl)) (fun _ _ _ h => h) (Or.inl ⟨by rfl, ?_⟩) hHeld ?_ ?_
               rotate_left
               ·rintro w' ⟨s0, s1, s2, s3, s4, s5⟩
                go_simp
                with_reducible rfl
               rotate_left
               ·simp only [Act.put, s0_, s1_, s2_, i64_w, i32_w]
                rfl
               refine take_ (i := 6) (N := some 54) (v := ?_) (a' := ?_) u7_25 rfl rfl (take_ofW HT_.out HW_.out (by kernel_rfl)) (fun _ _ _ h => h) (Or.inl ⟨by rfl, ?_⟩) hHeld ?_ ?_
               rotate_left
               ·rintro w' ⟨s0, s1, s2, s3, s4, s5⟩
                go_simp
                with_reducible rfl
               rotate_left
               ·simp only [Act.put, s0_, s1_, s2_, i64_w, i32_w]
                rfl
               refine one_ (i := 7) (N := some 55) u7_26 rfl rfl (one_of HT_.out (by kernel_rfl)) (by decide) (fun K hK => ?_)
               refine goes_ Try.func18 (by kernel_rfl) rfl #[.int .u8 x190001_2, .int .u8 ((rd_T37 t185 x8_2).f1)] (by rfl) rfl rfl (by (try simp only [List.map_toArray, List.map_cons, List.map_nil]); first | done | rfl | (simp only [List.length_drop, List.length_take]; rfl)) ?_
               with_reducible refine (clepsydraref20_Merge.calls x190001_2 ((rd_T37 t185 x8_2).f1) t195 t196 _ A16.out).mono ?_
               rintro e w34 ⟨rfl, hb⟩
               have HS3_ := (hb.cell (World.block_lt_of_cell? _ _ (hHeld.2.2.2.1))).trans (hHeld.2.2.2.1)
               have HS4_ := (hb.cell (World.block_lt_of_cell? _ _ (hHeld.2.2.2.2.1))).trans (hHeld.2.2.2.2.1)
               have HS5_ := (hb.cell (World.block_lt_of_cell? _ _ (hHeld.2.2.2.2.2))).trans (hHeld.2.2.2.2.2)
               refine ⟨_, rfl, ?_⟩
               have n0_ := Aside0.mk (Kd.R_below (by (with_reducible repeat (first | apply Kd.R_alloc | apply Kd.R_drewN | apply Kd.R_drew)); exact HO_4.out) hb)
               have n1_ := Aside0.mk (Kd.R_below (by (with_reducible repeat (first | apply Kd.R_alloc | apply Kd.R_drewN | apply Kd.R_drew)); exact HO_5.out) hb)
               have n2_ := Aside0.mk (Kd.R_below (by (with_reducible repeat (first | apply Kd.R_alloc | apply Kd.R_drewN | apply Kd.R_drew)); exact HO_6.out) hb)
               have n3_ := Aside0.mk (blk_below (g := gb189) (o := .cells #[.int .i64 ((rd_T37 t185 x7_1).f0), .int .u8 x190001_2, .bool false] 37 (0, 0)) (by (with_reducible repeat (first | refine blk_drewN ?_ _ | refine blk_drew ?_ | refine blk_alloc ?_ _)); exact BK189.out) hb)
               have n4_ := Aside0.mk (below_step (by repeat (first | (with_reducible first | exact HB.out | apply below_alloc | apply pw_below_drewN | apply below_drew1 | refine below_set ?_ GE189.out) | exact HB.out)) hb)
               clear HO_4
               clear HO_5
               clear HO_6
               clear BK189
               clear HB
               have HO_4 := n0_
               have HO_5 := n1_
               have HO_6 := n2_
               have BK189 := n3_
               have HB := n4_
               clear n0_ n1_ n2_ n3_ n4_
               (try clear hb)
               (try clear hb2)
               (try clear hk)
               (try clear hi)
               refine hK.out _ _ ⟨(blk_cell BK189.out 0).trans rfl, (blk_cell BK189.out 1).trans rfl, (blk_cell BK189.out 2).trans rfl, HS3_, HS4_, HS5_⟩ (fun hHeld => ?_)
               clear hK K
               refine norm_ (a' := ?_) ?_ ?_
               rotate_left
               ·show Act.put _ (some 55) _ = _
                simp only [Act.put, s0_, s1_, s2_, i64_w, i32_w]
                rfl
               refine pure_ (i := 8) (N := some 47) (v := ?_) (a' := ?_) u7_27 rfl rfl (any_of HT_.out (by kernel_rfl)) (fun _ _ _ h => h) (Or.inl ⟨by rfl, ?_⟩) ?_ ?_
               rotate_left
               ·intro w'
                go_simp
                with_reducible rfl
               rotate_left
               ·simp only [Act.put, s0_, s1_, s2_, i64_w, i32_w]
                rfl
               refine pure_ (i := 9) (N := some 56) (v := ?_) (a' := ?_) u7_28 rfl rfl (any_of HT_.out (by kernel_rfl)) (fun _ _ _ h => h) (Or.inl ⟨by rfl, ?_⟩) ?_ ?_
               rotate_left
               ·intro w'
                go_simp
                with_reducible rfl
               rotate_left
               ·simp only [Act.put, s0_, s1_, s2_, i64_w, i32_w]
                rfl
               refine pure_ (i := 10) (N := some 57) (v := ?_) (a' := ?_) u7_29 rfl rfl (any_of HT_.out (by kernel_rfl)) (fun _ _ _ h => h) (Or.inl ⟨by rfl, ?_⟩) ?_ ?_
               rotate_left
               ·intro w'
                go_simp
                with_reducible rfl
               rotate_left
               ·simp only [Act.put, s0_, s1_, s2_, i64_w, i32_w]
                rfl
               refine pure_ (i := 11) (N := some 11) (v := ?_) (a' := ?_) u7_30 rfl rfl (any_of HT_.out (by kernel_rfl)) (fun _ _ _ h => h) (Or.inl ⟨by rfl, ?_⟩) ?_ ?_
               rotate_left
               ·intro w'
                go_simp
                with_reducible rfl
               rotate_left
               ·simp only [Act.put, s0_, s1_, s2_, i64_w, i32_w]
                rfl
               refine pure_ (i := 12) (N := some 12) (v := ?_) (a' := ?_) u7_31 rfl rfl (any_of HT_.out (by kernel_rfl)) (fun _ _ _ h => h) (Or.inl ⟨by rfl, ?_⟩) ?_ ?_
               rotate_left
               ·intro w'
                go_simp
                with_reducible rfl
               rotate_left
               ·simp only [Act.put, s0_, s1_, s2_, i64_w, i32_w]
                rfl
               refine done_ (done_of HT_.out (by kernel_rfl)) ?_
               have hcz35_0 : w34.cell? ⟨gb189, 0, none⟩ = some (.int .i64 ((rd_T37 t185 x7_1).f0)) := (blk_cell BK189.out 0).trans rfl
               have hcz35_1 : w34.cell? ⟨gb189, 1, none⟩ = some (.int .u8 x190001_2) := (blk_cell BK189.out 1).trans rfl
               have hcz35_2 : w34.cell? ⟨gb189, 2, none⟩ = some (.bool false) := (blk_cell BK189.out 2).trans rfl
               have hfz35_0 := blk_frozen BK189.out 0
               have hfz35_1 := blk_frozen BK189.out 1
               have hfz35_2 := blk_frozen BK189.out 2
               have p198 : 0 ≤ (x8_2 : Int) := of_decide_eq_true (by first | (with_reducible assumption) | assumption)
               have q198 : x8_2 < (t185.length : Int) := of_decide_eq_true (by first | (with_reducible assumption) | assumption)
               obtain ⟨ad198, e198, hx198_0, hx198_1, hx198_2⟩ := at_T37 (Kd.R_reads' HO_4.out).2.2 x8_2 p198 q198
               obtain rfl : ad188 = ad198 := (by injection e198)
               have hn198_0 : ad188.block ≠ gb189 := Kd.own_blk ((by first | exact Kd.R_ne HO_4.out BK189.out (by decide) | (intro h_; have h2_ := HO_4.out.1 _ h_.symm; simp at h2_)))
               replace hx198_0 := (cell_far (p := ⟨gb189, 1, none⟩) (by first | (rw [add_block]; exact hn198_0) | (show (Addr.add _ _).block ≠ _; rw [add_block]; exact hn198_0) | exact hn198_0) (.int .u8 t195)).trans hx198_0
               replace hx198_1 := (cell_far (p := ⟨gb189, 1, none⟩) (by first | (rw [add_block]; exact hn198_0) | (show (Addr.add _ _).block ≠ _; rw [add_block]; exact hn198_0) | exact hn198_0) (.int .u8 t195)).trans hx198_1
               replace hx198_2 := (cell_far (p := ⟨gb189, 1, none⟩) (by first | (rw [add_block]; exact hn198_0) | (show (Addr.add _ _).block ≠ _; rw [add_block]; exact hn198_0) | exact hn198_0) (.int .u8 t195)).trans hx198_2
               clear hn198_0
               replace p198 := eq_true p198
               replace q198 := eq_true q198
               try go_wp2
               go_roundg k2
               case measure => have := HK1.out; have := HK2.out; omega
               case rel => exact ⟨(wrap64 (x8_2 + 1)), (false), (t195), ((rd_T37 t185 x8_2).f2), (by first | rfl | (simp; done) | (simp [*]; done)), (by first | rfl | (simp; done) | (simp [*]; done)), H', ⟨by have := HK1.out; have := HK2.out; omega⟩, ⟨by (with_reducible repeat (first | apply Kd.R_alloc | apply Kd.R_drewN | apply Kd.R_drew)); exact Kd.R_mono (Kd.R_far (p := ⟨gb189, 2, none⟩) (Kd.R_far (p := ⟨gb189, 1, none⟩) (Kd.R_mono HO_4.out (fun k_ hk => (⟨hk, hk.2.2⟩ : _ ∧ k_ ≠ gb189))) (fun _ hk => hk.2) (.int .u8 t195)) (fun _ hk => hk.2) (.bool ((rd_T37 t185 x8_2).f2))) (fun _ hk => ⟨hk.1.1, ⟨hk.1.2.1, hk.1.2.2⟩⟩)⟩, ⟨by (with_reducible repeat (first | apply Kd.R_alloc | apply Kd.R_drewN | apply Kd.R_drew)); exact Kd.R_mono (Kd.R_far (p := ⟨gb189, 2, none⟩) (Kd.R_far (p := ⟨gb189, 1, none⟩) (Kd.R_mono HO_5.out (fun k_ hk => (⟨hk, hk.2.2⟩ : _ ∧ k_ ≠ gb189))) (fun _ hk => hk.2) (.int .u8 t195)) (fun _ hk => hk.2) (.bool ((rd_T37 t185 x8_2).f2))) (fun _ hk => ⟨hk.1.1, ⟨hk.1.2.1, hk.1.2.2⟩⟩)⟩, ⟨by (with_reducible repeat (first | apply Kd.R_alloc | apply Kd.R_drewN | apply Kd.R_drew)); exact Kd.R_mono (Kd.R_far (p := ⟨gb189, 2, none⟩) (Kd.R_far (p := ⟨gb189, 1, none⟩) (Kd.R_mono HO_6.out (fun k_ hk => (⟨hk, hk.2.2⟩ : _ ∧ k_ ≠ gb189))) (fun _ hk => hk.2) (.int .u8 t195)) (fun _ hk => hk.2) (.bool ((rd_T37 t185 x8_2).f2))) (fun _ hk => ⟨hk.1.1, ⟨hk.1.2.1, hk.1.2.2⟩⟩)⟩, ⟨by (with_reducible repeat (first | refine blk_drewN ?_ _ | refine blk_drew ?_ | refine blk_alloc ?_ _)); refine blk_put (cs := #[.int .i64 ((rd_T37 t185 x7_1).f0), .int .u8 t195, .bool false]) ?_ 2 _ rfl; (with_reducible repeat (first | refine blk_drewN ?_ _ | refine blk_drew ?_ | refine blk_alloc ?_ _)); refine blk_put (cs := #[.int .i64 ((rd_T37 t185 x7_1).f0), .int .u8 x190001_2, .bool false]) ?_ 1 _ rfl; (with_reducible repeat (first | refine blk_drewN ?_ _ | refine blk_drew ?_ | refine blk_alloc ?_ _)); exact BK189.out⟩, ⟨by repeat (first | (with_reducible first | exact HB.out | apply below_alloc | apply pw_below_drewN | apply below_drew1 | refine below_set ?_ GE189.out) | exact HB.out)⟩⟩
            ·rw [if_neg c15] at H
             have c15b0 : (((rd_T37 t185 x8_2).f0) == ((rd_T37 t185 x7_1).f0)) = false := beq_eq_false_iff_ne.mpr c15
             have c15b1 : (((rd_T37 t185 x8_2).f0) != ((rd_T37 t185 x7_1).f0)) = true := bne_iff_ne.mpr c15
             have H' := Aside0.mk H
             clear H
             try go_wp2
             have n0_ := Aside0.mk (Kd.R_drew HO_4.out)
             have n1_ := Aside0.mk (Kd.R_drew HO_5.out)
             have n2_ := Aside0.mk (Kd.R_drew HO_6.out)
             have n3_ := Aside0.mk (blk_drew BK189.out)
             have n4_ := Aside0.mk (below_drew1 HB.out)
             clear HO_4
             clear HO_5
             clear HO_6
             clear BK189
             clear HB
             have HO_4 := n0_
             have HO_5 := n1_
             have HO_6 := n2_
             have BK189 := n3_
             have HB := n4_
             clear n0_ n1_ n2_ n3_ n4_
             have p192 : 0 ≤ (x8_2 : Int) := of_decide_eq_true (by first | (with_reducible assumption) | assumption)
             have q192 : x8_2 < (t185.length : Int) := of_decide_eq_true (by first | (with_reducible assumption) | assumption)
             obtain ⟨ad192, e192, hx192_0, hx192_1, hx192_2⟩ := at_T37 (Kd.R_reads' HO_4.out).2.2 x8_2 p192 q192
             obtain rfl : ad188 = ad192 := (by injection e192)
             replace p192 := eq_true p192
             replace q192 := eq_true q192
             have p193 : 0 ≤ (x7_1 : Int) := of_decide_eq_true (by first | (with_reducible assumption) | assumption)
             have q193 : x7_1 < (t185.length : Int) := of_decide_eq_true (by first | (with_reducible assumption) | assumption)
             obtain ⟨ad193, e193, hx193_0, hx193_1, hx193_2⟩ := at_T37 (Kd.R_reads' HO_4.out).2.2 x7_1 p193 q193
             obtain rfl : ad188 = ad193 := (by injection e193)
             replace p193 := eq_true p193
             replace q193 := eq_true q193
             refine start_ (n := 17) (S := fun w' => w'.cell? (ad188.add ((x8_2).toNat * 3)) = some (.int .i64 ((rd_T37 t185 x8_2).f0)) ∧ w'.cell? ⟨(ad188.add ((x8_2).toNat * 3)).block, (ad188.add ((x8_2).toNat * 3)).off + 1, none⟩ = some (.int .u8 ((rd_T37 t185 x8_2).f1)) ∧ w'.cell? ⟨(ad188.add ((x8_2).toNat * 3)).block, (ad188.add ((x8_2).toNat * 3)).off + 2, none⟩ = some (.bool ((rd_T37 t185 x8_2).f2)) ∧ w'.cell? (ad188.add ((x7_1).toNat * 3)) = some (.int .i64 ((rd_T37 t185 x7_1).f0)) ∧ w'.cell? ⟨(ad188.add ((x7_1).toNat * 3)).block, (ad188.add ((x7_1).toNat * 3)).off + 1, none⟩ = some (.int .u8 ((rd_T37 t185 x7_1).f1)) ∧ w'.cell? ⟨(ad188.add ((x7_1).toNat * 3)).block, (ad188.add ((x7_1).toNat * 3)).off + 2, none⟩ = some (.bool ((rd_T37 t185 x7_1).f2))) (ds := []) u7_0 (by kernel_rfl) rfl rfl ⟨hx192_0, hx192_1, hx192_2, hx193_0, hx193_1, hx193_2⟩ (fun hHeld => ?_); refine with_tabW clepsydraref20_Whole.tab8 clepsydraref20_Whole.bits8 (fun HT_ HW_ => ?_)
             generalize wr.drew = w36 at HO_4 HO_5 HO_6 BK189 HB hx192_0 hx192_1 hx192_2 hx193_0 hx193_1 hx193_2 hHeld ⊢
             refine pure_ (i := 0) (N := some 30) (v := ?_) (a' := ?_) u7_1 rfl rfl (any_of HT_.out (by kernel_rfl)) (fun _ _ _ h => h) (Or.inl ⟨by rfl, ?_⟩) ?_ ?_
             rotate_left
             ·intro w'
              go_simp
              with_reducible rfl
             rotate_left
             ·simp only [Act.put, s0_, s1_, s2_, i64_w, i32_w]
              rfl
             refine pure_ (i := 1) (N := some 31) (v := ?_) (a' := ?_) u7_2 rfl rfl (any_of HT_.out (by kernel_rfl)) (fun _ _ _ h => h) (Or.inl ⟨by rfl, ?_⟩) ?_ ?_
             rotate_left
             ·intro w'
              go_simp
              with_reducible rfl
             rotate_left
             ·simp only [Act.put, s0_, s1_, s2_, i64_w, i32_w]
              rfl
             refine pure_ (i := 2) (N := some 32) (v := ?_) (a' := ?_) u7_3 rfl rfl (any_of HT_.out (by kernel_rfl)) (fun _ _ _ h => h) (Or.inl ⟨by rfl, ?_⟩) ?_ ?_
             rotate_left
             ·intro w'
              go_simp
              with_reducible rfl
             rotate_left
             ·simp only [Act.put, s0_, s1_, s2_, i64_w, i32_w]
              rfl
             refine pure_ (i := 3) (N := some 33) (v := ?_) (a' := ?_) u7_4 rfl rfl (any_of HT_.out (by kernel_rfl)) (fun _ _ _ h => h) (Or.inl ⟨by rfl, ?_⟩) ?_ ?_
             rotate_left
             ·intro w'
              go_simp
              with_reducible rfl
             rotate_left
             ·simp only [Act.put, s0_, s1_, s2_, i64_w, i32_w]
              rfl
             refine pure_ (i := 4) (N := some 34) (v := ?_) (a' := ?_) u7_5 rfl rfl (any_of HT_.out (by kernel_rfl)) (fun _ _ _ h => h) (Or.inl ⟨by rfl, ?_⟩) ?_ ?_
             rotate_left
             ·intro w'
              go_simp
              with_reducible rfl
             rotate_left
             ·simp only [Act.put, s0_, s1_, s2_, i64_w, i32_w]
              rfl
             refine pure_ (i := 5) (N := some 35) (v := ?_) (a' := ?_) u7_6 rfl rfl (any_of HT_.out (by kernel_rfl)) (fun _ _ _ h => h) (Or.inl ⟨by rfl, ?_⟩) ?_ ?_
             rotate_left
             ·intro w'
              go_simp
              with_reducible rfl
             rotate_left
             ·simp only [Act.put, s0_, s1_, s2_, i64_w, i32_w]
              rfl
             refine pure_ (i := 6) (N := some 36) (v := ?_) (a' := ?_) u7_7 rfl rfl (any_of HT_.out (by kernel_rfl)) (fun _ _ _ h => h) (Or.inl ⟨by rfl, ?_⟩) ?_ ?_
             rotate_left
             ·intro w'
              go_simp
              with_reducible rfl
             rotate_left
             ·simp only [Act.put, s0_, s1_, s2_, i64_w, i32_w]
              rfl
             refine pure_ (i := 7) (N := some 37) (v := ?_) (a' := ?_) u7_8 rfl rfl (any_of HT_.out (by kernel_rfl)) (fun _ _ _ h => h) (Or.inl ⟨by rfl, ?_⟩) ?_ ?_
             rotate_left
             ·intro w'
              go_simp
              with_reducible rfl
             rotate_left
             ·simp only [Act.put, s0_, s1_, s2_, i64_w, i32_w]
              rfl
             refine pure_ (i := 8) (N := some 38) (v := ?_) (a' := ?_) u7_9 rfl rfl (any_of HT_.out (by kernel_rfl)) (fun _ _ _ h => h) (Or.inl ⟨by rfl, ?_⟩) ?_ ?_
             rotate_left
             ·intro w'
              go_simp
              with_reducible rfl
             rotate_left
             ·simp only [Act.put, s0_, s1_, s2_, i64_w, i32_w]
              rfl
             refine pure_ (i := 10) (N := some 40) (v := ?_) (a' := ?_) u7_10 rfl rfl (any_of HT_.out (by kernel_rfl)) (fun _ _ _ h => h) (Or.inl ⟨by rfl, ?_⟩) ?_ ?_
             rotate_left
             ·intro w'
              go_simp
              with_reducible rfl
             rotate_left
             ·simp only [Act.put, s0_, s1_, s2_, i64_w, i32_w]
              rfl
             refine pure_ (i := 11) (N := some 41) (v := ?_) (a' := ?_) u7_11 rfl rfl (any_of HT_.out (by kernel_rfl)) (fun _ _ _ h => h) (Or.inl ⟨by rfl, ?_⟩) ?_ ?_
             rotate_left
             ·intro w'
              go_simp
              with_reducible rfl
             rotate_left
             ·simp only [Act.put, s0_, s1_, s2_, i64_w, i32_w]
              rfl
             refine pure_ (i := 12) (N := some 42) (v := ?_) (a' := ?_) u7_12 rfl rfl (any_of HT_.out (by kernel_rfl)) (fun _ _ _ h => h) (Or.inl ⟨by rfl, ?_⟩) ?_ ?_
             rotate_left
             ·intro w'
              go_simp
              with_reducible rfl
             rotate_left
             ·simp only [Act.put, s0_, s1_, s2_, i64_w, i32_w]
              rfl
             refine pure_ (i := 13) (N := some 43) (v := ?_) (a' := ?_) u7_13 rfl rfl (any_of HT_.out (by kernel_rfl)) (fun _ _ _ h => h) (Or.inl ⟨by rfl, ?_⟩) ?_ ?_
             rotate_left
             ·intro w'
              go_simp
              with_reducible rfl
             rotate_left
             ·simp only [Act.put, s0_, s1_, s2_, i64_w, i32_w]
              rfl
             refine take_ (i := 9) (N := some 39) (v := ?_) (a' := ?_) u7_14 rfl rfl (take_ofW HT_.out HW_.out (by kernel_rfl)) (fun _ _ _ h => h) (Or.inl ⟨by rfl, ?_⟩) hHeld ?_ ?_
             rotate_left
             ·rintro w' ⟨s0, s1, s2, s3, s4, s5⟩
              go_simp
              with_reducible rfl
             rotate_left
             ·simp only [Act.put, s0_, s1_, s2_, i64_w, i32_w]
              rfl
             refine take_ (i := 14) (N := some 44) (v := ?_) (a' := ?_) u7_15 rfl rfl (take_ofW HT_.out HW_.out (by kernel_rfl)) (fun _ _ _ h => h) (Or.inl ⟨by rfl, ?_⟩) hHeld ?_ ?_
             rotate_left
             ·rintro w' ⟨s0, s1, s2, s3, s4, s5⟩
              go_simp
              with_reducible rfl
             rotate_left
             ·simp only [Act.put, s0_, s1_, s2_, i64_w, i32_w]
              rfl
             refine pure_ (i := 15) (N := some 45) (v := ?_) (a' := ?_) u7_16 rfl rfl (any_of HT_.out (by kernel_rfl)) (fun _ _ _ h => h) (Or.inl ⟨by rfl, ?_⟩) ?_ ?_
             rotate_left
             ·intro w'
              go_simp
              with_reducible rfl
             rotate_left
             ·simp only [Act.put, s0_, s1_, s2_, i64_w, i32_w]
              rfl
             refine pure_ (i := 16) (N := some 46) (v := ?_) (a' := ?_) u7_17 rfl rfl (any_of HT_.out (by kernel_rfl)) (fun _ _ _ h => h) (Or.inl ⟨by rfl, ?_⟩) ?_ ?_
             rotate_left
             ·intro w'
              go_simp
              with_reducible rfl
             rotate_left
             ·simp only [Act.put, s0_, s1_, s2_, i64_w, i32_w]
              rfl
             refine done_ (done_of HT_.out (by kernel_rfl)) ?_
             try go_wp2
             go_meet
             case rel => exact ⟨_, (x8_2), (x10_2), (x190001_2), (x190002_2), (by first | rfl | (simp; done) | (simp [*]; done)), (by first | rfl | (simp; done) | (simp [*]; done)), H', ⟨by have := HK1.out; have := HK2.out; first | omega | exact Nat.le_refl _⟩, ⟨by (with_reducible repeat (first | apply Kd.R_alloc | apply Kd.R_drewN | apply Kd.R_drew)); exact HO_4.out⟩, ⟨by (with_reducible repeat (first | apply Kd.R_alloc | apply Kd.R_drewN | apply Kd.R_drew)); exact HO_5.out⟩, ⟨by (with_reducible repeat (first | apply Kd.R_alloc | apply Kd.R_drewN | apply Kd.R_drew)); exact HO_6.out⟩, ⟨by (with_reducible repeat (first | refine blk_drewN ?_ _ | refine blk_drew ?_ | refine blk_alloc ?_ _)); exact BK189.out⟩, ⟨by repeat (first | (with_reducible first | exact HB.out | apply below_alloc | apply pw_below_drewN | apply below_drew1 | refine below_set ?_ GE189.out) | exact HB.out)⟩⟩
           ·rw [if_neg c14] at H
            exact absurd H (by simp)
          ·rw [if_neg c13] at H
           exact absurd H (by simp)
         ·rw [if_neg c12] at H
          exact absurd H (by simp)
        ·rw [if_neg c11] at H
         have c11b0 : decide (x8_2 < (t185.length : Int)) = false := decide_eq_false c11
         clear c11
         (first | rw [c11b0] | (simp only [i64_w, i32_w]; rw [c11b0]) | skip)
         have H' := Aside0.mk H
         clear H
         try go_wp2
         have n0_ := Aside0.mk (Kd.R_drew HO_4.out)
         have n1_ := Aside0.mk (Kd.R_drew HO_5.out)
         have n2_ := Aside0.mk (Kd.R_drew HO_6.out)
         have n3_ := Aside0.mk (blk_drew BK189.out)
         have n4_ := Aside0.mk (below_drew1 HB.out)
         clear HO_4
         clear HO_5
         clear HO_6
         clear BK189
         clear HB
         have HO_4 := n0_
         have HO_5 := n1_
         have HO_6 := n2_
         have BK189 := n3_
         have HB := n4_
         clear n0_ n1_ n2_ n3_ n4_
         refine start_ (n := 17) (S := fun w' => True) (ds := []) u7_0 (by kernel_rfl) rfl rfl trivial (fun hHeld => ?_); refine with_tabW clepsydraref20_Whole.tab8 clepsydraref20_Whole.bits8 (fun HT_ HW_ => ?_)
         generalize wr.drew = w37 at HO_4 HO_5 HO_6 BK189 HB hHeld ⊢
         refine pure_ (i := 0) (N := some 30) (v := ?_) (a' := ?_) u7_1 rfl rfl (any_of HT_.out (by kernel_rfl)) (fun _ _ _ h => h) (Or.inl ⟨by rfl, ?_⟩) ?_ ?_
         rotate_left
         ·intro w'
          go_simp
          with_reducible rfl
         rotate_left
         ·simp only [Act.put, s0_, s1_, s2_, i64_w, i32_w]
          rfl
         refine pure_ (i := 1) (N := some 31) (v := ?_) (a' := ?_) u7_2 rfl rfl (any_of HT_.out (by kernel_rfl)) (fun _ _ _ h => h) (Or.inl ⟨by rfl, ?_⟩) ?_ ?_
         rotate_left
         ·intro w'
          go_simp
          with_reducible rfl
         rotate_left
         ·simp only [Act.put, s0_, s1_, s2_, i64_w, i32_w]
          rfl
         refine pure_ (i := 2) (N := some 32) (v := ?_) (a' := ?_) u7_3 rfl rfl (any_of HT_.out (by kernel_rfl)) (fun _ _ _ h => h) (Or.inl ⟨by rfl, ?_⟩) ?_ ?_
         rotate_left
         ·intro w'
          go_simp
          with_reducible rfl
         rotate_left
         ·simp only [Act.put, s0_, s1_, s2_, i64_w, i32_w]
          rfl
         refine pure_ (i := 3) (N := some 33) (v := ?_) (a' := ?_) u7_4 rfl rfl (any_of HT_.out (by kernel_rfl)) (fun _ _ _ h => h) (Or.inl ⟨by rfl, ?_⟩) ?_ ?_
         rotate_left
         ·intro w'
          go_simp
          with_reducible rfl
         rotate_left
         ·simp only [Act.put, s0_, s1_, s2_, i64_w, i32_w]
          rfl
         refine pure_ (i := 4) (N := some 34) (v := ?_) (a' := ?_) u7_5 rfl rfl (any_of HT_.out (by kernel_rfl)) (fun _ _ _ h => h) (Or.inl ⟨by rfl, ?_⟩) ?_ ?_
         rotate_left
         ·intro w'
          go_simp
          with_reducible rfl
         rotate_left
         ·simp only [Act.put, s0_, s1_, s2_, i64_w, i32_w]
          rfl
         refine pure_ (i := 5) (N := some 35) (v := undef) (a' := ?_) u7_6 rfl rfl (any_of HT_.out (by kernel_rfl)) (fun _ _ _ h => h) (Or.inr ⟨by rfl, rfl⟩) ?_ ?_
         rotate_left
         ·simp only [Act.put, s0_, s1_, s2_, i64_w, i32_w]
          rfl
         refine pure_ (i := 6) (N := some 36) (v := undef) (a' := ?_) u7_7 rfl rfl (any_of HT_.out (by kernel_rfl)) (fun _ _ _ h => h) (Or.inr ⟨by rfl, rfl⟩) ?_ ?_
         rotate_left
         ·simp only [Act.put, s0_, s1_, s2_, i64_w, i32_w]
          rfl
         refine pure_ (i := 7) (N := some 37) (v := undef) (a' := ?_) u7_8 rfl rfl (any_of HT_.out (by kernel_rfl)) (fun _ _ _ h => h) (Or.inr ⟨by rfl, rfl⟩) ?_ ?_
         rotate_left
         ·simp only [Act.put, s0_, s1_, s2_, i64_w, i32_w]
          rfl
         refine pure_ (i := 8) (N := some 38) (v := undef) (a' := ?_) u7_9 rfl rfl (any_of HT_.out (by kernel_rfl)) (fun _ _ _ h => h) (Or.inr ⟨by rfl, rfl⟩) ?_ ?_
         rotate_left
         ·simp only [Act.put, s0_, s1_, s2_, i64_w, i32_w]
          rfl
         refine pure_ (i := 9) (N := some 39) (v := undef) (a' := ?_) u7_32 rfl rfl (any_of HT_.out (by kernel_rfl)) (fun _ _ _ h => h) (Or.inr ⟨by rfl, rfl⟩) ?_ ?_
         rotate_left
         ·simp only [Act.put, s0_, s1_, s2_, i64_w, i32_w]
          rfl
         refine pure_ (i := 10) (N := some 40) (v := undef) (a' := ?_) u7_33 rfl rfl (any_of HT_.out (by kernel_rfl)) (fun _ _ _ h => h) (Or.inr ⟨by rfl, rfl⟩) ?_ ?_
         rotate_left
         ·simp only [Act.put, s0_, s1_, s2_, i64_w, i32_w]
          rfl
         refine pure_ (i := 11) (N := some 41) (v := undef) (a' := ?_) u7_34 rfl rfl (any_of HT_.out (by kernel_rfl)) (fun _ _ _ h => h) (Or.inr ⟨by rfl, rfl⟩) ?_ ?_
         rotate_left
         ·simp only [Act.put, s0_, s1_, s2_, i64_w, i32_w]
          rfl
         refine pure_ (i := 12) (N := some 42) (v := undef) (a' := ?_) u7_35 rfl rfl (any_of HT_.out (by kernel_rfl)) (fun _ _ _ h => h) (Or.inr ⟨by rfl, rfl⟩) ?_ ?_
         rotate_left
         ·simp only [Act.put, s0_, s1_, s2_, i64_w, i32_w]
          rfl
         refine pure_ (i := 13) (N := some 43) (v := undef) (a' := ?_) u7_14 rfl rfl (any_of HT_.out (by kernel_rfl)) (fun _ _ _ h => h) (Or.inr ⟨by rfl, rfl⟩) ?_ ?_
         rotate_left
         ·simp only [Act.put, s0_, s1_, s2_, i64_w, i32_w]
          rfl
         refine pure_ (i := 14) (N := some 44) (v := undef) (a' := ?_) u7_15 rfl rfl (any_of HT_.out (by kernel_rfl)) (fun _ _ _ h => h) (Or.inr ⟨by rfl, rfl⟩) ?_ ?_
         rotate_left
         ·simp only [Act.put, s0_, s1_, s2_, i64_w, i32_w]
          rfl
         refine pure_ (i := 15) (N := some 45) (v := undef) (a' := ?_) u7_16 rfl rfl (any_of HT_.out (by kernel_rfl)) (fun _ _ _ h => h) (Or.inr ⟨by rfl, rfl⟩) ?_ ?_
         rotate_left
         ·simp only [Act.put, s0_, s1_, s2_, i64_w, i32_w]
          rfl
         refine pure_ (i := 16) (N := some 46) (v := ?_) (a' := ?_) u7_17 rfl rfl (any_of HT_.out (by kernel_rfl)) (fun _ _ _ h => h) (Or.inl ⟨by rfl, ?_⟩) ?_ ?_
         rotate_left
         ·intro w'
          go_simp
          with_reducible rfl
         rotate_left
         ·simp only [Act.put, s0_, s1_, s2_, i64_w, i32_w]
          rfl
         refine done_ (done_of HT_.out (by kernel_rfl)) ?_
         try go_wp2
         go_meet
         case rel => exact ⟨_, (x8_2), (x10_2), (x190001_2), (x190002_2), (by first | rfl | (simp; done) | (simp [*]; done)), (by first | rfl | (simp; done) | (simp [*]; done)), H', ⟨by have := HK1.out; have := HK2.out; first | omega | exact Nat.le_refl _⟩, ⟨by (with_reducible repeat (first | apply Kd.R_alloc | apply Kd.R_drewN | apply Kd.R_drew)); exact HO_4.out⟩, ⟨by (with_reducible repeat (first | apply Kd.R_alloc | apply Kd.R_drewN | apply Kd.R_drew)); exact HO_5.out⟩, ⟨by (with_reducible repeat (first | apply Kd.R_alloc | apply Kd.R_drewN | apply Kd.R_drew)); exact HO_6.out⟩, ⟨by (with_reducible repeat (first | refine blk_drewN ?_ _ | refine blk_drew ?_ | refine blk_alloc ?_ _)); exact BK189.out⟩, ⟨by repeat (first | (with_reducible first | exact HB.out | apply below_alloc | apply pw_below_drewN | apply below_drew1 | refine below_set ?_ GE189.out) | exact HB.out)⟩⟩
     case rest =>
      clear HC7
      try clear c1
      try clear p1
      try clear q1
      try clear hx1
      try clear p2
      try clear p6
      try clear c11
      try clear c11b0
      try clear c12
      try clear c13
      try clear c14
      try clear c15
      try clear c15b0
      try clear c15b1
      try clear c18
      try clear p19
      try clear q19
      try clear hx19
      try clear hcz35_0
      try clear hcz35_1
      try clear hcz35_2
      try clear hfz35_0
      try clear hfz35_1
      try clear hfz35_2
      try clear hx192_0
      try clear hx192_1
      try clear hx192_2
      try clear hx193_0
      try clear hx193_1
      try clear hx193_2
      try clear hx194_0
      try clear hx194_1
      try clear hx194_2
      try clear hx198_0
      try clear hx198_1
      try clear hx198_2
      try clear p192
      try clear p193
      try clear p194
      try clear p198
      try clear q192
      try clear q193
      try clear q194
      try clear q198
      obtain ⟨kq, x8_6, x10_6, x190001_6, x190002_6, rfl, rfl, HA, HJ6, HO_4, HO_5, HO_6, BK189, HB⟩ := hcut
      cases kq with
      | zero => exact absurd HA.out (by simp [clepsydraref20_Whole.j2])
      | succ kj6 =>
       have H := HA.out
       clear HA
       simp only [clepsydraref20_Whole.j2] at H
       have HC38 := Aside0.mk H
       clear H
       go_upto_if 76 with (fail)
       go_cut [5] (fun v5 wc => ∃ (kq : Nat) (x5_37 : List (S37)), Aside0 (clepsydraref20_Whole.j3 kq t185 x5_37 x6_1 x7_1 x8_6 x10_6 = some (r1, r2)) ∧ Aside0 (kq ≤ kj6) ∧ Aside0 (Kd.R k37 37 wc w.heap.size (fun k_ => some k_ ≠ (v5 : Value).ownBlock ∧ some k_ ≠ (u6 : Value).ownBlock ∧ k_ ≠ gb189) (.slice (some ad188) t185.length co8) t185) ∧ Aside0 (Kd.R k37 37 wc w.heap.size (fun k_ => some k_ ≠ ((.slice (some ad188) t185.length co8) : Value).ownBlock ∧ some k_ ≠ (u6 : Value).ownBlock ∧ k_ ≠ gb189) v5 x5_37) ∧ Aside0 (Kd.R k37 37 wc w.heap.size (fun k_ => some k_ ≠ ((.slice (some ad188) t185.length co8) : Value).ownBlock ∧ some k_ ≠ (v5 : Value).ownBlock ∧ k_ ≠ gb189) u6 x6_1) ∧ Aside0 (wc.heap[gb189]? = some (.cells #[.int .i64 ((rd_T37 t185 x7_1).f0), .int .u8 x190001_6, .bool x190002_6] 37 (0, 0))) ∧ Aside0 (Below w.heap.size w wc))
       case first =>
        have H := HC38.out
        clear HC38
        by_cases c39 : x10_6 = true
        ·subst c39
         have H1 : (if x5_1.length < 8796093022208 then (clepsydraref20_Whole.j3 kj6 t185 (x5_1 ++ [(⟨((rd_T37 t185 x7_1).f0), x190001_6, x190002_6⟩ : S37)]) x6_1 x7_1 x8_6 true) else (none)) = some (r1, r2) := by rw [if_pos rfl] at H; exact H
         clear H
         have H := H1
         clear H1
         by_cases c40 : x5_1.length < 8796093022208
         ·rw [if_pos c40] at H
          have LMc40 := Aside0.mk c40
          clear c40
          obtain ⟨y199, hy199⟩ : ∃ y_ : List (S37), y_ = (x5_1 ++ [(⟨((rd_T37 t185 x7_1).f0), x190001_6, x190002_6⟩ : S37)]) := ⟨_, rfl⟩
          replace H : (clepsydraref20_Whole.j3 kj6 t185 y199 x6_1 x7_1 x8_6 true) = some (r1, r2) := by first | (rw [hy199]; with_reducible exact H) | (have H2_ := (Option.bind_some _ _).symm.trans H; rw [hy199]; with_reducible exact H2_) | (have H2_ := (Option.bind_some _ _).symm.trans H; with_reducible exact H2_) | with_reducible exact H | (rw [hy199]; exact H) | exact H
          have Ny199 := Aside0.mk hy199
          clear hy199
          have H' := Aside0.mk H
          clear H
          have hcz41_0 : wc.cell? ⟨gb189, 0, none⟩ = some (.int .i64 ((rd_T37 t185 x7_1).f0)) := (blk_cell BK189.out 0).trans rfl
          have hcz41_1 : wc.cell? ⟨gb189, 1, none⟩ = some (.int .u8 x190001_6) := (blk_cell BK189.out 1).trans rfl
          have hcz41_2 : wc.cell? ⟨gb189, 2, none⟩ = some (.bool x190002_6) := (blk_cell BK189.out 2).trans rfl
          have hfz41_0 := blk_frozen BK189.out 0
          have hfz41_1 := blk_frozen BK189.out 1
          have hfz41_2 := blk_frozen BK189.out 2
          go_wp2_with (first | ((with_reducible refine gate_builtin (b := .append) (xs := #[.tmp 77, .tmp 79]) rfl ?_); at_builtin; refine Kd.R_append k37 (w0 := w) w.heap.size rfl (.tmp 77) (.tmp 79) 24 37 (.agg #[(.int .i64 0), (.int .u8 0), (.bool false)]) 16 rfl Try.underlying24 info37 rfl (by decide) (by omega) u5 x5_1 (⟨((rd_T37 t185 x7_1).f0), x190001_6, x190002_6⟩ : S37) [.int .i64 ((rd_T37 t185 x7_1).f0), .int .u8 x190001_6, .bool x190002_6] (fun k_ => some k_ ≠ (.slice (some ad188) t185.length co8 : Value).ownBlock ∧ some k_ ≠ (u6 : Value).ownBlock ∧ k_ ≠ gb189) (fun _ => False) rfl rfl ?aP (fun _ hk => hk.elim) ?aF ?aO ?aB ?aS ?aL ?_; (case aP => exact k37_mkM _ _ _ (⟨((rd_T37 t185 x7_1).f0), x190001_6, x190002_6⟩ : S37)); (case aB => exact (by repeat (first | (with_reducible first | exact HB.out | apply below_alloc | apply pw_below_drewN | apply below_drew1 | refine below_set ?_ GE189.out) | exact HB.out))); (case aF => exact (fun k_ hk => ⟨Kd.fresh' (Kd.R_lt (by (with_reducible repeat (first | apply Kd.R_alloc | apply Kd.R_drewN | apply Kd.R_drew)); exact HO_4.out)) k_ hk, Kd.fresh' (Kd.R_lt (by (with_reducible repeat (first | apply Kd.R_alloc | apply Kd.R_drewN | apply Kd.R_drew)); exact HO_6.out)) k_ hk, Kd.freshB (g := gb189) (o := .cells #[.int .i64 ((rd_T37 t185 x7_1).f0), .int .u8 x190001_6, .bool x190002_6] 37 (0, 0)) (by (with_reducible repeat (first | refine blk_drewN ?_ _ | refine blk_drew ?_ | refine blk_alloc ?_ _)); exact BK189.out) k_ hk⟩)); (case aO => exact (by (with_reducible repeat (first | apply Kd.R_alloc | apply Kd.R_drewN | apply Kd.R_drew)); exact HO_5.out)); (case aS => exact (below_size (by repeat (first | (with_reducible first | exact HB.out | apply below_alloc | apply pw_below_drewN | apply below_drew1 | refine below_set ?_ GE189.out) | exact HB.out)))); (case aL => have := LMc40.out; omega); intro v200 w42 ho hb hg hat; rw [← Ny199.out] at ho; have n0_ := Aside0.mk (Kd.R_after (ok := (fun k_ => some k_ ≠ (u6 : Value).ownBlock ∧ k_ ≠ gb189)) (by (with_reducible repeat (first | apply Kd.R_alloc | apply Kd.R_drewN | apply Kd.R_drew)); exact Kd.R_mono HO_4.out (fun _ hk => ⟨⟨hk.2.1, hk.2.2⟩, hk.1⟩)) hg hat); have n1_ := Aside0.mk (Kd.R_after (ok := (fun k_ => some k_ ≠ (.slice (some ad188) t185.length co8 : Value).ownBlock ∧ k_ ≠ gb189)) (by (with_reducible repeat (first | apply Kd.R_alloc | apply Kd.R_drewN | apply Kd.R_drew)); exact Kd.R_mono HO_6.out (fun _ hk => ⟨⟨hk.1, hk.2.2⟩, hk.2.1⟩)) hg hat); have n2_ := Aside0.mk (blk_grown (g := gb189) (o := .cells #[.int .i64 ((rd_T37 t185 x7_1).f0), .int .u8 x190001_6, .bool x190002_6] 37 (0, 0)) (by (with_reducible repeat (first | refine blk_drewN ?_ _ | refine blk_drew ?_ | refine blk_alloc ?_ _)); exact BK189.out) hg (Kd.R_away HO_5.out (fun _ hk => hk.2.2))); have n3_ := Aside0.mk (hb); have n4_ := Aside0.mk (ho); clear HO_4; clear HO_6; clear BK189; clear HB; clear HO_5; have HO_4 := n0_; have HO_6 := n1_; have BK189 := n2_; have HB := n3_; have HO201 := n4_; clear n0_ n1_ n2_ n3_ n4_; clear ho hb hg hat))
          go_meet
          case rel => exact ⟨_, (y199), H', ⟨by have := HK1.out; have := HJ6.out; first | omega | exact Nat.le_refl _⟩, ⟨by (with_reducible repeat (first | apply Kd.R_alloc | apply Kd.R_drewN | apply Kd.R_drew)); exact Kd.R_mono HO_4.out (fun _ hk => ⟨hk.2, ⟨hk.1.1, hk.1.2⟩⟩)⟩, ⟨by (with_reducible repeat (first | apply Kd.R_alloc | apply Kd.R_drewN | apply Kd.R_drew)); exact HO201.out⟩, ⟨by (with_reducible repeat (first | apply Kd.R_alloc | apply Kd.R_drewN | apply Kd.R_drew)); exact Kd.R_mono HO_6.out (fun _ hk => ⟨hk.1.1, ⟨hk.2, hk.1.2⟩⟩)⟩, ⟨by (with_reducible repeat (first | refine blk_drewN ?_ _ | refine blk_drew ?_ | refine blk_alloc ?_ _)); exact BK189.out⟩, ⟨by repeat (first | (with_reducible first | exact HB.out | apply below_alloc | apply pw_below_drewN | apply below_drew1 | refine below_set ?_ GE189.out) | exact HB.out)⟩⟩
         ·rw [if_neg c40] at H
          exact absurd H (by simp)
        ·replace c39 := Bool.eq_false_iff.mpr c39
         subst c39
         have H1 : (clepsydraref20_Whole.j3 kj6 t185 x5_1 x6_1 x7_1 x8_6 false) = some (r1, r2) := by rw [if_neg (show ¬ (false = true) by decide)] at H; exact H
         clear H
         have H := H1
         clear H1
         have H' := Aside0.mk H
         clear H
         go_wp2
         go_meet
         case rel => exact ⟨_, (x5_1), H', ⟨by have := HK1.out; have := HJ6.out; first | omega | exact Nat.le_refl _⟩, ⟨by (with_reducible repeat (first | apply Kd.R_alloc | apply Kd.R_drewN | apply Kd.R_drew)); exact HO_4.out⟩, ⟨by (with_reducible repeat (first | apply Kd.R_alloc | apply Kd.R_drewN | apply Kd.R_drew)); exact HO_5.out⟩, ⟨by (with_reducible repeat (first | apply Kd.R_alloc | apply Kd.R_drewN | apply Kd.R_drew)); exact HO_6.out⟩, ⟨by (with_reducible repeat (first | refine blk_drewN ?_ _ | refine blk_drew ?_ | refine blk_alloc ?_ _)); exact BK189.out⟩, ⟨by repeat (first | (with_reducible first | exact HB.out | apply below_alloc | apply pw_below_drewN | apply below_drew1 | refine below_set ?_ GE189.out) | exact HB.out)⟩⟩
       case rest =>
        clear HC38
        try clear c1
        try clear p1
        try clear q1
        try clear hx1
        try clear p2
        try clear c3
        try clear c4
        try clear p6
        try clear c11
        try clear c11b0
        try clear c12
        try clear c13
        try clear c14
        try clear c15
        try clear c15b0
        try clear c15b1
        try clear c18
        try clear p19
        try clear q19
        try clear hx19
        try clear c39
        try clear c40
        try clear hcz35_0
        try clear hcz35_1
        try clear hcz35_2
        try clear hcz41_0
        try clear hcz41_1
        try clear hcz41_2
        try clear hfz35_0
        try clear hfz35_1
        try clear hfz35_2
        try clear hfz41_0
        try clear hfz41_1
        try clear hfz41_2
        try clear hx192_0
        try clear hx192_1
        try clear hx192_2
        try clear hx193_0
        try clear hx193_1
        try clear hx193_2
        try clear hx194_0
        try clear hx194_1
        try clear hx194_2
        try clear hx198_0
        try clear hx198_1
        try clear hx198_2
        try clear p1
        try clear p19
        try clear p192
        try clear p193
        try clear p194
        try clear p198
        try clear p2
        try clear p6
        try clear q1
        try clear q19
        try clear q192
        try clear q193
        try clear q194
        try clear q198
        obtain ⟨kq, x5_37, HA, HJ37, HO_4, HO_5, HO_6, BK189, HB⟩ := hcut
        cases kq with
        | zero => exact absurd HA.out (by simp [clepsydraref20_Whole.j3])
        | succ kj37 =>
         have H := HA.out
         clear HA
         simp only [clepsydraref20_Whole.j3] at H
         have H' := Aside0.mk H
         clear H
         go_wp2
         go_loopg [6, 7] kj37 (fun kq v6 v7 w' => ∃ (x6_4 : List (S37)) (x7_4 : Int), v7 = .int .i64 x7_4 ∧ Aside0 (clepsydraref20_Whole.l2 kq t185 x5_37 x6_4 x7_4 x8_6 x10_6 = some (r1, r2)) ∧ Aside0 (kq ≤ kj37) ∧ Aside0 (Kd.R k37 37 w' w.heap.size (fun k_ => some k_ ≠ (u5 : Value).ownBlock ∧ some k_ ≠ (v6 : Value).ownBlock ∧ k_ ≠ gb189) (.slice (some ad188) t185.length co8) t185) ∧ Aside0 (Kd.R k37 37 w' w.heap.size (fun k_ => some k_ ≠ ((.slice (some ad188) t185.length co8) : Value).ownBlock ∧ some k_ ≠ (v6 : Value).ownBlock ∧ k_ ≠ gb189) u5 x5_37) ∧ Aside0 (Kd.R k37 37 w' w.heap.size (fun k_ => some k_ ≠ ((.slice (some ad188) t185.length co8) : Value).ownBlock ∧ some k_ ≠ (u5 : Value).ownBlock ∧ k_ ≠ gb189) v6 x6_4) ∧ Aside0 (w'.heap[gb189]? = some (.cells #[.int .i64 ((rd_T37 t185 x7_1).f0), .int .u8 x190001_6, .bool x190002_6] 37 (0, 0))) ∧ Aside0 (Below w.heap.size w w'))
         case atStart => exact ⟨(x6_1), (x7_1), (by first | rfl | (simp; done) | (simp [*]; done)), H', ⟨Nat.le_refl _⟩, ⟨by (with_reducible repeat (first | apply Kd.R_alloc | apply Kd.R_drewN | apply Kd.R_drew)); exact HO_4.out⟩, ⟨by (with_reducible repeat (first | apply Kd.R_alloc | apply Kd.R_drewN | apply Kd.R_drew)); exact HO_5.out⟩, ⟨by (with_reducible repeat (first | apply Kd.R_alloc | apply Kd.R_drewN | apply Kd.R_drew)); exact HO_6.out⟩, ⟨by (with_reducible repeat (first | refine blk_drewN ?_ _ | refine blk_drew ?_ | refine blk_alloc ?_ _)); exact BK189.out⟩, ⟨by repeat (first | (with_reducible first | exact HB.out | apply below_alloc | apply pw_below_drewN | apply below_drew1 | refine below_set ?_ GE189.out) | exact HB.out)⟩⟩
         case round =>
          clear H'
          try clear c1
          try clear p1
          try clear q1
          try clear hx1
          try clear p2
          try clear c3
          try clear c4
          try clear p6
          try clear c11
          try clear c11b0
          try clear c12
          try clear c13
          try clear c14
          try clear c15
          try clear c15b0
          try clear c15b1
          try clear c18
          try clear p19
          try clear q19
          try clear hx19
          try clear c39
          try clear c40
          try clear hcz35_0
          try clear hcz35_1
          try clear hcz35_2
          try clear hcz41_0
          try clear hcz41_1
          try clear hcz41_2
          try clear hfz35_0
          try clear hfz35_1
          try clear hfz35_2
          try clear hfz41_0
          try clear hfz41_1
          try clear hfz41_2
          try clear hx192_0
          try clear hx192_1
          try clear hx192_2
          try clear hx193_0
          try clear hx193_1
          try clear hx193_2
          try clear hx194_0
          try clear hx194_1
          try clear hx194_2
          try clear hx198_0
          try clear hx198_1
          try clear hx198_2
          try clear p1
          try clear p19
          try clear p192
          try clear p193
          try clear p194
          try clear p198
          try clear p2
          try clear p6
          try clear q1
          try clear q19
          try clear q192
          try clear q193
          try clear q194
          try clear q198
          obtain ⟨x6_4, x7_4, rfl, HA, HK4, HO_4, HO_5, HO_6, BK189, HB⟩ := hrel
          cases gk with
          | zero => exact absurd HA.out (by simp [clepsydraref20_Whole.l2])
          | succ k4 =>
           have H := HA.out
           clear HA
           simp only [clepsydraref20_Whole.l2] at H
           by_cases c43 : x7_4 < x8_6
           ·rw [if_pos c43] at H
            have c43b0 : decide (x7_4 < x8_6) = true := decide_eq_true c43
            clear c43
            by_cases c44 : x10_6 = true
            ·subst c44
             have H1 : (clepsydraref20_Whole.l2 k4 t185 x5_37 x6_4 (wrap64 (x7_4 + 1)) x8_6 true) = some (r1, r2) := by rw [if_pos rfl] at H; exact H
             clear H
             have H := H1
             clear H1
             have H' := Aside0.mk H
             clear H
             go_wp2
             go_roundg k4
             case measure => have := HK1.out; have := HJ6.out; have := HJ37.out; have := HK4.out; omega
             case rel => exact ⟨(x6_4), (wrap64 (x7_4 + 1)), (by first | rfl | (simp; done) | (simp [*]; done)), H', ⟨by have := HK1.out; have := HJ6.out; have := HJ37.out; have := HK4.out; omega⟩, ⟨by (with_reducible repeat (first | apply Kd.R_alloc | apply Kd.R_drewN | apply Kd.R_drew)); exact HO_4.out⟩, ⟨by (with_reducible repeat (first | apply Kd.R_alloc | apply Kd.R_drewN | apply Kd.R_drew)); exact HO_5.out⟩, ⟨by (with_reducible repeat (first | apply Kd.R_alloc | apply Kd.R_drewN | apply Kd.R_drew)); exact HO_6.out⟩, ⟨by (with_reducible repeat (first | refine blk_drewN ?_ _ | refine blk_drew ?_ | refine blk_alloc ?_ _)); exact BK189.out⟩, ⟨by repeat (first | (with_reducible first | exact HB.out | apply below_alloc | apply pw_below_drewN | apply below_drew1 | refine below_set ?_ GE189.out) | exact HB.out)⟩⟩
            ·replace c44 := Bool.eq_false_iff.mpr c44
             subst c44
             have H1 : (if 0 ≤ x7_4 then (if x7_4 < (t185.length : Int) then (if x6_4.length < 8796093022208 then (clepsydraref20_Whole.l2 k4 t185 x5_37 (x6_4 ++ [(⟨(rd_T37 t185 x7_4).f0, (rd_T37 t185 x7_4).f1, (rd_T37 t185 x7_4).f2⟩ : S37)]) (wrap64 (x7_4 + 1)) x8_6 false) else (none)) else (none)) else (none)) = some (r1, r2) := by rw [if_neg (show ¬ (false = true) by decide)] at H; exact H
             clear H
             have H := H1
             clear H1
             by_cases c45 : 0 ≤ x7_4
             ·rw [if_pos c45] at H
              have c45b0 : decide (0 ≤ x7_4) = true := decide_eq_true c45
              clear c45
              by_cases c46 : x7_4 < (t185.length : Int)
              ·rw [if_pos c46] at H
               have c46b0 : decide (x7_4 < (t185.length : Int)) = true := decide_eq_true c46
               clear c46
               by_cases c47 : x6_4.length < 8796093022208
               ·rw [if_pos c47] at H
                have LMc47 := Aside0.mk c47
                clear c47
                obtain ⟨y203, hy203⟩ : ∃ y_ : List (S37), y_ = (x6_4 ++ [(⟨(rd_T37 t185 x7_4).f0, (rd_T37 t185 x7_4).f1, (rd_T37 t185 x7_4).f2⟩ : S37)]) := ⟨_, rfl⟩
                replace H : (clepsydraref20_Whole.l2 k4 t185 x5_37 y203 (wrap64 (x7_4 + 1)) x8_6 false) = some (r1, r2) := by first | (rw [hy203]; with_reducible exact H) | (have H2_ := (Option.bind_some _ _).symm.trans H; rw [hy203]; with_reducible exact H2_) | (have H2_ := (Option.bind_some _ _).symm.trans H; with_reducible exact H2_) | with_reducible exact H | (rw [hy203]; exact H) | exact H
                have Ny203 := Aside0.mk hy203
                clear hy203
                have H' := Aside0.mk H
                clear H
                have p202 : 0 ≤ (x7_4 : Int) := of_decide_eq_true (by first | (with_reducible assumption) | assumption)
                have q202 : x7_4 < (t185.length : Int) := of_decide_eq_true (by first | (with_reducible assumption) | assumption)
                obtain ⟨ad202, e202, hx202_0, hx202_1, hx202_2⟩ := at_T37 (Kd.R_reads' HO_4.out).2.2 x7_4 p202 q202
                obtain rfl : ad188 = ad202 := (by injection e202)
                replace p202 := eq_true p202
                replace q202 := eq_true q202
                go_wp2_with (first | ((with_reducible refine gate_builtin (b := .append) (xs := #[.tmp 88, .tmp 93]) rfl ?_); at_builtin; refine Kd.R_append k37 (w0 := w) w.heap.size rfl (.tmp 88) (.tmp 93) 24 37 (.agg #[(.int .i64 0), (.int .u8 0), (.bool false)]) 16 rfl Try.underlying24 info37 rfl (by decide) (by omega) u6 x6_4 (⟨(rd_T37 t185 x7_4).f0, (rd_T37 t185 x7_4).f1, (rd_T37 t185 x7_4).f2⟩ : S37) [.int .i64 ((rd_T37 t185 x7_4).f0), .int .u8 ((rd_T37 t185 x7_4).f1), .bool ((rd_T37 t185 x7_4).f2)] (fun k_ => some k_ ≠ (.slice (some ad188) t185.length co8 : Value).ownBlock ∧ some k_ ≠ (u5 : Value).ownBlock ∧ k_ ≠ gb189) (fun _ => False) rfl rfl ?aP (fun _ hk => hk.elim) ?aF ?aO ?aB ?aS ?aL ?_; (case aP => exact k37_mkM _ _ _ (⟨(rd_T37 t185 x7_4).f0, (rd_T37 t185 x7_4).f1, (rd_T37 t185 x7_4).f2⟩ : S37)); (case aB => exact (by repeat (first | (with_reducible first | exact HB.out | apply below_alloc | apply pw_below_drewN | apply below_drew1 | refine below_set ?_ GE189.out) | exact HB.out))); (case aF => exact (fun k_ hk => ⟨Kd.fresh' (Kd.R_lt (by (with_reducible repeat (first | apply Kd.R_alloc | apply Kd.R_drewN | apply Kd.R_drew)); exact HO_4.out)) k_ hk, Kd.fresh' (Kd.R_lt (by (with_reducible repeat (first | apply Kd.R_alloc | apply Kd.R_drewN | apply Kd.R_drew)); exact HO_5.out)) k_ hk, Kd.freshB (g := gb189) (o := .cells #[.int .i64 ((rd_T37 t185 x7_1).f0), .int .u8 x190001_6, .bool x190002_6] 37 (0, 0)) (by (with_reducible repeat (first | refine blk_drewN ?_ _ | refine blk_drew ?_ | refine blk_alloc ?_ _)); exact BK189.out) k_ hk⟩)); (case aO => exact (by (with_reducible repeat (first | apply Kd.R_alloc | apply Kd.R_drewN | apply Kd.R_drew)); exact HO_6.out)); (case aS => exact (below_size (by repeat (first | (with_reducible first | exact HB.out | apply below_alloc | apply pw_below_drewN | apply below_drew1 | refine below_set ?_ GE189.out) | exact HB.out)))); (case aL => have := LMc47.out; omega); intro v204 w48 ho hb hg hat; rw [← Ny203.out] at ho; have n0_ := Aside0.mk (Kd.R_after (ok := (fun k_ => some k_ ≠ (u5 : Value).ownBlock ∧ k_ ≠ gb189)) (by (with_reducible repeat (first | apply Kd.R_alloc | apply Kd.R_drewN | apply Kd.R_drew)); exact Kd.R_mono HO_4.out (fun _ hk => ⟨⟨hk.1, hk.2.2⟩, hk.2.1⟩)) hg hat); have n1_ := Aside0.mk (Kd.R_after (ok := (fun k_ => some k_ ≠ (.slice (some ad188) t185.length co8 : Value).ownBlock ∧ k_ ≠ gb189)) (by (with_reducible repeat (first | apply Kd.R_alloc | apply Kd.R_drewN | apply Kd.R_drew)); exact Kd.R_mono HO_5.out (fun _ hk => ⟨⟨hk.1, hk.2.2⟩, hk.2.1⟩)) hg hat); have n2_ := Aside0.mk (blk_grown (g := gb189) (o := .cells #[.int .i64 ((rd_T37 t185 x7_1).f0), .int .u8 x190001_6, .bool x190002_6] 37 (0, 0)) (by (with_reducible repeat (first | refine blk_drewN ?_ _ | refine blk_drew ?_ | refine blk_alloc ?_ _)); exact BK189.out) hg (Kd.R_away HO_6.out (fun _ hk => hk.2.2))); have n3_ := Aside0.mk (hb); have n4_ := Aside0.mk (ho); clear HO_4; clear HO_5; clear BK189; clear HB; clear HO_6; have HO_4 := n0_; have HO_5 := n1_; have BK189 := n2_; have HB := n3_; have HO205 := n4_; clear n0_ n1_ n2_ n3_ n4_; clear ho hb hg hat))
                go_roundg k4
                case measure => have := HK1.out; have := HJ6.out; have := HJ37.out; have := HK4.out; omega
                case rel => exact ⟨(y203), (wrap64 (x7_4 + 1)), (by first | rfl | (simp; done) | (simp [*]; done)), H', ⟨by have := HK1.out; have := HJ6.out; have := HJ37.out; have := HK4.out; omega⟩, ⟨by (with_reducible repeat (first | apply Kd.R_alloc | apply Kd.R_drewN | apply Kd.R_drew)); exact Kd.R_mono HO_4.out (fun _ hk => ⟨hk.1.1, ⟨hk.2, hk.1.2⟩⟩)⟩, ⟨by (with_reducible repeat (first | apply Kd.R_alloc | apply Kd.R_drewN | apply Kd.R_drew)); exact Kd.R_mono HO_5.out (fun _ hk => ⟨hk.1.1, ⟨hk.2, hk.1.2⟩⟩)⟩, ⟨by (with_reducible repeat (first | apply Kd.R_alloc | apply Kd.R_drewN | apply Kd.R_drew)); exact HO205.out⟩, ⟨by (with_reducible repeat (first | refine blk_drewN ?_ _ | refine blk_drew ?_ | refine blk_alloc ?_ _)); exact BK189.out⟩, ⟨by repeat (first | (with_reducible first | exact HB.out | apply below_alloc | apply pw_below_drewN | apply below_drew1 | refine below_set ?_ GE189.out) | exact HB.out)⟩⟩
               ·rw [if_neg c47] at H
                exact absurd H (by simp)
              ·rw [if_neg c46] at H
               exact absurd H (by simp)
             ·rw [if_neg c45] at H
              exact absurd H (by simp)
           ·rw [if_neg c43] at H
            have c43b0 : decide (x7_4 < x8_6) = false := decide_eq_false c43
            clear c43
            have H' := Aside0.mk H
            clear H
            go_wp2
            go_roundg k4
            case measure => have := HK1.out; have := HJ6.out; have := HJ37.out; have := HK4.out; omega
            case rel => exact ⟨(x5_37), (x6_4), (x7_4), (by first | rfl | (simp; done) | (simp [*]; done)), H', ⟨by have := HK1.out; have := HJ6.out; have := HJ37.out; have := HK4.out; omega⟩, ⟨by (with_reducible repeat (first | apply Kd.R_alloc | apply Kd.R_drewN | apply Kd.R_drew)); exact Kd.R_mono HO_4.out (fun _ hk => ⟨hk.1, hk.2.1⟩)⟩, ⟨by (with_reducible repeat (first | apply Kd.R_alloc | apply Kd.R_drewN | apply Kd.R_drew)); exact Kd.R_mono HO_5.out (fun _ hk => ⟨hk.1, hk.2.1⟩)⟩, ⟨by (with_reducible repeat (first | apply Kd.R_alloc | apply Kd.R_drewN | apply Kd.R_drew)); exact Kd.R_mono HO_6.out (fun _ hk => ⟨hk.1, hk.2.1⟩)⟩, ⟨by repeat (first | (with_reducible first | exact HB.out | apply below_alloc | apply pw_below_drewN | apply below_drew1 | refine below_set ?_ GE189.out) | exact HB.out)⟩⟩
    ·rw [if_neg c5] at H
     exact absurd H (by simp)
   ·rw [if_neg c4] at H
    have c4b0 : decide (x7_1 < (t185.length : Int)) = false := decide_eq_false c4
    clear c4
    simp only [Option.some.injEq, Prod.mk.injEq] at H
    obtain ⟨rfl, rfl⟩ := H
    obtain ⟨Ao49, co49, eo49⟩ := Kd.R_slice HO_4.out
    subst eo49
    go_wp2
    go_ret2
    exact ⟨_, _, by first | rfl | (simp [errW_none, errW_some] <;> rfl) | (simp [*, errW_none, errW_some] <;> rfl), by (with_reducible repeat (first | apply Kd.R_alloc | apply Kd.R_drewN | apply Kd.R_drew)); exact Kd.R_mono HO_5.out (fun _ hk => hk.2), by (with_reducible repeat (first | apply Kd.R_alloc | apply Kd.R_drewN | apply Kd.R_drew)); exact Kd.R_mono HO_6.out (fun _ hk => hk.2), by repeat (first | (with_reducible first | exact HB.out | apply below_alloc | apply pw_below_drewN | apply below_drew1) | exact HB.out)⟩

end Go.Proofs.Ytgchfibcaecjcaa.P
