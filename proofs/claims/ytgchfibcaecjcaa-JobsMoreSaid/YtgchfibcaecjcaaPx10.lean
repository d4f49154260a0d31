/- Printed by a program for this claim: functions of the program as plain functions, and that the machine computes them. -/
import Derived.Test.YtgchfibcaecjcaaPx0
import Derived.Test.YtgchfibcaecjcaaPShort
import Derived.Test.YtgchfibcaecjcaaPx4
import Derived.Test.YtgchfibcaecjcaaPx8
import Derived.Test.YtgchfibcaecjcaaPx9
namespace Go.Proofs.Ytgchfibcaecjcaa.P
open Go.RowKit Go.Proofs.YtgchfibcaecjcaaW.PrintWords Go.Proofs.YtgchfibcaecjcaaW.PrintLast Go.Proofs.YtgchfibcaecjcaaW.PrintMore
attribute [local go_sem] max2_int min2_int max_two min_two max_three min_three max_four min_four   -- for this text's walks alone
set_option linter.unusedVariables false
set_option linter.unusedSimpArgs false
def u10_0 : Array Bool := #[false, false, false, false, false, false, false, false, false, false, false, false, false, false, false, false, false, false, false, false, false, false, false, false, false, false, false, false, false, false, false, false, false, false, false, false, false, false]
def u10_1 : Array Bool := #[true, false, false, false, false, false, false, false, false, false, false, false, false, false, false, false, false, false, false, false, false, false, false, false, false, false, false, false, false, false, false, false, false, false, false, false, false, false]
def u10_2 : Array Bool := #[true, true, false, false, false, false, false, false, false, false, false, false, false, false, false, false, false, false, false, false, false, false, false, false, false, false, false, false, false, false, false, false, false, false, false, false, false, false]
def u10_3 : Array Bool := #[true, true, true, false, false, false, false, false, false, false, false, false, false, false, false, false, false, false, false, false, false, false, false, false, false, false, false, false, false, false, false, false, false, false, false, false, false, false]
def u10_4 : Array Bool := #[true, true, true, false, false, false, true, false, false, false, false, false, false, false, false, false, false, false, false, false, false, false, false, false, false, false, false, false, false, false, false, false, false, false, false, false, false, false]
def u10_5 : Array Bool := #[true, true, true, false, false, false, true, true, false, false, false, false, false, false, false, false, false, false, false, false, false, false, false, false, false, false, false, false, false, false, false, false, false, false, false, false, false, false]
def u10_6 : Array Bool := #[true, true, true, false, false, false, true, true, true, false, false, false, false, false, false, false, false, false, false, false, false, false, false, false, false, false, false, false, false, false, false, false, false, false, false, false, false, false]
def u10_7 : Array Bool := #[true, true, true, true, false, false, true, true, true, false, false, false, false, false, false, false, false, false, false, false, false, false, false, false, false, false, false, false, false, false, false, false, false, false, false, false, false, false]
def u10_8 : Array Bool := #[true, true, true, true, false, false, true, true, true, true, false, false, false, false, false, false, false, false, false, false, false, false, false, false, false, false, false, false, false, false, false, false, false, false, false, false, false, false]
def u10_9 : Array Bool := #[true, true, true, true, true, false, true, true, true, true, false, false, false, false, false, false, false, false, false, false, false, false, false, false, false, false, false, false, false, false, false, false, false, false, false, false, false, false]
def u10_10 : Array Bool := #[true, true, true, true, true, true, true, true, true, true, false, false, false, false, false, false, false, false, false, false, false, false, false, false, false, false, false, false, false, false, false, false, false, false, false, false, false, false]
def u10_11 : Array Bool := #[true, true, true, true, true, true, true, true, true, true, true, false, false, false, false, false, false, false, false, false, false, false, false, false, false, false, false, false, false, false, false, false, false, false, false, false, false, false]
def u10_12 : Array Bool := #[true, true, true, true, true, true, true, true, true, true, true, true, false, false, false, false, false, false, false, false, false, false, false, false, false, false, false, false, false, false, false, false, false, false, false, false, false, false]
def u10_13 : Array Bool := #[true, true, true, true, true, true, true, true, true, true, true, true, true, false, false, false, false, false, false, false, false, false, false, false, false, false, false, false, false, false, false, false, false, false, false, false, false, false]
def u10_14 : Array Bool := #[true, true, true, true, true, true, true, true, true, true, true, true, true, true, false, false, false, false, false, false, false, false, false, false, false, false, false, false, false, false, false, false, false, false, false, false, false, false]
def u10_15 : Array Bool := #[true, true, true, true, true, true, true, true, true, true, true, true, true, true, true, false, false, false, false, false, false, false, false, false, false, false, false, false, false, false, false, false, false, false, false, false, false, false]
def u10_16 : Array Bool := #[true, true, true, true, true, true, true, true, true, true, true, true, true, true, true, true, false, false, false, false, false, false, false, false, false, false, false, false, false, false, false, false, false, false, false, false, false, false]
def u10_17 : Array Bool := #[true, true, true, true, true, true, true, true, true, true, true, true, true, true, true, true, true, false, false, false, false, false, false, false, false, false, false, false, false, false, false, false, false, false, false, false, false, false]
def u10_18 : Array Bool := #[true, true, true, true, true, true, true, true, true, true, true, true, true, true, true, true, true, true, false, false, false, false, false, false, false, false, false, false, false, false, false, false, false, false, false, false, false, false]
def u10_19 : Array Bool := #[true, true, true, true, true, true, true, true, true, true, true, true, true, true, true, true, true, true, true, false, false, false, false, false, false, false, false, false, false, false, false, false, false, false, false, false, false, false]
def u10_20 : Array Bool := #[true, true, true, true, true, true, true, true, true, true, true, true, true, true, true, true, true, true, true, true, false, false, false, false, false, false, false, false, false, false, false, false, false, false, false, false, false, false]
def u10_21 : Array Bool := #[true, true, true, true, true, true, true, true, true, true, true, true, true, true, true, true, true, true, true, true, true, false, false, false, false, false, false, false, false, false, false, false, false, false, false, false, false, false]
def u10_22 : Array Bool := #[true, true, true, true, true, true, true, true, true, true, true, true, true, true, true, true, true, true, true, true, true, true, false, false, false, false, false, false, false, false, false, false, false, false, false, false, false, false]
def u10_23 : Array Bool := #[true, true, true, true, true, true, true, true, true, true, true, true, true, true, true, true, true, true, true, true, true, true, true, false, false, false, false, false, false, false, false, false, false, false, false, false, false, false]
def u10_24 : Array Bool := #[true, true, true, true, true, true, true, true, true, true, true, true, true, true, true, true, true, true, true, true, true, true, true, true, false, false, false, false, false, false, false, false, false, false, false, false, false, false]
def u10_25 : Array Bool := #[true, true, true, true, true, true, true, true, true, true, true, true, true, true, true, true, true, true, true, true, true, true, true, true, true, false, false, false, false, false, false, false, false, false, false, false, false, false]
def u10_26 : Array Bool := #[true, true, true, true, true, true, true, true, true, true, true, true, true, true, true, true, true, true, true, true, true, true, true, true, true, true, false, false, false, false, false, false, false, false, false, false, false, false]
def u10_27 : Array Bool := #[true, true, true, true, true, true, true, true, true, true, true, true, true, true, true, true, true, true, true, true, true, true, true, true, true, true, true, false, false, false, false, false, false, false, false, false, false, false]
def u10_28 : Array Bool := #[true, true, true, true, true, true, true, true, true, true, true, true, true, true, true, true, true, true, true, true, true, true, true, true, true, true, true, true, false, false, false, false, false, false, false, false, false, false]
def u10_29 : Array Bool := #[true, true, true, true, true, true, true, true, true, true, true, true, true, true, true, true, true, true, true, true, true, true, true, true, true, true, true, true, true, false, false, false, false, false, false, false, false, false]
def u10_30 : Array Bool := #[true, true, true, true, true, true, true, true, true, true, true, true, true, true, true, true, true, true, true, true, true, true, true, true, true, true, true, true, true, true, false, false, false, false, false, false, false, false]
def u10_31 : Array Bool := #[true, true, true, true, true, true, true, true, true, true, true, true, true, true, true, true, true, true, true, true, true, true, true, true, true, true, true, true, true, true, true, false, false, false, false, false, false, false]
def u10_32 : Array Bool := #[true, true, true, true, true, true, true, true, true, true, true, true, true, true, true, true, true, true, true, true, true, true, true, true, true, true, true, true, true, true, true, true, false, false, false, false, false, false]
def u10_33 : Array Bool := #[true, true, true, true, true, true, true, true, true, true, true, true, true, true, true, true, true, true, true, true, true, true, true, true, true, true, true, true, true, true, true, true, true, false, false, false, false, false]
def u10_34 : Array Bool := #[true, true, true, true, true, true, true, true, true, true, true, true, true, true, true, true, true, true, true, true, true, true, true, true, true, true, true, true, true, true, true, true, true, true, false, false, false, false]
def u10_35 : Array Bool := #[true, true, true, true, true, true, true, true, true, true, true, true, true, true, true, true, true, true, true, true, true, true, true, true, true, true, true, true, true, true, true, true, true, true, true, false, false, false]
def u10_36 : Array Bool := #[true, true, true, true, true, true, true, true, true, true, true, true, true, true, true, true, true, true, true, true, true, true, true, true, true, true, true, true, true, true, true, true, true, true, true, true, false, false]
def u10_37 : Array Bool := #[true, true, true, true, true, true, true, true, true, true, true, true, true, true, true, true, true, true, true, true, true, true, true, true, true, true, true, true, true, true, true, true, true, true, true, true, true, false]
def u10_38 : Array Bool := #[true, true, true, true, true, true, true, true, true, true, true, true, true, true, true, true, true, true, true, true, true, true, true, true, true, true, true, true, true, true, true, true, true, true, true, true, true, true]
def u10_39 : Array Bool := #[false, false, false, false, false, false, false, false, false]
def u10_40 : Array Bool := #[true, false, false, false, false, false, false, false, false]
def u10_41 : Array Bool := #[true, true, false, false, false, false, false, false, false]
def u10_42 : Array Bool := #[true, true, true, false, false, false, false, false, false]
def u10_43 : Array Bool := #[true, true, true, true, false, false, false, false, false]
def u10_44 : Array Bool := #[true, true, true, true, false, true, false, false, false]
def u10_45 : Array Bool := #[true, true, true, true, false, true, true, false, false]
def u10_46 : Array Bool := #[true, true, true, true, true, true, true, false, false]
def u10_47 : Array Bool := #[true, true, true, true, true, true, true, true, false]
def u10_48 : Array Bool := #[true, true, true, true, true, true, true, true, true]

/-! ### clepsydralaw20_JobsMore: function 5 -/
mutual
def clepsydralaw20_JobsMore.j0 : Nat → List (S35) → List (S35) → Bool → Int → Int → Bool → Option (Bool)
 | 0, _, _, _, _, _, _ => none
 | k + 1, x6, x9, x71, x294000, x294001, x294002 => if x71 = true then (some false) else (clepsydralaw20_JobsMore.l0 k x6 x9 0 0 0 x294000 x294001 x294002)
def clepsydralaw20_JobsMore.l0 : Nat → List (S35) → List (S35) → Int → Int → Int → Int → Int → Bool → Option (Bool)
 | 0, _, _, _, _, _, _, _, _ => none
 | k + 1, x6, x9, x10, x11, x12, x294000, x294001, x294002 => if x12 < (x6.length : Int) then (if 0 ≤ x12 then (if ((rd_T35 x6 x12).f0) = x294000 then (clepsydralaw20_JobsMore.l0 k x6 x9 (wrap64 (x10 + 1)) x11 (wrap64 (x12 + 1)) x294000 x294001 x294002) else (clepsydralaw20_JobsMore.l0 k x6 x9 x10 x11 (wrap64 (x12 + 1)) x294000 x294001 x294002)) else (none)) else (clepsydralaw20_JobsMore.l1 k x6 x9 x10 x11 0 x294000 x294001 x294002)
def clepsydralaw20_JobsMore.l1 : Nat → List (S35) → List (S35) → Int → Int → Int → Int → Int → Bool → Option (Bool)
 | 0, _, _, _, _, _, _, _, _ => none
 | k + 1, x6, x9, x10, x11, x13, x294000, x294001, x294002 => if x13 < (x9.length : Int) then (if 0 ≤ x13 then (if ((rd_T35 x9 x13).f0) = x294000 then (clepsydralaw20_JobsMore.l1 k x6 x9 x10 (wrap64 (x11 + 1)) (wrap64 (x13 + 1)) x294000 x294001 x294002) else (clepsydralaw20_JobsMore.l1 k x6 x9 x10 x11 (wrap64 (x13 + 1)) x294000 x294001 x294002)) else (none)) else (if x11 ≥ x10 then (if x10 = 0 then (if (wrap64 ((x9.length : Int) - x11)) = (wrap64 ((x6.length : Int) - x10)) then ((clepsydralaw20_works.f k).bind fun t334 => (some t334)) else (some false)) else (if x11 > 0 then (if (wrap64 ((x9.length : Int) - x11)) = (wrap64 ((x6.length : Int) - x10)) then ((clepsydralaw20_works.f k).bind fun t335 => (some t335)) else (some false)) else (some false))) else (some false))
end
def clepsydralaw20_JobsMore.f (k : Nat) (l0 : List (S39)) (a1_0 : Int) (a1_1 : Int) (a1_2 : Bool) : Option (Bool) := if (l0.length : Int) > 60 then ((clepsydralaw20_works.f k).bind fun t294 => (some t294)) else ((jobs_Whole.f l0).bind fun bt295 => (if ([] : List (S39)).length + l0.length < 5864062014805 then ((some (([] : List (S39)) ++ l0 : List (S39))).bind fun y301 => (if y301.length < 5864062014805 then ((jobs_Whole.f (y301 ++ [(⟨(⟨a1_0, a1_1⟩ : S35), a1_2⟩ : S39)])).bind fun bt307 => ((clepsydralaw20_others.f k bt295.1 a1_0).bind fun t313 => ((clepsydralaw20_plain.f k t313).bind fun t316 => ((clepsydralaw20_others.f k bt307.1 a1_0).bind fun t319 => ((clepsydralaw20_plain.f k t319).bind fun t322 => ((clepsydralaw20_same.f k t316 t322).bind fun t325 => (if t325 = true then ((clepsydralaw20_others.f k bt295.1 a1_0).bind fun t326 => (if (wrap64 ((bt295.1.length : Int) - (t326.length : Int))) > 1 then (clepsydralaw20_JobsMore.j0 k bt295.2 bt307.2 true a1_0 a1_1 a1_2) else ((clepsydralaw20_others.f k bt307.1 a1_0).bind fun t329 => (clepsydralaw20_JobsMore.j0 k bt295.2 bt307.2 (decide ((wrap64 ((bt307.1.length : Int) - (t329.length : Int))) > 1)) a1_0 a1_1 a1_2)))) else (clepsydralaw20_JobsMore.j0 k bt295.2 bt307.2 true a1_0 a1_1 a1_2)))))))) else (none))) else (none)))
theorem clepsydralaw20_JobsMore.mono_l : ∀ k, (∀ y0 y1 y2 y3 y4 y5, LeO (clepsydralaw20_JobsMore.j0 k y0 y1 y2 y3 y4 y5) (clepsydralaw20_JobsMore.j0 (k + 1) y0 y1 y2 y3 y4 y5)) ∧ (∀ y0 y1 y2 y3 y4 y5 y6 y7, LeO (clepsydralaw20_JobsMore.l0 k y0 y1 y2 y3 y4 y5 y6 y7) (clepsydralaw20_JobsMore.l0 (k + 1) y0 y1 y2 y3 y4 y5 y6 y7)) ∧ (∀ y0 y1 y2 y3 y4 y5 y6 y7, LeO (clepsydralaw20_JobsMore.l1 k y0 y1 y2 y3 y4 y5 y6 y7) (clepsydralaw20_JobsMore.l1 (k + 1) y0 y1 y2 y3 y4 y5 y6 y7))
 | 0 => ⟨fun _ _ _ _ _ _ r h => by simp [clepsydralaw20_JobsMore.j0] at h, fun _ _ _ _ _ _ _ _ r h => by simp [clepsydralaw20_JobsMore.l0] at h, fun _ _ _ _ _ _ _ _ r h => by simp [clepsydralaw20_JobsMore.l1] at h⟩
 | k + 1 => by
  obtain ⟨ih0, ih1, ih2⟩ := clepsydralaw20_JobsMore.mono_l k
  refine ⟨?_, ?_, ?_⟩
  ·intro y0 y1 y2 y3 y4 y5
   unfold clepsydralaw20_JobsMore.j0
   repeat' first
   | (with_reducible exact ih0 _ _ _ _ _ _)
   | (with_reducible exact ih1 _ _ _ _ _ _ _ _)
   | (with_reducible exact ih2 _ _ _ _ _ _ _ _)
   | (with_reducible exact clepsydralaw20_others.mono _ _ _)
   | (with_reducible exact clepsydralaw20_plain.mono _ _)
   | (with_reducible exact clepsydralaw20_same.mono _ _ _)
   | (with_reducible exact clepsydralaw20_works.mono _)
   | (with_reducible exact LeO.refl _)
   | (with_reducible exact LeO.none _)
   | (with_reducible refine LeO.ite ?_ ?_)
   | (with_reducible refine LeO.bind ?_ (fun _ => ?_))
   | exact ih0 _ _ _ _ _ _
   | exact ih1 _ _ _ _ _ _ _ _
   | exact ih2 _ _ _ _ _ _ _ _
   | exact clepsydralaw20_others.mono _ _ _
   | exact clepsydralaw20_plain.mono _ _
   | exact clepsydralaw20_same.mono _ _ _
   | exact clepsydralaw20_works.mono _
   | exact LeO.none _
   | refine LeO.ite ?_ ?_
   | refine LeO.bind ?_ (fun _ => ?_)
  ·intro y0 y1 y2 y3 y4 y5 y6 y7
   unfold clepsydralaw20_JobsMore.l0
   repeat' first
   | (with_reducible exact ih0 _ _ _ _ _ _)
   | (with_reducible exact ih1 _ _ _ _ _ _ _ _)
   | (with_reducible exact ih2 _ _ _ _ _ _ _ _)
   | (with_reducible exact clepsydralaw20_others.mono _ _ _)
   | (with_reducible exact clepsydralaw20_plain.mono _ _)
   | (with_reducible exact clepsydralaw20_same.mono _ _ _)
   | (with_reducible exact clepsydralaw20_works.mono _)
   | (with_reducible exact LeO.refl _)
   | (with_reducible exact LeO.none _)
   | (with_reducible refine LeO.ite ?_ ?_)
   | (with_reducible refine LeO.bind ?_ (fun _ => ?_))
   | exact ih0 _ _ _ _ _ _
   | exact ih1 _ _ _ _ _ _ _ _
   | exact ih2 _ _ _ _ _ _ _ _
   | exact clepsydralaw20_others.mono _ _ _
   | exact clepsydralaw20_plain.mono _ _
   | exact clepsydralaw20_same.mono _ _ _
   | exact clepsydralaw20_works.mono _
   | exact LeO.none _
   | refine LeO.ite ?_ ?_
   | refine LeO.bind ?_ (fun _ => ?_)
  ·intro y0 y1 y2 y3 y4 y5 y6 y7
   unfold clepsydralaw20_JobsMore.l1
   repeat' first
   | (with_reducible exact ih0 _ _ _ _ _ _)
   | (with_reducible exact ih1 _ _ _ _ _ _ _ _)
   | (with_reducible exact ih2 _ _ _ _ _ _ _ _)
   | (with_reducible exact clepsydralaw20_others.mono _ _ _)
   | (with_reducible exact clepsydralaw20_plain.mono _ _)
   | (with_reducible exact clepsydralaw20_same.mono _ _ _)
   | (with_reducible exact clepsydralaw20_works.mono _)
   | (with_reducible exact LeO.refl _)
   | (with_reducible exact LeO.none _)
   | (with_reducible refine LeO.ite ?_ ?_)
   | (with_reducible refine LeO.bind ?_ (fun _ => ?_))
   | exact ih0 _ _ _ _ _ _
   | exact ih1 _ _ _ _ _ _ _ _
   | exact ih2 _ _ _ _ _ _ _ _
   | exact clepsydralaw20_others.mono _ _ _
   | exact clepsydralaw20_plain.mono _ _
   | exact clepsydralaw20_same.mono _ _ _
   | exact clepsydralaw20_works.mono _
   | exact LeO.none _
   | refine LeO.ite ?_ ?_
   | refine LeO.bind ?_ (fun _ => ?_)
theorem clepsydralaw20_JobsMore.mono : ∀ a0 a1 a2 a3 k, LeO (clepsydralaw20_JobsMore.f k a0 a1 a2 a3) (clepsydralaw20_JobsMore.f (k + 1) a0 a1 a2 a3) := by
 intro a0 a1 a2 a3 k
 obtain ⟨ih0, ih1, ih2⟩ := clepsydralaw20_JobsMore.mono_l k
 unfold clepsydralaw20_JobsMore.f
 repeat' first
   | (with_reducible exact ih0 _ _ _ _ _ _)
   | (with_reducible exact ih1 _ _ _ _ _ _ _ _)
   | (with_reducible exact ih2 _ _ _ _ _ _ _ _)
   | (with_reducible exact clepsydralaw20_others.mono _ _ _)
   | (with_reducible exact clepsydralaw20_plain.mono _ _)
   | (with_reducible exact clepsydralaw20_same.mono _ _ _)
   | (with_reducible exact clepsydralaw20_works.mono _)
   | (with_reducible exact LeO.refl _)
   | (with_reducible exact LeO.none _)
   | (with_reducible refine LeO.ite ?_ ?_)
   | (with_reducible refine LeO.bind ?_ (fun _ => ?_))
   | exact ih0 _ _ _ _ _ _
   | exact ih1 _ _ _ _ _ _ _ _
   | exact ih2 _ _ _ _ _ _ _ _
   | exact clepsydralaw20_others.mono _ _ _
   | exact clepsydralaw20_plain.mono _ _
   | exact clepsydralaw20_same.mono _ _ _
   | exact clepsydralaw20_works.mono _
   | exact LeO.none _
   | refine LeO.ite ?_ ?_
   | refine LeO.bind ?_ (fun _ => ?_)
def clepsydralaw20_JobsMore.T7 : Bool × List (List Nat × List Nat) := (true, [([], []), ([], []), ([1], [1]), ([2], [2]), ([0, 3], [0, 3]), ([4, 4], [4]), ([], []), ([], []), ([7], [7]), ([8], [8]), ([6, 9, 5], [6, 9]), ([10, 10], [10]), ([5, 11, 11], [5, 11]), ([12], [12]), ([13, 12], [13]), ([14], [14]), ([15, 14], [14, 15]), ([14], [14]), ([14], [14]), ([18, 14], [14, 18]), ([19, 14], [14, 19]), ([17, 20, 14, 14], [14, 17, 20]), ([21, 14], [14, 21]), ([16, 22, 14], [14, 16, 22]), ([23, 14], [14, 23]), ([14, 24], [14, 24]), ([25, 21], [25]), ([26], [26]), ([27, 26], [26, 27]), ([26], [26]), ([26], [26]), ([30, 26], [26, 30]), ([31, 26], [26, 31]), ([29, 32, 26, 26], [26, 29, 32]), ([33, 26], [26, 33]), ([28, 34, 26], [26, 28, 34]), ([35, 26], [26, 35]), ([26, 36], [26, 36])])
def clepsydralaw20_JobsMore.B7 : List Nat := [0, 0, 2, 6, 15, 31, 0, 0, 128, 384, 1023, 2047, 4095, 8191, 16383, 32767, 65535, 32767, 32767, 294911, 819199, 1998847, 4095999, 8388607, 16777215, 33554431, 67108863, 134217727, 268435455, 134217727, 134217727, 1207959551, 3355443199, 8187281407, 16777215999, 34359738367, 68719476735, 137438953471]
theorem clepsydralaw20_JobsMore.tab7 : rtab .any (opsOf Try.f5 7) = clepsydralaw20_JobsMore.T7 := by kernel_rfl
theorem clepsydralaw20_JobsMore.bits7 : waitsOk clepsydralaw20_JobsMore.T7.2 clepsydralaw20_JobsMore.B7 = true := by kernel_rfl
def clepsydralaw20_JobsMore.T13 : Bool × List (List Nat × List Nat) := (true, [([], []), ([], []), ([0, 1], [0, 1]), ([2], [2]), ([3], [3]), ([], []), ([5], [5]), ([6], [6]), ([4, 7], [4, 7])])
def clepsydralaw20_JobsMore.B13 : List Nat := [0, 0, 3, 7, 15, 0, 32, 96, 255]
theorem clepsydralaw20_JobsMore.tab13 : rtab .any (opsOf Try.f5 13) = clepsydralaw20_JobsMore.T13 := by kernel_rfl
theorem clepsydralaw20_JobsMore.bits13 : waitsOk clepsydralaw20_JobsMore.T13.2 clepsydralaw20_JobsMore.B13 = true := by kernel_rfl
def clepsydralaw20_JobsMore.T18 : Bool × List (List Nat × List Nat) := (true, [([], []), ([], []), ([0, 1], [0, 1]), ([2], [2]), ([3], [3]), ([], []), ([5], [5]), ([6], [6]), ([4, 7], [4, 7])])
def clepsydralaw20_JobsMore.B18 : List Nat := [0, 0, 3, 7, 15, 0, 32, 96, 255]
theorem clepsydralaw20_JobsMore.tab18 : rtab .any (opsOf Try.f5 18) = clepsydralaw20_JobsMore.T18 := by kernel_rfl
theorem clepsydralaw20_JobsMore.bits18 : waitsOk clepsydralaw20_JobsMore.T18.2 clepsydralaw20_JobsMore.B18 = true := by kernel_rfl
set_option maxHeartbeats 8000000 in
set_option maxRecDepth 100000 in
theorem clepsydralaw20_JobsMore.calls (k : Nat) (A0 : Option Addr) (c0 : Nat) (l0 : List (S39)) (a1_0 : Int) (a1_1 : Int) (a1_2 : Bool) (r : Bool) (w : World) (hr0 : Kd.C k39 w A0 l0.length l0) (hc0 : l0.length ≤ c0) (h : clepsydralaw20_JobsMore.f k l0 a1_0 a1_1 a1_2 = some r) :
  Calls Try.prog 5 #[.slice A0 l0.length c0, .agg #[.int .i64 a1_0, .int .u8 a1_1, .bool a1_2]] w fun e w' => e = .returned (.bool r) ∧ Below w.heap.size w w' := by
 have hu39 := Try.underlying39
 have HR0 := Aside0.mk hr0
 have HC0 := Aside0.mk hc0
 clear hr0 hc0
 have HB := Aside0.mk (Below.refl w.heap.size w)
 have H : (if (l0.length : Int) > 60 then ((clepsydralaw20_works.f k).bind fun t294 => (some t294)) else ((jobs_Whole.f l0).bind fun bt295 => (if ([] : List (S39)).length + l0.length < 5864062014805 then ((some (([] : List (S39)) ++ l0 : List (S39))).bind fun y301 => (if y301.length < 5864062014805 then ((jobs_Whole.f (y301 ++ [(⟨(⟨a1_0, a1_1⟩ : S35), a1_2⟩ : S39)])).bind fun bt307 => ((clepsydralaw20_others.f k bt295.1 a1_0).bind fun t313 => ((clepsydralaw20_plain.f k t313).bind fun t316 => ((clepsydralaw20_others.f k bt307.1 a1_0).bind fun t319 => ((clepsydralaw20_plain.f k t319).bind fun t322 => ((clepsydralaw20_same.f k t316 t322).bind fun t325 => (if t325 = true then ((clepsydralaw20_others.f k bt295.1 a1_0).bind fun t326 => (if (wrap64 ((bt295.1.length : Int) - (t326.length : Int))) > 1 then (clepsydralaw20_JobsMore.j0 k bt295.2 bt307.2 true a1_0 a1_1 a1_2) else ((clepsydralaw20_others.f k bt307.1 a1_0).bind fun t329 => (clepsydralaw20_JobsMore.j0 k bt295.2 bt307.2 (decide ((wrap64 ((bt307.1.length : Int) - (t329.length : Int))) > 1)) a1_0 a1_1 a1_2)))) else (clepsydralaw20_JobsMore.j0 k bt295.2 bt307.2 true a1_0 a1_1 a1_2)))))))) else (none))) else (none)))) = some r := h
 clear h
 by_cases c3 : (l0.length : Int) > 60
 ·rw [if_pos c3] at H
  have c3b0 : decide (60 < (l0.length : Int)) = true := decide_eq_true c3
  have c3b1 : decide (60 < l0.length) = true := decide_eq_true (by omega)
  clear c3
  replace H := Option.bind_eq_some_iff.mp H
  obtain ⟨t294, A40, H⟩ := H
  replace H : (some t294) = some r := H
  have A4 := Aside0.mk A40
  clear A40
  obtain rfl := Option.some.inj H
  go_enter Try.func5, Try.ntmps5
  go_wp2_with (first | ((with_reducible refine gate_dst (N := 3) rfl ?_); (try (refine gate_guard (by rfl) ?_; dsimp only)); refine box_event ?hg (N := 3) ?hd (cs := #[.int .i64 a1_0, .int .u8 a1_1, .bool a1_2]) (t := 39) ?hr ?_; (case hd => rfl); (case hg => rfl); (case hr => first | (go_simp; done) | (go_simp; rfl)); intro gb293 hg w5 hbox hb; have n0_ := BS HB hb; have n1_ := Aside0.mk (hbox); have n2_ := Aside0.mk ((by rw [hg]; exact (below_size (BD HB)) : w.heap.size ≤ gb293)); have n3_ := Aside0.mk ((by rw [hg]; exact (below_size (BD HB)) : w.heap.size ≤ gb293)); clear HB; have HB := n0_; have BK293 := n1_; have GW293 := n2_; have GE293 := n3_; clear n0_ n1_ n2_ n3_; clear hb hbox hg) | ((with_reducible refine gate_callee (f := 8) rfl ?_); refine goesL_ (some 17) rfl rfl Try.func8 (by kernel_rfl) rfl #[] rfl (by (try simp only [List.map_toArray, List.map_cons, List.map_nil]); first | done | rfl | (simp only [List.length_drop, List.length_take]; rfl)) ?_; (with_reducible refine (clepsydralaw20_works.calls k  t294 _ A4.out).mono ?_); rintro e w6 ⟨rfl, hb⟩; refine ⟨_, rfl, ?_⟩; have n0_ := Aside0.mk (blk_below (g := gb293) (o := .cells #[.int .i64 a1_0, .int .u8 a1_1, .bool a1_2] 39 (0, 0)) (by (with_reducible repeat (first | refine blk_drewN ?_ _ | refine blk_drew ?_ | refine blk_alloc ?_ _)); exact BK293.out) hb); have n1_ := Aside0.mk (below_step (by repeat (first | (with_reducible first | exact HB.out | apply below_alloc | apply pw_below_drewN | apply below_drew1 | refine below_set ?_ GE293.out) | exact HB.out)) hb); clear BK293; clear HB; have BK293 := n0_; have HB := n1_; clear n0_ n1_; (try clear hb); (try clear hb2); (try clear hk); (try clear hi)))
  go_ret
  exact ⟨by first | rfl | (simp [errW_none, errW_some] <;> rfl) | (simp [*, errW_none, errW_some] <;> rfl), by repeat (first | (with_reducible first | exact HB.out | apply below_alloc | apply pw_below_drewN | apply below_drew1 | refine below_set ?_ GE293.out) | exact HB.out)⟩
 ·rw [if_neg c3] at H
  have c3b0 : decide (60 < (l0.length : Int)) = false := decide_eq_false c3
  have c3b1 : decide (60 < l0.length) = false := decide_eq_false (by omega)
  clear c3
  replace H := Option.bind_eq_some_iff.mp H
  obtain ⟨⟨t295, t296⟩, A70, H⟩ := H
  replace H : (if ([] : List (S39)).length + l0.length < 5864062014805 then ((some (([] : List (S39)) ++ l0 : List (S39))).bind fun y301 => (if y301.length < 5864062014805 then ((jobs_Whole.f (y301 ++ [(⟨(⟨a1_0, a1_1⟩ : S35), a1_2⟩ : S39)])).bind fun bt307 => ((clepsydralaw20_others.f k t295 a1_0).bind fun t313 => ((clepsydralaw20_plain.f k t313).bind fun t316 => ((clepsydralaw20_others.f k bt307.1 a1_0).bind fun t319 => ((clepsydralaw20_plain.f k t319).bind fun t322 => ((clepsydralaw20_same.f k t316 t322).bind fun t325 => (if t325 = true then ((clepsydralaw20_others.f k t295 a1_0).bind fun t326 => (if (wrap64 ((t295.length : Int) - (t326.length : Int))) > 1 then (clepsydralaw20_JobsMore.j0 k t296 bt307.2 true a1_0 a1_1 a1_2) else ((clepsydralaw20_others.f k bt307.1 a1_0).bind fun t329 => (clepsydralaw20_JobsMore.j0 k t296 bt307.2 (decide ((wrap64 ((bt307.1.length : Int) - (t329.length : Int))) > 1)) a1_0 a1_1 a1_2)))) else (clepsydralaw20_JobsMore.j0 k t296 bt307.2 true a1_0 a1_1 a1_2)))))))) else (none))) else (none)) = some r := H
  have A7 := Aside0.mk A70
  clear A70
  by_cases c8 : ([] : List (S39)).length + l0.length < 5864062014805
  ·rw [if_pos c8] at H
   have LMc8 := Aside0.mk c8
   clear c8
   obtain ⟨y301, hy301⟩ : ∃ y_ : List (S39), y_ = (([] : List (S39)) ++ l0) := ⟨_, rfl⟩
   replace H : (if y301.length < 5864062014805 then ((jobs_Whole.f (y301 ++ [(⟨(⟨a1_0, a1_1⟩ : S35), a1_2⟩ : S39)])).bind fun bt307 => ((clepsydralaw20_others.f k t295 a1_0).bind fun t313 => ((clepsydralaw20_plain.f k t313).bind fun t316 => ((clepsydralaw20_others.f k bt307.1 a1_0).bind fun t319 => ((clepsydralaw20_plain.f k t319).bind fun t322 => ((clepsydralaw20_same.f k t316 t322).bind fun t325 => (if t325 = true then ((clepsydralaw20_others.f k t295 a1_0).bind fun t326 => (if (wrap64 ((t295.length : Int) - (t326.length : Int))) > 1 then (clepsydralaw20_JobsMore.j0 k t296 bt307.2 true a1_0 a1_1 a1_2) else ((clepsydralaw20_others.f k bt307.1 a1_0).bind fun t329 => (clepsydralaw20_JobsMore.j0 k t296 bt307.2 (decide ((wrap64 ((bt307.1.length : Int) - (t329.length : Int))) > 1)) a1_0 a1_1 a1_2)))) else (clepsydralaw20_JobsMore.j0 k t296 bt307.2 true a1_0 a1_1 a1_2)))))))) else (none)) = some r := by first | (rw [hy301]; with_reducible exact H) | (have H2_ := (Option.bind_some _ _).symm.trans H; rw [hy301]; with_reducible exact H2_) | (have H2_ := (Option.bind_some _ _).symm.trans H; with_reducible exact H2_) | with_reducible exact H | (rw [hy301]; exact H) | exact H
   have Ny301 := Aside0.mk hy301
   clear hy301
   by_cases c9 : y301.length < 5864062014805
   ·rw [if_pos c9] at H
    have LMc9 := Aside0.mk c9
    clear c9
    obtain ⟨y304, hy304⟩ : ∃ y_ : List (S39), y_ = (y301 ++ [(⟨(⟨a1_0, a1_1⟩ : S35), a1_2⟩ : S39)]) := ⟨_, rfl⟩
    replace H : ((jobs_Whole.f y304).bind fun bt307 => ((clepsydralaw20_others.f k t295 a1_0).bind fun t313 => ((clepsydralaw20_plain.f k t313).bind fun t316 => ((clepsydralaw20_others.f k bt307.1 a1_0).bind fun t319 => ((clepsydralaw20_plain.f k t319).bind fun t322 => ((clepsydralaw20_same.f k t316 t322).bind fun t325 => (if t325 = true then ((clepsydralaw20_others.f k t295 a1_0).bind fun t326 => (if (wrap64 ((t295.length : Int) - (t326.length : Int))) > 1 then (clepsydralaw20_JobsMore.j0 k t296 bt307.2 true a1_0 a1_1 a1_2) else ((clepsydralaw20_others.f k bt307.1 a1_0).bind fun t329 => (clepsydralaw20_JobsMore.j0 k t296 bt307.2 (decide ((wrap64 ((bt307.1.length : Int) - (t329.length : Int))) > 1)) a1_0 a1_1 a1_2)))) else (clepsydralaw20_JobsMore.j0 k t296 bt307.2 true a1_0 a1_1 a1_2)))))))) = some r := by first | (rw [hy304]; with_reducible exact H) | (have H2_ := (Option.bind_some _ _).symm.trans H; rw [hy304]; with_reducible exact H2_) | (have H2_ := (Option.bind_some _ _).symm.trans H; with_reducible exact H2_) | with_reducible exact H | (rw [hy304]; exact H) | exact H
    have Ny304 := Aside0.mk hy304
    clear hy304
    replace H := Option.bind_eq_some_iff.mp H
    obtain ⟨⟨t307, t308⟩, A100, H⟩ := H
    replace H : ((clepsydralaw20_others.f k t295 a1_0).bind fun t313 => ((clepsydralaw20_plain.f k t313).bind fun t316 => ((clepsydralaw20_others.f k t307 a1_0).bind fun t319 => ((clepsydralaw20_plain.f k t319).bind fun t322 => ((clepsydralaw20_same.f k t316 t322).bind fun t325 => (if t325 = true then ((clepsydralaw20_others.f k t295 a1_0).bind fun t326 => (if (wrap64 ((t295.length : Int) - (t326.length : Int))) > 1 then (clepsydralaw20_JobsMore.j0 k t296 t308 true a1_0 a1_1 a1_2) else ((clepsydralaw20_others.f k t307 a1_0).bind fun t329 => (clepsydralaw20_JobsMore.j0 k t296 t308 (decide ((wrap64 ((t307.length : Int) - (t329.length : Int))) > 1)) a1_0 a1_1 a1_2)))) else (clepsydralaw20_JobsMore.j0 k t296 t308 true a1_0 a1_1 a1_2))))))) = some r := H
    have A10 := Aside0.mk A100
    clear A100
    have HC11 := Aside0.mk H
    clear H
    go_enter Try.func5, Try.ntmps5
    go_upto_region 7 with (first | ((with_reducible refine gate_dst (N := 3) rfl ?_); (try (refine gate_guard (by rfl) ?_; dsimp only)); refine box_event ?hg (N := 3) ?hd (cs := #[.int .i64 a1_0, .int .u8 a1_1, .bool a1_2]) (t := 39) ?hr ?_; (case hd => rfl); (case hg => rfl); (case hr => first | (go_simp; done) | (go_simp; rfl)); intro gb293 hg w12 hbox hb; have n0_ := BS HB hb; have n1_ := Aside0.mk (hbox); have n2_ := Aside0.mk ((by rw [hg]; exact (below_size (BD HB)) : w.heap.size ≤ gb293)); have n3_ := Aside0.mk ((by rw [hg]; exact (below_size (BD HB)) : w.heap.size ≤ gb293)); clear HB; have HB := n0_; have BK293 := n1_; have GW293 := n2_; have GE293 := n3_; clear n0_ n1_ n2_ n3_; clear hb hbox hg) | ((with_reducible refine gate_callee (f := 11) rfl ?_); refine goesL_ (some 20) rfl rfl Try.func11 (by kernel_rfl) rfl #[.slice A0 l0.length c0] rfl (by (try simp only [List.map_toArray, List.map_cons, List.map_nil]); first | done | rfl | (simp only [List.length_drop, List.length_take]; rfl)) ?_; (with_reducible refine (jobs_Whole.calls _ _ l0 t295 t296 _ ?side1 ?side2 A7.out).mono ?_); (case side1 => exact CD ((Kd.C_below HR0.out HB.out))); (case side2 => exact HC0.out); rintro e w13 ⟨v297, v299, rfl, ho0, ho1, hb⟩; refine ⟨_, rfl, ?_⟩; have n0_ := Aside0.mk (Kd.R_lower (Kd.R_newB ho0 (g := gb293) (o := .cells #[.int .i64 a1_0, .int .u8 a1_1, .bool a1_2] 39 (0, 0)) (by (with_reducible repeat (first | refine blk_drewN ?_ _ | refine blk_drew ?_ | refine blk_alloc ?_ _)); exact BK293.out)) (below_size (by repeat (first | (with_reducible first | exact HB.out | apply below_alloc | apply pw_below_drewN | apply below_drew1 | refine below_set ?_ GE293.out) | exact HB.out)))); have n1_ := Aside0.mk (Kd.R_lower ho1 (below_size (by repeat (first | (with_reducible first | exact HB.out | apply below_alloc | apply pw_below_drewN | apply below_drew1 | refine below_set ?_ GE293.out) | exact HB.out)))); have n2_ := Aside0.mk (blk_below (g := gb293) (o := .cells #[.int .i64 a1_0, .int .u8 a1_1, .bool a1_2] 39 (0, 0)) (by (with_reducible repeat (first | refine blk_drewN ?_ _ | refine blk_drew ?_ | refine blk_alloc ?_ _)); exact BK293.out) hb); have n3_ := Aside0.mk (below_step (by repeat (first | (with_reducible first | exact HB.out | apply below_alloc | apply pw_below_drewN | apply below_drew1 | refine below_set ?_ GE293.out) | exact HB.out)) hb); clear BK293; clear HB; have HO298 := n0_; have HO300 := n1_; have BK293 := n2_; have HB := n3_; clear n0_ n1_ n2_ n3_; (try clear hb); (try clear hb2); (try clear hk); (try clear hi); (try clear ho0); (try clear ho1)) | ((with_reducible refine gate_builtin (b := .append) (xs := #[.tmp 23, .tmp 24]) rfl ?_); (try (refine gate_guard (by rfl) ?_; dsimp only)); at_builtin; refine Kd.R_append_rows k39 (w0 := w) w.heap.size rfl (.tmp 23) (.tmp 24) 22 39 (.agg #[(.int .i64 0), (.int .u8 0), (.bool false)]) 24 rfl Try.underlying22 info39 rfl (by decide) (by omega) (.slice none 0 0) ([] : List (S39)) l0 _ _ _ (fun k_ => some k_ ≠ (v297 : Value).ownBlock ∧ k_ ≠ gb293) (fun _ => False) rfl rfl ?aO ?aR (fun _ _ h => h) (fun _ h => h.elim) ?aF ?aB ?aS ?aL ?_; (case aR => exact CD ((Kd.C_below HR0.out HB.out))); (case aB => exact (by repeat (first | (with_reducible first | exact HB.out | apply below_alloc | apply pw_below_drewN | apply below_drew1 | refine below_set ?_ GE293.out) | exact HB.out))); (case aF => exact (fun k_ hk => ⟨Kd.fresh' (Kd.R_lt (RD HO298)) k_ hk, Kd.freshB (g := gb293) (o := .cells #[.int .i64 a1_0, .int .u8 a1_1, .bool a1_2] 39 (0, 0)) (by (with_reducible repeat (first | refine blk_drewN ?_ _ | refine blk_drew ?_ | refine blk_alloc ?_ _)); exact BK293.out) k_ hk⟩)); (case aO => exact ((Kd.R_nil _ _ _ _ (fun k_ => some k_ ≠ (v297 : Value).ownBlock ∧ k_ ≠ gb293)))); (case aS => exact (below_size (by repeat (first | (with_reducible first | exact HB.out | apply below_alloc | apply pw_below_drewN | apply below_drew1 | refine below_set ?_ GE293.out) | exact HB.out)))); (case aL => have := LMc8.out; omega); intro v302 w14 ho hb hg hat; rw [← Ny301.out] at ho; have n0_ := Aside0.mk (blk_grown (g := gb293) (o := .cells #[.int .i64 a1_0, .int .u8 a1_1, .bool a1_2] 39 (0, 0)) (by (with_reducible repeat (first | refine blk_drewN ?_ _ | refine blk_drew ?_ | refine blk_alloc ?_ _)); exact BK293.out) hg (by simp [Value.ownBlock])); have n1_ := Aside0.mk (Kd.R_after (Kd.R_apart_nil (RD HO298)) hg hat); have n2_ := Aside0.mk (Kd.R_grown (RD HO300) hg (fun _ _ => by simp [Value.ownBlock])); have n3_ := Aside0.mk (hb); have n4_ := Aside0.mk (ho); clear BK293; clear HO298; clear HO300; clear HB; have BK293 := n0_; have HO298 := n1_; have HO300 := n2_; have HB := n3_; have HO303 := n4_; clear n0_ n1_ n2_ n3_ n4_; clear ho hb hg hat; have hcz15_0 : w14.cell? ⟨gb293, 0, none⟩ = some (.int .i64 a1_0) := (blk_cell BK293.out 0).trans rfl; have hcz15_1 : w14.cell? ⟨gb293, 1, none⟩ = some (.int .u8 a1_1) := (blk_cell BK293.out 1).trans rfl; have hcz15_2 : w14.cell? ⟨gb293, 2, none⟩ = some (.bool a1_2) := (blk_cell BK293.out 2).trans rfl; have hfz15_0 := blk_frozen BK293.out 0; have hfz15_1 := blk_frozen BK293.out 1; have hfz15_2 := blk_frozen BK293.out 2) | ((with_reducible refine gate_builtin (b := .append) (xs := #[.tmp 27, .tmp 29]) rfl ?_); (try (refine gate_guard (by rfl) ?_; dsimp only)); at_builtin; refine Kd.R_append k39 (w0 := w) w.heap.size rfl (.tmp 27) (.tmp 29) 22 39 (.agg #[(.int .i64 0), (.int .u8 0), (.bool false)]) 24 rfl Try.underlying22 info39 rfl (by decide) (by omega) v302 y301 (⟨(⟨a1_0, a1_1⟩ : S35), a1_2⟩ : S39) [.int .i64 a1_0, .int .u8 a1_1, .bool a1_2] (fun k_ => some k_ ≠ (v297 : Value).ownBlock ∧ k_ ≠ gb293) (fun _ => False) rfl rfl ?aP (fun _ hk => hk.elim) ?aF ?aO ?aB ?aS ?aL ?_; (case aP => exact k39_mkM _ _ _ (⟨(⟨a1_0, a1_1⟩ : S35), a1_2⟩ : S39)); (case aB => exact (by repeat (first | (with_reducible first | exact HB.out | apply below_alloc | apply pw_below_drewN | apply below_drew1 | refine below_set ?_ GE293.out) | exact HB.out))); (case aF => exact (fun k_ hk => ⟨Kd.fresh' (Kd.R_lt (RD HO298)) k_ hk, Kd.freshB (g := gb293) (o := .cells #[.int .i64 a1_0, .int .u8 a1_1, .bool a1_2] 39 (0, 0)) (by (with_reducible repeat (first | refine blk_drewN ?_ _ | refine blk_drew ?_ | refine blk_alloc ?_ _)); exact BK293.out) k_ hk⟩)); (case aO => exact (RD HO303)); (case aS => exact (below_size (by repeat (first | (with_reducible first | exact HB.out | apply below_alloc | apply pw_below_drewN | apply below_drew1 | refine below_set ?_ GE293.out) | exact HB.out)))); (case aL => have := LMc9.out; omega); intro v305 w16 ho hb hg hat; rw [← Ny304.out] at ho; have n0_ := Aside0.mk (blk_grown (g := gb293) (o := .cells #[.int .i64 a1_0, .int .u8 a1_1, .bool a1_2] 39 (0, 0)) (by (with_reducible repeat (first | refine blk_drewN ?_ _ | refine blk_drew ?_ | refine blk_alloc ?_ _)); exact BK293.out) hg (Kd.R_away HO303.out (fun _ hk => hk.2))); have n1_ := Aside0.mk (Kd.R_after (ok := (fun k_ => k_ ≠ gb293)) (by (with_reducible repeat (first | apply Kd.R_alloc | apply Kd.R_drewN | apply Kd.R_drew)); exact Kd.R_mono HO298.out (fun _ hk => ⟨hk.1.2, hk.2⟩)) hg hat); have n2_ := Aside0.mk (Kd.R_over' (RD HO300) (Kd.R_typed (RD HO303)) (by decide) hg); have n3_ := Aside0.mk (hb); have n4_ := Aside0.mk (ho); clear BK293; clear HO298; clear HO300; clear HB; clear HO303; have BK293 := n0_; have HO298 := n1_; have HO300 := n2_; have HB := n3_; have HO306 := n4_; clear n0_ n1_ n2_ n3_ n4_; clear ho hb hg hat; obtain ⟨Ao17, co17, eo17⟩ := Kd.R_slice HO306.out; subst eo17) | ((with_reducible refine gate_callee (f := 11) rfl ?_); refine goesL_ (some 31) rfl rfl Try.func11 (by kernel_rfl) rfl #[.slice Ao17 y304.length co17] rfl (by (try simp only [List.map_toArray, List.map_cons, List.map_nil]); first | done | rfl | (simp only [List.length_drop, List.length_take]; rfl)) ?_; (with_reducible refine (jobs_Whole.calls _ _ y304 t307 t308 _ ?side1 ?side2 A10.out).mono ?_); (case side1 => exact CD ((Kd.R_reads' HO306.out).2.2)); (case side2 => exact (Kd.R_reads' HO306.out).2.1); rintro e w18 ⟨v309, v311, rfl, ho0, ho1, hb⟩; refine ⟨_, rfl, ?_⟩; have n0_ := RE HO298 hb (Kd.R_base ho0); have n1_ := RE HO300 hb (Kd.R_base ho1); have n2_ := RE HO306 hb (Kd.R_base ho0); have n3_ := Aside0.mk (Kd.R_lower (Kd.R_newB (Kd.R_new' (Kd.R_new' ho0 (Kd.R_lt (RD HO298))) (Kd.R_lt (RD HO306))) (g := gb293) (o := .cells #[.int .i64 a1_0, .int .u8 a1_1, .bool a1_2] 39 (0, 0)) (by (with_reducible repeat (first | refine blk_drewN ?_ _ | refine blk_drew ?_ | refine blk_alloc ?_ _)); exact BK293.out)) (below_size (by repeat (first | (with_reducible first | exact HB.out | apply below_alloc | apply pw_below_drewN | apply below_drew1 | refine below_set ?_ GE293.out) | exact HB.out)))); have n4_ := Aside0.mk (Kd.R_lower (Kd.R_new' ho1 (Kd.R_lt (RD HO300))) (below_size (by repeat (first | (with_reducible first | exact HB.out | apply below_alloc | apply pw_below_drewN | apply below_drew1 | refine below_set ?_ GE293.out) | exact HB.out)))); have n5_ := Aside0.mk (blk_below (g := gb293) (o := .cells #[.int .i64 a1_0, .int .u8 a1_1, .bool a1_2] 39 (0, 0)) (by (with_reducible repeat (first | refine blk_drewN ?_ _ | refine blk_drew ?_ | refine blk_alloc ?_ _)); exact BK293.out) hb); have n6_ := Aside0.mk (below_step (by repeat (first | (with_reducible first | exact HB.out | apply below_alloc | apply pw_below_drewN | apply below_drew1 | refine below_set ?_ GE293.out) | exact HB.out)) hb); clear HO298; clear HO300; clear HO306; clear BK293; clear HB; have HO298 := n0_; have HO300 := n1_; have HO306 := n2_; have HO310 := n3_; have HO312 := n4_; have BK293 := n5_; have HB := n6_; clear n0_ n1_ n2_ n3_ n4_ n5_ n6_; (try clear hb); (try clear hb2); (try clear hk); (try clear hi); (try clear ho0); (try clear ho1)))
    (try simp only [Act.put, List.setIfInBounds_toArray, List.set_cons_zero, List.set_cons_succ])
    go_cut [71] (fun v71 wc => ∃ (kq : Nat) (x71_10 : Bool), v71 = .bool x71_10 ∧ Aside0 (clepsydralaw20_JobsMore.j0 kq t296 t308 x71_10 a1_0 a1_1 a1_2 = some r) ∧ Aside0 (kq ≤ k) ∧ Aside0 (Kd.R k35 35 wc w.heap.size (fun k_ => some k_ ≠ (v311 : Value).ownBlock) v299 t296) ∧ Aside0 (Kd.R k35 35 wc w.heap.size (fun k_ => some k_ ≠ (v299 : Value).ownBlock) v311 t308) ∧ Aside0 (wc.heap[gb293]? = some (.cells #[.int .i64 a1_0, .int .u8 a1_1, .bool a1_2] 39 (0, 0))) ∧ Aside0 (Below w.heap.size w wc))
    case first =>
     have H := HC11.out
     clear HC11
     replace H := Option.bind_eq_some_iff.mp H
     obtain ⟨t313, A190, H⟩ := H
     replace H : ((clepsydralaw20_plain.f k t313).bind fun t316 => ((clepsydralaw20_others.f k t307 a1_0).bind fun t319 => ((clepsydralaw20_plain.f k t319).bind fun t322 => ((clepsydralaw20_same.f k t316 t322).bind fun t325 => (if t325 = true then ((clepsydralaw20_others.f k t295 a1_0).bind fun t326 => (if (wrap64 ((t295.length : Int) - (t326.length : Int))) > 1 then (clepsydralaw20_JobsMore.j0 k t296 t308 true a1_0 a1_1 a1_2) else ((clepsydralaw20_others.f k t307 a1_0).bind fun t329 => (clepsydralaw20_JobsMore.j0 k t296 t308 (decide ((wrap64 ((t307.length : Int) - (t329.length : Int))) > 1)) a1_0 a1_1 a1_2)))) else (clepsydralaw20_JobsMore.j0 k t296 t308 true a1_0 a1_1 a1_2)))))) = some r := H
     have A19 := Aside0.mk A190
     clear A190
     replace H := Option.bind_eq_some_iff.mp H
     obtain ⟨t316, A200, H⟩ := H
     replace H : ((clepsydralaw20_others.f k t307 a1_0).bind fun t319 => ((clepsydralaw20_plain.f k t319).bind fun t322 => ((clepsydralaw20_same.f k t316 t322).bind fun t325 => (if t325 = true then ((clepsydralaw20_others.f k t295 a1_0).bind fun t326 => (if (wrap64 ((t295.length : Int) - (t326.length : Int))) > 1 then (clepsydralaw20_JobsMore.j0 k t296 t308 true a1_0 a1_1 a1_2) else ((clepsydralaw20_others.f k t307 a1_0).bind fun t329 => (clepsydralaw20_JobsMore.j0 k t296 t308 (decide ((wrap64 ((t307.length : Int) - (t329.length : Int))) > 1)) a1_0 a1_1 a1_2)))) else (clepsydralaw20_JobsMore.j0 k t296 t308 true a1_0 a1_1 a1_2))))) = some r := H
     have A20 := Aside0.mk A200
     clear A200
     replace H := Option.bind_eq_some_iff.mp H
     obtain ⟨t319, A210, H⟩ := H
     replace H : ((clepsydralaw20_plain.f k t319).bind fun t322 => ((clepsydralaw20_same.f k t316 t322).bind fun t325 => (if t325 = true then ((clepsydralaw20_others.f k t295 a1_0).bind fun t326 => (if (wrap64 ((t295.length : Int) - (t326.length : Int))) > 1 then (clepsydralaw20_JobsMore.j0 k t296 t308 true a1_0 a1_1 a1_2) else ((clepsydralaw20_others.f k t307 a1_0).bind fun t329 => (clepsydralaw20_JobsMore.j0 k t296 t308 (decide ((wrap64 ((t307.length : Int) - (t329.length : Int))) > 1)) a1_0 a1_1 a1_2)))) else (clepsydralaw20_JobsMore.j0 k t296 t308 true a1_0 a1_1 a1_2)))) = some r := H
     have A21 := Aside0.mk A210
     clear A210
     replace H := Option.bind_eq_some_iff.mp H
     obtain ⟨t322, A220, H⟩ := H
     replace H : ((clepsydralaw20_same.f k t316 t322).bind fun t325 => (if t325 = true then ((clepsydralaw20_others.f k t295 a1_0).bind fun t326 => (if (wrap64 ((t295.length : Int) - (t326.length : Int))) > 1 then (clepsydralaw20_JobsMore.j0 k t296 t308 true a1_0 a1_1 a1_2) else ((clepsydralaw20_others.f k t307 a1_0).bind fun t329 => (clepsydralaw20_JobsMore.j0 k t296 t308 (decide ((wrap64 ((t307.length : Int) - (t329.length : Int))) > 1)) a1_0 a1_1 a1_2)))) else (clepsydralaw20_JobsMore.j0 k t296 t308 true a1_0 a1_1 a1_2))) = some r := H
     have A22 := Aside0.mk A220
     clear A220
     replace H := Option.bind_eq_some_iff.mp H
     obtain ⟨t325, A230, H⟩ := H
     replace H : (if t325 = true then ((clepsydralaw20_others.f k t295 a1_0).bind fun t326 => (if (wrap64 ((t295.length : Int) - (t326.length : Int))) > 1 then (clepsydralaw20_JobsMore.j0 k t296 t308 true a1_0 a1_1 a1_2) else ((clepsydralaw20_others.f k t307 a1_0).bind fun t329 => (clepsydralaw20_JobsMore.j0 k t296 t308 (decide ((wrap64 ((t307.length : Int) - (t329.length : Int))) > 1)) a1_0 a1_1 a1_2)))) else (clepsydralaw20_JobsMore.j0 k t296 t308 true a1_0 a1_1 a1_2)) = some r := H
     have A23 := Aside0.mk A230
     clear A230
     by_cases c24 : t325 = true
     ·subst c24
      have H1 : ((clepsydralaw20_others.f k t295 a1_0).bind fun t326 => (if (wrap64 ((t295.length : Int) - (t326.length : Int))) > 1 then (clepsydralaw20_JobsMore.j0 k t296 t308 true a1_0 a1_1 a1_2) else ((clepsydralaw20_others.f k t307 a1_0).bind fun t329 => (clepsydralaw20_JobsMore.j0 k t296 t308 (decide ((wrap64 ((t307.length : Int) - (t329.length : Int))) > 1)) a1_0 a1_1 a1_2)))) = some r := by rw [if_pos rfl] at H; exact H
      clear H
      have H := H1
      clear H1
      replace H := Option.bind_eq_some_iff.mp H
      obtain ⟨t326, A250, H⟩ := H
      replace H : (if (wrap64 ((t295.length : Int) - (t326.length : Int))) > 1 then (clepsydralaw20_JobsMore.j0 k t296 t308 true a1_0 a1_1 a1_2) else ((clepsydralaw20_others.f k t307 a1_0).bind fun t329 => (clepsydralaw20_JobsMore.j0 k t296 t308 (decide ((wrap64 ((t307.length : Int) - (t329.length : Int))) > 1)) a1_0 a1_1 a1_2))) = some r := H
      have A25 := Aside0.mk A250
      clear A250
      by_cases c26 : (wrap64 ((t295.length : Int) - (t326.length : Int))) > 1
      ·rw [if_pos c26] at H
       have c26b0 : decide (1 < (wrap64 ((t295.length : Int) - (t326.length : Int)))) = true := decide_eq_true c26
       clear c26
       (first | rw [c26b0] | (simp only [i64_w, i32_w]; rw [c26b0]) | skip)
       have H' := Aside0.mk H
       clear H
       try go_wp2
       have n0_ := Aside0.mk (Kd.R_drew HO298.out)
       have n1_ := Aside0.mk (Kd.R_drew HO300.out)
       have n2_ := Aside0.mk (Kd.R_drew HO306.out)
       have n3_ := Aside0.mk (Kd.R_drew HO310.out)
       have n4_ := Aside0.mk (Kd.R_drew HO312.out)
       have n5_ := Aside0.mk (blk_drew BK293.out)
       have n6_ := Aside0.mk (below_drew1 HB.out)
       clear HO298
       clear HO300
       clear HO306
       clear HO310
       clear HO312
       clear BK293
       clear HB
       have HO298 := n0_
       have HO300 := n1_
       have HO306 := n2_
       have HO310 := n3_
       have HO312 := n4_
       have BK293 := n5_
       have HB := n6_
       clear n0_ n1_ n2_ n3_ n4_ n5_ n6_
       obtain ⟨Ao28, co28, eo28⟩ := Kd.R_slice HO298.out
       (first | subst eo28 | (injection eo28 with f1_ f2_ f3_; have f4_ := f1_.symm; have f5_ := f3_.symm; clear f1_ f2_ f3_; subst f4_; subst f5_))
       refine start_ (n := 38) (S := fun w' => w'.cell? ⟨gb293, 0, none⟩ = some (.int .i64 a1_0) ∧ w'.cell? ⟨gb293, 1, none⟩ = some (.int .u8 a1_1) ∧ w'.cell? ⟨gb293, 2, none⟩ = some (.bool a1_2)) (ds := []) u10_0 (by kernel_rfl) rfl rfl ⟨(blk_cell BK293.out 0).trans rfl, (blk_cell BK293.out 1).trans rfl, (blk_cell BK293.out 2).trans rfl⟩ (fun hHeld => ?_); refine with_tabW clepsydralaw20_JobsMore.tab7 clepsydralaw20_JobsMore.bits7 (fun HT_ HW_ => ?_)
       generalize w18.drew = w27 at HO298 HO300 HO306 HO310 HO312 BK293 HB hHeld ⊢
       refine pure_ (i := 0) (N := some 34) (v := ?_) (a' := ?_) u10_1 rfl rfl (any_of HT_.out (by kernel_rfl)) (fun _ _ _ h => h) (Or.inl ⟨by rfl, ?_⟩) ?_ ?_
       rotate_left
       ·intro w'
        go_simp
        with_reducible rfl
       rotate_left
       ·simp only [Act.put, s0_, s1_, s2_, i64_w, i32_w]
        rfl
       refine pure_ (i := 1) (N := some 35) (v := ?_) (a' := ?_) u10_2 rfl rfl (any_of HT_.out (by kernel_rfl)) (fun _ _ _ h => h) (Or.inl ⟨by rfl, ?_⟩) ?_ ?_
       rotate_left
       ·intro w'
        go_simp
        with_reducible rfl
       rotate_left
       ·simp only [Act.put, s0_, s1_, s2_, i64_w, i32_w]
        rfl
       refine pure_ (i := 2) (N := some 36) (v := ?_) (a' := ?_) u10_3 rfl rfl (any_of HT_.out (by kernel_rfl)) (fun _ _ _ h => h) (Or.inl ⟨by rfl, ?_⟩) ?_ ?_
       rotate_left
       ·intro w'
        go_simp
        with_reducible rfl
       rotate_left
       ·simp only [Act.put, s0_, s1_, s2_, i64_w, i32_w]
        rfl
       refine pure_ (i := 6) (N := some 40) (v := ?_) (a' := ?_) u10_4 rfl rfl (any_of HT_.out (by kernel_rfl)) (fun _ _ _ h => h) (Or.inl ⟨by rfl, ?_⟩) ?_ ?_
       rotate_left
       ·intro w'
        go_simp
        with_reducible rfl
       rotate_left
       ·simp only [Act.put, s0_, s1_, s2_, i64_w, i32_w]
        rfl
       refine pure_ (i := 7) (N := some 41) (v := ?_) (a' := ?_) u10_5 rfl rfl (any_of HT_.out (by kernel_rfl)) (fun _ _ _ h => h) (Or.inl ⟨by rfl, ?_⟩) ?_ ?_
       rotate_left
       ·intro w'
        go_simp
        with_reducible rfl
       rotate_left
       ·simp only [Act.put, s0_, s1_, s2_, i64_w, i32_w]
        rfl
       refine pure_ (i := 8) (N := some 42) (v := ?_) (a' := ?_) u10_6 rfl rfl (any_of HT_.out (by kernel_rfl)) (fun _ _ _ h => h) (Or.inl ⟨by rfl, ?_⟩) ?_ ?_
       rotate_left
       ·intro w'
        go_simp
        with_reducible rfl
       rotate_left
       ·simp only [Act.put, s0_, s1_, s2_, i64_w, i32_w]
        rfl
       refine take_ (i := 3) (N := some 37) (v := ?_) (a' := ?_) u10_7 rfl rfl (take_ofW HT_.out HW_.out (by kernel_rfl)) (fun _ _ _ h => h) (Or.inl ⟨by rfl, ?_⟩) hHeld ?_ ?_
       rotate_left
       ·rintro w' ⟨s0, s1, s2⟩
        go_simp
        with_reducible rfl
       rotate_left
       ·simp only [Act.put, s0_, s1_, s2_, i64_w, i32_w]
        rfl
       refine take_ (i := 9) (N := some 43) (v := ?_) (a' := ?_) u10_8 rfl rfl (take_ofW HT_.out HW_.out (by kernel_rfl)) (fun _ _ _ h => h) (Or.inl ⟨by rfl, ?_⟩) hHeld ?_ ?_
       rotate_left
       ·rintro w' ⟨s0, s1, s2⟩
        go_simp
        with_reducible rfl
       rotate_left
       ·simp only [Act.put, s0_, s1_, s2_, i64_w, i32_w]
        rfl
       refine one_ (i := 4) (N := some 38) u10_9 rfl rfl (one_of HT_.out (by kernel_rfl)) (by decide) (fun K hK => ?_)
       refine goes_ Try.func17 (by kernel_rfl) rfl #[.slice Ao28 t295.length co28, .int .i64 a1_0] (by rfl) rfl rfl (by (try simp only [List.map_toArray, List.map_cons, List.map_nil]); first | done | rfl | (simp only [List.length_drop, List.length_take]; rfl)) ?_
       with_reducible refine (clepsydralaw20_others.calls k _ _ t295 a1_0 t313 _ ?side1 ?side2 A19.out).mono ?_
       (case side1 => exact CD ((Kd.R_reads' HO298.out).2.2))
       (case side2 => exact (Kd.R_reads' HO298.out).2.1)
       rintro e w29 ⟨v314, rfl, ho0, hb⟩
       refine ⟨_, rfl, ?_⟩
       have n0_ := RE HO298 hb (Kd.R_base ho0)
       have n1_ := RB HO300 hb
       have n2_ := RE HO306 hb (Kd.R_base ho0)
       have n3_ := RE HO310 hb (Kd.R_base ho0)
       have n4_ := RB HO312 hb
       have n5_ := Aside0.mk (Kd.R_lower (Kd.R_newB (Kd.R_new' (Kd.R_new' (Kd.R_new' ho0 (Kd.R_lt (RD HO298))) (Kd.R_lt (RD HO306))) (Kd.R_lt (RD HO310))) (g := gb293) (o := .cells #[.int .i64 a1_0, .int .u8 a1_1, .bool a1_2] 39 (0, 0)) (by (with_reducible repeat (first | refine blk_drewN ?_ _ | refine blk_drew ?_ | refine blk_alloc ?_ _)); exact BK293.out)) (below_size (by repeat (first | (with_reducible first | exact HB.out | apply below_alloc | apply pw_below_drewN | apply below_drew1 | refine below_set ?_ GE293.out) | exact HB.out))))
       have n6_ := Aside0.mk (blk_below (g := gb293) (o := .cells #[.int .i64 a1_0, .int .u8 a1_1, .bool a1_2] 39 (0, 0)) (by (with_reducible repeat (first | refine blk_drewN ?_ _ | refine blk_drew ?_ | refine blk_alloc ?_ _)); exact BK293.out) hb)
       have n7_ := Aside0.mk (below_step (by repeat (first | (with_reducible first | exact HB.out | apply below_alloc | apply pw_below_drewN | apply below_drew1 | refine below_set ?_ GE293.out) | exact HB.out)) hb)
       clear HO298
       clear HO300
       clear HO306
       clear HO310
       clear HO312
       clear BK293
       clear HB
       have HO298 := n0_
       have HO300 := n1_
       have HO306 := n2_
       have HO310 := n3_
       have HO312 := n4_
       have HO315 := n5_
       have BK293 := n6_
       have HB := n7_
       clear n0_ n1_ n2_ n3_ n4_ n5_ n6_ n7_
       (try clear hb)
       (try clear hb2)
       (try clear hk)
       (try clear hi)
       (try clear ho0)
       obtain ⟨Ao30, co30, eo30⟩ := Kd.R_slice HO315.out
       (first | subst eo30 | (injection eo30 with f1_ f2_ f3_; have f4_ := f1_.symm; have f5_ := f3_.symm; clear f1_ f2_ f3_; subst f4_; subst f5_))
       refine hK.out _ _ ⟨(blk_cell BK293.out 0).trans rfl, (blk_cell BK293.out 1).trans rfl, (blk_cell BK293.out 2).trans rfl⟩ (fun hHeld => ?_)
       clear hK K
       refine norm_ (a' := ?_) ?_ ?_
       rotate_left
       ·show Act.put _ (some 38) _ = _
        simp only [Act.put, s0_, s1_, s2_, i64_w, i32_w]
        rfl
       refine one_ (i := 5) (N := some 39) u10_10 rfl rfl (one_of HT_.out (by kernel_rfl)) (by decide) (fun K hK => ?_)
       refine goes_ Try.func9 (by kernel_rfl) rfl #[.slice Ao30 t313.length co30] (by rfl) rfl rfl (by (try simp only [List.map_toArray, List.map_cons, List.map_nil]); first | done | rfl | (simp only [List.length_drop, List.length_take]; rfl)) ?_
       with_reducible refine (clepsydralaw20_plain.calls k _ _ t313 t316 _ ?side1 ?side2 A20.out).mono ?_
       (case side1 => exact CD ((Kd.R_reads' HO315.out).2.2))
       (case side2 => exact (Kd.R_reads' HO315.out).2.1)
       rintro e w31 ⟨v317, rfl, ho0, hb⟩
       refine ⟨_, rfl, ?_⟩
       have n0_ := RB HO298 hb
       have n1_ := RB HO300 hb
       have n2_ := RB HO306 hb
       have n3_ := RB HO310 hb
       have n4_ := RB HO312 hb
       have n5_ := RB HO315 hb
       have n6_ := Aside0.mk (Kd.R_lower ho0 (below_size (by repeat (first | (with_reducible first | exact HB.out | apply below_alloc | apply pw_below_drewN | apply below_drew1 | refine below_set ?_ GE293.out) | exact HB.out))))
       have n7_ := Aside0.mk (blk_below (g := gb293) (o := .cells #[.int .i64 a1_0, .int .u8 a1_1, .bool a1_2] 39 (0, 0)) (by (with_reducible repeat (first | refine blk_drewN ?_ _ | refine blk_drew ?_ | refine blk_alloc ?_ _)); exact BK293.out) hb)
       have n8_ := Aside0.mk (below_step (by repeat (first | (with_reducible first | exact HB.out | apply below_alloc | apply pw_below_drewN | apply below_drew1 | refine below_set ?_ GE293.out) | exact HB.out)) hb)
       clear HO298
       clear HO300
       clear HO306
       clear HO310
       clear HO312
       clear HO315
       clear BK293
       clear HB
       have HO298 := n0_
       have HO300 := n1_
       have HO306 := n2_
       have HO310 := n3_
       have HO312 := n4_
       have HO315 := n5_
       have HO318 := n6_
       have BK293 := n7_
       have HB := n8_
       clear n0_ n1_ n2_ n3_ n4_ n5_ n6_ n7_ n8_
       (try clear hb)
       (try clear hb2)
       (try clear hk)
       (try clear hi)
       (try clear ho0)
       obtain ⟨Ao32, co32, eo32⟩ := Kd.R_slice HO310.out
       (first | subst eo32 | (injection eo32 with f1_ f2_ f3_; have f4_ := f1_.symm; have f5_ := f3_.symm; clear f1_ f2_ f3_; subst f4_; subst f5_))
       refine hK.out _ _ ⟨(blk_cell BK293.out 0).trans rfl, (blk_cell BK293.out 1).trans rfl, (blk_cell BK293.out 2).trans rfl⟩ (fun hHeld => ?_)
       clear hK K
       refine norm_ (a' := ?_) ?_ ?_
       rotate_left
       ·show Act.put _ (some 39) _ = _
        simp only [Act.put, s0_, s1_, s2_, i64_w, i32_w]
        rfl
       refine one_ (i := 10) (N := some 44) u10_11 rfl rfl (one_of HT_.out (by kernel_rfl)) (by decide) (fun K hK => ?_)
       refine goes_ Try.func17 (by kernel_rfl) rfl #[.slice Ao32 t307.length co32, .int .i64 a1_0] (by rfl) rfl rfl (by (try simp only [List.map_toArray, List.map_cons, List.map_nil]); first | done | rfl | (simp only [List.length_drop, List.length_take]; rfl)) ?_
       with_reducible refine (clepsydralaw20_others.calls k _ _ t307 a1_0 t319 _ ?side1 ?side2 A21.out).mono ?_
       (case side1 => exact CD ((Kd.R_reads' HO310.out).2.2))
       (case side2 => exact (Kd.R_reads' HO310.out).2.1)
       rintro e w33 ⟨v320, rfl, ho0, hb⟩
       refine ⟨_, rfl, ?_⟩
       have n0_ := RE HO298 hb (Kd.R_base ho0)
       have n1_ := RB HO300 hb
       have n2_ := RE HO306 hb (Kd.R_base ho0)
       have n3_ := RE HO310 hb (Kd.R_base ho0)
       have n4_ := RB HO312 hb
       have n5_ := RE HO315 hb (Kd.R_base ho0)
       have n6_ := RB HO318 hb
       have n7_ := Aside0.mk (Kd.R_lower (Kd.R_newB (Kd.R_new' (Kd.R_new' (Kd.R_new' (Kd.R_new' ho0 (Kd.R_lt (RD HO298))) (Kd.R_lt (RD HO306))) (Kd.R_lt (RD HO310))) (Kd.R_lt (RD HO315))) (g := gb293) (o := .cells #[.int .i64 a1_0, .int .u8 a1_1, .bool a1_2] 39 (0, 0)) (by (with_reducible repeat (first | refine blk_drewN ?_ _ | refine blk_drew ?_ | refine blk_alloc ?_ _)); exact BK293.out)) (below_size (by repeat (first | (with_reducible first | exact HB.out | apply below_alloc | apply pw_below_drewN | apply below_drew1 | refine below_set ?_ GE293.out) | exact HB.out))))
       have n8_ := Aside0.mk (blk_below (g := gb293) (o := .cells #[.int .i64 a1_0, .int .u8 a1_1, .bool a1_2] 39 (0, 0)) (by (with_reducible repeat (first | refine blk_drewN ?_ _ | refine blk_drew ?_ | refine blk_alloc ?_ _)); exact BK293.out) hb)
       have n9_ := Aside0.mk (below_step (by repeat (first | (with_reducible first | exact HB.out | apply below_alloc | apply pw_below_drewN | apply below_drew1 | refine below_set ?_ GE293.out) | exact HB.out)) hb)
       clear HO298
       clear HO300
       clear HO306
       clear HO310
       clear HO312
       clear HO315
       clear HO318
       clear BK293
       clear HB
       have HO298 := n0_
       have HO300 := n1_
       have HO306 := n2_
       have HO310 := n3_
       have HO312 := n4_
       have HO315 := n5_
       have HO318 := n6_
       have HO321 := n7_
       have BK293 := n8_
       have HB := n9_
       clear n0_ n1_ n2_ n3_ n4_ n5_ n6_ n7_ n8_ n9_
       (try clear hb)
       (try clear hb2)
       (try clear hk)
       (try clear hi)
       (try clear ho0)
       obtain ⟨Ao34, co34, eo34⟩ := Kd.R_slice HO321.out
       (first | subst eo34 | (injection eo34 with f1_ f2_ f3_; have f4_ := f1_.symm; have f5_ := f3_.symm; clear f1_ f2_ f3_; subst f4_; subst f5_))
       refine hK.out _ _ ⟨(blk_cell BK293.out 0).trans rfl, (blk_cell BK293.out 1).trans rfl, (blk_cell BK293.out 2).trans rfl⟩ (fun hHeld => ?_)
       clear hK K
       refine norm_ (a' := ?_) ?_ ?_
       rotate_left
       ·show Act.put _ (some 44) _ = _
        simp only [Act.put, s0_, s1_, s2_, i64_w, i32_w]
        rfl
       refine one_ (i := 11) (N := some 45) u10_12 rfl rfl (one_of HT_.out (by kernel_rfl)) (by decide) (fun K hK => ?_)
       refine goes_ Try.func9 (by kernel_rfl) rfl #[.slice Ao34 t319.length co34] (by rfl) rfl rfl (by (try simp only [List.map_toArray, List.map_cons, List.map_nil]); first | done | rfl | (simp only [List.length_drop, List.length_take]; rfl)) ?_
       with_reducible refine (clepsydralaw20_plain.calls k _ _ t319 t322 _ ?side1 ?side2 A22.out).mono ?_
       (case side1 => exact CD ((Kd.R_reads' HO321.out).2.2))
       (case side2 => exact (Kd.R_reads' HO321.out).2.1)
       rintro e w35 ⟨v323, rfl, ho0, hb⟩
       refine ⟨_, rfl, ?_⟩
       have n0_ := RB HO298 hb
       have n1_ := RB HO300 hb
       have n2_ := RB HO306 hb
       have n3_ := RB HO310 hb
       have n4_ := RB HO312 hb
       have n5_ := RB HO315 hb
       have n6_ := RE HO318 hb (Kd.R_base ho0)
       have n7_ := RB HO321 hb
       have n8_ := Aside0.mk (Kd.R_lower (Kd.R_new' ho0 (Kd.R_lt (RD HO318))) (below_size (by repeat (first | (with_reducible first | exact HB.out | apply below_alloc | apply pw_below_drewN | apply below_drew1 | refine below_set ?_ GE293.out) | exact HB.out))))
       have n9_ := Aside0.mk (blk_below (g := gb293) (o := .cells #[.int .i64 a1_0, .int .u8 a1_1, .bool a1_2] 39 (0, 0)) (by (with_reducible repeat (first | refine blk_drewN ?_ _ | refine blk_drew ?_ | refine blk_alloc ?_ _)); exact BK293.out) hb)
       have n10_ := Aside0.mk (below_step (by repeat (first | (with_reducible first | exact HB.out | apply below_alloc | apply pw_below_drewN | apply below_drew1 | refine below_set ?_ GE293.out) | exact HB.out)) hb)
       clear HO298
       clear HO300
       clear HO306
       clear HO310
       clear HO312
       clear HO315
       clear HO318
       clear HO321
       clear BK293
       clear HB
       have HO298 := n0_
       have HO300 := n1_
       have HO306 := n2_
       have HO310 := n3_
       have HO312 := n4_
       have HO315 := n5_
       have HO318 := n6_
       have HO321 := n7_
       have HO324 := n8_
       have BK293 := n9_
       have HB := n10_
       clear n0_ n1_ n2_ n3_ n4_ n5_ n6_ n7_ n8_ n9_ n10_
       (try clear hb)
       (try clear hb2)
       (try clear hk)
       (try clear hi)
       (try clear ho0)
       obtain ⟨Ao36, co36, eo36⟩ := Kd.R_slice HO318.out
       (first | subst eo36 | (injection eo36 with f1_ f2_ f3_; have f4_ := f1_.symm; have f5_ := f3_.symm; clear f1_ f2_ f3_; subst f4_; subst f5_))
       obtain ⟨Ao37, co37, eo37⟩ := Kd.R_slice HO324.out
       (first | subst eo37 | (injection eo37 with f1_ f2_ f3_; have f4_ := f1_.symm; have f5_ := f3_.symm; clear f1_ f2_ f3_; subst f4_; subst f5_))
       refine hK.out _ _ ⟨(blk_cell BK293.out 0).trans rfl, (blk_cell BK293.out 1).trans rfl, (blk_cell BK293.out 2).trans rfl⟩ (fun hHeld => ?_)
       clear hK K
       refine norm_ (a' := ?_) ?_ ?_
       rotate_left
       ·show Act.put _ (some 45) _ = _
        simp only [Act.put, s0_, s1_, s2_, i64_w, i32_w]
        rfl
       refine one_ (i := 12) (N := some 46) u10_13 rfl rfl (one_of HT_.out (by kernel_rfl)) (by decide) (fun K hK => ?_)
       refine goes_ Try.func13 (by kernel_rfl) rfl #[.slice Ao36 t316.length co36, .slice Ao37 t322.length co37] (by rfl) rfl rfl (by (try simp only [List.map_toArray, List.map_cons, List.map_nil]); first | done | rfl | (simp only [List.length_drop, List.length_take]; rfl)) ?_
       with_reducible refine (clepsydralaw20_same.calls k _ _ t316 _ _ t322 true _ ?side1 ?side2 ?side3 ?side4 A23.out).mono ?_
       (case side1 => exact CD ((Kd.R_reads' HO318.out).2.2))
       (case side2 => exact (Kd.R_reads' HO318.out).2.1)
       (case side3 => exact CD ((Kd.R_reads' HO324.out).2.2))
       (case side4 => exact (Kd.R_reads' HO324.out).2.1)
       rintro e w' ⟨rfl, ⟨nd, rfl⟩⟩
       refine ⟨_, rfl, ?_⟩
       refine hK.out _ _ ⟨(blk_cell BK293.out 0).trans rfl, (blk_cell BK293.out 1).trans rfl, (blk_cell BK293.out 2).trans rfl⟩ (fun hHeld => ?_)
       clear hK K
       refine norm_ (a' := ?_) ?_ ?_
       rotate_left
       ·show Act.put _ (some 46) _ = _
        simp only [Act.put, s0_, s1_, s2_, i64_w, i32_w]
        rfl
       refine pure_ (i := 13) (N := some 47) (v := ?_) (a' := ?_) u10_14 rfl rfl (any_of HT_.out (by kernel_rfl)) (fun _ _ _ h => h) (Or.inl ⟨by rfl, ?_⟩) ?_ ?_
       rotate_left
       ·intro w'
        go_simp
        with_reducible rfl
       rotate_left
       ·simp only [Act.put, s0_, s1_, s2_, i64_w, i32_w]
        rfl
       refine pure_ (i := 14) (N := some 48) (v := ?_) (a' := ?_) u10_15 rfl rfl (any_of HT_.out (by kernel_rfl)) (fun _ _ _ h => h) (Or.inl ⟨by rfl, ?_⟩) ?_ ?_
       rotate_left
       ·intro w'
        go_simp
        with_reducible rfl
       rotate_left
       ·simp only [Act.put, s0_, s1_, s2_, i64_w, i32_w]
        rfl
       refine pure_ (i := 15) (N := some 49) (v := ?_) (a' := ?_) u10_16 rfl rfl (any_of HT_.out (by kernel_rfl)) (fun _ _ _ h => h) (Or.inl ⟨by rfl, ?_⟩) ?_ ?_
       rotate_left
       ·intro w'
        go_simp
        with_reducible rfl
       rotate_left
       ·simp only [Act.put, s0_, s1_, s2_, i64_w, i32_w]
        rfl
       refine pure_ (i := 16) (N := some 50) (v := ?_) (a' := ?_) u10_17 rfl rfl (any_of HT_.out (by kernel_rfl)) (fun _ _ _ h => h) (Or.inl ⟨by rfl, ?_⟩) ?_ ?_
       rotate_left
       ·intro w'
        go_simp
        with_reducible rfl
       rotate_left
       ·simp only [Act.put, s0_, s1_, s2_, i64_w, i32_w]
        rfl
       refine pure_ (i := 17) (N := some 51) (v := ?_) (a' := ?_) u10_18 rfl rfl (any_of HT_.out (by kernel_rfl)) (fun _ _ _ h => h) (Or.inl ⟨by rfl, ?_⟩) ?_ ?_
       rotate_left
       ·intro w'
        go_simp
        with_reducible rfl
       rotate_left
       ·simp only [Act.put, s0_, s1_, s2_, i64_w, i32_w]
        rfl
       refine pure_ (i := 18) (N := some 52) (v := ?_) (a' := ?_) u10_19 rfl rfl (any_of HT_.out (by kernel_rfl)) (fun _ _ _ h => h) (Or.inl ⟨by rfl, ?_⟩) ?_ ?_
       rotate_left
       ·intro w'
        go_simp
        with_reducible rfl
       rotate_left
       ·simp only [Act.put, s0_, s1_, s2_, i64_w, i32_w]
        rfl
       refine pure_ (i := 19) (N := some 53) (v := ?_) (a' := ?_) u10_20 rfl rfl (any_of HT_.out (by kernel_rfl)) (fun _ _ _ h => h) (Or.inl ⟨by rfl, ?_⟩) ?_ ?_
       rotate_left
       ·intro w'
        go_simp
        with_reducible rfl
       rotate_left
       ·simp only [Act.put, s0_, s1_, s2_, i64_w, i32_w]
        rfl
       refine take_ (i := 20) (N := some 54) (v := ?_) (a' := ?_) u10_21 rfl rfl (take_ofW HT_.out HW_.out (by kernel_rfl)) (fun _ _ _ h => h) (Or.inl ⟨by rfl, ?_⟩) hHeld ?_ ?_
       rotate_left
       ·rintro w' ⟨s0, s1, s2⟩
        go_simp
        with_reducible rfl
       rotate_left
       ·simp only [Act.put, s0_, s1_, s2_, i64_w, i32_w]
        rfl
       refine one_ (i := 21) (N := some 55) u10_22 rfl rfl (one_of HT_.out (by kernel_rfl)) (by decide) (fun K hK => ?_)
       refine goes_ Try.func17 (by kernel_rfl) rfl #[.slice Ao28 t295.length co28, .int .i64 a1_0] (by rfl) rfl rfl (by (try simp only [List.map_toArray, List.map_cons, List.map_nil]); first | done | rfl | (simp only [List.length_drop, List.length_take]; rfl)) ?_
       with_reducible refine (clepsydralaw20_others.calls k _ _ t295 a1_0 t326 _ ?side1 ?side2 A25.out).mono ?_
       (case side1 => exact CD ((Kd.R_reads' HO298.out).2.2))
       (case side2 => exact (Kd.R_reads' HO298.out).2.1)
       rintro e w38 ⟨v327, rfl, ho0, hb⟩
       refine ⟨_, rfl, ?_⟩
       have n0_ := RE HO298 hb (Kd.R_base ho0)
       have n1_ := RB HO300 hb
       have n2_ := RE HO306 hb (Kd.R_base ho0)
       have n3_ := RE HO310 hb (Kd.R_base ho0)
       have n4_ := RB HO312 hb
       have n5_ := RE HO315 hb (Kd.R_base ho0)
       have n6_ := RB HO318 hb
       have n7_ := RE HO321 hb (Kd.R_base ho0)
       have n8_ := RB HO324 hb
       have n9_ := Aside0.mk (Kd.R_lower (Kd.R_newB (Kd.R_new' (Kd.R_new' (Kd.R_new' (Kd.R_new' (Kd.R_new' ho0 (Kd.R_lt (RD HO298))) (Kd.R_lt (RD HO306))) (Kd.R_lt (RD HO310))) (Kd.R_lt (RD HO315))) (Kd.R_lt (RD HO321))) (g := gb293) (o := .cells #[.int .i64 a1_0, .int .u8 a1_1, .bool a1_2] 39 (0, 0)) (by (with_reducible repeat (first | refine blk_drewN ?_ _ | refine blk_drew ?_ | refine blk_alloc ?_ _)); exact BK293.out)) (below_size (by repeat (first | (with_reducible first | exact HB.out | apply below_alloc | apply pw_below_drewN | apply below_drew1 | refine below_set ?_ GE293.out) | exact HB.out))))
       have n10_ := Aside0.mk (blk_below (g := gb293) (o := .cells #[.int .i64 a1_0, .int .u8 a1_1, .bool a1_2] 39 (0, 0)) (by (with_reducible repeat (first | refine blk_drewN ?_ _ | refine blk_drew ?_ | refine blk_alloc ?_ _)); exact BK293.out) hb)
       have n11_ := Aside0.mk (below_step (by repeat (first | (with_reducible first | exact HB.out | apply below_alloc | apply pw_below_drewN | apply below_drew1 | refine below_set ?_ GE293.out) | exact HB.out)) hb)
       clear HO298
       clear HO300
       clear HO306
       clear HO310
       clear HO312
       clear HO315
       clear HO318
       clear HO321
       clear HO324
       clear BK293
       clear HB
       have HO298 := n0_
       have HO300 := n1_
       have HO306 := n2_
       have HO310 := n3_
       have HO312 := n4_
       have HO315 := n5_
       have HO318 := n6_
       have HO321 := n7_
       have HO324 := n8_
       have HO328 := n9_
       have BK293 := n10_
       have HB := n11_
       clear n0_ n1_ n2_ n3_ n4_ n5_ n6_ n7_ n8_ n9_ n10_ n11_
       (try clear hb)
       (try clear hb2)
       (try clear hk)
       (try clear hi)
       (try clear ho0)
       obtain ⟨Ao39, co39, eo39⟩ := Kd.R_slice HO328.out
       (first | subst eo39 | (injection eo39 with f1_ f2_ f3_; have f4_ := f1_.symm; have f5_ := f3_.symm; clear f1_ f2_ f3_; subst f4_; subst f5_))
       refine hK.out _ _ ⟨(blk_cell BK293.out 0).trans rfl, (blk_cell BK293.out 1).trans rfl, (blk_cell BK293.out 2).trans rfl⟩ (fun hHeld => ?_)
       clear hK K
       refine norm_ (a' := ?_) ?_ ?_
       rotate_left
       ·show Act.put _ (some 55) _ = _
        simp only [Act.put, s0_, s1_, s2_, i64_w, i32_w]
        rfl
       refine pure_ (i := 22) (N := some 56) (v := ?_) (a' := ?_) u10_23 rfl rfl (any_of HT_.out (by kernel_rfl)) (fun _ _ _ h => h) (Or.inl ⟨by rfl, ?_⟩) ?_ ?_
       rotate_left
       ·intro w'
        go_simp
        with_reducible rfl
       rotate_left
       ·simp only [Act.put, s0_, s1_, s2_, i64_w, i32_w]
        rfl
       refine pure_ (i := 23) (N := some 57) (v := ?_) (a' := ?_) u10_24 rfl rfl (any_of HT_.out (by kernel_rfl)) (fun _ _ _ h => h) (Or.inl ⟨by rfl, ?_⟩) ?_ ?_
       rotate_left
       ·intro w'
        go_simp
        with_reducible rfl
       rotate_left
       ·simp only [Act.put, s0_, s1_, s2_, i64_w, i32_w]
        rfl
       refine pure_ (i := 24) (N := some 58) (v := ?_) (a' := ?_) u10_25 rfl rfl (any_of HT_.out (by kernel_rfl)) (fun _ _ _ h => h) (Or.inl ⟨by rfl, ?_⟩) ?_ ?_
       rotate_left
       ·intro w'
        go_simp
        with_reducible rfl
       rotate_left
       ·simp only [Act.put, s0_, s1_, s2_, i64_w, i32_w]
        rfl
       refine pure_ (i := 25) (N := some 59) (v := ?_) (a' := ?_) u10_26 rfl rfl (any_of HT_.out (by kernel_rfl)) (fun _ _ _ h => h) (Or.inl ⟨by rfl, ?_⟩) ?_ ?_
       rotate_left
       ·intro w'
        go_simp
        with_reducible rfl
       rotate_left
       ·simp only [Act.put, s0_, s1_, s2_, i64_w, i32_w]
        rfl
       refine pure_ (i := 26) (N := some 60) (v := ?_) (a' := ?_) u10_27 rfl rfl (any_of HT_.out (by kernel_rfl)) (fun _ _ _ h => h) (Or.inl ⟨by rfl, ?_⟩) ?_ ?_
       rotate_left
       ·intro w'
        go_simp
        with_reducible rfl
       rotate_left
       ·simp only [Act.put, s0_, s1_, s2_, i64_w, i32_w]
        rfl
       refine pure_ (i := 27) (N := some 61) (v := undef) (a' := ?_) u10_28 rfl rfl (any_of HT_.out (by kernel_rfl)) (fun _ _ _ h => h) (Or.inr ⟨by rfl, rfl⟩) ?_ ?_
       rotate_left
       ·simp only [Act.put, s0_, s1_, s2_, i64_w, i32_w]
        rfl
       refine pure_ (i := 28) (N := some 62) (v := undef) (a' := ?_) u10_29 rfl rfl (any_of HT_.out (by kernel_rfl)) (fun _ _ _ h => h) (Or.inr ⟨by rfl, rfl⟩) ?_ ?_
       rotate_left
       ·simp only [Act.put, s0_, s1_, s2_, i64_w, i32_w]
        rfl
       refine pure_ (i := 29) (N := some 63) (v := undef) (a' := ?_) u10_30 rfl rfl (any_of HT_.out (by kernel_rfl)) (fun _ _ _ h => h) (Or.inr ⟨by rfl, rfl⟩) ?_ ?_
       rotate_left
       ·simp only [Act.put, s0_, s1_, s2_, i64_w, i32_w]
        rfl
       refine pure_ (i := 30) (N := some 64) (v := undef) (a' := ?_) u10_31 rfl rfl (any_of HT_.out (by kernel_rfl)) (fun _ _ _ h => h) (Or.inr ⟨by rfl, rfl⟩) ?_ ?_
       rotate_left
       ·simp only [Act.put, s0_, s1_, s2_, i64_w, i32_w]
        rfl
       refine pure_ (i := 31) (N := some 65) (v := undef) (a' := ?_) u10_32 rfl rfl (any_of HT_.out (by kernel_rfl)) (fun _ _ _ h => h) (Or.inr ⟨by rfl, rfl⟩) ?_ ?_
       rotate_left
       ·simp only [Act.put, s0_, s1_, s2_, i64_w, i32_w]
        rfl
       refine pure_ (i := 32) (N := some 66) (v := undef) (a' := ?_) u10_33 rfl rfl (any_of HT_.out (by kernel_rfl)) (fun _ _ _ h => h) (Or.inr ⟨by rfl, rfl⟩) ?_ ?_
       rotate_left
       ·simp only [Act.put, s0_, s1_, s2_, i64_w, i32_w]
        rfl
       refine pure_ (i := 33) (N := some 67) (v := undef) (a' := ?_) u10_34 rfl rfl (any_of HT_.out (by kernel_rfl)) (fun _ _ _ h => h) (Or.inr ⟨by rfl, rfl⟩) ?_ ?_
       rotate_left
       ·simp only [Act.put, s0_, s1_, s2_, i64_w, i32_w]
        rfl
       refine pure_ (i := 34) (N := some 68) (v := undef) (a' := ?_) u10_35 rfl rfl (any_of HT_.out (by kernel_rfl)) (fun _ _ _ h => h) (Or.inr ⟨by rfl, rfl⟩) ?_ ?_
       rotate_left
       ·simp only [Act.put, s0_, s1_, s2_, i64_w, i32_w]
        rfl
       refine pure_ (i := 35) (N := some 69) (v := undef) (a' := ?_) u10_36 rfl rfl (any_of HT_.out (by kernel_rfl)) (fun _ _ _ h => h) (Or.inr ⟨by rfl, rfl⟩) ?_ ?_
       rotate_left
       ·simp only [Act.put, s0_, s1_, s2_, i64_w, i32_w]
        rfl
       refine pure_ (i := 36) (N := some 70) (v := undef) (a' := ?_) u10_37 rfl rfl (any_of HT_.out (by kernel_rfl)) (fun _ _ _ h => h) (Or.inr ⟨by rfl, rfl⟩) ?_ ?_
       rotate_left
       ·simp only [Act.put, s0_, s1_, s2_, i64_w, i32_w]
        rfl
       refine pure_ (i := 37) (N := some 71) (v := ?_) (a' := ?_) u10_38 rfl rfl (any_of HT_.out (by kernel_rfl)) (fun _ _ _ h => h) (Or.inl ⟨by rfl, ?_⟩) ?_ ?_
       rotate_left
       ·intro w'
        go_simp
        with_reducible rfl
       rotate_left
       ·simp only [Act.put, s0_, s1_, s2_, i64_w, i32_w]
        rfl
       refine done_ (done_of HT_.out (by kernel_rfl)) ?_
       try go_wp2
       go_meet
       case rel => exact ⟨_, (true), (by first | rfl | (simp; done) | (simp [*]; done)), H', ⟨by first | omega | exact Nat.le_refl _⟩, ⟨by (with_reducible repeat (first | apply Kd.R_alloc | apply Kd.R_drewN | apply Kd.R_drew)); exact Kd.R_mono HO300.out (fun _ hk => hk.2)⟩, ⟨by (with_reducible repeat (first | apply Kd.R_alloc | apply Kd.R_drewN | apply Kd.R_drew)); exact Kd.R_mono HO312.out (fun _ hk => hk.2)⟩, ⟨by (with_reducible repeat (first | refine blk_drewN ?_ _ | refine blk_drew ?_ | refine blk_alloc ?_ _)); exact BK293.out⟩, ⟨by repeat (first | (with_reducible first | exact HB.out | apply below_alloc | apply pw_below_drewN | apply below_drew1 | refine below_set ?_ GE293.out) | exact HB.out)⟩⟩
      ·rw [if_neg c26] at H
       have c26b0 : decide (1 < (wrap64 ((t295.length : Int) - (t326.length : Int)))) = false := decide_eq_false c26
       clear c26
       (first | rw [c26b0] | (simp only [i64_w, i32_w]; rw [c26b0]) | skip)
       replace H := Option.bind_eq_some_iff.mp H
       obtain ⟨t329, A400, H⟩ := H
       replace H : (clepsydralaw20_JobsMore.j0 k t296 t308 (decide ((wrap64 ((t307.length : Int) - (t329.length : Int))) > 1)) a1_0 a1_1 a1_2) = some r := H
       have A40 := Aside0.mk A400
       clear A400
       have H' := Aside0.mk H
       clear H
       try go_wp2
       have n0_ := Aside0.mk (Kd.R_drew HO298.out)
       have n1_ := Aside0.mk (Kd.R_drew HO300.out)
       have n2_ := Aside0.mk (Kd.R_drew HO306.out)
       have n3_ := Aside0.mk (Kd.R_drew HO310.out)
       have n4_ := Aside0.mk (Kd.R_drew HO312.out)
       have n5_ := Aside0.mk (blk_drew BK293.out)
       have n6_ := Aside0.mk (below_drew1 HB.out)
       clear HO298
       clear HO300
       clear HO306
       clear HO310
       clear HO312
       clear BK293
       clear HB
       have HO298 := n0_
       have HO300 := n1_
       have HO306 := n2_
       have HO310 := n3_
       have HO312 := n4_
       have BK293 := n5_
       have HB := n6_
       clear n0_ n1_ n2_ n3_ n4_ n5_ n6_
       obtain ⟨Ao42, co42, eo42⟩ := Kd.R_slice HO298.out
       (first | subst eo42 | (injection eo42 with f1_ f2_ f3_; have f4_ := f1_.symm; have f5_ := f3_.symm; clear f1_ f2_ f3_; subst f4_; subst f5_))
       refine start_ (n := 38) (S := fun w' => w'.cell? ⟨gb293, 0, none⟩ = some (.int .i64 a1_0) ∧ w'.cell? ⟨gb293, 1, none⟩ = some (.int .u8 a1_1) ∧ w'.cell? ⟨gb293, 2, none⟩ = some (.bool a1_2)) (ds := []) u10_0 (by kernel_rfl) rfl rfl ⟨(blk_cell BK293.out 0).trans rfl, (blk_cell BK293.out 1).trans rfl, (blk_cell BK293.out 2).trans rfl⟩ (fun hHeld => ?_); refine with_tabW clepsydralaw20_JobsMore.tab7 clepsydralaw20_JobsMore.bits7 (fun HT_ HW_ => ?_)
       generalize w18.drew = w41 at HO298 HO300 HO306 HO310 HO312 BK293 HB hHeld ⊢
       refine pure_ (i := 0) (N := some 34) (v := ?_) (a' := ?_) u10_1 rfl rfl (any_of HT_.out (by kernel_rfl)) (fun _ _ _ h => h) (Or.inl ⟨by rfl, ?_⟩) ?_ ?_
       rotate_left
       ·intro w'
        go_simp
        with_reducible rfl
       rotate_left
       ·simp only [Act.put, s0_, s1_, s2_, i64_w, i32_w]
        rfl
       refine pure_ (i := 1) (N := some 35) (v := ?_) (a' := ?_) u10_2 rfl rfl (any_of HT_.out (by kernel_rfl)) (fun _ _ _ h => h) (Or.inl ⟨by rfl, ?_⟩) ?_ ?_
       rotate_left
       ·intro w'
        go_simp
        with_reducible rfl
       rotate_left
       ·simp only [Act.put, s0_, s1_, s2_, i64_w, i32_w]
        rfl
       refine pure_ (i := 2) (N := some 36) (v := ?_) (a' := ?_) u10_3 rfl rfl (any_of HT_.out (by kernel_rfl)) (fun _ _ _ h => h) (Or.inl ⟨by rfl, ?_⟩) ?_ ?_
       rotate_left
       ·intro w'
        go_simp
        with_reducible rfl
       rotate_left
       ·simp only [Act.put, s0_, s1_, s2_, i64_w, i32_w]
        rfl
       refine pure_ (i := 6) (N := some 40) (v := ?_) (a' := ?_) u10_4 rfl rfl (any_of HT_.out (by kernel_rfl)) (fun _ _ _ h => h) (Or.inl ⟨by rfl, ?_⟩) ?_ ?_
       rotate_left
       ·intro w'
        go_simp
        with_reducible rfl
       rotate_left
       ·simp only [Act.put, s0_, s1_, s2_, i64_w, i32_w]
        rfl
       refine pure_ (i := 7) (N := some 41) (v := ?_) (a' := ?_) u10_5 rfl rfl (any_of HT_.out (by kernel_rfl)) (fun _ _ _ h => h) (Or.inl ⟨by rfl, ?_⟩) ?_ ?_
       rotate_left
       ·intro w'
        go_simp
        with_reducible rfl
       rotate_left
       ·simp only [Act.put, s0_, s1_, s2_, i64_w, i32_w]
        rfl
       refine pure_ (i := 8) (N := some 42) (v := ?_) (a' := ?_) u10_6 rfl rfl (any_of HT_.out (by kernel_rfl)) (fun _ _ _ h => h) (Or.inl ⟨by rfl, ?_⟩) ?_ ?_
       rotate_left
       ·intro w'
        go_simp
        with_reducible rfl
       rotate_left
       ·simp only [Act.put, s0_, s1_, s2_, i64_w, i32_w]
        rfl
       refine take_ (i := 3) (N := some 37) (v := ?_) (a' := ?_) u10_7 rfl rfl (take_ofW HT_.out HW_.out (by kernel_rfl)) (fun _ _ _ h => h) (Or.inl ⟨by rfl, ?_⟩) hHeld ?_ ?_
       rotate_left
       ·rintro w' ⟨s0, s1, s2⟩
        go_simp
        with_reducible rfl
       rotate_left
       ·simp only [Act.put, s0_, s1_, s2_, i64_w, i32_w]
        rfl
       refine take_ (i := 9) (N := some 43) (v := ?_) (a' := ?_) u10_8 rfl rfl (take_ofW HT_.out HW_.out (by kernel_rfl)) (fun _ _ _ h => h) (Or.inl ⟨by rfl, ?_⟩) hHeld ?_ ?_
       rotate_left
       ·rintro w' ⟨s0, s1, s2⟩
        go_simp
        with_reducible rfl
       rotate_left
       ·simp only [Act.put, s0_, s1_, s2_, i64_w, i32_w]
        rfl
       refine one_ (i := 4) (N := some 38) u10_9 rfl rfl (one_of HT_.out (by kernel_rfl)) (by decide) (fun K hK => ?_)
       refine goes_ Try.func17 (by kernel_rfl) rfl #[.slice Ao42 t295.length co42, .int .i64 a1_0] (by rfl) rfl rfl (by (try simp only [List.map_toArray, List.map_cons, List.map_nil]); first | done | rfl | (simp only [List.length_drop, List.length_take]; rfl)) ?_
       with_reducible refine (clepsydralaw20_others.calls k _ _ t295 a1_0 t313 _ ?side1 ?side2 A19.out).mono ?_
       (case side1 => exact CD ((Kd.R_reads' HO298.out).2.2))
       (case side2 => exact (Kd.R_reads' HO298.out).2.1)
       rintro e w43 ⟨v314, rfl, ho0, hb⟩
       refine ⟨_, rfl, ?_⟩
       have n0_ := RE HO298 hb (Kd.R_base ho0)
       have n1_ := RB HO300 hb
       have n2_ := RE HO306 hb (Kd.R_base ho0)
       have n3_ := RE HO310 hb (Kd.R_base ho0)
       have n4_ := RB HO312 hb
       have n5_ := Aside0.mk (Kd.R_lower (Kd.R_newB (Kd.R_new' (Kd.R_new' (Kd.R_new' ho0 (Kd.R_lt (RD HO298))) (Kd.R_lt (RD HO306))) (Kd.R_lt (RD HO310))) (g := gb293) (o := .cells #[.int .i64 a1_0, .int .u8 a1_1, .bool a1_2] 39 (0, 0)) (by (with_reducible repeat (first | refine blk_drewN ?_ _ | refine blk_drew ?_ | refine blk_alloc ?_ _)); exact BK293.out)) (below_size (by repeat (first | (with_reducible first | exact HB.out | apply below_alloc | apply pw_below_drewN | apply below_drew1 | refine below_set ?_ GE293.out) | exact HB.out))))
       have n6_ := Aside0.mk (blk_below (g := gb293) (o := .cells #[.int .i64 a1_0, .int .u8 a1_1, .bool a1_2] 39 (0, 0)) (by (with_reducible repeat (first | refine blk_drewN ?_ _ | refine blk_drew ?_ | refine blk_alloc ?_ _)); exact BK293.out) hb)
       have n7_ := Aside0.mk (below_step (by repeat (first | (with_reducible first | exact HB.out | apply below_alloc | apply pw_below_drewN | apply below_drew1 | refine below_set ?_ GE293.out) | exact HB.out)) hb)
       clear HO298
       clear HO300
       clear HO306
       clear HO310
       clear HO312
       clear BK293
       clear HB
       have HO298 := n0_
       have HO300 := n1_
       have HO306 := n2_
       have HO310 := n3_
       have HO312 := n4_
       have HO315 := n5_
       have BK293 := n6_
       have HB := n7_
       clear n0_ n1_ n2_ n3_ n4_ n5_ n6_ n7_
       (try clear hb)
       (try clear hb2)
       (try clear hk)
       (try clear hi)
       (try clear ho0)
       obtain ⟨Ao44, co44, eo44⟩ := Kd.R_slice HO315.out
       (first | subst eo44 | (injection eo44 with f1_ f2_ f3_; have f4_ := f1_.symm; have f5_ := f3_.symm; clear f1_ f2_ f3_; subst f4_; subst f5_))
       refine hK.out _ _ ⟨(blk_cell BK293.out 0).trans rfl, (blk_cell BK293.out 1).trans rfl, (blk_cell BK293.out 2).trans rfl⟩ (fun hHeld => ?_)
       clear hK K
       refine norm_ (a' := ?_) ?_ ?_
       rotate_left
       ·show Act.put _ (some 38) _ = _
        simp only [Act.put, s0_, s1_, s2_, i64_w, i32_w]
        rfl
       refine one_ (i := 5) (N := some 39) u10_10 rfl rfl (one_of HT_.out (by kernel_rfl)) (by decide) (fun K hK => ?_)
       refine goes_ Try.func9 (by kernel_rfl) rfl #[.slice Ao44 t313.length co44] (by rfl) rfl rfl (by (try simp only [List.map_toArray, List.map_cons, List.map_nil]); first | done | rfl | (simp only [List.length_drop, List.length_take]; rfl)) ?_
       with_reducible refine (clepsydralaw20_plain.calls k _ _ t313 t316 _ ?side1 ?side2 A20.out).mono ?_
       (case side1 => exact CD ((Kd.R_reads' HO315.out).2.2))
       (case side2 => exact (Kd.R_reads' HO315.out).2.1)
       rintro e w45 ⟨v317, rfl, ho0, hb⟩
       refine ⟨_, rfl, ?_⟩
       have n0_ := RB HO298 hb
       have n1_ := RB HO300 hb
       have n2_ := RB HO306 hb
       have n3_ := RB HO310 hb
       have n4_ := RB HO312 hb
       have n5_ := RB HO315 hb
       have n6_ := Aside0.mk (Kd.R_lower ho0 (below_size (by repeat (first | (with_reducible first | exact HB.out | apply below_alloc | apply pw_below_drewN | apply below_drew1 | refine below_set ?_ GE293.out) | exact HB.out))))
       have n7_ := Aside0.mk (blk_below (g := gb293) (o := .cells #[.int .i64 a1_0, .int .u8 a1_1, .bool a1_2] 39 (0, 0)) (by (with_reducible repeat (first | refine blk_drewN ?_ _ | refine blk_drew ?_ | refine blk_alloc ?_ _)); exact BK293.out) hb)
       have n8_ := Aside0.mk (below_step (by repeat (first | (with_reducible first | exact HB.out | apply below_alloc | apply pw_below_drewN | apply below_drew1 | refine below_set ?_ GE293.out) | exact HB.out)) hb)
       clear HO298
       clear HO300
       clear HO306
       clear HO310
       clear HO312
       clear HO315
       clear BK293
       clear HB
       have HO298 := n0_
       have HO300 := n1_
       have HO306 := n2_
       have HO310 := n3_
       have HO312 := n4_
       have HO315 := n5_
       have HO318 := n6_
       have BK293 := n7_
       have HB := n8_
       clear n0_ n1_ n2_ n3_ n4_ n5_ n6_ n7_ n8_
       (try clear hb)
       (try clear hb2)
       (try clear hk)
       (try clear hi)
       (try clear ho0)
       obtain ⟨Ao46, co46, eo46⟩ := Kd.R_slice HO310.out
       (first | subst eo46 | (injection eo46 with f1_ f2_ f3_; have f4_ := f1_.symm; have f5_ := f3_.symm; clear f1_ f2_ f3_; subst f4_; subst f5_))
       refine hK.out _ _ ⟨(blk_cell BK293.out 0).trans rfl, (blk_cell BK293.out 1).trans rfl, (blk_cell BK293.out 2).trans rfl⟩ (fun hHeld => ?_)
       clear hK K
       refine norm_ (a' := ?_) ?_ ?_
       rotate_left
       ·show Act.put _ (some 39) _ = _
        simp only [Act.put, s0_, s1_, s2_, i64_w, i32_w]
        rfl
       refine one_ (i := 10) (N := some 44) u10_11 rfl rfl (one_of HT_.out (by kernel_rfl)) (by decide) (fun K hK => ?_)
       refine goes_ Try.func17 (by kernel_rfl) rfl #[.slice Ao46 t307.length co46, .int .i64 a1_0] (by rfl) rfl rfl (by (try simp only [List.map_toArray, List.map_cons, List.map_nil]); first | done | rfl | (simp only [List.length_drop, List.length_take]; rfl)) ?_
       with_reducible refine (clepsydralaw20_others.calls k _ _ t307 a1_0 t319 _ ?side1 ?side2 A21.out).mono ?_
       (case side1 => exact CD ((Kd.R_reads' HO310.out).2.2))
       (case side2 => exact (Kd.R_reads' HO310.out).2.1)
       rintro e w47 ⟨v320, rfl, ho0, hb⟩
       refine ⟨_, rfl, ?_⟩
       have n0_ := RE HO298 hb (Kd.R_base ho0)
       have n1_ := RB HO300 hb
       have n2_ := RE HO306 hb (Kd.R_base ho0)
       have n3_ := RE HO310 hb (Kd.R_base ho0)
       have n4_ := RB HO312 hb
       have n5_ := RE HO315 hb (Kd.R_base ho0)
       have n6_ := RB HO318 hb
       have n7_ := Aside0.mk (Kd.R_lower (Kd.R_newB (Kd.R_new' (Kd.R_new' (Kd.R_new' (Kd.R_new' ho0 (Kd.R_lt (RD HO298))) (Kd.R_lt (RD HO306))) (Kd.R_lt (RD HO310))) (Kd.R_lt (RD HO315))) (g := gb293) (o := .cells #[.int .i64 a1_0, .int .u8 a1_1, .bool a1_2] 39 (0, 0)) (by (with_reducible repeat (first | refine blk_drewN ?_ _ | refine blk_drew ?_ | refine blk_alloc ?_ _)); exact BK293.out)) (below_size (by repeat (first | (with_reducible first | exact HB.out | apply below_alloc | apply pw_below_drewN | apply below_drew1 | refine below_set ?_ GE293.out) | exact HB.out))))
       have n8_ := Aside0.mk (blk_below (g := gb293) (o := .cells #[.int .i64 a1_0, .int .u8 a1_1, .bool a1_2] 39 (0, 0)) (by (with_reducible repeat (first | refine blk_drewN ?_ _ | refine blk_drew ?_ | refine blk_alloc ?_ _)); exact BK293.out) hb)
       have n9_ := Aside0.mk (below_step (by repeat (first | (with_reducible first | exact HB.out | apply below_alloc | apply pw_below_drewN | apply below_drew1 | refine below_set ?_ GE293.out) | exact HB.out)) hb)
       clear HO298
       clear HO300
       clear HO306
       clear HO310
       clear HO312
       clear HO315
       clear HO318
       clear BK293
       clear HB
       have HO298 := n0_
       have HO300 := n1_
       have HO306 := n2_
       have HO310 := n3_
       have HO312 := n4_
       have HO315 := n5_
       have HO318 := n6_
       have HO321 := n7_
       have BK293 := n8_
       have HB := n9_
       clear n0_ n1_ n2_ n3_ n4_ n5_ n6_ n7_ n8_ n9_
       (try clear hb)
       (try clear hb2)
       (try clear hk)
       (try clear hi)
       (try clear ho0)
       obtain ⟨Ao48, co48, eo48⟩ := Kd.R_slice HO321.out
       (first | subst eo48 | (injection eo48 with f1_ f2_ f3_; have f4_ := f1_.symm; have f5_ := f3_.symm; clear f1_ f2_ f3_; subst f4_; subst f5_))
       refine hK.out _ _ ⟨(blk_cell BK293.out 0).trans rfl, (blk_cell BK293.out 1).trans rfl, (blk_cell BK293.out 2).trans rfl⟩ (fun hHeld => ?_)
       clear hK K
       refine norm_ (a' := ?_) ?_ ?_
       rotate_left
       ·show Act.put _ (some 44) _ = _
        simp only [Act.put, s0_, s1_, s2_, i64_w, i32_w]
        rfl
       refine one_ (i := 11) (N := some 45) u10_12 rfl rfl (one_of HT_.out (by kernel_rfl)) (by decide) (fun K hK => ?_)
       refine goes_ Try.func9 (by kernel_rfl) rfl #[.slice Ao48 t319.length co48] (by rfl) rfl rfl (by (try simp only [List.map_toArray, List.map_cons, List.map_nil]); first | done | rfl | (simp only [List.length_drop, List.length_take]; rfl)) ?_
       with_reducible refine (clepsydralaw20_plain.calls k _ _ t319 t322 _ ?side1 ?side2 A22.out).mono ?_
       (case side1 => exact CD ((Kd.R_reads' HO321.out).2.2))
       (case side2 => exact (Kd.R_reads' HO321.out).2.1)
       rintro e w49 ⟨v323, rfl, ho0, hb⟩
       refine ⟨_, rfl, ?_⟩
       have n0_ := RB HO298 hb
       have n1_ := RB HO300 hb
       have n2_ := RB HO306 hb
       have n3_ := RB HO310 hb
       have n4_ := RB HO312 hb
       have n5_ := RB HO315 hb
       have n6_ := RE HO318 hb (Kd.R_base ho0)
       have n7_ := RB HO321 hb
       have n8_ := Aside0.mk (Kd.R_lower (Kd.R_new' ho0 (Kd.R_lt (RD HO318))) (below_size (by repeat (first | (with_reducible first | exact HB.out | apply below_alloc | apply pw_below_drewN | apply below_drew1 | refine below_set ?_ GE293.out) | exact HB.out))))
       have n9_ := Aside0.mk (blk_below (g := gb293) (o := .cells #[.int .i64 a1_0, .int .u8 a1_1, .bool a1_2] 39 (0, 0)) (by (with_reducible repeat (first | refine blk_drewN ?_ _ | refine blk_drew ?_ | refine blk_alloc ?_ _)); exact BK293.out) hb)
       have n10_ := Aside0.mk (below_step (by repeat (first | (with_reducible first | exact HB.out | apply below_alloc | apply pw_below_drewN | apply below_drew1 | refine below_set ?_ GE293.out) | exact HB.out)) hb)
       clear HO298
       clear HO300
       clear HO306
       clear HO310
       clear HO312
       clear HO315
       clear HO318
       clear HO321
       clear BK293
       clear HB
       have HO298 := n0_
       have HO300 := n1_
       have HO306 := n2_
       have HO310 := n3_
       have HO312 := n4_
       have HO315 := n5_
       have HO318 := n6_
       have HO321 := n7_
       have HO324 := n8_
       have BK293 := n9_
       have HB := n10_
       clear n0_ n1_ n2_ n3_ n4_ n5_ n6_ n7_ n8_ n9_ n10_
       (try clear hb)
       (try clear hb2)
       (try clear hk)
       (try clear hi)
       (try clear ho0)
       obtain ⟨Ao50, co50, eo50⟩ := Kd.R_slice HO318.out
       (first | subst eo50 | (injection eo50 with f1_ f2_ f3_; have f4_ := f1_.symm; have f5_ := f3_.symm; clear f1_ f2_ f3_; subst f4_; subst f5_))
       obtain ⟨Ao51, co51, eo51⟩ := Kd.R_slice HO324.out
       (first | subst eo51 | (injection eo51 with f1_ f2_ f3_; have f4_ := f1_.symm; have f5_ := f3_.symm; clear f1_ f2_ f3_; subst f4_; subst f5_))
       refine hK.out _ _ ⟨(blk_cell BK293.out 0).trans rfl, (blk_cell BK293.out 1).trans rfl, (blk_cell BK293.out 2).trans rfl⟩ (fun hHeld => ?_)
       clear hK K
       refine norm_ (a' := ?_) ?_ ?_
       rotate_left
       ·show Act.put _ (some 45) _ = _
        simp only [Act.put, s0_, s1_, s2_, i64_w, i32_w]
        rfl
       refine one_ (i := 12) (N := some 46) u10_13 rfl rfl (one_of HT_.out (by kernel_rfl)) (by decide) (fun K hK => ?_)
       refine goes_ Try.func13 (by kernel_rfl) rfl #[.slice Ao50 t316.length co50, .slice Ao51 t322.length co51] (by rfl) rfl rfl (by (try simp only [List.map_toArray, List.map_cons, List.map_nil]); first | done | rfl | (simp only [List.length_drop, List.length_take]; rfl)) ?_
       with_reducible refine (clepsydralaw20_same.calls k _ _ t316 _ _ t322 true _ ?side1 ?side2 ?side3 ?side4 A23.out).mono ?_
       (case side1 => exact CD ((Kd.R_reads' HO318.out).2.2))
       (case side2 => exact (Kd.R_reads' HO318.out).2.1)
       (case side3 => exact CD ((Kd.R_reads' HO324.out).2.2))
       (case side4 => exact (Kd.R_reads' HO324.out).2.1)
       rintro e w' ⟨rfl, ⟨nd, rfl⟩⟩
       refine ⟨_, rfl, ?_⟩
       refine hK.out _ _ ⟨(blk_cell BK293.out 0).trans rfl, (blk_cell BK293.out 1).trans rfl, (blk_cell BK293.out 2).trans rfl⟩ (fun hHeld => ?_)
       clear hK K
       refine norm_ (a' := ?_) ?_ ?_
       rotate_left
       ·show Act.put _ (some 46) _ = _
        simp only [Act.put, s0_, s1_, s2_, i64_w, i32_w]
        rfl
       refine pure_ (i := 13) (N := some 47) (v := ?_) (a' := ?_) u10_14 rfl rfl (any_of HT_.out (by kernel_rfl)) (fun _ _ _ h => h) (Or.inl ⟨by rfl, ?_⟩) ?_ ?_
       rotate_left
       ·intro w'
        go_simp
        with_reducible rfl
       rotate_left
       ·simp only [Act.put, s0_, s1_, s2_, i64_w, i32_w]
        rfl
       refine pure_ (i := 14) (N := some 48) (v := ?_) (a' := ?_) u10_15 rfl rfl (any_of HT_.out (by kernel_rfl)) (fun _ _ _ h => h) (Or.inl ⟨by rfl, ?_⟩) ?_ ?_
       rotate_left
       ·intro w'
        go_simp
        with_reducible rfl
       rotate_left
       ·simp only [Act.put, s0_, s1_, s2_, i64_w, i32_w]
        rfl
       refine pure_ (i := 15) (N := some 49) (v := ?_) (a' := ?_) u10_16 rfl rfl (any_of HT_.out (by kernel_rfl)) (fun _ _ _ h => h) (Or.inl ⟨by rfl, ?_⟩) ?_ ?_
       rotate_left
       ·intro w'
        go_simp
        with_reducible rfl
       rotate_left
       ·simp only [Act.put, s0_, s1_, s2_, i64_w, i32_w]
        rfl
       refine pure_ (i := 16) (N := some 50) (v := ?_) (a' := ?_) u10_17 rfl rfl (any_of HT_.out (by kernel_rfl)) (fun _ _ _ h => h) (Or.inl ⟨by rfl, ?_⟩) ?_ ?_
       rotate_left
       ·intro w'
        go_simp
        with_reducible rfl
       rotate_left
       ·simp only [Act.put, s0_, s1_, s2_, i64_w, i32_w]
        rfl
       refine pure_ (i := 17) (N := some 51) (v := ?_) (a' := ?_) u10_18 rfl rfl (any_of HT_.out (by kernel_rfl)) (fun _ _ _ h => h) (Or.inl ⟨by rfl, ?_⟩) ?_ ?_
       rotate_left
       ·intro w'
        go_simp
        with_reducible rfl
       rotate_left
       ·simp only [Act.put, s0_, s1_, s2_, i64_w, i32_w]
        rfl
       refine pure_ (i := 18) (N := some 52) (v := ?_) (a' := ?_) u10_19 rfl rfl (any_of HT_.out (by kernel_rfl)) (fun _ _ _ h => h) (Or.inl ⟨by rfl, ?_⟩) ?_ ?_
       rotate_left
       ·intro w'
        go_simp
        with_reducible rfl
       rotate_left
       ·simp only [Act.put, s0_, s1_, s2_, i64_w, i32_w]
        rfl
       refine pure_ (i := 19) (N := some 53) (v := ?_) (a' := ?_) u10_20 rfl rfl (any_of HT_.out (by kernel_rfl)) (fun _ _ _ h => h) (Or.inl ⟨by rfl, ?_⟩) ?_ ?_
       rotate_left
       ·intro w'
        go_simp
        with_reducible rfl
       rotate_left
       ·simp only [Act.put, s0_, s1_, s2_, i64_w, i32_w]
        rfl
       refine take_ (i := 20) (N := some 54) (v := ?_) (a' := ?_) u10_21 rfl rfl (take_ofW HT_.out HW_.out (by kernel_rfl)) (fun _ _ _ h => h) (Or.inl ⟨by rfl, ?_⟩) hHeld ?_ ?_
       rotate_left
       ·rintro w' ⟨s0, s1, s2⟩
        go_simp
        with_reducible rfl
       rotate_left
       ·simp only [Act.put, s0_, s1_, s2_, i64_w, i32_w]
        rfl
       refine one_ (i := 21) (N := some 55) u10_22 rfl rfl (one_of HT_.out (by kernel_rfl)) (by decide) (fun K hK => ?_)
       refine goes_ Try.func17 (by kernel_rfl) rfl #[.slice Ao42 t295.length co42, .int .i64 a1_0] (by rfl) rfl rfl (by (try simp only [List.map_toArray, List.map_cons, List.map_nil]); first | done | rfl | (simp only [List.length_drop, List.length_take]; rfl)) ?_
       with_reducible refine (clepsydralaw20_others.calls k _ _ t295 a1_0 t326 _ ?side1 ?side2 A25.out).mono ?_
       (case side1 => exact CD ((Kd.R_reads' HO298.out).2.2))
       (case side2 => exact (Kd.R_reads' HO298.out).2.1)
       rintro e w52 ⟨v327, rfl, ho0, hb⟩
       refine ⟨_, rfl, ?_⟩
       have n0_ := RE HO298 hb (Kd.R_base ho0)
       have n1_ := RB HO300 hb
       have n2_ := RE HO306 hb (Kd.R_base ho0)
       have n3_ := RE HO310 hb (Kd.R_base ho0)
       have n4_ := RB HO312 hb
       have n5_ := RE HO315 hb (Kd.R_base ho0)
       have n6_ := RB HO318 hb
       have n7_ := RE HO321 hb (Kd.R_base ho0)
       have n8_ := RB HO324 hb
       have n9_ := Aside0.mk (Kd.R_lower (Kd.R_newB (Kd.R_new' (Kd.R_new' (Kd.R_new' (Kd.R_new' (Kd.R_new' ho0 (Kd.R_lt (RD HO298))) (Kd.R_lt (RD HO306))) (Kd.R_lt (RD HO310))) (Kd.R_lt (RD HO315))) (Kd.R_lt (RD HO321))) (g := gb293) (o := .cells #[.int .i64 a1_0, .int .u8 a1_1, .bool a1_2] 39 (0, 0)) (by (with_reducible repeat (first | refine blk_drewN ?_ _ | refine blk_drew ?_ | refine blk_alloc ?_ _)); exact BK293.out)) (below_size (by repeat (first | (with_reducible first | exact HB.out | apply below_alloc | apply pw_below_drewN | apply below_drew1 | refine below_set ?_ GE293.out) | exact HB.out))))
       have n10_ := Aside0.mk (blk_below (g := gb293) (o := .cells #[.int .i64 a1_0, .int .u8 a1_1, .bool a1_2] 39 (0, 0)) (by (with_reducible repeat (first | refine blk_drewN ?_ _ | refine blk_drew ?_ | refine blk_alloc ?_ _)); exact BK293.out) hb)
       have n11_ := Aside0.mk (below_step (by repeat (first | (with_reducible first | exact HB.out | apply below_alloc | apply pw_below_drewN | apply below_drew1 | refine below_set ?_ GE293.out) | exact HB.out)) hb)
       clear HO298
       clear HO300
       clear HO306
       clear HO310
       clear HO312
       clear HO315
       clear HO318
       clear HO321
       clear HO324
       clear BK293
       clear HB
       have HO298 := n0_
       have HO300 := n1_
       have HO306 := n2_
       have HO310 := n3_
       have HO312 := n4_
       have HO315 := n5_
       have HO318 := n6_
       have HO321 := n7_
       have HO324 := n8_
       have HO328 := n9_
       have BK293 := n10_
       have HB := n11_
       clear n0_ n1_ n2_ n3_ n4_ n5_ n6_ n7_ n8_ n9_ n10_ n11_
       (try clear hb)
       (try clear hb2)
       (try clear hk)
       (try clear hi)
       (try clear ho0)
       obtain ⟨Ao53, co53, eo53⟩ := Kd.R_slice HO328.out
       (first | subst eo53 | (injection eo53 with f1_ f2_ f3_; have f4_ := f1_.symm; have f5_ := f3_.symm; clear f1_ f2_ f3_; subst f4_; subst f5_))
       refine hK.out _ _ ⟨(blk_cell BK293.out 0).trans rfl, (blk_cell BK293.out 1).trans rfl, (blk_cell BK293.out 2).trans rfl⟩ (fun hHeld => ?_)
       clear hK K
       refine norm_ (a' := ?_) ?_ ?_
       rotate_left
       ·show Act.put _ (some 55) _ = _
        simp only [Act.put, s0_, s1_, s2_, i64_w, i32_w]
        rfl
       refine pure_ (i := 22) (N := some 56) (v := ?_) (a' := ?_) u10_23 rfl rfl (any_of HT_.out (by kernel_rfl)) (fun _ _ _ h => h) (Or.inl ⟨by rfl, ?_⟩) ?_ ?_
       rotate_left
       ·intro w'
        go_simp
        with_reducible rfl
       rotate_left
       ·simp only [Act.put, s0_, s1_, s2_, i64_w, i32_w]
        rfl
       refine pure_ (i := 23) (N := some 57) (v := ?_) (a' := ?_) u10_24 rfl rfl (any_of HT_.out (by kernel_rfl)) (fun _ _ _ h => h) (Or.inl ⟨by rfl, ?_⟩) ?_ ?_
       rotate_left
       ·intro w'
        go_simp
        with_reducible rfl
       rotate_left
       ·simp only [Act.put, s0_, s1_, s2_, i64_w, i32_w]
        rfl
       refine pure_ (i := 24) (N := some 58) (v := ?_) (a' := ?_) u10_25 rfl rfl (any_of HT_.out (by kernel_rfl)) (fun _ _ _ h => h) (Or.inl ⟨by rfl, ?_⟩) ?_ ?_
       rotate_left
       ·intro w'
        go_simp
        with_reducible rfl
       rotate_left
       ·simp only [Act.put, s0_, s1_, s2_, i64_w, i32_w]
        rfl
       refine pure_ (i := 25) (N := some 59) (v := ?_) (a' := ?_) u10_26 rfl rfl (any_of HT_.out (by kernel_rfl)) (fun _ _ _ h => h) (Or.inl ⟨by rfl, ?_⟩) ?_ ?_
       rotate_left
       ·intro w'
        go_simp
        with_reducible rfl
       rotate_left
       ·simp only [Act.put, s0_, s1_, s2_, i64_w, i32_w]
        rfl
       refine pure_ (i := 26) (N := some 60) (v := ?_) (a' := ?_) u10_27 rfl rfl (any_of HT_.out (by kernel_rfl)) (fun _ _ _ h => h) (Or.inl ⟨by rfl, ?_⟩) ?_ ?_
       rotate_left
       ·intro w'
        go_simp
        with_reducible rfl
       rotate_left
       ·simp only [Act.put, s0_, s1_, s2_, i64_w, i32_w]
        rfl
       refine pure_ (i := 27) (N := some 61) (v := ?_) (a' := ?_) u10_28 rfl rfl (any_of HT_.out (by kernel_rfl)) (fun _ _ _ h => h) (Or.inl ⟨by rfl, ?_⟩) ?_ ?_
       rotate_left
       ·intro w'
        go_simp
        with_reducible rfl
       rotate_left
       ·simp only [Act.put, s0_, s1_, s2_, i64_w, i32_w]
        rfl
       refine pure_ (i := 28) (N := some 62) (v := ?_) (a' := ?_) u10_29 rfl rfl (any_of HT_.out (by kernel_rfl)) (fun _ _ _ h => h) (Or.inl ⟨by rfl, ?_⟩) ?_ ?_
       rotate_left
       ·intro w'
        go_simp
        with_reducible rfl
       rotate_left
       ·simp only [Act.put, s0_, s1_, s2_, i64_w, i32_w]
        rfl
       refine pure_ (i := 29) (N := some 63) (v := ?_) (a' := ?_) u10_30 rfl rfl (any_of HT_.out (by kernel_rfl)) (fun _ _ _ h => h) (Or.inl ⟨by rfl, ?_⟩) ?_ ?_
       rotate_left
       ·intro w'
        go_simp
        with_reducible rfl
       rotate_left
       ·simp only [Act.put, s0_, s1_, s2_, i64_w, i32_w]
        rfl
       refine pure_ (i := 30) (N := some 64) (v := ?_) (a' := ?_) u10_31 rfl rfl (any_of HT_.out (by kernel_rfl)) (fun _ _ _ h => h) (Or.inl ⟨by rfl, ?_⟩) ?_ ?_
       rotate_left
       ·intro w'
        go_simp
        with_reducible rfl
       rotate_left
       ·simp only [Act.put, s0_, s1_, s2_, i64_w, i32_w]
        rfl
       refine pure_ (i := 31) (N := some 65) (v := ?_) (a' := ?_) u10_32 rfl rfl (any_of HT_.out (by kernel_rfl)) (fun _ _ _ h => h) (Or.inl ⟨by rfl, ?_⟩) ?_ ?_
       rotate_left
       ·intro w'
        go_simp
        with_reducible rfl
       rotate_left
       ·simp only [Act.put, s0_, s1_, s2_, i64_w, i32_w]
        rfl
       refine take_ (i := 32) (N := some 66) (v := ?_) (a' := ?_) u10_33 rfl rfl (take_ofW HT_.out HW_.out (by kernel_rfl)) (fun _ _ _ h => h) (Or.inl ⟨by rfl, ?_⟩) hHeld ?_ ?_
       rotate_left
       ·rintro w' ⟨s0, s1, s2⟩
        go_simp
        with_reducible rfl
       rotate_left
       ·simp only [Act.put, s0_, s1_, s2_, i64_w, i32_w]
        rfl
       refine one_ (i := 33) (N := some 67) u10_34 rfl rfl (one_of HT_.out (by kernel_rfl)) (by decide) (fun K hK => ?_)
       refine goes_ Try.func17 (by kernel_rfl) rfl #[.slice Ao46 t307.length co46, .int .i64 a1_0] (by rfl) rfl rfl (by (try simp only [List.map_toArray, List.map_cons, List.map_nil]); first | done | rfl | (simp only [List.length_drop, List.length_take]; rfl)) ?_
       with_reducible refine (clepsydralaw20_others.calls k _ _ t307 a1_0 t329 _ ?side1 ?side2 A40.out).mono ?_
       (case side1 => exact CD ((Kd.R_reads' HO310.out).2.2))
       (case side2 => exact (Kd.R_reads' HO310.out).2.1)
       rintro e w54 ⟨v330, rfl, ho0, hb⟩
       refine ⟨_, rfl, ?_⟩
       have n0_ := RE HO298 hb (Kd.R_base ho0)
       have n1_ := RB HO300 hb
       have n2_ := RE HO306 hb (Kd.R_base ho0)
       have n3_ := RE HO310 hb (Kd.R_base ho0)
       have n4_ := RB HO312 hb
       have n5_ := RE HO315 hb (Kd.R_base ho0)
       have n6_ := RB HO318 hb
       have n7_ := RE HO321 hb (Kd.R_base ho0)
       have n8_ := RB HO324 hb
       have n9_ := RE HO328 hb (Kd.R_base ho0)
       have n10_ := Aside0.mk (Kd.R_lower (Kd.R_newB (Kd.R_new' (Kd.R_new' (Kd.R_new' (Kd.R_new' (Kd.R_new' (Kd.R_new' ho0 (Kd.R_lt (RD HO298))) (Kd.R_lt (RD HO306))) (Kd.R_lt (RD HO310))) (Kd.R_lt (RD HO315))) (Kd.R_lt (RD HO321))) (Kd.R_lt (RD HO328))) (g := gb293) (o := .cells #[.int .i64 a1_0, .int .u8 a1_1, .bool a1_2] 39 (0, 0)) (by (with_reducible repeat (first | refine blk_drewN ?_ _ | refine blk_drew ?_ | refine blk_alloc ?_ _)); exact BK293.out)) (below_size (by repeat (first | (with_reducible first | exact HB.out | apply below_alloc | apply pw_below_drewN | apply below_drew1 | refine below_set ?_ GE293.out) | exact HB.out))))
       have n11_ := Aside0.mk (blk_below (g := gb293) (o := .cells #[.int .i64 a1_0, .int .u8 a1_1, .bool a1_2] 39 (0, 0)) (by (with_reducible repeat (first | refine blk_drewN ?_ _ | refine blk_drew ?_ | refine blk_alloc ?_ _)); exact BK293.out) hb)
       have n12_ := Aside0.mk (below_step (by repeat (first | (with_reducible first | exact HB.out | apply below_alloc | apply pw_below_drewN | apply below_drew1 | refine below_set ?_ GE293.out) | exact HB.out)) hb)
       clear HO298
       clear HO300
       clear HO306
       clear HO310
       clear HO312
       clear HO315
       clear HO318
       clear HO321
       clear HO324
       clear HO328
       clear BK293
       clear HB
       have HO298 := n0_
       have HO300 := n1_
       have HO306 := n2_
       have HO310 := n3_
       have HO312 := n4_
       have HO315 := n5_
       have HO318 := n6_
       have HO321 := n7_
       have HO324 := n8_
       have HO328 := n9_
       have HO331 := n10_
       have BK293 := n11_
       have HB := n12_
       clear n0_ n1_ n2_ n3_ n4_ n5_ n6_ n7_ n8_ n9_ n10_ n11_ n12_
       (try clear hb)
       (try clear hb2)
       (try clear hk)
       (try clear hi)
       (try clear ho0)
       obtain ⟨Ao55, co55, eo55⟩ := Kd.R_slice HO331.out
       (first | subst eo55 | (injection eo55 with f1_ f2_ f3_; have f4_ := f1_.symm; have f5_ := f3_.symm; clear f1_ f2_ f3_; subst f4_; subst f5_))
       refine hK.out _ _ ⟨(blk_cell BK293.out 0).trans rfl, (blk_cell BK293.out 1).trans rfl, (blk_cell BK293.out 2).trans rfl⟩ (fun hHeld => ?_)
       clear hK K
       refine norm_ (a' := ?_) ?_ ?_
       rotate_left
       ·show Act.put _ (some 67) _ = _
        simp only [Act.put, s0_, s1_, s2_, i64_w, i32_w]
        rfl
       refine pure_ (i := 34) (N := some 68) (v := ?_) (a' := ?_) u10_35 rfl rfl (any_of HT_.out (by kernel_rfl)) (fun _ _ _ h => h) (Or.inl ⟨by rfl, ?_⟩) ?_ ?_
       rotate_left
       ·intro w'
        go_simp
        with_reducible rfl
       rotate_left
       ·simp only [Act.put, s0_, s1_, s2_, i64_w, i32_w]
        rfl
       refine pure_ (i := 35) (N := some 69) (v := ?_) (a' := ?_) u10_36 rfl rfl (any_of HT_.out (by kernel_rfl)) (fun _ _ _ h => h) (Or.inl ⟨by rfl, ?_⟩) ?_ ?_
       rotate_left
       ·intro w'
        go_simp
        with_reducible rfl
       rotate_left
       ·simp only [Act.put, s0_, s1_, s2_, i64_w, i32_w]
        rfl
       refine pure_ (i := 36) (N := some 70) (v := ?_) (a' := ?_) u10_37 rfl rfl (any_of HT_.out (by kernel_rfl)) (fun _ _ _ h => h) (Or.inl ⟨by rfl, ?_⟩) ?_ ?_
       rotate_left
       ·intro w'
        go_simp
        with_reducible rfl
       rotate_left
       ·simp only [Act.put, s0_, s1_, s2_, i64_w, i32_w]
        rfl
       refine pure_ (i := 37) (N := some 71) (v := ?_) (a' := ?_) u10_38 rfl rfl (any_of HT_.out (by kernel_rfl)) (fun _ _ _ h => h) (Or.inl ⟨by rfl, ?_⟩) ?_ ?_
       rotate_left
       ·intro w'
        go_simp
        with_reducible rfl
       rotate_left
       ·simp only [Act.put, s0_, s1_, s2_, i64_w, i32_w]
        rfl
       refine done_ (done_of HT_.out (by kernel_rfl)) ?_
       try go_wp2
       go_meet
       case rel => exact ⟨_, (decide ((wrap64 ((t307.length : Int) - (t329.length : Int))) > 1)), (by first | rfl | (simp; done) | (simp [*]; done)), H', ⟨by first | omega | exact Nat.le_refl _⟩, ⟨by (with_reducible repeat (first | apply Kd.R_alloc | apply Kd.R_drewN | apply Kd.R_drew)); exact Kd.R_mono HO300.out (fun _ hk => hk.2)⟩, ⟨by (with_reducible repeat (first | apply Kd.R_alloc | apply Kd.R_drewN | apply Kd.R_drew)); exact Kd.R_mono HO312.out (fun _ hk => hk.2)⟩, ⟨by (with_reducible repeat (first | refine blk_drewN ?_ _ | refine blk_drew ?_ | refine blk_alloc ?_ _)); exact BK293.out⟩, ⟨by repeat (first | (with_reducible first | exact HB.out | apply below_alloc | apply pw_below_drewN | apply below_drew1 | refine below_set ?_ GE293.out) | exact HB.out)⟩⟩
     ·replace c24 := Bool.eq_false_iff.mpr c24
      subst c24
      have H1 : (clepsydralaw20_JobsMore.j0 k t296 t308 true a1_0 a1_1 a1_2) = some r := by rw [if_neg (show ¬ (false = true) by decide)] at H; exact H
      clear H
      have H := H1
      clear H1
      have H' := Aside0.mk H
      clear H
      try go_wp2
      have n0_ := Aside0.mk (Kd.R_drew HO298.out)
      have n1_ := Aside0.mk (Kd.R_drew HO300.out)
      have n2_ := Aside0.mk (Kd.R_drew HO306.out)
      have n3_ := Aside0.mk (Kd.R_drew HO310.out)
      have n4_ := Aside0.mk (Kd.R_drew HO312.out)
      have n5_ := Aside0.mk (blk_drew BK293.out)
      have n6_ := Aside0.mk (below_drew1 HB.out)
      clear HO298
      clear HO300
      clear HO306
      clear HO310
      clear HO312
      clear BK293
      clear HB
      have HO298 := n0_
      have HO300 := n1_
      have HO306 := n2_
      have HO310 := n3_
      have HO312 := n4_
      have BK293 := n5_
      have HB := n6_
      clear n0_ n1_ n2_ n3_ n4_ n5_ n6_
      obtain ⟨Ao57, co57, eo57⟩ := Kd.R_slice HO298.out
      (first | subst eo57 | (injection eo57 with f1_ f2_ f3_; have f4_ := f1_.symm; have f5_ := f3_.symm; clear f1_ f2_ f3_; subst f4_; subst f5_))
      refine start_ (n := 38) (S := fun w' => w'.cell? ⟨gb293, 0, none⟩ = some (.int .i64 a1_0) ∧ w'.cell? ⟨gb293, 1, none⟩ = some (.int .u8 a1_1) ∧ w'.cell? ⟨gb293, 2, none⟩ = some (.bool a1_2)) (ds := []) u10_0 (by kernel_rfl) rfl rfl ⟨(blk_cell BK293.out 0).trans rfl, (blk_cell BK293.out 1).trans rfl, (blk_cell BK293.out 2).trans rfl⟩ (fun hHeld => ?_); refine with_tabW clepsydralaw20_JobsMore.tab7 clepsydralaw20_JobsMore.bits7 (fun HT_ HW_ => ?_)
      generalize w18.drew = w56 at HO298 HO300 HO306 HO310 HO312 BK293 HB hHeld ⊢
      refine pure_ (i := 0) (N := some 34) (v := ?_) (a' := ?_) u10_1 rfl rfl (any_of HT_.out (by kernel_rfl)) (fun _ _ _ h => h) (Or.inl ⟨by rfl, ?_⟩) ?_ ?_
      rotate_left
      ·intro w'
       go_simp
       with_reducible rfl
      rotate_left
      ·simp only [Act.put, s0_, s1_, s2_, i64_w, i32_w]
       rfl
      refine pure_ (i := 1) (N := some 35) (v := ?_) (a' := ?_) u10_2 rfl rfl (any_of HT_.out (by kernel_rfl)) (fun _ _ _ h => h) (Or.inl ⟨by rfl, ?_⟩) ?_ ?_
      rotate_left
      ·intro w'
       go_simp
       with_reducible rfl
      rotate_left
      ·simp only [Act.put, s0_, s1_, s2_, i64_w, i32_w]
       rfl
      refine pure_ (i := 2) (N := some 36) (v := ?_) (a' := ?_) u10_3 rfl rfl (any_of HT_.out (by kernel_rfl)) (fun _ _ _ h => h) (Or.inl ⟨by rfl, ?_⟩) ?_ ?_
      rotate_left
      ·intro w'
       go_simp
       with_reducible rfl
      rotate_left
      ·simp only [Act.put, s0_, s1_, s2_, i64_w, i32_w]
       rfl
      refine pure_ (i := 6) (N := some 40) (v := ?_) (a' := ?_) u10_4 rfl rfl (any_of HT_.out (by kernel_rfl)) (fun _ _ _ h => h) (Or.inl ⟨by rfl, ?_⟩) ?_ ?_
      rotate_left
      ·intro w'
       go_simp
       with_reducible rfl
      rotate_left
      ·simp only [Act.put, s0_, s1_, s2_, i64_w, i32_w]
       rfl
      refine pure_ (i := 7) (N := some 41) (v := ?_) (a' := ?_) u10_5 rfl rfl (any_of HT_.out (by kernel_rfl)) (fun _ _ _ h => h) (Or.inl ⟨by rfl, ?_⟩) ?_ ?_
      rotate_left
      ·intro w'
       go_simp
       with_reducible rfl
      rotate_left
      ·simp only [Act.put, s0_, s1_, s2_, i64_w, i32_w]
       rfl
      refine pure_ (i := 8) (N := some 42) (v := ?_) (a' := ?_) u10_6 rfl rfl (any_of HT_.out (by kernel_rfl)) (fun _ _ _ h => h) (Or.inl ⟨by rfl, ?_⟩) ?_ ?_
      rotate_left
      ·intro w'
       go_simp
       with_reducible rfl
      rotate_left
      ·simp only [Act.put, s0_, s1_, s2_, i64_w, i32_w]
       rfl
      refine take_ (i := 3) (N := some 37) (v := ?_) (a' := ?_) u10_7 rfl rfl (take_ofW HT_.out HW_.out (by kernel_rfl)) (fun _ _ _ h => h) (Or.inl ⟨by rfl, ?_⟩) hHeld ?_ ?_
      rotate_left
      ·rintro w' ⟨s0, s1, s2⟩
       go_simp
       with_reducible rfl
      rotate_left
      ·simp only [Act.put, s0_, s1_, s2_, i64_w, i32_w]
       rfl
      refine take_ (i := 9) (N := some 43) (v := ?_) (a' := ?_) u10_8 rfl rfl (take_ofW HT_.out HW_.out (by kernel_rfl)) (fun _ _ _ h => h) (Or.inl ⟨by rfl, ?_⟩) hHeld ?_ ?_
      rotate_left
      ·rintro w' ⟨s0, s1, s2⟩
       go_simp
       with_reducible rfl
      rotate_left
      ·simp only [Act.put, s0_, s1_, s2_, i64_w, i32_w]
       rfl
      refine one_ (i := 4) (N := some 38) u10_9 rfl rfl (one_of HT_.out (by kernel_rfl)) (by decide) (fun K hK => ?_)
      refine goes_ Try.func17 (by kernel_rfl) rfl #[.slice Ao57 t295.length co57, .int .i64 a1_0] (by rfl) rfl rfl (by (try simp only [List.map_toArray, List.map_cons, List.map_nil]); first | done | rfl | (simp only [List.length_drop, List.length_take]; rfl)) ?_
      with_reducible refine (clepsydralaw20_others.calls k _ _ t295 a1_0 t313 _ ?side1 ?side2 A19.out).mono ?_
      (case side1 => exact CD ((Kd.R_reads' HO298.out).2.2))
      (case side2 => exact (Kd.R_reads' HO298.out).2.1)
      rintro e w58 ⟨v314, rfl, ho0, hb⟩
      refine ⟨_, rfl, ?_⟩
      have n0_ := RE HO298 hb (Kd.R_base ho0)
      have n1_ := RB HO300 hb
      have n2_ := RE HO306 hb (Kd.R_base ho0)
      have n3_ := RE HO310 hb (Kd.R_base ho0)
      have n4_ := RB HO312 hb
      have n5_ := Aside0.mk (Kd.R_lower (Kd.R_newB (Kd.R_new' (Kd.R_new' (Kd.R_new' ho0 (Kd.R_lt (RD HO298))) (Kd.R_lt (RD HO306))) (Kd.R_lt (RD HO310))) (g := gb293) (o := .cells #[.int .i64 a1_0, .int .u8 a1_1, .bool a1_2] 39 (0, 0)) (by (with_reducible repeat (first | refine blk_drewN ?_ _ | refine blk_drew ?_ | refine blk_alloc ?_ _)); exact BK293.out)) (below_size (by repeat (first | (with_reducible first | exact HB.out | apply below_alloc | apply pw_below_drewN | apply below_drew1 | refine below_set ?_ GE293.out) | exact HB.out))))
      have n6_ := Aside0.mk (blk_below (g := gb293) (o := .cells #[.int .i64 a1_0, .int .u8 a1_1, .bool a1_2] 39 (0, 0)) (by (with_reducible repeat (first | refine blk_drewN ?_ _ | refine blk_drew ?_ | refine blk_alloc ?_ _)); exact BK293.out) hb)
      have n7_ := Aside0.mk (below_step (by repeat (first | (with_reducible first | exact HB.out | apply below_alloc | apply pw_below_drewN | apply below_drew1 | refine below_set ?_ GE293.out) | exact HB.out)) hb)
      clear HO298
      clear HO300
      clear HO306
      clear HO310
      clear HO312
      clear BK293
      clear HB
      have HO298 := n0_
      have HO300 := n1_
      have HO306 := n2_
      have HO310 := n3_
      have HO312 := n4_
      have HO315 := n5_
      have BK293 := n6_
      have HB := n7_
      clear n0_ n1_ n2_ n3_ n4_ n5_ n6_ n7_
      (try clear hb)
      (try clear hb2)
      (try clear hk)
      (try clear hi)
      (try clear ho0)
      obtain ⟨Ao59, co59, eo59⟩ := Kd.R_slice HO315.out
      (first | subst eo59 | (injection eo59 with f1_ f2_ f3_; have f4_ := f1_.symm; have f5_ := f3_.symm; clear f1_ f2_ f3_; subst f4_; subst f5_))
      refine hK.out _ _ ⟨(blk_cell BK293.out 0).trans rfl, (blk_cell BK293.out 1).trans rfl, (blk_cell BK293.out 2).trans rfl⟩ (fun hHeld => ?_)
      clear hK K
      refine norm_ (a' := ?_) ?_ ?_
      rotate_left
      ·show Act.put _ (some 38) _ = _
       simp only [Act.put, s0_, s1_, s2_, i64_w, i32_w]
       rfl
      refine one_ (i := 5) (N := some 39) u10_10 rfl rfl (one_of HT_.out (by kernel_rfl)) (by decide) (fun K hK => ?_)
      refine goes_ Try.func9 (by kernel_rfl) rfl #[.slice Ao59 t313.length co59] (by rfl) rfl rfl (by (try simp only [List.map_toArray, List.map_cons, List.map_nil]); first | done | rfl | (simp only [List.length_drop, List.length_take]; rfl)) ?_
      with_reducible refine (clepsydralaw20_plain.calls k _ _ t313 t316 _ ?side1 ?side2 A20.out).mono ?_
      (case side1 => exact CD ((Kd.R_reads' HO315.out).2.2))
      (case side2 => exact (Kd.R_reads' HO315.out).2.1)
      rintro e w60 ⟨v317, rfl, ho0, hb⟩
      refine ⟨_, rfl, ?_⟩
      have n0_ := RB HO298 hb
      have n1_ := RB HO300 hb
      have n2_ := RB HO306 hb
      have n3_ := RB HO310 hb
      have n4_ := RB HO312 hb
      have n5_ := RB HO315 hb
      have n6_ := Aside0.mk (Kd.R_lower ho0 (below_size (by repeat (first | (with_reducible first | exact HB.out | apply below_alloc | apply pw_below_drewN | apply below_drew1 | refine below_set ?_ GE293.out) | exact HB.out))))
      have n7_ := Aside0.mk (blk_below (g := gb293) (o := .cells #[.int .i64 a1_0, .int .u8 a1_1, .bool a1_2] 39 (0, 0)) (by (with_reducible repeat (first | refine blk_drewN ?_ _ | refine blk_drew ?_ | refine blk_alloc ?_ _)); exact BK293.out) hb)
      have n8_ := Aside0.mk (below_step (by repeat (first | (with_reducible first | exact HB.out | apply below_alloc | apply pw_below_drewN | apply below_drew1 | refine below_set ?_ GE293.out) | exact HB.out)) hb)
      clear HO298
      clear HO300
      clear HO306
      clear HO310
      clear HO312
      clear HO315
      clear BK293
      clear HB
      have HO298 := n0_
      have HO300 := n1_
      have HO306 := n2_
      have HO310 := n3_
      have HO312 := n4_
      have HO315 := n5_
      have HO318 := n6_
      have BK293 := n7_
      have HB := n8_
      clear n0_ n1_ n2_ n3_ n4_ n5_ n6_ n7_ n8_
      (try clear hb)
      (try clear hb2)
      (try clear hk)
      (try clear hi)
      (try clear ho0)
      obtain ⟨Ao61, co61, eo61⟩ := Kd.R_slice HO310.out
      (first | subst eo61 | (injection eo61 with f1_ f2_ f3_; have f4_ := f1_.symm; have f5_ := f3_.symm; clear f1_ f2_ f3_; subst f4_; subst f5_))
      refine hK.out _ _ ⟨(blk_cell BK293.out 0).trans rfl, (blk_cell BK293.out 1).trans rfl, (blk_cell BK293.out 2).trans rfl⟩ (fun hHeld => ?_)
      clear hK K
      refine norm_ (a' := ?_) ?_ ?_
      rotate_left
      ·show Act.put _ (some 39) _ = _
       simp only [Act.put, s0_, s1_, s2_, i64_w, i32_w]
       rfl
      refine one_ (i := 10) (N := some 44) u10_11 rfl rfl (one_of HT_.out (by kernel_rfl)) (by decide) (fun K hK => ?_)
      refine goes_ Try.func17 (by kernel_rfl) rfl #[.slice Ao61 t307.length co61, .int .i64 a1_0] (by rfl) rfl rfl (by (try simp only [List.map_toArray, List.map_cons, List.map_nil]); first | done | rfl | (simp only [List.length_drop, List.length_take]; rfl)) ?_
      with_reducible refine (clepsydralaw20_others.calls k _ _ t307 a1_0 t319 _ ?side1 ?side2 A21.out).mono ?_
      (case side1 => exact CD ((Kd.R_reads' HO310.out).2.2))
      (case side2 => exact (Kd.R_reads' HO310.out).2.1)
      rintro e w62 ⟨v320, rfl, ho0, hb⟩
      refine ⟨_, rfl, ?_⟩
      have n0_ := RE HO298 hb (Kd.R_base ho0)
      have n1_ := RB HO300 hb
      have n2_ := RE HO306 hb (Kd.R_base ho0)
      have n3_ := RE HO310 hb (Kd.R_base ho0)
      have n4_ := RB HO312 hb
      have n5_ := RE HO315 hb (Kd.R_base ho0)
      have n6_ := RB HO318 hb
      have n7_ := Aside0.mk (Kd.R_lower (Kd.R_newB (Kd.R_new' (Kd.R_new' (Kd.R_new' (Kd.R_new' ho0 (Kd.R_lt (RD HO298))) (Kd.R_lt (RD HO306))) (Kd.R_lt (RD HO310))) (Kd.R_lt (RD HO315))) (g := gb293) (o := .cells #[.int .i64 a1_0, .int .u8 a1_1, .bool a1_2] 39 (0, 0)) (by (with_reducible repeat (first | refine blk_drewN ?_ _ | refine blk_drew ?_ | refine blk_alloc ?_ _)); exact BK293.out)) (below_size (by repeat (first | (with_reducible first | exact HB.out | apply below_alloc | apply pw_below_drewN | apply below_drew1 | refine below_set ?_ GE293.out) | exact HB.out))))
      have n8_ := Aside0.mk (blk_below (g := gb293) (o := .cells #[.int .i64 a1_0, .int .u8 a1_1, .bool a1_2] 39 (0, 0)) (by (with_reducible repeat (first | refine blk_drewN ?_ _ | refine blk_drew ?_ | refine blk_alloc ?_ _)); exact BK293.out) hb)
      have n9_ := Aside0.mk (below_step (by repeat (first | (with_reducible first | exact HB.out | apply below_alloc | apply pw_below_drewN | apply below_drew1 | refine below_set ?_ GE293.out) | exact HB.out)) hb)
      clear HO298
      clear HO300
      clear HO306
      clear HO310
      clear HO312
      clear HO315
      clear HO318
      clear BK293
      clear HB
      have HO298 := n0_
      have HO300 := n1_
      have HO306 := n2_
      have HO310 := n3_
      have HO312 := n4_
      have HO315 := n5_
      have HO318 := n6_
      have HO321 := n7_
      have BK293 := n8_
      have HB := n9_
      clear n0_ n1_ n2_ n3_ n4_ n5_ n6_ n7_ n8_ n9_
      (try clear hb)
      (try clear hb2)
      (try clear hk)
      (try clear hi)
      (try clear ho0)
      obtain ⟨Ao63, co63, eo63⟩ := Kd.R_slice HO321.out
      (first | subst eo63 | (injection eo63 with f1_ f2_ f3_; have f4_ := f1_.symm; have f5_ := f3_.symm; clear f1_ f2_ f3_; subst f4_; subst f5_))
      refine hK.out _ _ ⟨(blk_cell BK293.out 0).trans rfl, (blk_cell BK293.out 1).trans rfl, (blk_cell BK293.out 2).trans rfl⟩ (fun hHeld => ?_)
      clear hK K
      refine norm_ (a' := ?_) ?_ ?_
      rotate_left
      ·show Act.put _ (some 44) _ = _
       simp only [Act.put, s0_, s1_, s2_, i64_w, i32_w]
       rfl
      refine one_ (i := 11) (N := some 45) u10_12 rfl rfl (one_of HT_.out (by kernel_rfl)) (by decide) (fun K hK => ?_)
      refine goes_ Try.func9 (by kernel_rfl) rfl #[.slice Ao63 t319.length co63] (by rfl) rfl rfl (by (try simp only [List.map_toArray, List.map_cons, List.map_nil]); first | done | rfl | (simp only [List.length_drop, List.length_take]; rfl)) ?_
      with_reducible refine (clepsydralaw20_plain.calls k _ _ t319 t322 _ ?side1 ?side2 A22.out).mono ?_
      (case side1 => exact CD ((Kd.R_reads' HO321.out).2.2))
      (case side2 => exact (Kd.R_reads' HO321.out).2.1)
      rintro e w64 ⟨v323, rfl, ho0, hb⟩
      refine ⟨_, rfl, ?_⟩
      have n0_ := RB HO298 hb
      have n1_ := RB HO300 hb
      have n2_ := RB HO306 hb
      have n3_ := RB HO310 hb
      have n4_ := RB HO312 hb
      have n5_ := RB HO315 hb
      have n6_ := RE HO318 hb (Kd.R_base ho0)
      have n7_ := RB HO321 hb
      have n8_ := Aside0.mk (Kd.R_lower (Kd.R_new' ho0 (Kd.R_lt (RD HO318))) (below_size (by repeat (first | (with_reducible first | exact HB.out | apply below_alloc | apply pw_below_drewN | apply below_drew1 | refine below_set ?_ GE293.out) | exact HB.out))))
      have n9_ := Aside0.mk (blk_below (g := gb293) (o := .cells #[.int .i64 a1_0, .int .u8 a1_1, .bool a1_2] 39 (0, 0)) (by (with_reducible repeat (first | refine blk_drewN ?_ _ | refine blk_drew ?_ | refine blk_alloc ?_ _)); exact BK293.out) hb)
      have n10_ := Aside0.mk (below_step (by repeat (first | (with_reducible first | exact HB.out | apply below_alloc | apply pw_below_drewN | apply below_drew1 | refine below_set ?_ GE293.out) | exact HB.out)) hb)
      clear HO298
      clear HO300
      clear HO306
      clear HO310
      clear HO312
      clear HO315
      clear HO318
      clear HO321
      clear BK293
      clear HB
      have HO298 := n0_
      have HO300 := n1_
      have HO306 := n2_
      have HO310 := n3_
      have HO312 := n4_
      have HO315 := n5_
      have HO318 := n6_
      have HO321 := n7_
      have HO324 := n8_
      have BK293 := n9_
      have HB := n10_
      clear n0_ n1_ n2_ n3_ n4_ n5_ n6_ n7_ n8_ n9_ n10_
      (try clear hb)
      (try clear hb2)
      (try clear hk)
      (try clear hi)
      (try clear ho0)
      obtain ⟨Ao65, co65, eo65⟩ := Kd.R_slice HO318.out
      (first | subst eo65 | (injection eo65 with f1_ f2_ f3_; have f4_ := f1_.symm; have f5_ := f3_.symm; clear f1_ f2_ f3_; subst f4_; subst f5_))
      obtain ⟨Ao66, co66, eo66⟩ := Kd.R_slice HO324.out
      (first | subst eo66 | (injection eo66 with f1_ f2_ f3_; have f4_ := f1_.symm; have f5_ := f3_.symm; clear f1_ f2_ f3_; subst f4_; subst f5_))
      refine hK.out _ _ ⟨(blk_cell BK293.out 0).trans rfl, (blk_cell BK293.out 1).trans rfl, (blk_cell BK293.out 2).trans rfl⟩ (fun hHeld => ?_)
      clear hK K
      refine norm_ (a' := ?_) ?_ ?_
      rotate_left
      ·show Act.put _ (some 45) _ = _
       simp only [Act.put, s0_, s1_, s2_, i64_w, i32_w]
       rfl
      refine one_ (i := 12) (N := some 46) u10_13 rfl rfl (one_of HT_.out (by kernel_rfl)) (by decide) (fun K hK => ?_)
      refine goes_ Try.func13 (by kernel_rfl) rfl #[.slice Ao65 t316.length co65, .slice Ao66 t322.length co66] (by rfl) rfl rfl (by (try simp only [List.map_toArray, List.map_cons, List.map_nil]); first | done | rfl | (simp only [List.length_drop, List.length_take]; rfl)) ?_
      with_reducible refine (clepsydralaw20_same.calls k _ _ t316 _ _ t322 false _ ?side1 ?side2 ?side3 ?side4 A23.out).mono ?_
      (case side1 => exact CD ((Kd.R_reads' HO318.out).2.2))
      (case side2 => exact (Kd.R_reads' HO318.out).2.1)
      (case side3 => exact CD ((Kd.R_reads' HO324.out).2.2))
      (case side4 => exact (Kd.R_reads' HO324.out).2.1)
      rintro e w' ⟨rfl, ⟨nd, rfl⟩⟩
      refine ⟨_, rfl, ?_⟩
      refine hK.out _ _ ⟨(blk_cell BK293.out 0).trans rfl, (blk_cell BK293.out 1).trans rfl, (blk_cell BK293.out 2).trans rfl⟩ (fun hHeld => ?_)
      clear hK K
      refine norm_ (a' := ?_) ?_ ?_
      rotate_left
      ·show Act.put _ (some 46) _ = _
       simp only [Act.put, s0_, s1_, s2_, i64_w, i32_w]
       rfl
      refine pure_ (i := 13) (N := some 47) (v := ?_) (a' := ?_) u10_14 rfl rfl (any_of HT_.out (by kernel_rfl)) (fun _ _ _ h => h) (Or.inl ⟨by rfl, ?_⟩) ?_ ?_
      rotate_left
      ·intro w'
       go_simp
       with_reducible rfl
      rotate_left
      ·simp only [Act.put, s0_, s1_, s2_, i64_w, i32_w]
       rfl
      refine pure_ (i := 14) (N := some 48) (v := ?_) (a' := ?_) u10_15 rfl rfl (any_of HT_.out (by kernel_rfl)) (fun _ _ _ h => h) (Or.inl ⟨by rfl, ?_⟩) ?_ ?_
      rotate_left
      ·intro w'
       go_simp
       with_reducible rfl
      rotate_left
      ·simp only [Act.put, s0_, s1_, s2_, i64_w, i32_w]
       rfl
      refine pure_ (i := 15) (N := some 49) (v := undef) (a' := ?_) u10_16 rfl rfl (any_of HT_.out (by kernel_rfl)) (fun _ _ _ h => h) (Or.inr ⟨by rfl, rfl⟩) ?_ ?_
      rotate_left
      ·simp only [Act.put, s0_, s1_, s2_, i64_w, i32_w]
       rfl
      refine pure_ (i := 16) (N := some 50) (v := undef) (a' := ?_) u10_17 rfl rfl (any_of HT_.out (by kernel_rfl)) (fun _ _ _ h => h) (Or.inr ⟨by rfl, rfl⟩) ?_ ?_
      rotate_left
      ·simp only [Act.put, s0_, s1_, s2_, i64_w, i32_w]
       rfl
      refine pure_ (i := 17) (N := some 51) (v := undef) (a' := ?_) u10_18 rfl rfl (any_of HT_.out (by kernel_rfl)) (fun _ _ _ h => h) (Or.inr ⟨by rfl, rfl⟩) ?_ ?_
      rotate_left
      ·simp only [Act.put, s0_, s1_, s2_, i64_w, i32_w]
       rfl
      refine pure_ (i := 18) (N := some 52) (v := undef) (a' := ?_) u10_19 rfl rfl (any_of HT_.out (by kernel_rfl)) (fun _ _ _ h => h) (Or.inr ⟨by rfl, rfl⟩) ?_ ?_
      rotate_left
      ·simp only [Act.put, s0_, s1_, s2_, i64_w, i32_w]
       rfl
      refine pure_ (i := 19) (N := some 53) (v := undef) (a' := ?_) u10_20 rfl rfl (any_of HT_.out (by kernel_rfl)) (fun _ _ _ h => h) (Or.inr ⟨by rfl, rfl⟩) ?_ ?_
      rotate_left
      ·simp only [Act.put, s0_, s1_, s2_, i64_w, i32_w]
       rfl
      refine pure_ (i := 20) (N := some 54) (v := undef) (a' := ?_) u10_21 rfl rfl (any_of HT_.out (by kernel_rfl)) (fun _ _ _ h => h) (Or.inr ⟨by rfl, rfl⟩) ?_ ?_
      rotate_left
      ·simp only [Act.put, s0_, s1_, s2_, i64_w, i32_w]
       rfl
      refine pure_ (i := 21) (N := some 55) (v := undef) (a' := ?_) u10_22 rfl rfl (any_of HT_.out (by kernel_rfl)) (fun _ _ _ h => h) (Or.inr ⟨by rfl, rfl⟩) ?_ ?_
      rotate_left
      ·simp only [Act.put, s0_, s1_, s2_, i64_w, i32_w]
       rfl
      refine pure_ (i := 22) (N := some 56) (v := undef) (a' := ?_) u10_23 rfl rfl (any_of HT_.out (by kernel_rfl)) (fun _ _ _ h => h) (Or.inr ⟨by rfl, rfl⟩) ?_ ?_
      rotate_left
      ·simp only [Act.put, s0_, s1_, s2_, i64_w, i32_w]
       rfl
      refine pure_ (i := 23) (N := some 57) (v := undef) (a' := ?_) u10_24 rfl rfl (any_of HT_.out (by kernel_rfl)) (fun _ _ _ h => h) (Or.inr ⟨by rfl, rfl⟩) ?_ ?_
      rotate_left
      ·simp only [Act.put, s0_, s1_, s2_, i64_w, i32_w]
       rfl
      refine pure_ (i := 24) (N := some 58) (v := undef) (a' := ?_) u10_25 rfl rfl (any_of HT_.out (by kernel_rfl)) (fun _ _ _ h => h) (Or.inr ⟨by rfl, rfl⟩) ?_ ?_
      rotate_left
      ·simp only [Act.put, s0_, s1_, s2_, i64_w, i32_w]
       rfl
      refine pure_ (i := 25) (N := some 59) (v := ?_) (a' := ?_) u10_26 rfl rfl (any_of HT_.out (by kernel_rfl)) (fun _ _ _ h => h) (Or.inl ⟨by rfl, ?_⟩) ?_ ?_
      rotate_left
      ·intro w'
       go_simp
       with_reducible rfl
      rotate_left
      ·simp only [Act.put, s0_, s1_, s2_, i64_w, i32_w]
       rfl
      refine pure_ (i := 26) (N := some 60) (v := ?_) (a' := ?_) u10_27 rfl rfl (any_of HT_.out (by kernel_rfl)) (fun _ _ _ h => h) (Or.inl ⟨by rfl, ?_⟩) ?_ ?_
      rotate_left
      ·intro w'
       go_simp
       with_reducible rfl
      rotate_left
      ·simp only [Act.put, s0_, s1_, s2_, i64_w, i32_w]
       rfl
      refine pure_ (i := 27) (N := some 61) (v := undef) (a' := ?_) u10_28 rfl rfl (any_of HT_.out (by kernel_rfl)) (fun _ _ _ h => h) (Or.inr ⟨by rfl, rfl⟩) ?_ ?_
      rotate_left
      ·simp only [Act.put, s0_, s1_, s2_, i64_w, i32_w]
       rfl
      refine pure_ (i := 28) (N := some 62) (v := undef) (a' := ?_) u10_29 rfl rfl (any_of HT_.out (by kernel_rfl)) (fun _ _ _ h => h) (Or.inr ⟨by rfl, rfl⟩) ?_ ?_
      rotate_left
      ·simp only [Act.put, s0_, s1_, s2_, i64_w, i32_w]
       rfl
      refine pure_ (i := 29) (N := some 63) (v := undef) (a' := ?_) u10_30 rfl rfl (any_of HT_.out (by kernel_rfl)) (fun _ _ _ h => h) (Or.inr ⟨by rfl, rfl⟩) ?_ ?_
      rotate_left
      ·simp only [Act.put, s0_, s1_, s2_, i64_w, i32_w]
       rfl
      refine pure_ (i := 30) (N := some 64) (v := undef) (a' := ?_) u10_31 rfl rfl (any_of HT_.out (by kernel_rfl)) (fun _ _ _ h => h) (Or.inr ⟨by rfl, rfl⟩) ?_ ?_
      rotate_left
      ·simp only [Act.put, s0_, s1_, s2_, i64_w, i32_w]
       rfl
      refine pure_ (i := 31) (N := some 65) (v := undef) (a' := ?_) u10_32 rfl rfl (any_of HT_.out (by kernel_rfl)) (fun _ _ _ h => h) (Or.inr ⟨by rfl, rfl⟩) ?_ ?_
      rotate_left
      ·simp only [Act.put, s0_, s1_, s2_, i64_w, i32_w]
       rfl
      refine pure_ (i := 32) (N := some 66) (v := undef) (a' := ?_) u10_33 rfl rfl (any_of HT_.out (by kernel_rfl)) (fun _ _ _ h => h) (Or.inr ⟨by rfl, rfl⟩) ?_ ?_
      rotate_left
      ·simp only [Act.put, s0_, s1_, s2_, i64_w, i32_w]
       rfl
      refine pure_ (i := 33) (N := some 67) (v := undef) (a' := ?_) u10_34 rfl rfl (any_of HT_.out (by kernel_rfl)) (fun _ _ _ h => h) (Or.inr ⟨by rfl, rfl⟩) ?_ ?_
      rotate_left
      ·simp only [Act.put, s0_, s1_, s2_, i64_w, i32_w]
       rfl
      refine pure_ (i := 34) (N := some 68) (v := undef) (a' := ?_) u10_35 rfl rfl (any_of HT_.out (by kernel_rfl)) (fun _ _ _ h => h) (Or.inr ⟨by rfl, rfl⟩) ?_ ?_
      rotate_left
      ·simp only [Act.put, s0_, s1_, s2_, i64_w, i32_w]
       rfl
      refine pure_ (i := 35) (N := some 69) (v := undef) (a' := ?_) u10_36 rfl rfl (any_of HT_.out (by kernel_rfl)) (fun _ _ _ h => h) (Or.inr ⟨by rfl, rfl⟩) ?_ ?_
      rotate_left
      ·simp only [Act.put, s0_, s1_, s2_, i64_w, i32_w]
       rfl
      refine pure_ (i := 36) (N := some 70) (v := undef) (a' := ?_) u10_37 rfl rfl (any_of HT_.out (by kernel_rfl)) (fun _ _ _ h => h) (Or.inr ⟨by rfl, rfl⟩) ?_ ?_
      rotate_left
      ·simp only [Act.put, s0_, s1_, s2_, i64_w, i32_w]
       rfl
      refine pure_ (i := 37) (N := some 71) (v := ?_) (a' := ?_) u10_38 rfl rfl (any_of HT_.out (by kernel_rfl)) (fun _ _ _ h => h) (Or.inl ⟨by rfl, ?_⟩) ?_ ?_
      rotate_left
      ·intro w'
       go_simp
       with_reducible rfl
      rotate_left
      ·simp only [Act.put, s0_, s1_, s2_, i64_w, i32_w]
       rfl
      refine done_ (done_of HT_.out (by kernel_rfl)) ?_
      try go_wp2
      go_meet
      case rel => exact ⟨_, (true), (by first | rfl | (simp; done) | (simp [*]; done)), H', ⟨by first | omega | exact Nat.le_refl _⟩, ⟨by (with_reducible repeat (first | apply Kd.R_alloc | apply Kd.R_drewN | apply Kd.R_drew)); exact Kd.R_mono HO300.out (fun _ hk => hk.2)⟩, ⟨by (with_reducible repeat (first | apply Kd.R_alloc | apply Kd.R_drewN | apply Kd.R_drew)); exact Kd.R_mono HO312.out (fun _ hk => hk.2)⟩, ⟨by (with_reducible repeat (first | refine blk_drewN ?_ _ | refine blk_drew ?_ | refine blk_alloc ?_ _)); exact BK293.out⟩, ⟨by repeat (first | (with_reducible first | exact HB.out | apply below_alloc | apply pw_below_drewN | apply below_drew1 | refine below_set ?_ GE293.out) | exact HB.out)⟩⟩
    case rest =>
     clear HC11
     try clear c1
     try clear c2
     try clear p2
     try clear p6
     try clear c9
     try clear c13
     try clear c17
     try clear c24
     try clear p64
     obtain ⟨kq, x71_10, rfl, HA, HJ10, HO_6, HO_9, BK293, HB⟩ := hcut
     cases kq with
     | zero => exact absurd HA.out (by simp [clepsydralaw20_JobsMore.j0])
     | succ kj10 =>
      have H := HA.out
      clear HA
      simp only [clepsydralaw20_JobsMore.j0] at H
      by_cases c67 : x71_10 = true
      ·subst c67
       have H1 : (some false) = some r := by rw [if_pos rfl] at H; exact H
       clear H
       have H := H1
       clear H1
       obtain rfl := Option.some.inj H
       go_wp2
       go_ret
       exact ⟨by first | rfl | (simp [errW_none, errW_some] <;> rfl) | (simp [*, errW_none, errW_some] <;> rfl), by repeat (first | (with_reducible first | exact HB.out | apply below_alloc | apply pw_below_drewN | apply below_drew1 | refine below_set ?_ GE293.out) | exact HB.out)⟩
      ·replace c67 := Bool.eq_false_iff.mpr c67
       subst c67
       have H1 : (clepsydralaw20_JobsMore.l0 kj10 t296 t308 0 0 0 a1_0 a1_1 a1_2) = some r := by rw [if_neg (show ¬ (false = true) by decide)] at H; exact H
       clear H
       have H := H1
       clear H1
       have H' := Aside0.mk H
       clear H
       go_wp2
       go_loopg [10, 12] kj10 (fun kq v10 v12 w' => ∃ (x10_2 : Int) (x12_2 : Int), v10 = .int .i64 x10_2 ∧ v12 = .int .i64 x12_2 ∧ Aside0 (clepsydralaw20_JobsMore.l0 kq t296 t308 x10_2 0 x12_2 a1_0 a1_1 a1_2 = some r) ∧ Aside0 (kq ≤ kj10) ∧ Aside0 (Kd.R k35 35 w' w.heap.size (fun k_ => some k_ ≠ (v311 : Value).ownBlock) v299 t296) ∧ Aside0 (Kd.R k35 35 w' w.heap.size (fun k_ => some k_ ≠ (v299 : Value).ownBlock) v311 t308) ∧ Aside0 (w'.heap[gb293]? = some (.cells #[.int .i64 a1_0, .int .u8 a1_1, .bool a1_2] 39 (0, 0))) ∧ Aside0 (Below w.heap.size w w'))
       case atStart => exact ⟨(0), (0), (by first | rfl | (simp; done) | (simp [*]; done)), (by first | rfl | (simp; done) | (simp [*]; done)), H', ⟨Nat.le_refl _⟩, ⟨RD HO_6⟩, ⟨RD HO_9⟩, ⟨by (with_reducible repeat (first | refine blk_drewN ?_ _ | refine blk_drew ?_ | refine blk_alloc ?_ _)); exact BK293.out⟩, ⟨by repeat (first | (with_reducible first | exact HB.out | apply below_alloc | apply pw_below_drewN | apply below_drew1 | refine below_set ?_ GE293.out) | exact HB.out)⟩⟩
       case round =>
        clear H'
        try clear c1
        try clear c2
        try clear p2
        try clear c6
        try clear p6
        try clear c9
        try clear c13
        try clear c17
        try clear c24
        try clear p64
        try clear c67
        try clear p2
        try clear p6
        try clear p64
        obtain ⟨x10_2, x12_2, rfl, rfl, HA, HK2, HO_6, HO_9, BK293, HB⟩ := hrel
        cases gk with
        | zero => exact absurd HA.out (by simp [clepsydralaw20_JobsMore.l0])
        | succ k2 =>
         have H := HA.out
         clear HA
         simp only [clepsydralaw20_JobsMore.l0] at H
         by_cases c68 : x12_2 < (t296.length : Int)
         ·rw [if_pos c68] at H
          have c68b0 : decide (x12_2 < (t296.length : Int)) = true := decide_eq_true c68
          clear c68
          by_cases c69 : 0 ≤ x12_2
          ·rw [if_pos c69] at H
           have c69b0 : decide (0 ≤ x12_2) = true := decide_eq_true c69
           clear c69
           by_cases c70 : ((rd_T35 t296 x12_2).f0) = a1_0
           ·rw [if_pos c70] at H
            have c70b0 : (((rd_T35 t296 x12_2).f0) == a1_0) = true := beq_iff_eq.mpr c70
            have c70b1 : (((rd_T35 t296 x12_2).f0) != a1_0) = false := bne_eq_false_iff_eq.mpr c70
            clear c70
            have H' := Aside0.mk H
            clear H
            obtain ⟨Ao71, co71, eo71⟩ := Kd.R_slice HO_6.out
            subst eo71
            try go_wp2
            have n0_ := Aside0.mk (Kd.R_drew HO_6.out)
            have n1_ := Aside0.mk (Kd.R_drew HO_9.out)
            have n2_ := Aside0.mk (blk_drew BK293.out)
            have n3_ := Aside0.mk (below_drew1 HB.out)
            clear HO_6
            clear HO_9
            clear BK293
            clear HB
            have HO_6 := n0_
            have HO_9 := n1_
            have BK293 := n2_
            have HB := n3_
            clear n0_ n1_ n2_ n3_
            have p332 : 0 ≤ (x12_2 : Int) := of_decide_eq_true (by first | (with_reducible assumption) | assumption)
            have q332 : x12_2 < (t296.length : Int) := of_decide_eq_true (by first | (with_reducible assumption) | assumption)
            obtain ⟨ad332, e332, hx332_0, hx332_1⟩ := at_T35 (Kd.R_reads' HO_6.out).2.2 x12_2 p332 q332
            cases e332
            replace p332 := eq_true p332
            replace q332 := eq_true q332
            refine start_ (n := 9) (S := fun w' => w'.cell? ⟨gb293, 0, none⟩ = some (.int .i64 a1_0) ∧ w'.cell? ⟨gb293, 1, none⟩ = some (.int .u8 a1_1) ∧ w'.cell? ⟨gb293, 2, none⟩ = some (.bool a1_2) ∧ w'.cell? (ad332.add ((x12_2).toNat * 2)) = some (.int .i64 ((rd_T35 t296 x12_2).f0)) ∧ w'.cell? ⟨(ad332.add ((x12_2).toNat * 2)).block, (ad332.add ((x12_2).toNat * 2)).off + 1, none⟩ = some (.int .u8 ((rd_T35 t296 x12_2).f1))) (ds := []) u10_39 (by kernel_rfl) rfl rfl ⟨(blk_cell BK293.out 0).trans rfl, (blk_cell BK293.out 1).trans rfl, (blk_cell BK293.out 2).trans rfl, hx332_0, hx332_1⟩ (fun hHeld => ?_); refine with_tabW clepsydralaw20_JobsMore.tab13 clepsydralaw20_JobsMore.bits13 (fun HT_ HW_ => ?_)
            generalize wr.drew = w72 at HO_6 HO_9 BK293 HB hx332_0 hx332_1 hHeld ⊢
            refine pure_ (i := 0) (N := some 78) (v := ?_) (a' := ?_) u10_40 rfl rfl (any_of HT_.out (by kernel_rfl)) (fun _ _ _ h => h) (Or.inl ⟨by rfl, ?_⟩) ?_ ?_
            rotate_left
            ·intro w'
             go_simp
             with_reducible rfl
            rotate_left
            ·simp only [Act.put, s0_, s1_, s2_, i64_w, i32_w]
             rfl
            refine pure_ (i := 1) (N := some 79) (v := ?_) (a' := ?_) u10_41 rfl rfl (any_of HT_.out (by kernel_rfl)) (fun _ _ _ h => h) (Or.inl ⟨by rfl, ?_⟩) ?_ ?_
            rotate_left
            ·intro w'
             go_simp
             with_reducible rfl
            rotate_left
            ·simp only [Act.put, s0_, s1_, s2_, i64_w, i32_w]
             rfl
            refine pure_ (i := 2) (N := some 80) (v := ?_) (a' := ?_) u10_42 rfl rfl (any_of HT_.out (by kernel_rfl)) (fun _ _ _ h => h) (Or.inl ⟨by rfl, ?_⟩) ?_ ?_
            rotate_left
            ·intro w'
             go_simp
             with_reducible rfl
            rotate_left
            ·simp only [Act.put, s0_, s1_, s2_, i64_w, i32_w]
             rfl
            refine pure_ (i := 3) (N := some 81) (v := ?_) (a' := ?_) u10_43 rfl rfl (any_of HT_.out (by kernel_rfl)) (fun _ _ _ h => h) (Or.inl ⟨by rfl, ?_⟩) ?_ ?_
            rotate_left
            ·intro w'
             go_simp
             with_reducible rfl
            rotate_left
            ·simp only [Act.put, s0_, s1_, s2_, i64_w, i32_w]
             rfl
            refine pure_ (i := 5) (N := some 83) (v := ?_) (a' := ?_) u10_44 rfl rfl (any_of HT_.out (by kernel_rfl)) (fun _ _ _ h => h) (Or.inl ⟨by rfl, ?_⟩) ?_ ?_
            rotate_left
            ·intro w'
             go_simp
             with_reducible rfl
            rotate_left
            ·simp only [Act.put, s0_, s1_, s2_, i64_w, i32_w]
             rfl
            refine pure_ (i := 6) (N := some 84) (v := ?_) (a' := ?_) u10_45 rfl rfl (any_of HT_.out (by kernel_rfl)) (fun _ _ _ h => h) (Or.inl ⟨by rfl, ?_⟩) ?_ ?_
            rotate_left
            ·intro w'
             go_simp
             with_reducible rfl
            rotate_left
            ·simp only [Act.put, s0_, s1_, s2_, i64_w, i32_w]
             rfl
            refine take_ (i := 4) (N := some 82) (v := ?_) (a' := ?_) u10_46 rfl rfl (take_ofW HT_.out HW_.out (by kernel_rfl)) (fun _ _ _ h => h) (Or.inl ⟨by rfl, ?_⟩) hHeld ?_ ?_
            rotate_left
            ·rintro w' ⟨s0, s1, s2, s3, s4⟩
             go_simp
             with_reducible rfl
            rotate_left
            ·simp only [Act.put, s0_, s1_, s2_, i64_w, i32_w]
             rfl
            refine take_ (i := 7) (N := some 85) (v := ?_) (a' := ?_) u10_47 rfl rfl (take_ofW HT_.out HW_.out (by kernel_rfl)) (fun _ _ _ h => h) (Or.inl ⟨by rfl, ?_⟩) hHeld ?_ ?_
            rotate_left
            ·rintro w' ⟨s0, s1, s2, s3, s4⟩
             go_simp
             with_reducible rfl
            rotate_left
            ·simp only [Act.put, s0_, s1_, s2_, i64_w, i32_w]
             rfl
            refine pure_ (i := 8) (N := some 86) (v := ?_) (a' := ?_) u10_48 rfl rfl (any_of HT_.out (by kernel_rfl)) (fun _ _ _ h => h) (Or.inl ⟨by rfl, ?_⟩) ?_ ?_
            rotate_left
            ·intro w'
             go_simp
             with_reducible rfl
            rotate_left
            ·simp only [Act.put, s0_, s1_, s2_, i64_w, i32_w]
             rfl
            refine done_ (done_of HT_.out (by kernel_rfl)) ?_
            try go_wp2
            go_roundg k2
            case measure => have := HJ10.out; have := HK2.out; omega
            case rel => exact ⟨(wrap64 (x10_2 + 1)), (wrap64 (x12_2 + 1)), (by first | rfl | (simp; done) | (simp [*]; done)), (by first | rfl | (simp; done) | (simp [*]; done)), H', ⟨by have := HJ10.out; have := HK2.out; omega⟩, ⟨RD HO_6⟩, ⟨RD HO_9⟩, ⟨by (with_reducible repeat (first | refine blk_drewN ?_ _ | refine blk_drew ?_ | refine blk_alloc ?_ _)); exact BK293.out⟩, ⟨by repeat (first | (with_reducible first | exact HB.out | apply below_alloc | apply pw_below_drewN | apply below_drew1 | refine below_set ?_ GE293.out) | exact HB.out)⟩⟩
           ·rw [if_neg c70] at H
            have c70b0 : (((rd_T35 t296 x12_2).f0) == a1_0) = false := beq_eq_false_iff_ne.mpr c70
            have c70b1 : (((rd_T35 t296 x12_2).f0) != a1_0) = true := bne_iff_ne.mpr c70
            have H' := Aside0.mk H
            clear H
            obtain ⟨Ao73, co73, eo73⟩ := Kd.R_slice HO_6.out
            subst eo73
            try go_wp2
            have n0_ := Aside0.mk (Kd.R_drew HO_6.out)
            have n1_ := Aside0.mk (Kd.R_drew HO_9.out)
            have n2_ := Aside0.mk (blk_drew BK293.out)
            have n3_ := Aside0.mk (below_drew1 HB.out)
            clear HO_6
            clear HO_9
            clear BK293
            clear HB
            have HO_6 := n0_
            have HO_9 := n1_
            have BK293 := n2_
            have HB := n3_
            clear n0_ n1_ n2_ n3_
            have p332 : 0 ≤ (x12_2 : Int) := of_decide_eq_true (by first | (with_reducible assumption) | assumption)
            have q332 : x12_2 < (t296.length : Int) := of_decide_eq_true (by first | (with_reducible assumption) | assumption)
            obtain ⟨ad332, e332, hx332_0, hx332_1⟩ := at_T35 (Kd.R_reads' HO_6.out).2.2 x12_2 p332 q332
            cases e332
            replace p332 := eq_true p332
            replace q332 := eq_true q332
            refine start_ (n := 9) (S := fun w' => w'.cell? ⟨gb293, 0, none⟩ = some (.int .i64 a1_0) ∧ w'.cell? ⟨gb293, 1, none⟩ = some (.int .u8 a1_1) ∧ w'.cell? ⟨gb293, 2, none⟩ = some (.bool a1_2) ∧ w'.cell? (ad332.add ((x12_2).toNat * 2)) = some (.int .i64 ((rd_T35 t296 x12_2).f0)) ∧ w'.cell? ⟨(ad332.add ((x12_2).toNat * 2)).block, (ad332.add ((x12_2).toNat * 2)).off + 1, none⟩ = some (.int .u8 ((rd_T35 t296 x12_2).f1))) (ds := []) u10_39 (by kernel_rfl) rfl rfl ⟨(blk_cell BK293.out 0).trans rfl, (blk_cell BK293.out 1).trans rfl, (blk_cell BK293.out 2).trans rfl, hx332_0, hx332_1⟩ (fun hHeld => ?_); refine with_tabW clepsydralaw20_JobsMore.tab13 clepsydralaw20_JobsMore.bits13 (fun HT_ HW_ => ?_)
            generalize wr.drew = w74 at HO_6 HO_9 BK293 HB hx332_0 hx332_1 hHeld ⊢
            refine pure_ (i := 0) (N := some 78) (v := ?_) (a' := ?_) u10_40 rfl rfl (any_of HT_.out (by kernel_rfl)) (fun _ _ _ h => h) (Or.inl ⟨by rfl, ?_⟩) ?_ ?_
            rotate_left
            ·intro w'
             go_simp
             with_reducible rfl
            rotate_left
            ·simp only [Act.put, s0_, s1_, s2_, i64_w, i32_w]
             rfl
            refine pure_ (i := 1) (N := some 79) (v := ?_) (a' := ?_) u10_41 rfl rfl (any_of HT_.out (by kernel_rfl)) (fun _ _ _ h => h) (Or.inl ⟨by rfl, ?_⟩) ?_ ?_
            rotate_left
            ·intro w'
             go_simp
             with_reducible rfl
            rotate_left
            ·simp only [Act.put, s0_, s1_, s2_, i64_w, i32_w]
             rfl
            refine pure_ (i := 2) (N := some 80) (v := ?_) (a' := ?_) u10_42 rfl rfl (any_of HT_.out (by kernel_rfl)) (fun _ _ _ h => h) (Or.inl ⟨by rfl, ?_⟩) ?_ ?_
            rotate_left
            ·intro w'
             go_simp
             with_reducible rfl
            rotate_left
            ·simp only [Act.put, s0_, s1_, s2_, i64_w, i32_w]
             rfl
            refine pure_ (i := 3) (N := some 81) (v := ?_) (a' := ?_) u10_43 rfl rfl (any_of HT_.out (by kernel_rfl)) (fun _ _ _ h => h) (Or.inl ⟨by rfl, ?_⟩) ?_ ?_
            rotate_left
            ·intro w'
             go_simp
             with_reducible rfl
            rotate_left
            ·simp only [Act.put, s0_, s1_, s2_, i64_w, i32_w]
             rfl
            refine pure_ (i := 5) (N := some 83) (v := ?_) (a' := ?_) u10_44 rfl rfl (any_of HT_.out (by kernel_rfl)) (fun _ _ _ h => h) (Or.inl ⟨by rfl, ?_⟩) ?_ ?_
            rotate_left
            ·intro w'
             go_simp
             with_reducible rfl
            rotate_left
            ·simp only [Act.put, s0_, s1_, s2_, i64_w, i32_w]
             rfl
            refine pure_ (i := 6) (N := some 84) (v := ?_) (a' := ?_) u10_45 rfl rfl (any_of HT_.out (by kernel_rfl)) (fun _ _ _ h => h) (Or.inl ⟨by rfl, ?_⟩) ?_ ?_
            rotate_left
            ·intro w'
             go_simp
             with_reducible rfl
            rotate_left
            ·simp only [Act.put, s0_, s1_, s2_, i64_w, i32_w]
             rfl
            refine take_ (i := 4) (N := some 82) (v := ?_) (a' := ?_) u10_46 rfl rfl (take_ofW HT_.out HW_.out (by kernel_rfl)) (fun _ _ _ h => h) (Or.inl ⟨by rfl, ?_⟩) hHeld ?_ ?_
            rotate_left
            ·rintro w' ⟨s0, s1, s2, s3, s4⟩
             go_simp
             with_reducible rfl
            rotate_left
            ·simp only [Act.put, s0_, s1_, s2_, i64_w, i32_w]
             rfl
            refine take_ (i := 7) (N := some 85) (v := ?_) (a' := ?_) u10_47 rfl rfl (take_ofW HT_.out HW_.out (by kernel_rfl)) (fun _ _ _ h => h) (Or.inl ⟨by rfl, ?_⟩) hHeld ?_ ?_
            rotate_left
            ·rintro w' ⟨s0, s1, s2, s3, s4⟩
             go_simp
             with_reducible rfl
            rotate_left
            ·simp only [Act.put, s0_, s1_, s2_, i64_w, i32_w]
             rfl
            refine pure_ (i := 8) (N := some 86) (v := ?_) (a' := ?_) u10_48 rfl rfl (any_of HT_.out (by kernel_rfl)) (fun _ _ _ h => h) (Or.inl ⟨by rfl, ?_⟩) ?_ ?_
            rotate_left
            ·intro w'
             go_simp
             with_reducible rfl
            rotate_left
            ·simp only [Act.put, s0_, s1_, s2_, i64_w, i32_w]
             rfl
            refine done_ (done_of HT_.out (by kernel_rfl)) ?_
            try go_wp2
            go_roundg k2
            case measure => have := HJ10.out; have := HK2.out; omega
            case rel => exact ⟨(x10_2), (wrap64 (x12_2 + 1)), (by first | rfl | (simp; done) | (simp [*]; done)), (by first | rfl | (simp; done) | (simp [*]; done)), H', ⟨by have := HJ10.out; have := HK2.out; omega⟩, ⟨RD HO_6⟩, ⟨RD HO_9⟩, ⟨by (with_reducible repeat (first | refine blk_drewN ?_ _ | refine blk_drew ?_ | refine blk_alloc ?_ _)); exact BK293.out⟩, ⟨by repeat (first | (with_reducible first | exact HB.out | apply below_alloc | apply pw_below_drewN | apply below_drew1 | refine below_set ?_ GE293.out) | exact HB.out)⟩⟩
          ·rw [if_neg c69] at H
           exact absurd H (by simp)
         ·rw [if_neg c68] at H
          have c68b0 : decide (x12_2 < (t296.length : Int)) = false := decide_eq_false c68
          clear c68
          have H' := Aside0.mk H
          clear H
          obtain ⟨Ao75, co75, eo75⟩ := Kd.R_slice HO_6.out
          subst eo75
          go_wp2
          go_loopg [11, 13] k2 (fun kq v11 v13 w' => ∃ (x11_3 : Int) (x13_3 : Int), v11 = .int .i64 x11_3 ∧ v13 = .int .i64 x13_3 ∧ Aside0 (clepsydralaw20_JobsMore.l1 kq t296 t308 x10_2 x11_3 x13_3 a1_0 a1_1 a1_2 = some r) ∧ Aside0 (kq ≤ k2) ∧ Aside0 (Kd.R k35 35 w' w.heap.size (fun k_ => some k_ ≠ (v311 : Value).ownBlock) (.slice Ao75 t296.length co75) t296) ∧ Aside0 (Kd.R k35 35 w' w.heap.size (fun k_ => some k_ ≠ ((.slice Ao75 t296.length co75) : Value).ownBlock) v311 t308) ∧ Aside0 (w'.heap[gb293]? = some (.cells #[.int .i64 a1_0, .int .u8 a1_1, .bool a1_2] 39 (0, 0))) ∧ Aside0 (Below w.heap.size w w'))
          case atStart => exact ⟨(0), (0), (by first | rfl | (simp; done) | (simp [*]; done)), (by first | rfl | (simp; done) | (simp [*]; done)), H', ⟨Nat.le_refl _⟩, ⟨RD HO_6⟩, ⟨RD HO_9⟩, ⟨by (with_reducible repeat (first | refine blk_drewN ?_ _ | refine blk_drew ?_ | refine blk_alloc ?_ _)); exact BK293.out⟩, ⟨by repeat (first | (with_reducible first | exact HB.out | apply below_alloc | apply pw_below_drewN | apply below_drew1 | refine below_set ?_ GE293.out) | exact HB.out)⟩⟩
          case round =>
           clear H'
           try clear c1
           try clear c2
           try clear p2
           try clear p3
           try clear q3
           try clear hx3
           try clear c6
           try clear p6
           try clear c7
           try clear c9
           try clear c13
           try clear c17
           try clear c24
           try clear p33
           try clear q33
           try clear hx33
           try clear p64
           try clear c67
           try clear c68
           try clear c68b0
           try clear c69
           try clear c69b0
           try clear c70
           try clear c70b0
           try clear c70b1
           try clear hx332_0
           try clear hx332_1
           try clear p2
           try clear p332
           try clear p6
           try clear p64
           try clear q332
           obtain ⟨x11_3, x13_3, rfl, rfl, HA, HK3, HO_6, HO_9, BK293, HB⟩ := hrel
           cases gk with
           | zero => exact absurd HA.out (by simp [clepsydralaw20_JobsMore.l1])
           | succ k3 =>
            have H := HA.out
            clear HA
            simp only [clepsydralaw20_JobsMore.l1] at H
            by_cases c76 : x13_3 < (t308.length : Int)
            ·rw [if_pos c76] at H
             have c76b0 : decide (x13_3 < (t308.length : Int)) = true := decide_eq_true c76
             clear c76
             by_cases c77 : 0 ≤ x13_3
             ·rw [if_pos c77] at H
              have c77b0 : decide (0 ≤ x13_3) = true := decide_eq_true c77
              clear c77
              by_cases c78 : ((rd_T35 t308 x13_3).f0) = a1_0
              ·rw [if_pos c78] at H
               have c78b0 : (((rd_T35 t308 x13_3).f0) == a1_0) = true := beq_iff_eq.mpr c78
               have c78b1 : (((rd_T35 t308 x13_3).f0) != a1_0) = false := bne_eq_false_iff_eq.mpr c78
               clear c78
               have H' := Aside0.mk H
               clear H
               obtain ⟨Ao79, co79, eo79⟩ := Kd.R_slice HO_9.out
               subst eo79
               try go_wp2
               have n0_ := Aside0.mk (Kd.R_drew HO_6.out)
               have n1_ := Aside0.mk (Kd.R_drew HO_9.out)
               have n2_ := Aside0.mk (blk_drew BK293.out)
               have n3_ := Aside0.mk (below_drew1 HB.out)
               clear HO_6
               clear HO_9
               clear BK293
               clear HB
               have HO_6 := n0_
               have HO_9 := n1_
               have BK293 := n2_
               have HB := n3_
               clear n0_ n1_ n2_ n3_
               have p333 : 0 ≤ (x13_3 : Int) := of_decide_eq_true (by first | (with_reducible assumption) | assumption)
               have q333 : x13_3 < (t308.length : Int) := of_decide_eq_true (by first | (with_reducible assumption) | assumption)
               obtain ⟨ad333, e333, hx333_0, hx333_1⟩ := at_T35 (Kd.R_reads' HO_9.out).2.2 x13_3 p333 q333
               cases e333
               replace p333 := eq_true p333
               replace q333 := eq_true q333
               refine start_ (n := 9) (S := fun w' => w'.cell? ⟨gb293, 0, none⟩ = some (.int .i64 a1_0) ∧ w'.cell? ⟨gb293, 1, none⟩ = some (.int .u8 a1_1) ∧ w'.cell? ⟨gb293, 2, none⟩ = some (.bool a1_2) ∧ w'.cell? (ad333.add ((x13_3).toNat * 2)) = some (.int .i64 ((rd_T35 t308 x13_3).f0)) ∧ w'.cell? ⟨(ad333.add ((x13_3).toNat * 2)).block, (ad333.add ((x13_3).toNat * 2)).off + 1, none⟩ = some (.int .u8 ((rd_T35 t308 x13_3).f1))) (ds := []) u10_39 (by kernel_rfl) rfl rfl ⟨(blk_cell BK293.out 0).trans rfl, (blk_cell BK293.out 1).trans rfl, (blk_cell BK293.out 2).trans rfl, hx333_0, hx333_1⟩ (fun hHeld => ?_); refine with_tabW clepsydralaw20_JobsMore.tab18 clepsydralaw20_JobsMore.bits18 (fun HT_ HW_ => ?_)
               generalize wr.drew = w80 at HO_6 HO_9 BK293 HB hx333_0 hx333_1 hHeld ⊢
               refine pure_ (i := 0) (N := some 95) (v := ?_) (a' := ?_) u10_40 rfl rfl (any_of HT_.out (by kernel_rfl)) (fun _ _ _ h => h) (Or.inl ⟨by rfl, ?_⟩) ?_ ?_
               rotate_left
               ·intro w'
                go_simp
                with_reducible rfl
               rotate_left
               ·simp only [Act.put, s0_, s1_, s2_, i64_w, i32_w]
                rfl
               refine pure_ (i := 1) (N := some 96) (v := ?_) (a' := ?_) u10_41 rfl rfl (any_of HT_.out (by kernel_rfl)) (fun _ _ _ h => h) (Or.inl ⟨by rfl, ?_⟩) ?_ ?_
               rotate_left
               ·intro w'
                go_simp
                with_reducible rfl
               rotate_left
               ·simp only [Act.put, s0_, s1_, s2_, i64_w, i32_w]
                rfl
               refine pure_ (i := 2) (N := some 97) (v := ?_) (a' := ?_) u10_42 rfl rfl (any_of HT_.out (by kernel_rfl)) (fun _ _ _ h => h) (Or.inl ⟨by rfl, ?_⟩) ?_ ?_
               rotate_left
               ·intro w'
                go_simp
                with_reducible rfl
               rotate_left
               ·simp only [Act.put, s0_, s1_, s2_, i64_w, i32_w]
                rfl
               refine pure_ (i := 3) (N := some 98) (v := ?_) (a' := ?_) u10_43 rfl rfl (any_of HT_.out (by kernel_rfl)) (fun _ _ _ h => h) (Or.inl ⟨by rfl, ?_⟩) ?_ ?_
               rotate_left
               ·intro w'
                go_simp
                with_reducible rfl
               rotate_left
               ·simp only [Act.put, s0_, s1_, s2_, i64_w, i32_w]
                rfl
               refine pure_ (i := 5) (N := some 100) (v := ?_) (a' := ?_) u10_44 rfl rfl (any_of HT_.out (by kernel_rfl)) (fun _ _ _ h => h) (Or.inl ⟨by rfl, ?_⟩) ?_ ?_
               rotate_left
               ·intro w'
                go_simp
                with_reducible rfl
               rotate_left
               ·simp only [Act.put, s0_, s1_, s2_, i64_w, i32_w]
                rfl
               refine pure_ (i := 6) (N := some 101) (v := ?_) (a' := ?_) u10_45 rfl rfl (any_of HT_.out (by kernel_rfl)) (fun _ _ _ h => h) (Or.inl ⟨by rfl, ?_⟩) ?_ ?_
               rotate_left
               ·intro w'
                go_simp
                with_reducible rfl
               rotate_left
               ·simp only [Act.put, s0_, s1_, s2_, i64_w, i32_w]
                rfl
               refine take_ (i := 4) (N := some 99) (v := ?_) (a' := ?_) u10_46 rfl rfl (take_ofW HT_.out HW_.out (by kernel_rfl)) (fun _ _ _ h => h) (Or.inl ⟨by rfl, ?_⟩) hHeld ?_ ?_
               rotate_left
               ·rintro w' ⟨s0, s1, s2, s3, s4⟩
                go_simp
                with_reducible rfl
               rotate_left
               ·simp only [Act.put, s0_, s1_, s2_, i64_w, i32_w]
                rfl
               refine take_ (i := 7) (N := some 102) (v := ?_) (a' := ?_) u10_47 rfl rfl (take_ofW HT_.out HW_.out (by kernel_rfl)) (fun _ _ _ h => h) (Or.inl ⟨by rfl, ?_⟩) hHeld ?_ ?_
               rotate_left
               ·rintro w' ⟨s0, s1, s2, s3, s4⟩
                go_simp
                with_reducible rfl
               rotate_left
               ·simp only [Act.put, s0_, s1_, s2_, i64_w, i32_w]
                rfl
               refine pure_ (i := 8) (N := some 103) (v := ?_) (a' := ?_) u10_48 rfl rfl (any_of HT_.out (by kernel_rfl)) (fun _ _ _ h => h) (Or.inl ⟨by rfl, ?_⟩) ?_ ?_
               rotate_left
               ·intro w'
                go_simp
                with_reducible rfl
               rotate_left
               ·simp only [Act.put, s0_, s1_, s2_, i64_w, i32_w]
                rfl
               refine done_ (done_of HT_.out (by kernel_rfl)) ?_
               try go_wp2
               go_roundg k3
               case measure => have := HJ10.out; have := HK2.out; have := HK3.out; omega
               case rel => exact ⟨(wrap64 (x11_3 + 1)), (wrap64 (x13_3 + 1)), (by first | rfl | (simp; done) | (simp [*]; done)), (by first | rfl | (simp; done) | (simp [*]; done)), H', ⟨by have := HJ10.out; have := HK2.out; have := HK3.out; omega⟩, ⟨RD HO_6⟩, ⟨RD HO_9⟩, ⟨by (with_reducible repeat (first | refine blk_drewN ?_ _ | refine blk_drew ?_ | refine blk_alloc ?_ _)); exact BK293.out⟩, ⟨by repeat (first | (with_reducible first | exact HB.out | apply below_alloc | apply pw_below_drewN | apply below_drew1 | refine below_set ?_ GE293.out) | exact HB.out)⟩⟩
              ·rw [if_neg c78] at H
               have c78b0 : (((rd_T35 t308 x13_3).f0) == a1_0) = false := beq_eq_false_iff_ne.mpr c78
               have c78b1 : (((rd_T35 t308 x13_3).f0) != a1_0) = true := bne_iff_ne.mpr c78
               have H' := Aside0.mk H
               clear H
               obtain ⟨Ao81, co81, eo81⟩ := Kd.R_slice HO_9.out
               subst eo81
               try go_wp2
               have n0_ := Aside0.mk (Kd.R_drew HO_6.out)
               have n1_ := Aside0.mk (Kd.R_drew HO_9.out)
               have n2_ := Aside0.mk (blk_drew BK293.out)
               have n3_ := Aside0.mk (below_drew1 HB.out)
               clear HO_6
               clear HO_9
               clear BK293
               clear HB
               have HO_6 := n0_
               have HO_9 := n1_
               have BK293 := n2_
               have HB := n3_
               clear n0_ n1_ n2_ n3_
               have p333 : 0 ≤ (x13_3 : Int) := of_decide_eq_true (by first | (with_reducible assumption) | assumption)
               have q333 : x13_3 < (t308.length : Int) := of_decide_eq_true (by first | (with_reducible assumption) | assumption)
               obtain ⟨ad333, e333, hx333_0, hx333_1⟩ := at_T35 (Kd.R_reads' HO_9.out).2.2 x13_3 p333 q333
               cases e333
               replace p333 := eq_true p333
               replace q333 := eq_true q333
               refine start_ (n := 9) (S := fun w' => w'.cell? ⟨gb293, 0, none⟩ = some (.int .i64 a1_0) ∧ w'.cell? ⟨gb293, 1, none⟩ = some (.int .u8 a1_1) ∧ w'.cell? ⟨gb293, 2, none⟩ = some (.bool a1_2) ∧ w'.cell? (ad333.add ((x13_3).toNat * 2)) = some (.int .i64 ((rd_T35 t308 x13_3).f0)) ∧ w'.cell? ⟨(ad333.add ((x13_3).toNat * 2)).block, (ad333.add ((x13_3).toNat * 2)).off + 1, none⟩ = some (.int .u8 ((rd_T35 t308 x13_3).f1))) (ds := []) u10_39 (by kernel_rfl) rfl rfl ⟨(blk_cell BK293.out 0).trans rfl, (blk_cell BK293.out 1).trans rfl, (blk_cell BK293.out 2).trans rfl, hx333_0, hx333_1⟩ (fun hHeld => ?_); refine with_tabW clepsydralaw20_JobsMore.tab18 clepsydralaw20_JobsMore.bits18 (fun HT_ HW_ => ?_)
               generalize wr.drew = w82 at HO_6 HO_9 BK293 HB hx333_0 hx333_1 hHeld ⊢
               refine pure_ (i := 0) (N := some 95) (v := ?_) (a' := ?_) u10_40 rfl rfl (any_of HT_.out (by kernel_rfl)) (fun _ _ _ h => h) (Or.inl ⟨by rfl, ?_⟩) ?_ ?_
               rotate_left
               ·intro w'
                go_simp
                with_reducible rfl
               rotate_left
               ·simp only [Act.put, s0_, s1_, s2_, i64_w, i32_w]
                rfl
               refine pure_ (i := 1) (N := some 96) (v := ?_) (a' := ?_) u10_41 rfl rfl (any_of HT_.out (by kernel_rfl)) (fun _ _ _ h => h) (Or.inl ⟨by rfl, ?_⟩) ?_ ?_
               rotate_left
               ·intro w'
                go_simp
                with_reducible rfl
               rotate_left
               ·simp only [Act.put, s0_, s1_, s2_, i64_w, i32_w]
                rfl
               refine pure_ (i := 2) (N := some 97) (v := ?_) (a' := ?_) u10_42 rfl rfl (any_of HT_.out (by kernel_rfl)) (fun _ _ _ h => h) (Or.inl ⟨by rfl, ?_⟩) ?_ ?_
               rotate_left
               ·intro w'
                go_simp
                with_reducible rfl
               rotate_left
               ·simp only [Act.put, s0_, s1_, s2_, i64_w, i32_w]
                rfl
               refine pure_ (i := 3) (N := some 98) (v := ?_) (a' := ?_) u10_43 rfl rfl (any_of HT_.out (by kernel_rfl)) (fun _ _ _ h => h) (Or.inl ⟨by rfl, ?_⟩) ?_ ?_
               rotate_left
               ·intro w'
                go_simp
                with_reducible rfl
               rotate_left
               ·simp only [Act.put, s0_, s1_, s2_, i64_w, i32_w]
                rfl
               refine pure_ (i := 5) (N := some 100) (v := ?_) (a' := ?_) u10_44 rfl rfl (any_of HT_.out (by kernel_rfl)) (fun _ _ _ h => h) (Or.inl ⟨by rfl, ?_⟩) ?_ ?_
               rotate_left
               ·intro w'
                go_simp
                with_reducible rfl
               rotate_left
               ·simp only [Act.put, s0_, s1_, s2_, i64_w, i32_w]
                rfl
               refine pure_ (i := 6) (N := some 101) (v := ?_) (a' := ?_) u10_45 rfl rfl (any_of HT_.out (by kernel_rfl)) (fun _ _ _ h => h) (Or.inl ⟨by rfl, ?_⟩) ?_ ?_
               rotate_left
               ·intro w'
                go_simp
                with_reducible rfl
               rotate_left
               ·simp only [Act.put, s0_, s1_, s2_, i64_w, i32_w]
                rfl
               refine take_ (i := 4) (N := some 99) (v := ?_) (a' := ?_) u10_46 rfl rfl (take_ofW HT_.out HW_.out (by kernel_rfl)) (fun _ _ _ h => h) (Or.inl ⟨by rfl, ?_⟩) hHeld ?_ ?_
               rotate_left
               ·rintro w' ⟨s0, s1, s2, s3, s4⟩
                go_simp
                with_reducible rfl
               rotate_left
               ·simp only [Act.put, s0_, s1_, s2_, i64_w, i32_w]
                rfl
               refine take_ (i := 7) (N := some 102) (v := ?_) (a' := ?_) u10_47 rfl rfl (take_ofW HT_.out HW_.out (by kernel_rfl)) (fun _ _ _ h => h) (Or.inl ⟨by rfl, ?_⟩) hHeld ?_ ?_
               rotate_left
               ·rintro w' ⟨s0, s1, s2, s3, s4⟩
                go_simp
                with_reducible rfl
               rotate_left
               ·simp only [Act.put, s0_, s1_, s2_, i64_w, i32_w]
                rfl
               refine pure_ (i := 8) (N := some 103) (v := ?_) (a' := ?_) u10_48 rfl rfl (any_of HT_.out (by kernel_rfl)) (fun _ _ _ h => h) (Or.inl ⟨by rfl, ?_⟩) ?_ ?_
               rotate_left
               ·intro w'
                go_simp
                with_reducible rfl
               rotate_left
               ·simp only [Act.put, s0_, s1_, s2_, i64_w, i32_w]
                rfl
               refine done_ (done_of HT_.out (by kernel_rfl)) ?_
               try go_wp2
               go_roundg k3
               case measure => have := HJ10.out; have := HK2.out; have := HK3.out; omega
               case rel => exact ⟨(x11_3), (wrap64 (x13_3 + 1)), (by first | rfl | (simp; done) | (simp [*]; done)), (by first | rfl | (simp; done) | (simp [*]; done)), H', ⟨by have := HJ10.out; have := HK2.out; have := HK3.out; omega⟩, ⟨RD HO_6⟩, ⟨RD HO_9⟩, ⟨by (with_reducible repeat (first | refine blk_drewN ?_ _ | refine blk_drew ?_ | refine blk_alloc ?_ _)); exact BK293.out⟩, ⟨by repeat (first | (with_reducible first | exact HB.out | apply below_alloc | apply pw_below_drewN | apply below_drew1 | refine below_set ?_ GE293.out) | exact HB.out)⟩⟩
             ·rw [if_neg c77] at H
              exact absurd H (by simp)
            ·rw [if_neg c76] at H
             have c76b0 : decide (x13_3 < (t308.length : Int)) = false := decide_eq_false c76
             clear c76
             by_cases c83 : x11_3 ≥ x10_2
             ·rw [if_pos c83] at H
              have c83b0 : decide (x10_2 ≤ x11_3) = true := decide_eq_true c83
              clear c83
              by_cases c84 : x10_2 = 0
              ·rw [if_pos c84] at H
               have c84b0 : (x10_2 == 0) = true := beq_iff_eq.mpr c84
               have c84b1 : (x10_2 != 0) = false := bne_eq_false_iff_eq.mpr c84
               clear c84
               by_cases c85 : (wrap64 ((t308.length : Int) - x11_3)) = (wrap64 ((t296.length : Int) - x10_2))
               ·rw [if_pos c85] at H
                have c85b0 : ((wrap64 ((t308.length : Int) - x11_3)) == (wrap64 ((t296.length : Int) - x10_2))) = true := beq_iff_eq.mpr c85
                have c85b1 : ((wrap64 ((t308.length : Int) - x11_3)) != (wrap64 ((t296.length : Int) - x10_2))) = false := bne_eq_false_iff_eq.mpr c85
                clear c85
                replace H := Option.bind_eq_some_iff.mp H
                obtain ⟨t334, A860, H⟩ := H
                replace H : (some t334) = some r := H
                have A86 := Aside0.mk A860
                clear A860
                obtain rfl := Option.some.inj H
                obtain ⟨Ao87, co87, eo87⟩ := Kd.R_slice HO_9.out
                subst eo87
                go_wp2_with (first | (go_at_call 8; (with_reducible refine (clepsydralaw20_works.calls k3  t334 _ A86.out).mono ?_); rintro e w88 ⟨rfl, hb⟩; have n0_ := RB HO_6 hb; have n1_ := RB HO_9 hb; have n2_ := Aside0.mk (blk_below (g := gb293) (o := .cells #[.int .i64 a1_0, .int .u8 a1_1, .bool a1_2] 39 (0, 0)) (by (with_reducible repeat (first | refine blk_drewN ?_ _ | refine blk_drew ?_ | refine blk_alloc ?_ _)); exact BK293.out) hb); have n3_ := Aside0.mk (below_step (by repeat (first | (with_reducible first | exact HB.out | apply below_alloc | apply pw_below_drewN | apply below_drew1 | refine below_set ?_ GE293.out) | exact HB.out)) hb); clear HO_6; clear HO_9; clear BK293; clear HB; have HO_6 := n0_; have HO_9 := n1_; have BK293 := n2_; have HB := n3_; clear n0_ n1_ n2_ n3_; (try clear hb); (try clear hb2); (try clear hk); (try clear hi)))
                go_ret
                exact ⟨by first | rfl | (simp [errW_none, errW_some] <;> rfl) | (simp [*, errW_none, errW_some] <;> rfl), by repeat (first | (with_reducible first | exact HB.out | apply below_alloc | apply pw_below_drewN | apply below_drew1 | refine below_set ?_ GE293.out) | exact HB.out)⟩
               ·rw [if_neg c85] at H
                have c85b0 : ((wrap64 ((t308.length : Int) - x11_3)) == (wrap64 ((t296.length : Int) - x10_2))) = false := beq_eq_false_iff_ne.mpr c85
                have c85b1 : ((wrap64 ((t308.length : Int) - x11_3)) != (wrap64 ((t296.length : Int) - x10_2))) = true := bne_iff_ne.mpr c85
                obtain rfl := Option.some.inj H
                obtain ⟨Ao89, co89, eo89⟩ := Kd.R_slice HO_9.out
                subst eo89
                go_wp2
                go_ret
                exact ⟨by first | rfl | (simp [errW_none, errW_some] <;> rfl) | (simp [*, errW_none, errW_some] <;> rfl), by repeat (first | (with_reducible first | exact HB.out | apply below_alloc | apply pw_below_drewN | apply below_drew1 | refine below_set ?_ GE293.out) | exact HB.out)⟩
              ·rw [if_neg c84] at H
               have c84b0 : (x10_2 == 0) = false := beq_eq_false_iff_ne.mpr c84
               have c84b1 : (x10_2 != 0) = true := bne_iff_ne.mpr c84
               by_cases c90 : x11_3 > 0
               ·rw [if_pos c90] at H
                have c90b0 : decide (0 < x11_3) = true := decide_eq_true c90
                clear c90
                by_cases c91 : (wrap64 ((t308.length : Int) - x11_3)) = (wrap64 ((t296.length : Int) - x10_2))
                ·rw [if_pos c91] at H
                 have c91b0 : ((wrap64 ((t308.length : Int) - x11_3)) == (wrap64 ((t296.length : Int) - x10_2))) = true := beq_iff_eq.mpr c91
                 have c91b1 : ((wrap64 ((t308.length : Int) - x11_3)) != (wrap64 ((t296.length : Int) - x10_2))) = false := bne_eq_false_iff_eq.mpr c91
                 clear c91
                 replace H := Option.bind_eq_some_iff.mp H
                 obtain ⟨t335, A920, H⟩ := H
                 replace H : (some t335) = some r := H
                 have A92 := Aside0.mk A920
                 clear A920
                 obtain rfl := Option.some.inj H
                 obtain ⟨Ao93, co93, eo93⟩ := Kd.R_slice HO_9.out
                 subst eo93
                 go_wp2_with (first | (go_at_call 8; (with_reducible refine (clepsydralaw20_works.calls k3  t335 _ A92.out).mono ?_); rintro e w94 ⟨rfl, hb⟩; have n0_ := RB HO_6 hb; have n1_ := RB HO_9 hb; have n2_ := Aside0.mk (blk_below (g := gb293) (o := .cells #[.int .i64 a1_0, .int .u8 a1_1, .bool a1_2] 39 (0, 0)) (by (with_reducible repeat (first | refine blk_drewN ?_ _ | refine blk_drew ?_ | refine blk_alloc ?_ _)); exact BK293.out) hb); have n3_ := Aside0.mk (below_step (by repeat (first | (with_reducible first | exact HB.out | apply below_alloc | apply pw_below_drewN | apply below_drew1 | refine below_set ?_ GE293.out) | exact HB.out)) hb); clear HO_6; clear HO_9; clear BK293; clear HB; have HO_6 := n0_; have HO_9 := n1_; have BK293 := n2_; have HB := n3_; clear n0_ n1_ n2_ n3_; (try clear hb); (try clear hb2); (try clear hk); (try clear hi)))
                 go_ret
                 exact ⟨by first | rfl | (simp [errW_none, errW_some] <;> rfl) | (simp [*, errW_none, errW_some] <;> rfl), by repeat (first | (with_reducible first | exact HB.out | apply below_alloc | apply pw_below_drewN | apply below_drew1 | refine below_set ?_ GE293.out) | exact HB.out)⟩
                ·rw [if_neg c91] at H
                 have c91b0 : ((wrap64 ((t308.length : Int) - x11_3)) == (wrap64 ((t296.length : Int) - x10_2))) = false := beq_eq_false_iff_ne.mpr c91
                 have c91b1 : ((wrap64 ((t308.length : Int) - x11_3)) != (wrap64 ((t296.length : Int) - x10_2))) = true := bne_iff_ne.mpr c91
                 obtain rfl := Option.some.inj H
                 obtain ⟨Ao95, co95, eo95⟩ := Kd.R_slice HO_9.out
                 subst eo95
                 go_wp2
                 go_ret
                 exact ⟨by first | rfl | (simp [errW_none, errW_some] <;> rfl) | (simp [*, errW_none, errW_some] <;> rfl), by repeat (first | (with_reducible first | exact HB.out | apply below_alloc | apply pw_below_drewN | apply below_drew1 | refine below_set ?_ GE293.out) | exact HB.out)⟩
               ·rw [if_neg c90] at H
                have c90b0 : decide (0 < x11_3) = false := decide_eq_false c90
                clear c90
                obtain rfl := Option.some.inj H
                obtain ⟨Ao96, co96, eo96⟩ := Kd.R_slice HO_9.out
                subst eo96
                go_wp2
                go_ret
                exact ⟨by first | rfl | (simp [errW_none, errW_some] <;> rfl) | (simp [*, errW_none, errW_some] <;> rfl), by repeat (first | (with_reducible first | exact HB.out | apply below_alloc | apply pw_below_drewN | apply below_drew1 | refine below_set ?_ GE293.out) | exact HB.out)⟩
             ·rw [if_neg c83] at H
              have c83b0 : decide (x10_2 ≤ x11_3) = false := decide_eq_false c83
              clear c83
              obtain rfl := Option.some.inj H
              obtain ⟨Ao97, co97, eo97⟩ := Kd.R_slice HO_9.out
              subst eo97
              go_wp2
              go_ret
              exact ⟨by first | rfl | (simp [errW_none, errW_some] <;> rfl) | (simp [*, errW_none, errW_some] <;> rfl), by repeat (first | (with_reducible first | exact HB.out | apply below_alloc | apply pw_below_drewN | apply below_drew1 | refine below_set ?_ GE293.out) | exact HB.out)⟩
   ·rw [if_neg c9] at H
    exact absurd H (by simp)
  ·rw [if_neg c8] at H
   exact absurd H (by simp)

end Go.Proofs.Ytgchfibcaecjcaa.P
