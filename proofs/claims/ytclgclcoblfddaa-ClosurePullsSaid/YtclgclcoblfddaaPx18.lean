/- Printed by a program for this claim: functions of the program as plain functions, and that the machine computes them. -/
import Derived.Test.YtclgclcoblfddaaPx0
import Derived.Test.YtclgclcoblfddaaPShort
import Derived.Test.YtclgclcoblfddaaPx4
import Derived.Test.YtclgclcoblfddaaPx6
import Derived.Test.YtclgclcoblfddaaPx7
import Derived.Test.YtclgclcoblfddaaPx10
import Derived.Test.YtclgclcoblfddaaPx12
import Derived.Test.YtclgclcoblfddaaPx13
import Derived.Test.YtclgclcoblfddaaPx17
namespace Go.Proofs.Ytclgclcoblfddaa.P
open Go.RowKit Go.Proofs.YtclgclcoblfddaaW.PrintWords Go.Proofs.YtclgclcoblfddaaW.PrintLast Go.Proofs.YtclgclcoblfddaaW.PrintMore
attribute [local go_sem] max2_int min2_int max_two min_two max_three min_three max_four min_four
set_option linter.unusedVariables false
set_option linter.unusedSimpArgs false
theorem or7_18 {P : Prop} (h : P ∨ P ∨ P ∨ P ∨ P ∨ P ∨ P) : P := h.elim id fun h => h.elim id fun h => h.elim id fun h => h.elim id fun h => h.elim id fun h => h.elim id fun h => h
def u18_0 : Array Bool := #[false, false, false, false, false, false, false, false, false, false, false, false, false, false, false, false, false, false, false, false, false, false]
def u18_1 : Array Bool := #[true, false, false, false, false, false, false, false, false, false, false, false, false, false, false, false, false, false, false, false, false, false]
def u18_2 : Array Bool := #[true, true, false, false, false, false, false, false, false, false, false, false, false, false, false, false, false, false, false, false, false, false]
def u18_3 : Array Bool := #[true, true, true, false, false, false, false, false, false, false, false, false, false, false, false, false, false, false, false, false, false, false]
def u18_4 : Array Bool := #[true, true, true, true, false, false, false, false, false, false, false, false, false, false, false, false, false, false, false, false, false, false]
def u18_5 : Array Bool := #[true, true, true, true, true, false, false, false, false, false, false, false, false, false, false, false, false, false, false, false, false, false]
def u18_6 : Array Bool := #[true, true, true, true, true, true, false, false, false, false, false, false, false, false, false, false, false, false, false, false, false, false]
def u18_7 : Array Bool := #[true, true, true, true, true, true, false, true, false, false, false, false, false, false, false, false, false, false, false, false, false, false]
def u18_8 : Array Bool := #[true, true, true, true, true, true, false, true, true, false, false, false, false, false, false, false, false, false, false, false, false, false]
def u18_9 : Array Bool := #[true, true, true, true, true, true, false, true, true, true, false, false, false, false, false, false, false, false, false, false, false, false]
def u18_10 : Array Bool := #[true, true, true, true, true, true, false, true, true, true, true, false, false, false, false, false, false, false, false, false, false, false]
def u18_11 : Array Bool := #[true, true, true, true, true, true, false, true, true, true, true, true, false, false, false, false, false, false, false, false, false, false]
def u18_12 : Array Bool := #[true, true, true, true, true, true, false, true, true, true, true, true, false, true, false, false, false, false, false, false, false, false]
def u18_13 : Array Bool := #[true, true, true, true, true, true, false, true, true, true, true, true, false, true, true, false, false, false, false, false, false, false]
def u18_14 : Array Bool := #[true, true, true, true, true, true, false, true, true, true, true, true, false, true, true, true, false, false, false, false, false, false]
def u18_15 : Array Bool := #[true, true, true, true, true, true, false, true, true, true, true, true, false, true, true, true, true, false, false, false, false, false]
def u18_16 : Array Bool := #[true, true, true, true, true, true, true, true, true, true, true, true, false, true, true, true, true, false, false, false, false, false]
def u18_17 : Array Bool := #[true, true, true, true, true, true, true, true, true, true, true, true, true, true, true, true, true, false, false, false, false, false]
def u18_18 : Array Bool := #[true, true, true, true, true, true, true, true, true, true, true, true, true, true, true, true, true, true, false, false, false, false]
def u18_19 : Array Bool := #[true, true, true, true, true, true, true, true, true, true, true, true, true, true, true, true, true, true, true, false, false, false]
def u18_20 : Array Bool := #[true, true, true, true, true, true, true, true, true, true, true, true, true, true, true, true, true, true, true, true, false, false]
def u18_21 : Array Bool := #[true, true, true, true, true, true, true, true, true, true, true, true, true, true, true, true, true, true, true, true, true, false]
def u18_22 : Array Bool := #[true, true, true, true, true, true, true, true, true, true, true, true, true, true, true, true, true, true, true, true, true, true]
def u18_23 : Array Bool := #[false, false, false, false, false, false, false, false, false, false, false, false, false, false, false, false, false, false, false, false, false, false, false, false, false, false, false]
def u18_24 : Array Bool := #[true, false, false, false, false, false, false, false, false, false, false, false, false, false, false, false, false, false, false, false, false, false, false, false, false, false, false]
def u18_25 : Array Bool := #[true, false, true, false, false, false, false, false, false, false, false, false, false, false, false, false, false, false, false, false, false, false, false, false, false, false, false]
def u18_26 : Array Bool := #[true, true, true, false, false, false, false, false, false, false, false, false, false, false, false, false, false, false, false, false, false, false, false, false, false, false, false]
def u18_27 : Array Bool := #[true, true, true, true, false, false, false, false, false, false, false, false, false, false, false, false, false, false, false, false, false, false, false, false, false, false, false]
def u18_28 : Array Bool := #[true, true, true, true, true, false, false, false, false, false, false, false, false, false, false, false, false, false, false, false, false, false, false, false, false, false, false]
def u18_29 : Array Bool := #[true, true, true, true, true, true, false, false, false, false, false, false, false, false, false, false, false, false, false, false, false, false, false, false, false, false, false]
def u18_30 : Array Bool := #[true, true, true, true, true, true, true, false, false, false, false, false, false, false, false, false, false, false, false, false, false, false, false, false, false, false, false]
def u18_31 : Array Bool := #[true, true, true, true, true, true, true, true, false, false, false, false, false, false, false, false, false, false, false, false, false, false, false, false, false, false, false]
def u18_32 : Array Bool := #[true, true, true, true, true, true, true, true, false, true, false, false, false, false, false, false, false, false, false, false, false, false, false, false, false, false, false]
def u18_33 : Array Bool := #[true, true, true, true, true, true, true, true, false, true, true, false, false, false, false, false, false, false, false, false, false, false, false, false, false, false, false]
def u18_34 : Array Bool := #[true, true, true, true, true, true, true, true, false, true, true, true, false, false, false, false, false, false, false, false, false, false, false, false, false, false, false]
def u18_35 : Array Bool := #[true, true, true, true, true, true, true, true, false, true, true, true, false, false, false, true, false, false, false, false, false, false, false, false, false, false, false]
def u18_36 : Array Bool := #[true, true, true, true, true, true, true, true, false, true, true, true, false, false, false, true, true, false, false, false, false, false, false, false, false, false, false]
def u18_37 : Array Bool := #[true, true, true, true, true, true, true, true, false, true, true, true, false, false, false, true, true, false, true, false, false, false, false, false, false, false, false]
def u18_38 : Array Bool := #[true, true, true, true, true, true, true, true, true, true, true, true, false, false, false, true, true, false, true, false, false, false, false, false, false, false, false]
def u18_39 : Array Bool := #[true, true, true, true, true, true, true, true, true, true, true, true, false, false, true, true, true, false, true, false, false, false, false, false, false, false, false]
def u18_40 : Array Bool := #[true, true, true, true, true, true, true, true, true, true, true, true, true, false, true, true, true, false, true, false, false, false, false, false, false, false, false]
def u18_41 : Array Bool := #[true, true, true, true, true, true, true, true, true, true, true, true, true, true, true, true, true, false, true, false, false, false, false, false, false, false, false]
def u18_42 : Array Bool := #[true, true, true, true, true, true, true, true, true, true, true, true, true, true, true, true, true, true, true, false, false, false, false, false, false, false, false]
def u18_43 : Array Bool := #[true, true, true, true, true, true, true, true, true, true, true, true, true, true, true, true, true, true, true, true, false, false, false, false, false, false, false]
def u18_44 : Array Bool := #[true, true, true, true, true, true, true, true, true, true, true, true, true, true, true, true, true, true, true, true, true, false, false, false, false, false, false]
def u18_45 : Array Bool := #[true, true, true, true, true, true, true, true, true, true, true, true, true, true, true, true, true, true, true, true, true, true, false, false, false, false, false]
def u18_46 : Array Bool := #[true, true, true, true, true, true, true, true, true, true, true, true, true, true, true, true, true, true, true, true, true, true, true, false, false, false, false]
def u18_47 : Array Bool := #[true, true, true, true, true, true, true, true, true, true, true, true, true, true, true, true, true, true, true, true, true, true, true, true, false, false, false]
def u18_48 : Array Bool := #[true, true, true, true, true, true, true, true, true, true, true, true, true, true, true, true, true, true, true, true, true, true, true, true, true, false, false]
def u18_49 : Array Bool := #[true, true, true, true, true, true, true, true, true, true, true, true, true, true, true, true, true, true, true, true, true, true, true, true, true, true, false]
def u18_50 : Array Bool := #[true, true, true, true, true, true, true, true, true, true, true, true, true, true, true, true, true, true, true, true, true, true, true, true, true, true, true]
mutual
def clepsydralaw21_ClosurePulls.j0 : Nat → List Bool → List (S32) → List (S32) → Bool → List (List Int) → List (List Int) → List (List Int) → List (List Int) → List (List Int) → List (List Int) → List (List Int) → List (List Int) → List (List Int) → List (List Int) → Int → Int → Option (Bool)
 | 0, _, _, _, _, _, _, _, _, _, _, _, _, _, _, _, _ => none
 | k + 1, x1, x3, x4, x24, x470000, x470001, x470002, x470003, x470004, x470005, x470006, x470007, x470008, x470009, x471000, x471001 => if x24 = true then ((clepsydralaw21_works.f).bind fun t472 => (some t472)) else ((closure_Pulls.f x470000 x470001 x470002 x470003 x470004 x470005 x470006 x470007 x470008 x470009 x1 x471000 x471001).bind fun t473 => (clepsydralaw21_ClosurePulls.l0 k x1 x3 x4 t473 ([] : List (S44)) 0 x470000 x470001 x470002 x470003 x470004 x470005 x470006 x470007 x470008 x470009 x471000 x471001))
def clepsydralaw21_ClosurePulls.l0 : Nat → List Bool → List (S32) → List (S32) → List (S55) → List (S44) → Int → List (List Int) → List (List Int) → List (List Int) → List (List Int) → List (List Int) → List (List Int) → List (List Int) → List (List Int) → List (List Int) → List (List Int) → Int → Int → Option (Bool)
 | 0, _, _, _, _, _, _, _, _, _, _, _, _, _, _, _, _, _, _ => none
 | k + 1, x1, x3, x4, x11, x12, x13, x470000, x470001, x470002, x470003, x470004, x470005, x470006, x470007, x470008, x470009, x471000, x471001 => if x13 < (x11.length : Int) then (if 0 ≤ x13 then (if x12.length < 8796093022208 then (clepsydralaw21_ClosurePulls.l0 k x1 x3 x4 x11 (x12 ++ [(⟨(rd_T55 x11 x13).f0.f0, (rd_T55 x11 x13).f0.f1, (rd_T55 x11 x13).f1⟩ : S44)]) (wrap64 (x13 + 1)) x470000 x470001 x470002 x470003 x470004 x470005 x470006 x470007 x470008 x470009 x471000 x471001) else (none)) else (none)) else ((clepsydralaw21_plain.f x470000 x470001 x470002 x470003 x470004 x470005 x470006 x470007 x470008 x470009).bind fun bt482 => ((clepsydralaw21_job.f x471000 x471001).bind fun bt504 => ((clepsydraref21_Pulls.f k bt482.1 bt482.2.1 bt482.2.2.1 bt482.2.2.2.1 bt482.2.2.2.2.1 bt482.2.2.2.2.2.1 bt482.2.2.2.2.2.2 x1 bt504.1 bt504.2.1 bt504.2.2).bind fun t507 => ((clepsydralaw21_same.f k x12 t507).bind fun t510 => (if t510 = true then ((closure_Bans.f x470000 x470001 x470002 x470003 x470004 x470005 x470006 x470007 x470008 x470009 x1 x3 x4).bind fun t511 => ((clepsydralaw21_all.f k t511).bind fun t514 => ((clepsydralaw21_all.f k x3).bind fun t517 => ((clepsydralaw21_all.f k x4).bind fun t520 => ((clepsydraref21_Bans.f k bt482.1 bt482.2.1 bt482.2.2.1 bt482.2.2.2.1 bt482.2.2.2.2.1 bt482.2.2.2.2.2.1 bt482.2.2.2.2.2.2 x1 t517 t520).bind fun t523 => ((clepsydralaw21_same.f k t514 t523).bind fun t526 => (if t526 = true then ((clepsydralaw21_works.f).bind fun t527 => (some t527)) else (some false)))))))) else (some false))))))
end
def clepsydralaw21_ClosurePulls.f (k : Nat) (l0_0 : List (List Int)) (l0_1 : List (List Int)) (l0_2 : List (List Int)) (l0_3 : List (List Int)) (l0_4 : List (List Int)) (l0_5 : List (List Int)) (l0_6 : List (List Int)) (l0_7 : List (List Int)) (l0_8 : List (List Int)) (l0_9 : List (List Int)) (l1 : List Bool) (a2_0 : Int) (a2_1 : Int) (l3 : List (S32)) (l4 : List (S32)) : Option (Bool) := (clepsydralaw21_few.f k l0_0 l0_1 l0_2 l0_3 l0_4 l0_5 l0_6 l0_7 l0_8 l0_9 l1 l3).bind fun t471 => (if t471 = true then (clepsydralaw21_ClosurePulls.j0 k l1 l3 l4 (decide ((l4.length : Int) > 30)) l0_0 l0_1 l0_2 l0_3 l0_4 l0_5 l0_6 l0_7 l0_8 l0_9 a2_0 a2_1) else (clepsydralaw21_ClosurePulls.j0 k l1 l3 l4 true l0_0 l0_1 l0_2 l0_3 l0_4 l0_5 l0_6 l0_7 l0_8 l0_9 a2_0 a2_1))
def clepsydralaw21_ClosurePulls.T8 : Bool × List (List Nat × List Nat) := (true, [([], []), ([], []), ([], []), ([1, 2], [1, 2]), ([3], [3]), ([4], [4]), ([5], [5]), ([], []), ([], []), ([7, 8], [7, 8]), ([9], [9]), ([10], [10]), ([11], [11]), ([], []), ([], []), ([13, 14], [13, 14]), ([15], [15]), ([16], [16]), ([6, 12, 17], [6, 12, 17]), ([18], [18]), ([0, 19], [0, 19]), ([20, 20, 0, 1, 2, 3, 4, 5, 6, 7, 8, 9, 10, 11, 12, 13, 14, 15, 16, 17, 18, 19, 20], [0, 20])])
def clepsydralaw21_ClosurePulls.B8 : List Nat := [0, 0, 0, 6, 14, 30, 62, 0, 0, 384, 896, 1920, 3968, 0, 0, 24576, 57344, 122880, 262142, 524286, 1048575, 2097151]
theorem clepsydralaw21_ClosurePulls.tab8 : rtab .any (opsOf Try.f6 8) = clepsydralaw21_ClosurePulls.T8 := by kernel_rfl
theorem clepsydralaw21_ClosurePulls.bits8 : waitsOk clepsydralaw21_ClosurePulls.T8.2 clepsydralaw21_ClosurePulls.B8 = true := by kernel_rfl
def clepsydralaw21_ClosurePulls.T10 : Bool × List (List Nat × List Nat) := (true, [([], []), ([], []), ([], []), ([], []), ([3], [3]), ([1, 2, 4, 4], [1, 2, 4]), ([0, 5, 5], [0, 5]), ([6, 6], [6]), ([7], [7]), ([7], [7]), ([7], [7]), ([7], [7]), ([8, 9, 10, 11, 7, 7], [7, 8, 9, 10, 11]), ([12, 12, 7], [7, 12]), ([7], [7]), ([7], [7]), ([7], [7]), ([16, 13, 7], [7, 16]), ([7], [7]), ([18, 17, 7], [7, 18]), ([14, 15, 17, 19, 19, 7], [7, 14, 15, 17, 19]), ([13, 20, 20, 7], [7, 13, 20]), ([7, 21], [7, 21]), ([22, 21], [22]), ([23, 23], [23]), ([23, 24], [23, 24]), ([25, 24, 0, 1, 2, 3, 4, 5, 6, 7, 8, 9, 10, 11, 12, 13, 14, 15, 16, 17, 18, 19, 20, 21, 22, 23, 24, 25], [25])])
def clepsydralaw21_ClosurePulls.B10 : List Nat := [0, 0, 0, 0, 8, 30, 63, 127, 255, 255, 255, 255, 4095, 8191, 255, 255, 255, 81919, 255, 475135, 1048575, 2097151, 4194303, 8388607, 16777215, 33554431, 67108863]
theorem clepsydralaw21_ClosurePulls.tab10 : rtab .any (opsOf Try.f6 10) = clepsydralaw21_ClosurePulls.T10 := by kernel_rfl
theorem clepsydralaw21_ClosurePulls.bits10 : waitsOk clepsydralaw21_ClosurePulls.T10.2 clepsydralaw21_ClosurePulls.B10 = true := by kernel_rfl
set_option maxHeartbeats 8000000 in
set_option maxRecDepth 100000 in
theorem clepsydralaw21_ClosurePulls.calls (k : Nat) (A0_0 : Option Addr) (c0_0 : Nat) (l0_0 : List (List Int)) (A0_1 : Option Addr) (c0_1 : Nat) (l0_1 : List (List Int)) (A0_2 : Option Addr) (c0_2 : Nat) (l0_2 : List (List Int)) (A0_3 : Option Addr) (c0_3 : Nat) (l0_3 : List (List Int)) (A0_4 : Option Addr) (c0_4 : Nat) (l0_4 : List (List Int)) (A0_5 : Option Addr) (c0_5 : Nat) (l0_5 : List (List Int)) (A0_6 : Option Addr) (c0_6 : Nat) (l0_6 : List (List Int)) (A0_7 : Option Addr) (c0_7 : Nat) (l0_7 : List (List Int)) (A0_8 : Option Addr) (c0_8 : Nat) (l0_8 : List (List Int)) (A0_9 : Option Addr) (c0_9 : Nat) (l0_9 : List (List Int)) (A1 : Option Addr) (c1 : Nat) (l1 : List Bool) (a2_0 : Int) (a2_1 : Int) (A3 : Option Addr) (c3 : Nat) (l3 : List (S32)) (A4 : Option Addr) (c4 : Nat) (l4 : List (S32)) (r : Bool) (w : World) (hr0_0 : Kd.C (Kd.slice 3 (Kd.int .i64)) w A0_0 l0_0.length l0_0) (hc0_0 : l0_0.length ≤ c0_0) (hr0_1 : Kd.C (Kd.slice 3 (Kd.int .i64)) w A0_1 l0_1.length l0_1) (hc0_1 : l0_1.length ≤ c0_1) (hr0_2 : Kd.C (Kd.slice 3 (Kd.int .i64)) w A0_2 l0_2.length l0_2) (hc0_2 : l0_2.length ≤ c0_2) (hr0_3 : Kd.C (Kd.slice 3 (Kd.int .i64)) w A0_3 l0_3.length l0_3) (hc0_3 : l0_3.length ≤ c0_3) (hr0_4 : Kd.C (Kd.slice 3 (Kd.int .i64)) w A0_4 l0_4.length l0_4) (hc0_4 : l0_4.length ≤ c0_4) (hr0_5 : Kd.C (Kd.slice 3 (Kd.int .i64)) w A0_5 l0_5.length l0_5) (hc0_5 : l0_5.length ≤ c0_5) (hr0_6 : Kd.C (Kd.slice 3 (Kd.int .i64)) w A0_6 l0_6.length l0_6) (hc0_6 : l0_6.length ≤ c0_6) (hr0_7 : Kd.C (Kd.slice 3 (Kd.int .i64)) w A0_7 l0_7.length l0_7) (hc0_7 : l0_7.length ≤ c0_7) (hr0_8 : Kd.C (Kd.slice 3 (Kd.int .i64)) w A0_8 l0_8.length l0_8) (hc0_8 : l0_8.length ≤ c0_8) (hr0_9 : Kd.C (Kd.slice 3 (Kd.int .i64)) w A0_9 l0_9.length l0_9) (hc0_9 : l0_9.length ≤ c0_9) (hr1 : Kd.C Kd.bool w A1 l1.length l1) (hc1 : l1.length ≤ c1) (hr3 : Kd.C k32 w A3 l3.length l3) (hc3 : l3.length ≤ c3) (hr4 : Kd.C k32 w A4 l4.length l4) (hc4 : l4.length ≤ c4) (h : clepsydralaw21_ClosurePulls.f k l0_0 l0_1 l0_2 l0_3 l0_4 l0_5 l0_6 l0_7 l0_8 l0_9 l1 a2_0 a2_1 l3 l4 = some r) (hrt_ : Aside0 (r = true)) :
  Calls Try.prog 6 #[.agg #[.slice A0_0 l0_0.length c0_0, .slice A0_1 l0_1.length c0_1, .slice A0_2 l0_2.length c0_2, .slice A0_3 l0_3.length c0_3, .slice A0_4 l0_4.length c0_4, .slice A0_5 l0_5.length c0_5, .slice A0_6 l0_6.length c0_6, .slice A0_7 l0_7.length c0_7, .slice A0_8 l0_8.length c0_8, .slice A0_9 l0_9.length c0_9], .slice A1 l1.length c1, .agg #[.int .i64 a2_0, .int .u8 a2_1], .slice A3 l3.length c3, .slice A4 l4.length c4] w fun e w' => e = .returned (.bool r) ∧ Below w.heap.size w w' := by
 have hu24 := Try.underlying24
 have hu32 := Try.underlying32
 have hu44 := Try.underlying44
 have hu38 := Try.underlying38
 have HR0_0 := Aside0.mk hr0_0
 have HC0_0 := Aside0.mk hc0_0
 clear hr0_0 hc0_0
 have HR0_1 := Aside0.mk hr0_1
 have HC0_1 := Aside0.mk hc0_1
 clear hr0_1 hc0_1
 have HR0_2 := Aside0.mk hr0_2
 have HC0_2 := Aside0.mk hc0_2
 clear hr0_2 hc0_2
 have HR0_3 := Aside0.mk hr0_3
 have HC0_3 := Aside0.mk hc0_3
 clear hr0_3 hc0_3
 have HR0_4 := Aside0.mk hr0_4
 have HC0_4 := Aside0.mk hc0_4
 clear hr0_4 hc0_4
 have HR0_5 := Aside0.mk hr0_5
 have HC0_5 := Aside0.mk hc0_5
 clear hr0_5 hc0_5
 have HR0_6 := Aside0.mk hr0_6
 have HC0_6 := Aside0.mk hc0_6
 clear hr0_6 hc0_6
 have HR0_7 := Aside0.mk hr0_7
 have HC0_7 := Aside0.mk hc0_7
 clear hr0_7 hc0_7
 have HR0_8 := Aside0.mk hr0_8
 have HC0_8 := Aside0.mk hc0_8
 clear hr0_8 hc0_8
 have HR0_9 := Aside0.mk hr0_9
 have HC0_9 := Aside0.mk hc0_9
 clear hr0_9 hc0_9
 have HR1 := Aside0.mk hr1
 have HC1 := Aside0.mk hc1
 clear hr1 hc1
 have HR3 := Aside0.mk hr3
 have HC3 := Aside0.mk hc3
 clear hr3 hc3
 have HR4 := Aside0.mk hr4
 have HC4 := Aside0.mk hc4
 clear hr4 hc4
 have HB := Aside0.mk (Below.refl w.heap.size w)
 have H : ((clepsydralaw21_few.f k l0_0 l0_1 l0_2 l0_3 l0_4 l0_5 l0_6 l0_7 l0_8 l0_9 l1 l3).bind fun t471 => (if t471 = true then (clepsydralaw21_ClosurePulls.j0 k l1 l3 l4 (decide ((l4.length : Int) > 30)) l0_0 l0_1 l0_2 l0_3 l0_4 l0_5 l0_6 l0_7 l0_8 l0_9 a2_0 a2_1) else (clepsydralaw21_ClosurePulls.j0 k l1 l3 l4 true l0_0 l0_1 l0_2 l0_3 l0_4 l0_5 l0_6 l0_7 l0_8 l0_9 a2_0 a2_1))) = some r := h
 clear h
 have HC6 := Aside0.mk H
 clear H
 go_enter Try.func6, Try.ntmps6
 go_upto_region 1 with (first | ((with_reducible refine gate_dst (N := 5) rfl ?_); (try (refine gate_guard (by rfl) ?_; dsimp only)); refine box_event ?hg (N := 5) ?hd (cs := #[.slice A0_0 l0_0.length c0_0, .slice A0_1 l0_1.length c0_1, .slice A0_2 l0_2.length c0_2, .slice A0_3 l0_3.length c0_3, .slice A0_4 l0_4.length c0_4, .slice A0_5 l0_5.length c0_5, .slice A0_6 l0_6.length c0_6, .slice A0_7 l0_7.length c0_7, .slice A0_8 l0_8.length c0_8, .slice A0_9 l0_9.length c0_9]) (t := 24) ?hr ?_; (case hd => rfl); (case hg => rfl); (case hr => first | (go_simp; done) | (go_simp; rfl)); intro gb469 hg w7 hbox hb; have n0_ := BS HB hb; have n1_ := Aside0.mk (hbox); have n2_ := Aside0.mk ((by rw [hg]; exact (below_size (BD HB)) : w.heap.size ≤ gb469)); have n3_ := Aside0.mk ((by rw [hg]; exact (below_size (BD HB)) : w.heap.size ≤ gb469)); clear HB; have HB := n0_; have BK469 := n1_; have GW469 := n2_; have GE469 := n3_; clear n0_ n1_ n2_ n3_; clear hb hbox hg) | ((with_reducible refine gate_dst (N := 7) rfl ?_); (try (refine gate_guard (by rfl) ?_; dsimp only)); refine box_event ?hg (N := 7) ?hd (cs := #[.int .i64 a2_0, .int .u8 a2_1]) (t := 32) ?hr ?_; (case hd => rfl); (case hg => rfl); (case hr => first | (go_simp; done) | (go_simp; rfl)); intro gb470 hg w8 hbox hb; have n0_ := Aside0.mk (blk_below (g := gb469) (o := .cells #[.slice A0_0 l0_0.length c0_0, .slice A0_1 l0_1.length c0_1, .slice A0_2 l0_2.length c0_2, .slice A0_3 l0_3.length c0_3, .slice A0_4 l0_4.length c0_4, .slice A0_5 l0_5.length c0_5, .slice A0_6 l0_6.length c0_6, .slice A0_7 l0_7.length c0_7, .slice A0_8 l0_8.length c0_8, .slice A0_9 l0_9.length c0_9] 24 (0, 0)) (by (with_reducible repeat (first | refine blk_drewN ?_ _ | refine blk_drew ?_ | refine blk_alloc ?_ _)); exact BK469.out) hb); have n1_ := Aside0.mk (below_step (by repeat (first | (with_reducible first | exact HB.out | apply below_alloc | apply pw_below_drewN | apply below_drew1 | refine below_set ?_ GE469.out) | exact HB.out)) hb); have n2_ := Aside0.mk (hbox); have n3_ := Aside0.mk ((by rw [hg]; exact (below_size (by repeat (first | (with_reducible first | exact HB.out | apply below_alloc | apply pw_below_drewN | apply below_drew1 | refine below_set ?_ GE469.out) | exact HB.out))) : w.heap.size ≤ gb470)); have n4_ := Aside0.mk ((by rw [hg]; exact (below_size (by repeat (first | (with_reducible first | exact HB.out | apply below_alloc | apply pw_below_drewN | apply below_drew1 | refine below_set ?_ GE469.out) | exact HB.out))) : w.heap.size ≤ gb470)); have n5_ := Aside0.mk ((by rw [hg]; exact Nat.ne_of_lt (blk_lt (g := gb469) (o := .cells #[.slice A0_0 l0_0.length c0_0, .slice A0_1 l0_1.length c0_1, .slice A0_2 l0_2.length c0_2, .slice A0_3 l0_3.length c0_3, .slice A0_4 l0_4.length c0_4, .slice A0_5 l0_5.length c0_5, .slice A0_6 l0_6.length c0_6, .slice A0_7 l0_7.length c0_7, .slice A0_8 l0_8.length c0_8, .slice A0_9 l0_9.length c0_9] 24 (0, 0)) (by (with_reducible repeat (first | refine blk_drewN ?_ _ | refine blk_drew ?_ | refine blk_alloc ?_ _)); exact BK469.out)) : gb469 ≠ gb470)); have n6_ := Aside0.mk ((by rw [hg]; exact Nat.ne_of_gt (blk_lt (g := gb469) (o := .cells #[.slice A0_0 l0_0.length c0_0, .slice A0_1 l0_1.length c0_1, .slice A0_2 l0_2.length c0_2, .slice A0_3 l0_3.length c0_3, .slice A0_4 l0_4.length c0_4, .slice A0_5 l0_5.length c0_5, .slice A0_6 l0_6.length c0_6, .slice A0_7 l0_7.length c0_7, .slice A0_8 l0_8.length c0_8, .slice A0_9 l0_9.length c0_9] 24 (0, 0)) (by (with_reducible repeat (first | refine blk_drewN ?_ _ | refine blk_drew ?_ | refine blk_alloc ?_ _)); exact BK469.out)) : gb470 ≠ gb469)); clear BK469; clear HB; have BK469 := n0_; have HB := n1_; have BK470 := n2_; have GW470 := n3_; have GE470 := n4_; have NB469_470 := n5_; have NB470_469 := n6_; clear n0_ n1_ n2_ n3_ n4_ n5_ n6_; clear hb hbox hg))
 (try simp only [Act.put, List.setIfInBounds_toArray, List.set_cons_zero, List.set_cons_succ])
 go_cut [24] (fun v24 wc => ∃ (kq : Nat) (x24_5 : Bool), v24 = .bool x24_5 ∧ Aside0 (clepsydralaw21_ClosurePulls.j0 kq l1 l3 l4 x24_5 l0_0 l0_1 l0_2 l0_3 l0_4 l0_5 l0_6 l0_7 l0_8 l0_9 a2_0 a2_1 = some r) ∧ Aside0 (kq ≤ k) ∧ Aside0 (wc.heap[gb469]? = some (.cells #[(.slice A0_0 l0_0.length c0_0), (.slice A0_1 l0_1.length c0_1), (.slice A0_2 l0_2.length c0_2), (.slice A0_3 l0_3.length c0_3), (.slice A0_4 l0_4.length c0_4), (.slice A0_5 l0_5.length c0_5), (.slice A0_6 l0_6.length c0_6), (.slice A0_7 l0_7.length c0_7), (.slice A0_8 l0_8.length c0_8), (.slice A0_9 l0_9.length c0_9)] 24 (0, 0))) ∧ Aside0 (wc.heap[gb470]? = some (.cells #[.int .i64 a2_0, .int .u8 a2_1] 32 (0, 0))) ∧ Aside0 (Below w.heap.size w wc))
 case first =>
  have H := HC6.out
  clear HC6
  replace H := Option.bind_eq_some_iff.mp H
  obtain ⟨t471, A90, H⟩ := H
  try dsimp only at H
  have A9 := Aside0.mk A90
  clear A90
  by_cases c10 : t471 = true
  ·subst c10
   have H1 : (clepsydralaw21_ClosurePulls.j0 k l1 l3 l4 (decide ((l4.length : Int) > 30)) l0_0 l0_1 l0_2 l0_3 l0_4 l0_5 l0_6 l0_7 l0_8 l0_9 a2_0 a2_1) = some r := by rw [if_pos rfl] at H; exact H
   clear H
   have H := H1
   clear H1
   have H' := Aside0.mk H
   clear H
   have hnb11 := NB469_470.out
   have hnc11 := NB470_469.out
   have hcz12_0 : w8.cell? ⟨gb469, 0, none⟩ = some (.slice A0_0 l0_0.length c0_0) := (blk_cell BK469.out 0).trans rfl
   have hcz12_1 : w8.cell? ⟨gb469, 1, none⟩ = some (.slice A0_1 l0_1.length c0_1) := (blk_cell BK469.out 1).trans rfl
   have hcz12_2 : w8.cell? ⟨gb469, 2, none⟩ = some (.slice A0_2 l0_2.length c0_2) := (blk_cell BK469.out 2).trans rfl
   have hcz12_3 : w8.cell? ⟨gb469, 3, none⟩ = some (.slice A0_3 l0_3.length c0_3) := (blk_cell BK469.out 3).trans rfl
   have hcz12_4 : w8.cell? ⟨gb469, 4, none⟩ = some (.slice A0_4 l0_4.length c0_4) := (blk_cell BK469.out 4).trans rfl
   have hcz12_5 : w8.cell? ⟨gb469, 5, none⟩ = some (.slice A0_5 l0_5.length c0_5) := (blk_cell BK469.out 5).trans rfl
   have hcz12_6 : w8.cell? ⟨gb469, 6, none⟩ = some (.slice A0_6 l0_6.length c0_6) := (blk_cell BK469.out 6).trans rfl
   have hcz12_7 : w8.cell? ⟨gb469, 7, none⟩ = some (.slice A0_7 l0_7.length c0_7) := (blk_cell BK469.out 7).trans rfl
   have hcz12_8 : w8.cell? ⟨gb469, 8, none⟩ = some (.slice A0_8 l0_8.length c0_8) := (blk_cell BK469.out 8).trans rfl
   have hcz12_9 : w8.cell? ⟨gb469, 9, none⟩ = some (.slice A0_9 l0_9.length c0_9) := (blk_cell BK469.out 9).trans rfl
   have hfz12_0 := blk_frozen BK469.out 0
   have hfz12_1 := blk_frozen BK469.out 1
   have hfz12_2 := blk_frozen BK469.out 2
   have hfz12_3 := blk_frozen BK469.out 3
   have hfz12_4 := blk_frozen BK469.out 4
   have hfz12_5 := blk_frozen BK469.out 5
   have hfz12_6 := blk_frozen BK469.out 6
   have hfz12_7 := blk_frozen BK469.out 7
   have hfz12_8 := blk_frozen BK469.out 8
   have hfz12_9 := blk_frozen BK469.out 9
   go_wp2_with (first | ((with_reducible refine gate_callee (f := 12) rfl ?_); refine goesL_ (some 18) rfl rfl Try.func12 (by kernel_rfl) rfl #[.agg #[.slice A0_0 l0_0.length c0_0, .slice A0_1 l0_1.length c0_1, .slice A0_2 l0_2.length c0_2, .slice A0_3 l0_3.length c0_3, .slice A0_4 l0_4.length c0_4, .slice A0_5 l0_5.length c0_5, .slice A0_6 l0_6.length c0_6, .slice A0_7 l0_7.length c0_7, .slice A0_8 l0_8.length c0_8, .slice A0_9 l0_9.length c0_9], .slice A1 l1.length c1, .slice A3 l3.length c3] rfl (by (try simp only [List.map_toArray, List.map_cons, List.map_nil]); first | done | rfl | (simp only [List.length_drop, List.length_take]; rfl)) ?_; (with_reducible refine (clepsydralaw21_few.calls k _ _ l0_0 _ _ l0_1 _ _ l0_2 _ _ l0_3 _ _ l0_4 _ _ l0_5 _ _ l0_6 _ _ l0_7 _ _ l0_8 _ _ l0_9 _ _ l1 _ _ l3 true _ ?side1 ?side2 ?side3 ?side4 ?side5 ?side6 ?side7 ?side8 ?side9 ?side10 ?side11 ?side12 ?side13 ?side14 ?side15 ?side16 ?side17 ?side18 ?side19 ?side20 ?side21 ?side22 ?side23 ?side24 A9.out).mono ?_); (case side1 => exact CD ((Kd.C_below HR0_0.out HB.out))); (case side2 => exact HC0_0.out); (case side3 => exact CD ((Kd.C_below HR0_1.out HB.out))); (case side4 => exact HC0_1.out); (case side5 => exact CD ((Kd.C_below HR0_2.out HB.out))); (case side6 => exact HC0_2.out); (case side7 => exact CD ((Kd.C_below HR0_3.out HB.out))); (case side8 => exact HC0_3.out); (case side9 => exact CD ((Kd.C_below HR0_4.out HB.out))); (case side10 => exact HC0_4.out); (case side11 => exact CD ((Kd.C_below HR0_5.out HB.out))); (case side12 => exact HC0_5.out); (case side13 => exact CD ((Kd.C_below HR0_6.out HB.out))); (case side14 => exact HC0_6.out); (case side15 => exact CD ((Kd.C_below HR0_7.out HB.out))); (case side16 => exact HC0_7.out); (case side17 => exact CD ((Kd.C_below HR0_8.out HB.out))); (case side18 => exact HC0_8.out); (case side19 => exact CD ((Kd.C_below HR0_9.out HB.out))); (case side20 => exact HC0_9.out); (case side21 => exact CD ((Kd.C_below HR1.out HB.out))); (case side22 => exact HC1.out); (case side23 => exact CD ((Kd.C_below HR3.out HB.out))); (case side24 => exact HC3.out); rintro e w13 ⟨rfl, hb⟩; refine ⟨_, rfl, ?_⟩; have n0_ := Aside0.mk (blk_below (g := gb469) (o := .cells #[.slice A0_0 l0_0.length c0_0, .slice A0_1 l0_1.length c0_1, .slice A0_2 l0_2.length c0_2, .slice A0_3 l0_3.length c0_3, .slice A0_4 l0_4.length c0_4, .slice A0_5 l0_5.length c0_5, .slice A0_6 l0_6.length c0_6, .slice A0_7 l0_7.length c0_7, .slice A0_8 l0_8.length c0_8, .slice A0_9 l0_9.length c0_9] 24 (0, 0)) (by (with_reducible repeat (first | refine blk_drewN ?_ _ | refine blk_drew ?_ | refine blk_alloc ?_ _)); exact BK469.out) hb); have n1_ := Aside0.mk (blk_below (g := gb470) (o := .cells #[.int .i64 a2_0, .int .u8 a2_1] 32 (0, 0)) (by (with_reducible repeat (first | refine blk_drewN ?_ _ | refine blk_drew ?_ | refine blk_alloc ?_ _)); exact BK470.out) hb); have n2_ := Aside0.mk (below_step (by repeat (first | (with_reducible first | exact HB.out | apply below_alloc | apply pw_below_drewN | apply below_drew1 | refine below_set ?_ GE469.out | refine below_set ?_ GE470.out) | exact HB.out)) hb); clear BK469; clear BK470; clear HB; have BK469 := n0_; have BK470 := n1_; have HB := n2_; clear n0_ n1_ n2_; (try clear hb); (try clear hb2); (try clear hk); (try clear hi)))
   go_meet
   case rel => exact ⟨_, (decide ((l4.length : Int) > 30)), (by first | rfl | (simp; done) | (simp [*]; done)), H', ⟨by first | omega | exact Nat.le_refl _⟩, ⟨by (with_reducible repeat (first | refine blk_drewN ?_ _ | refine blk_drew ?_ | refine blk_alloc ?_ _)); exact BK469.out⟩, ⟨by (with_reducible repeat (first | refine blk_drewN ?_ _ | refine blk_drew ?_ | refine blk_alloc ?_ _)); exact BK470.out⟩, ⟨by repeat (first | (with_reducible first | exact HB.out | apply below_alloc | apply pw_below_drewN | apply below_drew1 | refine below_set ?_ GE469.out | refine below_set ?_ GE470.out) | exact HB.out)⟩⟩
  ·replace c10 := Bool.eq_false_iff.mpr c10
   subst c10
   have H1 : (clepsydralaw21_ClosurePulls.j0 k l1 l3 l4 true l0_0 l0_1 l0_2 l0_3 l0_4 l0_5 l0_6 l0_7 l0_8 l0_9 a2_0 a2_1) = some r := by rw [if_neg (show ¬ (false = true) by decide)] at H; exact H
   clear H
   have H := H1
   clear H1
   have H' := Aside0.mk H
   clear H
   have hnb14 := NB469_470.out
   have hnc14 := NB470_469.out
   have hcz15_0 : w8.cell? ⟨gb469, 0, none⟩ = some (.slice A0_0 l0_0.length c0_0) := (blk_cell BK469.out 0).trans rfl
   have hcz15_1 : w8.cell? ⟨gb469, 1, none⟩ = some (.slice A0_1 l0_1.length c0_1) := (blk_cell BK469.out 1).trans rfl
   have hcz15_2 : w8.cell? ⟨gb469, 2, none⟩ = some (.slice A0_2 l0_2.length c0_2) := (blk_cell BK469.out 2).trans rfl
   have hcz15_3 : w8.cell? ⟨gb469, 3, none⟩ = some (.slice A0_3 l0_3.length c0_3) := (blk_cell BK469.out 3).trans rfl
   have hcz15_4 : w8.cell? ⟨gb469, 4, none⟩ = some (.slice A0_4 l0_4.length c0_4) := (blk_cell BK469.out 4).trans rfl
   have hcz15_5 : w8.cell? ⟨gb469, 5, none⟩ = some (.slice A0_5 l0_5.length c0_5) := (blk_cell BK469.out 5).trans rfl
   have hcz15_6 : w8.cell? ⟨gb469, 6, none⟩ = some (.slice A0_6 l0_6.length c0_6) := (blk_cell BK469.out 6).trans rfl
   have hcz15_7 : w8.cell? ⟨gb469, 7, none⟩ = some (.slice A0_7 l0_7.length c0_7) := (blk_cell BK469.out 7).trans rfl
   have hcz15_8 : w8.cell? ⟨gb469, 8, none⟩ = some (.slice A0_8 l0_8.length c0_8) := (blk_cell BK469.out 8).trans rfl
   have hcz15_9 : w8.cell? ⟨gb469, 9, none⟩ = some (.slice A0_9 l0_9.length c0_9) := (blk_cell BK469.out 9).trans rfl
   have hfz15_0 := blk_frozen BK469.out 0
   have hfz15_1 := blk_frozen BK469.out 1
   have hfz15_2 := blk_frozen BK469.out 2
   have hfz15_3 := blk_frozen BK469.out 3
   have hfz15_4 := blk_frozen BK469.out 4
   have hfz15_5 := blk_frozen BK469.out 5
   have hfz15_6 := blk_frozen BK469.out 6
   have hfz15_7 := blk_frozen BK469.out 7
   have hfz15_8 := blk_frozen BK469.out 8
   have hfz15_9 := blk_frozen BK469.out 9
   go_wp2_with (first | ((with_reducible refine gate_callee (f := 12) rfl ?_); refine goesL_ (some 18) rfl rfl Try.func12 (by kernel_rfl) rfl #[.agg #[.slice A0_0 l0_0.length c0_0, .slice A0_1 l0_1.length c0_1, .slice A0_2 l0_2.length c0_2, .slice A0_3 l0_3.length c0_3, .slice A0_4 l0_4.length c0_4, .slice A0_5 l0_5.length c0_5, .slice A0_6 l0_6.length c0_6, .slice A0_7 l0_7.length c0_7, .slice A0_8 l0_8.length c0_8, .slice A0_9 l0_9.length c0_9], .slice A1 l1.length c1, .slice A3 l3.length c3] rfl (by (try simp only [List.map_toArray, List.map_cons, List.map_nil]); first | done | rfl | (simp only [List.length_drop, List.length_take]; rfl)) ?_; (with_reducible refine (clepsydralaw21_few.calls k _ _ l0_0 _ _ l0_1 _ _ l0_2 _ _ l0_3 _ _ l0_4 _ _ l0_5 _ _ l0_6 _ _ l0_7 _ _ l0_8 _ _ l0_9 _ _ l1 _ _ l3 false _ ?side1 ?side2 ?side3 ?side4 ?side5 ?side6 ?side7 ?side8 ?side9 ?side10 ?side11 ?side12 ?side13 ?side14 ?side15 ?side16 ?side17 ?side18 ?side19 ?side20 ?side21 ?side22 ?side23 ?side24 A9.out).mono ?_); (case side1 => exact CD ((Kd.C_below HR0_0.out HB.out))); (case side2 => exact HC0_0.out); (case side3 => exact CD ((Kd.C_below HR0_1.out HB.out))); (case side4 => exact HC0_1.out); (case side5 => exact CD ((Kd.C_below HR0_2.out HB.out))); (case side6 => exact HC0_2.out); (case side7 => exact CD ((Kd.C_below HR0_3.out HB.out))); (case side8 => exact HC0_3.out); (case side9 => exact CD ((Kd.C_below HR0_4.out HB.out))); (case side10 => exact HC0_4.out); (case side11 => exact CD ((Kd.C_below HR0_5.out HB.out))); (case side12 => exact HC0_5.out); (case side13 => exact CD ((Kd.C_below HR0_6.out HB.out))); (case side14 => exact HC0_6.out); (case side15 => exact CD ((Kd.C_below HR0_7.out HB.out))); (case side16 => exact HC0_7.out); (case side17 => exact CD ((Kd.C_below HR0_8.out HB.out))); (case side18 => exact HC0_8.out); (case side19 => exact CD ((Kd.C_below HR0_9.out HB.out))); (case side20 => exact HC0_9.out); (case side21 => exact CD ((Kd.C_below HR1.out HB.out))); (case side22 => exact HC1.out); (case side23 => exact CD ((Kd.C_below HR3.out HB.out))); (case side24 => exact HC3.out); rintro e w16 ⟨rfl, hb⟩; refine ⟨_, rfl, ?_⟩; have n0_ := Aside0.mk (blk_below (g := gb469) (o := .cells #[.slice A0_0 l0_0.length c0_0, .slice A0_1 l0_1.length c0_1, .slice A0_2 l0_2.length c0_2, .slice A0_3 l0_3.length c0_3, .slice A0_4 l0_4.length c0_4, .slice A0_5 l0_5.length c0_5, .slice A0_6 l0_6.length c0_6, .slice A0_7 l0_7.length c0_7, .slice A0_8 l0_8.length c0_8, .slice A0_9 l0_9.length c0_9] 24 (0, 0)) (by (with_reducible repeat (first | refine blk_drewN ?_ _ | refine blk_drew ?_ | refine blk_alloc ?_ _)); exact BK469.out) hb); have n1_ := Aside0.mk (blk_below (g := gb470) (o := .cells #[.int .i64 a2_0, .int .u8 a2_1] 32 (0, 0)) (by (with_reducible repeat (first | refine blk_drewN ?_ _ | refine blk_drew ?_ | refine blk_alloc ?_ _)); exact BK470.out) hb); have n2_ := Aside0.mk (below_step (by repeat (first | (with_reducible first | exact HB.out | apply below_alloc | apply pw_below_drewN | apply below_drew1 | refine below_set ?_ GE469.out | refine below_set ?_ GE470.out) | exact HB.out)) hb); clear BK469; clear BK470; clear HB; have BK469 := n0_; have BK470 := n1_; have HB := n2_; clear n0_ n1_ n2_; (try clear hb); (try clear hb2); (try clear hk); (try clear hi)))
   go_meet
   case rel => exact ⟨_, (true), (by first | rfl | (simp; done) | (simp [*]; done)), H', ⟨by first | omega | exact Nat.le_refl _⟩, ⟨by (with_reducible repeat (first | refine blk_drewN ?_ _ | refine blk_drew ?_ | refine blk_alloc ?_ _)); exact BK469.out⟩, ⟨by (with_reducible repeat (first | refine blk_drewN ?_ _ | refine blk_drew ?_ | refine blk_alloc ?_ _)); exact BK470.out⟩, ⟨by repeat (first | (with_reducible first | exact HB.out | apply below_alloc | apply pw_below_drewN | apply below_drew1 | refine below_set ?_ GE469.out | refine below_set ?_ GE470.out) | exact HB.out)⟩⟩
 case rest =>
  clear HC6
  try clear c1
  try clear p2
  try clear c3
  try clear c4
  try clear c6
  try clear c10
  try clear c11
  try clear c12
  try clear c14
  try clear hcz12_0
  try clear hcz12_1
  try clear hcz12_2
  try clear hcz12_3
  try clear hcz12_4
  try clear hcz12_5
  try clear hcz12_6
  try clear hcz12_7
  try clear hcz12_8
  try clear hcz12_9
  try clear hcz15_0
  try clear hcz15_1
  try clear hcz15_2
  try clear hcz15_3
  try clear hcz15_4
  try clear hcz15_5
  try clear hcz15_6
  try clear hcz15_7
  try clear hcz15_8
  try clear hcz15_9
  try clear hfz12_0
  try clear hfz12_1
  try clear hfz12_2
  try clear hfz12_3
  try clear hfz12_4
  try clear hfz12_5
  try clear hfz12_6
  try clear hfz12_7
  try clear hfz12_8
  try clear hfz12_9
  try clear hfz15_0
  try clear hfz15_1
  try clear hfz15_2
  try clear hfz15_3
  try clear hfz15_4
  try clear hfz15_5
  try clear hfz15_6
  try clear hfz15_7
  try clear hfz15_8
  try clear hfz15_9
  obtain ⟨kq, x24_5, rfl, HA, HJ5, BK469, BK470, HB⟩ := hcut
  cases kq with
  | zero => exact absurd HA.out (by simp [clepsydralaw21_ClosurePulls.j0])
  | succ kj5 =>
   have H := HA.out
   clear HA
   simp only [clepsydralaw21_ClosurePulls.j0] at H
   by_cases c17 : x24_5 = true
   ·subst c17
    have H1 : ((clepsydralaw21_works.f).bind fun t472 => (some t472)) = some r := by rw [if_pos rfl] at H; exact H
    clear H
    have H := H1
    clear H1
    replace H := Option.bind_eq_some_iff.mp H
    obtain ⟨t472, A180, H⟩ := H
    try dsimp only at H
    have A18 := Aside0.mk A180
    clear A180
    obtain rfl := Option.some.inj H
    go_wp2_with (first | ((with_reducible refine gate_callee (f := 13) rfl ?_); refine goesL_ (some 25) rfl rfl Try.func13 (by kernel_rfl) rfl #[] rfl (by (try simp only [List.map_toArray, List.map_cons, List.map_nil]); first | done | rfl | (simp only [List.length_drop, List.length_take]; rfl)) ?_; (with_reducible refine (clepsydralaw21_works.calls  t472 _ A18.out).mono ?_); rintro e w19 ⟨rfl, hb⟩; refine ⟨_, rfl, ?_⟩; have n0_ := Aside0.mk (blk_below (g := gb469) (o := .cells #[.slice A0_0 l0_0.length c0_0, .slice A0_1 l0_1.length c0_1, .slice A0_2 l0_2.length c0_2, .slice A0_3 l0_3.length c0_3, .slice A0_4 l0_4.length c0_4, .slice A0_5 l0_5.length c0_5, .slice A0_6 l0_6.length c0_6, .slice A0_7 l0_7.length c0_7, .slice A0_8 l0_8.length c0_8, .slice A0_9 l0_9.length c0_9] 24 (0, 0)) (by (with_reducible repeat (first | refine blk_drewN ?_ _ | refine blk_drew ?_ | refine blk_alloc ?_ _)); exact BK469.out) hb); have n1_ := Aside0.mk (blk_below (g := gb470) (o := .cells #[.int .i64 a2_0, .int .u8 a2_1] 32 (0, 0)) (by (with_reducible repeat (first | refine blk_drewN ?_ _ | refine blk_drew ?_ | refine blk_alloc ?_ _)); exact BK470.out) hb); have n2_ := Aside0.mk (below_step (by repeat (first | (with_reducible first | exact HB.out | apply below_alloc | apply pw_below_drewN | apply below_drew1 | refine below_set ?_ GE469.out | refine below_set ?_ GE470.out) | exact HB.out)) hb); clear BK469; clear BK470; clear HB; have BK469 := n0_; have BK470 := n1_; have HB := n2_; clear n0_ n1_ n2_; (try clear hb); (try clear hb2); (try clear hk); (try clear hi)))
    go_ret
    exact ⟨by first | rfl | (simp [errW_none, errW_some] <;> rfl) | (simp [*, errW_none, errW_some] <;> rfl), by repeat (first | (with_reducible first | exact HB.out | apply below_alloc | apply pw_below_drewN | apply below_drew1 | refine below_set ?_ GE469.out | refine below_set ?_ GE470.out) | exact HB.out)⟩
   ·replace c17 := Bool.eq_false_iff.mpr c17
    subst c17
    have H1 : ((closure_Pulls.f l0_0 l0_1 l0_2 l0_3 l0_4 l0_5 l0_6 l0_7 l0_8 l0_9 l1 a2_0 a2_1).bind fun t473 => (clepsydralaw21_ClosurePulls.l0 kj5 l1 l3 l4 t473 ([] : List (S44)) 0 l0_0 l0_1 l0_2 l0_3 l0_4 l0_5 l0_6 l0_7 l0_8 l0_9 a2_0 a2_1)) = some r := by rw [if_neg (show ¬ (false = true) by decide)] at H; exact H
    clear H
    have H := H1
    clear H1
    replace H := Option.bind_eq_some_iff.mp H
    obtain ⟨t473, A200, H⟩ := H
    try dsimp only at H
    have A20 := Aside0.mk A200
    clear A200
    have H' := Aside0.mk H
    clear H
    have hnb21 := NB469_470.out
    have hnc21 := NB470_469.out
    have hcz22_0 : wc.cell? ⟨gb469, 0, none⟩ = some (.slice A0_0 l0_0.length c0_0) := (blk_cell BK469.out 0).trans rfl
    have hcz22_1 : wc.cell? ⟨gb469, 1, none⟩ = some (.slice A0_1 l0_1.length c0_1) := (blk_cell BK469.out 1).trans rfl
    have hcz22_2 : wc.cell? ⟨gb469, 2, none⟩ = some (.slice A0_2 l0_2.length c0_2) := (blk_cell BK469.out 2).trans rfl
    have hcz22_3 : wc.cell? ⟨gb469, 3, none⟩ = some (.slice A0_3 l0_3.length c0_3) := (blk_cell BK469.out 3).trans rfl
    have hcz22_4 : wc.cell? ⟨gb469, 4, none⟩ = some (.slice A0_4 l0_4.length c0_4) := (blk_cell BK469.out 4).trans rfl
    have hcz22_5 : wc.cell? ⟨gb469, 5, none⟩ = some (.slice A0_5 l0_5.length c0_5) := (blk_cell BK469.out 5).trans rfl
    have hcz22_6 : wc.cell? ⟨gb469, 6, none⟩ = some (.slice A0_6 l0_6.length c0_6) := (blk_cell BK469.out 6).trans rfl
    have hcz22_7 : wc.cell? ⟨gb469, 7, none⟩ = some (.slice A0_7 l0_7.length c0_7) := (blk_cell BK469.out 7).trans rfl
    have hcz22_8 : wc.cell? ⟨gb469, 8, none⟩ = some (.slice A0_8 l0_8.length c0_8) := (blk_cell BK469.out 8).trans rfl
    have hcz22_9 : wc.cell? ⟨gb469, 9, none⟩ = some (.slice A0_9 l0_9.length c0_9) := (blk_cell BK469.out 9).trans rfl
    have hfz22_0 := blk_frozen BK469.out 0
    have hfz22_1 := blk_frozen BK469.out 1
    have hfz22_2 := blk_frozen BK469.out 2
    have hfz22_3 := blk_frozen BK469.out 3
    have hfz22_4 := blk_frozen BK469.out 4
    have hfz22_5 := blk_frozen BK469.out 5
    have hfz22_6 := blk_frozen BK469.out 6
    have hfz22_7 := blk_frozen BK469.out 7
    have hfz22_8 := blk_frozen BK469.out 8
    have hfz22_9 := blk_frozen BK469.out 9
    have hcz23_0 : wc.cell? ⟨gb470, 0, none⟩ = some (.int .i64 a2_0) := (blk_cell BK470.out 0).trans rfl
    have hcz23_1 : wc.cell? ⟨gb470, 1, none⟩ = some (.int .u8 a2_1) := (blk_cell BK470.out 1).trans rfl
    have hfz23_0 := blk_frozen BK470.out 0
    have hfz23_1 := blk_frozen BK470.out 1
    go_wp2_with (first | ((with_reducible refine gate_callee (f := 24) rfl ?_); refine goesL_ (some 29) rfl rfl Try.func24 (by kernel_rfl) rfl #[.agg #[.slice A0_0 l0_0.length c0_0, .slice A0_1 l0_1.length c0_1, .slice A0_2 l0_2.length c0_2, .slice A0_3 l0_3.length c0_3, .slice A0_4 l0_4.length c0_4, .slice A0_5 l0_5.length c0_5, .slice A0_6 l0_6.length c0_6, .slice A0_7 l0_7.length c0_7, .slice A0_8 l0_8.length c0_8, .slice A0_9 l0_9.length c0_9], .slice A1 l1.length c1, .agg #[.int .i64 a2_0, .int .u8 a2_1]] rfl (by (try simp only [List.map_toArray, List.map_cons, List.map_nil]); first | done | rfl | (simp only [List.length_drop, List.length_take]; rfl)) ?_; (with_reducible refine (closure_Pulls.calls _ _ l0_0 _ _ l0_1 _ _ l0_2 _ _ l0_3 _ _ l0_4 _ _ l0_5 _ _ l0_6 _ _ l0_7 _ _ l0_8 _ _ l0_9 _ _ l1 a2_0 a2_1 t473 _ ?side1 ?side2 ?side3 ?side4 ?side5 ?side6 ?side7 ?side8 ?side9 ?side10 ?side11 ?side12 ?side13 ?side14 ?side15 ?side16 ?side17 ?side18 ?side19 ?side20 ?side21 ?side22 A20.out).mono ?_); (case side1 => exact CD ((Kd.C_below HR0_0.out HB.out))); (case side2 => exact HC0_0.out); (case side3 => exact CD ((Kd.C_below HR0_1.out HB.out))); (case side4 => exact HC0_1.out); (case side5 => exact CD ((Kd.C_below HR0_2.out HB.out))); (case side6 => exact HC0_2.out); (case side7 => exact CD ((Kd.C_below HR0_3.out HB.out))); (case side8 => exact HC0_3.out); (case side9 => exact CD ((Kd.C_below HR0_4.out HB.out))); (case side10 => exact HC0_4.out); (case side11 => exact CD ((Kd.C_below HR0_5.out HB.out))); (case side12 => exact HC0_5.out); (case side13 => exact CD ((Kd.C_below HR0_6.out HB.out))); (case side14 => exact HC0_6.out); (case side15 => exact CD ((Kd.C_below HR0_7.out HB.out))); (case side16 => exact HC0_7.out); (case side17 => exact CD ((Kd.C_below HR0_8.out HB.out))); (case side18 => exact HC0_8.out); (case side19 => exact CD ((Kd.C_below HR0_9.out HB.out))); (case side20 => exact HC0_9.out); (case side21 => exact CD ((Kd.C_below HR1.out HB.out))); (case side22 => exact HC1.out); rintro e w24 ⟨v474, rfl, ho0, hb⟩; refine ⟨_, rfl, ?_⟩; have n0_ := Aside0.mk (Kd.R_lower ho0 (below_size (by repeat (first | (with_reducible first | exact HB.out | apply below_alloc | apply pw_below_drewN | apply below_drew1 | refine below_set ?_ GE469.out | refine below_set ?_ GE470.out) | exact HB.out)))); have n1_ := Aside0.mk (blk_below (g := gb469) (o := .cells #[.slice A0_0 l0_0.length c0_0, .slice A0_1 l0_1.length c0_1, .slice A0_2 l0_2.length c0_2, .slice A0_3 l0_3.length c0_3, .slice A0_4 l0_4.length c0_4, .slice A0_5 l0_5.length c0_5, .slice A0_6 l0_6.length c0_6, .slice A0_7 l0_7.length c0_7, .slice A0_8 l0_8.length c0_8, .slice A0_9 l0_9.length c0_9] 24 (0, 0)) (by (with_reducible repeat (first | refine blk_drewN ?_ _ | refine blk_drew ?_ | refine blk_alloc ?_ _)); exact BK469.out) hb); have n2_ := Aside0.mk (blk_below (g := gb470) (o := .cells #[.int .i64 a2_0, .int .u8 a2_1] 32 (0, 0)) (by (with_reducible repeat (first | refine blk_drewN ?_ _ | refine blk_drew ?_ | refine blk_alloc ?_ _)); exact BK470.out) hb); have n3_ := Aside0.mk (below_step (by repeat (first | (with_reducible first | exact HB.out | apply below_alloc | apply pw_below_drewN | apply below_drew1 | refine below_set ?_ GE469.out | refine below_set ?_ GE470.out) | exact HB.out)) hb); clear BK469; clear BK470; clear HB; have HO475 := n0_; have BK469 := n1_; have BK470 := n2_; have HB := n3_; clear n0_ n1_ n2_ n3_; (try clear hb); (try clear hb2); (try clear hk); (try clear hi); (try clear ho0)))
    go_loopg [12, 13] kj5 (fun kq v12 v13 w' => ∃ (x12_2 : List (S44)) (x13_2 : Int), v13 = .int .i64 x13_2 ∧ Aside0 (clepsydralaw21_ClosurePulls.l0 kq l1 l3 l4 t473 x12_2 x13_2 l0_0 l0_1 l0_2 l0_3 l0_4 l0_5 l0_6 l0_7 l0_8 l0_9 a2_0 a2_1 = some r) ∧ Aside0 (kq ≤ kj5) ∧ Aside0 (Kd.R k55 55 w' w.heap.size (fun _ => True) v474 t473) ∧ Aside0 (Kd.R k44 44 w' w.heap.size (fun _ => True) v12 x12_2) ∧ Aside0 (w'.heap[gb469]? = some (.cells #[(.slice A0_0 l0_0.length c0_0), (.slice A0_1 l0_1.length c0_1), (.slice A0_2 l0_2.length c0_2), (.slice A0_3 l0_3.length c0_3), (.slice A0_4 l0_4.length c0_4), (.slice A0_5 l0_5.length c0_5), (.slice A0_6 l0_6.length c0_6), (.slice A0_7 l0_7.length c0_7), (.slice A0_8 l0_8.length c0_8), (.slice A0_9 l0_9.length c0_9)] 24 (0, 0))) ∧ Aside0 (w'.heap[gb470]? = some (.cells #[.int .i64 a2_0, .int .u8 a2_1] 32 (0, 0))) ∧ Aside0 (Below w.heap.size w w'))
    case atStart => exact ⟨(([] : List (S44))), (0), (by first | rfl | (simp; done) | (simp [*]; done)), H', ⟨Nat.le_refl _⟩, ⟨RD HO475⟩, ⟨by first | exact Kd.R_nil _ _ _ _ _ | exact Kd.N_nil _ _ _ _ _ | exact Kd.V_nil _ _ _ _ _ | exact Kd.Q_nil _ _ _ _ _ | exact Kd.S_nil _ _ _ _ _⟩, ⟨by (with_reducible repeat (first | refine blk_drewN ?_ _ | refine blk_drew ?_ | refine blk_alloc ?_ _)); exact BK469.out⟩, ⟨by (with_reducible repeat (first | refine blk_drewN ?_ _ | refine blk_drew ?_ | refine blk_alloc ?_ _)); exact BK470.out⟩, ⟨by repeat (first | (with_reducible first | exact HB.out | apply below_alloc | apply pw_below_drewN | apply below_drew1 | refine below_set ?_ GE469.out | refine below_set ?_ GE470.out) | exact HB.out)⟩⟩
    case round =>
     clear H'
     try clear c1
     try clear c2
     try clear p2
     try clear c3
     try clear c4
     try clear c6
     try clear c10
     try clear c11
     try clear c12
     try clear c13
     try clear c14
     try clear c17
     try clear c21
     try clear c24
     try clear hcz12_0
     try clear hcz12_1
     try clear hcz12_2
     try clear hcz12_3
     try clear hcz12_4
     try clear hcz12_5
     try clear hcz12_6
     try clear hcz12_7
     try clear hcz12_8
     try clear hcz12_9
     try clear hcz15_0
     try clear hcz15_1
     try clear hcz15_2
     try clear hcz15_3
     try clear hcz15_4
     try clear hcz15_5
     try clear hcz15_6
     try clear hcz15_7
     try clear hcz15_8
     try clear hcz15_9
     try clear hcz22_0
     try clear hcz22_1
     try clear hcz22_2
     try clear hcz22_3
     try clear hcz22_4
     try clear hcz22_5
     try clear hcz22_6
     try clear hcz22_7
     try clear hcz22_8
     try clear hcz22_9
     try clear hcz23_0
     try clear hcz23_1
     try clear hfz12_0
     try clear hfz12_1
     try clear hfz12_2
     try clear hfz12_3
     try clear hfz12_4
     try clear hfz12_5
     try clear hfz12_6
     try clear hfz12_7
     try clear hfz12_8
     try clear hfz12_9
     try clear hfz15_0
     try clear hfz15_1
     try clear hfz15_2
     try clear hfz15_3
     try clear hfz15_4
     try clear hfz15_5
     try clear hfz15_6
     try clear hfz15_7
     try clear hfz15_8
     try clear hfz15_9
     try clear hfz22_0
     try clear hfz22_1
     try clear hfz22_2
     try clear hfz22_3
     try clear hfz22_4
     try clear hfz22_5
     try clear hfz22_6
     try clear hfz22_7
     try clear hfz22_8
     try clear hfz22_9
     try clear hfz23_0
     try clear hfz23_1
     try clear p2
     obtain ⟨x12_2, x13_2, rfl, HA, HK2, HO_11, HO_12, BK469, BK470, HB⟩ := hrel
     cases gk with
     | zero => exact absurd HA.out (by simp [clepsydralaw21_ClosurePulls.l0])
     | succ k2 =>
      have H := HA.out
      clear HA
      simp only [clepsydralaw21_ClosurePulls.l0] at H
      by_cases c25 : x13_2 < (t473.length : Int)
      ·rw [if_pos c25] at H
       have c25b0 : decide (x13_2 < (t473.length : Int)) = true := decide_eq_true c25
       clear c25
       by_cases c26 : 0 ≤ x13_2
       ·rw [if_pos c26] at H
        have c26b0 : decide (0 ≤ x13_2) = true := decide_eq_true c26
        clear c26
        by_cases c27 : x12_2.length < 8796093022208
        ·rw [if_pos c27] at H
         have LMc27 := Aside0.mk c27
         clear c27
         obtain ⟨y479, hy479⟩ : ∃ y_ : List (S44), y_ = (x12_2 ++ [(⟨(rd_T55 t473 x13_2).f0.f0, (rd_T55 t473 x13_2).f0.f1, (rd_T55 t473 x13_2).f1⟩ : S44)]) := ⟨_, rfl⟩
         replace H : (clepsydralaw21_ClosurePulls.l0 k2 l1 l3 l4 t473 y479 (wrap64 (x13_2 + 1)) l0_0 l0_1 l0_2 l0_3 l0_4 l0_5 l0_6 l0_7 l0_8 l0_9 a2_0 a2_1) = some r := by first | (rw [hy479]; with_reducible exact H) | (have H2_ := (Option.bind_some _ _).symm.trans H; rw [hy479]; with_reducible exact H2_) | (have H2_ := (Option.bind_some _ _).symm.trans H; with_reducible exact H2_) | with_reducible exact H | (rw [hy479]; exact H) | exact H
         have Ny479 := Aside0.mk hy479
         clear hy479
         have H' := Aside0.mk H
         clear H
         obtain ⟨Ao28, co28, eo28⟩ := Kd.R_slice HO_11.out
         subst eo28
         try go_wp2
         have n0_ := Aside0.mk (Kd.R_drew HO_11.out)
         have n1_ := Aside0.mk (Kd.R_drew HO_12.out)
         have n2_ := Aside0.mk (blk_drew BK469.out)
         have n3_ := Aside0.mk (blk_drew BK470.out)
         have n4_ := Aside0.mk (below_drew1 HB.out)
         clear HO_11
         clear HO_12
         clear BK469
         clear BK470
         clear HB
         have HO_11 := n0_
         have HO_12 := n1_
         have BK469 := n2_
         have BK470 := n3_
         have HB := n4_
         clear n0_ n1_ n2_ n3_ n4_
         have p476 : 0 ≤ (x13_2 : Int) := of_decide_eq_true (by first | (with_reducible assumption) | assumption)
         have q476 : x13_2 < (t473.length : Int) := of_decide_eq_true (by first | (with_reducible assumption) | assumption)
         obtain ⟨ad476, e476, hx476_0, hx476_1, hx476_2⟩ := at_T55 (Kd.R_reads' HO_11.out).2.2 x13_2 p476 q476
         cases e476
         replace p476 := eq_true p476
         replace q476 := eq_true q476
         have p477 : 0 ≤ (x13_2 : Int) := of_decide_eq_true (by first | (with_reducible assumption) | assumption)
         have q477 : x13_2 < (t473.length : Int) := of_decide_eq_true (by first | (with_reducible assumption) | assumption)
         obtain ⟨ad477, e477, hx477_0, hx477_1, hx477_2⟩ := at_T55 (Kd.R_reads' HO_11.out).2.2 x13_2 p477 q477
         obtain rfl : ad476 = ad477 := (by injection e477)
         replace p477 := eq_true p477
         replace q477 := eq_true q477
         have p478 : 0 ≤ (x13_2 : Int) := of_decide_eq_true (by first | (with_reducible assumption) | assumption)
         have q478 : x13_2 < (t473.length : Int) := of_decide_eq_true (by first | (with_reducible assumption) | assumption)
         obtain ⟨ad478, e478, hx478_0, hx478_1, hx478_2⟩ := at_T55 (Kd.R_reads' HO_11.out).2.2 x13_2 p478 q478
         obtain rfl : ad476 = ad478 := (by injection e478)
         replace p478 := eq_true p478
         replace q478 := eq_true q478
         refine start_ (n := 22) (S := fun w' => w'.cell? (ad476.add ((x13_2).toNat * 3)) = some (.int .i64 ((rd_T55 t473 x13_2).f0.f0)) ∧ w'.cell? ⟨(ad476.add ((x13_2).toNat * 3)).block, (ad476.add ((x13_2).toNat * 3)).off + 1, none⟩ = some (.int .u8 ((rd_T55 t473 x13_2).f0.f1)) ∧ w'.cell? ⟨(ad476.add ((x13_2).toNat * 3)).block, (ad476.add ((x13_2).toNat * 3)).off + 2, none⟩ = some (.bool ((rd_T55 t473 x13_2).f1)) ∧ w'.cell? (ad476.add ((x13_2).toNat * 3)) = some (.int .i64 ((rd_T55 t473 x13_2).f0.f0)) ∧ w'.cell? ⟨(ad476.add ((x13_2).toNat * 3)).block, (ad476.add ((x13_2).toNat * 3)).off + 1, none⟩ = some (.int .u8 ((rd_T55 t473 x13_2).f0.f1)) ∧ w'.cell? ⟨(ad476.add ((x13_2).toNat * 3)).block, (ad476.add ((x13_2).toNat * 3)).off + 2, none⟩ = some (.bool ((rd_T55 t473 x13_2).f1)) ∧ w'.cell? (ad476.add ((x13_2).toNat * 3)) = some (.int .i64 ((rd_T55 t473 x13_2).f0.f0)) ∧ w'.cell? ⟨(ad476.add ((x13_2).toNat * 3)).block, (ad476.add ((x13_2).toNat * 3)).off + 1, none⟩ = some (.int .u8 ((rd_T55 t473 x13_2).f0.f1)) ∧ w'.cell? ⟨(ad476.add ((x13_2).toNat * 3)).block, (ad476.add ((x13_2).toNat * 3)).off + 2, none⟩ = some (.bool ((rd_T55 t473 x13_2).f1))) (ds := [19, 20]) u18_0 (by kernel_rfl) rfl rfl ⟨hx476_0, hx476_1, hx476_2, hx477_0, hx477_1, hx477_2, hx478_0, hx478_1, hx478_2⟩ (fun hHeld => ?_); refine with_tabW clepsydralaw21_ClosurePulls.tab8 clepsydralaw21_ClosurePulls.bits8 (fun HT_ HW_ => ?_)
         generalize wr.drew = w29 at HO_11 HO_12 BK469 BK470 HB hx476_0 hx476_1 hx476_2 hx477_0 hx477_1 hx477_2 hx478_0 hx478_1 hx478_2 hHeld ⊢
         refine pure_ (i := 0) (N := some 36) (v := ?_) (a' := ?_) u18_1 rfl rfl (any_of HT_.out (by kernel_rfl)) (fun _ _ _ h => h) (Or.inl ⟨by rfl, ?_⟩) ?_ ?_
         rotate_left
         ·intro w'
          go_simp
          with_reducible rfl
         rotate_left
         ·simp only [Act.put, s0_, s1_, s2_, i64_w, i32_w]
          rfl
         refine pure_ (i := 1) (N := some 37) (v := ?_) (a' := ?_) u18_2 rfl rfl (any_of HT_.out (by kernel_rfl)) (fun _ _ _ h => h) (Or.inl ⟨by rfl, ?_⟩) ?_ ?_
         rotate_left
         ·intro w'
          go_simp
          with_reducible rfl
         rotate_left
         ·simp only [Act.put, s0_, s1_, s2_, i64_w, i32_w]
          rfl
         refine pure_ (i := 2) (N := some 38) (v := ?_) (a' := ?_) u18_3 rfl rfl (any_of HT_.out (by kernel_rfl)) (fun _ _ _ h => h) (Or.inl ⟨by rfl, ?_⟩) ?_ ?_
         rotate_left
         ·intro w'
          go_simp
          with_reducible rfl
         rotate_left
         ·simp only [Act.put, s0_, s1_, s2_, i64_w, i32_w]
          rfl
         refine pure_ (i := 3) (N := some 39) (v := ?_) (a' := ?_) u18_4 rfl rfl (any_of HT_.out (by kernel_rfl)) (fun _ _ _ h => h) (Or.inl ⟨by rfl, ?_⟩) ?_ ?_
         rotate_left
         ·intro w'
          go_simp
          with_reducible rfl
         rotate_left
         ·simp only [Act.put, s0_, s1_, s2_, i64_w, i32_w]
          rfl
         refine pure_ (i := 4) (N := some 40) (v := ?_) (a' := ?_) u18_5 rfl rfl (any_of HT_.out (by kernel_rfl)) (fun _ _ _ h => h) (Or.inl ⟨by rfl, ?_⟩) ?_ ?_
         rotate_left
         ·intro w'
          go_simp
          with_reducible rfl
         rotate_left
         ·simp only [Act.put, s0_, s1_, s2_, i64_w, i32_w]
          rfl
         refine pure_ (i := 5) (N := some 41) (v := ?_) (a' := ?_) u18_6 rfl rfl (any_of HT_.out (by kernel_rfl)) (fun _ _ _ h => h) (Or.inl ⟨by rfl, ?_⟩) ?_ ?_
         rotate_left
         ·intro w'
          go_simp
          with_reducible rfl
         rotate_left
         ·simp only [Act.put, s0_, s1_, s2_, i64_w, i32_w]
          rfl
         refine pure_ (i := 7) (N := some 43) (v := ?_) (a' := ?_) u18_7 rfl rfl (any_of HT_.out (by kernel_rfl)) (fun _ _ _ h => h) (Or.inl ⟨by rfl, ?_⟩) ?_ ?_
         rotate_left
         ·intro w'
          go_simp
          with_reducible rfl
         rotate_left
         ·simp only [Act.put, s0_, s1_, s2_, i64_w, i32_w]
          rfl
         refine pure_ (i := 8) (N := some 44) (v := ?_) (a' := ?_) u18_8 rfl rfl (any_of HT_.out (by kernel_rfl)) (fun _ _ _ h => h) (Or.inl ⟨by rfl, ?_⟩) ?_ ?_
         rotate_left
         ·intro w'
          go_simp
          with_reducible rfl
         rotate_left
         ·simp only [Act.put, s0_, s1_, s2_, i64_w, i32_w]
          rfl
         refine pure_ (i := 9) (N := some 45) (v := ?_) (a' := ?_) u18_9 rfl rfl (any_of HT_.out (by kernel_rfl)) (fun _ _ _ h => h) (Or.inl ⟨by rfl, ?_⟩) ?_ ?_
         rotate_left
         ·intro w'
          go_simp
          with_reducible rfl
         rotate_left
         ·simp only [Act.put, s0_, s1_, s2_, i64_w, i32_w]
          rfl
         refine pure_ (i := 10) (N := some 46) (v := ?_) (a' := ?_) u18_10 rfl rfl (any_of HT_.out (by kernel_rfl)) (fun _ _ _ h => h) (Or.inl ⟨by rfl, ?_⟩) ?_ ?_
         rotate_left
         ·intro w'
          go_simp
          with_reducible rfl
         rotate_left
         ·simp only [Act.put, s0_, s1_, s2_, i64_w, i32_w]
          rfl
         refine pure_ (i := 11) (N := some 47) (v := ?_) (a' := ?_) u18_11 rfl rfl (any_of HT_.out (by kernel_rfl)) (fun _ _ _ h => h) (Or.inl ⟨by rfl, ?_⟩) ?_ ?_
         rotate_left
         ·intro w'
          go_simp
          with_reducible rfl
         rotate_left
         ·simp only [Act.put, s0_, s1_, s2_, i64_w, i32_w]
          rfl
         refine pure_ (i := 13) (N := some 49) (v := ?_) (a' := ?_) u18_12 rfl rfl (any_of HT_.out (by kernel_rfl)) (fun _ _ _ h => h) (Or.inl ⟨by rfl, ?_⟩) ?_ ?_
         rotate_left
         ·intro w'
          go_simp
          with_reducible rfl
         rotate_left
         ·simp only [Act.put, s0_, s1_, s2_, i64_w, i32_w]
          rfl
         refine pure_ (i := 14) (N := some 50) (v := ?_) (a' := ?_) u18_13 rfl rfl (any_of HT_.out (by kernel_rfl)) (fun _ _ _ h => h) (Or.inl ⟨by rfl, ?_⟩) ?_ ?_
         rotate_left
         ·intro w'
          go_simp
          with_reducible rfl
         rotate_left
         ·simp only [Act.put, s0_, s1_, s2_, i64_w, i32_w]
          rfl
         refine pure_ (i := 15) (N := some 51) (v := ?_) (a' := ?_) u18_14 rfl rfl (any_of HT_.out (by kernel_rfl)) (fun _ _ _ h => h) (Or.inl ⟨by rfl, ?_⟩) ?_ ?_
         rotate_left
         ·intro w'
          go_simp
          with_reducible rfl
         rotate_left
         ·simp only [Act.put, s0_, s1_, s2_, i64_w, i32_w]
          rfl
         refine pure_ (i := 16) (N := some 52) (v := ?_) (a' := ?_) u18_15 rfl rfl (any_of HT_.out (by kernel_rfl)) (fun _ _ _ h => h) (Or.inl ⟨by rfl, ?_⟩) ?_ ?_
         rotate_left
         ·intro w'
          go_simp
          with_reducible rfl
         rotate_left
         ·simp only [Act.put, s0_, s1_, s2_, i64_w, i32_w]
          rfl
         refine take_ (i := 6) (N := some 42) (v := ?_) (a' := ?_) u18_16 rfl rfl (take_ofW HT_.out HW_.out (by kernel_rfl)) (fun _ _ _ h => h) (Or.inl ⟨by rfl, ?_⟩) hHeld ?_ ?_
         rotate_left
         ·rintro w' ⟨s0, s1, s2, s3, s4, s5, s6, s7, s8⟩
          go_simp
          with_reducible rfl
         rotate_left
         ·simp only [Act.put, s0_, s1_, s2_, i64_w, i32_w]
          rfl
         refine take_ (i := 12) (N := some 48) (v := ?_) (a' := ?_) u18_17 rfl rfl (take_ofW HT_.out HW_.out (by kernel_rfl)) (fun _ _ _ h => h) (Or.inl ⟨by rfl, ?_⟩) hHeld ?_ ?_
         rotate_left
         ·rintro w' ⟨s0, s1, s2, s3, s4, s5, s6, s7, s8⟩
          go_simp
          with_reducible rfl
         rotate_left
         ·simp only [Act.put, s0_, s1_, s2_, i64_w, i32_w]
          rfl
         refine take_ (i := 17) (N := some 53) (v := ?_) (a' := ?_) u18_18 rfl rfl (take_ofW HT_.out HW_.out (by kernel_rfl)) (fun _ _ _ h => h) (Or.inl ⟨by rfl, ?_⟩) hHeld ?_ ?_
         rotate_left
         ·rintro w' ⟨s0, s1, s2, s3, s4, s5, s6, s7, s8⟩
          go_simp
          with_reducible rfl
         rotate_left
         ·simp only [Act.put, s0_, s1_, s2_, i64_w, i32_w]
          rfl
         refine pure_ (i := 18) (N := some 54) (v := ?_) (a' := ?_) u18_19 rfl rfl (any_of HT_.out (by kernel_rfl)) (fun _ _ _ h => h) (Or.inl ⟨by rfl, ?_⟩) ?_ ?_
         rotate_left
         ·intro w'
          go_simp
          with_reducible rfl
         rotate_left
         ·simp only [Act.put, s0_, s1_, s2_, i64_w, i32_w]
          rfl
         refine last_ (i := 19) (N := some 55) u18_20 rfl rfl (one_of HT_.out (by kernel_rfl)) (by decide) (fun K hK => ?_)
         refine value_ (w1 := ?_) (v := ?_) (by rfl) rfl ?_ ?_
         rotate_left 2
         ·go_simp
          constructor
          ·rfl
          ·rfl
         refine hK.out _ _ ?_
         clear hK K
         refine norm_ (a' := ?_) ?_ ?_
         rotate_left
         ·show Act.put _ (some 55) _ = _
          simp only [Act.put, s0_, s1_, s2_, i64_w, i32_w]
          rfl
         refine last_ (i := 20) (N := some 56) u18_21 rfl rfl (one_of HT_.out (by kernel_rfl)) (by decide) (fun K hK => ?_)
         refine Kd.R_append_step k44 (w0 := w) w.heap.size (by rfl) (.tmp 36) (.tmp 55) 40 44 (.agg #[(.int .i64 0), (.int .u8 0), (.bool false)]) 16 rfl Try.underlying40 info44 rfl (by decide) (by omega) u12 x12_2 (⟨(rd_T55 t473 x13_2).f0.f0, (rd_T55 t473 x13_2).f0.f1, (rd_T55 t473 x13_2).f1⟩ : S44) [.int .i64 ((rd_T55 t473 x13_2).f0.f0), .int .u8 ((rd_T55 t473 x13_2).f0.f1), .bool ((rd_T55 t473 x13_2).f1)] (fun _ => True) (fun _ => False) rfl rfl ?aP (fun _ hk => hk.elim) ?aF ?aO ?aB ?aS ?aL ?_
         (case aP => exact k44_mkM _ _ _ (⟨(rd_T55 t473 x13_2).f0.f0, (rd_T55 t473 x13_2).f0.f1, (rd_T55 t473 x13_2).f1⟩ : S44))
         (case aB => exact (by repeat (first | (with_reducible first | exact HB.out | apply below_alloc | apply pw_below_drewN | apply below_drew1 | refine below_set ?_ GE469.out | refine below_set ?_ GE470.out) | exact HB.out)))
         (case aF => exact (fun _ _ => trivial))
         (case aO => exact (RD HO_12))
         (case aS => exact (below_size (by repeat (first | (with_reducible first | exact HB.out | apply below_alloc | apply pw_below_drewN | apply below_drew1 | refine below_set ?_ GE469.out | refine below_set ?_ GE470.out) | exact HB.out))))
         (case aL => have := LMc27.out; omega)
         intro v480 w30 ho hb hg hat
         rw [← Ny479.out] at ho
         have n0_ := Aside0.mk (Kd.R_over' (RD HO_11) (Kd.R_typed (RD HO_12)) (by decide) hg)
         have n1_ := Aside0.mk (blk_grown (g := gb469) (o := .cells #[.slice A0_0 l0_0.length c0_0, .slice A0_1 l0_1.length c0_1, .slice A0_2 l0_2.length c0_2, .slice A0_3 l0_3.length c0_3, .slice A0_4 l0_4.length c0_4, .slice A0_5 l0_5.length c0_5, .slice A0_6 l0_6.length c0_6, .slice A0_7 l0_7.length c0_7, .slice A0_8 l0_8.length c0_8, .slice A0_9 l0_9.length c0_9] 24 (0, 0)) (by (with_reducible repeat (first | refine blk_drewN ?_ _ | refine blk_drew ?_ | refine blk_alloc ?_ _)); exact BK469.out) hg ((by first | exact Kd.R_ne HO_12.out BK469.out (by decide) | (intro h_; have h2_ := HO_12.out.1 _ h_.symm; simp at h2_))))
         have n2_ := Aside0.mk (blk_grown (g := gb470) (o := .cells #[.int .i64 a2_0, .int .u8 a2_1] 32 (0, 0)) (by (with_reducible repeat (first | refine blk_drewN ?_ _ | refine blk_drew ?_ | refine blk_alloc ?_ _)); exact BK470.out) hg ((by first | exact Kd.R_ne HO_12.out BK470.out (by decide) | (intro h_; have h2_ := HO_12.out.1 _ h_.symm; simp at h2_))))
         have n3_ := Aside0.mk (hb)
         have n4_ := Aside0.mk (ho)
         clear HO_11
         clear BK469
         clear BK470
         clear HB
         clear HO_12
         have HO_11 := n0_
         have BK469 := n1_
         have BK470 := n2_
         have HB := n3_
         have HO481 := n4_
         clear n0_ n1_ n2_ n3_ n4_
         clear ho hb hg hat
         refine hK.out _ _ ?_
         clear hK K
         refine norm_ (a' := ?_) ?_ ?_
         rotate_left
         ·show Act.put _ (some 56) _ = _
          simp only [Act.put, s0_, s1_, s2_, i64_w, i32_w]
          rfl
         refine pure_ (i := 21) (N := some 12) (v := ?_) (a' := ?_) u18_22 rfl rfl (any_of HT_.out (by kernel_rfl)) (fun _ _ _ h => h) (Or.inl ⟨by rfl, ?_⟩) ?_ ?_
         rotate_left
         ·intro w'
          go_simp
          with_reducible rfl
         rotate_left
         ·simp only [Act.put, s0_, s1_, s2_, i64_w, i32_w]
          rfl
         refine done_ (done_of HT_.out (by kernel_rfl)) ?_
         try go_wp2
         go_roundg k2
         case measure => have := HJ5.out; have := HK2.out; omega
         case rel => exact ⟨(y479), (wrap64 (x13_2 + 1)), (by first | rfl | (simp; done) | (simp [*]; done)), H', ⟨by have := HJ5.out; have := HK2.out; omega⟩, ⟨RD HO_11⟩, ⟨RD HO481⟩, ⟨by (with_reducible repeat (first | refine blk_drewN ?_ _ | refine blk_drew ?_ | refine blk_alloc ?_ _)); exact BK469.out⟩, ⟨by (with_reducible repeat (first | refine blk_drewN ?_ _ | refine blk_drew ?_ | refine blk_alloc ?_ _)); exact BK470.out⟩, ⟨by repeat (first | (with_reducible first | exact HB.out | apply below_alloc | apply pw_below_drewN | apply below_drew1 | refine below_set ?_ GE469.out | refine below_set ?_ GE470.out) | exact HB.out)⟩⟩
        ·rw [if_neg c27] at H
         exact absurd H (by simp)
       ·rw [if_neg c26] at H
        exact absurd H (by simp)
      ·rw [if_neg c25] at H
       have c25b0 : decide (x13_2 < (t473.length : Int)) = false := decide_eq_false c25
       clear c25
       replace H := Option.bind_eq_some_iff.mp H
       obtain ⟨⟨t482, t485, t488, t491, t494, t497, t500⟩, A310, H⟩ := H
       replace H : ((clepsydralaw21_job.f a2_0 a2_1).bind fun bt504 => ((clepsydraref21_Pulls.f k2 t482 t485 t488 t491 t494 t497 t500 l1 bt504.1 bt504.2.1 bt504.2.2).bind fun t507 => ((clepsydralaw21_same.f k2 x12_2 t507).bind fun t510 => (if t510 = true then ((closure_Bans.f l0_0 l0_1 l0_2 l0_3 l0_4 l0_5 l0_6 l0_7 l0_8 l0_9 l1 l3 l4).bind fun t511 => ((clepsydralaw21_all.f k2 t511).bind fun t514 => ((clepsydralaw21_all.f k2 l3).bind fun t517 => ((clepsydralaw21_all.f k2 l4).bind fun t520 => ((clepsydraref21_Bans.f k2 t482 t485 t488 t491 t494 t497 t500 l1 t517 t520).bind fun t523 => ((clepsydralaw21_same.f k2 t514 t523).bind fun t526 => (if t526 = true then ((clepsydralaw21_works.f).bind fun t527 => (some t527)) else (some false)))))))) else (some false))))) = some r := H
       have A31 := Aside0.mk A310
       clear A310
       replace H := Option.bind_eq_some_iff.mp H
       obtain ⟨⟨t504, t505, t506⟩, A320, H⟩ := H
       replace H : ((clepsydraref21_Pulls.f k2 t482 t485 t488 t491 t494 t497 t500 l1 t504 t505 t506).bind fun t507 => ((clepsydralaw21_same.f k2 x12_2 t507).bind fun t510 => (if t510 = true then ((closure_Bans.f l0_0 l0_1 l0_2 l0_3 l0_4 l0_5 l0_6 l0_7 l0_8 l0_9 l1 l3 l4).bind fun t511 => ((clepsydralaw21_all.f k2 t511).bind fun t514 => ((clepsydralaw21_all.f k2 l3).bind fun t517 => ((clepsydralaw21_all.f k2 l4).bind fun t520 => ((clepsydraref21_Bans.f k2 t482 t485 t488 t491 t494 t497 t500 l1 t517 t520).bind fun t523 => ((clepsydralaw21_same.f k2 t514 t523).bind fun t526 => (if t526 = true then ((clepsydralaw21_works.f).bind fun t527 => (some t527)) else (some false)))))))) else (some false)))) = some r := H
       have A32 := Aside0.mk A320
       clear A320
       replace H := Option.bind_eq_some_iff.mp H
       obtain ⟨t507, A330, H⟩ := H
       try dsimp only at H
       have A33 := Aside0.mk A330
       clear A330
       replace H := Option.bind_eq_some_iff.mp H
       obtain ⟨t510, A340, H⟩ := H
       try dsimp only at H
       have A34 := Aside0.mk A340
       clear A340
       by_cases c35 : t510 = true
       ·subst c35
        have H1 : ((closure_Bans.f l0_0 l0_1 l0_2 l0_3 l0_4 l0_5 l0_6 l0_7 l0_8 l0_9 l1 l3 l4).bind fun t511 => ((clepsydralaw21_all.f k2 t511).bind fun t514 => ((clepsydralaw21_all.f k2 l3).bind fun t517 => ((clepsydralaw21_all.f k2 l4).bind fun t520 => ((clepsydraref21_Bans.f k2 t482 t485 t488 t491 t494 t497 t500 l1 t517 t520).bind fun t523 => ((clepsydralaw21_same.f k2 t514 t523).bind fun t526 => (if t526 = true then ((clepsydralaw21_works.f).bind fun t527 => (some t527)) else (some false)))))))) = some r := by rw [if_pos rfl] at H; exact H
        clear H
        have H := H1
        clear H1
        replace H := Option.bind_eq_some_iff.mp H
        obtain ⟨t511, A360, H⟩ := H
        try dsimp only at H
        have A36 := Aside0.mk A360
        clear A360
        replace H := Option.bind_eq_some_iff.mp H
        obtain ⟨t514, A370, H⟩ := H
        try dsimp only at H
        have A37 := Aside0.mk A370
        clear A370
        replace H := Option.bind_eq_some_iff.mp H
        obtain ⟨t517, A380, H⟩ := H
        try dsimp only at H
        have A38 := Aside0.mk A380
        clear A380
        replace H := Option.bind_eq_some_iff.mp H
        obtain ⟨t520, A390, H⟩ := H
        try dsimp only at H
        have A39 := Aside0.mk A390
        clear A390
        replace H := Option.bind_eq_some_iff.mp H
        obtain ⟨t523, A400, H⟩ := H
        try dsimp only at H
        have A40 := Aside0.mk A400
        clear A400
        replace H := Option.bind_eq_some_iff.mp H
        obtain ⟨t526, A410, H⟩ := H
        try dsimp only at H
        have A41 := Aside0.mk A410
        clear A410
        by_cases c42 : t526 = true
        ·subst c42
         have H1 : ((clepsydralaw21_works.f).bind fun t527 => (some t527)) = some r := by rw [if_pos rfl] at H; exact H
         clear H
         have H := H1
         clear H1
         replace H := Option.bind_eq_some_iff.mp H
         obtain ⟨t527, A430, H⟩ := H
         try dsimp only at H
         have A43 := Aside0.mk A430
         clear A430
         obtain rfl := Option.some.inj H
         obtain ⟨Ao44, co44, eo44⟩ := Kd.R_slice HO_11.out
         subst eo44
         have hnb45 := NB469_470.out
         have hnc45 := NB470_469.out
         have hcz46_0 : wr.cell? ⟨gb469, 0, none⟩ = some (.slice A0_0 l0_0.length c0_0) := (blk_cell BK469.out 0).trans rfl
         have hcz46_1 : wr.cell? ⟨gb469, 1, none⟩ = some (.slice A0_1 l0_1.length c0_1) := (blk_cell BK469.out 1).trans rfl
         have hcz46_2 : wr.cell? ⟨gb469, 2, none⟩ = some (.slice A0_2 l0_2.length c0_2) := (blk_cell BK469.out 2).trans rfl
         have hcz46_3 : wr.cell? ⟨gb469, 3, none⟩ = some (.slice A0_3 l0_3.length c0_3) := (blk_cell BK469.out 3).trans rfl
         have hcz46_4 : wr.cell? ⟨gb469, 4, none⟩ = some (.slice A0_4 l0_4.length c0_4) := (blk_cell BK469.out 4).trans rfl
         have hcz46_5 : wr.cell? ⟨gb469, 5, none⟩ = some (.slice A0_5 l0_5.length c0_5) := (blk_cell BK469.out 5).trans rfl
         have hcz46_6 : wr.cell? ⟨gb469, 6, none⟩ = some (.slice A0_6 l0_6.length c0_6) := (blk_cell BK469.out 6).trans rfl
         have hcz46_7 : wr.cell? ⟨gb469, 7, none⟩ = some (.slice A0_7 l0_7.length c0_7) := (blk_cell BK469.out 7).trans rfl
         have hcz46_8 : wr.cell? ⟨gb469, 8, none⟩ = some (.slice A0_8 l0_8.length c0_8) := (blk_cell BK469.out 8).trans rfl
         have hcz46_9 : wr.cell? ⟨gb469, 9, none⟩ = some (.slice A0_9 l0_9.length c0_9) := (blk_cell BK469.out 9).trans rfl
         have hfz46_0 := blk_frozen BK469.out 0
         have hfz46_1 := blk_frozen BK469.out 1
         have hfz46_2 := blk_frozen BK469.out 2
         have hfz46_3 := blk_frozen BK469.out 3
         have hfz46_4 := blk_frozen BK469.out 4
         have hfz46_5 := blk_frozen BK469.out 5
         have hfz46_6 := blk_frozen BK469.out 6
         have hfz46_7 := blk_frozen BK469.out 7
         have hfz46_8 := blk_frozen BK469.out 8
         have hfz46_9 := blk_frozen BK469.out 9
         try go_wp2_with (first | ((with_reducible refine gate_callee (f := 15) rfl ?_); refine goesL_ (some 58) rfl rfl Try.func15 (by kernel_rfl) rfl #[.agg #[.slice A0_0 l0_0.length c0_0, .slice A0_1 l0_1.length c0_1, .slice A0_2 l0_2.length c0_2, .slice A0_3 l0_3.length c0_3, .slice A0_4 l0_4.length c0_4, .slice A0_5 l0_5.length c0_5, .slice A0_6 l0_6.length c0_6, .slice A0_7 l0_7.length c0_7, .slice A0_8 l0_8.length c0_8, .slice A0_9 l0_9.length c0_9]] rfl (by (try simp only [List.map_toArray, List.map_cons, List.map_nil]); first | done | rfl | (simp only [List.length_drop, List.length_take]; rfl)) ?_; (with_reducible refine (clepsydralaw21_plain.calls (fun k_ => k_ < w.heap.size) _ _ l0_0 (fun k_ => k_ < w.heap.size) _ _ l0_1 (fun k_ => k_ < w.heap.size) _ _ l0_2 _ _ l0_3 _ _ l0_4 _ _ l0_5 (fun k_ => k_ < w.heap.size) _ _ l0_6 (fun k_ => k_ < w.heap.size) _ _ l0_7 (fun k_ => k_ < w.heap.size) _ _ l0_8 (fun k_ => k_ < w.heap.size) _ _ l0_9 t482 t485 t488 t491 t494 t497 t500 _ ?side1 ?side2 ?side3 ?side4 ?side5 ?side6 ?side7 ?side8 ?side9 ?side10 ?side11 ?side12 ?side13 A31.out).mono ?_); (case side1 => exact Kd.V_mk HC0_0.out (Kd.F_below (Kd.C_F (Kd.heap_slice 3 (Kd.heap_int .i64)) HR0_0.out) (by repeat (first | (with_reducible first | exact HB.out | apply below_alloc | apply pw_below_drewN | apply below_drew1 | refine below_set ?_ GE469.out | refine below_set ?_ GE470.out) | exact HB.out)))); (case side2 => exact Kd.V_mk HC0_1.out (Kd.F_below (Kd.C_F (Kd.heap_slice 3 (Kd.heap_int .i64)) HR0_1.out) (by repeat (first | (with_reducible first | exact HB.out | apply below_alloc | apply pw_below_drewN | apply below_drew1 | refine below_set ?_ GE469.out | refine below_set ?_ GE470.out) | exact HB.out)))); (case side3 => exact Kd.V_mk HC0_2.out (Kd.F_below (Kd.C_F (Kd.heap_slice 3 (Kd.heap_int .i64)) HR0_2.out) (by repeat (first | (with_reducible first | exact HB.out | apply below_alloc | apply pw_below_drewN | apply below_drew1 | refine below_set ?_ GE469.out | refine below_set ?_ GE470.out) | exact HB.out)))); (case side4 => exact CD ((Kd.C_below HR0_3.out HB.out))); (case side5 => exact HC0_3.out); (case side6 => exact CD ((Kd.C_below HR0_4.out HB.out))); (case side7 => exact HC0_4.out); (case side8 => exact CD ((Kd.C_below HR0_5.out HB.out))); (case side9 => exact HC0_5.out); (case side10 => exact Kd.V_mk HC0_6.out (Kd.F_below (Kd.C_F (Kd.heap_slice 3 (Kd.heap_int .i64)) HR0_6.out) (by repeat (first | (with_reducible first | exact HB.out | apply below_alloc | apply pw_below_drewN | apply below_drew1 | refine below_set ?_ GE469.out | refine below_set ?_ GE470.out) | exact HB.out)))); (case side11 => exact Kd.V_mk HC0_7.out (Kd.F_below (Kd.C_F (Kd.heap_slice 3 (Kd.heap_int .i64)) HR0_7.out) (by repeat (first | (with_reducible first | exact HB.out | apply below_alloc | apply pw_below_drewN | apply below_drew1 | refine below_set ?_ GE469.out | refine below_set ?_ GE470.out) | exact HB.out)))); (case side12 => exact Kd.V_mk HC0_8.out (Kd.F_below (Kd.C_F (Kd.heap_slice 3 (Kd.heap_int .i64)) HR0_8.out) (by repeat (first | (with_reducible first | exact HB.out | apply below_alloc | apply pw_below_drewN | apply below_drew1 | refine below_set ?_ GE469.out | refine below_set ?_ GE470.out) | exact HB.out)))); (case side13 => exact Kd.V_mk HC0_9.out (Kd.F_below (Kd.C_F (Kd.heap_slice 3 (Kd.heap_int .i64)) HR0_9.out) (by repeat (first | (with_reducible first | exact HB.out | apply below_alloc | apply pw_below_drewN | apply below_drew1 | refine below_set ?_ GE469.out | refine below_set ?_ GE470.out) | exact HB.out)))); rintro e w47 ⟨v483, v486, v489, v492, v495, v498, v501, rfl, ho0, ho1, ho2, ho3, ho4, ho5, ho6, hb⟩; refine ⟨_, rfl, ?_⟩; have n0_ := RB HO_11 hb; have n1_ := RB HO_12 hb; have n2_ := Aside0.mk (Kd.V_lower (Kd.V_mono (ok' := fun k_ => some k_ ≠ (.slice Ao44 t473.length co44 : Value).ownBlock ∧ some k_ ≠ (u12 : Value).ownBlock ∧ k_ ≠ gb469 ∧ k_ ≠ gb470) ho0 (fun k_ hk_ => ⟨Or.elim hk_ (fun hs_ => have hs_ := or7_18 hs_; fun e_ => Nat.not_le.2 hs_ (Kd.R_base HO_11.out k_ e_.symm)) (fun hn_ => (Kd.fresh' (Kd.R_lt (RD HO_11)) k_ hn_)), Or.elim hk_ (fun hs_ => have hs_ := or7_18 hs_; fun e_ => Nat.not_le.2 hs_ (Kd.R_base HO_12.out k_ e_.symm)) (fun hn_ => (Kd.fresh' (Kd.R_lt (RD HO_12)) k_ hn_)), Or.elim hk_ (fun hs_ => have hs_ := or7_18 hs_; fun e_ => Nat.not_le.2 hs_ (by rw [e_]; exact GW469.out)) (fun hn_ => (Kd.freshB (g := gb469) (o := .cells #[.slice A0_0 l0_0.length c0_0, .slice A0_1 l0_1.length c0_1, .slice A0_2 l0_2.length c0_2, .slice A0_3 l0_3.length c0_3, .slice A0_4 l0_4.length c0_4, .slice A0_5 l0_5.length c0_5, .slice A0_6 l0_6.length c0_6, .slice A0_7 l0_7.length c0_7, .slice A0_8 l0_8.length c0_8, .slice A0_9 l0_9.length c0_9] 24 (0, 0)) (by (with_reducible repeat (first | refine blk_drewN ?_ _ | refine blk_drew ?_ | refine blk_alloc ?_ _)); exact BK469.out) k_ hn_)), Or.elim hk_ (fun hs_ => have hs_ := or7_18 hs_; fun e_ => Nat.not_le.2 hs_ (by rw [e_]; exact GW470.out)) (fun hn_ => (Kd.freshB (g := gb470) (o := .cells #[.int .i64 a2_0, .int .u8 a2_1] 32 (0, 0)) (by (with_reducible repeat (first | refine blk_drewN ?_ _ | refine blk_drew ?_ | refine blk_alloc ?_ _)); exact BK470.out) k_ hn_))⟩)) (below_size (by repeat (first | (with_reducible first | exact HB.out | apply below_alloc | apply pw_below_drewN | apply below_drew1 | refine below_set ?_ GE469.out | refine below_set ?_ GE470.out) | exact HB.out)))); have n3_ := Aside0.mk (Kd.V_lower (Kd.V_mono (ok' := fun k_ => some k_ ≠ (.slice Ao44 t473.length co44 : Value).ownBlock ∧ some k_ ≠ (u12 : Value).ownBlock ∧ k_ ≠ gb469 ∧ k_ ≠ gb470) ho1 (fun k_ hk_ => ⟨Or.elim hk_ (fun hs_ => have hs_ := or7_18 hs_; fun e_ => Nat.not_le.2 hs_ (Kd.R_base HO_11.out k_ e_.symm)) (fun hn_ => (Kd.fresh' (Kd.R_lt (RD HO_11)) k_ hn_)), Or.elim hk_ (fun hs_ => have hs_ := or7_18 hs_; fun e_ => Nat.not_le.2 hs_ (Kd.R_base HO_12.out k_ e_.symm)) (fun hn_ => (Kd.fresh' (Kd.R_lt (RD HO_12)) k_ hn_)), Or.elim hk_ (fun hs_ => have hs_ := or7_18 hs_; fun e_ => Nat.not_le.2 hs_ (by rw [e_]; exact GW469.out)) (fun hn_ => (Kd.freshB (g := gb469) (o := .cells #[.slice A0_0 l0_0.length c0_0, .slice A0_1 l0_1.length c0_1, .slice A0_2 l0_2.length c0_2, .slice A0_3 l0_3.length c0_3, .slice A0_4 l0_4.length c0_4, .slice A0_5 l0_5.length c0_5, .slice A0_6 l0_6.length c0_6, .slice A0_7 l0_7.length c0_7, .slice A0_8 l0_8.length c0_8, .slice A0_9 l0_9.length c0_9] 24 (0, 0)) (by (with_reducible repeat (first | refine blk_drewN ?_ _ | refine blk_drew ?_ | refine blk_alloc ?_ _)); exact BK469.out) k_ hn_)), Or.elim hk_ (fun hs_ => have hs_ := or7_18 hs_; fun e_ => Nat.not_le.2 hs_ (by rw [e_]; exact GW470.out)) (fun hn_ => (Kd.freshB (g := gb470) (o := .cells #[.int .i64 a2_0, .int .u8 a2_1] 32 (0, 0)) (by (with_reducible repeat (first | refine blk_drewN ?_ _ | refine blk_drew ?_ | refine blk_alloc ?_ _)); exact BK470.out) k_ hn_))⟩)) (below_size (by repeat (first | (with_reducible first | exact HB.out | apply below_alloc | apply pw_below_drewN | apply below_drew1 | refine below_set ?_ GE469.out | refine below_set ?_ GE470.out) | exact HB.out)))); have n4_ := Aside0.mk (Kd.V_lower (Kd.V_mono (ok' := fun k_ => some k_ ≠ (.slice Ao44 t473.length co44 : Value).ownBlock ∧ some k_ ≠ (u12 : Value).ownBlock ∧ k_ ≠ gb469 ∧ k_ ≠ gb470) ho2 (fun k_ hk_ => ⟨Or.elim hk_ (fun hs_ => have hs_ := or7_18 hs_; fun e_ => Nat.not_le.2 hs_ (Kd.R_base HO_11.out k_ e_.symm)) (fun hn_ => (Kd.fresh' (Kd.R_lt (RD HO_11)) k_ hn_)), Or.elim hk_ (fun hs_ => have hs_ := or7_18 hs_; fun e_ => Nat.not_le.2 hs_ (Kd.R_base HO_12.out k_ e_.symm)) (fun hn_ => (Kd.fresh' (Kd.R_lt (RD HO_12)) k_ hn_)), Or.elim hk_ (fun hs_ => have hs_ := or7_18 hs_; fun e_ => Nat.not_le.2 hs_ (by rw [e_]; exact GW469.out)) (fun hn_ => (Kd.freshB (g := gb469) (o := .cells #[.slice A0_0 l0_0.length c0_0, .slice A0_1 l0_1.length c0_1, .slice A0_2 l0_2.length c0_2, .slice A0_3 l0_3.length c0_3, .slice A0_4 l0_4.length c0_4, .slice A0_5 l0_5.length c0_5, .slice A0_6 l0_6.length c0_6, .slice A0_7 l0_7.length c0_7, .slice A0_8 l0_8.length c0_8, .slice A0_9 l0_9.length c0_9] 24 (0, 0)) (by (with_reducible repeat (first | refine blk_drewN ?_ _ | refine blk_drew ?_ | refine blk_alloc ?_ _)); exact BK469.out) k_ hn_)), Or.elim hk_ (fun hs_ => have hs_ := or7_18 hs_; fun e_ => Nat.not_le.2 hs_ (by rw [e_]; exact GW470.out)) (fun hn_ => (Kd.freshB (g := gb470) (o := .cells #[.int .i64 a2_0, .int .u8 a2_1] 32 (0, 0)) (by (with_reducible repeat (first | refine blk_drewN ?_ _ | refine blk_drew ?_ | refine blk_alloc ?_ _)); exact BK470.out) k_ hn_))⟩)) (below_size (by repeat (first | (with_reducible first | exact HB.out | apply below_alloc | apply pw_below_drewN | apply below_drew1 | refine below_set ?_ GE469.out | refine below_set ?_ GE470.out) | exact HB.out)))); have n5_ := Aside0.mk (Kd.V_lower (Kd.V_mono (ok' := fun k_ => some k_ ≠ (.slice Ao44 t473.length co44 : Value).ownBlock ∧ some k_ ≠ (u12 : Value).ownBlock ∧ k_ ≠ gb469 ∧ k_ ≠ gb470) ho3 (fun k_ hk_ => ⟨Or.elim hk_ (fun hs_ => have hs_ := or7_18 hs_; fun e_ => Nat.not_le.2 hs_ (Kd.R_base HO_11.out k_ e_.symm)) (fun hn_ => (Kd.fresh' (Kd.R_lt (RD HO_11)) k_ hn_)), Or.elim hk_ (fun hs_ => have hs_ := or7_18 hs_; fun e_ => Nat.not_le.2 hs_ (Kd.R_base HO_12.out k_ e_.symm)) (fun hn_ => (Kd.fresh' (Kd.R_lt (RD HO_12)) k_ hn_)), Or.elim hk_ (fun hs_ => have hs_ := or7_18 hs_; fun e_ => Nat.not_le.2 hs_ (by rw [e_]; exact GW469.out)) (fun hn_ => (Kd.freshB (g := gb469) (o := .cells #[.slice A0_0 l0_0.length c0_0, .slice A0_1 l0_1.length c0_1, .slice A0_2 l0_2.length c0_2, .slice A0_3 l0_3.length c0_3, .slice A0_4 l0_4.length c0_4, .slice A0_5 l0_5.length c0_5, .slice A0_6 l0_6.length c0_6, .slice A0_7 l0_7.length c0_7, .slice A0_8 l0_8.length c0_8, .slice A0_9 l0_9.length c0_9] 24 (0, 0)) (by (with_reducible repeat (first | refine blk_drewN ?_ _ | refine blk_drew ?_ | refine blk_alloc ?_ _)); exact BK469.out) k_ hn_)), Or.elim hk_ (fun hs_ => have hs_ := or7_18 hs_; fun e_ => Nat.not_le.2 hs_ (by rw [e_]; exact GW470.out)) (fun hn_ => (Kd.freshB (g := gb470) (o := .cells #[.int .i64 a2_0, .int .u8 a2_1] 32 (0, 0)) (by (with_reducible repeat (first | refine blk_drewN ?_ _ | refine blk_drew ?_ | refine blk_alloc ?_ _)); exact BK470.out) k_ hn_))⟩)) (below_size (by repeat (first | (with_reducible first | exact HB.out | apply below_alloc | apply pw_below_drewN | apply below_drew1 | refine below_set ?_ GE469.out | refine below_set ?_ GE470.out) | exact HB.out)))); have n6_ := Aside0.mk (Kd.V_lower (Kd.V_mono (ok' := fun k_ => some k_ ≠ (.slice Ao44 t473.length co44 : Value).ownBlock ∧ some k_ ≠ (u12 : Value).ownBlock ∧ k_ ≠ gb469 ∧ k_ ≠ gb470) ho4 (fun k_ hk_ => ⟨Or.elim hk_ (fun hs_ => have hs_ := or7_18 hs_; fun e_ => Nat.not_le.2 hs_ (Kd.R_base HO_11.out k_ e_.symm)) (fun hn_ => (Kd.fresh' (Kd.R_lt (RD HO_11)) k_ hn_)), Or.elim hk_ (fun hs_ => have hs_ := or7_18 hs_; fun e_ => Nat.not_le.2 hs_ (Kd.R_base HO_12.out k_ e_.symm)) (fun hn_ => (Kd.fresh' (Kd.R_lt (RD HO_12)) k_ hn_)), Or.elim hk_ (fun hs_ => have hs_ := or7_18 hs_; fun e_ => Nat.not_le.2 hs_ (by rw [e_]; exact GW469.out)) (fun hn_ => (Kd.freshB (g := gb469) (o := .cells #[.slice A0_0 l0_0.length c0_0, .slice A0_1 l0_1.length c0_1, .slice A0_2 l0_2.length c0_2, .slice A0_3 l0_3.length c0_3, .slice A0_4 l0_4.length c0_4, .slice A0_5 l0_5.length c0_5, .slice A0_6 l0_6.length c0_6, .slice A0_7 l0_7.length c0_7, .slice A0_8 l0_8.length c0_8, .slice A0_9 l0_9.length c0_9] 24 (0, 0)) (by (with_reducible repeat (first | refine blk_drewN ?_ _ | refine blk_drew ?_ | refine blk_alloc ?_ _)); exact BK469.out) k_ hn_)), Or.elim hk_ (fun hs_ => have hs_ := or7_18 hs_; fun e_ => Nat.not_le.2 hs_ (by rw [e_]; exact GW470.out)) (fun hn_ => (Kd.freshB (g := gb470) (o := .cells #[.int .i64 a2_0, .int .u8 a2_1] 32 (0, 0)) (by (with_reducible repeat (first | refine blk_drewN ?_ _ | refine blk_drew ?_ | refine blk_alloc ?_ _)); exact BK470.out) k_ hn_))⟩)) (below_size (by repeat (first | (with_reducible first | exact HB.out | apply below_alloc | apply pw_below_drewN | apply below_drew1 | refine below_set ?_ GE469.out | refine below_set ?_ GE470.out) | exact HB.out)))); have n7_ := Aside0.mk (Kd.V_lower (Kd.V_mono (ok' := fun k_ => some k_ ≠ (.slice Ao44 t473.length co44 : Value).ownBlock ∧ some k_ ≠ (u12 : Value).ownBlock ∧ k_ ≠ gb469 ∧ k_ ≠ gb470) ho5 (fun k_ hk_ => ⟨Or.elim hk_ (fun hs_ => have hs_ := or7_18 hs_; fun e_ => Nat.not_le.2 hs_ (Kd.R_base HO_11.out k_ e_.symm)) (fun hn_ => (Kd.fresh' (Kd.R_lt (RD HO_11)) k_ hn_)), Or.elim hk_ (fun hs_ => have hs_ := or7_18 hs_; fun e_ => Nat.not_le.2 hs_ (Kd.R_base HO_12.out k_ e_.symm)) (fun hn_ => (Kd.fresh' (Kd.R_lt (RD HO_12)) k_ hn_)), Or.elim hk_ (fun hs_ => have hs_ := or7_18 hs_; fun e_ => Nat.not_le.2 hs_ (by rw [e_]; exact GW469.out)) (fun hn_ => (Kd.freshB (g := gb469) (o := .cells #[.slice A0_0 l0_0.length c0_0, .slice A0_1 l0_1.length c0_1, .slice A0_2 l0_2.length c0_2, .slice A0_3 l0_3.length c0_3, .slice A0_4 l0_4.length c0_4, .slice A0_5 l0_5.length c0_5, .slice A0_6 l0_6.length c0_6, .slice A0_7 l0_7.length c0_7, .slice A0_8 l0_8.length c0_8, .slice A0_9 l0_9.length c0_9] 24 (0, 0)) (by (with_reducible repeat (first | refine blk_drewN ?_ _ | refine blk_drew ?_ | refine blk_alloc ?_ _)); exact BK469.out) k_ hn_)), Or.elim hk_ (fun hs_ => have hs_ := or7_18 hs_; fun e_ => Nat.not_le.2 hs_ (by rw [e_]; exact GW470.out)) (fun hn_ => (Kd.freshB (g := gb470) (o := .cells #[.int .i64 a2_0, .int .u8 a2_1] 32 (0, 0)) (by (with_reducible repeat (first | refine blk_drewN ?_ _ | refine blk_drew ?_ | refine blk_alloc ?_ _)); exact BK470.out) k_ hn_))⟩)) (below_size (by repeat (first | (with_reducible first | exact HB.out | apply below_alloc | apply pw_below_drewN | apply below_drew1 | refine below_set ?_ GE469.out | refine below_set ?_ GE470.out) | exact HB.out)))); have n8_ := Aside0.mk (Kd.V_lower (Kd.V_mono (ok' := fun k_ => some k_ ≠ (.slice Ao44 t473.length co44 : Value).ownBlock ∧ some k_ ≠ (u12 : Value).ownBlock ∧ k_ ≠ gb469 ∧ k_ ≠ gb470) ho6 (fun k_ hk_ => ⟨Or.elim hk_ (fun hs_ => have hs_ := or7_18 hs_; fun e_ => Nat.not_le.2 hs_ (Kd.R_base HO_11.out k_ e_.symm)) (fun hn_ => (Kd.fresh' (Kd.R_lt (RD HO_11)) k_ hn_)), Or.elim hk_ (fun hs_ => have hs_ := or7_18 hs_; fun e_ => Nat.not_le.2 hs_ (Kd.R_base HO_12.out k_ e_.symm)) (fun hn_ => (Kd.fresh' (Kd.R_lt (RD HO_12)) k_ hn_)), Or.elim hk_ (fun hs_ => have hs_ := or7_18 hs_; fun e_ => Nat.not_le.2 hs_ (by rw [e_]; exact GW469.out)) (fun hn_ => (Kd.freshB (g := gb469) (o := .cells #[.slice A0_0 l0_0.length c0_0, .slice A0_1 l0_1.length c0_1, .slice A0_2 l0_2.length c0_2, .slice A0_3 l0_3.length c0_3, .slice A0_4 l0_4.length c0_4, .slice A0_5 l0_5.length c0_5, .slice A0_6 l0_6.length c0_6, .slice A0_7 l0_7.length c0_7, .slice A0_8 l0_8.length c0_8, .slice A0_9 l0_9.length c0_9] 24 (0, 0)) (by (with_reducible repeat (first | refine blk_drewN ?_ _ | refine blk_drew ?_ | refine blk_alloc ?_ _)); exact BK469.out) k_ hn_)), Or.elim hk_ (fun hs_ => have hs_ := or7_18 hs_; fun e_ => Nat.not_le.2 hs_ (by rw [e_]; exact GW470.out)) (fun hn_ => (Kd.freshB (g := gb470) (o := .cells #[.int .i64 a2_0, .int .u8 a2_1] 32 (0, 0)) (by (with_reducible repeat (first | refine blk_drewN ?_ _ | refine blk_drew ?_ | refine blk_alloc ?_ _)); exact BK470.out) k_ hn_))⟩)) (below_size (by repeat (first | (with_reducible first | exact HB.out | apply below_alloc | apply pw_below_drewN | apply below_drew1 | refine below_set ?_ GE469.out | refine below_set ?_ GE470.out) | exact HB.out)))); have n9_ := Aside0.mk (blk_below (g := gb469) (o := .cells #[.slice A0_0 l0_0.length c0_0, .slice A0_1 l0_1.length c0_1, .slice A0_2 l0_2.length c0_2, .slice A0_3 l0_3.length c0_3, .slice A0_4 l0_4.length c0_4, .slice A0_5 l0_5.length c0_5, .slice A0_6 l0_6.length c0_6, .slice A0_7 l0_7.length c0_7, .slice A0_8 l0_8.length c0_8, .slice A0_9 l0_9.length c0_9] 24 (0, 0)) (by (with_reducible repeat (first | refine blk_drewN ?_ _ | refine blk_drew ?_ | refine blk_alloc ?_ _)); exact BK469.out) hb); have n10_ := Aside0.mk (blk_below (g := gb470) (o := .cells #[.int .i64 a2_0, .int .u8 a2_1] 32 (0, 0)) (by (with_reducible repeat (first | refine blk_drewN ?_ _ | refine blk_drew ?_ | refine blk_alloc ?_ _)); exact BK470.out) hb); have n11_ := Aside0.mk (below_step (by repeat (first | (with_reducible first | exact HB.out | apply below_alloc | apply pw_below_drewN | apply below_drew1 | refine below_set ?_ GE469.out | refine below_set ?_ GE470.out) | exact HB.out)) hb); clear HO_11; clear HO_12; clear BK469; clear BK470; clear HB; have HO_11 := n0_; have HO_12 := n1_; have HO484 := n2_; have HO487 := n3_; have HO490 := n4_; have HO493 := n5_; have HO496 := n6_; have HO499 := n7_; have HO502 := n8_; have BK469 := n9_; have BK470 := n10_; have HB := n11_; clear n0_ n1_ n2_ n3_ n4_ n5_ n6_ n7_ n8_ n9_ n10_ n11_; (try clear hb); (try clear hb2); (try clear hk); (try clear hi); (try clear ho0); (try clear ho1); (try clear ho2); (try clear ho3); (try clear ho4); (try clear ho5); (try clear ho6)) | ((with_reducible refine gate_dst (N := 14) rfl ?_); (try (refine gate_guard (by rfl) ?_; dsimp only)); refine box_event ?hg (N := 14) ?hd (cs := #[.slice none 0 0, .slice none 0 0, .slice none 0 0, .slice none 0 0, .slice none 0 0, .slice none 0 0, .slice none 0 0]) (t := 38) ?hr ?_; (case hd => rfl); (case hg => rfl); (case hr => first | (go_simp; done) | (go_simp; rfl)); intro gb503 hg w48 hbox hb; have n0_ := RB HO_11 hb; have n1_ := RB HO_12 hb; have n2_ := Aside0.mk (Kd.V_below (Kd.V_elderB (by (with_reducible repeat (first | apply Kd.V_alloc | apply Kd.V_drewN | apply Kd.V_drew)); exact HO484.out) gb503 (Nat.le_of_eq hg.symm)) hb); have n3_ := Aside0.mk (Kd.V_below (Kd.V_elderB (by (with_reducible repeat (first | apply Kd.V_alloc | apply Kd.V_drewN | apply Kd.V_drew)); exact HO487.out) gb503 (Nat.le_of_eq hg.symm)) hb); have n4_ := Aside0.mk (Kd.V_below (Kd.V_elderB (by (with_reducible repeat (first | apply Kd.V_alloc | apply Kd.V_drewN | apply Kd.V_drew)); exact HO490.out) gb503 (Nat.le_of_eq hg.symm)) hb); have n5_ := Aside0.mk (Kd.V_below (Kd.V_elderB (by (with_reducible repeat (first | apply Kd.V_alloc | apply Kd.V_drewN | apply Kd.V_drew)); exact HO493.out) gb503 (Nat.le_of_eq hg.symm)) hb); have n6_ := Aside0.mk (Kd.V_below (Kd.V_elderB (by (with_reducible repeat (first | apply Kd.V_alloc | apply Kd.V_drewN | apply Kd.V_drew)); exact HO496.out) gb503 (Nat.le_of_eq hg.symm)) hb); have n7_ := Aside0.mk (Kd.V_below (Kd.V_elderB (by (with_reducible repeat (first | apply Kd.V_alloc | apply Kd.V_drewN | apply Kd.V_drew)); exact HO499.out) gb503 (Nat.le_of_eq hg.symm)) hb); have n8_ := Aside0.mk (Kd.V_below (Kd.V_elderB (by (with_reducible repeat (first | apply Kd.V_alloc | apply Kd.V_drewN | apply Kd.V_drew)); exact HO502.out) gb503 (Nat.le_of_eq hg.symm)) hb); have n9_ := Aside0.mk (blk_below (g := gb469) (o := .cells #[.slice A0_0 l0_0.length c0_0, .slice A0_1 l0_1.length c0_1, .slice A0_2 l0_2.length c0_2, .slice A0_3 l0_3.length c0_3, .slice A0_4 l0_4.length c0_4, .slice A0_5 l0_5.length c0_5, .slice A0_6 l0_6.length c0_6, .slice A0_7 l0_7.length c0_7, .slice A0_8 l0_8.length c0_8, .slice A0_9 l0_9.length c0_9] 24 (0, 0)) (by (with_reducible repeat (first | refine blk_drewN ?_ _ | refine blk_drew ?_ | refine blk_alloc ?_ _)); exact BK469.out) hb); have n10_ := Aside0.mk (blk_below (g := gb470) (o := .cells #[.int .i64 a2_0, .int .u8 a2_1] 32 (0, 0)) (by (with_reducible repeat (first | refine blk_drewN ?_ _ | refine blk_drew ?_ | refine blk_alloc ?_ _)); exact BK470.out) hb); have n11_ := Aside0.mk (below_step (by repeat (first | (with_reducible first | exact HB.out | apply below_alloc | apply pw_below_drewN | apply below_drew1 | refine below_set ?_ GE469.out | refine below_set ?_ GE470.out) | exact HB.out)) hb); have n12_ := Aside0.mk (hbox); have n13_ := Aside0.mk ((by rw [hg]; exact (below_size (by repeat (first | (with_reducible first | exact HB.out | apply below_alloc | apply pw_below_drewN | apply below_drew1 | refine below_set ?_ GE469.out | refine below_set ?_ GE470.out) | exact HB.out))) : w.heap.size ≤ gb503)); have n14_ := Aside0.mk ((by rw [hg]; exact (below_size (by repeat (first | (with_reducible first | exact HB.out | apply below_alloc | apply pw_below_drewN | apply below_drew1 | refine below_set ?_ GE469.out | refine below_set ?_ GE470.out) | exact HB.out))) : w.heap.size ≤ gb503)); have n15_ := Aside0.mk ((by rw [hg]; exact Nat.ne_of_lt (blk_lt (g := gb469) (o := .cells #[.slice A0_0 l0_0.length c0_0, .slice A0_1 l0_1.length c0_1, .slice A0_2 l0_2.length c0_2, .slice A0_3 l0_3.length c0_3, .slice A0_4 l0_4.length c0_4, .slice A0_5 l0_5.length c0_5, .slice A0_6 l0_6.length c0_6, .slice A0_7 l0_7.length c0_7, .slice A0_8 l0_8.length c0_8, .slice A0_9 l0_9.length c0_9] 24 (0, 0)) (by (with_reducible repeat (first | refine blk_drewN ?_ _ | refine blk_drew ?_ | refine blk_alloc ?_ _)); exact BK469.out)) : gb469 ≠ gb503)); have n16_ := Aside0.mk ((by rw [hg]; exact Nat.ne_of_gt (blk_lt (g := gb469) (o := .cells #[.slice A0_0 l0_0.length c0_0, .slice A0_1 l0_1.length c0_1, .slice A0_2 l0_2.length c0_2, .slice A0_3 l0_3.length c0_3, .slice A0_4 l0_4.length c0_4, .slice A0_5 l0_5.length c0_5, .slice A0_6 l0_6.length c0_6, .slice A0_7 l0_7.length c0_7, .slice A0_8 l0_8.length c0_8, .slice A0_9 l0_9.length c0_9] 24 (0, 0)) (by (with_reducible repeat (first | refine blk_drewN ?_ _ | refine blk_drew ?_ | refine blk_alloc ?_ _)); exact BK469.out)) : gb503 ≠ gb469)); have n17_ := Aside0.mk ((by rw [hg]; exact Nat.ne_of_lt (blk_lt (g := gb470) (o := .cells #[.int .i64 a2_0, .int .u8 a2_1] 32 (0, 0)) (by (with_reducible repeat (first | refine blk_drewN ?_ _ | refine blk_drew ?_ | refine blk_alloc ?_ _)); exact BK470.out)) : gb470 ≠ gb503)); have n18_ := Aside0.mk ((by rw [hg]; exact Nat.ne_of_gt (blk_lt (g := gb470) (o := .cells #[.int .i64 a2_0, .int .u8 a2_1] 32 (0, 0)) (by (with_reducible repeat (first | refine blk_drewN ?_ _ | refine blk_drew ?_ | refine blk_alloc ?_ _)); exact BK470.out)) : gb503 ≠ gb470)); clear HO_11; clear HO_12; clear HO484; clear HO487; clear HO490; clear HO493; clear HO496; clear HO499; clear HO502; clear BK469; clear BK470; clear HB; have HO_11 := n0_; have HO_12 := n1_; have HO484 := n2_; have HO487 := n3_; have HO490 := n4_; have HO493 := n5_; have HO496 := n6_; have HO499 := n7_; have HO502 := n8_; have BK469 := n9_; have BK470 := n10_; have HB := n11_; have BK503 := n12_; have GW503 := n13_; have GE503 := n14_; have NB469_503 := n15_; have NB503_469 := n16_; have NB470_503 := n17_; have NB503_470 := n18_; clear n0_ n1_ n2_ n3_ n4_ n5_ n6_ n7_ n8_ n9_ n10_ n11_ n12_ n13_ n14_ n15_ n16_ n17_ n18_; clear hb hbox hg; obtain ⟨Ao49, co49, eo49⟩ := Kd.V_slice HO484.out; subst eo49; have hnb50 := NB503_469.out; have hnc50 := NB469_503.out; have hnb51 := NB503_470.out; have hnc51 := NB470_503.out; have hcz52_0 : w48.cell? ⟨gb503, 0, none⟩ = some (.slice none 0 0) := (blk_cell BK503.out 0).trans rfl; have hcz52_1 : w48.cell? ⟨gb503, 1, none⟩ = some (.slice none 0 0) := (blk_cell BK503.out 1).trans rfl; have hcz52_2 : w48.cell? ⟨gb503, 2, none⟩ = some (.slice none 0 0) := (blk_cell BK503.out 2).trans rfl; have hcz52_3 : w48.cell? ⟨gb503, 3, none⟩ = some (.slice none 0 0) := (blk_cell BK503.out 3).trans rfl; have hcz52_4 : w48.cell? ⟨gb503, 4, none⟩ = some (.slice none 0 0) := (blk_cell BK503.out 4).trans rfl; have hcz52_5 : w48.cell? ⟨gb503, 5, none⟩ = some (.slice none 0 0) := (blk_cell BK503.out 5).trans rfl; have hcz52_6 : w48.cell? ⟨gb503, 6, none⟩ = some (.slice none 0 0) := (blk_cell BK503.out 6).trans rfl; have hfz52_0 := blk_frozen BK503.out 0; have hfz52_1 := blk_frozen BK503.out 1; have hfz52_2 := blk_frozen BK503.out 2; have hfz52_3 := blk_frozen BK503.out 3; have hfz52_4 := blk_frozen BK503.out 4; have hfz52_5 := blk_frozen BK503.out 5; have hfz52_6 := blk_frozen BK503.out 6; obtain ⟨Ao53, co53, eo53⟩ := Kd.V_slice HO487.out; subst eo53; obtain ⟨Ao54, co54, eo54⟩ := Kd.V_slice HO490.out; subst eo54; obtain ⟨Ao55, co55, eo55⟩ := Kd.V_slice HO493.out; subst eo55; obtain ⟨Ao56, co56, eo56⟩ := Kd.V_slice HO496.out; subst eo56; obtain ⟨Ao57, co57, eo57⟩ := Kd.V_slice HO499.out; subst eo57; obtain ⟨Ao58, co58, eo58⟩ := Kd.V_slice HO502.out; subst eo58))
         have n0_ : Aside0 (Kd.R k55 55 (((((((w48.setCell ⟨gb503, 0, none⟩ (.slice Ao49 t482.length co49)).setCell ⟨gb503, 1, none⟩ (.slice Ao53 t485.length co53)).setCell ⟨gb503, 2, none⟩ (.slice Ao54 t488.length co54)).setCell ⟨gb503, 3, none⟩ (.slice Ao55 t491.length co55)).setCell ⟨gb503, 4, none⟩ (.slice Ao56 t494.length co56)).setCell ⟨gb503, 5, none⟩ (.slice Ao57 t497.length co57)).setCell ⟨gb503, 6, none⟩ (.slice Ao58 t500.length co58)) w.heap.size (fun _ => True) (.slice Ao44 t473.length co44) t473) := ⟨by (with_reducible repeat (first | apply Kd.R_alloc | apply Kd.R_drewN | apply Kd.R_drew)); exact Kd.R_mono (Kd.R_far (p := ⟨gb503, 6, none⟩) (Kd.R_far (p := ⟨gb503, 5, none⟩) (Kd.R_far (p := ⟨gb503, 4, none⟩) (Kd.R_far (p := ⟨gb503, 3, none⟩) (Kd.R_far (p := ⟨gb503, 2, none⟩) (Kd.R_far (p := ⟨gb503, 1, none⟩) (Kd.R_far (p := ⟨gb503, 0, none⟩) (Kd.R_types HO_11.out BK503.out (by decide)) (fun _ hk => hk.2) (.slice Ao49 t482.length co49)) (fun _ hk => hk.2) (.slice Ao53 t485.length co53)) (fun _ hk => hk.2) (.slice Ao54 t488.length co54)) (fun _ hk => hk.2) (.slice Ao55 t491.length co55)) (fun _ hk => hk.2) (.slice Ao56 t494.length co56)) (fun _ hk => hk.2) (.slice Ao57 t497.length co57)) (fun _ hk => hk.2) (.slice Ao58 t500.length co58)) (fun _ hk => trivial)⟩
         have n1_ : Aside0 (Kd.R k44 44 (((((((w48.setCell ⟨gb503, 0, none⟩ (.slice Ao49 t482.length co49)).setCell ⟨gb503, 1, none⟩ (.slice Ao53 t485.length co53)).setCell ⟨gb503, 2, none⟩ (.slice Ao54 t488.length co54)).setCell ⟨gb503, 3, none⟩ (.slice Ao55 t491.length co55)).setCell ⟨gb503, 4, none⟩ (.slice Ao56 t494.length co56)).setCell ⟨gb503, 5, none⟩ (.slice Ao57 t497.length co57)).setCell ⟨gb503, 6, none⟩ (.slice Ao58 t500.length co58)) w.heap.size (fun _ => True) u12 x12_2) := ⟨by (with_reducible repeat (first | apply Kd.R_alloc | apply Kd.R_drewN | apply Kd.R_drew)); exact Kd.R_mono (Kd.R_far (p := ⟨gb503, 6, none⟩) (Kd.R_far (p := ⟨gb503, 5, none⟩) (Kd.R_far (p := ⟨gb503, 4, none⟩) (Kd.R_far (p := ⟨gb503, 3, none⟩) (Kd.R_far (p := ⟨gb503, 2, none⟩) (Kd.R_far (p := ⟨gb503, 1, none⟩) (Kd.R_far (p := ⟨gb503, 0, none⟩) (Kd.R_types HO_12.out BK503.out (by decide)) (fun _ hk => hk.2) (.slice Ao49 t482.length co49)) (fun _ hk => hk.2) (.slice Ao53 t485.length co53)) (fun _ hk => hk.2) (.slice Ao54 t488.length co54)) (fun _ hk => hk.2) (.slice Ao55 t491.length co55)) (fun _ hk => hk.2) (.slice Ao56 t494.length co56)) (fun _ hk => hk.2) (.slice Ao57 t497.length co57)) (fun _ hk => hk.2) (.slice Ao58 t500.length co58)) (fun _ hk => trivial)⟩
         have n2_ : Aside0 (Kd.V (Kd.slice 3 (Kd.int .i64)) 60 (((((((w48.setCell ⟨gb503, 0, none⟩ (.slice Ao49 t482.length co49)).setCell ⟨gb503, 1, none⟩ (.slice Ao53 t485.length co53)).setCell ⟨gb503, 2, none⟩ (.slice Ao54 t488.length co54)).setCell ⟨gb503, 3, none⟩ (.slice Ao55 t491.length co55)).setCell ⟨gb503, 4, none⟩ (.slice Ao56 t494.length co56)).setCell ⟨gb503, 5, none⟩ (.slice Ao57 t497.length co57)).setCell ⟨gb503, 6, none⟩ (.slice Ao58 t500.length co58)) w.heap.size (fun k_ => some k_ ≠ (.slice Ao44 t473.length co44 : Value).ownBlock ∧ some k_ ≠ (u12 : Value).ownBlock ∧ k_ ≠ gb469 ∧ k_ ≠ gb470 ∧ k_ ≠ gb503) (.slice Ao49 t482.length co49) t482) := ⟨by (with_reducible repeat (first | apply Kd.V_alloc | apply Kd.V_drewN | apply Kd.V_drew)); exact Kd.V_mono (Kd.V_far (p := ⟨gb503, 6, none⟩) (Kd.V_far (p := ⟨gb503, 5, none⟩) (Kd.V_far (p := ⟨gb503, 4, none⟩) (Kd.V_far (p := ⟨gb503, 3, none⟩) (Kd.V_far (p := ⟨gb503, 2, none⟩) (Kd.V_far (p := ⟨gb503, 1, none⟩) (Kd.V_far (p := ⟨gb503, 0, none⟩) (Kd.V_mono HO484.out (fun k_ hk => (⟨hk, hk.2⟩ : _ ∧ k_ ≠ gb503))) (fun _ hk => hk.2) (.slice Ao49 t482.length co49)) (fun _ hk => hk.2) (.slice Ao53 t485.length co53)) (fun _ hk => hk.2) (.slice Ao54 t488.length co54)) (fun _ hk => hk.2) (.slice Ao55 t491.length co55)) (fun _ hk => hk.2) (.slice Ao56 t494.length co56)) (fun _ hk => hk.2) (.slice Ao57 t497.length co57)) (fun _ hk => hk.2) (.slice Ao58 t500.length co58)) (fun _ hk => ⟨hk.1.1.1, ⟨hk.1.1.2.1, ⟨hk.1.1.2.2.1, ⟨hk.1.1.2.2.2, hk.1.2⟩⟩⟩⟩)⟩
         have n3_ : Aside0 (Kd.V (Kd.slice 3 (Kd.int .i64)) 60 (((((((w48.setCell ⟨gb503, 0, none⟩ (.slice Ao49 t482.length co49)).setCell ⟨gb503, 1, none⟩ (.slice Ao53 t485.length co53)).setCell ⟨gb503, 2, none⟩ (.slice Ao54 t488.length co54)).setCell ⟨gb503, 3, none⟩ (.slice Ao55 t491.length co55)).setCell ⟨gb503, 4, none⟩ (.slice Ao56 t494.length co56)).setCell ⟨gb503, 5, none⟩ (.slice Ao57 t497.length co57)).setCell ⟨gb503, 6, none⟩ (.slice Ao58 t500.length co58)) w.heap.size (fun k_ => some k_ ≠ (.slice Ao44 t473.length co44 : Value).ownBlock ∧ some k_ ≠ (u12 : Value).ownBlock ∧ k_ ≠ gb469 ∧ k_ ≠ gb470 ∧ k_ ≠ gb503) (.slice Ao53 t485.length co53) t485) := ⟨by (with_reducible repeat (first | apply Kd.V_alloc | apply Kd.V_drewN | apply Kd.V_drew)); exact Kd.V_mono (Kd.V_far (p := ⟨gb503, 6, none⟩) (Kd.V_far (p := ⟨gb503, 5, none⟩) (Kd.V_far (p := ⟨gb503, 4, none⟩) (Kd.V_far (p := ⟨gb503, 3, none⟩) (Kd.V_far (p := ⟨gb503, 2, none⟩) (Kd.V_far (p := ⟨gb503, 1, none⟩) (Kd.V_far (p := ⟨gb503, 0, none⟩) (Kd.V_mono HO487.out (fun k_ hk => (⟨hk, hk.2⟩ : _ ∧ k_ ≠ gb503))) (fun _ hk => hk.2) (.slice Ao49 t482.length co49)) (fun _ hk => hk.2) (.slice Ao53 t485.length co53)) (fun _ hk => hk.2) (.slice Ao54 t488.length co54)) (fun _ hk => hk.2) (.slice Ao55 t491.length co55)) (fun _ hk => hk.2) (.slice Ao56 t494.length co56)) (fun _ hk => hk.2) (.slice Ao57 t497.length co57)) (fun _ hk => hk.2) (.slice Ao58 t500.length co58)) (fun _ hk => ⟨hk.1.1.1, ⟨hk.1.1.2.1, ⟨hk.1.1.2.2.1, ⟨hk.1.1.2.2.2, hk.1.2⟩⟩⟩⟩)⟩
         have n4_ : Aside0 (Kd.V (Kd.slice 3 (Kd.int .i64)) 60 (((((((w48.setCell ⟨gb503, 0, none⟩ (.slice Ao49 t482.length co49)).setCell ⟨gb503, 1, none⟩ (.slice Ao53 t485.length co53)).setCell ⟨gb503, 2, none⟩ (.slice Ao54 t488.length co54)).setCell ⟨gb503, 3, none⟩ (.slice Ao55 t491.length co55)).setCell ⟨gb503, 4, none⟩ (.slice Ao56 t494.length co56)).setCell ⟨gb503, 5, none⟩ (.slice Ao57 t497.length co57)).setCell ⟨gb503, 6, none⟩ (.slice Ao58 t500.length co58)) w.heap.size (fun k_ => some k_ ≠ (.slice Ao44 t473.length co44 : Value).ownBlock ∧ some k_ ≠ (u12 : Value).ownBlock ∧ k_ ≠ gb469 ∧ k_ ≠ gb470 ∧ k_ ≠ gb503) (.slice Ao54 t488.length co54) t488) := ⟨by (with_reducible repeat (first | apply Kd.V_alloc | apply Kd.V_drewN | apply Kd.V_drew)); exact Kd.V_mono (Kd.V_far (p := ⟨gb503, 6, none⟩) (Kd.V_far (p := ⟨gb503, 5, none⟩) (Kd.V_far (p := ⟨gb503, 4, none⟩) (Kd.V_far (p := ⟨gb503, 3, none⟩) (Kd.V_far (p := ⟨gb503, 2, none⟩) (Kd.V_far (p := ⟨gb503, 1, none⟩) (Kd.V_far (p := ⟨gb503, 0, none⟩) (Kd.V_mono HO490.out (fun k_ hk => (⟨hk, hk.2⟩ : _ ∧ k_ ≠ gb503))) (fun _ hk => hk.2) (.slice Ao49 t482.length co49)) (fun _ hk => hk.2) (.slice Ao53 t485.length co53)) (fun _ hk => hk.2) (.slice Ao54 t488.length co54)) (fun _ hk => hk.2) (.slice Ao55 t491.length co55)) (fun _ hk => hk.2) (.slice Ao56 t494.length co56)) (fun _ hk => hk.2) (.slice Ao57 t497.length co57)) (fun _ hk => hk.2) (.slice Ao58 t500.length co58)) (fun _ hk => ⟨hk.1.1.1, ⟨hk.1.1.2.1, ⟨hk.1.1.2.2.1, ⟨hk.1.1.2.2.2, hk.1.2⟩⟩⟩⟩)⟩
         have n5_ : Aside0 (Kd.V (Kd.slice 3 (Kd.int .i64)) 60 (((((((w48.setCell ⟨gb503, 0, none⟩ (.slice Ao49 t482.length co49)).setCell ⟨gb503, 1, none⟩ (.slice Ao53 t485.length co53)).setCell ⟨gb503, 2, none⟩ (.slice Ao54 t488.length co54)).setCell ⟨gb503, 3, none⟩ (.slice Ao55 t491.length co55)).setCell ⟨gb503, 4, none⟩ (.slice Ao56 t494.length co56)).setCell ⟨gb503, 5, none⟩ (.slice Ao57 t497.length co57)).setCell ⟨gb503, 6, none⟩ (.slice Ao58 t500.length co58)) w.heap.size (fun k_ => some k_ ≠ (.slice Ao44 t473.length co44 : Value).ownBlock ∧ some k_ ≠ (u12 : Value).ownBlock ∧ k_ ≠ gb469 ∧ k_ ≠ gb470 ∧ k_ ≠ gb503) (.slice Ao55 t491.length co55) t491) := ⟨by (with_reducible repeat (first | apply Kd.V_alloc | apply Kd.V_drewN | apply Kd.V_drew)); exact Kd.V_mono (Kd.V_far (p := ⟨gb503, 6, none⟩) (Kd.V_far (p := ⟨gb503, 5, none⟩) (Kd.V_far (p := ⟨gb503, 4, none⟩) (Kd.V_far (p := ⟨gb503, 3, none⟩) (Kd.V_far (p := ⟨gb503, 2, none⟩) (Kd.V_far (p := ⟨gb503, 1, none⟩) (Kd.V_far (p := ⟨gb503, 0, none⟩) (Kd.V_mono HO493.out (fun k_ hk => (⟨hk, hk.2⟩ : _ ∧ k_ ≠ gb503))) (fun _ hk => hk.2) (.slice Ao49 t482.length co49)) (fun _ hk => hk.2) (.slice Ao53 t485.length co53)) (fun _ hk => hk.2) (.slice Ao54 t488.length co54)) (fun _ hk => hk.2) (.slice Ao55 t491.length co55)) (fun _ hk => hk.2) (.slice Ao56 t494.length co56)) (fun _ hk => hk.2) (.slice Ao57 t497.length co57)) (fun _ hk => hk.2) (.slice Ao58 t500.length co58)) (fun _ hk => ⟨hk.1.1.1, ⟨hk.1.1.2.1, ⟨hk.1.1.2.2.1, ⟨hk.1.1.2.2.2, hk.1.2⟩⟩⟩⟩)⟩
         have n6_ : Aside0 (Kd.V (Kd.slice 3 (Kd.int .i64)) 60 (((((((w48.setCell ⟨gb503, 0, none⟩ (.slice Ao49 t482.length co49)).setCell ⟨gb503, 1, none⟩ (.slice Ao53 t485.length co53)).setCell ⟨gb503, 2, none⟩ (.slice Ao54 t488.length co54)).setCell ⟨gb503, 3, none⟩ (.slice Ao55 t491.length co55)).setCell ⟨gb503, 4, none⟩ (.slice Ao56 t494.length co56)).setCell ⟨gb503, 5, none⟩ (.slice Ao57 t497.length co57)).setCell ⟨gb503, 6, none⟩ (.slice Ao58 t500.length co58)) w.heap.size (fun k_ => some k_ ≠ (.slice Ao44 t473.length co44 : Value).ownBlock ∧ some k_ ≠ (u12 : Value).ownBlock ∧ k_ ≠ gb469 ∧ k_ ≠ gb470 ∧ k_ ≠ gb503) (.slice Ao56 t494.length co56) t494) := ⟨by (with_reducible repeat (first | apply Kd.V_alloc | apply Kd.V_drewN | apply Kd.V_drew)); exact Kd.V_mono (Kd.V_far (p := ⟨gb503, 6, none⟩) (Kd.V_far (p := ⟨gb503, 5, none⟩) (Kd.V_far (p := ⟨gb503, 4, none⟩) (Kd.V_far (p := ⟨gb503, 3, none⟩) (Kd.V_far (p := ⟨gb503, 2, none⟩) (Kd.V_far (p := ⟨gb503, 1, none⟩) (Kd.V_far (p := ⟨gb503, 0, none⟩) (Kd.V_mono HO496.out (fun k_ hk => (⟨hk, hk.2⟩ : _ ∧ k_ ≠ gb503))) (fun _ hk => hk.2) (.slice Ao49 t482.length co49)) (fun _ hk => hk.2) (.slice Ao53 t485.length co53)) (fun _ hk => hk.2) (.slice Ao54 t488.length co54)) (fun _ hk => hk.2) (.slice Ao55 t491.length co55)) (fun _ hk => hk.2) (.slice Ao56 t494.length co56)) (fun _ hk => hk.2) (.slice Ao57 t497.length co57)) (fun _ hk => hk.2) (.slice Ao58 t500.length co58)) (fun _ hk => ⟨hk.1.1.1, ⟨hk.1.1.2.1, ⟨hk.1.1.2.2.1, ⟨hk.1.1.2.2.2, hk.1.2⟩⟩⟩⟩)⟩
         have n7_ : Aside0 (Kd.V (Kd.slice 3 (Kd.int .i64)) 60 (((((((w48.setCell ⟨gb503, 0, none⟩ (.slice Ao49 t482.length co49)).setCell ⟨gb503, 1, none⟩ (.slice Ao53 t485.length co53)).setCell ⟨gb503, 2, none⟩ (.slice Ao54 t488.length co54)).setCell ⟨gb503, 3, none⟩ (.slice Ao55 t491.length co55)).setCell ⟨gb503, 4, none⟩ (.slice Ao56 t494.length co56)).setCell ⟨gb503, 5, none⟩ (.slice Ao57 t497.length co57)).setCell ⟨gb503, 6, none⟩ (.slice Ao58 t500.length co58)) w.heap.size (fun k_ => some k_ ≠ (.slice Ao44 t473.length co44 : Value).ownBlock ∧ some k_ ≠ (u12 : Value).ownBlock ∧ k_ ≠ gb469 ∧ k_ ≠ gb470 ∧ k_ ≠ gb503) (.slice Ao57 t497.length co57) t497) := ⟨by (with_reducible repeat (first | apply Kd.V_alloc | apply Kd.V_drewN | apply Kd.V_drew)); exact Kd.V_mono (Kd.V_far (p := ⟨gb503, 6, none⟩) (Kd.V_far (p := ⟨gb503, 5, none⟩) (Kd.V_far (p := ⟨gb503, 4, none⟩) (Kd.V_far (p := ⟨gb503, 3, none⟩) (Kd.V_far (p := ⟨gb503, 2, none⟩) (Kd.V_far (p := ⟨gb503, 1, none⟩) (Kd.V_far (p := ⟨gb503, 0, none⟩) (Kd.V_mono HO499.out (fun k_ hk => (⟨hk, hk.2⟩ : _ ∧ k_ ≠ gb503))) (fun _ hk => hk.2) (.slice Ao49 t482.length co49)) (fun _ hk => hk.2) (.slice Ao53 t485.length co53)) (fun _ hk => hk.2) (.slice Ao54 t488.length co54)) (fun _ hk => hk.2) (.slice Ao55 t491.length co55)) (fun _ hk => hk.2) (.slice Ao56 t494.length co56)) (fun _ hk => hk.2) (.slice Ao57 t497.length co57)) (fun _ hk => hk.2) (.slice Ao58 t500.length co58)) (fun _ hk => ⟨hk.1.1.1, ⟨hk.1.1.2.1, ⟨hk.1.1.2.2.1, ⟨hk.1.1.2.2.2, hk.1.2⟩⟩⟩⟩)⟩
         have n8_ : Aside0 (Kd.V (Kd.slice 3 (Kd.int .i64)) 60 (((((((w48.setCell ⟨gb503, 0, none⟩ (.slice Ao49 t482.length co49)).setCell ⟨gb503, 1, none⟩ (.slice Ao53 t485.length co53)).setCell ⟨gb503, 2, none⟩ (.slice Ao54 t488.length co54)).setCell ⟨gb503, 3, none⟩ (.slice Ao55 t491.length co55)).setCell ⟨gb503, 4, none⟩ (.slice Ao56 t494.length co56)).setCell ⟨gb503, 5, none⟩ (.slice Ao57 t497.length co57)).setCell ⟨gb503, 6, none⟩ (.slice Ao58 t500.length co58)) w.heap.size (fun k_ => some k_ ≠ (.slice Ao44 t473.length co44 : Value).ownBlock ∧ some k_ ≠ (u12 : Value).ownBlock ∧ k_ ≠ gb469 ∧ k_ ≠ gb470 ∧ k_ ≠ gb503) (.slice Ao58 t500.length co58) t500) := ⟨by (with_reducible repeat (first | apply Kd.V_alloc | apply Kd.V_drewN | apply Kd.V_drew)); exact Kd.V_mono (Kd.V_far (p := ⟨gb503, 6, none⟩) (Kd.V_far (p := ⟨gb503, 5, none⟩) (Kd.V_far (p := ⟨gb503, 4, none⟩) (Kd.V_far (p := ⟨gb503, 3, none⟩) (Kd.V_far (p := ⟨gb503, 2, none⟩) (Kd.V_far (p := ⟨gb503, 1, none⟩) (Kd.V_far (p := ⟨gb503, 0, none⟩) (Kd.V_mono HO502.out (fun k_ hk => (⟨hk, hk.2⟩ : _ ∧ k_ ≠ gb503))) (fun _ hk => hk.2) (.slice Ao49 t482.length co49)) (fun _ hk => hk.2) (.slice Ao53 t485.length co53)) (fun _ hk => hk.2) (.slice Ao54 t488.length co54)) (fun _ hk => hk.2) (.slice Ao55 t491.length co55)) (fun _ hk => hk.2) (.slice Ao56 t494.length co56)) (fun _ hk => hk.2) (.slice Ao57 t497.length co57)) (fun _ hk => hk.2) (.slice Ao58 t500.length co58)) (fun _ hk => ⟨hk.1.1.1, ⟨hk.1.1.2.1, ⟨hk.1.1.2.2.1, ⟨hk.1.1.2.2.2, hk.1.2⟩⟩⟩⟩)⟩
         have n9_ : Aside0 ((((((((w48.setCell ⟨gb503, 0, none⟩ (.slice Ao49 t482.length co49)).setCell ⟨gb503, 1, none⟩ (.slice Ao53 t485.length co53)).setCell ⟨gb503, 2, none⟩ (.slice Ao54 t488.length co54)).setCell ⟨gb503, 3, none⟩ (.slice Ao55 t491.length co55)).setCell ⟨gb503, 4, none⟩ (.slice Ao56 t494.length co56)).setCell ⟨gb503, 5, none⟩ (.slice Ao57 t497.length co57)).setCell ⟨gb503, 6, none⟩ (.slice Ao58 t500.length co58)).heap[gb469]? = some (.cells #[.slice A0_0 l0_0.length c0_0, .slice A0_1 l0_1.length c0_1, .slice A0_2 l0_2.length c0_2, .slice A0_3 l0_3.length c0_3, .slice A0_4 l0_4.length c0_4, .slice A0_5 l0_5.length c0_5, .slice A0_6 l0_6.length c0_6, .slice A0_7 l0_7.length c0_7, .slice A0_8 l0_8.length c0_8, .slice A0_9 l0_9.length c0_9] 24 (0, 0))) := ⟨by (with_reducible repeat (first | refine blk_drewN ?_ _ | refine blk_drew ?_ | refine blk_alloc ?_ _)); refine blk_far ?_ NB469_503.out _; (with_reducible repeat (first | refine blk_drewN ?_ _ | refine blk_drew ?_ | refine blk_alloc ?_ _)); refine blk_far ?_ NB469_503.out _; (with_reducible repeat (first | refine blk_drewN ?_ _ | refine blk_drew ?_ | refine blk_alloc ?_ _)); refine blk_far ?_ NB469_503.out _; (with_reducible repeat (first | refine blk_drewN ?_ _ | refine blk_drew ?_ | refine blk_alloc ?_ _)); refine blk_far ?_ NB469_503.out _; (with_reducible repeat (first | refine blk_drewN ?_ _ | refine blk_drew ?_ | refine blk_alloc ?_ _)); refine blk_far ?_ NB469_503.out _; (with_reducible repeat (first | refine blk_drewN ?_ _ | refine blk_drew ?_ | refine blk_alloc ?_ _)); refine blk_far ?_ NB469_503.out _; (with_reducible repeat (first | refine blk_drewN ?_ _ | refine blk_drew ?_ | refine blk_alloc ?_ _)); refine blk_far ?_ NB469_503.out _; (with_reducible repeat (first | refine blk_drewN ?_ _ | refine blk_drew ?_ | refine blk_alloc ?_ _)); exact BK469.out⟩
         have n10_ : Aside0 ((((((((w48.setCell ⟨gb503, 0, none⟩ (.slice Ao49 t482.length co49)).setCell ⟨gb503, 1, none⟩ (.slice Ao53 t485.length co53)).setCell ⟨gb503, 2, none⟩ (.slice Ao54 t488.length co54)).setCell ⟨gb503, 3, none⟩ (.slice Ao55 t491.length co55)).setCell ⟨gb503, 4, none⟩ (.slice Ao56 t494.length co56)).setCell ⟨gb503, 5, none⟩ (.slice Ao57 t497.length co57)).setCell ⟨gb503, 6, none⟩ (.slice Ao58 t500.length co58)).heap[gb470]? = some (.cells #[.int .i64 a2_0, .int .u8 a2_1] 32 (0, 0))) := ⟨by (with_reducible repeat (first | refine blk_drewN ?_ _ | refine blk_drew ?_ | refine blk_alloc ?_ _)); refine blk_far ?_ NB470_503.out _; (with_reducible repeat (first | refine blk_drewN ?_ _ | refine blk_drew ?_ | refine blk_alloc ?_ _)); refine blk_far ?_ NB470_503.out _; (with_reducible repeat (first | refine blk_drewN ?_ _ | refine blk_drew ?_ | refine blk_alloc ?_ _)); refine blk_far ?_ NB470_503.out _; (with_reducible repeat (first | refine blk_drewN ?_ _ | refine blk_drew ?_ | refine blk_alloc ?_ _)); refine blk_far ?_ NB470_503.out _; (with_reducible repeat (first | refine blk_drewN ?_ _ | refine blk_drew ?_ | refine blk_alloc ?_ _)); refine blk_far ?_ NB470_503.out _; (with_reducible repeat (first | refine blk_drewN ?_ _ | refine blk_drew ?_ | refine blk_alloc ?_ _)); refine blk_far ?_ NB470_503.out _; (with_reducible repeat (first | refine blk_drewN ?_ _ | refine blk_drew ?_ | refine blk_alloc ?_ _)); refine blk_far ?_ NB470_503.out _; (with_reducible repeat (first | refine blk_drewN ?_ _ | refine blk_drew ?_ | refine blk_alloc ?_ _)); exact BK470.out⟩
         have n11_ : Aside0 ((((((((w48.setCell ⟨gb503, 0, none⟩ (.slice Ao49 t482.length co49)).setCell ⟨gb503, 1, none⟩ (.slice Ao53 t485.length co53)).setCell ⟨gb503, 2, none⟩ (.slice Ao54 t488.length co54)).setCell ⟨gb503, 3, none⟩ (.slice Ao55 t491.length co55)).setCell ⟨gb503, 4, none⟩ (.slice Ao56 t494.length co56)).setCell ⟨gb503, 5, none⟩ (.slice Ao57 t497.length co57)).setCell ⟨gb503, 6, none⟩ (.slice Ao58 t500.length co58)).heap[gb503]? = some (.cells #[.slice Ao49 t482.length co49, .slice Ao53 t485.length co53, .slice Ao54 t488.length co54, .slice Ao55 t491.length co55, .slice Ao56 t494.length co56, .slice Ao57 t497.length co57, .slice Ao58 t500.length co58] 38 (0, 0))) := ⟨by (with_reducible repeat (first | refine blk_drewN ?_ _ | refine blk_drew ?_ | refine blk_alloc ?_ _)); refine blk_put (cs := #[.slice Ao49 t482.length co49, .slice Ao53 t485.length co53, .slice Ao54 t488.length co54, .slice Ao55 t491.length co55, .slice Ao56 t494.length co56, .slice Ao57 t497.length co57, .slice none 0 0]) ?_ 6 _ rfl; (with_reducible repeat (first | refine blk_drewN ?_ _ | refine blk_drew ?_ | refine blk_alloc ?_ _)); refine blk_put (cs := #[.slice Ao49 t482.length co49, .slice Ao53 t485.length co53, .slice Ao54 t488.length co54, .slice Ao55 t491.length co55, .slice Ao56 t494.length co56, .slice none 0 0, .slice none 0 0]) ?_ 5 _ rfl; (with_reducible repeat (first | refine blk_drewN ?_ _ | refine blk_drew ?_ | refine blk_alloc ?_ _)); refine blk_put (cs := #[.slice Ao49 t482.length co49, .slice Ao53 t485.length co53, .slice Ao54 t488.length co54, .slice Ao55 t491.length co55, .slice none 0 0, .slice none 0 0, .slice none 0 0]) ?_ 4 _ rfl; (with_reducible repeat (first | refine blk_drewN ?_ _ | refine blk_drew ?_ | refine blk_alloc ?_ _)); refine blk_put (cs := #[.slice Ao49 t482.length co49, .slice Ao53 t485.length co53, .slice Ao54 t488.length co54, .slice none 0 0, .slice none 0 0, .slice none 0 0, .slice none 0 0]) ?_ 3 _ rfl; (with_reducible repeat (first | refine blk_drewN ?_ _ | refine blk_drew ?_ | refine blk_alloc ?_ _)); refine blk_put (cs := #[.slice Ao49 t482.length co49, .slice Ao53 t485.length co53, .slice none 0 0, .slice none 0 0, .slice none 0 0, .slice none 0 0, .slice none 0 0]) ?_ 2 _ rfl; (with_reducible repeat (first | refine blk_drewN ?_ _ | refine blk_drew ?_ | refine blk_alloc ?_ _)); refine blk_put (cs := #[.slice Ao49 t482.length co49, .slice none 0 0, .slice none 0 0, .slice none 0 0, .slice none 0 0, .slice none 0 0, .slice none 0 0]) ?_ 1 _ rfl; (with_reducible repeat (first | refine blk_drewN ?_ _ | refine blk_drew ?_ | refine blk_alloc ?_ _)); refine blk_put (cs := #[.slice none 0 0, .slice none 0 0, .slice none 0 0, .slice none 0 0, .slice none 0 0, .slice none 0 0, .slice none 0 0]) ?_ 0 _ rfl; (with_reducible repeat (first | refine blk_drewN ?_ _ | refine blk_drew ?_ | refine blk_alloc ?_ _)); exact BK503.out⟩
         have n12_ : Aside0 (Below w.heap.size w (((((((w48.setCell ⟨gb503, 0, none⟩ (.slice Ao49 t482.length co49)).setCell ⟨gb503, 1, none⟩ (.slice Ao53 t485.length co53)).setCell ⟨gb503, 2, none⟩ (.slice Ao54 t488.length co54)).setCell ⟨gb503, 3, none⟩ (.slice Ao55 t491.length co55)).setCell ⟨gb503, 4, none⟩ (.slice Ao56 t494.length co56)).setCell ⟨gb503, 5, none⟩ (.slice Ao57 t497.length co57)).setCell ⟨gb503, 6, none⟩ (.slice Ao58 t500.length co58))) := ⟨by repeat (first | (with_reducible first | exact HB.out | apply below_alloc | apply pw_below_drewN | apply below_drew1 | refine below_set ?_ GE469.out | refine below_set ?_ GE470.out | refine below_set ?_ GE503.out) | exact HB.out)⟩
         (try clear HO_11)
         (try clear HO_12)
         (try clear HO484)
         (try clear HO487)
         (try clear HO490)
         (try clear HO493)
         (try clear HO496)
         (try clear HO499)
         (try clear HO502)
         (try clear BK469)
         (try clear BK470)
         (try clear BK503)
         (try clear HB)
         generalize (((((((w48.setCell ⟨gb503, 0, none⟩ (.slice Ao49 t482.length co49)).setCell ⟨gb503, 1, none⟩ (.slice Ao53 t485.length co53)).setCell ⟨gb503, 2, none⟩ (.slice Ao54 t488.length co54)).setCell ⟨gb503, 3, none⟩ (.slice Ao55 t491.length co55)).setCell ⟨gb503, 4, none⟩ (.slice Ao56 t494.length co56)).setCell ⟨gb503, 5, none⟩ (.slice Ao57 t497.length co57)).setCell ⟨gb503, 6, none⟩ (.slice Ao58 t500.length co58)) = w59 at n0_ n1_ n2_ n3_ n4_ n5_ n6_ n7_ n8_ n9_ n10_ n11_ n12_ ⊢
         have HO_11 := n0_
         have HO_12 := n1_
         have HO484 := n2_
         have HO487 := n3_
         have HO490 := n4_
         have HO493 := n5_
         have HO496 := n6_
         have HO499 := n7_
         have HO502 := n8_
         have BK469 := n9_
         have BK470 := n10_
         have BK503 := n11_
         have HB := n12_
         clear n0_ n1_ n2_ n3_ n4_ n5_ n6_ n7_ n8_ n9_ n10_ n11_ n12_
         have n0_ := Aside0.mk (Kd.R_drew HO_11.out)
         have n1_ := Aside0.mk (Kd.R_drew HO_12.out)
         have n2_ := Aside0.mk (Kd.V_drew HO484.out)
         have n3_ := Aside0.mk (Kd.V_drew HO487.out)
         have n4_ := Aside0.mk (Kd.V_drew HO490.out)
         have n5_ := Aside0.mk (Kd.V_drew HO493.out)
         have n6_ := Aside0.mk (Kd.V_drew HO496.out)
         have n7_ := Aside0.mk (Kd.V_drew HO499.out)
         have n8_ := Aside0.mk (Kd.V_drew HO502.out)
         have n9_ := Aside0.mk (blk_drew BK469.out)
         have n10_ := Aside0.mk (blk_drew BK470.out)
         have n11_ := Aside0.mk (blk_drew BK503.out)
         have n12_ := Aside0.mk (below_drew1 HB.out)
         clear HO_11
         clear HO_12
         clear HO484
         clear HO487
         clear HO490
         clear HO493
         clear HO496
         clear HO499
         clear HO502
         clear BK469
         clear BK470
         clear BK503
         clear HB
         have HO_11 := n0_
         have HO_12 := n1_
         have HO484 := n2_
         have HO487 := n3_
         have HO490 := n4_
         have HO493 := n5_
         have HO496 := n6_
         have HO499 := n7_
         have HO502 := n8_
         have BK469 := n9_
         have BK470 := n10_
         have BK503 := n11_
         have HB := n12_
         clear n0_ n1_ n2_ n3_ n4_ n5_ n6_ n7_ n8_ n9_ n10_ n11_ n12_
         refine start_ (n := 27) (S := fun w' => w'.cell? ⟨gb503, 0, none⟩ = some (.slice Ao49 t482.length co49) ∧ w'.cell? ⟨gb503, 1, none⟩ = some (.slice Ao53 t485.length co53) ∧ w'.cell? ⟨gb503, 2, none⟩ = some (.slice Ao54 t488.length co54) ∧ w'.cell? ⟨gb503, 3, none⟩ = some (.slice Ao55 t491.length co55) ∧ w'.cell? ⟨gb503, 4, none⟩ = some (.slice Ao56 t494.length co56) ∧ w'.cell? ⟨gb503, 5, none⟩ = some (.slice Ao57 t497.length co57) ∧ w'.cell? ⟨gb503, 6, none⟩ = some (.slice Ao58 t500.length co58) ∧ w'.cell? ⟨gb470, 0, none⟩ = some (.int .i64 a2_0) ∧ w'.cell? ⟨gb470, 1, none⟩ = some (.int .u8 a2_1) ∧ w'.cell? ⟨gb469, 0, none⟩ = some (.slice A0_0 l0_0.length c0_0) ∧ w'.cell? ⟨gb469, 1, none⟩ = some (.slice A0_1 l0_1.length c0_1) ∧ w'.cell? ⟨gb469, 2, none⟩ = some (.slice A0_2 l0_2.length c0_2) ∧ w'.cell? ⟨gb469, 3, none⟩ = some (.slice A0_3 l0_3.length c0_3) ∧ w'.cell? ⟨gb469, 4, none⟩ = some (.slice A0_4 l0_4.length c0_4) ∧ w'.cell? ⟨gb469, 5, none⟩ = some (.slice A0_5 l0_5.length c0_5) ∧ w'.cell? ⟨gb469, 6, none⟩ = some (.slice A0_6 l0_6.length c0_6) ∧ w'.cell? ⟨gb469, 7, none⟩ = some (.slice A0_7 l0_7.length c0_7) ∧ w'.cell? ⟨gb469, 8, none⟩ = some (.slice A0_8 l0_8.length c0_8) ∧ w'.cell? ⟨gb469, 9, none⟩ = some (.slice A0_9 l0_9.length c0_9)) (ds := []) u18_23 (by kernel_rfl) rfl rfl ⟨(blk_cell BK503.out 0).trans rfl, (blk_cell BK503.out 1).trans rfl, (blk_cell BK503.out 2).trans rfl, (blk_cell BK503.out 3).trans rfl, (blk_cell BK503.out 4).trans rfl, (blk_cell BK503.out 5).trans rfl, (blk_cell BK503.out 6).trans rfl, (blk_cell BK470.out 0).trans rfl, (blk_cell BK470.out 1).trans rfl, (blk_cell BK469.out 0).trans rfl, (blk_cell BK469.out 1).trans rfl, (blk_cell BK469.out 2).trans rfl, (blk_cell BK469.out 3).trans rfl, (blk_cell BK469.out 4).trans rfl, (blk_cell BK469.out 5).trans rfl, (blk_cell BK469.out 6).trans rfl, (blk_cell BK469.out 7).trans rfl, (blk_cell BK469.out 8).trans rfl, (blk_cell BK469.out 9).trans rfl⟩ (fun hHeld => ?_); refine with_tabW clepsydralaw21_ClosurePulls.tab10 clepsydralaw21_ClosurePulls.bits10 (fun HT_ HW_ => ?_)
         generalize w59.drew = w60 at HO_11 HO_12 HO484 HO487 HO490 HO493 HO496 HO499 HO502 BK469 BK470 BK503 HB hHeld ⊢
         refine pure_ (i := 0) (N := some 59) (v := ?_) (a' := ?_) u18_24 rfl rfl (any_of HT_.out (by kernel_rfl)) (fun _ _ _ h => h) (Or.inl ⟨by rfl, ?_⟩) ?_ ?_
         rotate_left
         ·intro w'
          go_simp
          with_reducible rfl
         rotate_left
         ·simp only [Act.put, s0_, s1_, s2_, i64_w, i32_w]
          rfl
         refine pure_ (i := 2) (N := some 61) (v := ?_) (a' := ?_) u18_25 rfl rfl (any_of HT_.out (by kernel_rfl)) (fun _ _ _ h => h) (Or.inl ⟨by rfl, ?_⟩) ?_ ?_
         rotate_left
         ·intro w'
          go_simp
          with_reducible rfl
         rotate_left
         ·simp only [Act.put, s0_, s1_, s2_, i64_w, i32_w]
          rfl
         refine take_ (i := 1) (N := some 60) (v := ?_) (a' := ?_) u18_26 rfl rfl (take_ofW HT_.out HW_.out (by kernel_rfl)) (fun _ _ _ h => h) (Or.inl ⟨by rfl, ?_⟩) hHeld ?_ ?_
         rotate_left
         ·rintro w' ⟨s0, s1, s2, s3, s4, s5, s6, s7, s8, s9, s10, s11, s12, s13, s14, s15, s16, s17, s18⟩
          go_simp
          with_reducible rfl
         rotate_left
         ·simp only [Act.put, s0_, s1_, s2_, i64_w, i32_w]
          rfl
         refine take_ (i := 3) (N := some 62) (v := ?_) (a' := ?_) u18_27 rfl rfl (take_ofW HT_.out HW_.out (by kernel_rfl)) (fun _ _ _ h => h) (Or.inl ⟨by rfl, ?_⟩) hHeld ?_ ?_
         rotate_left
         ·rintro w' ⟨s0, s1, s2, s3, s4, s5, s6, s7, s8, s9, s10, s11, s12, s13, s14, s15, s16, s17, s18⟩
          go_simp
          with_reducible rfl
         rotate_left
         ·simp only [Act.put, s0_, s1_, s2_, i64_w, i32_w]
          rfl
         refine one_ (i := 4) (N := some 63) u18_28 rfl rfl (one_of HT_.out (by kernel_rfl)) (by decide) (fun K hK => ?_)
         refine goes_ Try.func17 (by kernel_rfl) rfl #[.agg #[.int .i64 a2_0, .int .u8 a2_1]] (by rfl) rfl rfl (by (try simp only [List.map_toArray, List.map_cons, List.map_nil]); first | done | rfl | (simp only [List.length_drop, List.length_take]; rfl)) ?_
         with_reducible refine (clepsydralaw21_job.calls a2_0 a2_1 t504 t505 t506 _ A32.out).mono ?_
         rintro e w61 ⟨rfl, hb⟩
         refine ⟨_, rfl, ?_⟩
         have n0_ := RB HO_11 hb
         have n1_ := RB HO_12 hb
         have n2_ := Aside0.mk (Kd.V_below (by (with_reducible repeat (first | apply Kd.V_alloc | apply Kd.V_drewN | apply Kd.V_drew)); exact HO484.out) hb)
         have n3_ := Aside0.mk (Kd.V_below (by (with_reducible repeat (first | apply Kd.V_alloc | apply Kd.V_drewN | apply Kd.V_drew)); exact HO487.out) hb)
         have n4_ := Aside0.mk (Kd.V_below (by (with_reducible repeat (first | apply Kd.V_alloc | apply Kd.V_drewN | apply Kd.V_drew)); exact HO490.out) hb)
         have n5_ := Aside0.mk (Kd.V_below (by (with_reducible repeat (first | apply Kd.V_alloc | apply Kd.V_drewN | apply Kd.V_drew)); exact HO493.out) hb)
         have n6_ := Aside0.mk (Kd.V_below (by (with_reducible repeat (first | apply Kd.V_alloc | apply Kd.V_drewN | apply Kd.V_drew)); exact HO496.out) hb)
         have n7_ := Aside0.mk (Kd.V_below (by (with_reducible repeat (first | apply Kd.V_alloc | apply Kd.V_drewN | apply Kd.V_drew)); exact HO499.out) hb)
         have n8_ := Aside0.mk (Kd.V_below (by (with_reducible repeat (first | apply Kd.V_alloc | apply Kd.V_drewN | apply Kd.V_drew)); exact HO502.out) hb)
         have n9_ := Aside0.mk (blk_below (g := gb469) (o := .cells #[.slice A0_0 l0_0.length c0_0, .slice A0_1 l0_1.length c0_1, .slice A0_2 l0_2.length c0_2, .slice A0_3 l0_3.length c0_3, .slice A0_4 l0_4.length c0_4, .slice A0_5 l0_5.length c0_5, .slice A0_6 l0_6.length c0_6, .slice A0_7 l0_7.length c0_7, .slice A0_8 l0_8.length c0_8, .slice A0_9 l0_9.length c0_9] 24 (0, 0)) (by (with_reducible repeat (first | refine blk_drewN ?_ _ | refine blk_drew ?_ | refine blk_alloc ?_ _)); exact BK469.out) hb)
         have n10_ := Aside0.mk (blk_below (g := gb470) (o := .cells #[.int .i64 a2_0, .int .u8 a2_1] 32 (0, 0)) (by (with_reducible repeat (first | refine blk_drewN ?_ _ | refine blk_drew ?_ | refine blk_alloc ?_ _)); exact BK470.out) hb)
         have n11_ := Aside0.mk (blk_below (g := gb503) (o := .cells #[.slice Ao49 t482.length co49, .slice Ao53 t485.length co53, .slice Ao54 t488.length co54, .slice Ao55 t491.length co55, .slice Ao56 t494.length co56, .slice Ao57 t497.length co57, .slice Ao58 t500.length co58] 38 (0, 0)) (by (with_reducible repeat (first | refine blk_drewN ?_ _ | refine blk_drew ?_ | refine blk_alloc ?_ _)); exact BK503.out) hb)
         have n12_ := Aside0.mk (below_step (by repeat (first | (with_reducible first | exact HB.out | apply below_alloc | apply pw_below_drewN | apply below_drew1 | refine below_set ?_ GE469.out | refine below_set ?_ GE470.out | refine below_set ?_ GE503.out) | exact HB.out)) hb)
         clear HO_11
         clear HO_12
         clear HO484
         clear HO487
         clear HO490
         clear HO493
         clear HO496
         clear HO499
         clear HO502
         clear BK469
         clear BK470
         clear BK503
         clear HB
         have HO_11 := n0_
         have HO_12 := n1_
         have HO484 := n2_
         have HO487 := n3_
         have HO490 := n4_
         have HO493 := n5_
         have HO496 := n6_
         have HO499 := n7_
         have HO502 := n8_
         have BK469 := n9_
         have BK470 := n10_
         have BK503 := n11_
         have HB := n12_
         clear n0_ n1_ n2_ n3_ n4_ n5_ n6_ n7_ n8_ n9_ n10_ n11_ n12_
         (try clear hb)
         (try clear hb2)
         (try clear hk)
         (try clear hi)
         refine hK.out _ _ ⟨(blk_cell BK503.out 0).trans rfl, (blk_cell BK503.out 1).trans rfl, (blk_cell BK503.out 2).trans rfl, (blk_cell BK503.out 3).trans rfl, (blk_cell BK503.out 4).trans rfl, (blk_cell BK503.out 5).trans rfl, (blk_cell BK503.out 6).trans rfl, (blk_cell BK470.out 0).trans rfl, (blk_cell BK470.out 1).trans rfl, (blk_cell BK469.out 0).trans rfl, (blk_cell BK469.out 1).trans rfl, (blk_cell BK469.out 2).trans rfl, (blk_cell BK469.out 3).trans rfl, (blk_cell BK469.out 4).trans rfl, (blk_cell BK469.out 5).trans rfl, (blk_cell BK469.out 6).trans rfl, (blk_cell BK469.out 7).trans rfl, (blk_cell BK469.out 8).trans rfl, (blk_cell BK469.out 9).trans rfl⟩ (fun hHeld => ?_)
         clear hK K
         refine norm_ (a' := ?_) ?_ ?_
         rotate_left
         ·show Act.put _ (some 63) _ = _
          simp only [Act.put, s0_, s1_, s2_, i64_w, i32_w]
          rfl
         refine one_ (i := 5) (N := some 64) u18_29 rfl rfl (one_of HT_.out (by kernel_rfl)) (by decide) (fun K hK => ?_)
         refine goes_ Try.func25 (by kernel_rfl) rfl #[.agg #[.slice Ao49 t482.length co49, .slice Ao53 t485.length co53, .slice Ao54 t488.length co54, .slice Ao55 t491.length co55, .slice Ao56 t494.length co56, .slice Ao57 t497.length co57, .slice Ao58 t500.length co58], .slice A1 l1.length c1, .agg #[.int .i64 t504, .int .u8 t505, .bool t506]] (by rfl) rfl rfl (by (try simp only [List.map_toArray, List.map_cons, List.map_nil]); first | done | rfl | (simp only [List.length_drop, List.length_take]; rfl)) ?_
         with_reducible refine (clepsydraref21_Pulls.calls k2 _ _ t482 _ _ t485 _ _ t488 _ _ t491 _ _ t494 _ _ t497 _ _ t500 _ _ l1 t504 t505 t506 t507 _ ?side1 ?side2 ?side3 ?side4 ?side5 ?side6 ?side7 ?side8 ?side9 ?side10 ?side11 ?side12 ?side13 ?side14 ?side15 ?side16 A33.out).mono ?_
         (case side1 => exact CD ((Kd.V_reads' HO484.out).2.2))
         (case side2 => exact (Kd.V_reads' HO484.out).2.1)
         (case side3 => exact CD ((Kd.V_reads' HO487.out).2.2))
         (case side4 => exact (Kd.V_reads' HO487.out).2.1)
         (case side5 => exact CD ((Kd.V_reads' HO490.out).2.2))
         (case side6 => exact (Kd.V_reads' HO490.out).2.1)
         (case side7 => exact CD ((Kd.V_reads' HO493.out).2.2))
         (case side8 => exact (Kd.V_reads' HO493.out).2.1)
         (case side9 => exact CD ((Kd.V_reads' HO496.out).2.2))
         (case side10 => exact (Kd.V_reads' HO496.out).2.1)
         (case side11 => exact CD ((Kd.V_reads' HO499.out).2.2))
         (case side12 => exact (Kd.V_reads' HO499.out).2.1)
         (case side13 => exact CD ((Kd.V_reads' HO502.out).2.2))
         (case side14 => exact (Kd.V_reads' HO502.out).2.1)
         (case side15 => exact CD ((Kd.C_below HR1.out HB.out)))
         (case side16 => exact HC1.out)
         rintro e w62 ⟨v508, rfl, ho0, hb⟩
         refine ⟨_, rfl, ?_⟩
         have n0_ := RB HO_11 hb
         have n1_ := RE HO_12 hb (Kd.R_base ho0)
         have n2_ := Aside0.mk (Kd.V_elder' (by (with_reducible repeat (first | apply Kd.V_alloc | apply Kd.V_drewN | apply Kd.V_drew)); exact HO484.out) (Kd.R_base ho0) hb)
         have n3_ := Aside0.mk (Kd.V_elder' (by (with_reducible repeat (first | apply Kd.V_alloc | apply Kd.V_drewN | apply Kd.V_drew)); exact HO487.out) (Kd.R_base ho0) hb)
         have n4_ := Aside0.mk (Kd.V_elder' (by (with_reducible repeat (first | apply Kd.V_alloc | apply Kd.V_drewN | apply Kd.V_drew)); exact HO490.out) (Kd.R_base ho0) hb)
         have n5_ := Aside0.mk (Kd.V_elder' (by (with_reducible repeat (first | apply Kd.V_alloc | apply Kd.V_drewN | apply Kd.V_drew)); exact HO493.out) (Kd.R_base ho0) hb)
         have n6_ := Aside0.mk (Kd.V_elder' (by (with_reducible repeat (first | apply Kd.V_alloc | apply Kd.V_drewN | apply Kd.V_drew)); exact HO496.out) (Kd.R_base ho0) hb)
         have n7_ := Aside0.mk (Kd.V_elder' (by (with_reducible repeat (first | apply Kd.V_alloc | apply Kd.V_drewN | apply Kd.V_drew)); exact HO499.out) (Kd.R_base ho0) hb)
         have n8_ := Aside0.mk (Kd.V_elder' (by (with_reducible repeat (first | apply Kd.V_alloc | apply Kd.V_drewN | apply Kd.V_drew)); exact HO502.out) (Kd.R_base ho0) hb)
         have n9_ := Aside0.mk (Kd.R_lower (Kd.R_new' ho0 (Kd.R_lt (RD HO_12))) (below_size (by repeat (first | (with_reducible first | exact HB.out | apply below_alloc | apply pw_below_drewN | apply below_drew1 | refine below_set ?_ GE469.out | refine below_set ?_ GE470.out | refine below_set ?_ GE503.out) | exact HB.out))))
         have n10_ := Aside0.mk (blk_below (g := gb469) (o := .cells #[.slice A0_0 l0_0.length c0_0, .slice A0_1 l0_1.length c0_1, .slice A0_2 l0_2.length c0_2, .slice A0_3 l0_3.length c0_3, .slice A0_4 l0_4.length c0_4, .slice A0_5 l0_5.length c0_5, .slice A0_6 l0_6.length c0_6, .slice A0_7 l0_7.length c0_7, .slice A0_8 l0_8.length c0_8, .slice A0_9 l0_9.length c0_9] 24 (0, 0)) (by (with_reducible repeat (first | refine blk_drewN ?_ _ | refine blk_drew ?_ | refine blk_alloc ?_ _)); exact BK469.out) hb)
         have n11_ := Aside0.mk (blk_below (g := gb470) (o := .cells #[.int .i64 a2_0, .int .u8 a2_1] 32 (0, 0)) (by (with_reducible repeat (first | refine blk_drewN ?_ _ | refine blk_drew ?_ | refine blk_alloc ?_ _)); exact BK470.out) hb)
         have n12_ := Aside0.mk (blk_below (g := gb503) (o := .cells #[.slice Ao49 t482.length co49, .slice Ao53 t485.length co53, .slice Ao54 t488.length co54, .slice Ao55 t491.length co55, .slice Ao56 t494.length co56, .slice Ao57 t497.length co57, .slice Ao58 t500.length co58] 38 (0, 0)) (by (with_reducible repeat (first | refine blk_drewN ?_ _ | refine blk_drew ?_ | refine blk_alloc ?_ _)); exact BK503.out) hb)
         have n13_ := Aside0.mk (below_step (by repeat (first | (with_reducible first | exact HB.out | apply below_alloc | apply pw_below_drewN | apply below_drew1 | refine below_set ?_ GE469.out | refine below_set ?_ GE470.out | refine below_set ?_ GE503.out) | exact HB.out)) hb)
         clear HO_11
         clear HO_12
         clear HO484
         clear HO487
         clear HO490
         clear HO493
         clear HO496
         clear HO499
         clear HO502
         clear BK469
         clear BK470
         clear BK503
         clear HB
         have HO_11 := n0_
         have HO_12 := n1_
         have HO484 := n2_
         have HO487 := n3_
         have HO490 := n4_
         have HO493 := n5_
         have HO496 := n6_
         have HO499 := n7_
         have HO502 := n8_
         have HO509 := n9_
         have BK469 := n10_
         have BK470 := n11_
         have BK503 := n12_
         have HB := n13_
         clear n0_ n1_ n2_ n3_ n4_ n5_ n6_ n7_ n8_ n9_ n10_ n11_ n12_ n13_
         (try clear hb)
         (try clear hb2)
         (try clear hk)
         (try clear hi)
         (try clear ho0)
         obtain ⟨Ao63, co63, eo63⟩ := Kd.R_slice HO_12.out
         (first | subst eo63 | (injection eo63 with f1_ f2_ f3_; have f4_ := f1_.symm; have f5_ := f3_.symm; clear f1_ f2_ f3_; subst f4_; subst f5_))
         obtain ⟨Ao64, co64, eo64⟩ := Kd.R_slice HO509.out
         (first | subst eo64 | (injection eo64 with f1_ f2_ f3_; have f4_ := f1_.symm; have f5_ := f3_.symm; clear f1_ f2_ f3_; subst f4_; subst f5_))
         refine hK.out _ _ ⟨(blk_cell BK503.out 0).trans rfl, (blk_cell BK503.out 1).trans rfl, (blk_cell BK503.out 2).trans rfl, (blk_cell BK503.out 3).trans rfl, (blk_cell BK503.out 4).trans rfl, (blk_cell BK503.out 5).trans rfl, (blk_cell BK503.out 6).trans rfl, (blk_cell BK470.out 0).trans rfl, (blk_cell BK470.out 1).trans rfl, (blk_cell BK469.out 0).trans rfl, (blk_cell BK469.out 1).trans rfl, (blk_cell BK469.out 2).trans rfl, (blk_cell BK469.out 3).trans rfl, (blk_cell BK469.out 4).trans rfl, (blk_cell BK469.out 5).trans rfl, (blk_cell BK469.out 6).trans rfl, (blk_cell BK469.out 7).trans rfl, (blk_cell BK469.out 8).trans rfl, (blk_cell BK469.out 9).trans rfl⟩ (fun hHeld => ?_)
         clear hK K
         refine norm_ (a' := ?_) ?_ ?_
         rotate_left
         ·show Act.put _ (some 64) _ = _
          simp only [Act.put, s0_, s1_, s2_, i64_w, i32_w]
          rfl
         refine one_ (i := 6) (N := some 65) u18_30 rfl rfl (one_of HT_.out (by kernel_rfl)) (by decide) (fun K hK => ?_)
         refine goes_ Try.func19 (by kernel_rfl) rfl #[.slice Ao63 x12_2.length co63, .slice Ao64 t507.length co64] (by rfl) rfl rfl (by (try simp only [List.map_toArray, List.map_cons, List.map_nil]); first | done | rfl | (simp only [List.length_drop, List.length_take]; rfl)) ?_
         with_reducible refine (clepsydralaw21_same.calls k2 _ _ x12_2 _ _ t507 true _ ?side1 ?side2 ?side3 ?side4 A34.out).mono ?_
         (case side1 => exact CD ((Kd.R_reads' HO_12.out).2.2))
         (case side2 => exact (Kd.R_reads' HO_12.out).2.1)
         (case side3 => exact CD ((Kd.R_reads' HO509.out).2.2))
         (case side4 => exact (Kd.R_reads' HO509.out).2.1)
         rintro e w' ⟨rfl, ⟨nd, rfl⟩⟩
         refine ⟨_, rfl, ?_⟩
         refine hK.out _ _ ⟨(blk_cell BK503.out 0).trans rfl, (blk_cell BK503.out 1).trans rfl, (blk_cell BK503.out 2).trans rfl, (blk_cell BK503.out 3).trans rfl, (blk_cell BK503.out 4).trans rfl, (blk_cell BK503.out 5).trans rfl, (blk_cell BK503.out 6).trans rfl, (blk_cell BK470.out 0).trans rfl, (blk_cell BK470.out 1).trans rfl, (blk_cell BK469.out 0).trans rfl, (blk_cell BK469.out 1).trans rfl, (blk_cell BK469.out 2).trans rfl, (blk_cell BK469.out 3).trans rfl, (blk_cell BK469.out 4).trans rfl, (blk_cell BK469.out 5).trans rfl, (blk_cell BK469.out 6).trans rfl, (blk_cell BK469.out 7).trans rfl, (blk_cell BK469.out 8).trans rfl, (blk_cell BK469.out 9).trans rfl⟩ (fun hHeld => ?_)
         clear hK K
         refine norm_ (a' := ?_) ?_ ?_
         rotate_left
         ·show Act.put _ (some 65) _ = _
          simp only [Act.put, s0_, s1_, s2_, i64_w, i32_w]
          rfl
         refine pure_ (i := 7) (N := some 66) (v := ?_) (a' := ?_) u18_31 rfl rfl (any_of HT_.out (by kernel_rfl)) (fun _ _ _ h => h) (Or.inl ⟨by rfl, ?_⟩) ?_ ?_
         rotate_left
         ·intro w'
          go_simp
          with_reducible rfl
         rotate_left
         ·simp only [Act.put, s0_, s1_, s2_, i64_w, i32_w]
          rfl
         refine pure_ (i := 9) (N := some 68) (v := ?_) (a' := ?_) u18_32 rfl rfl (any_of HT_.out (by kernel_rfl)) (fun _ _ _ h => h) (Or.inl ⟨by rfl, ?_⟩) ?_ ?_
         rotate_left
         ·intro w'
          go_simp
          with_reducible rfl
         rotate_left
         ·simp only [Act.put, s0_, s1_, s2_, i64_w, i32_w]
          rfl
         refine pure_ (i := 10) (N := some 69) (v := ?_) (a' := ?_) u18_33 rfl rfl (any_of HT_.out (by kernel_rfl)) (fun _ _ _ h => h) (Or.inl ⟨by rfl, ?_⟩) ?_ ?_
         rotate_left
         ·intro w'
          go_simp
          with_reducible rfl
         rotate_left
         ·simp only [Act.put, s0_, s1_, s2_, i64_w, i32_w]
          rfl
         refine pure_ (i := 11) (N := some 70) (v := ?_) (a' := ?_) u18_34 rfl rfl (any_of HT_.out (by kernel_rfl)) (fun _ _ _ h => h) (Or.inl ⟨by rfl, ?_⟩) ?_ ?_
         rotate_left
         ·intro w'
          go_simp
          with_reducible rfl
         rotate_left
         ·simp only [Act.put, s0_, s1_, s2_, i64_w, i32_w]
          rfl
         refine pure_ (i := 15) (N := some 74) (v := ?_) (a' := ?_) u18_35 rfl rfl (any_of HT_.out (by kernel_rfl)) (fun _ _ _ h => h) (Or.inl ⟨by rfl, ?_⟩) ?_ ?_
         rotate_left
         ·intro w'
          go_simp
          with_reducible rfl
         rotate_left
         ·simp only [Act.put, s0_, s1_, s2_, i64_w, i32_w]
          rfl
         refine pure_ (i := 16) (N := some 75) (v := ?_) (a' := ?_) u18_36 rfl rfl (any_of HT_.out (by kernel_rfl)) (fun _ _ _ h => h) (Or.inl ⟨by rfl, ?_⟩) ?_ ?_
         rotate_left
         ·intro w'
          go_simp
          with_reducible rfl
         rotate_left
         ·simp only [Act.put, s0_, s1_, s2_, i64_w, i32_w]
          rfl
         refine pure_ (i := 18) (N := some 77) (v := ?_) (a' := ?_) u18_37 rfl rfl (any_of HT_.out (by kernel_rfl)) (fun _ _ _ h => h) (Or.inl ⟨by rfl, ?_⟩) ?_ ?_
         rotate_left
         ·intro w'
          go_simp
          with_reducible rfl
         rotate_left
         ·simp only [Act.put, s0_, s1_, s2_, i64_w, i32_w]
          rfl
         refine take_ (i := 8) (N := some 67) (v := ?_) (a' := ?_) u18_38 rfl rfl (take_ofW HT_.out HW_.out (by kernel_rfl)) (fun _ _ _ h => h) (Or.inl ⟨by rfl, ?_⟩) hHeld ?_ ?_
         rotate_left
         ·rintro w' ⟨s0, s1, s2, s3, s4, s5, s6, s7, s8, s9, s10, s11, s12, s13, s14, s15, s16, s17, s18⟩
          go_simp
          with_reducible rfl
         rotate_left
         ·simp only [Act.put, s0_, s1_, s2_, i64_w, i32_w]
          rfl
         refine take_ (i := 14) (N := some 73) (v := ?_) (a' := ?_) u18_39 rfl rfl (take_ofW HT_.out HW_.out (by kernel_rfl)) (fun _ _ _ h => h) (Or.inl ⟨by rfl, ?_⟩) hHeld ?_ ?_
         rotate_left
         ·rintro w' ⟨s0, s1, s2, s3, s4, s5, s6, s7, s8, s9, s10, s11, s12, s13, s14, s15, s16, s17, s18⟩
          go_simp
          with_reducible rfl
         rotate_left
         ·simp only [Act.put, s0_, s1_, s2_, i64_w, i32_w]
          rfl
         refine one_ (i := 12) (N := some 71) u18_40 rfl rfl (one_of HT_.out (by kernel_rfl)) (by decide) (fun K hK => ?_)
         refine goes_ Try.func26 (by kernel_rfl) rfl #[.agg #[.slice A0_0 l0_0.length c0_0, .slice A0_1 l0_1.length c0_1, .slice A0_2 l0_2.length c0_2, .slice A0_3 l0_3.length c0_3, .slice A0_4 l0_4.length c0_4, .slice A0_5 l0_5.length c0_5, .slice A0_6 l0_6.length c0_6, .slice A0_7 l0_7.length c0_7, .slice A0_8 l0_8.length c0_8, .slice A0_9 l0_9.length c0_9], .slice A1 l1.length c1, .slice A3 l3.length c3, .slice A4 l4.length c4] (by rfl) rfl rfl (by (try simp only [List.map_toArray, List.map_cons, List.map_nil]); first | done | rfl | (simp only [List.length_drop, List.length_take]; rfl)) ?_
         with_reducible refine (closure_Bans.calls _ _ l0_0 _ _ l0_1 _ _ l0_2 _ _ l0_3 _ _ l0_4 _ _ l0_5 _ _ l0_6 _ _ l0_7 _ _ l0_8 _ _ l0_9 _ _ l1 _ _ l3 _ _ l4 t511 _ ?side1 ?side2 ?side3 ?side4 ?side5 ?side6 ?side7 ?side8 ?side9 ?side10 ?side11 ?side12 ?side13 ?side14 ?side15 ?side16 ?side17 ?side18 ?side19 ?side20 ?side21 ?side22 ?side23 ?side24 ?side25 ?side26 A36.out).mono ?_
         (case side1 => repeat (first | exact (Kd.C_below HR0_0.out (by repeat (first | (with_reducible first | exact HB.out | apply below_alloc | apply pw_below_drewN | apply below_drew1 | refine below_set ?_ GE469.out | refine below_set ?_ GE470.out | refine below_set ?_ GE503.out) | exact HB.out))) | (with_reducible refine Kd.C_alloc ?_ _) | (with_reducible refine Kd.C_drewN ?_ _) | (with_reducible refine Kd.C_drew ?_)))
         (case side2 => exact HC0_0.out)
         (case side3 => repeat (first | exact (Kd.C_below HR0_1.out (by repeat (first | (with_reducible first | exact HB.out | apply below_alloc | apply pw_below_drewN | apply below_drew1 | refine below_set ?_ GE469.out | refine below_set ?_ GE470.out | refine below_set ?_ GE503.out) | exact HB.out))) | (with_reducible refine Kd.C_alloc ?_ _) | (with_reducible refine Kd.C_drewN ?_ _) | (with_reducible refine Kd.C_drew ?_)))
         (case side4 => exact HC0_1.out)
         (case side5 => repeat (first | exact (Kd.C_below HR0_2.out (by repeat (first | (with_reducible first | exact HB.out | apply below_alloc | apply pw_below_drewN | apply below_drew1 | refine below_set ?_ GE469.out | refine below_set ?_ GE470.out | refine below_set ?_ GE503.out) | exact HB.out))) | (with_reducible refine Kd.C_alloc ?_ _) | (with_reducible refine Kd.C_drewN ?_ _) | (with_reducible refine Kd.C_drew ?_)))
         (case side6 => exact HC0_2.out)
         (case side7 => repeat (first | exact (Kd.C_below HR0_3.out (by repeat (first | (with_reducible first | exact HB.out | apply below_alloc | apply pw_below_drewN | apply below_drew1 | refine below_set ?_ GE469.out | refine below_set ?_ GE470.out | refine below_set ?_ GE503.out) | exact HB.out))) | (with_reducible refine Kd.C_alloc ?_ _) | (with_reducible refine Kd.C_drewN ?_ _) | (with_reducible refine Kd.C_drew ?_)))
         (case side8 => exact HC0_3.out)
         (case side9 => repeat (first | exact (Kd.C_below HR0_4.out (by repeat (first | (with_reducible first | exact HB.out | apply below_alloc | apply pw_below_drewN | apply below_drew1 | refine below_set ?_ GE469.out | refine below_set ?_ GE470.out | refine below_set ?_ GE503.out) | exact HB.out))) | (with_reducible refine Kd.C_alloc ?_ _) | (with_reducible refine Kd.C_drewN ?_ _) | (with_reducible refine Kd.C_drew ?_)))
         (case side10 => exact HC0_4.out)
         (case side11 => repeat (first | exact (Kd.C_below HR0_5.out (by repeat (first | (with_reducible first | exact HB.out | apply below_alloc | apply pw_below_drewN | apply below_drew1 | refine below_set ?_ GE469.out | refine below_set ?_ GE470.out | refine below_set ?_ GE503.out) | exact HB.out))) | (with_reducible refine Kd.C_alloc ?_ _) | (with_reducible refine Kd.C_drewN ?_ _) | (with_reducible refine Kd.C_drew ?_)))
         (case side12 => exact HC0_5.out)
         (case side13 => repeat (first | exact (Kd.C_below HR0_6.out (by repeat (first | (with_reducible first | exact HB.out | apply below_alloc | apply pw_below_drewN | apply below_drew1 | refine below_set ?_ GE469.out | refine below_set ?_ GE470.out | refine below_set ?_ GE503.out) | exact HB.out))) | (with_reducible refine Kd.C_alloc ?_ _) | (with_reducible refine Kd.C_drewN ?_ _) | (with_reducible refine Kd.C_drew ?_)))
         (case side14 => exact HC0_6.out)
         (case side15 => repeat (first | exact (Kd.C_below HR0_7.out (by repeat (first | (with_reducible first | exact HB.out | apply below_alloc | apply pw_below_drewN | apply below_drew1 | refine below_set ?_ GE469.out | refine below_set ?_ GE470.out | refine below_set ?_ GE503.out) | exact HB.out))) | (with_reducible refine Kd.C_alloc ?_ _) | (with_reducible refine Kd.C_drewN ?_ _) | (with_reducible refine Kd.C_drew ?_)))
         (case side16 => exact HC0_7.out)
         (case side17 => repeat (first | exact (Kd.C_below HR0_8.out (by repeat (first | (with_reducible first | exact HB.out | apply below_alloc | apply pw_below_drewN | apply below_drew1 | refine below_set ?_ GE469.out | refine below_set ?_ GE470.out | refine below_set ?_ GE503.out) | exact HB.out))) | (with_reducible refine Kd.C_alloc ?_ _) | (with_reducible refine Kd.C_drewN ?_ _) | (with_reducible refine Kd.C_drew ?_)))
         (case side18 => exact HC0_8.out)
         (case side19 => repeat (first | exact (Kd.C_below HR0_9.out (by repeat (first | (with_reducible first | exact HB.out | apply below_alloc | apply pw_below_drewN | apply below_drew1 | refine below_set ?_ GE469.out | refine below_set ?_ GE470.out | refine below_set ?_ GE503.out) | exact HB.out))) | (with_reducible refine Kd.C_alloc ?_ _) | (with_reducible refine Kd.C_drewN ?_ _) | (with_reducible refine Kd.C_drew ?_)))
         (case side20 => exact HC0_9.out)
         (case side21 => repeat (first | exact (Kd.C_below HR1.out (by repeat (first | (with_reducible first | exact HB.out | apply below_alloc | apply pw_below_drewN | apply below_drew1 | refine below_set ?_ GE469.out | refine below_set ?_ GE470.out | refine below_set ?_ GE503.out) | exact HB.out))) | (with_reducible refine Kd.C_alloc ?_ _) | (with_reducible refine Kd.C_drewN ?_ _) | (with_reducible refine Kd.C_drew ?_)))
         (case side22 => exact HC1.out)
         (case side23 => repeat (first | exact (Kd.C_below HR3.out (by repeat (first | (with_reducible first | exact HB.out | apply below_alloc | apply pw_below_drewN | apply below_drew1 | refine below_set ?_ GE469.out | refine below_set ?_ GE470.out | refine below_set ?_ GE503.out) | exact HB.out))) | (with_reducible refine Kd.C_alloc ?_ _) | (with_reducible refine Kd.C_drewN ?_ _) | (with_reducible refine Kd.C_drew ?_)))
         (case side24 => exact HC3.out)
         (case side25 => repeat (first | exact (Kd.C_below HR4.out (by repeat (first | (with_reducible first | exact HB.out | apply below_alloc | apply pw_below_drewN | apply below_drew1 | refine below_set ?_ GE469.out | refine below_set ?_ GE470.out | refine below_set ?_ GE503.out) | exact HB.out))) | (with_reducible refine Kd.C_alloc ?_ _) | (with_reducible refine Kd.C_drewN ?_ _) | (with_reducible refine Kd.C_drew ?_)))
         (case side26 => exact HC4.out)
         rintro e w65 ⟨v512, rfl, ho0, hb⟩
         refine ⟨_, rfl, ?_⟩
         have n0_ := RB HO_11 hb
         have n1_ := RB HO_12 hb
         have n2_ := Aside0.mk (Kd.V_elder' (by (with_reducible repeat (first | apply Kd.V_alloc | apply Kd.V_drewN | apply Kd.V_drew)); exact HO484.out) (Kd.R_base ho0) hb)
         have n3_ := Aside0.mk (Kd.V_elder' (by (with_reducible repeat (first | apply Kd.V_alloc | apply Kd.V_drewN | apply Kd.V_drew)); exact HO487.out) (Kd.R_base ho0) hb)
         have n4_ := Aside0.mk (Kd.V_elder' (by (with_reducible repeat (first | apply Kd.V_alloc | apply Kd.V_drewN | apply Kd.V_drew)); exact HO490.out) (Kd.R_base ho0) hb)
         have n5_ := Aside0.mk (Kd.V_elder' (by (with_reducible repeat (first | apply Kd.V_alloc | apply Kd.V_drewN | apply Kd.V_drew)); exact HO493.out) (Kd.R_base ho0) hb)
         have n6_ := Aside0.mk (Kd.V_elder' (by (with_reducible repeat (first | apply Kd.V_alloc | apply Kd.V_drewN | apply Kd.V_drew)); exact HO496.out) (Kd.R_base ho0) hb)
         have n7_ := Aside0.mk (Kd.V_elder' (by (with_reducible repeat (first | apply Kd.V_alloc | apply Kd.V_drewN | apply Kd.V_drew)); exact HO499.out) (Kd.R_base ho0) hb)
         have n8_ := Aside0.mk (Kd.V_elder' (by (with_reducible repeat (first | apply Kd.V_alloc | apply Kd.V_drewN | apply Kd.V_drew)); exact HO502.out) (Kd.R_base ho0) hb)
         have n9_ := RB HO509 hb
         have n10_ := Aside0.mk (Kd.R_lower (Kd.R_newB ho0 (g := gb470) (o := .cells #[.int .i64 a2_0, .int .u8 a2_1] 32 (0, 0)) (by (with_reducible repeat (first | refine blk_drewN ?_ _ | refine blk_drew ?_ | refine blk_alloc ?_ _)); exact BK470.out)) (below_size (by repeat (first | (with_reducible first | exact HB.out | apply below_alloc | apply pw_below_drewN | apply below_drew1 | refine below_set ?_ GE469.out | refine below_set ?_ GE470.out | refine below_set ?_ GE503.out) | exact HB.out))))
         have n11_ := Aside0.mk (blk_below (g := gb469) (o := .cells #[.slice A0_0 l0_0.length c0_0, .slice A0_1 l0_1.length c0_1, .slice A0_2 l0_2.length c0_2, .slice A0_3 l0_3.length c0_3, .slice A0_4 l0_4.length c0_4, .slice A0_5 l0_5.length c0_5, .slice A0_6 l0_6.length c0_6, .slice A0_7 l0_7.length c0_7, .slice A0_8 l0_8.length c0_8, .slice A0_9 l0_9.length c0_9] 24 (0, 0)) (by (with_reducible repeat (first | refine blk_drewN ?_ _ | refine blk_drew ?_ | refine blk_alloc ?_ _)); exact BK469.out) hb)
         have n12_ := Aside0.mk (blk_below (g := gb470) (o := .cells #[.int .i64 a2_0, .int .u8 a2_1] 32 (0, 0)) (by (with_reducible repeat (first | refine blk_drewN ?_ _ | refine blk_drew ?_ | refine blk_alloc ?_ _)); exact BK470.out) hb)
         have n13_ := Aside0.mk (blk_below (g := gb503) (o := .cells #[.slice Ao49 t482.length co49, .slice Ao53 t485.length co53, .slice Ao54 t488.length co54, .slice Ao55 t491.length co55, .slice Ao56 t494.length co56, .slice Ao57 t497.length co57, .slice Ao58 t500.length co58] 38 (0, 0)) (by (with_reducible repeat (first | refine blk_drewN ?_ _ | refine blk_drew ?_ | refine blk_alloc ?_ _)); exact BK503.out) hb)
         have n14_ := Aside0.mk (below_step (by repeat (first | (with_reducible first | exact HB.out | apply below_alloc | apply pw_below_drewN | apply below_drew1 | refine below_set ?_ GE469.out | refine below_set ?_ GE470.out | refine below_set ?_ GE503.out) | exact HB.out)) hb)
         clear HO_11
         clear HO_12
         clear HO484
         clear HO487
         clear HO490
         clear HO493
         clear HO496
         clear HO499
         clear HO502
         clear HO509
         clear BK469
         clear BK470
         clear BK503
         clear HB
         have HO_11 := n0_
         have HO_12 := n1_
         have HO484 := n2_
         have HO487 := n3_
         have HO490 := n4_
         have HO493 := n5_
         have HO496 := n6_
         have HO499 := n7_
         have HO502 := n8_
         have HO509 := n9_
         have HO513 := n10_
         have BK469 := n11_
         have BK470 := n12_
         have BK503 := n13_
         have HB := n14_
         clear n0_ n1_ n2_ n3_ n4_ n5_ n6_ n7_ n8_ n9_ n10_ n11_ n12_ n13_ n14_
         (try clear hb)
         (try clear hb2)
         (try clear hk)
         (try clear hi)
         (try clear ho0)
         obtain ⟨Ao66, co66, eo66⟩ := Kd.R_slice HO513.out
         (first | subst eo66 | (injection eo66 with f1_ f2_ f3_; have f4_ := f1_.symm; have f5_ := f3_.symm; clear f1_ f2_ f3_; subst f4_; subst f5_))
         refine hK.out _ _ ⟨(blk_cell BK503.out 0).trans rfl, (blk_cell BK503.out 1).trans rfl, (blk_cell BK503.out 2).trans rfl, (blk_cell BK503.out 3).trans rfl, (blk_cell BK503.out 4).trans rfl, (blk_cell BK503.out 5).trans rfl, (blk_cell BK503.out 6).trans rfl, (blk_cell BK470.out 0).trans rfl, (blk_cell BK470.out 1).trans rfl, (blk_cell BK469.out 0).trans rfl, (blk_cell BK469.out 1).trans rfl, (blk_cell BK469.out 2).trans rfl, (blk_cell BK469.out 3).trans rfl, (blk_cell BK469.out 4).trans rfl, (blk_cell BK469.out 5).trans rfl, (blk_cell BK469.out 6).trans rfl, (blk_cell BK469.out 7).trans rfl, (blk_cell BK469.out 8).trans rfl, (blk_cell BK469.out 9).trans rfl⟩ (fun hHeld => ?_)
         clear hK K
         refine norm_ (a' := ?_) ?_ ?_
         rotate_left
         ·show Act.put _ (some 71) _ = _
          simp only [Act.put, s0_, s1_, s2_, i64_w, i32_w]
          rfl
         refine one_ (i := 13) (N := some 72) u18_41 rfl rfl (one_of HT_.out (by kernel_rfl)) (by decide) (fun K hK => ?_)
         refine goes_ Try.func18 (by kernel_rfl) rfl #[.slice Ao66 t511.length co66] (by rfl) rfl rfl (by (try simp only [List.map_toArray, List.map_cons, List.map_nil]); first | done | rfl | (simp only [List.length_drop, List.length_take]; rfl)) ?_
         with_reducible refine (clepsydralaw21_all.calls k2 _ _ t511 t514 _ ?side1 ?side2 A37.out).mono ?_
         (case side1 => exact CD ((Kd.R_reads' HO513.out).2.2))
         (case side2 => exact (Kd.R_reads' HO513.out).2.1)
         rintro e w67 ⟨v515, rfl, ho0, hb⟩
         refine ⟨_, rfl, ?_⟩
         have n0_ := RB HO_11 hb
         have n1_ := RE HO_12 hb (Kd.R_base ho0)
         have n2_ := Aside0.mk (Kd.V_elder' (by (with_reducible repeat (first | apply Kd.V_alloc | apply Kd.V_drewN | apply Kd.V_drew)); exact HO484.out) (Kd.R_base ho0) hb)
         have n3_ := Aside0.mk (Kd.V_elder' (by (with_reducible repeat (first | apply Kd.V_alloc | apply Kd.V_drewN | apply Kd.V_drew)); exact HO487.out) (Kd.R_base ho0) hb)
         have n4_ := Aside0.mk (Kd.V_elder' (by (with_reducible repeat (first | apply Kd.V_alloc | apply Kd.V_drewN | apply Kd.V_drew)); exact HO490.out) (Kd.R_base ho0) hb)
         have n5_ := Aside0.mk (Kd.V_elder' (by (with_reducible repeat (first | apply Kd.V_alloc | apply Kd.V_drewN | apply Kd.V_drew)); exact HO493.out) (Kd.R_base ho0) hb)
         have n6_ := Aside0.mk (Kd.V_elder' (by (with_reducible repeat (first | apply Kd.V_alloc | apply Kd.V_drewN | apply Kd.V_drew)); exact HO496.out) (Kd.R_base ho0) hb)
         have n7_ := Aside0.mk (Kd.V_elder' (by (with_reducible repeat (first | apply Kd.V_alloc | apply Kd.V_drewN | apply Kd.V_drew)); exact HO499.out) (Kd.R_base ho0) hb)
         have n8_ := Aside0.mk (Kd.V_elder' (by (with_reducible repeat (first | apply Kd.V_alloc | apply Kd.V_drewN | apply Kd.V_drew)); exact HO502.out) (Kd.R_base ho0) hb)
         have n9_ := RE HO509 hb (Kd.R_base ho0)
         have n10_ := RB HO513 hb
         have n11_ := Aside0.mk (Kd.R_lower (Kd.R_new' (Kd.R_new' ho0 (Kd.R_lt (RD HO_12))) (Kd.R_lt (RD HO509))) (below_size (by repeat (first | (with_reducible first | exact HB.out | apply below_alloc | apply pw_below_drewN | apply below_drew1 | refine below_set ?_ GE469.out | refine below_set ?_ GE470.out | refine below_set ?_ GE503.out) | exact HB.out))))
         have n12_ := Aside0.mk (blk_below (g := gb469) (o := .cells #[.slice A0_0 l0_0.length c0_0, .slice A0_1 l0_1.length c0_1, .slice A0_2 l0_2.length c0_2, .slice A0_3 l0_3.length c0_3, .slice A0_4 l0_4.length c0_4, .slice A0_5 l0_5.length c0_5, .slice A0_6 l0_6.length c0_6, .slice A0_7 l0_7.length c0_7, .slice A0_8 l0_8.length c0_8, .slice A0_9 l0_9.length c0_9] 24 (0, 0)) (by (with_reducible repeat (first | refine blk_drewN ?_ _ | refine blk_drew ?_ | refine blk_alloc ?_ _)); exact BK469.out) hb)
         have n13_ := Aside0.mk (blk_below (g := gb470) (o := .cells #[.int .i64 a2_0, .int .u8 a2_1] 32 (0, 0)) (by (with_reducible repeat (first | refine blk_drewN ?_ _ | refine blk_drew ?_ | refine blk_alloc ?_ _)); exact BK470.out) hb)
         have n14_ := Aside0.mk (blk_below (g := gb503) (o := .cells #[.slice Ao49 t482.length co49, .slice Ao53 t485.length co53, .slice Ao54 t488.length co54, .slice Ao55 t491.length co55, .slice Ao56 t494.length co56, .slice Ao57 t497.length co57, .slice Ao58 t500.length co58] 38 (0, 0)) (by (with_reducible repeat (first | refine blk_drewN ?_ _ | refine blk_drew ?_ | refine blk_alloc ?_ _)); exact BK503.out) hb)
         have n15_ := Aside0.mk (below_step (by repeat (first | (with_reducible first | exact HB.out | apply below_alloc | apply pw_below_drewN | apply below_drew1 | refine below_set ?_ GE469.out | refine below_set ?_ GE470.out | refine below_set ?_ GE503.out) | exact HB.out)) hb)
         clear HO_11
         clear HO_12
         clear HO484
         clear HO487
         clear HO490
         clear HO493
         clear HO496
         clear HO499
         clear HO502
         clear HO509
         clear HO513
         clear BK469
         clear BK470
         clear BK503
         clear HB
         have HO_11 := n0_
         have HO_12 := n1_
         have HO484 := n2_
         have HO487 := n3_
         have HO490 := n4_
         have HO493 := n5_
         have HO496 := n6_
         have HO499 := n7_
         have HO502 := n8_
         have HO509 := n9_
         have HO513 := n10_
         have HO516 := n11_
         have BK469 := n12_
         have BK470 := n13_
         have BK503 := n14_
         have HB := n15_
         clear n0_ n1_ n2_ n3_ n4_ n5_ n6_ n7_ n8_ n9_ n10_ n11_ n12_ n13_ n14_ n15_
         (try clear hb)
         (try clear hb2)
         (try clear hk)
         (try clear hi)
         (try clear ho0)
         refine hK.out _ _ ⟨(blk_cell BK503.out 0).trans rfl, (blk_cell BK503.out 1).trans rfl, (blk_cell BK503.out 2).trans rfl, (blk_cell BK503.out 3).trans rfl, (blk_cell BK503.out 4).trans rfl, (blk_cell BK503.out 5).trans rfl, (blk_cell BK503.out 6).trans rfl, (blk_cell BK470.out 0).trans rfl, (blk_cell BK470.out 1).trans rfl, (blk_cell BK469.out 0).trans rfl, (blk_cell BK469.out 1).trans rfl, (blk_cell BK469.out 2).trans rfl, (blk_cell BK469.out 3).trans rfl, (blk_cell BK469.out 4).trans rfl, (blk_cell BK469.out 5).trans rfl, (blk_cell BK469.out 6).trans rfl, (blk_cell BK469.out 7).trans rfl, (blk_cell BK469.out 8).trans rfl, (blk_cell BK469.out 9).trans rfl⟩ (fun hHeld => ?_)
         clear hK K
         refine norm_ (a' := ?_) ?_ ?_
         rotate_left
         ·show Act.put _ (some 72) _ = _
          simp only [Act.put, s0_, s1_, s2_, i64_w, i32_w]
          rfl
         refine one_ (i := 17) (N := some 76) u18_42 rfl rfl (one_of HT_.out (by kernel_rfl)) (by decide) (fun K hK => ?_)
         refine goes_ Try.func18 (by kernel_rfl) rfl #[.slice A3 l3.length c3] (by rfl) rfl rfl (by (try simp only [List.map_toArray, List.map_cons, List.map_nil]); first | done | rfl | (simp only [List.length_drop, List.length_take]; rfl)) ?_
         with_reducible refine (clepsydralaw21_all.calls k2 _ _ l3 t517 _ ?side1 ?side2 A38.out).mono ?_
         (case side1 => exact CD ((Kd.C_below HR3.out HB.out)))
         (case side2 => exact HC3.out)
         rintro e w68 ⟨v518, rfl, ho0, hb⟩
         refine ⟨_, rfl, ?_⟩
         have n0_ := RB HO_11 hb
         have n1_ := RE HO_12 hb (Kd.R_base ho0)
         have n2_ := Aside0.mk (Kd.V_elder' (by (with_reducible repeat (first | apply Kd.V_alloc | apply Kd.V_drewN | apply Kd.V_drew)); exact HO484.out) (Kd.R_base ho0) hb)
         have n3_ := Aside0.mk (Kd.V_elder' (by (with_reducible repeat (first | apply Kd.V_alloc | apply Kd.V_drewN | apply Kd.V_drew)); exact HO487.out) (Kd.R_base ho0) hb)
         have n4_ := Aside0.mk (Kd.V_elder' (by (with_reducible repeat (first | apply Kd.V_alloc | apply Kd.V_drewN | apply Kd.V_drew)); exact HO490.out) (Kd.R_base ho0) hb)
         have n5_ := Aside0.mk (Kd.V_elder' (by (with_reducible repeat (first | apply Kd.V_alloc | apply Kd.V_drewN | apply Kd.V_drew)); exact HO493.out) (Kd.R_base ho0) hb)
         have n6_ := Aside0.mk (Kd.V_elder' (by (with_reducible repeat (first | apply Kd.V_alloc | apply Kd.V_drewN | apply Kd.V_drew)); exact HO496.out) (Kd.R_base ho0) hb)
         have n7_ := Aside0.mk (Kd.V_elder' (by (with_reducible repeat (first | apply Kd.V_alloc | apply Kd.V_drewN | apply Kd.V_drew)); exact HO499.out) (Kd.R_base ho0) hb)
         have n8_ := Aside0.mk (Kd.V_elder' (by (with_reducible repeat (first | apply Kd.V_alloc | apply Kd.V_drewN | apply Kd.V_drew)); exact HO502.out) (Kd.R_base ho0) hb)
         have n9_ := RE HO509 hb (Kd.R_base ho0)
         have n10_ := RB HO513 hb
         have n11_ := RE HO516 hb (Kd.R_base ho0)
         have n12_ := Aside0.mk (Kd.R_lower (Kd.R_new' (Kd.R_new' (Kd.R_new' ho0 (Kd.R_lt (RD HO_12))) (Kd.R_lt (RD HO509))) (Kd.R_lt (RD HO516))) (below_size (by repeat (first | (with_reducible first | exact HB.out | apply below_alloc | apply pw_below_drewN | apply below_drew1 | refine below_set ?_ GE469.out | refine below_set ?_ GE470.out | refine below_set ?_ GE503.out) | exact HB.out))))
         have n13_ := Aside0.mk (blk_below (g := gb469) (o := .cells #[.slice A0_0 l0_0.length c0_0, .slice A0_1 l0_1.length c0_1, .slice A0_2 l0_2.length c0_2, .slice A0_3 l0_3.length c0_3, .slice A0_4 l0_4.length c0_4, .slice A0_5 l0_5.length c0_5, .slice A0_6 l0_6.length c0_6, .slice A0_7 l0_7.length c0_7, .slice A0_8 l0_8.length c0_8, .slice A0_9 l0_9.length c0_9] 24 (0, 0)) (by (with_reducible repeat (first | refine blk_drewN ?_ _ | refine blk_drew ?_ | refine blk_alloc ?_ _)); exact BK469.out) hb)
         have n14_ := Aside0.mk (blk_below (g := gb470) (o := .cells #[.int .i64 a2_0, .int .u8 a2_1] 32 (0, 0)) (by (with_reducible repeat (first | refine blk_drewN ?_ _ | refine blk_drew ?_ | refine blk_alloc ?_ _)); exact BK470.out) hb)
         have n15_ := Aside0.mk (blk_below (g := gb503) (o := .cells #[.slice Ao49 t482.length co49, .slice Ao53 t485.length co53, .slice Ao54 t488.length co54, .slice Ao55 t491.length co55, .slice Ao56 t494.length co56, .slice Ao57 t497.length co57, .slice Ao58 t500.length co58] 38 (0, 0)) (by (with_reducible repeat (first | refine blk_drewN ?_ _ | refine blk_drew ?_ | refine blk_alloc ?_ _)); exact BK503.out) hb)
         have n16_ := Aside0.mk (below_step (by repeat (first | (with_reducible first | exact HB.out | apply below_alloc | apply pw_below_drewN | apply below_drew1 | refine below_set ?_ GE469.out | refine below_set ?_ GE470.out | refine below_set ?_ GE503.out) | exact HB.out)) hb)
         clear HO_11
         clear HO_12
         clear HO484
         clear HO487
         clear HO490
         clear HO493
         clear HO496
         clear HO499
         clear HO502
         clear HO509
         clear HO513
         clear HO516
         clear BK469
         clear BK470
         clear BK503
         clear HB
         have HO_11 := n0_
         have HO_12 := n1_
         have HO484 := n2_
         have HO487 := n3_
         have HO490 := n4_
         have HO493 := n5_
         have HO496 := n6_
         have HO499 := n7_
         have HO502 := n8_
         have HO509 := n9_
         have HO513 := n10_
         have HO516 := n11_
         have HO519 := n12_
         have BK469 := n13_
         have BK470 := n14_
         have BK503 := n15_
         have HB := n16_
         clear n0_ n1_ n2_ n3_ n4_ n5_ n6_ n7_ n8_ n9_ n10_ n11_ n12_ n13_ n14_ n15_ n16_
         (try clear hb)
         (try clear hb2)
         (try clear hk)
         (try clear hi)
         (try clear ho0)
         refine hK.out _ _ ⟨(blk_cell BK503.out 0).trans rfl, (blk_cell BK503.out 1).trans rfl, (blk_cell BK503.out 2).trans rfl, (blk_cell BK503.out 3).trans rfl, (blk_cell BK503.out 4).trans rfl, (blk_cell BK503.out 5).trans rfl, (blk_cell BK503.out 6).trans rfl, (blk_cell BK470.out 0).trans rfl, (blk_cell BK470.out 1).trans rfl, (blk_cell BK469.out 0).trans rfl, (blk_cell BK469.out 1).trans rfl, (blk_cell BK469.out 2).trans rfl, (blk_cell BK469.out 3).trans rfl, (blk_cell BK469.out 4).trans rfl, (blk_cell BK469.out 5).trans rfl, (blk_cell BK469.out 6).trans rfl, (blk_cell BK469.out 7).trans rfl, (blk_cell BK469.out 8).trans rfl, (blk_cell BK469.out 9).trans rfl⟩ (fun hHeld => ?_)
         clear hK K
         refine norm_ (a' := ?_) ?_ ?_
         rotate_left
         ·show Act.put _ (some 76) _ = _
          simp only [Act.put, s0_, s1_, s2_, i64_w, i32_w]
          rfl
         refine one_ (i := 19) (N := some 78) u18_43 rfl rfl (one_of HT_.out (by kernel_rfl)) (by decide) (fun K hK => ?_)
         refine goes_ Try.func18 (by kernel_rfl) rfl #[.slice A4 l4.length c4] (by rfl) rfl rfl (by (try simp only [List.map_toArray, List.map_cons, List.map_nil]); first | done | rfl | (simp only [List.length_drop, List.length_take]; rfl)) ?_
         with_reducible refine (clepsydralaw21_all.calls k2 _ _ l4 t520 _ ?side1 ?side2 A39.out).mono ?_
         (case side1 => exact CD ((Kd.C_below HR4.out HB.out)))
         (case side2 => exact HC4.out)
         rintro e w69 ⟨v521, rfl, ho0, hb⟩
         refine ⟨_, rfl, ?_⟩
         have n0_ := RB HO_11 hb
         have n1_ := RE HO_12 hb (Kd.R_base ho0)
         have n2_ := Aside0.mk (Kd.V_elder' (by (with_reducible repeat (first | apply Kd.V_alloc | apply Kd.V_drewN | apply Kd.V_drew)); exact HO484.out) (Kd.R_base ho0) hb)
         have n3_ := Aside0.mk (Kd.V_elder' (by (with_reducible repeat (first | apply Kd.V_alloc | apply Kd.V_drewN | apply Kd.V_drew)); exact HO487.out) (Kd.R_base ho0) hb)
         have n4_ := Aside0.mk (Kd.V_elder' (by (with_reducible repeat (first | apply Kd.V_alloc | apply Kd.V_drewN | apply Kd.V_drew)); exact HO490.out) (Kd.R_base ho0) hb)
         have n5_ := Aside0.mk (Kd.V_elder' (by (with_reducible repeat (first | apply Kd.V_alloc | apply Kd.V_drewN | apply Kd.V_drew)); exact HO493.out) (Kd.R_base ho0) hb)
         have n6_ := Aside0.mk (Kd.V_elder' (by (with_reducible repeat (first | apply Kd.V_alloc | apply Kd.V_drewN | apply Kd.V_drew)); exact HO496.out) (Kd.R_base ho0) hb)
         have n7_ := Aside0.mk (Kd.V_elder' (by (with_reducible repeat (first | apply Kd.V_alloc | apply Kd.V_drewN | apply Kd.V_drew)); exact HO499.out) (Kd.R_base ho0) hb)
         have n8_ := Aside0.mk (Kd.V_elder' (by (with_reducible repeat (first | apply Kd.V_alloc | apply Kd.V_drewN | apply Kd.V_drew)); exact HO502.out) (Kd.R_base ho0) hb)
         have n9_ := RE HO509 hb (Kd.R_base ho0)
         have n10_ := RB HO513 hb
         have n11_ := RE HO516 hb (Kd.R_base ho0)
         have n12_ := RE HO519 hb (Kd.R_base ho0)
         have n13_ := Aside0.mk (Kd.R_lower (Kd.R_new' (Kd.R_new' (Kd.R_new' (Kd.R_new' ho0 (Kd.R_lt (RD HO_12))) (Kd.R_lt (RD HO509))) (Kd.R_lt (RD HO516))) (Kd.R_lt (RD HO519))) (below_size (by repeat (first | (with_reducible first | exact HB.out | apply below_alloc | apply pw_below_drewN | apply below_drew1 | refine below_set ?_ GE469.out | refine below_set ?_ GE470.out | refine below_set ?_ GE503.out) | exact HB.out))))
         have n14_ := Aside0.mk (blk_below (g := gb469) (o := .cells #[.slice A0_0 l0_0.length c0_0, .slice A0_1 l0_1.length c0_1, .slice A0_2 l0_2.length c0_2, .slice A0_3 l0_3.length c0_3, .slice A0_4 l0_4.length c0_4, .slice A0_5 l0_5.length c0_5, .slice A0_6 l0_6.length c0_6, .slice A0_7 l0_7.length c0_7, .slice A0_8 l0_8.length c0_8, .slice A0_9 l0_9.length c0_9] 24 (0, 0)) (by (with_reducible repeat (first | refine blk_drewN ?_ _ | refine blk_drew ?_ | refine blk_alloc ?_ _)); exact BK469.out) hb)
         have n15_ := Aside0.mk (blk_below (g := gb470) (o := .cells #[.int .i64 a2_0, .int .u8 a2_1] 32 (0, 0)) (by (with_reducible repeat (first | refine blk_drewN ?_ _ | refine blk_drew ?_ | refine blk_alloc ?_ _)); exact BK470.out) hb)
         have n16_ := Aside0.mk (blk_below (g := gb503) (o := .cells #[.slice Ao49 t482.length co49, .slice Ao53 t485.length co53, .slice Ao54 t488.length co54, .slice Ao55 t491.length co55, .slice Ao56 t494.length co56, .slice Ao57 t497.length co57, .slice Ao58 t500.length co58] 38 (0, 0)) (by (with_reducible repeat (first | refine blk_drewN ?_ _ | refine blk_drew ?_ | refine blk_alloc ?_ _)); exact BK503.out) hb)
         have n17_ := Aside0.mk (below_step (by repeat (first | (with_reducible first | exact HB.out | apply below_alloc | apply pw_below_drewN | apply below_drew1 | refine below_set ?_ GE469.out | refine below_set ?_ GE470.out | refine below_set ?_ GE503.out) | exact HB.out)) hb)
         clear HO_11
         clear HO_12
         clear HO484
         clear HO487
         clear HO490
         clear HO493
         clear HO496
         clear HO499
         clear HO502
         clear HO509
         clear HO513
         clear HO516
         clear HO519
         clear BK469
         clear BK470
         clear BK503
         clear HB
         have HO_11 := n0_
         have HO_12 := n1_
         have HO484 := n2_
         have HO487 := n3_
         have HO490 := n4_
         have HO493 := n5_
         have HO496 := n6_
         have HO499 := n7_
         have HO502 := n8_
         have HO509 := n9_
         have HO513 := n10_
         have HO516 := n11_
         have HO519 := n12_
         have HO522 := n13_
         have BK469 := n14_
         have BK470 := n15_
         have BK503 := n16_
         have HB := n17_
         clear n0_ n1_ n2_ n3_ n4_ n5_ n6_ n7_ n8_ n9_ n10_ n11_ n12_ n13_ n14_ n15_ n16_ n17_
         (try clear hb)
         (try clear hb2)
         (try clear hk)
         (try clear hi)
         (try clear ho0)
         obtain ⟨Ao70, co70, eo70⟩ := Kd.R_slice HO519.out
         (first | subst eo70 | (injection eo70 with f1_ f2_ f3_; have f4_ := f1_.symm; have f5_ := f3_.symm; clear f1_ f2_ f3_; subst f4_; subst f5_))
         obtain ⟨Ao71, co71, eo71⟩ := Kd.R_slice HO522.out
         (first | subst eo71 | (injection eo71 with f1_ f2_ f3_; have f4_ := f1_.symm; have f5_ := f3_.symm; clear f1_ f2_ f3_; subst f4_; subst f5_))
         refine hK.out _ _ ⟨(blk_cell BK503.out 0).trans rfl, (blk_cell BK503.out 1).trans rfl, (blk_cell BK503.out 2).trans rfl, (blk_cell BK503.out 3).trans rfl, (blk_cell BK503.out 4).trans rfl, (blk_cell BK503.out 5).trans rfl, (blk_cell BK503.out 6).trans rfl, (blk_cell BK470.out 0).trans rfl, (blk_cell BK470.out 1).trans rfl, (blk_cell BK469.out 0).trans rfl, (blk_cell BK469.out 1).trans rfl, (blk_cell BK469.out 2).trans rfl, (blk_cell BK469.out 3).trans rfl, (blk_cell BK469.out 4).trans rfl, (blk_cell BK469.out 5).trans rfl, (blk_cell BK469.out 6).trans rfl, (blk_cell BK469.out 7).trans rfl, (blk_cell BK469.out 8).trans rfl, (blk_cell BK469.out 9).trans rfl⟩ (fun hHeld => ?_)
         clear hK K
         refine norm_ (a' := ?_) ?_ ?_
         rotate_left
         ·show Act.put _ (some 78) _ = _
          simp only [Act.put, s0_, s1_, s2_, i64_w, i32_w]
          rfl
         refine one_ (i := 20) (N := some 79) u18_44 rfl rfl (one_of HT_.out (by kernel_rfl)) (by decide) (fun K hK => ?_)
         refine goes_ Try.func27 (by kernel_rfl) rfl #[.agg #[.slice Ao49 t482.length co49, .slice Ao53 t485.length co53, .slice Ao54 t488.length co54, .slice Ao55 t491.length co55, .slice Ao56 t494.length co56, .slice Ao57 t497.length co57, .slice Ao58 t500.length co58], .slice A1 l1.length c1, .slice Ao70 t517.length co70, .slice Ao71 t520.length co71] (by rfl) rfl rfl (by (try simp only [List.map_toArray, List.map_cons, List.map_nil]); first | done | rfl | (simp only [List.length_drop, List.length_take]; rfl)) ?_
         with_reducible refine (clepsydraref21_Bans.calls k2 _ _ t482 _ _ t485 _ _ t488 _ _ t491 _ _ t494 _ _ t497 _ _ t500 _ _ l1 _ _ t517 _ _ t520 t523 _ ?side1 ?side2 ?side3 ?side4 ?side5 ?side6 ?side7 ?side8 ?side9 ?side10 ?side11 ?side12 ?side13 ?side14 ?side15 ?side16 ?side17 ?side18 ?side19 ?side20 A40.out).mono ?_
         (case side1 => exact CD ((Kd.V_reads' HO484.out).2.2))
         (case side2 => exact (Kd.V_reads' HO484.out).2.1)
         (case side3 => exact CD ((Kd.V_reads' HO487.out).2.2))
         (case side4 => exact (Kd.V_reads' HO487.out).2.1)
         (case side5 => exact CD ((Kd.V_reads' HO490.out).2.2))
         (case side6 => exact (Kd.V_reads' HO490.out).2.1)
         (case side7 => exact CD ((Kd.V_reads' HO493.out).2.2))
         (case side8 => exact (Kd.V_reads' HO493.out).2.1)
         (case side9 => exact CD ((Kd.V_reads' HO496.out).2.2))
         (case side10 => exact (Kd.V_reads' HO496.out).2.1)
         (case side11 => exact CD ((Kd.V_reads' HO499.out).2.2))
         (case side12 => exact (Kd.V_reads' HO499.out).2.1)
         (case side13 => exact CD ((Kd.V_reads' HO502.out).2.2))
         (case side14 => exact (Kd.V_reads' HO502.out).2.1)
         (case side15 => exact CD ((Kd.C_below HR1.out HB.out)))
         (case side16 => exact HC1.out)
         (case side17 => exact CD ((Kd.R_reads' HO519.out).2.2))
         (case side18 => exact (Kd.R_reads' HO519.out).2.1)
         (case side19 => exact CD ((Kd.R_reads' HO522.out).2.2))
         (case side20 => exact (Kd.R_reads' HO522.out).2.1)
         rintro e w72 ⟨v524, rfl, ho0, hb⟩
         refine ⟨_, rfl, ?_⟩
         have n0_ := RB HO_11 hb
         have n1_ := RE HO_12 hb (Kd.R_base ho0)
         have n2_ := Aside0.mk (Kd.V_elder' (by (with_reducible repeat (first | apply Kd.V_alloc | apply Kd.V_drewN | apply Kd.V_drew)); exact HO484.out) (Kd.R_base ho0) hb)
         have n3_ := Aside0.mk (Kd.V_elder' (by (with_reducible repeat (first | apply Kd.V_alloc | apply Kd.V_drewN | apply Kd.V_drew)); exact HO487.out) (Kd.R_base ho0) hb)
         have n4_ := Aside0.mk (Kd.V_elder' (by (with_reducible repeat (first | apply Kd.V_alloc | apply Kd.V_drewN | apply Kd.V_drew)); exact HO490.out) (Kd.R_base ho0) hb)
         have n5_ := Aside0.mk (Kd.V_elder' (by (with_reducible repeat (first | apply Kd.V_alloc | apply Kd.V_drewN | apply Kd.V_drew)); exact HO493.out) (Kd.R_base ho0) hb)
         have n6_ := Aside0.mk (Kd.V_elder' (by (with_reducible repeat (first | apply Kd.V_alloc | apply Kd.V_drewN | apply Kd.V_drew)); exact HO496.out) (Kd.R_base ho0) hb)
         have n7_ := Aside0.mk (Kd.V_elder' (by (with_reducible repeat (first | apply Kd.V_alloc | apply Kd.V_drewN | apply Kd.V_drew)); exact HO499.out) (Kd.R_base ho0) hb)
         have n8_ := Aside0.mk (Kd.V_elder' (by (with_reducible repeat (first | apply Kd.V_alloc | apply Kd.V_drewN | apply Kd.V_drew)); exact HO502.out) (Kd.R_base ho0) hb)
         have n9_ := RE HO509 hb (Kd.R_base ho0)
         have n10_ := RB HO513 hb
         have n11_ := RE HO516 hb (Kd.R_base ho0)
         have n12_ := RE HO519 hb (Kd.R_base ho0)
         have n13_ := RE HO522 hb (Kd.R_base ho0)
         have n14_ := Aside0.mk (Kd.R_lower (Kd.R_new' (Kd.R_new' (Kd.R_new' (Kd.R_new' (Kd.R_new' ho0 (Kd.R_lt (RD HO_12))) (Kd.R_lt (RD HO509))) (Kd.R_lt (RD HO516))) (Kd.R_lt (RD HO519))) (Kd.R_lt (RD HO522))) (below_size (by repeat (first | (with_reducible first | exact HB.out | apply below_alloc | apply pw_below_drewN | apply below_drew1 | refine below_set ?_ GE469.out | refine below_set ?_ GE470.out | refine below_set ?_ GE503.out) | exact HB.out))))
         have n15_ := Aside0.mk (blk_below (g := gb469) (o := .cells #[.slice A0_0 l0_0.length c0_0, .slice A0_1 l0_1.length c0_1, .slice A0_2 l0_2.length c0_2, .slice A0_3 l0_3.length c0_3, .slice A0_4 l0_4.length c0_4, .slice A0_5 l0_5.length c0_5, .slice A0_6 l0_6.length c0_6, .slice A0_7 l0_7.length c0_7, .slice A0_8 l0_8.length c0_8, .slice A0_9 l0_9.length c0_9] 24 (0, 0)) (by (with_reducible repeat (first | refine blk_drewN ?_ _ | refine blk_drew ?_ | refine blk_alloc ?_ _)); exact BK469.out) hb)
         have n16_ := Aside0.mk (blk_below (g := gb470) (o := .cells #[.int .i64 a2_0, .int .u8 a2_1] 32 (0, 0)) (by (with_reducible repeat (first | refine blk_drewN ?_ _ | refine blk_drew ?_ | refine blk_alloc ?_ _)); exact BK470.out) hb)
         have n17_ := Aside0.mk (blk_below (g := gb503) (o := .cells #[.slice Ao49 t482.length co49, .slice Ao53 t485.length co53, .slice Ao54 t488.length co54, .slice Ao55 t491.length co55, .slice Ao56 t494.length co56, .slice Ao57 t497.length co57, .slice Ao58 t500.length co58] 38 (0, 0)) (by (with_reducible repeat (first | refine blk_drewN ?_ _ | refine blk_drew ?_ | refine blk_alloc ?_ _)); exact BK503.out) hb)
         have n18_ := Aside0.mk (below_step (by repeat (first | (with_reducible first | exact HB.out | apply below_alloc | apply pw_below_drewN | apply below_drew1 | refine below_set ?_ GE469.out | refine below_set ?_ GE470.out | refine below_set ?_ GE503.out) | exact HB.out)) hb)
         clear HO_11
         clear HO_12
         clear HO484
         clear HO487
         clear HO490
         clear HO493
         clear HO496
         clear HO499
         clear HO502
         clear HO509
         clear HO513
         clear HO516
         clear HO519
         clear HO522
         clear BK469
         clear BK470
         clear BK503
         clear HB
         have HO_11 := n0_
         have HO_12 := n1_
         have HO484 := n2_
         have HO487 := n3_
         have HO490 := n4_
         have HO493 := n5_
         have HO496 := n6_
         have HO499 := n7_
         have HO502 := n8_
         have HO509 := n9_
         have HO513 := n10_
         have HO516 := n11_
         have HO519 := n12_
         have HO522 := n13_
         have HO525 := n14_
         have BK469 := n15_
         have BK470 := n16_
         have BK503 := n17_
         have HB := n18_
         clear n0_ n1_ n2_ n3_ n4_ n5_ n6_ n7_ n8_ n9_ n10_ n11_ n12_ n13_ n14_ n15_ n16_ n17_ n18_
         (try clear hb)
         (try clear hb2)
         (try clear hk)
         (try clear hi)
         (try clear ho0)
         obtain ⟨Ao73, co73, eo73⟩ := Kd.R_slice HO516.out
         (first | subst eo73 | (injection eo73 with f1_ f2_ f3_; have f4_ := f1_.symm; have f5_ := f3_.symm; clear f1_ f2_ f3_; subst f4_; subst f5_))
         obtain ⟨Ao74, co74, eo74⟩ := Kd.R_slice HO525.out
         (first | subst eo74 | (injection eo74 with f1_ f2_ f3_; have f4_ := f1_.symm; have f5_ := f3_.symm; clear f1_ f2_ f3_; subst f4_; subst f5_))
         refine hK.out _ _ ⟨(blk_cell BK503.out 0).trans rfl, (blk_cell BK503.out 1).trans rfl, (blk_cell BK503.out 2).trans rfl, (blk_cell BK503.out 3).trans rfl, (blk_cell BK503.out 4).trans rfl, (blk_cell BK503.out 5).trans rfl, (blk_cell BK503.out 6).trans rfl, (blk_cell BK470.out 0).trans rfl, (blk_cell BK470.out 1).trans rfl, (blk_cell BK469.out 0).trans rfl, (blk_cell BK469.out 1).trans rfl, (blk_cell BK469.out 2).trans rfl, (blk_cell BK469.out 3).trans rfl, (blk_cell BK469.out 4).trans rfl, (blk_cell BK469.out 5).trans rfl, (blk_cell BK469.out 6).trans rfl, (blk_cell BK469.out 7).trans rfl, (blk_cell BK469.out 8).trans rfl, (blk_cell BK469.out 9).trans rfl⟩ (fun hHeld => ?_)
         clear hK K
         refine norm_ (a' := ?_) ?_ ?_
         rotate_left
         ·show Act.put _ (some 79) _ = _
          simp only [Act.put, s0_, s1_, s2_, i64_w, i32_w]
          rfl
         refine one_ (i := 21) (N := some 80) u18_45 rfl rfl (one_of HT_.out (by kernel_rfl)) (by decide) (fun K hK => ?_)
         refine goes_ Try.func19 (by kernel_rfl) rfl #[.slice Ao73 t514.length co73, .slice Ao74 t523.length co74] (by rfl) rfl rfl (by (try simp only [List.map_toArray, List.map_cons, List.map_nil]); first | done | rfl | (simp only [List.length_drop, List.length_take]; rfl)) ?_
         with_reducible refine (clepsydralaw21_same.calls k2 _ _ t514 _ _ t523 true _ ?side1 ?side2 ?side3 ?side4 A41.out).mono ?_
         (case side1 => exact CD ((Kd.R_reads' HO516.out).2.2))
         (case side2 => exact (Kd.R_reads' HO516.out).2.1)
         (case side3 => exact CD ((Kd.R_reads' HO525.out).2.2))
         (case side4 => exact (Kd.R_reads' HO525.out).2.1)
         rintro e w' ⟨rfl, ⟨nd, rfl⟩⟩
         refine ⟨_, rfl, ?_⟩
         refine hK.out _ _ ⟨(blk_cell BK503.out 0).trans rfl, (blk_cell BK503.out 1).trans rfl, (blk_cell BK503.out 2).trans rfl, (blk_cell BK503.out 3).trans rfl, (blk_cell BK503.out 4).trans rfl, (blk_cell BK503.out 5).trans rfl, (blk_cell BK503.out 6).trans rfl, (blk_cell BK470.out 0).trans rfl, (blk_cell BK470.out 1).trans rfl, (blk_cell BK469.out 0).trans rfl, (blk_cell BK469.out 1).trans rfl, (blk_cell BK469.out 2).trans rfl, (blk_cell BK469.out 3).trans rfl, (blk_cell BK469.out 4).trans rfl, (blk_cell BK469.out 5).trans rfl, (blk_cell BK469.out 6).trans rfl, (blk_cell BK469.out 7).trans rfl, (blk_cell BK469.out 8).trans rfl, (blk_cell BK469.out 9).trans rfl⟩ (fun hHeld => ?_)
         clear hK K
         refine norm_ (a' := ?_) ?_ ?_
         rotate_left
         ·show Act.put _ (some 80) _ = _
          simp only [Act.put, s0_, s1_, s2_, i64_w, i32_w]
          rfl
         refine pure_ (i := 22) (N := some 81) (v := ?_) (a' := ?_) u18_46 rfl rfl (any_of HT_.out (by kernel_rfl)) (fun _ _ _ h => h) (Or.inl ⟨by rfl, ?_⟩) ?_ ?_
         rotate_left
         ·intro w'
          go_simp
          with_reducible rfl
         rotate_left
         ·simp only [Act.put, s0_, s1_, s2_, i64_w, i32_w]
          rfl
         refine pure_ (i := 23) (N := some 82) (v := ?_) (a' := ?_) u18_47 rfl rfl (any_of HT_.out (by kernel_rfl)) (fun _ _ _ h => h) (Or.inl ⟨by rfl, ?_⟩) ?_ ?_
         rotate_left
         ·intro w'
          go_simp
          with_reducible rfl
         rotate_left
         ·simp only [Act.put, s0_, s1_, s2_, i64_w, i32_w]
          rfl
         refine one_ (i := 24) (N := some 83) u18_48 rfl rfl (one_of HT_.out (by kernel_rfl)) (by decide) (fun K hK => ?_)
         refine goes_ Try.func13 (by kernel_rfl) rfl #[] (by rfl) rfl rfl (by (try simp only [List.map_toArray, List.map_cons, List.map_nil]); first | done | rfl | (simp only [List.length_drop, List.length_take]; rfl)) ?_
         with_reducible refine (clepsydralaw21_works.calls  t527 _ A43.out).mono ?_
         rintro e w75 ⟨rfl, hb⟩
         refine ⟨_, rfl, ?_⟩
         have n0_ := RB HO_11 hb
         have n1_ := RB HO_12 hb
         have n2_ := Aside0.mk (Kd.V_below (by (with_reducible repeat (first | apply Kd.V_alloc | apply Kd.V_drewN | apply Kd.V_drew)); exact HO484.out) hb)
         have n3_ := Aside0.mk (Kd.V_below (by (with_reducible repeat (first | apply Kd.V_alloc | apply Kd.V_drewN | apply Kd.V_drew)); exact HO487.out) hb)
         have n4_ := Aside0.mk (Kd.V_below (by (with_reducible repeat (first | apply Kd.V_alloc | apply Kd.V_drewN | apply Kd.V_drew)); exact HO490.out) hb)
         have n5_ := Aside0.mk (Kd.V_below (by (with_reducible repeat (first | apply Kd.V_alloc | apply Kd.V_drewN | apply Kd.V_drew)); exact HO493.out) hb)
         have n6_ := Aside0.mk (Kd.V_below (by (with_reducible repeat (first | apply Kd.V_alloc | apply Kd.V_drewN | apply Kd.V_drew)); exact HO496.out) hb)
         have n7_ := Aside0.mk (Kd.V_below (by (with_reducible repeat (first | apply Kd.V_alloc | apply Kd.V_drewN | apply Kd.V_drew)); exact HO499.out) hb)
         have n8_ := Aside0.mk (Kd.V_below (by (with_reducible repeat (first | apply Kd.V_alloc | apply Kd.V_drewN | apply Kd.V_drew)); exact HO502.out) hb)
         have n9_ := RB HO509 hb
         have n10_ := RB HO513 hb
         have n11_ := RB HO516 hb
         have n12_ := RB HO519 hb
         have n13_ := RB HO522 hb
         have n14_ := RB HO525 hb
         have n15_ := Aside0.mk (blk_below (g := gb469) (o := .cells #[.slice A0_0 l0_0.length c0_0, .slice A0_1 l0_1.length c0_1, .slice A0_2 l0_2.length c0_2, .slice A0_3 l0_3.length c0_3, .slice A0_4 l0_4.length c0_4, .slice A0_5 l0_5.length c0_5, .slice A0_6 l0_6.length c0_6, .slice A0_7 l0_7.length c0_7, .slice A0_8 l0_8.length c0_8, .slice A0_9 l0_9.length c0_9] 24 (0, 0)) (by (with_reducible repeat (first | refine blk_drewN ?_ _ | refine blk_drew ?_ | refine blk_alloc ?_ _)); exact BK469.out) hb)
         have n16_ := Aside0.mk (blk_below (g := gb470) (o := .cells #[.int .i64 a2_0, .int .u8 a2_1] 32 (0, 0)) (by (with_reducible repeat (first | refine blk_drewN ?_ _ | refine blk_drew ?_ | refine blk_alloc ?_ _)); exact BK470.out) hb)
         have n17_ := Aside0.mk (blk_below (g := gb503) (o := .cells #[.slice Ao49 t482.length co49, .slice Ao53 t485.length co53, .slice Ao54 t488.length co54, .slice Ao55 t491.length co55, .slice Ao56 t494.length co56, .slice Ao57 t497.length co57, .slice Ao58 t500.length co58] 38 (0, 0)) (by (with_reducible repeat (first | refine blk_drewN ?_ _ | refine blk_drew ?_ | refine blk_alloc ?_ _)); exact BK503.out) hb)
         have n18_ := Aside0.mk (below_step (by repeat (first | (with_reducible first | exact HB.out | apply below_alloc | apply pw_below_drewN | apply below_drew1 | refine below_set ?_ GE469.out | refine below_set ?_ GE470.out | refine below_set ?_ GE503.out) | exact HB.out)) hb)
         clear HO_11
         clear HO_12
         clear HO484
         clear HO487
         clear HO490
         clear HO493
         clear HO496
         clear HO499
         clear HO502
         clear HO509
         clear HO513
         clear HO516
         clear HO519
         clear HO522
         clear HO525
         clear BK469
         clear BK470
         clear BK503
         clear HB
         have HO_11 := n0_
         have HO_12 := n1_
         have HO484 := n2_
         have HO487 := n3_
         have HO490 := n4_
         have HO493 := n5_
         have HO496 := n6_
         have HO499 := n7_
         have HO502 := n8_
         have HO509 := n9_
         have HO513 := n10_
         have HO516 := n11_
         have HO519 := n12_
         have HO522 := n13_
         have HO525 := n14_
         have BK469 := n15_
         have BK470 := n16_
         have BK503 := n17_
         have HB := n18_
         clear n0_ n1_ n2_ n3_ n4_ n5_ n6_ n7_ n8_ n9_ n10_ n11_ n12_ n13_ n14_ n15_ n16_ n17_ n18_
         (try clear hb)
         (try clear hb2)
         (try clear hk)
         (try clear hi)
         refine hK.out _ _ ⟨(blk_cell BK503.out 0).trans rfl, (blk_cell BK503.out 1).trans rfl, (blk_cell BK503.out 2).trans rfl, (blk_cell BK503.out 3).trans rfl, (blk_cell BK503.out 4).trans rfl, (blk_cell BK503.out 5).trans rfl, (blk_cell BK503.out 6).trans rfl, (blk_cell BK470.out 0).trans rfl, (blk_cell BK470.out 1).trans rfl, (blk_cell BK469.out 0).trans rfl, (blk_cell BK469.out 1).trans rfl, (blk_cell BK469.out 2).trans rfl, (blk_cell BK469.out 3).trans rfl, (blk_cell BK469.out 4).trans rfl, (blk_cell BK469.out 5).trans rfl, (blk_cell BK469.out 6).trans rfl, (blk_cell BK469.out 7).trans rfl, (blk_cell BK469.out 8).trans rfl, (blk_cell BK469.out 9).trans rfl⟩ (fun hHeld => ?_)
         clear hK K
         refine norm_ (a' := ?_) ?_ ?_
         rotate_left
         ·show Act.put _ (some 83) _ = _
          simp only [Act.put, s0_, s1_, s2_, i64_w, i32_w]
          rfl
         refine pure_ (i := 25) (N := some 84) (v := ?_) (a' := ?_) u18_49 rfl rfl (any_of HT_.out (by kernel_rfl)) (fun _ _ _ h => h) (Or.inl ⟨by rfl, ?_⟩) ?_ ?_
         rotate_left
         ·intro w'
          go_simp
          with_reducible rfl
         rotate_left
         ·simp only [Act.put, s0_, s1_, s2_, i64_w, i32_w]
          rfl
         refine pure_ (i := 26) (N := some 10) (v := ?_) (a' := ?_) u18_50 rfl rfl (any_of HT_.out (by kernel_rfl)) (fun _ _ _ h => h) (Or.inl ⟨by rfl, ?_⟩) ?_ ?_
         rotate_left
         ·intro w'
          go_simp
          with_reducible rfl
         rotate_left
         ·simp only [Act.put, s0_, s1_, s2_, i64_w, i32_w]
          rfl
         refine done_ (done_of HT_.out (by kernel_rfl)) ?_
         try go_wp2
         go_ret
         exact ⟨by first | rfl | (simp [errW_none, errW_some] <;> rfl) | (simp [*, errW_none, errW_some] <;> rfl), by repeat (first | (with_reducible first | exact HB.out | apply below_alloc | apply pw_below_drewN | apply below_drew1 | refine below_set ?_ GE469.out | refine below_set ?_ GE470.out | refine below_set ?_ GE503.out) | exact HB.out)⟩
        ·replace c42 := Bool.eq_false_iff.mpr c42
         subst c42
         have H1 : (some false) = some r := by rw [if_neg (show ¬ (false = true) by decide)] at H; exact H
         clear H
         have H := H1
         clear H1
         exact absurd ((Option.some.inj H).trans hrt_.out) (by decide)
       ·replace c35 := Bool.eq_false_iff.mpr c35
        subst c35
        have H1 : (some false) = some r := by rw [if_neg (show ¬ (false = true) by decide)] at H; exact H
        clear H
        have H := H1
        clear H1
        exact absurd ((Option.some.inj H).trans hrt_.out) (by decide)
end Go.Proofs.Ytclgclcoblfddaa.P
