/- Printed by a program for this claim: functions of the program as plain functions, and that the machine computes them. -/
import Derived.Test.YtclgclcoblfddaaPx0
import Derived.Test.YtclgclcoblfddaaPShort
import Derived.Test.YtclgclcoblfddaaPx7
namespace Go.Proofs.Ytclgclcoblfddaa.P
open Go.RowKit Go.Proofs.YtclgclcoblfddaaW.PrintWords Go.Proofs.YtclgclcoblfddaaW.PrintLast Go.Proofs.YtclgclcoblfddaaW.PrintMore
attribute [local go_sem] max2_int min2_int max_two min_two max_three min_three max_four min_four   -- for this text's walks alone
set_option linter.unusedVariables false
set_option linter.unusedSimpArgs false
def u15_0 : Array Bool := #[false, false, false, false, false, false, false, false]
def u15_1 : Array Bool := #[false, true, false, false, false, false, false, false]
def u15_2 : Array Bool := #[false, true, true, false, false, false, false, false]
def u15_3 : Array Bool := #[false, true, true, true, false, false, false, false]
def u15_4 : Array Bool := #[false, true, true, true, true, false, false, false]
def u15_5 : Array Bool := #[true, true, true, true, true, false, false, false]
def u15_6 : Array Bool := #[true, true, true, true, true, true, false, false]
def u15_7 : Array Bool := #[true, true, true, true, true, true, true, false]
def u15_8 : Array Bool := #[true, true, true, true, true, true, true, true]
def u15_9 : Array Bool := #[false, false, false, false, false, false, false, false, false, false, false, false, false, false, false, false, false, false, false, false, false, false, false, false]
def u15_10 : Array Bool := #[true, false, false, false, false, false, false, false, false, false, false, false, false, false, false, false, false, false, false, false, false, false, false, false]
def u15_11 : Array Bool := #[true, true, false, false, false, false, false, false, false, false, false, false, false, false, false, false, false, false, false, false, false, false, false, false]
def u15_12 : Array Bool := #[true, true, true, false, false, false, false, false, false, false, false, false, false, false, false, false, false, false, false, false, false, false, false, false]
def u15_13 : Array Bool := #[true, true, true, true, false, false, false, false, false, false, false, false, false, false, false, false, false, false, false, false, false, false, false, false]
def u15_14 : Array Bool := #[true, true, true, true, false, true, false, false, false, false, false, false, false, false, false, false, false, false, false, false, false, false, false, false]
def u15_15 : Array Bool := #[true, true, true, true, false, true, true, false, false, false, false, false, false, false, false, false, false, false, false, false, false, false, false, false]
def u15_16 : Array Bool := #[true, true, true, true, false, true, true, true, false, false, false, false, false, false, false, false, false, false, false, false, false, false, false, false]
def u15_17 : Array Bool := #[true, true, true, true, false, true, true, true, true, false, false, false, false, false, false, false, false, false, false, false, false, false, false, false]
def u15_18 : Array Bool := #[true, true, true, true, true, true, true, true, true, false, false, false, false, false, false, false, false, false, false, false, false, false, false, false]
def u15_19 : Array Bool := #[true, true, true, true, true, true, true, true, true, true, false, false, false, false, false, false, false, false, false, false, false, false, false, false]
def u15_20 : Array Bool := #[true, true, true, true, true, true, true, true, true, true, true, false, false, false, false, false, false, false, false, false, false, false, false, false]
def u15_21 : Array Bool := #[true, true, true, true, true, true, true, true, true, true, true, true, false, false, false, false, false, false, false, false, false, false, false, false]
def u15_22 : Array Bool := #[true, true, true, true, true, true, true, true, true, true, true, true, true, false, false, false, false, false, false, false, false, false, false, false]
def u15_23 : Array Bool := #[true, true, true, true, true, true, true, true, true, true, true, true, true, true, false, false, false, false, false, false, false, false, false, false]
def u15_24 : Array Bool := #[true, true, true, true, true, true, true, true, true, true, true, true, true, true, true, false, false, false, false, false, false, false, false, false]
def u15_25 : Array Bool := #[true, true, true, true, true, true, true, true, true, true, true, true, true, true, true, true, false, false, false, false, false, false, false, false]
def u15_26 : Array Bool := #[true, true, true, true, true, true, true, true, true, true, true, true, true, true, true, true, false, true, false, false, false, false, false, false]
def u15_27 : Array Bool := #[true, true, true, true, true, true, true, true, true, true, true, true, true, true, true, true, false, true, true, false, false, false, false, false]
def u15_28 : Array Bool := #[true, true, true, true, true, true, true, true, true, true, true, true, true, true, true, true, false, true, true, true, false, false, false, false]
def u15_29 : Array Bool := #[true, true, true, true, true, true, true, true, true, true, true, true, true, true, true, true, false, true, true, true, true, false, false, false]
def u15_30 : Array Bool := #[true, true, true, true, true, true, true, true, true, true, true, true, true, true, true, true, true, true, true, true, true, false, false, false]
def u15_31 : Array Bool := #[true, true, true, true, true, true, true, true, true, true, true, true, true, true, true, true, true, true, true, true, true, true, false, false]
def u15_32 : Array Bool := #[true, true, true, true, true, true, true, true, true, true, true, true, true, true, true, true, true, true, true, true, true, true, true, false]
def u15_33 : Array Bool := #[true, true, true, true, true, true, true, true, true, true, true, true, true, true, true, true, true, true, true, true, true, true, true, true]
def u15_34 : Array Bool := #[true, true, true, true, true, true, true, true, true, true, true, true, true, true, true, true, true, false, false, false, false, false, false, false]
def u15_35 : Array Bool := #[true, true, true, true, true, true, true, true, true, true, true, true, true, true, true, true, true, true, false, false, false, false, false, false]
def u15_36 : Array Bool := #[true, true, true, true, true, true, true, true, true, true, true, true, true, true, true, true, true, true, true, false, false, false, false, false]
def u15_37 : Array Bool := #[true, true, true, true, true, true, true, true, true, true, true, true, true, true, true, true, true, true, true, true, false, false, false, false]

/-! ### clepsydraref21_Closed: function 23 -/
mutual
def clepsydraref21_Closed.l0 : Nat → List Bool → List (S44) → Int → List (List Int) → List (List Int) → List (List Int) → List (List Int) → List (List Int) → List (List Int) → List (List Int) → Option (Bool)
 | 0, _, _, _, _, _, _, _, _, _, _ => none
 | k + 1, x1, x2, x7, x420000, x420001, x420002, x420003, x420004, x420005, x420006 => if x7 < (x2.length : Int) then (if 0 ≤ x7 then ((clepsydraref21_Pulls.f k x420000 x420001 x420002 x420003 x420004 x420005 x420006 x1 ((rd_T44 x2 x7).f0) ((rd_T44 x2 x7).f1) ((rd_T44 x2 x7).f2)).bind fun t421 => (clepsydraref21_Closed.l1 k x1 x2 x7 t421 0 x420000 x420001 x420002 x420003 x420004 x420005 x420006)) else (none)) else (some true)
def clepsydraref21_Closed.l1 : Nat → List Bool → List (S44) → Int → List (S44) → Int → List (List Int) → List (List Int) → List (List Int) → List (List Int) → List (List Int) → List (List Int) → List (List Int) → Option (Bool)
 | 0, _, _, _, _, _, _, _, _, _, _, _, _ => none
 | k + 1, x1, x2, x7, x8, x9, x420000, x420001, x420002, x420003, x420004, x420005, x420006 => if x9 < (x8.length : Int) then (if 0 ≤ x9 then (if ((rd_T44 x8 x9).f2 = true) then (clepsydraref21_Closed.l2 k x1 x2 x7 x8 x9 false false 0 x420000 x420001 x420002 x420003 x420004 x420005 x420006) else (clepsydraref21_Closed.l1 k x1 x2 x7 x8 (wrap64 (x9 + 1)) x420000 x420001 x420002 x420003 x420004 x420005 x420006)) else (none)) else (clepsydraref21_Closed.l0 k x1 x2 (wrap64 (x7 + 1)) x420000 x420001 x420002 x420003 x420004 x420005 x420006)
def clepsydraref21_Closed.l2 : Nat → List Bool → List (S44) → Int → List (S44) → Int → Bool → Bool → Int → List (List Int) → List (List Int) → List (List Int) → List (List Int) → List (List Int) → List (List Int) → List (List Int) → Option (Bool)
 | 0, _, _, _, _, _, _, _, _, _, _, _, _, _, _, _ => none
 | k + 1, x1, x2, x7, x8, x9, x10, x11, x12, x420000, x420001, x420002, x420003, x420004, x420005, x420006 => if x12 < (x2.length : Int) then (if 0 ≤ x12 then (if 0 ≤ x9 then (if x9 < (x8.length : Int) then (if ((rd_T44 x2 x12).f0) = ((rd_T44 x8 x9).f0) then (if ((rd_T44 x2 x12).f1) = ((rd_T44 x8 x9).f1) then (if x11 = true then (clepsydraref21_Closed.l2 k x1 x2 x7 x8 x9 true true (wrap64 (x12 + 1)) x420000 x420001 x420002 x420003 x420004 x420005 x420006) else (clepsydraref21_Closed.l2 k x1 x2 x7 x8 x9 true ((rd_T44 x2 x12).f2) (wrap64 (x12 + 1)) x420000 x420001 x420002 x420003 x420004 x420005 x420006)) else (clepsydraref21_Closed.l2 k x1 x2 x7 x8 x9 x10 x11 (wrap64 (x12 + 1)) x420000 x420001 x420002 x420003 x420004 x420005 x420006)) else (clepsydraref21_Closed.l2 k x1 x2 x7 x8 x9 x10 x11 (wrap64 (x12 + 1)) x420000 x420001 x420002 x420003 x420004 x420005 x420006)) else (none)) else (none)) else (none)) else (if x10 = true then (if 0 ≤ x7 then (if x7 < (x2.length : Int) then (if (rd_T44 x2 x7).f2 = true then (if x11 = true then (clepsydraref21_Closed.l1 k x1 x2 x7 x8 (wrap64 (x9 + 1)) x420000 x420001 x420002 x420003 x420004 x420005 x420006) else (some false)) else (clepsydraref21_Closed.l1 k x1 x2 x7 x8 (wrap64 (x9 + 1)) x420000 x420001 x420002 x420003 x420004 x420005 x420006)) else (none)) else (none)) else (some false))
end
def clepsydraref21_Closed.f (k : Nat) (l0_0 : List (List Int)) (l0_1 : List (List Int)) (l0_2 : List (List Int)) (l0_3 : List (List Int)) (l0_4 : List (List Int)) (l0_5 : List (List Int)) (l0_6 : List (List Int)) (l1 : List Bool) (l2 : List (S44)) : Option (Bool) := clepsydraref21_Closed.l0 k l1 l2 0 l0_0 l0_1 l0_2 l0_3 l0_4 l0_5 l0_6
def clepsydraref21_Closed.T4 : Bool × List (List Nat × List Nat) := (true, [([], []), ([], []), ([], []), ([], []), ([2, 3], [2, 3]), ([4], [4]), ([0, 1, 5], [0, 1, 5]), ([6, 6, 0, 1, 2, 3, 4, 5, 6], [6])])
def clepsydraref21_Closed.B4 : List Nat := [0, 0, 0, 0, 12, 28, 63, 127]
theorem clepsydraref21_Closed.tab4 : rtab .any (opsOf Try.f23 4) = clepsydraref21_Closed.T4 := by kernel_rfl
theorem clepsydraref21_Closed.bits4 : waitsOk clepsydraref21_Closed.T4.2 clepsydraref21_Closed.B4 = true := by kernel_rfl
def clepsydraref21_Closed.T13 : Bool × List (List Nat × List Nat) := (true, [([], []), ([], []), ([0, 1], [0, 1]), ([2], [2]), ([3], [3]), ([], []), ([], []), ([5, 6], [5, 6]), ([7], [7]), ([8], [8]), ([4, 9], [4, 9]), ([10], [10]), ([11], [11]), ([11], [11]), ([12, 13, 11], [11, 12, 13]), ([14, 11], [11, 14]), ([15, 11], [11, 15]), ([11], [11]), ([11], [11]), ([17, 18, 11], [11, 17, 18]), ([19, 11], [11, 19]), ([20, 11], [11, 20]), ([16, 21, 11], [11, 16, 21]), ([11, 22], [11, 22])])
def clepsydraref21_Closed.B13 : List Nat := [0, 0, 3, 7, 15, 0, 0, 96, 224, 480, 1023, 2047, 4095, 4095, 16383, 32767, 65535, 4095, 4095, 397311, 921599, 1970175, 4194303, 8388607]
theorem clepsydraref21_Closed.tab13 : rtab .any (opsOf Try.f23 13) = clepsydraref21_Closed.T13 := by kernel_rfl
theorem clepsydraref21_Closed.bits13 : waitsOk clepsydraref21_Closed.T13.2 clepsydraref21_Closed.B13 = true := by kernel_rfl
set_option maxHeartbeats 8000000 in
set_option maxRecDepth 100000 in
theorem clepsydraref21_Closed.calls (k : Nat) (A0_0 : Option Addr) (c0_0 : Nat) (l0_0 : List (List Int)) (A0_1 : Option Addr) (c0_1 : Nat) (l0_1 : List (List Int)) (A0_2 : Option Addr) (c0_2 : Nat) (l0_2 : List (List Int)) (A0_3 : Option Addr) (c0_3 : Nat) (l0_3 : List (List Int)) (A0_4 : Option Addr) (c0_4 : Nat) (l0_4 : List (List Int)) (A0_5 : Option Addr) (c0_5 : Nat) (l0_5 : List (List Int)) (A0_6 : Option Addr) (c0_6 : Nat) (l0_6 : List (List Int)) (A1 : Option Addr) (c1 : Nat) (l1 : List Bool) (A2 : Option Addr) (c2 : Nat) (l2 : List (S44)) (r : Bool) (w : World) (hr0_0 : Kd.C (Kd.slice 3 (Kd.int .i64)) w A0_0 l0_0.length l0_0) (hc0_0 : l0_0.length ≤ c0_0) (hr0_1 : Kd.C (Kd.slice 3 (Kd.int .i64)) w A0_1 l0_1.length l0_1) (hc0_1 : l0_1.length ≤ c0_1) (hr0_2 : Kd.C (Kd.slice 3 (Kd.int .i64)) w A0_2 l0_2.length l0_2) (hc0_2 : l0_2.length ≤ c0_2) (hr0_3 : Kd.C (Kd.slice 3 (Kd.int .i64)) w A0_3 l0_3.length l0_3) (hc0_3 : l0_3.length ≤ c0_3) (hr0_4 : Kd.C (Kd.slice 3 (Kd.int .i64)) w A0_4 l0_4.length l0_4) (hc0_4 : l0_4.length ≤ c0_4) (hr0_5 : Kd.C (Kd.slice 3 (Kd.int .i64)) w A0_5 l0_5.length l0_5) (hc0_5 : l0_5.length ≤ c0_5) (hr0_6 : Kd.C (Kd.slice 3 (Kd.int .i64)) w A0_6 l0_6.length l0_6) (hc0_6 : l0_6.length ≤ c0_6) (hr1 : Kd.C Kd.bool w A1 l1.length l1) (hc1 : l1.length ≤ c1) (hr2 : Kd.C k44 w A2 l2.length l2) (hc2 : l2.length ≤ c2) (h : clepsydraref21_Closed.f k l0_0 l0_1 l0_2 l0_3 l0_4 l0_5 l0_6 l1 l2 = some r) :
  Calls Try.prog 23 #[.agg #[.slice A0_0 l0_0.length c0_0, .slice A0_1 l0_1.length c0_1, .slice A0_2 l0_2.length c0_2, .slice A0_3 l0_3.length c0_3, .slice A0_4 l0_4.length c0_4, .slice A0_5 l0_5.length c0_5, .slice A0_6 l0_6.length c0_6], .slice A1 l1.length c1, .slice A2 l2.length c2] w fun e w' => e = .returned (.bool r) ∧ Below w.heap.size w w' := by
 have hu38 := Try.underlying38
 have hu44 := Try.underlying44
 have HR0_0 := Aside0.mk hr0_0
 have HC0_0 := Aside0.mk hc0_0
 clear hr0_0 hc0_0
 have HR0_1 := Aside0.mk hr0_1
 have HC0_1 := Aside0.mk hc0_1
 clear hr0_1 hc0_1
 have HR0_2 := Aside0.mk hr0_2
 have HC0_2 := Aside0.mk hc0_2
 clear hr0_2 hc0_2
 have HR0_3 := Aside0.mk hr0_3
 have HC0_3 := Aside0.mk hc0_3
 clear hr0_3 hc0_3
 have HR0_4 := Aside0.mk hr0_4
 have HC0_4 := Aside0.mk hc0_4
 clear hr0_4 hc0_4
 have HR0_5 := Aside0.mk hr0_5
 have HC0_5 := Aside0.mk hc0_5
 clear hr0_5 hc0_5
 have HR0_6 := Aside0.mk hr0_6
 have HC0_6 := Aside0.mk hc0_6
 clear hr0_6 hc0_6
 have HR1 := Aside0.mk hr1
 have HC1 := Aside0.mk hc1
 clear hr1 hc1
 have HR2 := Aside0.mk hr2
 have HC2 := Aside0.mk hc2
 clear hr2 hc2
 have HB := Aside0.mk (Below.refl w.heap.size w)
 have H : (clepsydraref21_Closed.l0 k l1 l2 0 l0_0 l0_1 l0_2 l0_3 l0_4 l0_5 l0_6) = some r := h
 clear h
 have H' := Aside0.mk H
 clear H
 go_enter Try.func23, Try.ntmps23
 go_wp2_with (first | ((with_reducible refine gate_dst (N := 3) rfl ?_); refine box_event ?hg (N := 3) ?hd (cs := #[.slice A0_0 l0_0.length c0_0, .slice A0_1 l0_1.length c0_1, .slice A0_2 l0_2.length c0_2, .slice A0_3 l0_3.length c0_3, .slice A0_4 l0_4.length c0_4, .slice A0_5 l0_5.length c0_5, .slice A0_6 l0_6.length c0_6]) (t := 38) ?hr ?_; (case hd => rfl); (case hg => rfl); (case hr => first | (go_simp; done) | (go_simp; rfl)); intro gb419 hg w4 hbox hb; have n0_ := BS HB hb; have n1_ := Aside0.mk (hbox); have n2_ := Aside0.mk ((by rw [hg]; exact (below_size (BD HB)) : w.heap.size ≤ gb419)); have n3_ := Aside0.mk ((by rw [hg]; exact (below_size (BD HB)) : w.heap.size ≤ gb419)); clear HB; have HB := n0_; have BK419 := n1_; have GW419 := n2_; have GE419 := n3_; clear n0_ n1_ n2_ n3_; clear hb hbox hg))
 go_loopg [7] k (fun kq v7 w' => ∃ (x7_1 : Int), v7 = .int .i64 x7_1 ∧ Aside0 (clepsydraref21_Closed.l0 kq l1 l2 x7_1 l0_0 l0_1 l0_2 l0_3 l0_4 l0_5 l0_6 = some r) ∧ Aside0 (kq ≤ k) ∧ Aside0 (w'.heap[gb419]? = some (.cells #[(.slice A0_0 l0_0.length c0_0), (.slice A0_1 l0_1.length c0_1), (.slice A0_2 l0_2.length c0_2), (.slice A0_3 l0_3.length c0_3), (.slice A0_4 l0_4.length c0_4), (.slice A0_5 l0_5.length c0_5), (.slice A0_6 l0_6.length c0_6)] 38 (0, 0))) ∧ Aside0 (Below w.heap.size w w'))
 case atStart => exact ⟨(0), (by first | rfl | (simp; done) | (simp [*]; done)), H', ⟨Nat.le_refl _⟩, ⟨by (with_reducible repeat (first | refine blk_drewN ?_ _ | refine blk_drew ?_ | refine blk_alloc ?_ _)); exact BK419.out⟩, ⟨by repeat (first | (with_reducible first | exact HB.out | apply below_alloc | apply pw_below_drewN | apply below_drew1 | refine below_set ?_ GE419.out) | exact HB.out)⟩⟩
 case round =>
  clear H'
  try clear c1
  try clear c2
  try clear p2
  obtain ⟨x7_1, rfl, HA, HK1, BK419, HB⟩ := hrel
  cases gk with
  | zero => exact absurd HA.out (by simp [clepsydraref21_Closed.l0])
  | succ k1 =>
   have H := HA.out
   clear HA
   simp only [clepsydraref21_Closed.l0] at H
   by_cases c5 : x7_1 < (l2.length : Int)
   ·rw [if_pos c5] at H
    have c5b0 : decide (x7_1 < (l2.length : Int)) = true := decide_eq_true c5
    clear c5
    by_cases c6 : 0 ≤ x7_1
    ·rw [if_pos c6] at H
     have c6b0 : decide (0 ≤ x7_1) = true := decide_eq_true c6
     clear c6
     replace H := Option.bind_eq_some_iff.mp H
     obtain ⟨t421, A70, H⟩ := H
     replace H : (clepsydraref21_Closed.l1 k1 l1 l2 x7_1 t421 0 l0_0 l0_1 l0_2 l0_3 l0_4 l0_5 l0_6) = some r := H
     have A7 := Aside0.mk A70
     clear A70
     have H' := Aside0.mk H
     clear H
     try go_wp2
     have n0_ := Aside0.mk (blk_drew BK419.out)
     have n1_ := Aside0.mk (below_drew1 HB.out)
     clear BK419
     clear HB
     have BK419 := n0_
     have HB := n1_
     clear n0_ n1_
     have p420 : 0 ≤ (x7_1 : Int) := of_decide_eq_true (by first | (with_reducible assumption) | assumption)
     have q420 : x7_1 < (l2.length : Int) := of_decide_eq_true (by first | (with_reducible assumption) | assumption)
     obtain ⟨ad420, e420, hx420_0, hx420_1, hx420_2⟩ := at_T44 HR2.out x7_1 p420 q420
     have hw420_2 := hx420_2
     have hw420_1 := hx420_1
     have hw420_0 := hx420_0
     cases e420
     replace hx420_0 := (HB.out.cell (World.block_lt_of_cell? w _ hx420_0)).trans hx420_0
     replace hx420_1 := (HB.out.cell (World.block_lt_of_cell? w _ hx420_1)).trans hx420_1
     replace hx420_2 := (HB.out.cell (World.block_lt_of_cell? w _ hx420_2)).trans hx420_2
     replace p420 := eq_true p420
     replace q420 := eq_true q420
     refine start_ (n := 8) (S := fun w' => w'.cell? ⟨gb419, 0, none⟩ = some (.slice A0_0 l0_0.length c0_0) ∧ w'.cell? ⟨gb419, 1, none⟩ = some (.slice A0_1 l0_1.length c0_1) ∧ w'.cell? ⟨gb419, 2, none⟩ = some (.slice A0_2 l0_2.length c0_2) ∧ w'.cell? ⟨gb419, 3, none⟩ = some (.slice A0_3 l0_3.length c0_3) ∧ w'.cell? ⟨gb419, 4, none⟩ = some (.slice A0_4 l0_4.length c0_4) ∧ w'.cell? ⟨gb419, 5, none⟩ = some (.slice A0_5 l0_5.length c0_5) ∧ w'.cell? ⟨gb419, 6, none⟩ = some (.slice A0_6 l0_6.length c0_6) ∧ w'.cell? (ad420.add ((x7_1).toNat * 3)) = some (.int .i64 ((rd_T44 l2 x7_1).f0)) ∧ w'.cell? ⟨(ad420.add ((x7_1).toNat * 3)).block, (ad420.add ((x7_1).toNat * 3)).off + 1, none⟩ = some (.int .u8 ((rd_T44 l2 x7_1).f1)) ∧ w'.cell? ⟨(ad420.add ((x7_1).toNat * 3)).block, (ad420.add ((x7_1).toNat * 3)).off + 2, none⟩ = some (.bool ((rd_T44 l2 x7_1).f2))) (ds := []) u15_0 (by kernel_rfl) rfl rfl ⟨(blk_cell BK419.out 0).trans rfl, (blk_cell BK419.out 1).trans rfl, (blk_cell BK419.out 2).trans rfl, (blk_cell BK419.out 3).trans rfl, (blk_cell BK419.out 4).trans rfl, (blk_cell BK419.out 5).trans rfl, (blk_cell BK419.out 6).trans rfl, ((HB.out.cell (World.block_lt_of_cell? w _ hw420_0)).trans hw420_0), ((HB.out.cell (World.block_lt_of_cell? w _ hw420_1)).trans hw420_1), ((HB.out.cell (World.block_lt_of_cell? w _ hw420_2)).trans hw420_2)⟩ (fun hHeld => ?_); refine with_tabW clepsydraref21_Closed.tab4 clepsydraref21_Closed.bits4 (fun HT_ HW_ => ?_)
     generalize wr.drew = w8 at BK419 HB hx420_0 hx420_1 hx420_2 hHeld ⊢
     refine pure_ (i := 1) (N := some 20) (v := ?_) (a' := ?_) u15_1 rfl rfl (any_of HT_.out (by kernel_rfl)) (fun _ _ _ h => h) (Or.inl ⟨by rfl, ?_⟩) ?_ ?_
     rotate_left
     ·intro w'
      go_simp
      with_reducible rfl
     rotate_left
     ·simp only [Act.put, s0_, s1_, s2_, i64_w, i32_w]
      rfl
     refine pure_ (i := 2) (N := some 21) (v := ?_) (a' := ?_) u15_2 rfl rfl (any_of HT_.out (by kernel_rfl)) (fun _ _ _ h => h) (Or.inl ⟨by rfl, ?_⟩) ?_ ?_
     rotate_left
     ·intro w'
      go_simp
      with_reducible rfl
     rotate_left
     ·simp only [Act.put, s0_, s1_, s2_, i64_w, i32_w]
      rfl
     refine pure_ (i := 3) (N := some 22) (v := ?_) (a' := ?_) u15_3 rfl rfl (any_of HT_.out (by kernel_rfl)) (fun _ _ _ h => h) (Or.inl ⟨by rfl, ?_⟩) ?_ ?_
     rotate_left
     ·intro w'
      go_simp
      with_reducible rfl
     rotate_left
     ·simp only [Act.put, s0_, s1_, s2_, i64_w, i32_w]
      rfl
     refine pure_ (i := 4) (N := some 23) (v := ?_) (a' := ?_) u15_4 rfl rfl (any_of HT_.out (by kernel_rfl)) (fun _ _ _ h => h) (Or.inl ⟨by rfl, ?_⟩) ?_ ?_
     rotate_left
     ·intro w'
      go_simp
      with_reducible rfl
     rotate_left
     ·simp only [Act.put, s0_, s1_, s2_, i64_w, i32_w]
      rfl
     refine take_ (i := 0) (N := some 19) (v := ?_) (a' := ?_) u15_5 rfl rfl (take_ofW HT_.out HW_.out (by kernel_rfl)) (fun _ _ _ h => h) (Or.inl ⟨by rfl, ?_⟩) hHeld ?_ ?_
     rotate_left
     ·rintro w' ⟨s0, s1, s2, s3, s4, s5, s6, s7, s8, s9⟩
      go_simp
      with_reducible rfl
     rotate_left
     ·simp only [Act.put, s0_, s1_, s2_, i64_w, i32_w]
      rfl
     refine take_ (i := 5) (N := some 24) (v := ?_) (a' := ?_) u15_6 rfl rfl (take_ofW HT_.out HW_.out (by kernel_rfl)) (fun _ _ _ h => h) (Or.inl ⟨by rfl, ?_⟩) hHeld ?_ ?_
     rotate_left
     ·rintro w' ⟨s0, s1, s2, s3, s4, s5, s6, s7, s8, s9⟩
      go_simp
      with_reducible rfl
     rotate_left
     ·simp only [Act.put, s0_, s1_, s2_, i64_w, i32_w]
      rfl
     refine one_ (i := 6) (N := some 25) u15_7 rfl rfl (one_of HT_.out (by kernel_rfl)) (by decide) (fun K hK => ?_)
     refine goes_ Try.func25 (by kernel_rfl) rfl #[.agg #[.slice A0_0 l0_0.length c0_0, .slice A0_1 l0_1.length c0_1, .slice A0_2 l0_2.length c0_2, .slice A0_3 l0_3.length c0_3, .slice A0_4 l0_4.length c0_4, .slice A0_5 l0_5.length c0_5, .slice A0_6 l0_6.length c0_6], .slice A1 l1.length c1, .agg #[.int .i64 ((rd_T44 l2 x7_1).f0), .int .u8 ((rd_T44 l2 x7_1).f1), .bool ((rd_T44 l2 x7_1).f2)]] (by rfl) rfl rfl (by (try simp only [List.map_toArray, List.map_cons, List.map_nil]); first | done | rfl | (simp only [List.length_drop, List.length_take]; rfl)) ?_
     with_reducible refine (clepsydraref21_Pulls.calls k1 _ _ l0_0 _ _ l0_1 _ _ l0_2 _ _ l0_3 _ _ l0_4 _ _ l0_5 _ _ l0_6 _ _ l1 ((rd_T44 l2 x7_1).f0) ((rd_T44 l2 x7_1).f1) ((rd_T44 l2 x7_1).f2) t421 _ ?side1 ?side2 ?side3 ?side4 ?side5 ?side6 ?side7 ?side8 ?side9 ?side10 ?side11 ?side12 ?side13 ?side14 ?side15 ?side16 A7.out).mono ?_
     (case side1 => exact CD ((Kd.C_below HR0_0.out HB.out)))
     (case side2 => exact HC0_0.out)
     (case side3 => exact CD ((Kd.C_below HR0_1.out HB.out)))
     (case side4 => exact HC0_1.out)
     (case side5 => exact CD ((Kd.C_below HR0_2.out HB.out)))
     (case side6 => exact HC0_2.out)
     (case side7 => exact CD ((Kd.C_below HR0_3.out HB.out)))
     (case side8 => exact HC0_3.out)
     (case side9 => exact CD ((Kd.C_below HR0_4.out HB.out)))
     (case side10 => exact HC0_4.out)
     (case side11 => exact CD ((Kd.C_below HR0_5.out HB.out)))
     (case side12 => exact HC0_5.out)
     (case side13 => exact CD ((Kd.C_below HR0_6.out HB.out)))
     (case side14 => exact HC0_6.out)
     (case side15 => exact CD ((Kd.C_below HR1.out HB.out)))
     (case side16 => exact HC1.out)
     rintro e w9 ⟨v422, rfl, ho0, hb⟩
     refine ⟨_, rfl, ?_⟩
     have n0_ := Aside0.mk (Kd.R_lower ho0 (below_size (by repeat (first | (with_reducible first | exact HB.out | apply below_alloc | apply pw_below_drewN | apply below_drew1 | refine below_set ?_ GE419.out) | exact HB.out))))
     have n1_ := Aside0.mk (blk_below (g := gb419) (o := .cells #[.slice A0_0 l0_0.length c0_0, .slice A0_1 l0_1.length c0_1, .slice A0_2 l0_2.length c0_2, .slice A0_3 l0_3.length c0_3, .slice A0_4 l0_4.length c0_4, .slice A0_5 l0_5.length c0_5, .slice A0_6 l0_6.length c0_6] 38 (0, 0)) (by (with_reducible repeat (first | refine blk_drewN ?_ _ | refine blk_drew ?_ | refine blk_alloc ?_ _)); exact BK419.out) hb)
     have n2_ := Aside0.mk (below_step (by repeat (first | (with_reducible first | exact HB.out | apply below_alloc | apply pw_below_drewN | apply below_drew1 | refine below_set ?_ GE419.out) | exact HB.out)) hb)
     clear BK419
     clear HB
     have HO423 := n0_
     have BK419 := n1_
     have HB := n2_
     clear n0_ n1_ n2_
     (try clear hb)
     (try clear hb2)
     (try clear hk)
     (try clear hi)
     (try clear ho0)
     refine hK.out _ _ ⟨(blk_cell BK419.out 0).trans rfl, (blk_cell BK419.out 1).trans rfl, (blk_cell BK419.out 2).trans rfl, (blk_cell BK419.out 3).trans rfl, (blk_cell BK419.out 4).trans rfl, (blk_cell BK419.out 5).trans rfl, (blk_cell BK419.out 6).trans rfl, ((HB.out.cell (World.block_lt_of_cell? w _ hw420_0)).trans hw420_0), ((HB.out.cell (World.block_lt_of_cell? w _ hw420_1)).trans hw420_1), ((HB.out.cell (World.block_lt_of_cell? w _ hw420_2)).trans hw420_2)⟩ (fun hHeld => ?_)
     clear hK K
     refine norm_ (a' := ?_) ?_ ?_
     rotate_left
     ·show Act.put _ (some 25) _ = _
      simp only [Act.put, s0_, s1_, s2_, i64_w, i32_w]
      rfl
     refine pure_ (i := 7) (N := some 8) (v := ?_) (a' := ?_) u15_8 rfl rfl (any_of HT_.out (by kernel_rfl)) (fun _ _ _ h => h) (Or.inl ⟨by rfl, ?_⟩) ?_ ?_
     rotate_left
     ·intro w'
      go_simp
      with_reducible rfl
     rotate_left
     ·simp only [Act.put, s0_, s1_, s2_, i64_w, i32_w]
      rfl
     refine done_ (done_of HT_.out (by kernel_rfl)) ?_
     try go_wp2
     go_loopg [9] k1 (fun kq v9 w' => ∃ (x9_2 : Int), v9 = .int .i64 x9_2 ∧ Aside0 (clepsydraref21_Closed.l1 kq l1 l2 x7_1 t421 x9_2 l0_0 l0_1 l0_2 l0_3 l0_4 l0_5 l0_6 = some r) ∧ Aside0 (kq ≤ k1) ∧ Aside0 (Kd.R k44 44 w' w.heap.size (fun _ => True) v422 t421) ∧ Aside0 (w'.heap[gb419]? = some (.cells #[(.slice A0_0 l0_0.length c0_0), (.slice A0_1 l0_1.length c0_1), (.slice A0_2 l0_2.length c0_2), (.slice A0_3 l0_3.length c0_3), (.slice A0_4 l0_4.length c0_4), (.slice A0_5 l0_5.length c0_5), (.slice A0_6 l0_6.length c0_6)] 38 (0, 0))) ∧ Aside0 (Below w.heap.size w w'))
     case atStart => exact ⟨(0), (by first | rfl | (simp; done) | (simp [*]; done)), H', ⟨Nat.le_refl _⟩, ⟨RD HO423⟩, ⟨by (with_reducible repeat (first | refine blk_drewN ?_ _ | refine blk_drew ?_ | refine blk_alloc ?_ _)); exact BK419.out⟩, ⟨by repeat (first | (with_reducible first | exact HB.out | apply below_alloc | apply pw_below_drewN | apply below_drew1 | refine below_set ?_ GE419.out) | exact HB.out)⟩⟩
     case round =>
      clear H'
      try clear c1
      try clear c2
      try clear p2
      try clear p4
      try clear q4
      try clear hx4
      try clear c5
      try clear c5b0
      try clear c6
      try clear c6b0
      try clear hx420_0
      try clear hx420_1
      try clear hx420_2
      try clear p2
      try clear p420
      try clear q420
      obtain ⟨x9_2, rfl, HA, HK2, HO_8, BK419, HB⟩ := hrel
      cases gk with
      | zero => exact absurd HA.out (by simp [clepsydraref21_Closed.l1])
      | succ k2 =>
       have H := HA.out
       clear HA
       simp only [clepsydraref21_Closed.l1] at H
       by_cases c10 : x9_2 < (t421.length : Int)
       ·rw [if_pos c10] at H
        have c10b0 : decide (x9_2 < (t421.length : Int)) = true := decide_eq_true c10
        clear c10
        by_cases c11 : 0 ≤ x9_2
        ·rw [if_pos c11] at H
         have c11b0 : decide (0 ≤ x9_2) = true := decide_eq_true c11
         clear c11
         obtain ⟨bq12, hbq12⟩ : ∃ b_ : Bool, b_ = ((rd_T44 t421 x9_2).f2) := ⟨_, rfl⟩
         replace H : (if (bq12 = true) then (clepsydraref21_Closed.l2 k2 l1 l2 x7_1 t421 x9_2 false false 0 l0_0 l0_1 l0_2 l0_3 l0_4 l0_5 l0_6) else (clepsydraref21_Closed.l1 k2 l1 l2 x7_1 t421 (wrap64 (x9_2 + 1)) l0_0 l0_1 l0_2 l0_3 l0_4 l0_5 l0_6)) = some r := by rw [← hbq12] at H; exact H
         have Nbq12 := Aside0.mk hbq12
         clear hbq12
         by_cases c13 : (bq12 = true)
         ·subst c13
          have H1 : (clepsydraref21_Closed.l2 k2 l1 l2 x7_1 t421 x9_2 false false 0 l0_0 l0_1 l0_2 l0_3 l0_4 l0_5 l0_6) = some r := by rw [if_pos rfl] at H; exact H
          clear H
          have H := H1
          clear H1
          have H' := Aside0.mk H
          clear H
          obtain ⟨Ao14, co14, eo14⟩ := Kd.R_slice HO_8.out
          subst eo14
          have p424 : 0 ≤ (x9_2 : Int) := of_decide_eq_true (by first | (with_reducible assumption) | assumption)
          have q424 : x9_2 < (t421.length : Int) := of_decide_eq_true (by first | (with_reducible assumption) | assumption)
          obtain ⟨ad424, e424, hx424_0, hx424_1, hx424_2⟩ := at_T44 (Kd.R_reads' HO_8.out).2.2 x9_2 p424 q424
          (try rw [← Nbq12.out] at hx424_2)
          cases e424
          replace p424 := eq_true p424
          replace q424 := eq_true q424
          go_wp2
          go_loopg [10, 11, 12] k2 (fun kq v10 v11 v12 w' => ∃ (x10_3 : Bool) (x11_3 : Bool) (x12_3 : Int), v10 = .bool x10_3 ∧ v11 = .bool x11_3 ∧ v12 = .int .i64 x12_3 ∧ Aside0 (clepsydraref21_Closed.l2 kq l1 l2 x7_1 t421 x9_2 x10_3 x11_3 x12_3 l0_0 l0_1 l0_2 l0_3 l0_4 l0_5 l0_6 = some r) ∧ Aside0 (kq ≤ k2) ∧ Aside0 (Kd.R k44 44 w' w.heap.size (fun _ => True) (.slice (some ad424) t421.length co14) t421) ∧ Aside0 (w'.heap[gb419]? = some (.cells #[(.slice A0_0 l0_0.length c0_0), (.slice A0_1 l0_1.length c0_1), (.slice A0_2 l0_2.length c0_2), (.slice A0_3 l0_3.length c0_3), (.slice A0_4 l0_4.length c0_4), (.slice A0_5 l0_5.length c0_5), (.slice A0_6 l0_6.length c0_6)] 38 (0, 0))) ∧ Aside0 (Below w.heap.size w w'))
          case atStart => exact ⟨(false), (false), (0), (by first | rfl | (simp; done) | (simp [*]; done)), (by first | rfl | (simp; done) | (simp [*]; done)), (by first | rfl | (simp; done) | (simp [*]; done)), H', ⟨Nat.le_refl _⟩, ⟨RD HO_8⟩, ⟨by (with_reducible repeat (first | refine blk_drewN ?_ _ | refine blk_drew ?_ | refine blk_alloc ?_ _)); exact BK419.out⟩, ⟨by repeat (first | (with_reducible first | exact HB.out | apply below_alloc | apply pw_below_drewN | apply below_drew1 | refine below_set ?_ GE419.out) | exact HB.out)⟩⟩
          case round =>
           clear H'
           try clear c1
           try clear q1
           try clear c2
           try clear p2
           try clear p4
           try clear q4
           try clear hx4
           try clear c5
           try clear c5b0
           try clear c6
           try clear c6b0
           try clear p6
           try clear c10
           try clear c10b0
           try clear c11
           try clear c11b0
           try clear q12
           try clear c13
           try clear hx420_0
           try clear hx420_1
           try clear hx420_2
           try clear hx424_0
           try clear hx424_1
           try clear hx424_2
           try clear p2
           try clear p4
           try clear p420
           try clear p424
           try clear q4
           try clear q420
           try clear q424
           obtain ⟨x10_3, x11_3, x12_3, rfl, rfl, rfl, HA, HK3, HO_8, BK419, HB⟩ := hrel
           cases gk with
           | zero => exact absurd HA.out (by simp [clepsydraref21_Closed.l2])
           | succ k3 =>
            have H := HA.out
            clear HA
            simp only [clepsydraref21_Closed.l2] at H
            by_cases c15 : x12_3 < (l2.length : Int)
            ·rw [if_pos c15] at H
             have c15b0 : decide (x12_3 < (l2.length : Int)) = true := decide_eq_true c15
             clear c15
             by_cases c16 : 0 ≤ x12_3
             ·rw [if_pos c16] at H
              have c16b0 : decide (0 ≤ x12_3) = true := decide_eq_true c16
              clear c16
              by_cases c17 : 0 ≤ x9_2
              ·rw [if_pos c17] at H
               have c17b0 : decide (0 ≤ x9_2) = true := decide_eq_true c17
               clear c17
               by_cases c18 : x9_2 < (t421.length : Int)
               ·rw [if_pos c18] at H
                have c18b0 : decide (x9_2 < (t421.length : Int)) = true := decide_eq_true c18
                clear c18
                by_cases c19 : ((rd_T44 l2 x12_3).f0) = ((rd_T44 t421 x9_2).f0)
                ·rw [if_pos c19] at H
                 have c19b0 : (((rd_T44 l2 x12_3).f0) == ((rd_T44 t421 x9_2).f0)) = true := beq_iff_eq.mpr c19
                 have c19b1 : (((rd_T44 l2 x12_3).f0) != ((rd_T44 t421 x9_2).f0)) = false := bne_eq_false_iff_eq.mpr c19
                 clear c19
                 by_cases c20 : ((rd_T44 l2 x12_3).f1) = ((rd_T44 t421 x9_2).f1)
                 ·rw [if_pos c20] at H
                  have c20b0 : (((rd_T44 l2 x12_3).f1) == ((rd_T44 t421 x9_2).f1)) = true := beq_iff_eq.mpr c20
                  have c20b1 : (((rd_T44 l2 x12_3).f1) != ((rd_T44 t421 x9_2).f1)) = false := bne_eq_false_iff_eq.mpr c20
                  clear c20
                  by_cases c21 : x11_3 = true
                  ·subst c21
                   have H1 : (clepsydraref21_Closed.l2 k3 l1 l2 x7_1 t421 x9_2 true true (wrap64 (x12_3 + 1)) l0_0 l0_1 l0_2 l0_3 l0_4 l0_5 l0_6) = some r := by rw [if_pos rfl] at H; exact H
                   clear H
                   have H := H1
                   clear H1
                   have H' := Aside0.mk H
                   clear H
                   try go_wp2
                   have n0_ := Aside0.mk (Kd.R_drew HO_8.out)
                   have n1_ := Aside0.mk (blk_drew BK419.out)
                   have n2_ := Aside0.mk (below_drew1 HB.out)
                   clear HO_8
                   clear BK419
                   clear HB
                   have HO_8 := n0_
                   have BK419 := n1_
                   have HB := n2_
                   clear n0_ n1_ n2_
                   have p425 : 0 ≤ (x12_3 : Int) := of_decide_eq_true (by first | (with_reducible assumption) | assumption)
                   have q425 : x12_3 < (l2.length : Int) := of_decide_eq_true (by first | (with_reducible assumption) | assumption)
                   obtain ⟨ad425, e425, hx425_0, hx425_1, hx425_2⟩ := at_T44 HR2.out x12_3 p425 q425
                   have hw425_2 := hx425_2
                   have hw425_1 := hx425_1
                   have hw425_0 := hx425_0
                   (try rw [← Nbq12.out] at hx425_2)
                   obtain rfl : ad420 = ad425 := (by injection e425)
                   replace hx425_0 := (HB.out.cell (World.block_lt_of_cell? w _ hx425_0)).trans hx425_0
                   replace hx425_1 := (HB.out.cell (World.block_lt_of_cell? w _ hx425_1)).trans hx425_1
                   replace hx425_2 := (HB.out.cell (World.block_lt_of_cell? w _ hx425_2)).trans hx425_2
                   replace p425 := eq_true p425
                   replace q425 := eq_true q425
                   have p426 : 0 ≤ (x9_2 : Int) := of_decide_eq_true (by first | (with_reducible assumption) | assumption)
                   have q426 : x9_2 < (t421.length : Int) := of_decide_eq_true (by first | (with_reducible assumption) | assumption)
                   obtain ⟨ad426, e426, hx426_0, hx426_1, hx426_2⟩ := at_T44 (Kd.R_reads' HO_8.out).2.2 x9_2 p426 q426
                   (try rw [← Nbq12.out] at hx426_2)
                   obtain rfl : ad424 = ad426 := (by injection e426)
                   replace p426 := eq_true p426
                   replace q426 := eq_true q426
                   have p427 : 0 ≤ (x12_3 : Int) := of_decide_eq_true (by first | (with_reducible assumption) | assumption)
                   have q427 : x12_3 < (l2.length : Int) := of_decide_eq_true (by first | (with_reducible assumption) | assumption)
                   obtain ⟨ad427, e427, hx427_0, hx427_1, hx427_2⟩ := at_T44 HR2.out x12_3 p427 q427
                   have hw427_2 := hx427_2
                   have hw427_1 := hx427_1
                   have hw427_0 := hx427_0
                   (try rw [← Nbq12.out] at hx427_2)
                   obtain rfl : ad420 = ad427 := (by injection e427)
                   replace hx427_0 := (HB.out.cell (World.block_lt_of_cell? w _ hx427_0)).trans hx427_0
                   replace hx427_1 := (HB.out.cell (World.block_lt_of_cell? w _ hx427_1)).trans hx427_1
                   replace hx427_2 := (HB.out.cell (World.block_lt_of_cell? w _ hx427_2)).trans hx427_2
                   replace p427 := eq_true p427
                   replace q427 := eq_true q427
                   have p428 : 0 ≤ (x9_2 : Int) := of_decide_eq_true (by first | (with_reducible assumption) | assumption)
                   have q428 : x9_2 < (t421.length : Int) := of_decide_eq_true (by first | (with_reducible assumption) | assumption)
                   obtain ⟨ad428, e428, hx428_0, hx428_1, hx428_2⟩ := at_T44 (Kd.R_reads' HO_8.out).2.2 x9_2 p428 q428
                   (try rw [← Nbq12.out] at hx428_2)
                   obtain rfl : ad424 = ad428 := (by injection e428)
                   replace p428 := eq_true p428
                   replace q428 := eq_true q428
                   refine start_ (n := 24) (S := fun w' => w'.cell? (ad420.add ((x12_3).toNat * 3)) = some (.int .i64 ((rd_T44 l2 x12_3).f0)) ∧ w'.cell? ⟨(ad420.add ((x12_3).toNat * 3)).block, (ad420.add ((x12_3).toNat * 3)).off + 1, none⟩ = some (.int .u8 ((rd_T44 l2 x12_3).f1)) ∧ w'.cell? ⟨(ad420.add ((x12_3).toNat * 3)).block, (ad420.add ((x12_3).toNat * 3)).off + 2, none⟩ = some (.bool ((rd_T44 l2 x12_3).f2)) ∧ w'.cell? (ad424.add ((x9_2).toNat * 3)) = some (.int .i64 ((rd_T44 t421 x9_2).f0)) ∧ w'.cell? ⟨(ad424.add ((x9_2).toNat * 3)).block, (ad424.add ((x9_2).toNat * 3)).off + 1, none⟩ = some (.int .u8 ((rd_T44 t421 x9_2).f1)) ∧ w'.cell? ⟨(ad424.add ((x9_2).toNat * 3)).block, (ad424.add ((x9_2).toNat * 3)).off + 2, none⟩ = some (.bool (true)) ∧ w'.cell? (ad420.add ((x12_3).toNat * 3)) = some (.int .i64 ((rd_T44 l2 x12_3).f0)) ∧ w'.cell? ⟨(ad420.add ((x12_3).toNat * 3)).block, (ad420.add ((x12_3).toNat * 3)).off + 1, none⟩ = some (.int .u8 ((rd_T44 l2 x12_3).f1)) ∧ w'.cell? ⟨(ad420.add ((x12_3).toNat * 3)).block, (ad420.add ((x12_3).toNat * 3)).off + 2, none⟩ = some (.bool ((rd_T44 l2 x12_3).f2)) ∧ w'.cell? (ad424.add ((x9_2).toNat * 3)) = some (.int .i64 ((rd_T44 t421 x9_2).f0)) ∧ w'.cell? ⟨(ad424.add ((x9_2).toNat * 3)).block, (ad424.add ((x9_2).toNat * 3)).off + 1, none⟩ = some (.int .u8 ((rd_T44 t421 x9_2).f1)) ∧ w'.cell? ⟨(ad424.add ((x9_2).toNat * 3)).block, (ad424.add ((x9_2).toNat * 3)).off + 2, none⟩ = some (.bool (true))) (ds := []) u15_9 (by kernel_rfl) rfl rfl ⟨((HB.out.cell (World.block_lt_of_cell? w _ hw425_0)).trans hw425_0), ((HB.out.cell (World.block_lt_of_cell? w _ hw425_1)).trans hw425_1), ((HB.out.cell (World.block_lt_of_cell? w _ hw425_2)).trans hw425_2), hx426_0, hx426_1, hx426_2, ((HB.out.cell (World.block_lt_of_cell? w _ hw427_0)).trans hw427_0), ((HB.out.cell (World.block_lt_of_cell? w _ hw427_1)).trans hw427_1), ((HB.out.cell (World.block_lt_of_cell? w _ hw427_2)).trans hw427_2), hx428_0, hx428_1, hx428_2⟩ (fun hHeld => ?_); refine with_tabW clepsydraref21_Closed.tab13 clepsydraref21_Closed.bits13 (fun HT_ HW_ => ?_)
                   generalize wr.drew = w22 at HO_8 BK419 HB hx425_0 hx425_1 hx425_2 hx426_0 hx426_1 hx426_2 hx427_0 hx427_1 hx427_2 hx428_0 hx428_1 hx428_2 hHeld ⊢
                   refine pure_ (i := 0) (N := some 44) (v := ?_) (a' := ?_) u15_10 rfl rfl (any_of HT_.out (by kernel_rfl)) (fun _ _ _ h => h) (Or.inl ⟨by rfl, ?_⟩) ?_ ?_
                   rotate_left
                   ·intro w'
                    go_simp
                    with_reducible rfl
                   rotate_left
                   ·simp only [Act.put, s0_, s1_, s2_, i64_w, i32_w]
                    rfl
                   refine pure_ (i := 1) (N := some 45) (v := ?_) (a' := ?_) u15_11 rfl rfl (any_of HT_.out (by kernel_rfl)) (fun _ _ _ h => h) (Or.inl ⟨by rfl, ?_⟩) ?_ ?_
                   rotate_left
                   ·intro w'
                    go_simp
                    with_reducible rfl
                   rotate_left
                   ·simp only [Act.put, s0_, s1_, s2_, i64_w, i32_w]
                    rfl
                   refine pure_ (i := 2) (N := some 46) (v := ?_) (a' := ?_) u15_12 rfl rfl (any_of HT_.out (by kernel_rfl)) (fun _ _ _ h => h) (Or.inl ⟨by rfl, ?_⟩) ?_ ?_
                   rotate_left
                   ·intro w'
                    go_simp
                    with_reducible rfl
                   rotate_left
                   ·simp only [Act.put, s0_, s1_, s2_, i64_w, i32_w]
                    rfl
                   refine pure_ (i := 3) (N := some 47) (v := ?_) (a' := ?_) u15_13 rfl rfl (any_of HT_.out (by kernel_rfl)) (fun _ _ _ h => h) (Or.inl ⟨by rfl, ?_⟩) ?_ ?_
                   rotate_left
                   ·intro w'
                    go_simp
                    with_reducible rfl
                   rotate_left
                   ·simp only [Act.put, s0_, s1_, s2_, i64_w, i32_w]
                    rfl
                   refine pure_ (i := 5) (N := some 49) (v := ?_) (a' := ?_) u15_14 rfl rfl (any_of HT_.out (by kernel_rfl)) (fun _ _ _ h => h) (Or.inl ⟨by rfl, ?_⟩) ?_ ?_
                   rotate_left
                   ·intro w'
                    go_simp
                    with_reducible rfl
                   rotate_left
                   ·simp only [Act.put, s0_, s1_, s2_, i64_w, i32_w]
                    rfl
                   refine pure_ (i := 6) (N := some 50) (v := ?_) (a' := ?_) u15_15 rfl rfl (any_of HT_.out (by kernel_rfl)) (fun _ _ _ h => h) (Or.inl ⟨by rfl, ?_⟩) ?_ ?_
                   rotate_left
                   ·intro w'
                    go_simp
                    with_reducible rfl
                   rotate_left
                   ·simp only [Act.put, s0_, s1_, s2_, i64_w, i32_w]
                    rfl
                   refine pure_ (i := 7) (N := some 51) (v := ?_) (a' := ?_) u15_16 rfl rfl (any_of HT_.out (by kernel_rfl)) (fun _ _ _ h => h) (Or.inl ⟨by rfl, ?_⟩) ?_ ?_
                   rotate_left
                   ·intro w'
                    go_simp
                    with_reducible rfl
                   rotate_left
                   ·simp only [Act.put, s0_, s1_, s2_, i64_w, i32_w]
                    rfl
                   refine pure_ (i := 8) (N := some 52) (v := ?_) (a' := ?_) u15_17 rfl rfl (any_of HT_.out (by kernel_rfl)) (fun _ _ _ h => h) (Or.inl ⟨by rfl, ?_⟩) ?_ ?_
                   rotate_left
                   ·intro w'
                    go_simp
                    with_reducible rfl
                   rotate_left
                   ·simp only [Act.put, s0_, s1_, s2_, i64_w, i32_w]
                    rfl
                   refine take_ (i := 4) (N := some 48) (v := ?_) (a' := ?_) u15_18 rfl rfl (take_ofW HT_.out HW_.out (by kernel_rfl)) (fun _ _ _ h => h) (Or.inl ⟨by rfl, ?_⟩) hHeld ?_ ?_
                   rotate_left
                   ·rintro w' ⟨s0, s1, s2, s3, s4, s5, s6, s7, s8, s9, s10, s11⟩
                    go_simp
                    with_reducible rfl
                   rotate_left
                   ·simp only [Act.put, s0_, s1_, s2_, i64_w, i32_w]
                    rfl
                   refine take_ (i := 9) (N := some 53) (v := ?_) (a' := ?_) u15_19 rfl rfl (take_ofW HT_.out HW_.out (by kernel_rfl)) (fun _ _ _ h => h) (Or.inl ⟨by rfl, ?_⟩) hHeld ?_ ?_
                   rotate_left
                   ·rintro w' ⟨s0, s1, s2, s3, s4, s5, s6, s7, s8, s9, s10, s11⟩
                    go_simp
                    with_reducible rfl
                   rotate_left
                   ·simp only [Act.put, s0_, s1_, s2_, i64_w, i32_w]
                    rfl
                   refine pure_ (i := 10) (N := some 54) (v := ?_) (a' := ?_) u15_20 rfl rfl (any_of HT_.out (by kernel_rfl)) (fun _ _ _ h => h) (Or.inl ⟨by rfl, ?_⟩) ?_ ?_
                   rotate_left
                   ·intro w'
                    go_simp
                    with_reducible rfl
                   rotate_left
                   ·simp only [Act.put, s0_, s1_, s2_, i64_w, i32_w]
                    rfl
                   refine pure_ (i := 11) (N := some 55) (v := ?_) (a' := ?_) u15_21 rfl rfl (any_of HT_.out (by kernel_rfl)) (fun _ _ _ h => h) (Or.inl ⟨by rfl, ?_⟩) ?_ ?_
                   rotate_left
                   ·intro w'
                    go_simp
                    with_reducible rfl
                   rotate_left
                   ·simp only [Act.put, s0_, s1_, s2_, i64_w, i32_w]
                    rfl
                   refine pure_ (i := 12) (N := some 56) (v := ?_) (a' := ?_) u15_22 rfl rfl (any_of HT_.out (by kernel_rfl)) (fun _ _ _ h => h) (Or.inl ⟨by rfl, ?_⟩) ?_ ?_
                   rotate_left
                   ·intro w'
                    go_simp
                    with_reducible rfl
                   rotate_left
                   ·simp only [Act.put, s0_, s1_, s2_, i64_w, i32_w]
                    rfl
                   refine pure_ (i := 13) (N := some 57) (v := ?_) (a' := ?_) u15_23 rfl rfl (any_of HT_.out (by kernel_rfl)) (fun _ _ _ h => h) (Or.inl ⟨by rfl, ?_⟩) ?_ ?_
                   rotate_left
                   ·intro w'
                    go_simp
                    with_reducible rfl
                   rotate_left
                   ·simp only [Act.put, s0_, s1_, s2_, i64_w, i32_w]
                    rfl
                   refine pure_ (i := 14) (N := some 58) (v := ?_) (a' := ?_) u15_24 rfl rfl (any_of HT_.out (by kernel_rfl)) (fun _ _ _ h => h) (Or.inl ⟨by rfl, ?_⟩) ?_ ?_
                   rotate_left
                   ·intro w'
                    go_simp
                    with_reducible rfl
                   rotate_left
                   ·simp only [Act.put, s0_, s1_, s2_, i64_w, i32_w]
                    rfl
                   refine pure_ (i := 15) (N := some 59) (v := ?_) (a' := ?_) u15_25 rfl rfl (any_of HT_.out (by kernel_rfl)) (fun _ _ _ h => h) (Or.inl ⟨by rfl, ?_⟩) ?_ ?_
                   rotate_left
                   ·intro w'
                    go_simp
                    with_reducible rfl
                   rotate_left
                   ·simp only [Act.put, s0_, s1_, s2_, i64_w, i32_w]
                    rfl
                   refine pure_ (i := 17) (N := some 61) (v := ?_) (a' := ?_) u15_26 rfl rfl (any_of HT_.out (by kernel_rfl)) (fun _ _ _ h => h) (Or.inl ⟨by rfl, ?_⟩) ?_ ?_
                   rotate_left
                   ·intro w'
                    go_simp
                    with_reducible rfl
                   rotate_left
                   ·simp only [Act.put, s0_, s1_, s2_, i64_w, i32_w]
                    rfl
                   refine pure_ (i := 18) (N := some 62) (v := ?_) (a' := ?_) u15_27 rfl rfl (any_of HT_.out (by kernel_rfl)) (fun _ _ _ h => h) (Or.inl ⟨by rfl, ?_⟩) ?_ ?_
                   rotate_left
                   ·intro w'
                    go_simp
                    with_reducible rfl
                   rotate_left
                   ·simp only [Act.put, s0_, s1_, s2_, i64_w, i32_w]
                    rfl
                   refine pure_ (i := 19) (N := some 63) (v := ?_) (a' := ?_) u15_28 rfl rfl (any_of HT_.out (by kernel_rfl)) (fun _ _ _ h => h) (Or.inl ⟨by rfl, ?_⟩) ?_ ?_
                   rotate_left
                   ·intro w'
                    go_simp
                    with_reducible rfl
                   rotate_left
                   ·simp only [Act.put, s0_, s1_, s2_, i64_w, i32_w]
                    rfl
                   refine pure_ (i := 20) (N := some 64) (v := ?_) (a' := ?_) u15_29 rfl rfl (any_of HT_.out (by kernel_rfl)) (fun _ _ _ h => h) (Or.inl ⟨by rfl, ?_⟩) ?_ ?_
                   rotate_left
                   ·intro w'
                    go_simp
                    with_reducible rfl
                   rotate_left
                   ·simp only [Act.put, s0_, s1_, s2_, i64_w, i32_w]
                    rfl
                   refine take_ (i := 16) (N := some 60) (v := ?_) (a' := ?_) u15_30 rfl rfl (take_ofW HT_.out HW_.out (by kernel_rfl)) (fun _ _ _ h => h) (Or.inl ⟨by rfl, ?_⟩) hHeld ?_ ?_
                   rotate_left
                   ·rintro w' ⟨s0, s1, s2, s3, s4, s5, s6, s7, s8, s9, s10, s11⟩
                    go_simp
                    with_reducible rfl
                   rotate_left
                   ·simp only [Act.put, s0_, s1_, s2_, i64_w, i32_w]
                    rfl
                   refine take_ (i := 21) (N := some 65) (v := ?_) (a' := ?_) u15_31 rfl rfl (take_ofW HT_.out HW_.out (by kernel_rfl)) (fun _ _ _ h => h) (Or.inl ⟨by rfl, ?_⟩) hHeld ?_ ?_
                   rotate_left
                   ·rintro w' ⟨s0, s1, s2, s3, s4, s5, s6, s7, s8, s9, s10, s11⟩
                    go_simp
                    with_reducible rfl
                   rotate_left
                   ·simp only [Act.put, s0_, s1_, s2_, i64_w, i32_w]
                    rfl
                   refine pure_ (i := 22) (N := some 66) (v := ?_) (a' := ?_) u15_32 rfl rfl (any_of HT_.out (by kernel_rfl)) (fun _ _ _ h => h) (Or.inl ⟨by rfl, ?_⟩) ?_ ?_
                   rotate_left
                   ·intro w'
                    go_simp
                    with_reducible rfl
                   rotate_left
                   ·simp only [Act.put, s0_, s1_, s2_, i64_w, i32_w]
                    rfl
                   refine pure_ (i := 23) (N := some 67) (v := ?_) (a' := ?_) u15_33 rfl rfl (any_of HT_.out (by kernel_rfl)) (fun _ _ _ h => h) (Or.inl ⟨by rfl, ?_⟩) ?_ ?_
                   rotate_left
                   ·intro w'
                    go_simp
                    with_reducible rfl
                   rotate_left
                   ·simp only [Act.put, s0_, s1_, s2_, i64_w, i32_w]
                    rfl
                   refine done_ (done_of HT_.out (by kernel_rfl)) ?_
                   try go_wp2
                   go_roundg k3
                   case measure => have := HK1.out; have := HK2.out; have := HK3.out; omega
                   case rel => exact ⟨(true), (true), (wrap64 (x12_3 + 1)), (by first | rfl | (simp; done) | (simp [*]; done)), (by first | rfl | (simp; done) | (simp [*]; done)), (by first | rfl | (simp; done) | (simp [*]; done)), H', ⟨by have := HK1.out; have := HK2.out; have := HK3.out; omega⟩, ⟨RD HO_8⟩, ⟨by (with_reducible repeat (first | refine blk_drewN ?_ _ | refine blk_drew ?_ | refine blk_alloc ?_ _)); exact BK419.out⟩, ⟨by repeat (first | (with_reducible first | exact HB.out | apply below_alloc | apply pw_below_drewN | apply below_drew1 | refine below_set ?_ GE419.out) | exact HB.out)⟩⟩
                  ·replace c21 := Bool.eq_false_iff.mpr c21
                   subst c21
                   have H1 : (clepsydraref21_Closed.l2 k3 l1 l2 x7_1 t421 x9_2 true ((rd_T44 l2 x12_3).f2) (wrap64 (x12_3 + 1)) l0_0 l0_1 l0_2 l0_3 l0_4 l0_5 l0_6) = some r := by rw [if_neg (show ¬ (false = true) by decide)] at H; exact H
                   clear H
                   have H := H1
                   clear H1
                   have H' := Aside0.mk H
                   clear H
                   try go_wp2
                   have n0_ := Aside0.mk (Kd.R_drew HO_8.out)
                   have n1_ := Aside0.mk (blk_drew BK419.out)
                   have n2_ := Aside0.mk (below_drew1 HB.out)
                   clear HO_8
                   clear BK419
                   clear HB
                   have HO_8 := n0_
                   have BK419 := n1_
                   have HB := n2_
                   clear n0_ n1_ n2_
                   have p425 : 0 ≤ (x12_3 : Int) := of_decide_eq_true (by first | (with_reducible assumption) | assumption)
                   have q425 : x12_3 < (l2.length : Int) := of_decide_eq_true (by first | (with_reducible assumption) | assumption)
                   obtain ⟨ad425, e425, hx425_0, hx425_1, hx425_2⟩ := at_T44 HR2.out x12_3 p425 q425
                   have hw425_2 := hx425_2
                   have hw425_1 := hx425_1
                   have hw425_0 := hx425_0
                   (try rw [← Nbq12.out] at hx425_2)
                   obtain rfl : ad420 = ad425 := (by injection e425)
                   replace hx425_0 := (HB.out.cell (World.block_lt_of_cell? w _ hx425_0)).trans hx425_0
                   replace hx425_1 := (HB.out.cell (World.block_lt_of_cell? w _ hx425_1)).trans hx425_1
                   replace hx425_2 := (HB.out.cell (World.block_lt_of_cell? w _ hx425_2)).trans hx425_2
                   replace p425 := eq_true p425
                   replace q425 := eq_true q425
                   have p426 : 0 ≤ (x9_2 : Int) := of_decide_eq_true (by first | (with_reducible assumption) | assumption)
                   have q426 : x9_2 < (t421.length : Int) := of_decide_eq_true (by first | (with_reducible assumption) | assumption)
                   obtain ⟨ad426, e426, hx426_0, hx426_1, hx426_2⟩ := at_T44 (Kd.R_reads' HO_8.out).2.2 x9_2 p426 q426
                   (try rw [← Nbq12.out] at hx426_2)
                   obtain rfl : ad424 = ad426 := (by injection e426)
                   replace p426 := eq_true p426
                   replace q426 := eq_true q426
                   have p427 : 0 ≤ (x12_3 : Int) := of_decide_eq_true (by first | (with_reducible assumption) | assumption)
                   have q427 : x12_3 < (l2.length : Int) := of_decide_eq_true (by first | (with_reducible assumption) | assumption)
                   obtain ⟨ad427, e427, hx427_0, hx427_1, hx427_2⟩ := at_T44 HR2.out x12_3 p427 q427
                   have hw427_2 := hx427_2
                   have hw427_1 := hx427_1
                   have hw427_0 := hx427_0
                   (try rw [← Nbq12.out] at hx427_2)
                   obtain rfl : ad420 = ad427 := (by injection e427)
                   replace hx427_0 := (HB.out.cell (World.block_lt_of_cell? w _ hx427_0)).trans hx427_0
                   replace hx427_1 := (HB.out.cell (World.block_lt_of_cell? w _ hx427_1)).trans hx427_1
                   replace hx427_2 := (HB.out.cell (World.block_lt_of_cell? w _ hx427_2)).trans hx427_2
                   replace p427 := eq_true p427
                   replace q427 := eq_true q427
                   have p428 : 0 ≤ (x9_2 : Int) := of_decide_eq_true (by first | (with_reducible assumption) | assumption)
                   have q428 : x9_2 < (t421.length : Int) := of_decide_eq_true (by first | (with_reducible assumption) | assumption)
                   obtain ⟨ad428, e428, hx428_0, hx428_1, hx428_2⟩ := at_T44 (Kd.R_reads' HO_8.out).2.2 x9_2 p428 q428
                   (try rw [← Nbq12.out] at hx428_2)
                   obtain rfl : ad424 = ad428 := (by injection e428)
                   replace p428 := eq_true p428
                   replace q428 := eq_true q428
                   refine start_ (n := 24) (S := fun w' => w'.cell? (ad420.add ((x12_3).toNat * 3)) = some (.int .i64 ((rd_T44 l2 x12_3).f0)) ∧ w'.cell? ⟨(ad420.add ((x12_3).toNat * 3)).block, (ad420.add ((x12_3).toNat * 3)).off + 1, none⟩ = some (.int .u8 ((rd_T44 l2 x12_3).f1)) ∧ w'.cell? ⟨(ad420.add ((x12_3).toNat * 3)).block, (ad420.add ((x12_3).toNat * 3)).off + 2, none⟩ = some (.bool ((rd_T44 l2 x12_3).f2)) ∧ w'.cell? (ad424.add ((x9_2).toNat * 3)) = some (.int .i64 ((rd_T44 t421 x9_2).f0)) ∧ w'.cell? ⟨(ad424.add ((x9_2).toNat * 3)).block, (ad424.add ((x9_2).toNat * 3)).off + 1, none⟩ = some (.int .u8 ((rd_T44 t421 x9_2).f1)) ∧ w'.cell? ⟨(ad424.add ((x9_2).toNat * 3)).block, (ad424.add ((x9_2).toNat * 3)).off + 2, none⟩ = some (.bool (true)) ∧ w'.cell? (ad420.add ((x12_3).toNat * 3)) = some (.int .i64 ((rd_T44 l2 x12_3).f0)) ∧ w'.cell? ⟨(ad420.add ((x12_3).toNat * 3)).block, (ad420.add ((x12_3).toNat * 3)).off + 1, none⟩ = some (.int .u8 ((rd_T44 l2 x12_3).f1)) ∧ w'.cell? ⟨(ad420.add ((x12_3).toNat * 3)).block, (ad420.add ((x12_3).toNat * 3)).off + 2, none⟩ = some (.bool ((rd_T44 l2 x12_3).f2)) ∧ w'.cell? (ad424.add ((x9_2).toNat * 3)) = some (.int .i64 ((rd_T44 t421 x9_2).f0)) ∧ w'.cell? ⟨(ad424.add ((x9_2).toNat * 3)).block, (ad424.add ((x9_2).toNat * 3)).off + 1, none⟩ = some (.int .u8 ((rd_T44 t421 x9_2).f1)) ∧ w'.cell? ⟨(ad424.add ((x9_2).toNat * 3)).block, (ad424.add ((x9_2).toNat * 3)).off + 2, none⟩ = some (.bool (true))) (ds := []) u15_9 (by kernel_rfl) rfl rfl ⟨((HB.out.cell (World.block_lt_of_cell? w _ hw425_0)).trans hw425_0), ((HB.out.cell (World.block_lt_of_cell? w _ hw425_1)).trans hw425_1), ((HB.out.cell (World.block_lt_of_cell? w _ hw425_2)).trans hw425_2), hx426_0, hx426_1, hx426_2, ((HB.out.cell (World.block_lt_of_cell? w _ hw427_0)).trans hw427_0), ((HB.out.cell (World.block_lt_of_cell? w _ hw427_1)).trans hw427_1), ((HB.out.cell (World.block_lt_of_cell? w _ hw427_2)).trans hw427_2), hx428_0, hx428_1, hx428_2⟩ (fun hHeld => ?_); refine with_tabW clepsydraref21_Closed.tab13 clepsydraref21_Closed.bits13 (fun HT_ HW_ => ?_)
                   generalize wr.drew = w23 at HO_8 BK419 HB hx425_0 hx425_1 hx425_2 hx426_0 hx426_1 hx426_2 hx427_0 hx427_1 hx427_2 hx428_0 hx428_1 hx428_2 hHeld ⊢
                   refine pure_ (i := 0) (N := some 44) (v := ?_) (a' := ?_) u15_10 rfl rfl (any_of HT_.out (by kernel_rfl)) (fun _ _ _ h => h) (Or.inl ⟨by rfl, ?_⟩) ?_ ?_
                   rotate_left
                   ·intro w'
                    go_simp
                    with_reducible rfl
                   rotate_left
                   ·simp only [Act.put, s0_, s1_, s2_, i64_w, i32_w]
                    rfl
                   refine pure_ (i := 1) (N := some 45) (v := ?_) (a' := ?_) u15_11 rfl rfl (any_of HT_.out (by kernel_rfl)) (fun _ _ _ h => h) (Or.inl ⟨by rfl, ?_⟩) ?_ ?_
                   rotate_left
                   ·intro w'
                    go_simp
                    with_reducible rfl
                   rotate_left
                   ·simp only [Act.put, s0_, s1_, s2_, i64_w, i32_w]
                    rfl
                   refine pure_ (i := 2) (N := some 46) (v := ?_) (a' := ?_) u15_12 rfl rfl (any_of HT_.out (by kernel_rfl)) (fun _ _ _ h => h) (Or.inl ⟨by rfl, ?_⟩) ?_ ?_
                   rotate_left
                   ·intro w'
                    go_simp
                    with_reducible rfl
                   rotate_left
                   ·simp only [Act.put, s0_, s1_, s2_, i64_w, i32_w]
                    rfl
                   refine pure_ (i := 3) (N := some 47) (v := ?_) (a' := ?_) u15_13 rfl rfl (any_of HT_.out (by kernel_rfl)) (fun _ _ _ h => h) (Or.inl ⟨by rfl, ?_⟩) ?_ ?_
                   rotate_left
                   ·intro w'
                    go_simp
                    with_reducible rfl
                   rotate_left
                   ·simp only [Act.put, s0_, s1_, s2_, i64_w, i32_w]
                    rfl
                   refine pure_ (i := 5) (N := some 49) (v := ?_) (a' := ?_) u15_14 rfl rfl (any_of HT_.out (by kernel_rfl)) (fun _ _ _ h => h) (Or.inl ⟨by rfl, ?_⟩) ?_ ?_
                   rotate_left
                   ·intro w'
                    go_simp
                    with_reducible rfl
                   rotate_left
                   ·simp only [Act.put, s0_, s1_, s2_, i64_w, i32_w]
                    rfl
                   refine pure_ (i := 6) (N := some 50) (v := ?_) (a' := ?_) u15_15 rfl rfl (any_of HT_.out (by kernel_rfl)) (fun _ _ _ h => h) (Or.inl ⟨by rfl, ?_⟩) ?_ ?_
                   rotate_left
                   ·intro w'
                    go_simp
                    with_reducible rfl
                   rotate_left
                   ·simp only [Act.put, s0_, s1_, s2_, i64_w, i32_w]
                    rfl
                   refine pure_ (i := 7) (N := some 51) (v := ?_) (a' := ?_) u15_16 rfl rfl (any_of HT_.out (by kernel_rfl)) (fun _ _ _ h => h) (Or.inl ⟨by rfl, ?_⟩) ?_ ?_
                   rotate_left
                   ·intro w'
                    go_simp
                    with_reducible rfl
                   rotate_left
                   ·simp only [Act.put, s0_, s1_, s2_, i64_w, i32_w]
                    rfl
                   refine pure_ (i := 8) (N := some 52) (v := ?_) (a' := ?_) u15_17 rfl rfl (any_of HT_.out (by kernel_rfl)) (fun _ _ _ h => h) (Or.inl ⟨by rfl, ?_⟩) ?_ ?_
                   rotate_left
                   ·intro w'
                    go_simp
                    with_reducible rfl
                   rotate_left
                   ·simp only [Act.put, s0_, s1_, s2_, i64_w, i32_w]
                    rfl
                   refine take_ (i := 4) (N := some 48) (v := ?_) (a' := ?_) u15_18 rfl rfl (take_ofW HT_.out HW_.out (by kernel_rfl)) (fun _ _ _ h => h) (Or.inl ⟨by rfl, ?_⟩) hHeld ?_ ?_
                   rotate_left
                   ·rintro w' ⟨s0, s1, s2, s3, s4, s5, s6, s7, s8, s9, s10, s11⟩
                    go_simp
                    with_reducible rfl
                   rotate_left
                   ·simp only [Act.put, s0_, s1_, s2_, i64_w, i32_w]
                    rfl
                   refine take_ (i := 9) (N := some 53) (v := ?_) (a' := ?_) u15_19 rfl rfl (take_ofW HT_.out HW_.out (by kernel_rfl)) (fun _ _ _ h => h) (Or.inl ⟨by rfl, ?_⟩) hHeld ?_ ?_
                   rotate_left
                   ·rintro w' ⟨s0, s1, s2, s3, s4, s5, s6, s7, s8, s9, s10, s11⟩
                    go_simp
                    with_reducible rfl
                   rotate_left
                   ·simp only [Act.put, s0_, s1_, s2_, i64_w, i32_w]
                    rfl
                   refine pure_ (i := 10) (N := some 54) (v := ?_) (a' := ?_) u15_20 rfl rfl (any_of HT_.out (by kernel_rfl)) (fun _ _ _ h => h) (Or.inl ⟨by rfl, ?_⟩) ?_ ?_
                   rotate_left
                   ·intro w'
                    go_simp
                    with_reducible rfl
                   rotate_left
                   ·simp only [Act.put, s0_, s1_, s2_, i64_w, i32_w]
                    rfl
                   refine pure_ (i := 11) (N := some 55) (v := ?_) (a' := ?_) u15_21 rfl rfl (any_of HT_.out (by kernel_rfl)) (fun _ _ _ h => h) (Or.inl ⟨by rfl, ?_⟩) ?_ ?_
                   rotate_left
                   ·intro w'
                    go_simp
                    with_reducible rfl
                   rotate_left
                   ·simp only [Act.put, s0_, s1_, s2_, i64_w, i32_w]
                    rfl
                   refine pure_ (i := 12) (N := some 56) (v := ?_) (a' := ?_) u15_22 rfl rfl (any_of HT_.out (by kernel_rfl)) (fun _ _ _ h => h) (Or.inl ⟨by rfl, ?_⟩) ?_ ?_
                   rotate_left
                   ·intro w'
                    go_simp
                    with_reducible rfl
                   rotate_left
                   ·simp only [Act.put, s0_, s1_, s2_, i64_w, i32_w]
                    rfl
                   refine pure_ (i := 13) (N := some 57) (v := ?_) (a' := ?_) u15_23 rfl rfl (any_of HT_.out (by kernel_rfl)) (fun _ _ _ h => h) (Or.inl ⟨by rfl, ?_⟩) ?_ ?_
                   rotate_left
                   ·intro w'
                    go_simp
                    with_reducible rfl
                   rotate_left
                   ·simp only [Act.put, s0_, s1_, s2_, i64_w, i32_w]
                    rfl
                   refine pure_ (i := 14) (N := some 58) (v := ?_) (a' := ?_) u15_24 rfl rfl (any_of HT_.out (by kernel_rfl)) (fun _ _ _ h => h) (Or.inl ⟨by rfl, ?_⟩) ?_ ?_
                   rotate_left
                   ·intro w'
                    go_simp
                    with_reducible rfl
                   rotate_left
                   ·simp only [Act.put, s0_, s1_, s2_, i64_w, i32_w]
                    rfl
                   refine pure_ (i := 15) (N := some 59) (v := ?_) (a' := ?_) u15_25 rfl rfl (any_of HT_.out (by kernel_rfl)) (fun _ _ _ h => h) (Or.inl ⟨by rfl, ?_⟩) ?_ ?_
                   rotate_left
                   ·intro w'
                    go_simp
                    with_reducible rfl
                   rotate_left
                   ·simp only [Act.put, s0_, s1_, s2_, i64_w, i32_w]
                    rfl
                   refine pure_ (i := 17) (N := some 61) (v := ?_) (a' := ?_) u15_26 rfl rfl (any_of HT_.out (by kernel_rfl)) (fun _ _ _ h => h) (Or.inl ⟨by rfl, ?_⟩) ?_ ?_
                   rotate_left
                   ·intro w'
                    go_simp
                    with_reducible rfl
                   rotate_left
                   ·simp only [Act.put, s0_, s1_, s2_, i64_w, i32_w]
                    rfl
                   refine pure_ (i := 18) (N := some 62) (v := ?_) (a' := ?_) u15_27 rfl rfl (any_of HT_.out (by kernel_rfl)) (fun _ _ _ h => h) (Or.inl ⟨by rfl, ?_⟩) ?_ ?_
                   rotate_left
                   ·intro w'
                    go_simp
                    with_reducible rfl
                   rotate_left
                   ·simp only [Act.put, s0_, s1_, s2_, i64_w, i32_w]
                    rfl
                   refine pure_ (i := 19) (N := some 63) (v := ?_) (a' := ?_) u15_28 rfl rfl (any_of HT_.out (by kernel_rfl)) (fun _ _ _ h => h) (Or.inl ⟨by rfl, ?_⟩) ?_ ?_
                   rotate_left
                   ·intro w'
                    go_simp
                    with_reducible rfl
                   rotate_left
                   ·simp only [Act.put, s0_, s1_, s2_, i64_w, i32_w]
                    rfl
                   refine pure_ (i := 20) (N := some 64) (v := ?_) (a' := ?_) u15_29 rfl rfl (any_of HT_.out (by kernel_rfl)) (fun _ _ _ h => h) (Or.inl ⟨by rfl, ?_⟩) ?_ ?_
                   rotate_left
                   ·intro w'
                    go_simp
                    with_reducible rfl
                   rotate_left
                   ·simp only [Act.put, s0_, s1_, s2_, i64_w, i32_w]
                    rfl
                   refine take_ (i := 16) (N := some 60) (v := ?_) (a' := ?_) u15_30 rfl rfl (take_ofW HT_.out HW_.out (by kernel_rfl)) (fun _ _ _ h => h) (Or.inl ⟨by rfl, ?_⟩) hHeld ?_ ?_
                   rotate_left
                   ·rintro w' ⟨s0, s1, s2, s3, s4, s5, s6, s7, s8, s9, s10, s11⟩
                    go_simp
                    with_reducible rfl
                   rotate_left
                   ·simp only [Act.put, s0_, s1_, s2_, i64_w, i32_w]
                    rfl
                   refine take_ (i := 21) (N := some 65) (v := ?_) (a' := ?_) u15_31 rfl rfl (take_ofW HT_.out HW_.out (by kernel_rfl)) (fun _ _ _ h => h) (Or.inl ⟨by rfl, ?_⟩) hHeld ?_ ?_
                   rotate_left
                   ·rintro w' ⟨s0, s1, s2, s3, s4, s5, s6, s7, s8, s9, s10, s11⟩
                    go_simp
                    with_reducible rfl
                   rotate_left
                   ·simp only [Act.put, s0_, s1_, s2_, i64_w, i32_w]
                    rfl
                   refine pure_ (i := 22) (N := some 66) (v := ?_) (a' := ?_) u15_32 rfl rfl (any_of HT_.out (by kernel_rfl)) (fun _ _ _ h => h) (Or.inl ⟨by rfl, ?_⟩) ?_ ?_
                   rotate_left
                   ·intro w'
                    go_simp
                    with_reducible rfl
                   rotate_left
                   ·simp only [Act.put, s0_, s1_, s2_, i64_w, i32_w]
                    rfl
                   refine pure_ (i := 23) (N := some 67) (v := ?_) (a' := ?_) u15_33 rfl rfl (any_of HT_.out (by kernel_rfl)) (fun _ _ _ h => h) (Or.inl ⟨by rfl, ?_⟩) ?_ ?_
                   rotate_left
                   ·intro w'
                    go_simp
                    with_reducible rfl
                   rotate_left
                   ·simp only [Act.put, s0_, s1_, s2_, i64_w, i32_w]
                    rfl
                   refine done_ (done_of HT_.out (by kernel_rfl)) ?_
                   have p429 : 0 ≤ (x12_3 : Int) := of_decide_eq_true (by first | (with_reducible assumption) | assumption)
                   have q429 : x12_3 < (l2.length : Int) := of_decide_eq_true (by first | (with_reducible assumption) | assumption)
                   obtain ⟨ad429, e429, hx429_0, hx429_1, hx429_2⟩ := at_T44 HR2.out x12_3 p429 q429
                   (try rw [← Nbq12.out] at hx429_2)
                   obtain rfl : ad420 = ad429 := (by injection e429)
                   replace hx429_0 := (HB.out.cell (World.block_lt_of_cell? w _ hx429_0)).trans hx429_0
                   replace hx429_1 := (HB.out.cell (World.block_lt_of_cell? w _ hx429_1)).trans hx429_1
                   replace hx429_2 := (HB.out.cell (World.block_lt_of_cell? w _ hx429_2)).trans hx429_2
                   replace p429 := eq_true p429
                   replace q429 := eq_true q429
                   try go_wp2
                   go_roundg k3
                   case measure => have := HK1.out; have := HK2.out; have := HK3.out; omega
                   case rel => exact ⟨(true), ((rd_T44 l2 x12_3).f2), (wrap64 (x12_3 + 1)), (by first | rfl | (simp; done) | (simp [*]; done)), (by first | rfl | (simp; done) | (simp [*]; done)), (by first | rfl | (simp; done) | (simp [*]; done)), H', ⟨by have := HK1.out; have := HK2.out; have := HK3.out; omega⟩, ⟨RD HO_8⟩, ⟨by (with_reducible repeat (first | refine blk_drewN ?_ _ | refine blk_drew ?_ | refine blk_alloc ?_ _)); exact BK419.out⟩, ⟨by repeat (first | (with_reducible first | exact HB.out | apply below_alloc | apply pw_below_drewN | apply below_drew1 | refine below_set ?_ GE419.out) | exact HB.out)⟩⟩
                 ·rw [if_neg c20] at H
                  have c20b0 : (((rd_T44 l2 x12_3).f1) == ((rd_T44 t421 x9_2).f1)) = false := beq_eq_false_iff_ne.mpr c20
                  have c20b1 : (((rd_T44 l2 x12_3).f1) != ((rd_T44 t421 x9_2).f1)) = true := bne_iff_ne.mpr c20
                  have H' := Aside0.mk H
                  clear H
                  try go_wp2
                  have n0_ := Aside0.mk (Kd.R_drew HO_8.out)
                  have n1_ := Aside0.mk (blk_drew BK419.out)
                  have n2_ := Aside0.mk (below_drew1 HB.out)
                  clear HO_8
                  clear BK419
                  clear HB
                  have HO_8 := n0_
                  have BK419 := n1_
                  have HB := n2_
                  clear n0_ n1_ n2_
                  have p425 : 0 ≤ (x12_3 : Int) := of_decide_eq_true (by first | (with_reducible assumption) | assumption)
                  have q425 : x12_3 < (l2.length : Int) := of_decide_eq_true (by first | (with_reducible assumption) | assumption)
                  obtain ⟨ad425, e425, hx425_0, hx425_1, hx425_2⟩ := at_T44 HR2.out x12_3 p425 q425
                  have hw425_2 := hx425_2
                  have hw425_1 := hx425_1
                  have hw425_0 := hx425_0
                  (try rw [← Nbq12.out] at hx425_2)
                  obtain rfl : ad420 = ad425 := (by injection e425)
                  replace hx425_0 := (HB.out.cell (World.block_lt_of_cell? w _ hx425_0)).trans hx425_0
                  replace hx425_1 := (HB.out.cell (World.block_lt_of_cell? w _ hx425_1)).trans hx425_1
                  replace hx425_2 := (HB.out.cell (World.block_lt_of_cell? w _ hx425_2)).trans hx425_2
                  replace p425 := eq_true p425
                  replace q425 := eq_true q425
                  have p426 : 0 ≤ (x9_2 : Int) := of_decide_eq_true (by first | (with_reducible assumption) | assumption)
                  have q426 : x9_2 < (t421.length : Int) := of_decide_eq_true (by first | (with_reducible assumption) | assumption)
                  obtain ⟨ad426, e426, hx426_0, hx426_1, hx426_2⟩ := at_T44 (Kd.R_reads' HO_8.out).2.2 x9_2 p426 q426
                  (try rw [← Nbq12.out] at hx426_2)
                  obtain rfl : ad424 = ad426 := (by injection e426)
                  replace p426 := eq_true p426
                  replace q426 := eq_true q426
                  have p427 : 0 ≤ (x12_3 : Int) := of_decide_eq_true (by first | (with_reducible assumption) | assumption)
                  have q427 : x12_3 < (l2.length : Int) := of_decide_eq_true (by first | (with_reducible assumption) | assumption)
                  obtain ⟨ad427, e427, hx427_0, hx427_1, hx427_2⟩ := at_T44 HR2.out x12_3 p427 q427
                  have hw427_2 := hx427_2
                  have hw427_1 := hx427_1
                  have hw427_0 := hx427_0
                  (try rw [← Nbq12.out] at hx427_2)
                  obtain rfl : ad420 = ad427 := (by injection e427)
                  replace hx427_0 := (HB.out.cell (World.block_lt_of_cell? w _ hx427_0)).trans hx427_0
                  replace hx427_1 := (HB.out.cell (World.block_lt_of_cell? w _ hx427_1)).trans hx427_1
                  replace hx427_2 := (HB.out.cell (World.block_lt_of_cell? w _ hx427_2)).trans hx427_2
                  replace p427 := eq_true p427
                  replace q427 := eq_true q427
                  have p428 : 0 ≤ (x9_2 : Int) := of_decide_eq_true (by first | (with_reducible assumption) | assumption)
                  have q428 : x9_2 < (t421.length : Int) := of_decide_eq_true (by first | (with_reducible assumption) | assumption)
                  obtain ⟨ad428, e428, hx428_0, hx428_1, hx428_2⟩ := at_T44 (Kd.R_reads' HO_8.out).2.2 x9_2 p428 q428
                  (try rw [← Nbq12.out] at hx428_2)
                  obtain rfl : ad424 = ad428 := (by injection e428)
                  replace p428 := eq_true p428
                  replace q428 := eq_true q428
                  refine start_ (n := 24) (S := fun w' => w'.cell? (ad420.add ((x12_3).toNat * 3)) = some (.int .i64 ((rd_T44 l2 x12_3).f0)) ∧ w'.cell? ⟨(ad420.add ((x12_3).toNat * 3)).block, (ad420.add ((x12_3).toNat * 3)).off + 1, none⟩ = some (.int .u8 ((rd_T44 l2 x12_3).f1)) ∧ w'.cell? ⟨(ad420.add ((x12_3).toNat * 3)).block, (ad420.add ((x12_3).toNat * 3)).off + 2, none⟩ = some (.bool ((rd_T44 l2 x12_3).f2)) ∧ w'.cell? (ad424.add ((x9_2).toNat * 3)) = some (.int .i64 ((rd_T44 t421 x9_2).f0)) ∧ w'.cell? ⟨(ad424.add ((x9_2).toNat * 3)).block, (ad424.add ((x9_2).toNat * 3)).off + 1, none⟩ = some (.int .u8 ((rd_T44 t421 x9_2).f1)) ∧ w'.cell? ⟨(ad424.add ((x9_2).toNat * 3)).block, (ad424.add ((x9_2).toNat * 3)).off + 2, none⟩ = some (.bool (true)) ∧ w'.cell? (ad420.add ((x12_3).toNat * 3)) = some (.int .i64 ((rd_T44 l2 x12_3).f0)) ∧ w'.cell? ⟨(ad420.add ((x12_3).toNat * 3)).block, (ad420.add ((x12_3).toNat * 3)).off + 1, none⟩ = some (.int .u8 ((rd_T44 l2 x12_3).f1)) ∧ w'.cell? ⟨(ad420.add ((x12_3).toNat * 3)).block, (ad420.add ((x12_3).toNat * 3)).off + 2, none⟩ = some (.bool ((rd_T44 l2 x12_3).f2)) ∧ w'.cell? (ad424.add ((x9_2).toNat * 3)) = some (.int .i64 ((rd_T44 t421 x9_2).f0)) ∧ w'.cell? ⟨(ad424.add ((x9_2).toNat * 3)).block, (ad424.add ((x9_2).toNat * 3)).off + 1, none⟩ = some (.int .u8 ((rd_T44 t421 x9_2).f1)) ∧ w'.cell? ⟨(ad424.add ((x9_2).toNat * 3)).block, (ad424.add ((x9_2).toNat * 3)).off + 2, none⟩ = some (.bool (true))) (ds := []) u15_9 (by kernel_rfl) rfl rfl ⟨((HB.out.cell (World.block_lt_of_cell? w _ hw425_0)).trans hw425_0), ((HB.out.cell (World.block_lt_of_cell? w _ hw425_1)).trans hw425_1), ((HB.out.cell (World.block_lt_of_cell? w _ hw425_2)).trans hw425_2), hx426_0, hx426_1, hx426_2, ((HB.out.cell (World.block_lt_of_cell? w _ hw427_0)).trans hw427_0), ((HB.out.cell (World.block_lt_of_cell? w _ hw427_1)).trans hw427_1), ((HB.out.cell (World.block_lt_of_cell? w _ hw427_2)).trans hw427_2), hx428_0, hx428_1, hx428_2⟩ (fun hHeld => ?_); refine with_tabW clepsydraref21_Closed.tab13 clepsydraref21_Closed.bits13 (fun HT_ HW_ => ?_)
                  generalize wr.drew = w24 at HO_8 BK419 HB hx425_0 hx425_1 hx425_2 hx426_0 hx426_1 hx426_2 hx427_0 hx427_1 hx427_2 hx428_0 hx428_1 hx428_2 hHeld ⊢
                  refine pure_ (i := 0) (N := some 44) (v := ?_) (a' := ?_) u15_10 rfl rfl (any_of HT_.out (by kernel_rfl)) (fun _ _ _ h => h) (Or.inl ⟨by rfl, ?_⟩) ?_ ?_
                  rotate_left
                  ·intro w'
                   go_simp
                   with_reducible rfl
                  rotate_left
                  ·simp only [Act.put, s0_, s1_, s2_, i64_w, i32_w]
                   rfl
                  refine pure_ (i := 1) (N := some 45) (v := ?_) (a' := ?_) u15_11 rfl rfl (any_of HT_.out (by kernel_rfl)) (fun _ _ _ h => h) (Or.inl ⟨by rfl, ?_⟩) ?_ ?_
                  rotate_left
                  ·intro w'
                   go_simp
                   with_reducible rfl
                  rotate_left
                  ·simp only [Act.put, s0_, s1_, s2_, i64_w, i32_w]
                   rfl
                  refine pure_ (i := 2) (N := some 46) (v := ?_) (a' := ?_) u15_12 rfl rfl (any_of HT_.out (by kernel_rfl)) (fun _ _ _ h => h) (Or.inl ⟨by rfl, ?_⟩) ?_ ?_
                  rotate_left
                  ·intro w'
                   go_simp
                   with_reducible rfl
                  rotate_left
                  ·simp only [Act.put, s0_, s1_, s2_, i64_w, i32_w]
                   rfl
                  refine pure_ (i := 3) (N := some 47) (v := ?_) (a' := ?_) u15_13 rfl rfl (any_of HT_.out (by kernel_rfl)) (fun _ _ _ h => h) (Or.inl ⟨by rfl, ?_⟩) ?_ ?_
                  rotate_left
                  ·intro w'
                   go_simp
                   with_reducible rfl
                  rotate_left
                  ·simp only [Act.put, s0_, s1_, s2_, i64_w, i32_w]
                   rfl
                  refine pure_ (i := 5) (N := some 49) (v := ?_) (a' := ?_) u15_14 rfl rfl (any_of HT_.out (by kernel_rfl)) (fun _ _ _ h => h) (Or.inl ⟨by rfl, ?_⟩) ?_ ?_
                  rotate_left
                  ·intro w'
                   go_simp
                   with_reducible rfl
                  rotate_left
                  ·simp only [Act.put, s0_, s1_, s2_, i64_w, i32_w]
                   rfl
                  refine pure_ (i := 6) (N := some 50) (v := ?_) (a' := ?_) u15_15 rfl rfl (any_of HT_.out (by kernel_rfl)) (fun _ _ _ h => h) (Or.inl ⟨by rfl, ?_⟩) ?_ ?_
                  rotate_left
                  ·intro w'
                   go_simp
                   with_reducible rfl
                  rotate_left
                  ·simp only [Act.put, s0_, s1_, s2_, i64_w, i32_w]
                   rfl
                  refine pure_ (i := 7) (N := some 51) (v := ?_) (a' := ?_) u15_16 rfl rfl (any_of HT_.out (by kernel_rfl)) (fun _ _ _ h => h) (Or.inl ⟨by rfl, ?_⟩) ?_ ?_
                  rotate_left
                  ·intro w'
                   go_simp
                   with_reducible rfl
                  rotate_left
                  ·simp only [Act.put, s0_, s1_, s2_, i64_w, i32_w]
                   rfl
                  refine pure_ (i := 8) (N := some 52) (v := ?_) (a' := ?_) u15_17 rfl rfl (any_of HT_.out (by kernel_rfl)) (fun _ _ _ h => h) (Or.inl ⟨by rfl, ?_⟩) ?_ ?_
                  rotate_left
                  ·intro w'
                   go_simp
                   with_reducible rfl
                  rotate_left
                  ·simp only [Act.put, s0_, s1_, s2_, i64_w, i32_w]
                   rfl
                  refine take_ (i := 4) (N := some 48) (v := ?_) (a' := ?_) u15_18 rfl rfl (take_ofW HT_.out HW_.out (by kernel_rfl)) (fun _ _ _ h => h) (Or.inl ⟨by rfl, ?_⟩) hHeld ?_ ?_
                  rotate_left
                  ·rintro w' ⟨s0, s1, s2, s3, s4, s5, s6, s7, s8, s9, s10, s11⟩
                   go_simp
                   with_reducible rfl
                  rotate_left
                  ·simp only [Act.put, s0_, s1_, s2_, i64_w, i32_w]
                   rfl
                  refine take_ (i := 9) (N := some 53) (v := ?_) (a' := ?_) u15_19 rfl rfl (take_ofW HT_.out HW_.out (by kernel_rfl)) (fun _ _ _ h => h) (Or.inl ⟨by rfl, ?_⟩) hHeld ?_ ?_
                  rotate_left
                  ·rintro w' ⟨s0, s1, s2, s3, s4, s5, s6, s7, s8, s9, s10, s11⟩
                   go_simp
                   with_reducible rfl
                  rotate_left
                  ·simp only [Act.put, s0_, s1_, s2_, i64_w, i32_w]
                   rfl
                  refine pure_ (i := 10) (N := some 54) (v := ?_) (a' := ?_) u15_20 rfl rfl (any_of HT_.out (by kernel_rfl)) (fun _ _ _ h => h) (Or.inl ⟨by rfl, ?_⟩) ?_ ?_
                  rotate_left
                  ·intro w'
                   go_simp
                   with_reducible rfl
                  rotate_left
                  ·simp only [Act.put, s0_, s1_, s2_, i64_w, i32_w]
                   rfl
                  refine pure_ (i := 11) (N := some 55) (v := ?_) (a' := ?_) u15_21 rfl rfl (any_of HT_.out (by kernel_rfl)) (fun _ _ _ h => h) (Or.inl ⟨by rfl, ?_⟩) ?_ ?_
                  rotate_left
                  ·intro w'
                   go_simp
                   with_reducible rfl
                  rotate_left
                  ·simp only [Act.put, s0_, s1_, s2_, i64_w, i32_w]
                   rfl
                  refine pure_ (i := 12) (N := some 56) (v := ?_) (a' := ?_) u15_22 rfl rfl (any_of HT_.out (by kernel_rfl)) (fun _ _ _ h => h) (Or.inl ⟨by rfl, ?_⟩) ?_ ?_
                  rotate_left
                  ·intro w'
                   go_simp
                   with_reducible rfl
                  rotate_left
                  ·simp only [Act.put, s0_, s1_, s2_, i64_w, i32_w]
                   rfl
                  refine pure_ (i := 13) (N := some 57) (v := ?_) (a' := ?_) u15_23 rfl rfl (any_of HT_.out (by kernel_rfl)) (fun _ _ _ h => h) (Or.inl ⟨by rfl, ?_⟩) ?_ ?_
                  rotate_left
                  ·intro w'
                   go_simp
                   with_reducible rfl
                  rotate_left
                  ·simp only [Act.put, s0_, s1_, s2_, i64_w, i32_w]
                   rfl
                  refine pure_ (i := 14) (N := some 58) (v := ?_) (a' := ?_) u15_24 rfl rfl (any_of HT_.out (by kernel_rfl)) (fun _ _ _ h => h) (Or.inl ⟨by rfl, ?_⟩) ?_ ?_
                  rotate_left
                  ·intro w'
                   go_simp
                   with_reducible rfl
                  rotate_left
                  ·simp only [Act.put, s0_, s1_, s2_, i64_w, i32_w]
                   rfl
                  refine pure_ (i := 15) (N := some 59) (v := ?_) (a' := ?_) u15_25 rfl rfl (any_of HT_.out (by kernel_rfl)) (fun _ _ _ h => h) (Or.inl ⟨by rfl, ?_⟩) ?_ ?_
                  rotate_left
                  ·intro w'
                   go_simp
                   with_reducible rfl
                  rotate_left
                  ·simp only [Act.put, s0_, s1_, s2_, i64_w, i32_w]
                   rfl
                  refine pure_ (i := 17) (N := some 61) (v := ?_) (a' := ?_) u15_26 rfl rfl (any_of HT_.out (by kernel_rfl)) (fun _ _ _ h => h) (Or.inl ⟨by rfl, ?_⟩) ?_ ?_
                  rotate_left
                  ·intro w'
                   go_simp
                   with_reducible rfl
                  rotate_left
                  ·simp only [Act.put, s0_, s1_, s2_, i64_w, i32_w]
                   rfl
                  refine pure_ (i := 18) (N := some 62) (v := ?_) (a' := ?_) u15_27 rfl rfl (any_of HT_.out (by kernel_rfl)) (fun _ _ _ h => h) (Or.inl ⟨by rfl, ?_⟩) ?_ ?_
                  rotate_left
                  ·intro w'
                   go_simp
                   with_reducible rfl
                  rotate_left
                  ·simp only [Act.put, s0_, s1_, s2_, i64_w, i32_w]
                   rfl
                  refine pure_ (i := 19) (N := some 63) (v := ?_) (a' := ?_) u15_28 rfl rfl (any_of HT_.out (by kernel_rfl)) (fun _ _ _ h => h) (Or.inl ⟨by rfl, ?_⟩) ?_ ?_
                  rotate_left
                  ·intro w'
                   go_simp
                   with_reducible rfl
                  rotate_left
                  ·simp only [Act.put, s0_, s1_, s2_, i64_w, i32_w]
                   rfl
                  refine pure_ (i := 20) (N := some 64) (v := ?_) (a' := ?_) u15_29 rfl rfl (any_of HT_.out (by kernel_rfl)) (fun _ _ _ h => h) (Or.inl ⟨by rfl, ?_⟩) ?_ ?_
                  rotate_left
                  ·intro w'
                   go_simp
                   with_reducible rfl
                  rotate_left
                  ·simp only [Act.put, s0_, s1_, s2_, i64_w, i32_w]
                   rfl
                  refine take_ (i := 16) (N := some 60) (v := ?_) (a' := ?_) u15_30 rfl rfl (take_ofW HT_.out HW_.out (by kernel_rfl)) (fun _ _ _ h => h) (Or.inl ⟨by rfl, ?_⟩) hHeld ?_ ?_
                  rotate_left
                  ·rintro w' ⟨s0, s1, s2, s3, s4, s5, s6, s7, s8, s9, s10, s11⟩
                   go_simp
                   with_reducible rfl
                  rotate_left
                  ·simp only [Act.put, s0_, s1_, s2_, i64_w, i32_w]
                   rfl
                  refine take_ (i := 21) (N := some 65) (v := ?_) (a' := ?_) u15_31 rfl rfl (take_ofW HT_.out HW_.out (by kernel_rfl)) (fun _ _ _ h => h) (Or.inl ⟨by rfl, ?_⟩) hHeld ?_ ?_
                  rotate_left
                  ·rintro w' ⟨s0, s1, s2, s3, s4, s5, s6, s7, s8, s9, s10, s11⟩
                   go_simp
                   with_reducible rfl
                  rotate_left
                  ·simp only [Act.put, s0_, s1_, s2_, i64_w, i32_w]
                   rfl
                  refine pure_ (i := 22) (N := some 66) (v := ?_) (a' := ?_) u15_32 rfl rfl (any_of HT_.out (by kernel_rfl)) (fun _ _ _ h => h) (Or.inl ⟨by rfl, ?_⟩) ?_ ?_
                  rotate_left
                  ·intro w'
                   go_simp
                   with_reducible rfl
                  rotate_left
                  ·simp only [Act.put, s0_, s1_, s2_, i64_w, i32_w]
                   rfl
                  refine pure_ (i := 23) (N := some 67) (v := ?_) (a' := ?_) u15_33 rfl rfl (any_of HT_.out (by kernel_rfl)) (fun _ _ _ h => h) (Or.inl ⟨by rfl, ?_⟩) ?_ ?_
                  rotate_left
                  ·intro w'
                   go_simp
                   with_reducible rfl
                  rotate_left
                  ·simp only [Act.put, s0_, s1_, s2_, i64_w, i32_w]
                   rfl
                  refine done_ (done_of HT_.out (by kernel_rfl)) ?_
                  try go_wp2
                  go_roundg k3
                  case measure => have := HK1.out; have := HK2.out; have := HK3.out; omega
                  case rel => exact ⟨(x10_3), (x11_3), (wrap64 (x12_3 + 1)), (by first | rfl | (simp; done) | (simp [*]; done)), (by first | rfl | (simp; done) | (simp [*]; done)), (by first | rfl | (simp; done) | (simp [*]; done)), H', ⟨by have := HK1.out; have := HK2.out; have := HK3.out; omega⟩, ⟨RD HO_8⟩, ⟨by (with_reducible repeat (first | refine blk_drewN ?_ _ | refine blk_drew ?_ | refine blk_alloc ?_ _)); exact BK419.out⟩, ⟨by repeat (first | (with_reducible first | exact HB.out | apply below_alloc | apply pw_below_drewN | apply below_drew1 | refine below_set ?_ GE419.out) | exact HB.out)⟩⟩
                ·rw [if_neg c19] at H
                 have c19b0 : (((rd_T44 l2 x12_3).f0) == ((rd_T44 t421 x9_2).f0)) = false := beq_eq_false_iff_ne.mpr c19
                 have c19b1 : (((rd_T44 l2 x12_3).f0) != ((rd_T44 t421 x9_2).f0)) = true := bne_iff_ne.mpr c19
                 have H' := Aside0.mk H
                 clear H
                 try go_wp2
                 have n0_ := Aside0.mk (Kd.R_drew HO_8.out)
                 have n1_ := Aside0.mk (blk_drew BK419.out)
                 have n2_ := Aside0.mk (below_drew1 HB.out)
                 clear HO_8
                 clear BK419
                 clear HB
                 have HO_8 := n0_
                 have BK419 := n1_
                 have HB := n2_
                 clear n0_ n1_ n2_
                 have p425 : 0 ≤ (x12_3 : Int) := of_decide_eq_true (by first | (with_reducible assumption) | assumption)
                 have q425 : x12_3 < (l2.length : Int) := of_decide_eq_true (by first | (with_reducible assumption) | assumption)
                 obtain ⟨ad425, e425, hx425_0, hx425_1, hx425_2⟩ := at_T44 HR2.out x12_3 p425 q425
                 have hw425_2 := hx425_2
                 have hw425_1 := hx425_1
                 have hw425_0 := hx425_0
                 (try rw [← Nbq12.out] at hx425_2)
                 obtain rfl : ad420 = ad425 := (by injection e425)
                 replace hx425_0 := (HB.out.cell (World.block_lt_of_cell? w _ hx425_0)).trans hx425_0
                 replace hx425_1 := (HB.out.cell (World.block_lt_of_cell? w _ hx425_1)).trans hx425_1
                 replace hx425_2 := (HB.out.cell (World.block_lt_of_cell? w _ hx425_2)).trans hx425_2
                 replace p425 := eq_true p425
                 replace q425 := eq_true q425
                 have p426 : 0 ≤ (x9_2 : Int) := of_decide_eq_true (by first | (with_reducible assumption) | assumption)
                 have q426 : x9_2 < (t421.length : Int) := of_decide_eq_true (by first | (with_reducible assumption) | assumption)
                 obtain ⟨ad426, e426, hx426_0, hx426_1, hx426_2⟩ := at_T44 (Kd.R_reads' HO_8.out).2.2 x9_2 p426 q426
                 (try rw [← Nbq12.out] at hx426_2)
                 obtain rfl : ad424 = ad426 := (by injection e426)
                 replace p426 := eq_true p426
                 replace q426 := eq_true q426
                 refine start_ (n := 24) (S := fun w' => w'.cell? (ad420.add ((x12_3).toNat * 3)) = some (.int .i64 ((rd_T44 l2 x12_3).f0)) ∧ w'.cell? ⟨(ad420.add ((x12_3).toNat * 3)).block, (ad420.add ((x12_3).toNat * 3)).off + 1, none⟩ = some (.int .u8 ((rd_T44 l2 x12_3).f1)) ∧ w'.cell? ⟨(ad420.add ((x12_3).toNat * 3)).block, (ad420.add ((x12_3).toNat * 3)).off + 2, none⟩ = some (.bool ((rd_T44 l2 x12_3).f2)) ∧ w'.cell? (ad424.add ((x9_2).toNat * 3)) = some (.int .i64 ((rd_T44 t421 x9_2).f0)) ∧ w'.cell? ⟨(ad424.add ((x9_2).toNat * 3)).block, (ad424.add ((x9_2).toNat * 3)).off + 1, none⟩ = some (.int .u8 ((rd_T44 t421 x9_2).f1)) ∧ w'.cell? ⟨(ad424.add ((x9_2).toNat * 3)).block, (ad424.add ((x9_2).toNat * 3)).off + 2, none⟩ = some (.bool (true))) (ds := []) u15_9 (by kernel_rfl) rfl rfl ⟨((HB.out.cell (World.block_lt_of_cell? w _ hw425_0)).trans hw425_0), ((HB.out.cell (World.block_lt_of_cell? w _ hw425_1)).trans hw425_1), ((HB.out.cell (World.block_lt_of_cell? w _ hw425_2)).trans hw425_2), hx426_0, hx426_1, hx426_2⟩ (fun hHeld => ?_); refine with_tabW clepsydraref21_Closed.tab13 clepsydraref21_Closed.bits13 (fun HT_ HW_ => ?_)
                 generalize wr.drew = w25 at HO_8 BK419 HB hx425_0 hx425_1 hx425_2 hx426_0 hx426_1 hx426_2 hHeld ⊢
                 refine pure_ (i := 0) (N := some 44) (v := ?_) (a' := ?_) u15_10 rfl rfl (any_of HT_.out (by kernel_rfl)) (fun _ _ _ h => h) (Or.inl ⟨by rfl, ?_⟩) ?_ ?_
                 rotate_left
                 ·intro w'
                  go_simp
                  with_reducible rfl
                 rotate_left
                 ·simp only [Act.put, s0_, s1_, s2_, i64_w, i32_w]
                  rfl
                 refine pure_ (i := 1) (N := some 45) (v := ?_) (a' := ?_) u15_11 rfl rfl (any_of HT_.out (by kernel_rfl)) (fun _ _ _ h => h) (Or.inl ⟨by rfl, ?_⟩) ?_ ?_
                 rotate_left
                 ·intro w'
                  go_simp
                  with_reducible rfl
                 rotate_left
                 ·simp only [Act.put, s0_, s1_, s2_, i64_w, i32_w]
                  rfl
                 refine pure_ (i := 2) (N := some 46) (v := ?_) (a' := ?_) u15_12 rfl rfl (any_of HT_.out (by kernel_rfl)) (fun _ _ _ h => h) (Or.inl ⟨by rfl, ?_⟩) ?_ ?_
                 rotate_left
                 ·intro w'
                  go_simp
                  with_reducible rfl
                 rotate_left
                 ·simp only [Act.put, s0_, s1_, s2_, i64_w, i32_w]
                  rfl
                 refine pure_ (i := 3) (N := some 47) (v := ?_) (a' := ?_) u15_13 rfl rfl (any_of HT_.out (by kernel_rfl)) (fun _ _ _ h => h) (Or.inl ⟨by rfl, ?_⟩) ?_ ?_
                 rotate_left
                 ·intro w'
                  go_simp
                  with_reducible rfl
                 rotate_left
                 ·simp only [Act.put, s0_, s1_, s2_, i64_w, i32_w]
                  rfl
                 refine pure_ (i := 5) (N := some 49) (v := ?_) (a' := ?_) u15_14 rfl rfl (any_of HT_.out (by kernel_rfl)) (fun _ _ _ h => h) (Or.inl ⟨by rfl, ?_⟩) ?_ ?_
                 rotate_left
                 ·intro w'
                  go_simp
                  with_reducible rfl
                 rotate_left
                 ·simp only [Act.put, s0_, s1_, s2_, i64_w, i32_w]
                  rfl
                 refine pure_ (i := 6) (N := some 50) (v := ?_) (a' := ?_) u15_15 rfl rfl (any_of HT_.out (by kernel_rfl)) (fun _ _ _ h => h) (Or.inl ⟨by rfl, ?_⟩) ?_ ?_
                 rotate_left
                 ·intro w'
                  go_simp
                  with_reducible rfl
                 rotate_left
                 ·simp only [Act.put, s0_, s1_, s2_, i64_w, i32_w]
                  rfl
                 refine pure_ (i := 7) (N := some 51) (v := ?_) (a' := ?_) u15_16 rfl rfl (any_of HT_.out (by kernel_rfl)) (fun _ _ _ h => h) (Or.inl ⟨by rfl, ?_⟩) ?_ ?_
                 rotate_left
                 ·intro w'
                  go_simp
                  with_reducible rfl
                 rotate_left
                 ·simp only [Act.put, s0_, s1_, s2_, i64_w, i32_w]
                  rfl
                 refine pure_ (i := 8) (N := some 52) (v := ?_) (a' := ?_) u15_17 rfl rfl (any_of HT_.out (by kernel_rfl)) (fun _ _ _ h => h) (Or.inl ⟨by rfl, ?_⟩) ?_ ?_
                 rotate_left
                 ·intro w'
                  go_simp
                  with_reducible rfl
                 rotate_left
                 ·simp only [Act.put, s0_, s1_, s2_, i64_w, i32_w]
                  rfl
                 refine take_ (i := 4) (N := some 48) (v := ?_) (a' := ?_) u15_18 rfl rfl (take_ofW HT_.out HW_.out (by kernel_rfl)) (fun _ _ _ h => h) (Or.inl ⟨by rfl, ?_⟩) hHeld ?_ ?_
                 rotate_left
                 ·rintro w' ⟨s0, s1, s2, s3, s4, s5⟩
                  go_simp
                  with_reducible rfl
                 rotate_left
                 ·simp only [Act.put, s0_, s1_, s2_, i64_w, i32_w]
                  rfl
                 refine take_ (i := 9) (N := some 53) (v := ?_) (a' := ?_) u15_19 rfl rfl (take_ofW HT_.out HW_.out (by kernel_rfl)) (fun _ _ _ h => h) (Or.inl ⟨by rfl, ?_⟩) hHeld ?_ ?_
                 rotate_left
                 ·rintro w' ⟨s0, s1, s2, s3, s4, s5⟩
                  go_simp
                  with_reducible rfl
                 rotate_left
                 ·simp only [Act.put, s0_, s1_, s2_, i64_w, i32_w]
                  rfl
                 refine pure_ (i := 10) (N := some 54) (v := ?_) (a' := ?_) u15_20 rfl rfl (any_of HT_.out (by kernel_rfl)) (fun _ _ _ h => h) (Or.inl ⟨by rfl, ?_⟩) ?_ ?_
                 rotate_left
                 ·intro w'
                  go_simp
                  with_reducible rfl
                 rotate_left
                 ·simp only [Act.put, s0_, s1_, s2_, i64_w, i32_w]
                  rfl
                 refine pure_ (i := 11) (N := some 55) (v := ?_) (a' := ?_) u15_21 rfl rfl (any_of HT_.out (by kernel_rfl)) (fun _ _ _ h => h) (Or.inl ⟨by rfl, ?_⟩) ?_ ?_
                 rotate_left
                 ·intro w'
                  go_simp
                  with_reducible rfl
                 rotate_left
                 ·simp only [Act.put, s0_, s1_, s2_, i64_w, i32_w]
                  rfl
                 refine pure_ (i := 12) (N := some 56) (v := undef) (a' := ?_) u15_22 rfl rfl (any_of HT_.out (by kernel_rfl)) (fun _ _ _ h => h) (Or.inr ⟨by rfl, rfl⟩) ?_ ?_
                 rotate_left
                 ·simp only [Act.put, s0_, s1_, s2_, i64_w, i32_w]
                  rfl
                 refine pure_ (i := 13) (N := some 57) (v := undef) (a' := ?_) u15_23 rfl rfl (any_of HT_.out (by kernel_rfl)) (fun _ _ _ h => h) (Or.inr ⟨by rfl, rfl⟩) ?_ ?_
                 rotate_left
                 ·simp only [Act.put, s0_, s1_, s2_, i64_w, i32_w]
                  rfl
                 refine pure_ (i := 14) (N := some 58) (v := undef) (a' := ?_) u15_24 rfl rfl (any_of HT_.out (by kernel_rfl)) (fun _ _ _ h => h) (Or.inr ⟨by rfl, rfl⟩) ?_ ?_
                 rotate_left
                 ·simp only [Act.put, s0_, s1_, s2_, i64_w, i32_w]
                  rfl
                 refine pure_ (i := 15) (N := some 59) (v := undef) (a' := ?_) u15_25 rfl rfl (any_of HT_.out (by kernel_rfl)) (fun _ _ _ h => h) (Or.inr ⟨by rfl, rfl⟩) ?_ ?_
                 rotate_left
                 ·simp only [Act.put, s0_, s1_, s2_, i64_w, i32_w]
                  rfl
                 refine pure_ (i := 16) (N := some 60) (v := undef) (a' := ?_) u15_34 rfl rfl (any_of HT_.out (by kernel_rfl)) (fun _ _ _ h => h) (Or.inr ⟨by rfl, rfl⟩) ?_ ?_
                 rotate_left
                 ·simp only [Act.put, s0_, s1_, s2_, i64_w, i32_w]
                  rfl
                 refine pure_ (i := 17) (N := some 61) (v := undef) (a' := ?_) u15_35 rfl rfl (any_of HT_.out (by kernel_rfl)) (fun _ _ _ h => h) (Or.inr ⟨by rfl, rfl⟩) ?_ ?_
                 rotate_left
                 ·simp only [Act.put, s0_, s1_, s2_, i64_w, i32_w]
                  rfl
                 refine pure_ (i := 18) (N := some 62) (v := undef) (a' := ?_) u15_36 rfl rfl (any_of HT_.out (by kernel_rfl)) (fun _ _ _ h => h) (Or.inr ⟨by rfl, rfl⟩) ?_ ?_
                 rotate_left
                 ·simp only [Act.put, s0_, s1_, s2_, i64_w, i32_w]
                  rfl
                 refine pure_ (i := 19) (N := some 63) (v := undef) (a' := ?_) u15_37 rfl rfl (any_of HT_.out (by kernel_rfl)) (fun _ _ _ h => h) (Or.inr ⟨by rfl, rfl⟩) ?_ ?_
                 rotate_left
                 ·simp only [Act.put, s0_, s1_, s2_, i64_w, i32_w]
                  rfl
                 refine pure_ (i := 20) (N := some 64) (v := undef) (a' := ?_) u15_30 rfl rfl (any_of HT_.out (by kernel_rfl)) (fun _ _ _ h => h) (Or.inr ⟨by rfl, rfl⟩) ?_ ?_
                 rotate_left
                 ·simp only [Act.put, s0_, s1_, s2_, i64_w, i32_w]
                  rfl
                 refine pure_ (i := 21) (N := some 65) (v := undef) (a' := ?_) u15_31 rfl rfl (any_of HT_.out (by kernel_rfl)) (fun _ _ _ h => h) (Or.inr ⟨by rfl, rfl⟩) ?_ ?_
                 rotate_left
                 ·simp only [Act.put, s0_, s1_, s2_, i64_w, i32_w]
                  rfl
                 refine pure_ (i := 22) (N := some 66) (v := undef) (a' := ?_) u15_32 rfl rfl (any_of HT_.out (by kernel_rfl)) (fun _ _ _ h => h) (Or.inr ⟨by rfl, rfl⟩) ?_ ?_
                 rotate_left
                 ·simp only [Act.put, s0_, s1_, s2_, i64_w, i32_w]
                  rfl
                 refine pure_ (i := 23) (N := some 67) (v := ?_) (a' := ?_) u15_33 rfl rfl (any_of HT_.out (by kernel_rfl)) (fun _ _ _ h => h) (Or.inl ⟨by rfl, ?_⟩) ?_ ?_
                 rotate_left
                 ·intro w'
                  go_simp
                  with_reducible rfl
                 rotate_left
                 ·simp only [Act.put, s0_, s1_, s2_, i64_w, i32_w]
                  rfl
                 refine done_ (done_of HT_.out (by kernel_rfl)) ?_
                 try go_wp2
                 go_roundg k3
                 case measure => have := HK1.out; have := HK2.out; have := HK3.out; omega
                 case rel => exact ⟨(x10_3), (x11_3), (wrap64 (x12_3 + 1)), (by first | rfl | (simp; done) | (simp [*]; done)), (by first | rfl | (simp; done) | (simp [*]; done)), (by first | rfl | (simp; done) | (simp [*]; done)), H', ⟨by have := HK1.out; have := HK2.out; have := HK3.out; omega⟩, ⟨RD HO_8⟩, ⟨by (with_reducible repeat (first | refine blk_drewN ?_ _ | refine blk_drew ?_ | refine blk_alloc ?_ _)); exact BK419.out⟩, ⟨by repeat (first | (with_reducible first | exact HB.out | apply below_alloc | apply pw_below_drewN | apply below_drew1 | refine below_set ?_ GE419.out) | exact HB.out)⟩⟩
               ·rw [if_neg c18] at H
                exact absurd H (by simp)
              ·rw [if_neg c17] at H
               exact absurd H (by simp)
             ·rw [if_neg c16] at H
              exact absurd H (by simp)
            ·rw [if_neg c15] at H
             have c15b0 : decide (x12_3 < (l2.length : Int)) = false := decide_eq_false c15
             clear c15
             by_cases c26 : x10_3 = true
             ·subst c26
              have H1 : (if 0 ≤ x7_1 then (if x7_1 < (l2.length : Int) then (if (rd_T44 l2 x7_1).f2 = true then (if x11_3 = true then (clepsydraref21_Closed.l1 k3 l1 l2 x7_1 t421 (wrap64 (x9_2 + 1)) l0_0 l0_1 l0_2 l0_3 l0_4 l0_5 l0_6) else (some false)) else (clepsydraref21_Closed.l1 k3 l1 l2 x7_1 t421 (wrap64 (x9_2 + 1)) l0_0 l0_1 l0_2 l0_3 l0_4 l0_5 l0_6)) else (none)) else (none)) = some r := by rw [if_pos rfl] at H; exact H
              clear H
              have H := H1
              clear H1
              by_cases c27 : 0 ≤ x7_1
              ·rw [if_pos c27] at H
               have c27b0 : decide (0 ≤ x7_1) = true := decide_eq_true c27
               clear c27
               by_cases c28 : x7_1 < (l2.length : Int)
               ·rw [if_pos c28] at H
                have c28b0 : decide (x7_1 < (l2.length : Int)) = true := decide_eq_true c28
                clear c28
                obtain ⟨bq29, hbq29⟩ : ∃ b_ : Bool, b_ = ((rd_T44 l2 x7_1).f2) := ⟨_, rfl⟩
                replace H : (if bq29 = true then (if x11_3 = true then (clepsydraref21_Closed.l1 k3 l1 l2 x7_1 t421 (wrap64 (x9_2 + 1)) l0_0 l0_1 l0_2 l0_3 l0_4 l0_5 l0_6) else (some false)) else (clepsydraref21_Closed.l1 k3 l1 l2 x7_1 t421 (wrap64 (x9_2 + 1)) l0_0 l0_1 l0_2 l0_3 l0_4 l0_5 l0_6)) = some r := by rw [← hbq29] at H; exact H
                have Nbq29 := Aside0.mk hbq29
                clear hbq29
                by_cases c30 : bq29 = true
                ·subst c30
                 have H1 : (if x11_3 = true then (clepsydraref21_Closed.l1 k3 l1 l2 x7_1 t421 (wrap64 (x9_2 + 1)) l0_0 l0_1 l0_2 l0_3 l0_4 l0_5 l0_6) else (some false)) = some r := by rw [if_pos rfl] at H; exact H
                 clear H
                 have H := H1
                 clear H1
                 by_cases c31 : x11_3 = true
                 ·subst c31
                  have H1 : (clepsydraref21_Closed.l1 k3 l1 l2 x7_1 t421 (wrap64 (x9_2 + 1)) l0_0 l0_1 l0_2 l0_3 l0_4 l0_5 l0_6) = some r := by rw [if_pos rfl] at H; exact H
                  clear H
                  have H := H1
                  clear H1
                  have H' := Aside0.mk H
                  clear H
                  have p430 : 0 ≤ (x7_1 : Int) := of_decide_eq_true (by first | (with_reducible assumption) | assumption)
                  have q430 : x7_1 < (l2.length : Int) := of_decide_eq_true (by first | (with_reducible assumption) | assumption)
                  obtain ⟨ad430, e430, hx430_0, hx430_1, hx430_2⟩ := at_T44 HR2.out x7_1 p430 q430
                  (try rw [← Nbq12.out] at hx430_2)
                  (try rw [← Nbq29.out] at hx430_2)
                  obtain rfl : ad420 = ad430 := (by injection e430)
                  replace hx430_0 := (HB.out.cell (World.block_lt_of_cell? w _ hx430_0)).trans hx430_0
                  replace hx430_1 := (HB.out.cell (World.block_lt_of_cell? w _ hx430_1)).trans hx430_1
                  replace hx430_2 := (HB.out.cell (World.block_lt_of_cell? w _ hx430_2)).trans hx430_2
                  replace p430 := eq_true p430
                  replace q430 := eq_true q430
                  go_wp2
                  go_roundg k3
                  case measure => have := HK1.out; have := HK2.out; have := HK3.out; omega
                  case rel => exact ⟨(wrap64 (x9_2 + 1)), (by first | rfl | (simp; done) | (simp [*]; done)), H', ⟨by have := HK1.out; have := HK2.out; have := HK3.out; omega⟩, ⟨RD HO_8⟩, ⟨by (with_reducible repeat (first | refine blk_drewN ?_ _ | refine blk_drew ?_ | refine blk_alloc ?_ _)); exact BK419.out⟩, ⟨by repeat (first | (with_reducible first | exact HB.out | apply below_alloc | apply pw_below_drewN | apply below_drew1 | refine below_set ?_ GE419.out) | exact HB.out)⟩⟩
                 ·replace c31 := Bool.eq_false_iff.mpr c31
                  subst c31
                  have H1 : (some false) = some r := by rw [if_neg (show ¬ (false = true) by decide)] at H; exact H
                  clear H
                  have H := H1
                  clear H1
                  obtain rfl := Option.some.inj H
                  have p430 : 0 ≤ (x7_1 : Int) := of_decide_eq_true (by first | (with_reducible assumption) | assumption)
                  have q430 : x7_1 < (l2.length : Int) := of_decide_eq_true (by first | (with_reducible assumption) | assumption)
                  obtain ⟨ad430, e430, hx430_0, hx430_1, hx430_2⟩ := at_T44 HR2.out x7_1 p430 q430
                  (try rw [← Nbq12.out] at hx430_2)
                  (try rw [← Nbq29.out] at hx430_2)
                  obtain rfl : ad420 = ad430 := (by injection e430)
                  replace hx430_0 := (HB.out.cell (World.block_lt_of_cell? w _ hx430_0)).trans hx430_0
                  replace hx430_1 := (HB.out.cell (World.block_lt_of_cell? w _ hx430_1)).trans hx430_1
                  replace hx430_2 := (HB.out.cell (World.block_lt_of_cell? w _ hx430_2)).trans hx430_2
                  replace p430 := eq_true p430
                  replace q430 := eq_true q430
                  go_wp2
                  go_ret
                  exact ⟨by first | rfl | (simp [errW_none, errW_some] <;> rfl) | (simp [*, errW_none, errW_some] <;> rfl), by repeat (first | (with_reducible first | exact HB.out | apply below_alloc | apply pw_below_drewN | apply below_drew1 | refine below_set ?_ GE419.out) | exact HB.out)⟩
                ·replace c30 := Bool.eq_false_iff.mpr c30
                 subst c30
                 have H1 : (clepsydraref21_Closed.l1 k3 l1 l2 x7_1 t421 (wrap64 (x9_2 + 1)) l0_0 l0_1 l0_2 l0_3 l0_4 l0_5 l0_6) = some r := by rw [if_neg (show ¬ (false = true) by decide)] at H; exact H
                 clear H
                 have H := H1
                 clear H1
                 have H' := Aside0.mk H
                 clear H
                 have p430 : 0 ≤ (x7_1 : Int) := of_decide_eq_true (by first | (with_reducible assumption) | assumption)
                 have q430 : x7_1 < (l2.length : Int) := of_decide_eq_true (by first | (with_reducible assumption) | assumption)
                 obtain ⟨ad430, e430, hx430_0, hx430_1, hx430_2⟩ := at_T44 HR2.out x7_1 p430 q430
                 (try rw [← Nbq12.out] at hx430_2)
                 (try rw [← Nbq29.out] at hx430_2)
                 obtain rfl : ad420 = ad430 := (by injection e430)
                 replace hx430_0 := (HB.out.cell (World.block_lt_of_cell? w _ hx430_0)).trans hx430_0
                 replace hx430_1 := (HB.out.cell (World.block_lt_of_cell? w _ hx430_1)).trans hx430_1
                 replace hx430_2 := (HB.out.cell (World.block_lt_of_cell? w _ hx430_2)).trans hx430_2
                 replace p430 := eq_true p430
                 replace q430 := eq_true q430
                 go_wp2
                 go_roundg k3
                 case measure => have := HK1.out; have := HK2.out; have := HK3.out; omega
                 case rel => exact ⟨(wrap64 (x9_2 + 1)), (by first | rfl | (simp; done) | (simp [*]; done)), H', ⟨by have := HK1.out; have := HK2.out; have := HK3.out; omega⟩, ⟨RD HO_8⟩, ⟨by (with_reducible repeat (first | refine blk_drewN ?_ _ | refine blk_drew ?_ | refine blk_alloc ?_ _)); exact BK419.out⟩, ⟨by repeat (first | (with_reducible first | exact HB.out | apply below_alloc | apply pw_below_drewN | apply below_drew1 | refine below_set ?_ GE419.out) | exact HB.out)⟩⟩
               ·rw [if_neg c28] at H
                exact absurd H (by simp)
              ·rw [if_neg c27] at H
               exact absurd H (by simp)
             ·replace c26 := Bool.eq_false_iff.mpr c26
              subst c26
              have H1 : (some false) = some r := by rw [if_neg (show ¬ (false = true) by decide)] at H; exact H
              clear H
              have H := H1
              clear H1
              obtain rfl := Option.some.inj H
              go_wp2
              go_ret
              exact ⟨by first | rfl | (simp [errW_none, errW_some] <;> rfl) | (simp [*, errW_none, errW_some] <;> rfl), by repeat (first | (with_reducible first | exact HB.out | apply below_alloc | apply pw_below_drewN | apply below_drew1 | refine below_set ?_ GE419.out) | exact HB.out)⟩
         ·replace c13 := Bool.eq_false_iff.mpr c13
          subst c13
          have H1 : (clepsydraref21_Closed.l1 k2 l1 l2 x7_1 t421 (wrap64 (x9_2 + 1)) l0_0 l0_1 l0_2 l0_3 l0_4 l0_5 l0_6) = some r := by rw [if_neg (show ¬ (false = true) by decide)] at H; exact H
          clear H
          have H := H1
          clear H1
          have H' := Aside0.mk H
          clear H
          obtain ⟨Ao32, co32, eo32⟩ := Kd.R_slice HO_8.out
          subst eo32
          have p424 : 0 ≤ (x9_2 : Int) := of_decide_eq_true (by first | (with_reducible assumption) | assumption)
          have q424 : x9_2 < (t421.length : Int) := of_decide_eq_true (by first | (with_reducible assumption) | assumption)
          obtain ⟨ad424, e424, hx424_0, hx424_1, hx424_2⟩ := at_T44 (Kd.R_reads' HO_8.out).2.2 x9_2 p424 q424
          (try rw [← Nbq12.out] at hx424_2)
          cases e424
          replace p424 := eq_true p424
          replace q424 := eq_true q424
          go_wp2
          go_roundg k2
          case measure => have := HK1.out; have := HK2.out; omega
          case rel => exact ⟨(wrap64 (x9_2 + 1)), (by first | rfl | (simp; done) | (simp [*]; done)), H', ⟨by have := HK1.out; have := HK2.out; omega⟩, ⟨RD HO_8⟩, ⟨by (with_reducible repeat (first | refine blk_drewN ?_ _ | refine blk_drew ?_ | refine blk_alloc ?_ _)); exact BK419.out⟩, ⟨by repeat (first | (with_reducible first | exact HB.out | apply below_alloc | apply pw_below_drewN | apply below_drew1 | refine below_set ?_ GE419.out) | exact HB.out)⟩⟩
        ·rw [if_neg c11] at H
         exact absurd H (by simp)
       ·rw [if_neg c10] at H
        have c10b0 : decide (x9_2 < (t421.length : Int)) = false := decide_eq_false c10
        clear c10
        have H' := Aside0.mk H
        clear H
        obtain ⟨Ao33, co33, eo33⟩ := Kd.R_slice HO_8.out
        subst eo33
        go_wp2
        go_roundg k2
        case measure => have := HK1.out; have := HK2.out; omega
        case rel => exact ⟨(wrap64 (x7_1 + 1)), (by first | rfl | (simp; done) | (simp [*]; done)), H', ⟨by have := HK1.out; have := HK2.out; omega⟩, ⟨by (with_reducible repeat (first | refine blk_drewN ?_ _ | refine blk_drew ?_ | refine blk_alloc ?_ _)); exact BK419.out⟩, ⟨by repeat (first | (with_reducible first | exact HB.out | apply below_alloc | apply pw_below_drewN | apply below_drew1 | refine below_set ?_ GE419.out) | exact HB.out)⟩⟩
    ·rw [if_neg c6] at H
     exact absurd H (by simp)
   ·rw [if_neg c5] at H
    have c5b0 : decide (x7_1 < (l2.length : Int)) = false := decide_eq_false c5
    clear c5
    obtain rfl := Option.some.inj H
    go_wp2
    go_ret
    exact ⟨by first | rfl | (simp [errW_none, errW_some] <;> rfl) | (simp [*, errW_none, errW_some] <;> rfl), by repeat (first | (with_reducible first | exact HB.out | apply below_alloc | apply pw_below_drewN | apply below_drew1 | refine below_set ?_ GE419.out) | exact HB.out)⟩

end Go.Proofs.Ytclgclcoblfddaa.P
