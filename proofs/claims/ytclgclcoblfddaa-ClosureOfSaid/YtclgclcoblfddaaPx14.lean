/- Printed by a program for this claim: functions of the program as plain functions, and that the machine computes them. -/
import Derived.Test.YtclgclcoblfddaaPx0
import Derived.Test.YtclgclcoblfddaaPShort
import Derived.Test.YtclgclcoblfddaaPx1
import Derived.Test.YtclgclcoblfddaaPx4
import Derived.Test.YtclgclcoblfddaaPx6
import Derived.Test.YtclgclcoblfddaaPx12
import Derived.Test.YtclgclcoblfddaaPx13
namespace Go.Proofs.Ytclgclcoblfddaa.P
open Go.RowKit Go.Proofs.YtclgclcoblfddaaW.PrintWords Go.Proofs.YtclgclcoblfddaaW.PrintLast Go.Proofs.YtclgclcoblfddaaW.PrintMore
attribute [local go_sem] Zeg Zee Zfg Zff Zdo Zdm Zef Zed
set_option linter.unusedVariables false
set_option linter.unusedSimpArgs false
theorem Zcj {p : Prop} (h : p := by kernel_rfl) : p := h
theorem Zcg {p : Prop} (h : p := by exact (fun _ hk => hk.2)) : p := h
theorem t14_11 {p : Prop} (h : p := by first | rfl | (simp; done) | (simp [*]; done)) : p := h
theorem t14_10 {p : Prop} (h : p := by first | (with_reducible assumption) | assumption) : p := h
theorem t14_9 {p : Prop} (h : p := by exact (fun _ hk => ⟨hk.2.1, ⟨hk.2.2.2.1, ⟨hk.2.2.2.2.1, ⟨hk.2.2.2.2.2.1, hk.2.2.2.2.2.2⟩⟩⟩⟩)) : p := h
theorem t14_8 {p : Prop} (h : p := by exact (fun _ hk => ⟨hk.1.1.2, ⟨hk.2, ⟨hk.1.1.1.1.1, ⟨hk.1.1.1.1.2.1, ⟨hk.1.1.1.1.2.2, hk.1.1.1.2⟩⟩⟩⟩⟩)) : p := h
theorem t14_7 {p : Prop} (h : p := by exact (fun _ hk => ⟨hk.1.1.1.2, ⟨hk.1.2, ⟨hk.1.1.1.1.1.1, ⟨hk.1.1.1.1.1.2.1, ⟨hk.1.1.1.1.1.2.2, hk.1.1.1.1.2⟩⟩⟩⟩⟩)) : p := h
theorem t14_6 {p : Prop} (h : p := by exact (fun _ hk => ⟨hk.1.1.1, ⟨hk.1.1.2.1, ⟨hk.2, ⟨hk.1.1.2.2.1, ⟨hk.1.1.2.2.2.1, ⟨hk.1.1.2.2.2.2.1, hk.1.1.2.2.2.2.2⟩⟩⟩⟩⟩⟩)) : p := h
theorem t14_5 {p : Prop} (h : p := by (try simp only [List.map_toArray, List.map_cons, List.map_nil]); first | done | rfl | (simp only [List.length_drop, List.length_take]; rfl)) : p := h
theorem t14_4 {p : Prop} (h : p := by repeat (first | (with_reducible first | exact HB.out | apply Zau | apply Zaj | apply Zal | refine Zai ?_ GE345.out) | exact HB.out)) : p := h
theorem t14_3 {p : Prop} (h : p := by repeat (first | (with_reducible first | exact HB.out | apply Zau | apply Zaj | apply Zal | refine Zai ?_ GE345.out | refine Zai ?_ GE346.out) | exact HB.out)) : p := h
theorem t14_2 {p : Prop} (h : p := by repeat (first | (with_reducible first | exact HB.out | apply Zau | apply Zaj | apply Zal | refine Zai ?_ GE345.out | refine Zai ?_ GE346.out | refine Zai ?_ GE347.out) | exact HB.out)) : p := h
theorem Zeu {p : Prop} (h : p := by repeat (first | (with_reducible first | exact HB.out | apply Zau | apply Zaj | apply Zal | refine Zai ?_ GE345.out | refine Zai ?_ GE346.out | refine Zai ?_ GE347.out | refine Zai ?_ GE371.out) | exact HB.out)) : p := h
theorem t14_0 {p : Prop} (h : p := by exact (fun k_ hk_ => ⟨Or.elim hk_ (fun hs_ => have hs_ := or7_14 hs_; fun e_ => Nat.not_le.2 hs_ (by rw [e_]; exact GW345.out)) (fun hn_ => (Kd.freshB (g := gb345) (o := .cells #[.slice A0_0 l0_0.length c0_0, .slice A0_1 l0_1.length c0_1, .slice A0_2 l0_2.length c0_2, .slice A0_3 l0_3.length c0_3, .slice A0_4 l0_4.length c0_4, .slice A0_5 l0_5.length c0_5, .slice A0_6 l0_6.length c0_6, .slice A0_7 l0_7.length c0_7, .slice A0_8 l0_8.length c0_8, .slice A0_9 l0_9.length c0_9] 24 (0, 0)) (KB BK345) k_ hn_)), Or.elim hk_ (fun hs_ => have hs_ := or7_14 hs_; fun e_ => Nat.not_le.2 hs_ (by rw [e_]; exact GW346.out)) (fun hn_ => (Kd.freshB (g := gb346) (o := .cells #[.int .i64 a2_0, .int .u8 a2_1] 32 (0, 0)) (KB BK346) k_ hn_)), Or.elim hk_ (fun hs_ => have hs_ := or7_14 hs_; fun e_ => Nat.not_le.2 hs_ (by rw [e_]; exact GW347.out)) (fun hn_ => (Kd.freshB (g := gb347) (o := .cells #[.int .i64 a4_0, .int .u8 a4_1] 32 (0, 0)) (KB BK347) k_ hn_))⟩)) : p := h
theorem or7_14 {P : Prop} (h : P ∨ P ∨ P ∨ P ∨ P ∨ P ∨ P) : P := h.elim id fun h => h.elim id fun h => h.elim id fun h => h.elim id fun h => h.elim id fun h => h.elim id fun h => h
def u14_0 : Array Bool := #[false, false, false, false, false, false, false, false, false, false, false, false]
def u14_1 : Array Bool := #[false, true, false, false, false, false, false, false, false, false, false, false]
def u14_2 : Array Bool := #[false, true, false, false, true, false, false, false, false, false, false, false]
def u14_3 : Array Bool := #[true, true, false, false, true, false, false, false, false, false, false, false]
def u14_4 : Array Bool := #[true, true, true, false, true, false, false, false, false, false, false, false]
def u14_5 : Array Bool := #[true, true, true, true, true, false, false, false, false, false, false, false]
def u14_6 : Array Bool := #[true, true, true, true, true, true, false, false, false, false, false, false]
def u14_7 : Array Bool := #[true, true, true, true, true, true, true, false, false, false, false, false]
def u14_8 : Array Bool := #[true, true, true, true, true, true, true, true, false, false, false, false]
def u14_9 : Array Bool := #[true, true, true, true, true, true, true, true, true, false, false, false]
def u14_10 : Array Bool := #[true, true, true, true, true, true, true, true, true, true, false, false]
def u14_11 : Array Bool := #[true, true, true, true, true, true, true, true, true, true, true, false]
def u14_12 : Array Bool := #[true, true, true, true, true, true, true, true, true, true, true, true]
def u14_13 : Array Bool := #[false, false, false, false, false, false, false, false, false, false, false, false, false, false, false, false, false, false]
def u14_14 : Array Bool := #[true, false, false, false, false, false, false, false, false, false, false, false, false, false, false, false, false, false]
def u14_15 : Array Bool := #[true, true, false, false, false, false, false, false, false, false, false, false, false, false, false, false, false, false]
def u14_16 : Array Bool := #[true, true, true, false, false, false, false, false, false, false, false, false, false, false, false, false, false, false]
def u14_17 : Array Bool := #[true, true, true, true, false, false, false, false, false, false, false, false, false, false, false, false, false, false]
def u14_18 : Array Bool := #[true, true, true, true, true, false, false, false, false, false, false, false, false, false, false, false, false, false]
def u14_19 : Array Bool := #[true, true, true, true, true, true, false, false, false, false, false, false, false, false, false, false, false, false]
def u14_20 : Array Bool := #[true, true, true, true, true, true, true, false, false, false, false, false, false, false, false, false, false, false]
def u14_21 : Array Bool := #[true, true, true, true, true, true, true, true, false, false, false, false, false, false, false, false, false, false]
def u14_22 : Array Bool := #[true, true, true, true, true, true, true, true, true, false, false, false, false, false, false, false, false, false]
def u14_23 : Array Bool := #[true, true, true, true, true, true, true, true, true, true, false, false, false, false, false, false, false, false]
def u14_24 : Array Bool := #[true, true, true, true, true, true, true, true, true, true, true, false, false, false, false, false, false, false]
def u14_25 : Array Bool := #[true, true, true, true, true, true, true, true, true, true, true, true, false, false, false, false, false, false]
def u14_26 : Array Bool := #[true, true, true, true, true, true, true, true, true, true, true, true, true, false, false, false, false, false]
def u14_27 : Array Bool := #[true, true, true, true, true, true, true, true, true, true, true, true, true, true, false, false, false, false]
def u14_28 : Array Bool := #[true, true, true, true, true, true, true, true, true, true, true, true, true, true, true, false, false, false]
def u14_29 : Array Bool := #[true, true, true, true, true, true, true, true, true, true, true, true, true, true, true, true, false, false]
def u14_30 : Array Bool := #[true, true, true, true, true, true, true, true, true, true, true, true, true, true, true, true, true, false]
def u14_31 : Array Bool := #[true, true, true, true, true, true, true, true, true, true, true, true, true, true, true, true, true, true]
attribute [local go_sem high] eqA32
mutual
def Zaa.j0 : Nat → List Bool → List (S32) → List (S34) → Bool → List (S44) → Bool → List (List Int) → List (List Int) → List (List Int) → List (List Int) → List (List Int) → List (List Int) → List (List Int) → List (List Int) → List (List Int) → List (List Int) → Int → Int → Int → Int → Option (Bool)
 | 0, _, _, _, _, _, _, _, _, _, _, _, _, _, _, _, _, _, _, _, _ => none
 | k + 1, x1, x3, x12, x13, x14, x57, x346000, x346001, x346002, x346003, x346004, x346005, x346006, x346007, x346008, x346009, x347000, x347001, x348000, x348001 => if x57 = true then (some false) else (if ([] : List (S32)).length + x3.length < 8796093022208 then ((some (([] : List (S32)) ++ x3 : List (S32))).bind fun y390 => (if y390.length < 8796093022208 then ((Zcs.f x346000 x346001 x346002 x346003 x346004 x346005 x346006 x346007 x346008 x346009 x1 x347000 x347001 (y390 ++ [(⟨x348000, x348001⟩ : S32)])).bind fun bt396 => (if bt396.2 = true then (Zaa.j1 k x1 x3 x12 x13 x14 bt396.1 (!x13) x346000 x346001 x346002 x346003 x346004 x346005 x346006 x346007 x346008 x346009 x347000 x347001 x348000 x348001) else (Zaa.j1 k x1 x3 x12 x13 x14 bt396.1 false x346000 x346001 x346002 x346003 x346004 x346005 x346006 x346007 x346008 x346009 x347000 x347001 x348000 x348001))) else (none))) else (none))
def Zaa.j1 : Nat → List Bool → List (S32) → List (S34) → Bool → List (S44) → List (S34) → Bool → List (List Int) → List (List Int) → List (List Int) → List (List Int) → List (List Int) → List (List Int) → List (List Int) → List (List Int) → List (List Int) → List (List Int) → Int → Int → Int → Int → Option (Bool)
 | 0, _, _, _, _, _, _, _, _, _, _, _, _, _, _, _, _, _, _, _, _, _ => none
 | k + 1, x1, x3, x12, x13, x14, x17, x77, x346000, x346001, x346002, x346003, x346004, x346005, x346006, x346007, x346008, x346009, x347000, x347001, x348000, x348001 => if x77 = true then (some false) else (Zaa.l0 k x1 x3 x12 x13 x14 x17 0 x346000 x346001 x346002 x346003 x346004 x346005 x346006 x346007 x346008 x346009 x347000 x347001 x348000 x348001)
def Zaa.l0 : Nat → List Bool → List (S32) → List (S34) → Bool → List (S44) → List (S34) → Int → List (List Int) → List (List Int) → List (List Int) → List (List Int) → List (List Int) → List (List Int) → List (List Int) → List (List Int) → List (List Int) → List (List Int) → Int → Int → Int → Int → Option (Bool)
 | 0, _, _, _, _, _, _, _, _, _, _, _, _, _, _, _, _, _, _, _, _, _ => none
 | k + 1, x1, x3, x12, x13, x14, x17, x19, x346000, x346001, x346002, x346003, x346004, x346005, x346006, x346007, x346008, x346009, x347000, x347001, x348000, x348001 => if x19 < (x17.length : Int) then (if 0 ≤ x19 then ((Zbn.f ((Zby x17 x19).f0.f0) ((Zby x17 x19).f0.f1)).bind fun bt401 => ((Zak.f k x14 bt401.1 bt401.2.1 bt401.2.2).bind fun t404 => (if t404 < 0 then (some false) else (if (((Zby x17 x19).f0.f0) == x348000 && (((Zby x17 x19).f0.f1) == x348001)) = true then (some false) else (Zaa.l0 k x1 x3 x12 x13 x14 x17 (wrap64 (x19 + 1)) x346000 x346001 x346002 x346003 x346004 x346005 x346006 x346007 x346008 x346009 x347000 x347001 x348000 x348001))))) else (none)) else (if x13 = true then ((Zbn.f x347000 x347001).bind fun bt407 => ((Zak.f k x14 bt407.1 bt407.2.1 bt407.2.2).bind fun t410 => (if t410 < 0 then (Zaa.j3 k x3 x14 true) else (if 0 ≤ t410 then (if t410 < (x14.length : Int) then (if ((Zaf x14 t410).f2 = true) then ((Zck.f x346000 x346001 x346002 x346003 x346004 x346005 x346006 x346007 x346008 x346009 x1 x12).bind fun t412 => (Zaa.j3 k x3 x14 (!t412))) else (Zaa.j3 k x3 x14 true)) else (none)) else (none))))) else ((Zbq.f).bind fun t406 => (some t406)))
def Zaa.j3 : Nat → List (S32) → List (S44) → Bool → Option (Bool)
 | 0, _, _, _ => none
 | k + 1, x3, x14, x125 => if x125 = true then (some false) else (Zaa.l1 k x3 x14 0)
def Zaa.l1 : Nat → List (S32) → List (S44) → Int → Option (Bool)
 | 0, _, _, _ => none
 | k + 1, x3, x14, x21 => if x21 < (x3.length : Int) then (if 0 ≤ x21 then ((Zbn.f ((rd_T32 x3 x21).f0) ((rd_T32 x3 x21).f1)).bind fun bt415 => ((Zak.f k x14 bt415.1 bt415.2.1 bt415.2.2).bind fun t418 => (if t418 ≥ 0 then (some false) else (Zaa.l1 k x3 x14 (wrap64 (x21 + 1)))))) else (none)) else ((Zbq.f).bind fun t413 => (some t413))
end
def Zaa.f (k : Nat) (l0_0 : List (List Int)) (l0_1 : List (List Int)) (l0_2 : List (List Int)) (l0_3 : List (List Int)) (l0_4 : List (List Int)) (l0_5 : List (List Int)) (l0_6 : List (List Int)) (l0_7 : List (List Int)) (l0_8 : List (List Int)) (l0_9 : List (List Int)) (l1 : List Bool) (a2_0 : Int) (a2_1 : Int) (l3 : List (S32)) (a4_0 : Int) (a4_1 : Int) : Option (Bool) := (Zcu.f k l0_0 l0_1 l0_2 l0_3 l0_4 l0_5 l0_6 l0_7 l0_8 l0_9 l1 l3).bind fun t348 => (if t348 = true then ((Zct.f l0_0 l0_1 l0_2 l0_3 l0_4 l0_5 l0_6 l0_7 l0_8 l0_9).bind fun bt350 => ((Zcs.f l0_0 l0_1 l0_2 l0_3 l0_4 l0_5 l0_6 l0_7 l0_8 l0_9 l1 a2_0 a2_1 l3).bind fun bt372 => ((Zbn.f a2_0 a2_1).bind fun bt376 => ((Zbk.f k l3).bind fun t379 => ((Zas.f k bt350.1 bt350.2.1 bt350.2.2.1 bt350.2.2.2.1 bt350.2.2.2.2.1 bt350.2.2.2.2.2.1 bt350.2.2.2.2.2.2 l1 bt376.1 bt376.2.1 bt376.2.2 t379).bind fun bt382 => (if (bt372.2 != bt382.2) = true then (Zaa.j0 k l1 l3 bt372.1 bt372.2 bt382.1 true l0_0 l0_1 l0_2 l0_3 l0_4 l0_5 l0_6 l0_7 l0_8 l0_9 a2_0 a2_1 a4_0 a4_1) else ((Zba.f k bt372.1).bind fun t386 => ((Zbf.f k t386 bt382.1).bind fun t389 => (Zaa.j0 k l1 l3 bt372.1 bt372.2 bt382.1 (!t389) l0_0 l0_1 l0_2 l0_3 l0_4 l0_5 l0_6 l0_7 l0_8 l0_9 a2_0 a2_1 a4_0 a4_1))))))))) else ((Zbq.f).bind fun t349 => (some t349)))
def Zaa.T5 : Bool × List (List Nat × List Nat) := (true, [([], []), ([], []), ([], []), ([2], [2]), ([], []), ([4, 3], [4]), ([0, 1, 3, 5, 5], [0, 1, 3, 5]), ([6], [6]), ([7], [7]), ([7], [7]), ([8, 6, 0, 1, 2, 3, 4, 5, 6, 7, 8], [8]), ([9, 10, 0, 1, 2, 3, 4, 5, 6, 7, 8, 9, 10], [9])])
def Zaa.B5 : List Nat := [0, 0, 0, 4, 0, 28, 63, 127, 255, 255, 511, 2047]
theorem Zaa.tab5 : rtab .any (opsOf Try.f4 5) = Zaa.T5 := by kernel_rfl
theorem Zaa.bits5 : Zeo Zaa.T5.2 Zaa.B5 = true := by kernel_rfl
def Zaa.T17 : Bool × List (List Nat × List Nat) := (true, [([], []), ([], []), ([], []), ([1, 2], [1, 2]), ([3], [3]), ([4], [4]), ([5], [5]), ([0, 6, 6], [0, 6]), ([7], [7]), ([8, 7], [8]), ([9], [9]), ([9], [9]), ([10, 11, 9], [9, 10, 11]), ([12, 9], [9, 12]), ([13, 9], [9, 13]), ([9], [9]), ([14, 15, 9], [9, 14, 15]), ([9, 16], [9, 16])])
def Zaa.B17 : List Nat := [0, 0, 0, 6, 14, 30, 62, 127, 255, 511, 1023, 1023, 4095, 8191, 16383, 1023, 65535, 131071]
theorem Zaa.tab17 : rtab .any (opsOf Try.f4 17) = Zaa.T17 := by kernel_rfl
theorem Zaa.bits17 : Zeo Zaa.T17.2 Zaa.B17 = true := by kernel_rfl
set_option maxHeartbeats 8000000 in
set_option maxRecDepth 100000 in
theorem Zaa.calls (k : Nat) (A0_0 : Option Addr) (c0_0 : Nat) (l0_0 : List (List Int)) (A0_1 : Option Addr) (c0_1 : Nat) (l0_1 : List (List Int)) (A0_2 : Option Addr) (c0_2 : Nat) (l0_2 : List (List Int)) (A0_3 : Option Addr) (c0_3 : Nat) (l0_3 : List (List Int)) (A0_4 : Option Addr) (c0_4 : Nat) (l0_4 : List (List Int)) (A0_5 : Option Addr) (c0_5 : Nat) (l0_5 : List (List Int)) (A0_6 : Option Addr) (c0_6 : Nat) (l0_6 : List (List Int)) (A0_7 : Option Addr) (c0_7 : Nat) (l0_7 : List (List Int)) (A0_8 : Option Addr) (c0_8 : Nat) (l0_8 : List (List Int)) (A0_9 : Option Addr) (c0_9 : Nat) (l0_9 : List (List Int)) (A1 : Option Addr) (c1 : Nat) (l1 : List Bool) (a2_0 : Int) (a2_1 : Int) (A3 : Option Addr) (c3 : Nat) (l3 : List (S32)) (a4_0 : Int) (a4_1 : Int) (r : Bool) (w : World) (hr0_0 : Kd.C (Kd.slice 3 (Kd.int .i64)) w A0_0 l0_0.length l0_0) (hc0_0 : l0_0.length ≤ c0_0) (hr0_1 : Kd.C (Kd.slice 3 (Kd.int .i64)) w A0_1 l0_1.length l0_1) (hc0_1 : l0_1.length ≤ c0_1) (hr0_2 : Kd.C (Kd.slice 3 (Kd.int .i64)) w A0_2 l0_2.length l0_2) (hc0_2 : l0_2.length ≤ c0_2) (hr0_3 : Kd.C (Kd.slice 3 (Kd.int .i64)) w A0_3 l0_3.length l0_3) (hc0_3 : l0_3.length ≤ c0_3) (hr0_4 : Kd.C (Kd.slice 3 (Kd.int .i64)) w A0_4 l0_4.length l0_4) (hc0_4 : l0_4.length ≤ c0_4) (hr0_5 : Kd.C (Kd.slice 3 (Kd.int .i64)) w A0_5 l0_5.length l0_5) (hc0_5 : l0_5.length ≤ c0_5) (hr0_6 : Kd.C (Kd.slice 3 (Kd.int .i64)) w A0_6 l0_6.length l0_6) (hc0_6 : l0_6.length ≤ c0_6) (hr0_7 : Kd.C (Kd.slice 3 (Kd.int .i64)) w A0_7 l0_7.length l0_7) (hc0_7 : l0_7.length ≤ c0_7) (hr0_8 : Kd.C (Kd.slice 3 (Kd.int .i64)) w A0_8 l0_8.length l0_8) (hc0_8 : l0_8.length ≤ c0_8) (hr0_9 : Kd.C (Kd.slice 3 (Kd.int .i64)) w A0_9 l0_9.length l0_9) (hc0_9 : l0_9.length ≤ c0_9) (hr1 : Kd.C Kd.bool w A1 l1.length l1) (hc1 : l1.length ≤ c1) (hr3 : Kd.C k32 w A3 l3.length l3) (hc3 : l3.length ≤ c3) (h : Zaa.f k l0_0 l0_1 l0_2 l0_3 l0_4 l0_5 l0_6 l0_7 l0_8 l0_9 l1 a2_0 a2_1 l3 a4_0 a4_1 = some r) (hrt_ : Za (r = true)) :
  Calls Try.prog 4 #[.agg #[.slice A0_0 l0_0.length c0_0, .slice A0_1 l0_1.length c0_1, .slice A0_2 l0_2.length c0_2, .slice A0_3 l0_3.length c0_3, .slice A0_4 l0_4.length c0_4, .slice A0_5 l0_5.length c0_5, .slice A0_6 l0_6.length c0_6, .slice A0_7 l0_7.length c0_7, .slice A0_8 l0_8.length c0_8, .slice A0_9 l0_9.length c0_9], .slice A1 l1.length c1, .agg #[.int .i64 a2_0, .int .u8 a2_1], .slice A3 l3.length c3, .agg #[.int .i64 a4_0, .int .u8 a4_1]] w fun e w' => e = .returned (.bool r) ∧ Below w.heap.size w w' := by
 have hu24 := Try.underlying24
 have hu32 := Try.underlying32
 have hu38 := Try.underlying38
 have HR0_0 := Za.mk hr0_0
 have HC0_0 := Za.mk hc0_0
 clear hr0_0 hc0_0
 have HR0_1 := Za.mk hr0_1
 have HC0_1 := Za.mk hc0_1
 clear hr0_1 hc0_1
 have HR0_2 := Za.mk hr0_2
 have HC0_2 := Za.mk hc0_2
 clear hr0_2 hc0_2
 have HR0_3 := Za.mk hr0_3
 have HC0_3 := Za.mk hc0_3
 clear hr0_3 hc0_3
 have HR0_4 := Za.mk hr0_4
 have HC0_4 := Za.mk hc0_4
 clear hr0_4 hc0_4
 have HR0_5 := Za.mk hr0_5
 have HC0_5 := Za.mk hc0_5
 clear hr0_5 hc0_5
 have HR0_6 := Za.mk hr0_6
 have HC0_6 := Za.mk hc0_6
 clear hr0_6 hc0_6
 have HR0_7 := Za.mk hr0_7
 have HC0_7 := Za.mk hc0_7
 clear hr0_7 hc0_7
 have HR0_8 := Za.mk hr0_8
 have HC0_8 := Za.mk hc0_8
 clear hr0_8 hc0_8
 have HR0_9 := Za.mk hr0_9
 have HC0_9 := Za.mk hc0_9
 clear hr0_9 hc0_9
 have HR1 := Za.mk hr1
 have HC1 := Za.mk hc1
 clear hr1 hc1
 have HR3 := Za.mk hr3
 have HC3 := Za.mk hc3
 clear hr3 hc3
 have HB := Za.mk (Below.refl w.heap.size w)
 have H : ((Zcu.f k l0_0 l0_1 l0_2 l0_3 l0_4 l0_5 l0_6 l0_7 l0_8 l0_9 l1 l3).bind fun t348 => (if t348 = true then ((Zct.f l0_0 l0_1 l0_2 l0_3 l0_4 l0_5 l0_6 l0_7 l0_8 l0_9).bind fun bt350 => ((Zcs.f l0_0 l0_1 l0_2 l0_3 l0_4 l0_5 l0_6 l0_7 l0_8 l0_9 l1 a2_0 a2_1 l3).bind fun bt372 => ((Zbn.f a2_0 a2_1).bind fun bt376 => ((Zbk.f k l3).bind fun t379 => ((Zas.f k bt350.1 bt350.2.1 bt350.2.2.1 bt350.2.2.2.1 bt350.2.2.2.2.1 bt350.2.2.2.2.2.1 bt350.2.2.2.2.2.2 l1 bt376.1 bt376.2.1 bt376.2.2 t379).bind fun bt382 => (if (bt372.2 != bt382.2) = true then (Zaa.j0 k l1 l3 bt372.1 bt372.2 bt382.1 true l0_0 l0_1 l0_2 l0_3 l0_4 l0_5 l0_6 l0_7 l0_8 l0_9 a2_0 a2_1 a4_0 a4_1) else ((Zba.f k bt372.1).bind fun t386 => ((Zbf.f k t386 bt382.1).bind fun t389 => (Zaa.j0 k l1 l3 bt372.1 bt372.2 bt382.1 (!t389) l0_0 l0_1 l0_2 l0_3 l0_4 l0_5 l0_6 l0_7 l0_8 l0_9 a2_0 a2_1 a4_0 a4_1))))))))) else ((Zbq.f).bind fun t349 => (some t349)))) = some r := h
 clear h
 replace H := Option.bind_eq_some_iff.mp H
 obtain ⟨t348, A60, H⟩ := H
 try dsimp only at H
 have A6 := Za.mk A60
 clear A60
 by_cases c7 : t348 = true
 case neg =>
  replace c7 := Bool.eq_false_iff.mpr c7
  subst c7
  have H1 : ((Zbq.f).bind fun t349 => (some t349)) = some r := by rw [if_neg (show ¬ (false = true) by decide)] at H; exact H
  clear H
  have H := H1
  clear H1
  replace H := Option.bind_eq_some_iff.mp H
  obtain ⟨t349, A1310, H⟩ := H
  try dsimp only at H
  have A131 := Za.mk A1310
  clear A1310
  obtain rfl := Option.some.inj H
  go_enter Try.func4, Try.ntmps4
  go_wp2_with (first | ((with_reducible refine Zca (N := 5) rfl ?_); refine Zbu ?hg (N := 5) ?hd (cs := #[.slice A0_0 l0_0.length c0_0, .slice A0_1 l0_1.length c0_1, .slice A0_2 l0_2.length c0_2, .slice A0_3 l0_3.length c0_3, .slice A0_4 l0_4.length c0_4, .slice A0_5 l0_5.length c0_5, .slice A0_6 l0_6.length c0_6, .slice A0_7 l0_7.length c0_7, .slice A0_8 l0_8.length c0_8, .slice A0_9 l0_9.length c0_9]) (t := 24) ?hr ?_; (case hd => rfl); (case hg => rfl); (case hr => first | (go_simp; done) | (go_simp; rfl)); intro gb345 hg w132 hbox hb; have n0_ := BS HB hb; have n1_ := Za.mk (hbox); have n2_ := Za.mk ((by rw [hg]; exact (Zat (BD HB)) : w.heap.size ≤ gb345)); have n3_ := Za.mk ((by rw [hg]; exact (Zat (BD HB)) : w.heap.size ≤ gb345)); clear HB; have HB := n0_; have BK345 := n1_; have GW345 := n2_; have GE345 := n3_; clear n0_ n1_ n2_ n3_; clear hb hbox hg) | ((with_reducible refine Zca (N := 7) rfl ?_); refine Zbu ?hg (N := 7) ?hd (cs := #[.int .i64 a2_0, .int .u8 a2_1]) (t := 32) ?hr ?_; (case hd => rfl); (case hg => rfl); (case hr => first | (go_simp; done) | (go_simp; rfl)); intro gb346 hg w133 hbox hb; have n0_ := Za.mk (Zam (KB BK345) hb); have n1_ := Za.mk (Zbb t14_4 hb); have n2_ := Za.mk (hbox); have n3_ := Za.mk ((by rw [hg]; exact (Zat t14_4) : w.heap.size ≤ gb346)); have n4_ := Za.mk ((by rw [hg]; exact (Zat t14_4) : w.heap.size ≤ gb346)); have n5_ := Za.mk ((by rw [hg]; exact Nat.ne_of_lt (Zcw (KB BK345)) : gb345 ≠ gb346)); have n6_ := Za.mk ((by rw [hg]; exact Nat.ne_of_gt (Zcw (KB BK345)) : gb346 ≠ gb345)); clear BK345; clear HB; have BK345 := n0_; have HB := n1_; have BK346 := n2_; have GW346 := n3_; have GE346 := n4_; have NB345_346 := n5_; have NB346_345 := n6_; clear n0_ n1_ n2_ n3_ n4_ n5_ n6_; clear hb hbox hg) | ((with_reducible refine Zca (N := 9) rfl ?_); refine Zbu ?hg (N := 9) ?hd (cs := #[.int .i64 a4_0, .int .u8 a4_1]) (t := 32) ?hr ?_; (case hd => rfl); (case hg => rfl); (case hr => first | (go_simp; done) | (go_simp; rfl)); intro gb347 hg w134 hbox hb; have n0_ := Za.mk (Zam (KB BK345) hb); have n1_ := Za.mk (Zam (KB BK346) hb); have n2_ := Za.mk (Zbb t14_3 hb); have n3_ := Za.mk (hbox); have n4_ := Za.mk ((by rw [hg]; exact (Zat t14_3) : w.heap.size ≤ gb347)); have n5_ := Za.mk ((by rw [hg]; exact (Zat t14_3) : w.heap.size ≤ gb347)); have n6_ := Za.mk ((by rw [hg]; exact Nat.ne_of_lt (Zcw (KB BK345)) : gb345 ≠ gb347)); have n7_ := Za.mk ((by rw [hg]; exact Nat.ne_of_gt (Zcw (KB BK345)) : gb347 ≠ gb345)); have n8_ := Za.mk ((by rw [hg]; exact Nat.ne_of_lt (Zcw (KB BK346)) : gb346 ≠ gb347)); have n9_ := Za.mk ((by rw [hg]; exact Nat.ne_of_gt (Zcw (KB BK346)) : gb347 ≠ gb346)); clear BK345; clear BK346; clear HB; have BK345 := n0_; have BK346 := n1_; have HB := n2_; have BK347 := n3_; have GW347 := n4_; have GE347 := n5_; have NB345_347 := n6_; have NB347_345 := n7_; have NB346_347 := n8_; have NB347_346 := n9_; clear n0_ n1_ n2_ n3_ n4_ n5_ n6_ n7_ n8_ n9_; clear hb hbox hg; have hnb135 := NB345_346.out; have hnc135 := NB346_345.out; have hnb136 := NB345_347.out; have hnc136 := NB347_345.out; obtain ⟨hcz137_0, hcz137_1, hcz137_2, hcz137_3, hcz137_4, hcz137_5, hcz137_6, hcz137_7, hcz137_8, hcz137_9, hfz137_0, hfz137_1, hfz137_2, hfz137_3, hfz137_4, hfz137_5, hfz137_6, hfz137_7, hfz137_8, hfz137_9⟩ := cz10 BK345) | ((with_reducible refine Zbl (f := 12) rfl ?_); refine Zcx (some 25) rfl rfl Try.func12 Zcj rfl #[.agg #[.slice A0_0 l0_0.length c0_0, .slice A0_1 l0_1.length c0_1, .slice A0_2 l0_2.length c0_2, .slice A0_3 l0_3.length c0_3, .slice A0_4 l0_4.length c0_4, .slice A0_5 l0_5.length c0_5, .slice A0_6 l0_6.length c0_6, .slice A0_7 l0_7.length c0_7, .slice A0_8 l0_8.length c0_8, .slice A0_9 l0_9.length c0_9], .slice A1 l1.length c1, .slice A3 l3.length c3] rfl t14_5 ?_; (with_reducible refine (Zcu.calls k _ _ l0_0 _ _ l0_1 _ _ l0_2 _ _ l0_3 _ _ l0_4 _ _ l0_5 _ _ l0_6 _ _ l0_7 _ _ l0_8 _ _ l0_9 _ _ l1 _ _ l3 false _ ?side1 ?side2 ?side3 ?side4 ?side5 ?side6 ?side7 ?side8 ?side9 ?side10 ?side11 ?side12 ?side13 ?side14 ?side15 ?side16 ?side17 ?side18 ?side19 ?side20 ?side21 ?side22 ?side23 ?side24 A6.out).mono ?_); (case side1 => exact CD ((Kd.Zav HR0_0.out HB.out))); (case side2 => exact HC0_0.out); (case side3 => exact CD ((Kd.Zav HR0_1.out HB.out))); (case side4 => exact HC0_1.out); (case side5 => exact CD ((Kd.Zav HR0_2.out HB.out))); (case side6 => exact HC0_2.out); (case side7 => exact CD ((Kd.Zav HR0_3.out HB.out))); (case side8 => exact HC0_3.out); (case side9 => exact CD ((Kd.Zav HR0_4.out HB.out))); (case side10 => exact HC0_4.out); (case side11 => exact CD ((Kd.Zav HR0_5.out HB.out))); (case side12 => exact HC0_5.out); (case side13 => exact CD ((Kd.Zav HR0_6.out HB.out))); (case side14 => exact HC0_6.out); (case side15 => exact CD ((Kd.Zav HR0_7.out HB.out))); (case side16 => exact HC0_7.out); (case side17 => exact CD ((Kd.Zav HR0_8.out HB.out))); (case side18 => exact HC0_8.out); (case side19 => exact CD ((Kd.Zav HR0_9.out HB.out))); (case side20 => exact HC0_9.out); (case side21 => exact CD ((Kd.Zav HR1.out HB.out))); (case side22 => exact HC1.out); (case side23 => exact CD ((Kd.Zav HR3.out HB.out))); (case side24 => exact HC3.out); rintro e w138 ⟨rfl, hb⟩; refine ⟨_, rfl, ?_⟩; have n0_ := Za.mk (Zam (KB BK345) hb); have n1_ := Za.mk (Zam (KB BK346) hb); have n2_ := Za.mk (Zam (KB BK347) hb); have n3_ := Za.mk (Zbb t14_2 hb); clear BK345; clear BK346; clear BK347; clear HB; have BK345 := n0_; have BK346 := n1_; have BK347 := n2_; have HB := n3_; clear n0_ n1_ n2_ n3_; (try clear hb); (try clear hb2); (try clear hk); (try clear hi)) | ((with_reducible refine Zbl (f := 13) rfl ?_); refine Zcx (some 27) rfl rfl Try.func13 Zcj rfl #[] rfl t14_5 ?_; (with_reducible refine (Zbq.calls  t349 _ A131.out).mono ?_); rintro e w139 ⟨rfl, hb⟩; refine ⟨_, rfl, ?_⟩; have n0_ := Za.mk (Zam (KB BK345) hb); have n1_ := Za.mk (Zam (KB BK346) hb); have n2_ := Za.mk (Zam (KB BK347) hb); have n3_ := Za.mk (Zbb t14_2 hb); clear BK345; clear BK346; clear BK347; clear HB; have BK345 := n0_; have BK346 := n1_; have BK347 := n2_; have HB := n3_; clear n0_ n1_ n2_ n3_; (try clear hb); (try clear hb2); (try clear hk); (try clear hi)))
  go_ret
  exact ⟨by first | rfl | (simp [Zbe, Zbd] <;> rfl) | (simp [*, Zbe, Zbd] <;> rfl), by repeat (first | (with_reducible first | exact HB.out | apply Zau | apply Zaj | apply Zal | refine Zai ?_ GE345.out | refine Zai ?_ GE346.out | refine Zai ?_ GE347.out) | exact HB.out)⟩
 subst c7
 have H1 : ((Zct.f l0_0 l0_1 l0_2 l0_3 l0_4 l0_5 l0_6 l0_7 l0_8 l0_9).bind fun bt350 => ((Zcs.f l0_0 l0_1 l0_2 l0_3 l0_4 l0_5 l0_6 l0_7 l0_8 l0_9 l1 a2_0 a2_1 l3).bind fun bt372 => ((Zbn.f a2_0 a2_1).bind fun bt376 => ((Zbk.f k l3).bind fun t379 => ((Zas.f k bt350.1 bt350.2.1 bt350.2.2.1 bt350.2.2.2.1 bt350.2.2.2.2.1 bt350.2.2.2.2.2.1 bt350.2.2.2.2.2.2 l1 bt376.1 bt376.2.1 bt376.2.2 t379).bind fun bt382 => (if (bt372.2 != bt382.2) = true then (Zaa.j0 k l1 l3 bt372.1 bt372.2 bt382.1 true l0_0 l0_1 l0_2 l0_3 l0_4 l0_5 l0_6 l0_7 l0_8 l0_9 a2_0 a2_1 a4_0 a4_1) else ((Zba.f k bt372.1).bind fun t386 => ((Zbf.f k t386 bt382.1).bind fun t389 => (Zaa.j0 k l1 l3 bt372.1 bt372.2 bt382.1 (!t389) l0_0 l0_1 l0_2 l0_3 l0_4 l0_5 l0_6 l0_7 l0_8 l0_9 a2_0 a2_1 a4_0 a4_1))))))))) = some r := by rw [if_pos rfl] at H; exact H
 clear H
 have H := H1
 clear H1
 replace H := Option.bind_eq_some_iff.mp H
 obtain ⟨⟨t350, t353, t356, t359, t362, t365, t368⟩, A80, H⟩ := H
 replace H : ((Zcs.f l0_0 l0_1 l0_2 l0_3 l0_4 l0_5 l0_6 l0_7 l0_8 l0_9 l1 a2_0 a2_1 l3).bind fun bt372 => ((Zbn.f a2_0 a2_1).bind fun bt376 => ((Zbk.f k l3).bind fun t379 => ((Zas.f k t350 t353 t356 t359 t362 t365 t368 l1 bt376.1 bt376.2.1 bt376.2.2 t379).bind fun bt382 => (if (bt372.2 != bt382.2) = true then (Zaa.j0 k l1 l3 bt372.1 bt372.2 bt382.1 true l0_0 l0_1 l0_2 l0_3 l0_4 l0_5 l0_6 l0_7 l0_8 l0_9 a2_0 a2_1 a4_0 a4_1) else ((Zba.f k bt372.1).bind fun t386 => ((Zbf.f k t386 bt382.1).bind fun t389 => (Zaa.j0 k l1 l3 bt372.1 bt372.2 bt382.1 (!t389) l0_0 l0_1 l0_2 l0_3 l0_4 l0_5 l0_6 l0_7 l0_8 l0_9 a2_0 a2_1 a4_0 a4_1)))))))) = some r := H
 have A8 := Za.mk A80
 clear A80
 replace H := Option.bind_eq_some_iff.mp H
 obtain ⟨⟨t372, t375⟩, A90, H⟩ := H
 replace H : ((Zbn.f a2_0 a2_1).bind fun bt376 => ((Zbk.f k l3).bind fun t379 => ((Zas.f k t350 t353 t356 t359 t362 t365 t368 l1 bt376.1 bt376.2.1 bt376.2.2 t379).bind fun bt382 => (if (t375 != bt382.2) = true then (Zaa.j0 k l1 l3 t372 t375 bt382.1 true l0_0 l0_1 l0_2 l0_3 l0_4 l0_5 l0_6 l0_7 l0_8 l0_9 a2_0 a2_1 a4_0 a4_1) else ((Zba.f k t372).bind fun t386 => ((Zbf.f k t386 bt382.1).bind fun t389 => (Zaa.j0 k l1 l3 t372 t375 bt382.1 (!t389) l0_0 l0_1 l0_2 l0_3 l0_4 l0_5 l0_6 l0_7 l0_8 l0_9 a2_0 a2_1 a4_0 a4_1))))))) = some r := H
 have A9 := Za.mk A90
 clear A90
 replace H := Option.bind_eq_some_iff.mp H
 obtain ⟨⟨t376, t377, t378⟩, A100, H⟩ := H
 replace H : ((Zbk.f k l3).bind fun t379 => ((Zas.f k t350 t353 t356 t359 t362 t365 t368 l1 t376 t377 t378 t379).bind fun bt382 => (if (t375 != bt382.2) = true then (Zaa.j0 k l1 l3 t372 t375 bt382.1 true l0_0 l0_1 l0_2 l0_3 l0_4 l0_5 l0_6 l0_7 l0_8 l0_9 a2_0 a2_1 a4_0 a4_1) else ((Zba.f k t372).bind fun t386 => ((Zbf.f k t386 bt382.1).bind fun t389 => (Zaa.j0 k l1 l3 t372 t375 bt382.1 (!t389) l0_0 l0_1 l0_2 l0_3 l0_4 l0_5 l0_6 l0_7 l0_8 l0_9 a2_0 a2_1 a4_0 a4_1)))))) = some r := H
 have A10 := Za.mk A100
 clear A100
 replace H := Option.bind_eq_some_iff.mp H
 obtain ⟨t379, A110, H⟩ := H
 try dsimp only at H
 have A11 := Za.mk A110
 clear A110
 replace H := Option.bind_eq_some_iff.mp H
 obtain ⟨⟨t382, t385⟩, A120, H⟩ := H
 replace H : (if (t375 != t385) = true then (Zaa.j0 k l1 l3 t372 t375 t382 true l0_0 l0_1 l0_2 l0_3 l0_4 l0_5 l0_6 l0_7 l0_8 l0_9 a2_0 a2_1 a4_0 a4_1) else ((Zba.f k t372).bind fun t386 => ((Zbf.f k t386 t382).bind fun t389 => (Zaa.j0 k l1 l3 t372 t375 t382 (!t389) l0_0 l0_1 l0_2 l0_3 l0_4 l0_5 l0_6 l0_7 l0_8 l0_9 a2_0 a2_1 a4_0 a4_1)))) = some r := H
 have A12 := Za.mk A120
 clear A120
 have HC13 := Za.mk H
 clear H
 go_enter Try.func4, Try.ntmps4
 try go_wp2_with (first | ((with_reducible refine Zca (N := 5) rfl ?_); refine Zbu ?hg (N := 5) ?hd (cs := #[.slice A0_0 l0_0.length c0_0, .slice A0_1 l0_1.length c0_1, .slice A0_2 l0_2.length c0_2, .slice A0_3 l0_3.length c0_3, .slice A0_4 l0_4.length c0_4, .slice A0_5 l0_5.length c0_5, .slice A0_6 l0_6.length c0_6, .slice A0_7 l0_7.length c0_7, .slice A0_8 l0_8.length c0_8, .slice A0_9 l0_9.length c0_9]) (t := 24) ?hr ?_; (case hd => rfl); (case hg => rfl); (case hr => first | (go_simp; done) | (go_simp; rfl)); intro gb345 hg w14 hbox hb; have n0_ := BS HB hb; have n1_ := Za.mk (hbox); have n2_ := Za.mk ((by rw [hg]; exact (Zat (BD HB)) : w.heap.size ≤ gb345)); have n3_ := Za.mk ((by rw [hg]; exact (Zat (BD HB)) : w.heap.size ≤ gb345)); clear HB; have HB := n0_; have BK345 := n1_; have GW345 := n2_; have GE345 := n3_; clear n0_ n1_ n2_ n3_; clear hb hbox hg) | ((with_reducible refine Zca (N := 7) rfl ?_); refine Zbu ?hg (N := 7) ?hd (cs := #[.int .i64 a2_0, .int .u8 a2_1]) (t := 32) ?hr ?_; (case hd => rfl); (case hg => rfl); (case hr => first | (go_simp; done) | (go_simp; rfl)); intro gb346 hg w15 hbox hb; have n0_ := Za.mk (Zam (KB BK345) hb); have n1_ := Za.mk (Zbb t14_4 hb); have n2_ := Za.mk (hbox); have n3_ := Za.mk ((by rw [hg]; exact (Zat t14_4) : w.heap.size ≤ gb346)); have n4_ := Za.mk ((by rw [hg]; exact (Zat t14_4) : w.heap.size ≤ gb346)); have n5_ := Za.mk ((by rw [hg]; exact Nat.ne_of_lt (Zcw (KB BK345)) : gb345 ≠ gb346)); have n6_ := Za.mk ((by rw [hg]; exact Nat.ne_of_gt (Zcw (KB BK345)) : gb346 ≠ gb345)); clear BK345; clear HB; have BK345 := n0_; have HB := n1_; have BK346 := n2_; have GW346 := n3_; have GE346 := n4_; have NB345_346 := n5_; have NB346_345 := n6_; clear n0_ n1_ n2_ n3_ n4_ n5_ n6_; clear hb hbox hg) | ((with_reducible refine Zca (N := 9) rfl ?_); refine Zbu ?hg (N := 9) ?hd (cs := #[.int .i64 a4_0, .int .u8 a4_1]) (t := 32) ?hr ?_; (case hd => rfl); (case hg => rfl); (case hr => first | (go_simp; done) | (go_simp; rfl)); intro gb347 hg w16 hbox hb; have n0_ := Za.mk (Zam (KB BK345) hb); have n1_ := Za.mk (Zam (KB BK346) hb); have n2_ := Za.mk (Zbb t14_3 hb); have n3_ := Za.mk (hbox); have n4_ := Za.mk ((by rw [hg]; exact (Zat t14_3) : w.heap.size ≤ gb347)); have n5_ := Za.mk ((by rw [hg]; exact (Zat t14_3) : w.heap.size ≤ gb347)); have n6_ := Za.mk ((by rw [hg]; exact Nat.ne_of_lt (Zcw (KB BK345)) : gb345 ≠ gb347)); have n7_ := Za.mk ((by rw [hg]; exact Nat.ne_of_gt (Zcw (KB BK345)) : gb347 ≠ gb345)); have n8_ := Za.mk ((by rw [hg]; exact Nat.ne_of_lt (Zcw (KB BK346)) : gb346 ≠ gb347)); have n9_ := Za.mk ((by rw [hg]; exact Nat.ne_of_gt (Zcw (KB BK346)) : gb347 ≠ gb346)); clear BK345; clear BK346; clear HB; have BK345 := n0_; have BK346 := n1_; have HB := n2_; have BK347 := n3_; have GW347 := n4_; have GE347 := n5_; have NB345_347 := n6_; have NB347_345 := n7_; have NB346_347 := n8_; have NB347_346 := n9_; clear n0_ n1_ n2_ n3_ n4_ n5_ n6_ n7_ n8_ n9_; clear hb hbox hg; have hnb17 := NB345_346.out; have hnc17 := NB346_345.out; have hnb18 := NB345_347.out; have hnc18 := NB347_345.out; obtain ⟨hcz19_0, hcz19_1, hcz19_2, hcz19_3, hcz19_4, hcz19_5, hcz19_6, hcz19_7, hcz19_8, hcz19_9, hfz19_0, hfz19_1, hfz19_2, hfz19_3, hfz19_4, hfz19_5, hfz19_6, hfz19_7, hfz19_8, hfz19_9⟩ := cz10 BK345) | ((with_reducible refine Zbl (f := 12) rfl ?_); refine Zcx (some 25) rfl rfl Try.func12 Zcj rfl #[.agg #[.slice A0_0 l0_0.length c0_0, .slice A0_1 l0_1.length c0_1, .slice A0_2 l0_2.length c0_2, .slice A0_3 l0_3.length c0_3, .slice A0_4 l0_4.length c0_4, .slice A0_5 l0_5.length c0_5, .slice A0_6 l0_6.length c0_6, .slice A0_7 l0_7.length c0_7, .slice A0_8 l0_8.length c0_8, .slice A0_9 l0_9.length c0_9], .slice A1 l1.length c1, .slice A3 l3.length c3] rfl t14_5 ?_; (with_reducible refine (Zcu.calls k _ _ l0_0 _ _ l0_1 _ _ l0_2 _ _ l0_3 _ _ l0_4 _ _ l0_5 _ _ l0_6 _ _ l0_7 _ _ l0_8 _ _ l0_9 _ _ l1 _ _ l3 true _ ?side1 ?side2 ?side3 ?side4 ?side5 ?side6 ?side7 ?side8 ?side9 ?side10 ?side11 ?side12 ?side13 ?side14 ?side15 ?side16 ?side17 ?side18 ?side19 ?side20 ?side21 ?side22 ?side23 ?side24 A6.out).mono ?_); (case side1 => exact CD ((Kd.Zav HR0_0.out HB.out))); (case side2 => exact HC0_0.out); (case side3 => exact CD ((Kd.Zav HR0_1.out HB.out))); (case side4 => exact HC0_1.out); (case side5 => exact CD ((Kd.Zav HR0_2.out HB.out))); (case side6 => exact HC0_2.out); (case side7 => exact CD ((Kd.Zav HR0_3.out HB.out))); (case side8 => exact HC0_3.out); (case side9 => exact CD ((Kd.Zav HR0_4.out HB.out))); (case side10 => exact HC0_4.out); (case side11 => exact CD ((Kd.Zav HR0_5.out HB.out))); (case side12 => exact HC0_5.out); (case side13 => exact CD ((Kd.Zav HR0_6.out HB.out))); (case side14 => exact HC0_6.out); (case side15 => exact CD ((Kd.Zav HR0_7.out HB.out))); (case side16 => exact HC0_7.out); (case side17 => exact CD ((Kd.Zav HR0_8.out HB.out))); (case side18 => exact HC0_8.out); (case side19 => exact CD ((Kd.Zav HR0_9.out HB.out))); (case side20 => exact HC0_9.out); (case side21 => exact CD ((Kd.Zav HR1.out HB.out))); (case side22 => exact HC1.out); (case side23 => exact CD ((Kd.Zav HR3.out HB.out))); (case side24 => exact HC3.out); rintro e w20 ⟨rfl, hb⟩; refine ⟨_, rfl, ?_⟩; have n0_ := Za.mk (Zam (KB BK345) hb); have n1_ := Za.mk (Zam (KB BK346) hb); have n2_ := Za.mk (Zam (KB BK347) hb); have n3_ := Za.mk (Zbb t14_2 hb); clear BK345; clear BK346; clear BK347; clear HB; have BK345 := n0_; have BK346 := n1_; have BK347 := n2_; have HB := n3_; clear n0_ n1_ n2_ n3_; (try clear hb); (try clear hb2); (try clear hk); (try clear hi); obtain ⟨hcz21_0, hcz21_1, hcz21_2, hcz21_3, hcz21_4, hcz21_5, hcz21_6, hcz21_7, hcz21_8, hcz21_9, hfz21_0, hfz21_1, hfz21_2, hfz21_3, hfz21_4, hfz21_5, hfz21_6, hfz21_7, hfz21_8, hfz21_9⟩ := cz10 BK345) | ((with_reducible refine Zbl (f := 15) rfl ?_); refine Zcx (some 29) rfl rfl Try.func15 Zcj rfl #[.agg #[.slice A0_0 l0_0.length c0_0, .slice A0_1 l0_1.length c0_1, .slice A0_2 l0_2.length c0_2, .slice A0_3 l0_3.length c0_3, .slice A0_4 l0_4.length c0_4, .slice A0_5 l0_5.length c0_5, .slice A0_6 l0_6.length c0_6, .slice A0_7 l0_7.length c0_7, .slice A0_8 l0_8.length c0_8, .slice A0_9 l0_9.length c0_9]] rfl t14_5 ?_; (with_reducible refine (Zct.calls (fun k_ => k_ < w.heap.size) _ _ l0_0 (fun k_ => k_ < w.heap.size) _ _ l0_1 (fun k_ => k_ < w.heap.size) _ _ l0_2 _ _ l0_3 _ _ l0_4 _ _ l0_5 (fun k_ => k_ < w.heap.size) _ _ l0_6 (fun k_ => k_ < w.heap.size) _ _ l0_7 (fun k_ => k_ < w.heap.size) _ _ l0_8 (fun k_ => k_ < w.heap.size) _ _ l0_9 t350 t353 t356 t359 t362 t365 t368 _ ?side1 ?side2 ?side3 ?side4 ?side5 ?side6 ?side7 ?side8 ?side9 ?side10 ?side11 ?side12 ?side13 A8.out).mono ?_); (case side1 => exact Kd.V_mk HC0_0.out (Kd.F_below (Kd.C_F (Kd.heap_slice 3 (Kd.heap_int .i64)) HR0_0.out) t14_2)); (case side2 => exact Kd.V_mk HC0_1.out (Kd.F_below (Kd.C_F (Kd.heap_slice 3 (Kd.heap_int .i64)) HR0_1.out) t14_2)); (case side3 => exact Kd.V_mk HC0_2.out (Kd.F_below (Kd.C_F (Kd.heap_slice 3 (Kd.heap_int .i64)) HR0_2.out) t14_2)); (case side4 => exact CD ((Kd.Zav HR0_3.out HB.out))); (case side5 => exact HC0_3.out); (case side6 => exact CD ((Kd.Zav HR0_4.out HB.out))); (case side7 => exact HC0_4.out); (case side8 => exact CD ((Kd.Zav HR0_5.out HB.out))); (case side9 => exact HC0_5.out); (case side10 => exact Kd.V_mk HC0_6.out (Kd.F_below (Kd.C_F (Kd.heap_slice 3 (Kd.heap_int .i64)) HR0_6.out) t14_2)); (case side11 => exact Kd.V_mk HC0_7.out (Kd.F_below (Kd.C_F (Kd.heap_slice 3 (Kd.heap_int .i64)) HR0_7.out) t14_2)); (case side12 => exact Kd.V_mk HC0_8.out (Kd.F_below (Kd.C_F (Kd.heap_slice 3 (Kd.heap_int .i64)) HR0_8.out) t14_2)); (case side13 => exact Kd.V_mk HC0_9.out (Kd.F_below (Kd.C_F (Kd.heap_slice 3 (Kd.heap_int .i64)) HR0_9.out) t14_2)); rintro e w22 ⟨v351, v354, v357, v360, v363, v366, v369, rfl, ho0, ho1, ho2, ho3, ho4, ho5, ho6, hb⟩; refine ⟨_, rfl, ?_⟩; have n0_ := Za.mk (Kd.V_lower (Kd.Zbo (ok' := fun k_ => k_ ≠ gb345 ∧ k_ ≠ gb346 ∧ k_ ≠ gb347) ho0 t14_0) (Zat t14_2)); have n1_ := Za.mk (Kd.V_lower (Kd.Zbo (ok' := fun k_ => k_ ≠ gb345 ∧ k_ ≠ gb346 ∧ k_ ≠ gb347) ho1 t14_0) (Zat t14_2)); have n2_ := Za.mk (Kd.V_lower (Kd.Zbo (ok' := fun k_ => k_ ≠ gb345 ∧ k_ ≠ gb346 ∧ k_ ≠ gb347) ho2 t14_0) (Zat t14_2)); have n3_ := Za.mk (Kd.V_lower (Kd.Zbo (ok' := fun k_ => k_ ≠ gb345 ∧ k_ ≠ gb346 ∧ k_ ≠ gb347) ho3 t14_0) (Zat t14_2)); have n4_ := Za.mk (Kd.V_lower (Kd.Zbo (ok' := fun k_ => k_ ≠ gb345 ∧ k_ ≠ gb346 ∧ k_ ≠ gb347) ho4 t14_0) (Zat t14_2)); have n5_ := Za.mk (Kd.V_lower (Kd.Zbo (ok' := fun k_ => k_ ≠ gb345 ∧ k_ ≠ gb346 ∧ k_ ≠ gb347) ho5 t14_0) (Zat t14_2)); have n6_ := Za.mk (Kd.V_lower (Kd.Zbo (ok' := fun k_ => k_ ≠ gb345 ∧ k_ ≠ gb346 ∧ k_ ≠ gb347) ho6 t14_0) (Zat t14_2)); have n7_ := Za.mk (Zam (KB BK345) hb); have n8_ := Za.mk (Zam (KB BK346) hb); have n9_ := Za.mk (Zam (KB BK347) hb); have n10_ := Za.mk (Zbb t14_2 hb); clear BK345; clear BK346; clear BK347; clear HB; have HO352 := n0_; have HO355 := n1_; have HO358 := n2_; have HO361 := n3_; have HO364 := n4_; have HO367 := n5_; have HO370 := n6_; have BK345 := n7_; have BK346 := n8_; have BK347 := n9_; have HB := n10_; clear n0_ n1_ n2_ n3_ n4_ n5_ n6_ n7_ n8_ n9_ n10_; (try clear hb); (try clear hb2); (try clear hk); (try clear hi); (try clear ho0); (try clear ho1); (try clear ho2); (try clear ho3); (try clear ho4); (try clear ho5); (try clear ho6)) | ((with_reducible refine Zca (N := 11) rfl ?_); refine Zbu ?hg (N := 11) ?hd (cs := #[.slice none 0 0, .slice none 0 0, .slice none 0 0, .slice none 0 0, .slice none 0 0, .slice none 0 0, .slice none 0 0]) (t := 38) ?hr ?_; (case hd => rfl); (case hg => rfl); (case hr => first | (go_simp; done) | (go_simp; rfl)); intro gb371 hg w23 hbox hb; have n0_ := Za.mk (Kd.Zbh (Kd.Zdd (VD HO352) gb371 (Nat.le_of_eq hg.symm)) hb); have n1_ := Za.mk (Kd.Zbh (Kd.Zdd (VD HO355) gb371 (Nat.le_of_eq hg.symm)) hb); have n2_ := Za.mk (Kd.Zbh (Kd.Zdd (VD HO358) gb371 (Nat.le_of_eq hg.symm)) hb); have n3_ := Za.mk (Kd.Zbh (Kd.Zdd (VD HO361) gb371 (Nat.le_of_eq hg.symm)) hb); have n4_ := Za.mk (Kd.Zbh (Kd.Zdd (VD HO364) gb371 (Nat.le_of_eq hg.symm)) hb); have n5_ := Za.mk (Kd.Zbh (Kd.Zdd (VD HO367) gb371 (Nat.le_of_eq hg.symm)) hb); have n6_ := Za.mk (Kd.Zbh (Kd.Zdd (VD HO370) gb371 (Nat.le_of_eq hg.symm)) hb); have n7_ := Za.mk (Zam (KB BK345) hb); have n8_ := Za.mk (Zam (KB BK346) hb); have n9_ := Za.mk (Zam (KB BK347) hb); have n10_ := Za.mk (Zbb t14_2 hb); have n11_ := Za.mk (hbox); have n12_ := Za.mk ((by rw [hg]; exact (Zat t14_2) : w.heap.size ≤ gb371)); have n13_ := Za.mk ((by rw [hg]; exact (Zat t14_2) : w.heap.size ≤ gb371)); have n14_ := Za.mk ((by rw [hg]; exact Nat.ne_of_lt (Zcw (KB BK345)) : gb345 ≠ gb371)); have n15_ := Za.mk ((by rw [hg]; exact Nat.ne_of_gt (Zcw (KB BK345)) : gb371 ≠ gb345)); have n16_ := Za.mk ((by rw [hg]; exact Nat.ne_of_lt (Zcw (KB BK346)) : gb346 ≠ gb371)); have n17_ := Za.mk ((by rw [hg]; exact Nat.ne_of_gt (Zcw (KB BK346)) : gb371 ≠ gb346)); have n18_ := Za.mk ((by rw [hg]; exact Nat.ne_of_lt (Zcw (KB BK347)) : gb347 ≠ gb371)); have n19_ := Za.mk ((by rw [hg]; exact Nat.ne_of_gt (Zcw (KB BK347)) : gb371 ≠ gb347)); clear HO352; clear HO355; clear HO358; clear HO361; clear HO364; clear HO367; clear HO370; clear BK345; clear BK346; clear BK347; clear HB; have HO352 := n0_; have HO355 := n1_; have HO358 := n2_; have HO361 := n3_; have HO364 := n4_; have HO367 := n5_; have HO370 := n6_; have BK345 := n7_; have BK346 := n8_; have BK347 := n9_; have HB := n10_; have BK371 := n11_; have GW371 := n12_; have GE371 := n13_; have NB345_371 := n14_; have NB371_345 := n15_; have NB346_371 := n16_; have NB371_346 := n17_; have NB347_371 := n18_; have NB371_347 := n19_; clear n0_ n1_ n2_ n3_ n4_ n5_ n6_ n7_ n8_ n9_ n10_ n11_ n12_ n13_ n14_ n15_ n16_ n17_ n18_ n19_; clear hb hbox hg; obtain ⟨Ao24, co24, eo24⟩ := Kd.V_slice HO352.out; subst eo24; have hnb25 := NB371_345.out; have hnc25 := NB345_371.out; have hnb26 := NB371_346.out; have hnc26 := NB346_371.out; have hnb27 := NB371_347.out; have hnc27 := NB347_371.out; obtain ⟨hcz28_0, hcz28_1, hcz28_2, hcz28_3, hcz28_4, hcz28_5, hcz28_6, hfz28_0, hfz28_1, hfz28_2, hfz28_3, hfz28_4, hfz28_5, hfz28_6⟩ := cz7 BK371; obtain ⟨Ao29, co29, eo29⟩ := Kd.V_slice HO355.out; subst eo29; obtain ⟨Ao30, co30, eo30⟩ := Kd.V_slice HO358.out; subst eo30; obtain ⟨Ao31, co31, eo31⟩ := Kd.V_slice HO361.out; subst eo31; obtain ⟨Ao32, co32, eo32⟩ := Kd.V_slice HO364.out; subst eo32; obtain ⟨Ao33, co33, eo33⟩ := Kd.V_slice HO367.out; subst eo33; obtain ⟨Ao34, co34, eo34⟩ := Kd.V_slice HO370.out; subst eo34; obtain ⟨hcz35_0, hcz35_1, hcz35_2, hcz35_3, hcz35_4, hcz35_5, hcz35_6, hcz35_7, hcz35_8, hcz35_9, hfz35_0, hfz35_1, hfz35_2, hfz35_3, hfz35_4, hfz35_5, hfz35_6, hfz35_7, hfz35_8, hfz35_9⟩ := cz10 BK345; have hnb36 := NB346_347.out; have hnc36 := NB347_346.out; obtain ⟨hcz37_0, hcz37_1, hfz37_0, hfz37_1⟩ := cz2 BK346) | ((with_reducible refine Zbl (f := 14) rfl ?_); refine Zcx (some 35) rfl rfl Try.func14 Zcj rfl #[.agg #[.slice A0_0 l0_0.length c0_0, .slice A0_1 l0_1.length c0_1, .slice A0_2 l0_2.length c0_2, .slice A0_3 l0_3.length c0_3, .slice A0_4 l0_4.length c0_4, .slice A0_5 l0_5.length c0_5, .slice A0_6 l0_6.length c0_6, .slice A0_7 l0_7.length c0_7, .slice A0_8 l0_8.length c0_8, .slice A0_9 l0_9.length c0_9], .slice A1 l1.length c1, .agg #[.int .i64 a2_0, .int .u8 a2_1], .slice A3 l3.length c3] rfl t14_5 ?_; (with_reducible refine (Zcs.calls _ _ l0_0 _ _ l0_1 _ _ l0_2 _ _ l0_3 _ _ l0_4 _ _ l0_5 _ _ l0_6 _ _ l0_7 _ _ l0_8 _ _ l0_9 _ _ l1 a2_0 a2_1 _ _ l3 t372 t375 _ ?side1 ?side2 ?side3 ?side4 ?side5 ?side6 ?side7 ?side8 ?side9 ?side10 ?side11 ?side12 ?side13 ?side14 ?side15 ?side16 ?side17 ?side18 ?side19 ?side20 ?side21 ?side22 ?side23 ?side24 A9.out).mono ?_); (case side1 => exact Kd.Zav HR0_0.out Zeu); (case side2 => exact HC0_0.out); (case side3 => exact Kd.Zav HR0_1.out Zeu); (case side4 => exact HC0_1.out); (case side5 => exact Kd.Zav HR0_2.out Zeu); (case side6 => exact HC0_2.out); (case side7 => exact Kd.Zav HR0_3.out Zeu); (case side8 => exact HC0_3.out); (case side9 => exact Kd.Zav HR0_4.out Zeu); (case side10 => exact HC0_4.out); (case side11 => exact Kd.Zav HR0_5.out Zeu); (case side12 => exact HC0_5.out); (case side13 => exact Kd.Zav HR0_6.out Zeu); (case side14 => exact HC0_6.out); (case side15 => exact Kd.Zav HR0_7.out Zeu); (case side16 => exact HC0_7.out); (case side17 => exact Kd.Zav HR0_8.out Zeu); (case side18 => exact HC0_8.out); (case side19 => exact Kd.Zav HR0_9.out Zeu); (case side20 => exact HC0_9.out); (case side21 => exact Kd.Zav HR1.out Zeu); (case side22 => exact HC1.out); (case side23 => exact Kd.Zav HR3.out Zeu); (case side24 => exact HC3.out); rintro e w38 ⟨v373, rfl, ho0, hb⟩; refine ⟨_, rfl, ?_⟩; have n0_ := Za.mk (Kd.Zce (by (with_reducible repeat (first | apply Kd.Zbj | apply Kd.Zbi | apply Kd.Zbm)); exact (Kd.Zbo (Kd.Zbz (p := ⟨gb371, 6, none⟩) (Kd.Zbz (p := ⟨gb371, 5, none⟩) (Kd.Zbz (p := ⟨gb371, 4, none⟩) (Kd.Zbz (p := ⟨gb371, 3, none⟩) (Kd.Zbz (p := ⟨gb371, 2, none⟩) (Kd.Zbz (p := ⟨gb371, 1, none⟩) (Kd.Zbz (p := ⟨gb371, 0, none⟩) (Kd.Zbo HO352.out (fun k_ hk => (⟨hk, hk.2⟩ : _ ∧ k_ ≠ gb371))) Zcg (.slice Ao24 t350.length co24)) Zcg (.slice Ao29 t353.length co29)) Zcg (.slice Ao30 t356.length co30)) Zcg (.slice Ao31 t359.length co31)) Zcg (.slice Ao32 t362.length co32)) Zcg (.slice Ao33 t365.length co33)) Zcg (.slice Ao34 t368.length co34)) (fun _ h_ => h_.1))) (Kd.Zbx ho0) hb); have n1_ := Za.mk (Kd.Zce (by (with_reducible repeat (first | apply Kd.Zbj | apply Kd.Zbi | apply Kd.Zbm)); exact (Kd.Zbo (Kd.Zbz (p := ⟨gb371, 6, none⟩) (Kd.Zbz (p := ⟨gb371, 5, none⟩) (Kd.Zbz (p := ⟨gb371, 4, none⟩) (Kd.Zbz (p := ⟨gb371, 3, none⟩) (Kd.Zbz (p := ⟨gb371, 2, none⟩) (Kd.Zbz (p := ⟨gb371, 1, none⟩) (Kd.Zbz (p := ⟨gb371, 0, none⟩) (Kd.Zbo HO355.out (fun k_ hk => (⟨hk, hk.2⟩ : _ ∧ k_ ≠ gb371))) Zcg (.slice Ao24 t350.length co24)) Zcg (.slice Ao29 t353.length co29)) Zcg (.slice Ao30 t356.length co30)) Zcg (.slice Ao31 t359.length co31)) Zcg (.slice Ao32 t362.length co32)) Zcg (.slice Ao33 t365.length co33)) Zcg (.slice Ao34 t368.length co34)) (fun _ h_ => h_.1))) (Kd.Zbx ho0) hb); have n2_ := Za.mk (Kd.Zce (by (with_reducible repeat (first | apply Kd.Zbj | apply Kd.Zbi | apply Kd.Zbm)); exact (Kd.Zbo (Kd.Zbz (p := ⟨gb371, 6, none⟩) (Kd.Zbz (p := ⟨gb371, 5, none⟩) (Kd.Zbz (p := ⟨gb371, 4, none⟩) (Kd.Zbz (p := ⟨gb371, 3, none⟩) (Kd.Zbz (p := ⟨gb371, 2, none⟩) (Kd.Zbz (p := ⟨gb371, 1, none⟩) (Kd.Zbz (p := ⟨gb371, 0, none⟩) (Kd.Zbo HO358.out (fun k_ hk => (⟨hk, hk.2⟩ : _ ∧ k_ ≠ gb371))) Zcg (.slice Ao24 t350.length co24)) Zcg (.slice Ao29 t353.length co29)) Zcg (.slice Ao30 t356.length co30)) Zcg (.slice Ao31 t359.length co31)) Zcg (.slice Ao32 t362.length co32)) Zcg (.slice Ao33 t365.length co33)) Zcg (.slice Ao34 t368.length co34)) (fun _ h_ => h_.1))) (Kd.Zbx ho0) hb); have n3_ := Za.mk (Kd.Zce (by (with_reducible repeat (first | apply Kd.Zbj | apply Kd.Zbi | apply Kd.Zbm)); exact (Kd.Zbo (Kd.Zbz (p := ⟨gb371, 6, none⟩) (Kd.Zbz (p := ⟨gb371, 5, none⟩) (Kd.Zbz (p := ⟨gb371, 4, none⟩) (Kd.Zbz (p := ⟨gb371, 3, none⟩) (Kd.Zbz (p := ⟨gb371, 2, none⟩) (Kd.Zbz (p := ⟨gb371, 1, none⟩) (Kd.Zbz (p := ⟨gb371, 0, none⟩) (Kd.Zbo HO361.out (fun k_ hk => (⟨hk, hk.2⟩ : _ ∧ k_ ≠ gb371))) Zcg (.slice Ao24 t350.length co24)) Zcg (.slice Ao29 t353.length co29)) Zcg (.slice Ao30 t356.length co30)) Zcg (.slice Ao31 t359.length co31)) Zcg (.slice Ao32 t362.length co32)) Zcg (.slice Ao33 t365.length co33)) Zcg (.slice Ao34 t368.length co34)) (fun _ h_ => h_.1))) (Kd.Zbx ho0) hb); have n4_ := Za.mk (Kd.Zce (by (with_reducible repeat (first | apply Kd.Zbj | apply Kd.Zbi | apply Kd.Zbm)); exact (Kd.Zbo (Kd.Zbz (p := ⟨gb371, 6, none⟩) (Kd.Zbz (p := ⟨gb371, 5, none⟩) (Kd.Zbz (p := ⟨gb371, 4, none⟩) (Kd.Zbz (p := ⟨gb371, 3, none⟩) (Kd.Zbz (p := ⟨gb371, 2, none⟩) (Kd.Zbz (p := ⟨gb371, 1, none⟩) (Kd.Zbz (p := ⟨gb371, 0, none⟩) (Kd.Zbo HO364.out (fun k_ hk => (⟨hk, hk.2⟩ : _ ∧ k_ ≠ gb371))) Zcg (.slice Ao24 t350.length co24)) Zcg (.slice Ao29 t353.length co29)) Zcg (.slice Ao30 t356.length co30)) Zcg (.slice Ao31 t359.length co31)) Zcg (.slice Ao32 t362.length co32)) Zcg (.slice Ao33 t365.length co33)) Zcg (.slice Ao34 t368.length co34)) (fun _ h_ => h_.1))) (Kd.Zbx ho0) hb); have n5_ := Za.mk (Kd.Zce (by (with_reducible repeat (first | apply Kd.Zbj | apply Kd.Zbi | apply Kd.Zbm)); exact (Kd.Zbo (Kd.Zbz (p := ⟨gb371, 6, none⟩) (Kd.Zbz (p := ⟨gb371, 5, none⟩) (Kd.Zbz (p := ⟨gb371, 4, none⟩) (Kd.Zbz (p := ⟨gb371, 3, none⟩) (Kd.Zbz (p := ⟨gb371, 2, none⟩) (Kd.Zbz (p := ⟨gb371, 1, none⟩) (Kd.Zbz (p := ⟨gb371, 0, none⟩) (Kd.Zbo HO367.out (fun k_ hk => (⟨hk, hk.2⟩ : _ ∧ k_ ≠ gb371))) Zcg (.slice Ao24 t350.length co24)) Zcg (.slice Ao29 t353.length co29)) Zcg (.slice Ao30 t356.length co30)) Zcg (.slice Ao31 t359.length co31)) Zcg (.slice Ao32 t362.length co32)) Zcg (.slice Ao33 t365.length co33)) Zcg (.slice Ao34 t368.length co34)) (fun _ h_ => h_.1))) (Kd.Zbx ho0) hb); have n6_ := Za.mk (Kd.Zce (by (with_reducible repeat (first | apply Kd.Zbj | apply Kd.Zbi | apply Kd.Zbm)); exact (Kd.Zbo (Kd.Zbz (p := ⟨gb371, 6, none⟩) (Kd.Zbz (p := ⟨gb371, 5, none⟩) (Kd.Zbz (p := ⟨gb371, 4, none⟩) (Kd.Zbz (p := ⟨gb371, 3, none⟩) (Kd.Zbz (p := ⟨gb371, 2, none⟩) (Kd.Zbz (p := ⟨gb371, 1, none⟩) (Kd.Zbz (p := ⟨gb371, 0, none⟩) (Kd.Zbo HO370.out (fun k_ hk => (⟨hk, hk.2⟩ : _ ∧ k_ ≠ gb371))) Zcg (.slice Ao24 t350.length co24)) Zcg (.slice Ao29 t353.length co29)) Zcg (.slice Ao30 t356.length co30)) Zcg (.slice Ao31 t359.length co31)) Zcg (.slice Ao32 t362.length co32)) Zcg (.slice Ao33 t365.length co33)) Zcg (.slice Ao34 t368.length co34)) (fun _ h_ => h_.1))) (Kd.Zbx ho0) hb); have n7_ := Za.mk (Kd.Zdk ho0 (Zat Zeu)); have n8_ := Za.mk (Zam (g := gb345) (o := .cells #[.slice A0_0 l0_0.length c0_0, .slice A0_1 l0_1.length c0_1, .slice A0_2 l0_2.length c0_2, .slice A0_3 l0_3.length c0_3, .slice A0_4 l0_4.length c0_4, .slice A0_5 l0_5.length c0_5, .slice A0_6 l0_6.length c0_6, .slice A0_7 l0_7.length c0_7, .slice A0_8 l0_8.length c0_8, .slice A0_9 l0_9.length c0_9] 24 (0, 0)) (by (with_reducible repeat (first | refine Zan ?_ _ | refine Zap ?_ | refine Zao ?_ _)); refine Zdp ?_ NB345_371.out _; (with_reducible repeat (first | refine Zan ?_ _ | refine Zap ?_ | refine Zao ?_ _)); refine Zdp ?_ NB345_371.out _; (with_reducible repeat (first | refine Zan ?_ _ | refine Zap ?_ | refine Zao ?_ _)); refine Zdp ?_ NB345_371.out _; (with_reducible repeat (first | refine Zan ?_ _ | refine Zap ?_ | refine Zao ?_ _)); refine Zdp ?_ NB345_371.out _; (with_reducible repeat (first | refine Zan ?_ _ | refine Zap ?_ | refine Zao ?_ _)); refine Zdp ?_ NB345_371.out _; (with_reducible repeat (first | refine Zan ?_ _ | refine Zap ?_ | refine Zao ?_ _)); refine Zdp ?_ NB345_371.out _; (with_reducible repeat (first | refine Zan ?_ _ | refine Zap ?_ | refine Zao ?_ _)); refine Zdp ?_ NB345_371.out _; (with_reducible repeat (first | refine Zan ?_ _ | refine Zap ?_ | refine Zao ?_ _)); exact BK345.out) hb); have n9_ := Za.mk (Zam (g := gb346) (o := .cells #[.int .i64 a2_0, .int .u8 a2_1] 32 (0, 0)) (by (with_reducible repeat (first | refine Zan ?_ _ | refine Zap ?_ | refine Zao ?_ _)); refine Zdp ?_ NB346_371.out _; (with_reducible repeat (first | refine Zan ?_ _ | refine Zap ?_ | refine Zao ?_ _)); refine Zdp ?_ NB346_371.out _; (with_reducible repeat (first | refine Zan ?_ _ | refine Zap ?_ | refine Zao ?_ _)); refine Zdp ?_ NB346_371.out _; (with_reducible repeat (first | refine Zan ?_ _ | refine Zap ?_ | refine Zao ?_ _)); refine Zdp ?_ NB346_371.out _; (with_reducible repeat (first | refine Zan ?_ _ | refine Zap ?_ | refine Zao ?_ _)); refine Zdp ?_ NB346_371.out _; (with_reducible repeat (first | refine Zan ?_ _ | refine Zap ?_ | refine Zao ?_ _)); refine Zdp ?_ NB346_371.out _; (with_reducible repeat (first | refine Zan ?_ _ | refine Zap ?_ | refine Zao ?_ _)); refine Zdp ?_ NB346_371.out _; (with_reducible repeat (first | refine Zan ?_ _ | refine Zap ?_ | refine Zao ?_ _)); exact BK346.out) hb); have n10_ := Za.mk (Zam (g := gb347) (o := .cells #[.int .i64 a4_0, .int .u8 a4_1] 32 (0, 0)) (by (with_reducible repeat (first | refine Zan ?_ _ | refine Zap ?_ | refine Zao ?_ _)); refine Zdp ?_ NB347_371.out _; (with_reducible repeat (first | refine Zan ?_ _ | refine Zap ?_ | refine Zao ?_ _)); refine Zdp ?_ NB347_371.out _; (with_reducible repeat (first | refine Zan ?_ _ | refine Zap ?_ | refine Zao ?_ _)); refine Zdp ?_ NB347_371.out _; (with_reducible repeat (first | refine Zan ?_ _ | refine Zap ?_ | refine Zao ?_ _)); refine Zdp ?_ NB347_371.out _; (with_reducible repeat (first | refine Zan ?_ _ | refine Zap ?_ | refine Zao ?_ _)); refine Zdp ?_ NB347_371.out _; (with_reducible repeat (first | refine Zan ?_ _ | refine Zap ?_ | refine Zao ?_ _)); refine Zdp ?_ NB347_371.out _; (with_reducible repeat (first | refine Zan ?_ _ | refine Zap ?_ | refine Zao ?_ _)); refine Zdp ?_ NB347_371.out _; (with_reducible repeat (first | refine Zan ?_ _ | refine Zap ?_ | refine Zao ?_ _)); exact BK347.out) hb); have n11_ := Za.mk (Zam (g := gb371) (o := .cells #[.slice Ao24 t350.length co24, .slice Ao29 t353.length co29, .slice Ao30 t356.length co30, .slice Ao31 t359.length co31, .slice Ao32 t362.length co32, .slice Ao33 t365.length co33, .slice Ao34 t368.length co34] 38 (0, 0)) (by (with_reducible repeat (first | refine Zan ?_ _ | refine Zap ?_ | refine Zao ?_ _)); refine Zeh (cs := #[.slice Ao24 t350.length co24, .slice Ao29 t353.length co29, .slice Ao30 t356.length co30, .slice Ao31 t359.length co31, .slice Ao32 t362.length co32, .slice Ao33 t365.length co33, .slice none 0 0]) ?_ 6 _ rfl; (with_reducible repeat (first | refine Zan ?_ _ | refine Zap ?_ | refine Zao ?_ _)); refine Zeh (cs := #[.slice Ao24 t350.length co24, .slice Ao29 t353.length co29, .slice Ao30 t356.length co30, .slice Ao31 t359.length co31, .slice Ao32 t362.length co32, .slice none 0 0, .slice none 0 0]) ?_ 5 _ rfl; (with_reducible repeat (first | refine Zan ?_ _ | refine Zap ?_ | refine Zao ?_ _)); refine Zeh (cs := #[.slice Ao24 t350.length co24, .slice Ao29 t353.length co29, .slice Ao30 t356.length co30, .slice Ao31 t359.length co31, .slice none 0 0, .slice none 0 0, .slice none 0 0]) ?_ 4 _ rfl; (with_reducible repeat (first | refine Zan ?_ _ | refine Zap ?_ | refine Zao ?_ _)); refine Zeh (cs := #[.slice Ao24 t350.length co24, .slice Ao29 t353.length co29, .slice Ao30 t356.length co30, .slice none 0 0, .slice none 0 0, .slice none 0 0, .slice none 0 0]) ?_ 3 _ rfl; (with_reducible repeat (first | refine Zan ?_ _ | refine Zap ?_ | refine Zao ?_ _)); refine Zeh (cs := #[.slice Ao24 t350.length co24, .slice Ao29 t353.length co29, .slice none 0 0, .slice none 0 0, .slice none 0 0, .slice none 0 0, .slice none 0 0]) ?_ 2 _ rfl; (with_reducible repeat (first | refine Zan ?_ _ | refine Zap ?_ | refine Zao ?_ _)); refine Zeh (cs := #[.slice Ao24 t350.length co24, .slice none 0 0, .slice none 0 0, .slice none 0 0, .slice none 0 0, .slice none 0 0, .slice none 0 0]) ?_ 1 _ rfl; (with_reducible repeat (first | refine Zan ?_ _ | refine Zap ?_ | refine Zao ?_ _)); refine Zeh (cs := #[.slice none 0 0, .slice none 0 0, .slice none 0 0, .slice none 0 0, .slice none 0 0, .slice none 0 0, .slice none 0 0]) ?_ 0 _ rfl; (with_reducible repeat (first | refine Zan ?_ _ | refine Zap ?_ | refine Zao ?_ _)); exact BK371.out) hb); have n12_ := Za.mk (Zbb Zeu hb); clear HO352; clear HO355; clear HO358; clear HO361; clear HO364; clear HO367; clear HO370; clear BK345; clear BK346; clear BK347; clear BK371; clear HB; have HO352 := n0_; have HO355 := n1_; have HO358 := n2_; have HO361 := n3_; have HO364 := n4_; have HO367 := n5_; have HO370 := n6_; have HO374 := n7_; have BK345 := n8_; have BK346 := n9_; have BK347 := n10_; have BK371 := n11_; have HB := n12_; clear n0_ n1_ n2_ n3_ n4_ n5_ n6_ n7_ n8_ n9_ n10_ n11_ n12_; (try clear hb); (try clear hb2); (try clear hk); (try clear hi); (try clear ho0)))
 have n0_ := Za.mk (Kd.Zbm HO352.out)
 have n1_ := Za.mk (Kd.Zbm HO355.out)
 have n2_ := Za.mk (Kd.Zbm HO358.out)
 have n3_ := Za.mk (Kd.Zbm HO361.out)
 have n4_ := Za.mk (Kd.Zbm HO364.out)
 have n5_ := Za.mk (Kd.Zbm HO367.out)
 have n6_ := Za.mk (Kd.Zbm HO370.out)
 have n7_ := Za.mk (Kd.Zbw HO374.out)
 have n8_ := Za.mk (Zap BK345.out)
 have n9_ := Za.mk (Zap BK346.out)
 have n10_ := Za.mk (Zap BK347.out)
 have n11_ := Za.mk (Zap BK371.out)
 have n12_ := Za.mk (Zal HB.out)
 clear HO352
 clear HO355
 clear HO358
 clear HO361
 clear HO364
 clear HO367
 clear HO370
 clear HO374
 clear BK345
 clear BK346
 clear BK347
 clear BK371
 clear HB
 have HO352 := n0_
 have HO355 := n1_
 have HO358 := n2_
 have HO361 := n3_
 have HO364 := n4_
 have HO367 := n5_
 have HO370 := n6_
 have HO374 := n7_
 have BK345 := n8_
 have BK346 := n9_
 have BK347 := n10_
 have BK371 := n11_
 have HB := n12_
 clear n0_ n1_ n2_ n3_ n4_ n5_ n6_ n7_ n8_ n9_ n10_ n11_ n12_
 refine Zek (n := 12) (S := fun w' => w'.cell? ⟨gb371, 0, none⟩ = some (.slice Ao24 t350.length co24) ∧ w'.cell? ⟨gb371, 1, none⟩ = some (.slice Ao29 t353.length co29) ∧ w'.cell? ⟨gb371, 2, none⟩ = some (.slice Ao30 t356.length co30) ∧ w'.cell? ⟨gb371, 3, none⟩ = some (.slice Ao31 t359.length co31) ∧ w'.cell? ⟨gb371, 4, none⟩ = some (.slice Ao32 t362.length co32) ∧ w'.cell? ⟨gb371, 5, none⟩ = some (.slice Ao33 t365.length co33) ∧ w'.cell? ⟨gb371, 6, none⟩ = some (.slice Ao34 t368.length co34) ∧ w'.cell? ⟨gb346, 0, none⟩ = some (.int .i64 a2_0) ∧ w'.cell? ⟨gb346, 1, none⟩ = some (.int .u8 a2_1)) (ds := []) u14_0 Zcj rfl rfl ⟨(Zah BK371.out 0).trans rfl, (Zah BK371.out 1).trans rfl, (Zah BK371.out 2).trans rfl, (Zah BK371.out 3).trans rfl, (Zah BK371.out 4).trans rfl, (Zah BK371.out 5).trans rfl, (Zah BK371.out 6).trans rfl, (Zah BK346.out 0).trans rfl, (Zah BK346.out 1).trans rfl⟩ (fun hHeld => ?_); refine Zcp Zaa.tab5 Zaa.bits5 (fun HT_ HW_ => ?_)
 generalize w38.drew = w39 at HO352 HO355 HO358 HO361 HO364 HO367 HO370 HO374 BK345 BK346 BK347 BK371 HB hHeld ⊢
 refine Zbc (i := 1) (N := some 40) (v := ?_) (a' := ?_) u14_1 rfl rfl (Zaw HT_.out Zcj) (fun _ _ _ h => h) (Or.inl ⟨by rfl, ?_⟩) ?_ ?_
 rotate_left
 ·intro w'
  go_simp
  with_reducible rfl
 rotate_left
 ·simp only [Act.put, s0_, s1_, s2_, Zax, Zay]
  rfl
 refine Zbc (i := 4) (N := some 43) (v := ?_) (a' := ?_) u14_2 rfl rfl (Zaw HT_.out Zcj) (fun _ _ _ h => h) (Or.inl ⟨by rfl, ?_⟩) ?_ ?_
 rotate_left
 ·intro w'
  go_simp
  with_reducible rfl
 rotate_left
 ·simp only [Act.put, s0_, s1_, s2_, Zax, Zay]
  rfl
 refine Zdh (i := 0) (N := some 39) (v := ?_) (a' := ?_) u14_3 rfl rfl (Zbt HT_.out HW_.out Zcj) (fun _ _ _ h => h) (Or.inl ⟨by rfl, ?_⟩) hHeld ?_ ?_
 rotate_left
 ·rintro w' ⟨s0, s1, s2, s3, s4, s5, s6, s7, s8⟩
  go_simp
  with_reducible rfl
 rotate_left
 ·simp only [Act.put, s0_, s1_, s2_, Zax, Zay]
  rfl
 refine Zdh (i := 2) (N := some 41) (v := ?_) (a' := ?_) u14_4 rfl rfl (Zbt HT_.out HW_.out Zcj) (fun _ _ _ h => h) (Or.inl ⟨by rfl, ?_⟩) hHeld ?_ ?_
 rotate_left
 ·rintro w' ⟨s0, s1, s2, s3, s4, s5, s6, s7, s8⟩
  go_simp
  with_reducible rfl
 rotate_left
 ·simp only [Act.put, s0_, s1_, s2_, Zax, Zay]
  rfl
 refine one_ (i := 3) (N := some 42) u14_5 rfl rfl (Zda HT_.out Zcj) (by decide) (fun K hK => ?_)
 refine goes_ Try.func17 Zcj rfl #[.agg #[.int .i64 a2_0, .int .u8 a2_1]] (by rfl) rfl rfl t14_5 ?_
 with_reducible refine (Zbn.calls a2_0 a2_1 t376 t377 t378 _ A10.out).mono ?_
 rintro e w40 ⟨rfl, hb⟩
 refine ⟨_, rfl, ?_⟩
 have n0_ := Za.mk (Kd.Zbh (VD HO352) hb)
 have n1_ := Za.mk (Kd.Zbh (VD HO355) hb)
 have n2_ := Za.mk (Kd.Zbh (VD HO358) hb)
 have n3_ := Za.mk (Kd.Zbh (VD HO361) hb)
 have n4_ := Za.mk (Kd.Zbh (VD HO364) hb)
 have n5_ := Za.mk (Kd.Zbh (VD HO367) hb)
 have n6_ := Za.mk (Kd.Zbh (VD HO370) hb)
 have n7_ := RB HO374 hb
 have n8_ := Za.mk (Zam (KB BK345) hb)
 have n9_ := Za.mk (Zam (KB BK346) hb)
 have n10_ := Za.mk (Zam (KB BK347) hb)
 have n11_ := Za.mk (Zam (KB BK371) hb)
 have n12_ := Za.mk (Zbb Zeu hb)
 clear HO352
 clear HO355
 clear HO358
 clear HO361
 clear HO364
 clear HO367
 clear HO370
 clear HO374
 clear BK345
 clear BK346
 clear BK347
 clear BK371
 clear HB
 have HO352 := n0_
 have HO355 := n1_
 have HO358 := n2_
 have HO361 := n3_
 have HO364 := n4_
 have HO367 := n5_
 have HO370 := n6_
 have HO374 := n7_
 have BK345 := n8_
 have BK346 := n9_
 have BK347 := n10_
 have BK371 := n11_
 have HB := n12_
 clear n0_ n1_ n2_ n3_ n4_ n5_ n6_ n7_ n8_ n9_ n10_ n11_ n12_
 (try clear hb)
 (try clear hb2)
 (try clear hk)
 (try clear hi)
 refine hK.out _ _ ⟨(Zah BK371.out 0).trans rfl, (Zah BK371.out 1).trans rfl, (Zah BK371.out 2).trans rfl, (Zah BK371.out 3).trans rfl, (Zah BK371.out 4).trans rfl, (Zah BK371.out 5).trans rfl, (Zah BK371.out 6).trans rfl, (Zah BK346.out 0).trans rfl, (Zah BK346.out 1).trans rfl⟩ (fun hHeld => ?_)
 clear hK K
 refine Zem (a' := ?_) ?_ ?_
 rotate_left
 ·show Act.put _ (some 42) _ = _
  simp only [Act.put, s0_, s1_, s2_, Zax, Zay]
  rfl
 refine one_ (i := 5) (N := some 44) u14_6 rfl rfl (Zda HT_.out Zcj) (by decide) (fun K hK => ?_)
 refine goes_ Try.func18 Zcj rfl #[.slice A3 l3.length c3] (by rfl) rfl rfl t14_5 ?_
 with_reducible refine (Zbk.calls k _ _ l3 t379 _ ?side1 ?side2 A11.out).mono ?_
 (case side1 => exact CD ((Kd.Zav HR3.out HB.out)))
 (case side2 => exact HC3.out)
 rintro e w41 ⟨v380, rfl, ho0, hb⟩
 refine ⟨_, rfl, ?_⟩
 have n0_ := Za.mk (Kd.Zce (VD HO352) (Kd.Zbx ho0) hb)
 have n1_ := Za.mk (Kd.Zce (VD HO355) (Kd.Zbx ho0) hb)
 have n2_ := Za.mk (Kd.Zce (VD HO358) (Kd.Zbx ho0) hb)
 have n3_ := Za.mk (Kd.Zce (VD HO361) (Kd.Zbx ho0) hb)
 have n4_ := Za.mk (Kd.Zce (VD HO364) (Kd.Zbx ho0) hb)
 have n5_ := Za.mk (Kd.Zce (VD HO367) (Kd.Zbx ho0) hb)
 have n6_ := Za.mk (Kd.Zce (VD HO370) (Kd.Zbx ho0) hb)
 have n7_ := RB HO374 hb
 have n8_ := Za.mk (Kd.Zdk ho0 (Zat Zeu))
 have n9_ := Za.mk (Zam (KB BK345) hb)
 have n10_ := Za.mk (Zam (KB BK346) hb)
 have n11_ := Za.mk (Zam (KB BK347) hb)
 have n12_ := Za.mk (Zam (KB BK371) hb)
 have n13_ := Za.mk (Zbb Zeu hb)
 clear HO352
 clear HO355
 clear HO358
 clear HO361
 clear HO364
 clear HO367
 clear HO370
 clear HO374
 clear BK345
 clear BK346
 clear BK347
 clear BK371
 clear HB
 have HO352 := n0_
 have HO355 := n1_
 have HO358 := n2_
 have HO361 := n3_
 have HO364 := n4_
 have HO367 := n5_
 have HO370 := n6_
 have HO374 := n7_
 have HO381 := n8_
 have BK345 := n9_
 have BK346 := n10_
 have BK347 := n11_
 have BK371 := n12_
 have HB := n13_
 clear n0_ n1_ n2_ n3_ n4_ n5_ n6_ n7_ n8_ n9_ n10_ n11_ n12_ n13_
 (try clear hb)
 (try clear hb2)
 (try clear hk)
 (try clear hi)
 (try clear ho0)
 obtain ⟨Ao42, co42, eo42⟩ := Kd.Zbp HO381.out
 (first | subst eo42 | (injection eo42 with f1_ f2_ f3_; have f4_ := f1_.symm; have f5_ := f3_.symm; clear f1_ f2_ f3_; subst f4_; subst f5_))
 refine hK.out _ _ ⟨(Zah BK371.out 0).trans rfl, (Zah BK371.out 1).trans rfl, (Zah BK371.out 2).trans rfl, (Zah BK371.out 3).trans rfl, (Zah BK371.out 4).trans rfl, (Zah BK371.out 5).trans rfl, (Zah BK371.out 6).trans rfl, (Zah BK346.out 0).trans rfl, (Zah BK346.out 1).trans rfl⟩ (fun hHeld => ?_)
 clear hK K
 refine Zem (a' := ?_) ?_ ?_
 rotate_left
 ·show Act.put _ (some 44) _ = _
  simp only [Act.put, s0_, s1_, s2_, Zax, Zay]
  rfl
 refine one_ (i := 6) (N := some 45) u14_7 rfl rfl (Zda HT_.out Zcj) (by decide) (fun K hK => ?_)
 refine goes_ Try.func16 Zcj rfl #[.agg #[.slice Ao24 t350.length co24, .slice Ao29 t353.length co29, .slice Ao30 t356.length co30, .slice Ao31 t359.length co31, .slice Ao32 t362.length co32, .slice Ao33 t365.length co33, .slice Ao34 t368.length co34], .slice A1 l1.length c1, .agg #[.int .i64 t376, .int .u8 t377, .bool t378], .slice Ao42 t379.length co42] (by rfl) rfl rfl t14_5 ?_
 with_reducible refine (Zas.calls k _ _ t350 _ _ t353 _ _ t356 _ _ t359 _ _ t362 _ _ t365 _ _ t368 _ _ l1 t376 t377 t378 _ _ t379 t382 t385 _ ?side1 ?side2 ?side3 ?side4 ?side5 ?side6 ?side7 ?side8 ?side9 ?side10 ?side11 ?side12 ?side13 ?side14 ?side15 ?side16 ?side17 ?side18 A12.out).mono ?_
 (case side1 => exact CD ((Kd.Zes HO352.out).2.2))
 (case side2 => exact (Kd.Zes HO352.out).2.1)
 (case side3 => exact CD ((Kd.Zes HO355.out).2.2))
 (case side4 => exact (Kd.Zes HO355.out).2.1)
 (case side5 => exact CD ((Kd.Zes HO358.out).2.2))
 (case side6 => exact (Kd.Zes HO358.out).2.1)
 (case side7 => exact CD ((Kd.Zes HO361.out).2.2))
 (case side8 => exact (Kd.Zes HO361.out).2.1)
 (case side9 => exact CD ((Kd.Zes HO364.out).2.2))
 (case side10 => exact (Kd.Zes HO364.out).2.1)
 (case side11 => exact CD ((Kd.Zes HO367.out).2.2))
 (case side12 => exact (Kd.Zes HO367.out).2.1)
 (case side13 => exact CD ((Kd.Zes HO370.out).2.2))
 (case side14 => exact (Kd.Zes HO370.out).2.1)
 (case side15 => exact CD ((Kd.Zav HR1.out HB.out)))
 (case side16 => exact HC1.out)
 (case side17 => exact CD ((Kd.Zb HO381.out).2.2))
 (case side18 => exact (Kd.Zb HO381.out).2.1)
 rintro e w43 ⟨v383, rfl, ho0, hb⟩
 refine ⟨_, rfl, ?_⟩
 have n0_ := Za.mk (Kd.Zce (VD HO352) (Kd.Zbx ho0) hb)
 have n1_ := Za.mk (Kd.Zce (VD HO355) (Kd.Zbx ho0) hb)
 have n2_ := Za.mk (Kd.Zce (VD HO358) (Kd.Zbx ho0) hb)
 have n3_ := Za.mk (Kd.Zce (VD HO361) (Kd.Zbx ho0) hb)
 have n4_ := Za.mk (Kd.Zce (VD HO364) (Kd.Zbx ho0) hb)
 have n5_ := Za.mk (Kd.Zce (VD HO367) (Kd.Zbx ho0) hb)
 have n6_ := Za.mk (Kd.Zce (VD HO370) (Kd.Zbx ho0) hb)
 have n7_ := RB HO374 hb
 have n8_ := RE HO381 hb (Kd.Zbx ho0)
 have n9_ := Za.mk (Kd.Zdk (Kd.Zec ho0 (Kd.R_lt (RD HO381))) (Zat Zeu))
 have n10_ := Za.mk (Zam (KB BK345) hb)
 have n11_ := Za.mk (Zam (KB BK346) hb)
 have n12_ := Za.mk (Zam (KB BK347) hb)
 have n13_ := Za.mk (Zam (KB BK371) hb)
 have n14_ := Za.mk (Zbb Zeu hb)
 clear HO352
 clear HO355
 clear HO358
 clear HO361
 clear HO364
 clear HO367
 clear HO370
 clear HO374
 clear HO381
 clear BK345
 clear BK346
 clear BK347
 clear BK371
 clear HB
 have HO352 := n0_
 have HO355 := n1_
 have HO358 := n2_
 have HO361 := n3_
 have HO364 := n4_
 have HO367 := n5_
 have HO370 := n6_
 have HO374 := n7_
 have HO381 := n8_
 have HO384 := n9_
 have BK345 := n10_
 have BK346 := n11_
 have BK347 := n12_
 have BK371 := n13_
 have HB := n14_
 clear n0_ n1_ n2_ n3_ n4_ n5_ n6_ n7_ n8_ n9_ n10_ n11_ n12_ n13_ n14_
 (try clear hb)
 (try clear hb2)
 (try clear hk)
 (try clear hi)
 (try clear ho0)
 refine hK.out _ _ ⟨(Zah BK371.out 0).trans rfl, (Zah BK371.out 1).trans rfl, (Zah BK371.out 2).trans rfl, (Zah BK371.out 3).trans rfl, (Zah BK371.out 4).trans rfl, (Zah BK371.out 5).trans rfl, (Zah BK371.out 6).trans rfl, (Zah BK346.out 0).trans rfl, (Zah BK346.out 1).trans rfl⟩ (fun hHeld => ?_)
 clear hK K
 refine Zem (a' := ?_) ?_ ?_
 rotate_left
 ·show Act.put _ (some 45) _ = _
  simp only [Act.put, s0_, s1_, s2_, Zax, Zay]
  rfl
 refine Zbc (i := 7) (N := some 38) (v := ?_) (a' := ?_) u14_8 rfl rfl (Zaw HT_.out Zcj) (fun _ _ _ h => h) (Or.inl ⟨by rfl, ?_⟩) ?_ ?_
 rotate_left
 ·intro w'
  go_simp
  with_reducible rfl
 rotate_left
 ·simp only [Act.put, s0_, s1_, s2_, Zax, Zay]
  rfl
 refine Zbc (i := 8) (N := some 46) (v := ?_) (a' := ?_) u14_9 rfl rfl (Zaw HT_.out Zcj) (fun _ _ _ h => h) (Or.inl ⟨by rfl, ?_⟩) ?_ ?_
 rotate_left
 ·intro w'
  go_simp
  with_reducible rfl
 rotate_left
 ·simp only [Act.put, s0_, s1_, s2_, Zax, Zay]
  rfl
 refine Zbc (i := 9) (N := some 47) (v := ?_) (a' := ?_) u14_10 rfl rfl (Zaw HT_.out Zcj) (fun _ _ _ h => h) (Or.inl ⟨by rfl, ?_⟩) ?_ ?_
 rotate_left
 ·intro w'
  go_simp
  with_reducible rfl
 rotate_left
 ·simp only [Act.put, s0_, s1_, s2_, Zax, Zay]
  rfl
 refine Zbc (i := 10) (N := some 14) (v := ?_) (a' := ?_) u14_11 rfl rfl (Zaw HT_.out Zcj) (fun _ _ _ h => h) (Or.inl ⟨by rfl, ?_⟩) ?_ ?_
 rotate_left
 ·intro w'
  go_simp
  with_reducible rfl
 rotate_left
 ·simp only [Act.put, s0_, s1_, s2_, Zax, Zay]
  rfl
 refine Zbc (i := 11) (N := some 15) (v := ?_) (a' := ?_) u14_12 rfl rfl (Zaw HT_.out Zcj) (fun _ _ _ h => h) (Or.inl ⟨by rfl, ?_⟩) ?_ ?_
 rotate_left
 ·intro w'
  go_simp
  with_reducible rfl
 rotate_left
 ·simp only [Act.put, s0_, s1_, s2_, Zax, Zay]
  rfl
 refine done_ (Zdj HT_.out Zcj) ?_
 go_upto_region 6 with (fail)
 go_cut [57] (fun v57 wc => ∃ (kq : Nat) (x57_12 : Bool), v57 = .bool x57_12 ∧ Za (Zaa.j0 kq l1 l3 t372 t375 t382 x57_12 l0_0 l0_1 l0_2 l0_3 l0_4 l0_5 l0_6 l0_7 l0_8 l0_9 a2_0 a2_1 a4_0 a4_1 = some r) ∧ Za (kq ≤ k) ∧ Za (Kd.R k34 34 wc w.heap.size (fun _ => True) v373 t372) ∧ Za (Kd.R k44 44 wc w.heap.size (fun _ => True) v383 t382) ∧ Za (Kd.V (Kd.slice 3 (Kd.int .i64)) 60 wc w.heap.size (fun k_ => some k_ ≠ (v373 : Value).ownBlock ∧ some k_ ≠ (v383 : Value).ownBlock ∧ k_ ≠ gb345 ∧ k_ ≠ gb346 ∧ k_ ≠ gb347 ∧ k_ ≠ gb371) (.slice Ao24 t350.length co24) t350) ∧ Za (Kd.V (Kd.slice 3 (Kd.int .i64)) 60 wc w.heap.size (fun k_ => some k_ ≠ (v373 : Value).ownBlock ∧ some k_ ≠ (v383 : Value).ownBlock ∧ k_ ≠ gb345 ∧ k_ ≠ gb346 ∧ k_ ≠ gb347 ∧ k_ ≠ gb371) (.slice Ao29 t353.length co29) t353) ∧ Za (Kd.V (Kd.slice 3 (Kd.int .i64)) 60 wc w.heap.size (fun k_ => some k_ ≠ (v373 : Value).ownBlock ∧ some k_ ≠ (v383 : Value).ownBlock ∧ k_ ≠ gb345 ∧ k_ ≠ gb346 ∧ k_ ≠ gb347 ∧ k_ ≠ gb371) (.slice Ao30 t356.length co30) t356) ∧ Za (Kd.V (Kd.slice 3 (Kd.int .i64)) 60 wc w.heap.size (fun k_ => some k_ ≠ (v373 : Value).ownBlock ∧ some k_ ≠ (v383 : Value).ownBlock ∧ k_ ≠ gb345 ∧ k_ ≠ gb346 ∧ k_ ≠ gb347 ∧ k_ ≠ gb371) (.slice Ao31 t359.length co31) t359) ∧ Za (Kd.V (Kd.slice 3 (Kd.int .i64)) 60 wc w.heap.size (fun k_ => some k_ ≠ (v373 : Value).ownBlock ∧ some k_ ≠ (v383 : Value).ownBlock ∧ k_ ≠ gb345 ∧ k_ ≠ gb346 ∧ k_ ≠ gb347 ∧ k_ ≠ gb371) (.slice Ao32 t362.length co32) t362) ∧ Za (Kd.V (Kd.slice 3 (Kd.int .i64)) 60 wc w.heap.size (fun k_ => some k_ ≠ (v373 : Value).ownBlock ∧ some k_ ≠ (v383 : Value).ownBlock ∧ k_ ≠ gb345 ∧ k_ ≠ gb346 ∧ k_ ≠ gb347 ∧ k_ ≠ gb371) (.slice Ao33 t365.length co33) t365) ∧ Za (Kd.V (Kd.slice 3 (Kd.int .i64)) 60 wc w.heap.size (fun k_ => some k_ ≠ (v373 : Value).ownBlock ∧ some k_ ≠ (v383 : Value).ownBlock ∧ k_ ≠ gb345 ∧ k_ ≠ gb346 ∧ k_ ≠ gb347 ∧ k_ ≠ gb371) (.slice Ao34 t368.length co34) t368) ∧ Za (wc.heap[gb345]? = some (.cells #[(.slice A0_0 l0_0.length c0_0), (.slice A0_1 l0_1.length c0_1), (.slice A0_2 l0_2.length c0_2), (.slice A0_3 l0_3.length c0_3), (.slice A0_4 l0_4.length c0_4), (.slice A0_5 l0_5.length c0_5), (.slice A0_6 l0_6.length c0_6), (.slice A0_7 l0_7.length c0_7), (.slice A0_8 l0_8.length c0_8), (.slice A0_9 l0_9.length c0_9)] 24 (0, 0))) ∧ Za (wc.heap[gb346]? = some (.cells #[.int .i64 a2_0, .int .u8 a2_1] 32 (0, 0))) ∧ Za (wc.heap[gb347]? = some (.cells #[.int .i64 a4_0, .int .u8 a4_1] 32 (0, 0))) ∧ Za (wc.heap[gb371]? = some (.cells #[(.slice Ao24 t350.length co24), (.slice Ao29 t353.length co29), (.slice Ao30 t356.length co30), (.slice Ao31 t359.length co31), (.slice Ao32 t362.length co32), (.slice Ao33 t365.length co33), (.slice Ao34 t368.length co34)] 38 (0, 0))) ∧ Za (Below w.heap.size w wc))
 case first =>
  have H := HC13.out
  clear HC13
  by_cases c44 : (t375 != t385) = true
  case neg =>
   rw [if_neg c44] at H
   have c44b0 : (t375 != t385) = false := by simpa using c44
   (try (have c44b1 : decide (t375 = t385) = true := by simpa using c44))
   (try (have c44b2 : (t375 == t385) = true := by simpa using c44))
   clear c44
   (first | rw [c44b0] | (simp only [Zax, Zay]; rw [c44b0]) | skip)
   replace H := Option.bind_eq_some_iff.mp H
   obtain ⟨t386, A450, H⟩ := H
   try dsimp only at H
   have A45 := Za.mk A450
   clear A450
   replace H := Option.bind_eq_some_iff.mp H
   obtain ⟨t389, A460, H⟩ := H
   try dsimp only at H
   have A46 := Za.mk A460
   clear A460
   have H' := Za.mk H
   clear H
   obtain ⟨Ao47, co47, eo47⟩ := Kd.Zbp HO374.out
   subst eo47
   go_wp2_with (first | (go_at_call 20; (with_reducible refine (Zba.calls k _ _ t372 t386 _ ?side1 ?side2 A45.out).mono ?_); (case side1 => exact CD ((Kd.Zb HO374.out).2.2)); (case side2 => exact (Kd.Zb HO374.out).2.1); rintro e w48 ⟨v387, rfl, ho0, hb⟩; have n0_ := Za.mk (Kd.Zce (VD HO352) (Kd.Zbx ho0) hb); have n1_ := Za.mk (Kd.Zce (VD HO355) (Kd.Zbx ho0) hb); have n2_ := Za.mk (Kd.Zce (VD HO358) (Kd.Zbx ho0) hb); have n3_ := Za.mk (Kd.Zce (VD HO361) (Kd.Zbx ho0) hb); have n4_ := Za.mk (Kd.Zce (VD HO364) (Kd.Zbx ho0) hb); have n5_ := Za.mk (Kd.Zce (VD HO367) (Kd.Zbx ho0) hb); have n6_ := Za.mk (Kd.Zce (VD HO370) (Kd.Zbx ho0) hb); have n7_ := RB HO374 hb; have n8_ := RE HO381 hb (Kd.Zbx ho0); have n9_ := RE HO384 hb (Kd.Zbx ho0); have n10_ := Za.mk (Kd.Zdk (Kd.Zec (Kd.Zec ho0 (Kd.R_lt (RD HO381))) (Kd.R_lt (RD HO384))) (Zat Zeu)); have n11_ := Za.mk (Zam (KB BK345) hb); have n12_ := Za.mk (Zam (KB BK346) hb); have n13_ := Za.mk (Zam (KB BK347) hb); have n14_ := Za.mk (Zam (KB BK371) hb); have n15_ := Za.mk (Zbb Zeu hb); clear HO352; clear HO355; clear HO358; clear HO361; clear HO364; clear HO367; clear HO370; clear HO374; clear HO381; clear HO384; clear BK345; clear BK346; clear BK347; clear BK371; clear HB; have HO352 := n0_; have HO355 := n1_; have HO358 := n2_; have HO361 := n3_; have HO364 := n4_; have HO367 := n5_; have HO370 := n6_; have HO374 := n7_; have HO381 := n8_; have HO384 := n9_; have HO388 := n10_; have BK345 := n11_; have BK346 := n12_; have BK347 := n13_; have BK371 := n14_; have HB := n15_; clear n0_ n1_ n2_ n3_ n4_ n5_ n6_ n7_ n8_ n9_ n10_ n11_ n12_ n13_ n14_ n15_; (try clear hb); (try clear hb2); (try clear hk); (try clear hi); (try clear ho0); obtain ⟨Ao49, co49, eo49⟩ := Kd.Zbp HO388.out; subst eo49; obtain ⟨Ao50, co50, eo50⟩ := Kd.Zbp HO384.out; subst eo50) | (go_at_call 19; (with_reducible refine (Zbf.calls k _ _ t386 _ _ t382 t389 _ ?side1 ?side2 ?side3 ?side4 A46.out).mono ?_); (case side1 => exact CD ((Kd.Zb HO388.out).2.2)); (case side2 => exact (Kd.Zb HO388.out).2.1); (case side3 => exact CD ((Kd.Zb HO384.out).2.2)); (case side4 => exact (Kd.Zb HO384.out).2.1); rintro e w' ⟨rfl, ⟨nd, rfl⟩⟩))
   go_meet
   case rel => exact ⟨_, (!t389), t14_11, H', ⟨by first | omega | exact Nat.le_refl _⟩, ⟨RD HO374⟩, ⟨by (with_reducible repeat (first | apply Kd.Zcm | apply Kd.Zcl | apply Kd.Zbw)); exact Kd.Zbv HO384.out (fun _ hk => trivial)⟩, ⟨by (with_reducible repeat (first | apply Kd.Zbj | apply Kd.Zbi | apply Kd.Zbm)); exact Kd.Zbo HO352.out t14_7⟩, ⟨by (with_reducible repeat (first | apply Kd.Zbj | apply Kd.Zbi | apply Kd.Zbm)); exact Kd.Zbo HO355.out t14_7⟩, ⟨by (with_reducible repeat (first | apply Kd.Zbj | apply Kd.Zbi | apply Kd.Zbm)); exact Kd.Zbo HO358.out t14_7⟩, ⟨by (with_reducible repeat (first | apply Kd.Zbj | apply Kd.Zbi | apply Kd.Zbm)); exact Kd.Zbo HO361.out t14_7⟩, ⟨by (with_reducible repeat (first | apply Kd.Zbj | apply Kd.Zbi | apply Kd.Zbm)); exact Kd.Zbo HO364.out t14_7⟩, ⟨by (with_reducible repeat (first | apply Kd.Zbj | apply Kd.Zbi | apply Kd.Zbm)); exact Kd.Zbo HO367.out t14_7⟩, ⟨by (with_reducible repeat (first | apply Kd.Zbj | apply Kd.Zbi | apply Kd.Zbm)); exact Kd.Zbo HO370.out t14_7⟩, ⟨by (with_reducible repeat (first | refine Zan ?_ _ | refine Zap ?_ | refine Zao ?_ _)); exact BK345.out⟩, ⟨by (with_reducible repeat (first | refine Zan ?_ _ | refine Zap ?_ | refine Zao ?_ _)); exact BK346.out⟩, ⟨by (with_reducible repeat (first | refine Zan ?_ _ | refine Zap ?_ | refine Zao ?_ _)); exact BK347.out⟩, ⟨by (with_reducible repeat (first | refine Zan ?_ _ | refine Zap ?_ | refine Zao ?_ _)); exact BK371.out⟩, ⟨by repeat (first | (with_reducible first | exact HB.out | apply Zau | apply Zaj | apply Zal | refine Zai ?_ GE345.out | refine Zai ?_ GE346.out | refine Zai ?_ GE347.out | refine Zai ?_ GE371.out) | exact HB.out)⟩⟩
  rw [if_pos c44] at H
  have c44b0 : (t375 != t385) = true := c44
  (try (have c44b1 : decide (t375 = t385) = false := by simpa using c44))
  (try (have c44b2 : (t375 == t385) = false := by simpa using c44))
  (try (have c44b3 : ¬ (t375 = t385) := by simpa using c44))
  clear c44
  (first | rw [c44b0] | (simp only [Zax, Zay]; rw [c44b0]) | skip)
  have H' := Za.mk H
  clear H
  go_wp2
  go_meet
  case rel => exact ⟨_, (true), t14_11, H', ⟨by first | omega | exact Nat.le_refl _⟩, ⟨RD HO374⟩, ⟨by (with_reducible repeat (first | apply Kd.Zcm | apply Kd.Zcl | apply Kd.Zbw)); exact Kd.Zbv HO384.out (fun _ hk => trivial)⟩, ⟨by (with_reducible repeat (first | apply Kd.Zbj | apply Kd.Zbi | apply Kd.Zbm)); exact Kd.Zbo HO352.out t14_8⟩, ⟨by (with_reducible repeat (first | apply Kd.Zbj | apply Kd.Zbi | apply Kd.Zbm)); exact Kd.Zbo HO355.out t14_8⟩, ⟨by (with_reducible repeat (first | apply Kd.Zbj | apply Kd.Zbi | apply Kd.Zbm)); exact Kd.Zbo HO358.out t14_8⟩, ⟨by (with_reducible repeat (first | apply Kd.Zbj | apply Kd.Zbi | apply Kd.Zbm)); exact Kd.Zbo HO361.out t14_8⟩, ⟨by (with_reducible repeat (first | apply Kd.Zbj | apply Kd.Zbi | apply Kd.Zbm)); exact Kd.Zbo HO364.out t14_8⟩, ⟨by (with_reducible repeat (first | apply Kd.Zbj | apply Kd.Zbi | apply Kd.Zbm)); exact Kd.Zbo HO367.out t14_8⟩, ⟨by (with_reducible repeat (first | apply Kd.Zbj | apply Kd.Zbi | apply Kd.Zbm)); exact Kd.Zbo HO370.out t14_8⟩, ⟨by (with_reducible repeat (first | refine Zan ?_ _ | refine Zap ?_ | refine Zao ?_ _)); exact BK345.out⟩, ⟨by (with_reducible repeat (first | refine Zan ?_ _ | refine Zap ?_ | refine Zao ?_ _)); exact BK346.out⟩, ⟨by (with_reducible repeat (first | refine Zan ?_ _ | refine Zap ?_ | refine Zao ?_ _)); exact BK347.out⟩, ⟨by (with_reducible repeat (first | refine Zan ?_ _ | refine Zap ?_ | refine Zao ?_ _)); exact BK371.out⟩, ⟨by repeat (first | (with_reducible first | exact HB.out | apply Zau | apply Zaj | apply Zal | refine Zai ?_ GE345.out | refine Zai ?_ GE346.out | refine Zai ?_ GE347.out | refine Zai ?_ GE371.out) | exact HB.out)⟩⟩
 case rest =>
  clear HC13
  try clear c1
  try clear c2
  try clear p2
  try clear c3
  try clear c4
  try clear c7
  try clear c12
  try clear c14
  try clear c15
  try clear c16
  try clear c17
  try clear c18
  try clear c25
  try clear c26
  try clear c27
  try clear c36
  try clear c44
  try clear c44b0
  try clear c44b1
  try clear c44b2
  try clear hcz19_0
  try clear hcz19_1
  try clear hcz19_2
  try clear hcz19_3
  try clear hcz19_4
  try clear hcz19_5
  try clear hcz19_6
  try clear hcz19_7
  try clear hcz19_8
  try clear hcz19_9
  try clear hcz21_0
  try clear hcz21_1
  try clear hcz21_2
  try clear hcz21_3
  try clear hcz21_4
  try clear hcz21_5
  try clear hcz21_6
  try clear hcz21_7
  try clear hcz21_8
  try clear hcz21_9
  try clear hcz28_0
  try clear hcz28_1
  try clear hcz28_2
  try clear hcz28_3
  try clear hcz28_4
  try clear hcz28_5
  try clear hcz28_6
  try clear hcz35_0
  try clear hcz35_1
  try clear hcz35_2
  try clear hcz35_3
  try clear hcz35_4
  try clear hcz35_5
  try clear hcz35_6
  try clear hcz35_7
  try clear hcz35_8
  try clear hcz35_9
  try clear hcz37_0
  try clear hcz37_1
  try clear hfz19_0
  try clear hfz19_1
  try clear hfz19_2
  try clear hfz19_3
  try clear hfz19_4
  try clear hfz19_5
  try clear hfz19_6
  try clear hfz19_7
  try clear hfz19_8
  try clear hfz19_9
  try clear hfz21_0
  try clear hfz21_1
  try clear hfz21_2
  try clear hfz21_3
  try clear hfz21_4
  try clear hfz21_5
  try clear hfz21_6
  try clear hfz21_7
  try clear hfz21_8
  try clear hfz21_9
  try clear hfz28_0
  try clear hfz28_1
  try clear hfz28_2
  try clear hfz28_3
  try clear hfz28_4
  try clear hfz28_5
  try clear hfz28_6
  try clear hfz35_0
  try clear hfz35_1
  try clear hfz35_2
  try clear hfz35_3
  try clear hfz35_4
  try clear hfz35_5
  try clear hfz35_6
  try clear hfz35_7
  try clear hfz35_8
  try clear hfz35_9
  try clear hfz37_0
  try clear hfz37_1
  obtain ⟨kq, x57_12, rfl, HA, HJ12, HO_12, HO_14, HO_372000, HO_372001, HO_372002, HO_372003, HO_372004, HO_372005, HO_372006, BK345, BK346, BK347, BK371, HB⟩ := hcut
  cases kq with
  | zero => exact absurd HA.out (by simp [Zaa.j0])
  | succ kj12 =>
   have H := HA.out
   clear HA
   simp only [Zaa.j0] at H
   by_cases c51 : x57_12 = true
   case neg =>
    replace c51 := Bool.eq_false_iff.mpr c51
    subst c51
    have H1 : (if ([] : List (S32)).length + l3.length < 8796093022208 then ((some (([] : List (S32)) ++ l3 : List (S32))).bind fun y390 => (if y390.length < 8796093022208 then ((Zcs.f l0_0 l0_1 l0_2 l0_3 l0_4 l0_5 l0_6 l0_7 l0_8 l0_9 l1 a2_0 a2_1 (y390 ++ [(⟨a4_0, a4_1⟩ : S32)])).bind fun bt396 => (if bt396.2 = true then (Zaa.j1 kj12 l1 l3 t372 t375 t382 bt396.1 (!t375) l0_0 l0_1 l0_2 l0_3 l0_4 l0_5 l0_6 l0_7 l0_8 l0_9 a2_0 a2_1 a4_0 a4_1) else (Zaa.j1 kj12 l1 l3 t372 t375 t382 bt396.1 false l0_0 l0_1 l0_2 l0_3 l0_4 l0_5 l0_6 l0_7 l0_8 l0_9 a2_0 a2_1 a4_0 a4_1))) else (none))) else (none)) = some r := by rw [if_neg (show ¬ (false = true) by decide)] at H; exact H
    clear H
    have H := H1
    clear H1
    by_cases c52 : ([] : List (S32)).length + l3.length < 8796093022208
    case neg =>
     rw [if_neg c52] at H
     exact absurd H (by simp)
    rw [if_pos c52] at H
    have LMc52 := Za.mk c52
    clear c52
    obtain ⟨y390, hy390⟩ : ∃ y_ : List (S32), y_ = (([] : List (S32)) ++ l3) := ⟨_, rfl⟩
    replace H : (if y390.length < 8796093022208 then ((Zcs.f l0_0 l0_1 l0_2 l0_3 l0_4 l0_5 l0_6 l0_7 l0_8 l0_9 l1 a2_0 a2_1 (y390 ++ [(⟨a4_0, a4_1⟩ : S32)])).bind fun bt396 => (if bt396.2 = true then (Zaa.j1 kj12 l1 l3 t372 t375 t382 bt396.1 (!t375) l0_0 l0_1 l0_2 l0_3 l0_4 l0_5 l0_6 l0_7 l0_8 l0_9 a2_0 a2_1 a4_0 a4_1) else (Zaa.j1 kj12 l1 l3 t372 t375 t382 bt396.1 false l0_0 l0_1 l0_2 l0_3 l0_4 l0_5 l0_6 l0_7 l0_8 l0_9 a2_0 a2_1 a4_0 a4_1))) else (none)) = some r := by first | (rw [hy390]; with_reducible exact H) | (have H2_ := (Option.bind_some _ _).symm.trans H; rw [hy390]; with_reducible exact H2_) | (have H2_ := (Option.bind_some _ _).symm.trans H; with_reducible exact H2_) | with_reducible exact H | (rw [hy390]; exact H) | exact H
    have Ny390 := Za.mk hy390
    clear hy390
    by_cases c53 : y390.length < 8796093022208
    case neg =>
     rw [if_neg c53] at H
     exact absurd H (by simp)
    rw [if_pos c53] at H
    have LMc53 := Za.mk c53
    clear c53
    obtain ⟨y393, hy393⟩ : ∃ y_ : List (S32), y_ = (y390 ++ [(⟨a4_0, a4_1⟩ : S32)]) := ⟨_, rfl⟩
    replace H : ((Zcs.f l0_0 l0_1 l0_2 l0_3 l0_4 l0_5 l0_6 l0_7 l0_8 l0_9 l1 a2_0 a2_1 y393).bind fun bt396 => (if bt396.2 = true then (Zaa.j1 kj12 l1 l3 t372 t375 t382 bt396.1 (!t375) l0_0 l0_1 l0_2 l0_3 l0_4 l0_5 l0_6 l0_7 l0_8 l0_9 a2_0 a2_1 a4_0 a4_1) else (Zaa.j1 kj12 l1 l3 t372 t375 t382 bt396.1 false l0_0 l0_1 l0_2 l0_3 l0_4 l0_5 l0_6 l0_7 l0_8 l0_9 a2_0 a2_1 a4_0 a4_1))) = some r := by first | (rw [hy393]; with_reducible exact H) | (have H2_ := (Option.bind_some _ _).symm.trans H; rw [hy393]; with_reducible exact H2_) | (have H2_ := (Option.bind_some _ _).symm.trans H; with_reducible exact H2_) | with_reducible exact H | (rw [hy393]; exact H) | exact H
    have Ny393 := Za.mk hy393
    clear hy393
    replace H := Option.bind_eq_some_iff.mp H
    obtain ⟨⟨t396, t399⟩, A540, H⟩ := H
    replace H : (if t399 = true then (Zaa.j1 kj12 l1 l3 t372 t375 t382 t396 (!t375) l0_0 l0_1 l0_2 l0_3 l0_4 l0_5 l0_6 l0_7 l0_8 l0_9 a2_0 a2_1 a4_0 a4_1) else (Zaa.j1 kj12 l1 l3 t372 t375 t382 t396 false l0_0 l0_1 l0_2 l0_3 l0_4 l0_5 l0_6 l0_7 l0_8 l0_9 a2_0 a2_1 a4_0 a4_1)) = some r := H
    have A54 := Za.mk A540
    clear A540
    have HC55 := Za.mk H
    clear H
    go_upto_region 12 with (first | ((with_reducible refine Zdl (b := .append) (xs := #[.tmp 58, .tmp 59]) rfl ?_); at_builtin; refine Kd.R_append_rows k32 (w0 := w) w.heap.size rfl (.tmp 58) (.tmp 59) 36 32 (.agg #[(.int .i64 0), (.int .u8 0)]) 16 rfl Try.underlying36 info32 rfl (by decide) (by omega) (.slice none 0 0) ([] : List (S32)) l3 _ _ _ (fun k_ => k_ ≠ gb346 ∧ k_ ≠ gb347) (fun _ => False) rfl rfl ?aO ?aR (fun _ _ h => h) (fun _ h => h.elim) ?aF ?aB ?aS ?aL ?_; (case aR => exact CD ((Kd.Zav HR3.out HB.out))); (case aB => exact Zeu); (case aF => exact (fun k_ hk => ⟨Kd.freshB (g := gb346) (o := .cells #[.int .i64 a2_0, .int .u8 a2_1] 32 (0, 0)) (KB BK346) k_ hk, Kd.freshB (g := gb347) (o := .cells #[.int .i64 a4_0, .int .u8 a4_1] 32 (0, 0)) (KB BK347) k_ hk⟩)); (case aO => exact ((Kd.R_nil _ _ _ _ (fun k_ => k_ ≠ gb346 ∧ k_ ≠ gb347)))); (case aS => exact (Zat Zeu)); (case aL => have := LMc52.out; omega); intro v391 w56 ho hb hg hat; rw [← Ny390.out] at ho; have n0_ := Za.mk (Kd.R_grown (RD HO_12) hg (fun _ _ => by simp [Value.ownBlock])); have n1_ := Za.mk (Kd.R_grown (RD HO_14) hg (fun _ _ => by simp [Value.ownBlock])); have n2_ := Za.mk (Kd.Zet (Kd.Zfh (VD HO_372000)) hg hat); have n3_ := Za.mk (Kd.Zet (Kd.Zfh (VD HO_372001)) hg hat); have n4_ := Za.mk (Kd.Zet (Kd.Zfh (VD HO_372002)) hg hat); have n5_ := Za.mk (Kd.Zet (Kd.Zfh (VD HO_372003)) hg hat); have n6_ := Za.mk (Kd.Zet (Kd.Zfh (VD HO_372004)) hg hat); have n7_ := Za.mk (Kd.Zet (Kd.Zfh (VD HO_372005)) hg hat); have n8_ := Za.mk (Kd.Zet (Kd.Zfh (VD HO_372006)) hg hat); have n9_ := Za.mk (Zde (g := gb345) (o := .cells #[.slice A0_0 l0_0.length c0_0, .slice A0_1 l0_1.length c0_1, .slice A0_2 l0_2.length c0_2, .slice A0_3 l0_3.length c0_3, .slice A0_4 l0_4.length c0_4, .slice A0_5 l0_5.length c0_5, .slice A0_6 l0_6.length c0_6, .slice A0_7 l0_7.length c0_7, .slice A0_8 l0_8.length c0_8, .slice A0_9 l0_9.length c0_9] 24 (0, 0)) (KB BK345) hg (by simp [Value.ownBlock])); have n10_ := Za.mk (Zde (g := gb346) (o := .cells #[.int .i64 a2_0, .int .u8 a2_1] 32 (0, 0)) (KB BK346) hg (by simp [Value.ownBlock])); have n11_ := Za.mk (Zde (g := gb347) (o := .cells #[.int .i64 a4_0, .int .u8 a4_1] 32 (0, 0)) (KB BK347) hg (by simp [Value.ownBlock])); have n12_ := Za.mk (Zde (g := gb371) (o := .cells #[.slice Ao24 t350.length co24, .slice Ao29 t353.length co29, .slice Ao30 t356.length co30, .slice Ao31 t359.length co31, .slice Ao32 t362.length co32, .slice Ao33 t365.length co33, .slice Ao34 t368.length co34] 38 (0, 0)) (KB BK371) hg (by simp [Value.ownBlock])); have n13_ := Za.mk (hb); have n14_ := Za.mk (ho); clear HO_12; clear HO_14; clear HO_372000; clear HO_372001; clear HO_372002; clear HO_372003; clear HO_372004; clear HO_372005; clear HO_372006; clear BK345; clear BK346; clear BK347; clear BK371; clear HB; have HO_12 := n0_; have HO_14 := n1_; have HO_372000 := n2_; have HO_372001 := n3_; have HO_372002 := n4_; have HO_372003 := n5_; have HO_372004 := n6_; have HO_372005 := n7_; have HO_372006 := n8_; have BK345 := n9_; have BK346 := n10_; have BK347 := n11_; have BK371 := n12_; have HB := n13_; have HO392 := n14_; clear n0_ n1_ n2_ n3_ n4_ n5_ n6_ n7_ n8_ n9_ n10_ n11_ n12_ n13_ n14_; clear ho hb hg hat; have hnb57 := NB347_345.out; have hnc57 := NB345_347.out; have hnb58 := NB347_346.out; have hnc58 := NB346_347.out; have hnb59 := NB347_371.out; have hnc59 := NB371_347.out; obtain ⟨hcz60_0, hcz60_1, hfz60_0, hfz60_1⟩ := cz2 BK347) | ((with_reducible refine Zdl (b := .append) (xs := #[.tmp 61, .tmp 63]) rfl ?_); at_builtin; refine Kd.R_append k32 (w0 := w) w.heap.size rfl (.tmp 61) (.tmp 63) 36 32 (.agg #[(.int .i64 0), (.int .u8 0)]) 16 rfl Try.underlying36 info32 rfl (by decide) (by omega) v391 y390 (⟨a4_0, a4_1⟩ : S32) [.int .i64 a4_0, .int .u8 a4_1] (fun k_ => k_ ≠ gb346 ∧ k_ ≠ gb347) (fun _ => False) rfl rfl ?aP (fun _ hk => hk.elim) ?aF ?aO ?aB ?aS ?aL ?_; (case aP => exact k32_mkM _ _ _ (⟨a4_0, a4_1⟩ : S32)); (case aB => exact Zeu); (case aF => exact (fun k_ hk => ⟨Kd.freshB (g := gb346) (o := .cells #[.int .i64 a2_0, .int .u8 a2_1] 32 (0, 0)) (KB BK346) k_ hk, Kd.freshB (g := gb347) (o := .cells #[.int .i64 a4_0, .int .u8 a4_1] 32 (0, 0)) (KB BK347) k_ hk⟩)); (case aO => exact (RD HO392)); (case aS => exact (Zat Zeu)); (case aL => have := LMc53.out; omega); intro v394 w61 ho hb hg hat; rw [← Ny393.out] at ho; have n0_ := Za.mk (Kd.R_over' (RD HO_12) (Kd.Zdf (RD HO392)) (by decide) hg); have n1_ := Za.mk (Kd.R_over' (RD HO_14) (Kd.Zdf (RD HO392)) (by decide) hg); have n2_ := Za.mk (Kd.Zet (ok := (fun k_ => some k_ ≠ (v373 : Value).ownBlock ∧ some k_ ≠ (v383 : Value).ownBlock ∧ k_ ≠ gb345 ∧ k_ ≠ gb346 ∧ k_ ≠ gb347 ∧ k_ ≠ gb371)) (VD HO_372000) hg hat); have n3_ := Za.mk (Kd.Zet (ok := (fun k_ => some k_ ≠ (v373 : Value).ownBlock ∧ some k_ ≠ (v383 : Value).ownBlock ∧ k_ ≠ gb345 ∧ k_ ≠ gb346 ∧ k_ ≠ gb347 ∧ k_ ≠ gb371)) (VD HO_372001) hg hat); have n4_ := Za.mk (Kd.Zet (ok := (fun k_ => some k_ ≠ (v373 : Value).ownBlock ∧ some k_ ≠ (v383 : Value).ownBlock ∧ k_ ≠ gb345 ∧ k_ ≠ gb346 ∧ k_ ≠ gb347 ∧ k_ ≠ gb371)) (VD HO_372002) hg hat); have n5_ := Za.mk (Kd.Zet (ok := (fun k_ => some k_ ≠ (v373 : Value).ownBlock ∧ some k_ ≠ (v383 : Value).ownBlock ∧ k_ ≠ gb345 ∧ k_ ≠ gb346 ∧ k_ ≠ gb347 ∧ k_ ≠ gb371)) (VD HO_372003) hg hat); have n6_ := Za.mk (Kd.Zet (ok := (fun k_ => some k_ ≠ (v373 : Value).ownBlock ∧ some k_ ≠ (v383 : Value).ownBlock ∧ k_ ≠ gb345 ∧ k_ ≠ gb346 ∧ k_ ≠ gb347 ∧ k_ ≠ gb371)) (VD HO_372004) hg hat); have n7_ := Za.mk (Kd.Zet (ok := (fun k_ => some k_ ≠ (v373 : Value).ownBlock ∧ some k_ ≠ (v383 : Value).ownBlock ∧ k_ ≠ gb345 ∧ k_ ≠ gb346 ∧ k_ ≠ gb347 ∧ k_ ≠ gb371)) (VD HO_372005) hg hat); have n8_ := Za.mk (Kd.Zet (ok := (fun k_ => some k_ ≠ (v373 : Value).ownBlock ∧ some k_ ≠ (v383 : Value).ownBlock ∧ k_ ≠ gb345 ∧ k_ ≠ gb346 ∧ k_ ≠ gb347 ∧ k_ ≠ gb371)) (VD HO_372006) hg hat); have n9_ := Za.mk (Zde (g := gb345) (o := .cells #[.slice A0_0 l0_0.length c0_0, .slice A0_1 l0_1.length c0_1, .slice A0_2 l0_2.length c0_2, .slice A0_3 l0_3.length c0_3, .slice A0_4 l0_4.length c0_4, .slice A0_5 l0_5.length c0_5, .slice A0_6 l0_6.length c0_6, .slice A0_7 l0_7.length c0_7, .slice A0_8 l0_8.length c0_8, .slice A0_9 l0_9.length c0_9] 24 (0, 0)) (KB BK345) hg ((by first | exact Kd.R_ne HO392.out BK345.out (by decide) | (intro h_; have h2_ := HO392.out.1 _ h_.symm; simp at h2_)))); have n10_ := Za.mk (Zde (g := gb346) (o := .cells #[.int .i64 a2_0, .int .u8 a2_1] 32 (0, 0)) (KB BK346) hg (Kd.R_away HO392.out (fun _ hk => hk.1))); have n11_ := Za.mk (Zde (g := gb347) (o := .cells #[.int .i64 a4_0, .int .u8 a4_1] 32 (0, 0)) (KB BK347) hg (Kd.R_away HO392.out Zcg)); have n12_ := Za.mk (Zde (g := gb371) (o := .cells #[.slice Ao24 t350.length co24, .slice Ao29 t353.length co29, .slice Ao30 t356.length co30, .slice Ao31 t359.length co31, .slice Ao32 t362.length co32, .slice Ao33 t365.length co33, .slice Ao34 t368.length co34] 38 (0, 0)) (KB BK371) hg ((by first | exact Kd.R_ne HO392.out BK371.out (by decide) | (intro h_; have h2_ := HO392.out.1 _ h_.symm; simp at h2_)))); have n13_ := Za.mk (hb); have n14_ := Za.mk (ho); clear HO_12; clear HO_14; clear HO_372000; clear HO_372001; clear HO_372002; clear HO_372003; clear HO_372004; clear HO_372005; clear HO_372006; clear BK345; clear BK346; clear BK347; clear BK371; clear HB; clear HO392; have HO_12 := n0_; have HO_14 := n1_; have HO_372000 := n2_; have HO_372001 := n3_; have HO_372002 := n4_; have HO_372003 := n5_; have HO_372004 := n6_; have HO_372005 := n7_; have HO_372006 := n8_; have BK345 := n9_; have BK346 := n10_; have BK347 := n11_; have BK371 := n12_; have HB := n13_; have HO395 := n14_; clear n0_ n1_ n2_ n3_ n4_ n5_ n6_ n7_ n8_ n9_ n10_ n11_ n12_ n13_ n14_; clear ho hb hg hat; have hnb62 := NB345_346.out; have hnc62 := NB346_345.out; have hnb63 := NB345_371.out; have hnc63 := NB371_345.out; obtain ⟨hcz64_0, hcz64_1, hcz64_2, hcz64_3, hcz64_4, hcz64_5, hcz64_6, hcz64_7, hcz64_8, hcz64_9, hfz64_0, hfz64_1, hfz64_2, hfz64_3, hfz64_4, hfz64_5, hfz64_6, hfz64_7, hfz64_8, hfz64_9⟩ := cz10 BK345; have hnb65 := NB346_371.out; have hnc65 := NB371_346.out; obtain ⟨hcz66_0, hcz66_1, hfz66_0, hfz66_1⟩ := cz2 BK346; obtain ⟨Ao67, co67, eo67⟩ := Kd.Zbp HO395.out; subst eo67) | ((with_reducible refine Zbl (f := 14) rfl ?_); refine Zcx (some 70) rfl rfl Try.func14 Zcj rfl #[.agg #[.slice A0_0 l0_0.length c0_0, .slice A0_1 l0_1.length c0_1, .slice A0_2 l0_2.length c0_2, .slice A0_3 l0_3.length c0_3, .slice A0_4 l0_4.length c0_4, .slice A0_5 l0_5.length c0_5, .slice A0_6 l0_6.length c0_6, .slice A0_7 l0_7.length c0_7, .slice A0_8 l0_8.length c0_8, .slice A0_9 l0_9.length c0_9], .slice A1 l1.length c1, .agg #[.int .i64 a2_0, .int .u8 a2_1], .slice Ao67 y393.length co67] rfl t14_5 ?_; (with_reducible refine (Zcs.calls _ _ l0_0 _ _ l0_1 _ _ l0_2 _ _ l0_3 _ _ l0_4 _ _ l0_5 _ _ l0_6 _ _ l0_7 _ _ l0_8 _ _ l0_9 _ _ l1 a2_0 a2_1 _ _ y393 t396 t399 _ ?side1 ?side2 ?side3 ?side4 ?side5 ?side6 ?side7 ?side8 ?side9 ?side10 ?side11 ?side12 ?side13 ?side14 ?side15 ?side16 ?side17 ?side18 ?side19 ?side20 ?side21 ?side22 ?side23 ?side24 A54.out).mono ?_); (case side1 => exact CD ((Kd.Zav HR0_0.out HB.out))); (case side2 => exact HC0_0.out); (case side3 => exact CD ((Kd.Zav HR0_1.out HB.out))); (case side4 => exact HC0_1.out); (case side5 => exact CD ((Kd.Zav HR0_2.out HB.out))); (case side6 => exact HC0_2.out); (case side7 => exact CD ((Kd.Zav HR0_3.out HB.out))); (case side8 => exact HC0_3.out); (case side9 => exact CD ((Kd.Zav HR0_4.out HB.out))); (case side10 => exact HC0_4.out); (case side11 => exact CD ((Kd.Zav HR0_5.out HB.out))); (case side12 => exact HC0_5.out); (case side13 => exact CD ((Kd.Zav HR0_6.out HB.out))); (case side14 => exact HC0_6.out); (case side15 => exact CD ((Kd.Zav HR0_7.out HB.out))); (case side16 => exact HC0_7.out); (case side17 => exact CD ((Kd.Zav HR0_8.out HB.out))); (case side18 => exact HC0_8.out); (case side19 => exact CD ((Kd.Zav HR0_9.out HB.out))); (case side20 => exact HC0_9.out); (case side21 => exact CD ((Kd.Zav HR1.out HB.out))); (case side22 => exact HC1.out); (case side23 => exact CD ((Kd.Zb HO395.out).2.2)); (case side24 => exact (Kd.Zb HO395.out).2.1); rintro e w68 ⟨v397, rfl, ho0, hb⟩; refine ⟨_, rfl, ?_⟩; have n0_ := RE HO_12 hb (Kd.Zbx ho0); have n1_ := RB HO_14 hb; have n2_ := Za.mk (Kd.Zce (VD HO_372000) (Kd.Zbx ho0) hb); have n3_ := Za.mk (Kd.Zce (VD HO_372001) (Kd.Zbx ho0) hb); have n4_ := Za.mk (Kd.Zce (VD HO_372002) (Kd.Zbx ho0) hb); have n5_ := Za.mk (Kd.Zce (VD HO_372003) (Kd.Zbx ho0) hb); have n6_ := Za.mk (Kd.Zce (VD HO_372004) (Kd.Zbx ho0) hb); have n7_ := Za.mk (Kd.Zce (VD HO_372005) (Kd.Zbx ho0) hb); have n8_ := Za.mk (Kd.Zce (VD HO_372006) (Kd.Zbx ho0) hb); have n9_ := RB HO395 hb; have n10_ := Za.mk (Kd.Zdk (Kd.Zec ho0 (Kd.R_lt (RD HO_12))) (Zat Zeu)); have n11_ := Za.mk (Zam (KB BK345) hb); have n12_ := Za.mk (Zam (KB BK346) hb); have n13_ := Za.mk (Zam (KB BK347) hb); have n14_ := Za.mk (Zam (KB BK371) hb); have n15_ := Za.mk (Zbb Zeu hb); clear HO_12; clear HO_14; clear HO_372000; clear HO_372001; clear HO_372002; clear HO_372003; clear HO_372004; clear HO_372005; clear HO_372006; clear HO395; clear BK345; clear BK346; clear BK347; clear BK371; clear HB; have HO_12 := n0_; have HO_14 := n1_; have HO_372000 := n2_; have HO_372001 := n3_; have HO_372002 := n4_; have HO_372003 := n5_; have HO_372004 := n6_; have HO_372005 := n7_; have HO_372006 := n8_; have HO395 := n9_; have HO398 := n10_; have BK345 := n11_; have BK346 := n12_; have BK347 := n13_; have BK371 := n14_; have HB := n15_; clear n0_ n1_ n2_ n3_ n4_ n5_ n6_ n7_ n8_ n9_ n10_ n11_ n12_ n13_ n14_ n15_; (try clear hb); (try clear hb2); (try clear hk); (try clear hi); (try clear ho0)))
    (try simp only [Act.put, List.setIfInBounds_toArray, List.set_cons_zero, List.set_cons_succ])
    go_cut [77] (fun v77 wc => ∃ (kq : Nat) (x77_54 : Bool), v77 = .bool x77_54 ∧ Za (Zaa.j1 kq l1 l3 t372 t375 t382 t396 x77_54 l0_0 l0_1 l0_2 l0_3 l0_4 l0_5 l0_6 l0_7 l0_8 l0_9 a2_0 a2_1 a4_0 a4_1 = some r) ∧ Za (kq ≤ kj12) ∧ Za (Kd.R k34 34 wc w.heap.size (fun k_ => some k_ ≠ (v397 : Value).ownBlock) v373 t372) ∧ Za (Kd.R k44 44 wc w.heap.size (fun _ => True) v383 t382) ∧ Za (Kd.R k34 34 wc w.heap.size (fun k_ => some k_ ≠ (v373 : Value).ownBlock) v397 t396) ∧ Za (Kd.V (Kd.slice 3 (Kd.int .i64)) 60 wc w.heap.size (fun k_ => some k_ ≠ (v373 : Value).ownBlock ∧ some k_ ≠ (v383 : Value).ownBlock ∧ some k_ ≠ (v397 : Value).ownBlock ∧ k_ ≠ gb345 ∧ k_ ≠ gb346 ∧ k_ ≠ gb347 ∧ k_ ≠ gb371) (.slice Ao24 t350.length co24) t350) ∧ Za (Kd.V (Kd.slice 3 (Kd.int .i64)) 60 wc w.heap.size (fun k_ => some k_ ≠ (v373 : Value).ownBlock ∧ some k_ ≠ (v383 : Value).ownBlock ∧ some k_ ≠ (v397 : Value).ownBlock ∧ k_ ≠ gb345 ∧ k_ ≠ gb346 ∧ k_ ≠ gb347 ∧ k_ ≠ gb371) (.slice Ao29 t353.length co29) t353) ∧ Za (Kd.V (Kd.slice 3 (Kd.int .i64)) 60 wc w.heap.size (fun k_ => some k_ ≠ (v373 : Value).ownBlock ∧ some k_ ≠ (v383 : Value).ownBlock ∧ some k_ ≠ (v397 : Value).ownBlock ∧ k_ ≠ gb345 ∧ k_ ≠ gb346 ∧ k_ ≠ gb347 ∧ k_ ≠ gb371) (.slice Ao30 t356.length co30) t356) ∧ Za (Kd.V (Kd.slice 3 (Kd.int .i64)) 60 wc w.heap.size (fun k_ => some k_ ≠ (v373 : Value).ownBlock ∧ some k_ ≠ (v383 : Value).ownBlock ∧ some k_ ≠ (v397 : Value).ownBlock ∧ k_ ≠ gb345 ∧ k_ ≠ gb346 ∧ k_ ≠ gb347 ∧ k_ ≠ gb371) (.slice Ao31 t359.length co31) t359) ∧ Za (Kd.V (Kd.slice 3 (Kd.int .i64)) 60 wc w.heap.size (fun k_ => some k_ ≠ (v373 : Value).ownBlock ∧ some k_ ≠ (v383 : Value).ownBlock ∧ some k_ ≠ (v397 : Value).ownBlock ∧ k_ ≠ gb345 ∧ k_ ≠ gb346 ∧ k_ ≠ gb347 ∧ k_ ≠ gb371) (.slice Ao32 t362.length co32) t362) ∧ Za (Kd.V (Kd.slice 3 (Kd.int .i64)) 60 wc w.heap.size (fun k_ => some k_ ≠ (v373 : Value).ownBlock ∧ some k_ ≠ (v383 : Value).ownBlock ∧ some k_ ≠ (v397 : Value).ownBlock ∧ k_ ≠ gb345 ∧ k_ ≠ gb346 ∧ k_ ≠ gb347 ∧ k_ ≠ gb371) (.slice Ao33 t365.length co33) t365) ∧ Za (Kd.V (Kd.slice 3 (Kd.int .i64)) 60 wc w.heap.size (fun k_ => some k_ ≠ (v373 : Value).ownBlock ∧ some k_ ≠ (v383 : Value).ownBlock ∧ some k_ ≠ (v397 : Value).ownBlock ∧ k_ ≠ gb345 ∧ k_ ≠ gb346 ∧ k_ ≠ gb347 ∧ k_ ≠ gb371) (.slice Ao34 t368.length co34) t368) ∧ Za (wc.heap[gb345]? = some (.cells #[(.slice A0_0 l0_0.length c0_0), (.slice A0_1 l0_1.length c0_1), (.slice A0_2 l0_2.length c0_2), (.slice A0_3 l0_3.length c0_3), (.slice A0_4 l0_4.length c0_4), (.slice A0_5 l0_5.length c0_5), (.slice A0_6 l0_6.length c0_6), (.slice A0_7 l0_7.length c0_7), (.slice A0_8 l0_8.length c0_8), (.slice A0_9 l0_9.length c0_9)] 24 (0, 0))) ∧ Za (wc.heap[gb346]? = some (.cells #[.int .i64 a2_0, .int .u8 a2_1] 32 (0, 0))) ∧ Za (wc.heap[gb347]? = some (.cells #[.int .i64 a4_0, .int .u8 a4_1] 32 (0, 0))) ∧ Za (wc.heap[gb371]? = some (.cells #[(.slice Ao24 t350.length co24), (.slice Ao29 t353.length co29), (.slice Ao30 t356.length co30), (.slice Ao31 t359.length co31), (.slice Ao32 t362.length co32), (.slice Ao33 t365.length co33), (.slice Ao34 t368.length co34)] 38 (0, 0))) ∧ Za (Below w.heap.size w wc))
    case first =>
     have H := HC55.out
     clear HC55
     by_cases c69 : t399 = true
     case neg =>
      replace c69 := Bool.eq_false_iff.mpr c69
      subst c69
      have H1 : (Zaa.j1 kj12 l1 l3 t372 t375 t382 t396 false l0_0 l0_1 l0_2 l0_3 l0_4 l0_5 l0_6 l0_7 l0_8 l0_9 a2_0 a2_1 a4_0 a4_1) = some r := by rw [if_neg (show ¬ (false = true) by decide)] at H; exact H
      clear H
      have H := H1
      clear H1
      have H' := Za.mk H
      clear H
      go_wp2
      go_meet
      case rel => exact ⟨_, (false), t14_11, H', ⟨by have := HJ12.out; first | omega | exact Nat.le_refl _⟩, ⟨by (with_reducible repeat (first | apply Kd.Zcm | apply Kd.Zcl | apply Kd.Zbw)); exact Kd.Zbv HO_12.out Zcg⟩, ⟨RD HO_14⟩, ⟨by (with_reducible repeat (first | apply Kd.Zcm | apply Kd.Zcl | apply Kd.Zbw)); exact Kd.Zbv HO398.out Zcg⟩, ⟨by (with_reducible repeat (first | apply Kd.Zbj | apply Kd.Zbi | apply Kd.Zbm)); exact Kd.Zbo HO_372000.out t14_6⟩, ⟨by (with_reducible repeat (first | apply Kd.Zbj | apply Kd.Zbi | apply Kd.Zbm)); exact Kd.Zbo HO_372001.out t14_6⟩, ⟨by (with_reducible repeat (first | apply Kd.Zbj | apply Kd.Zbi | apply Kd.Zbm)); exact Kd.Zbo HO_372002.out t14_6⟩, ⟨by (with_reducible repeat (first | apply Kd.Zbj | apply Kd.Zbi | apply Kd.Zbm)); exact Kd.Zbo HO_372003.out t14_6⟩, ⟨by (with_reducible repeat (first | apply Kd.Zbj | apply Kd.Zbi | apply Kd.Zbm)); exact Kd.Zbo HO_372004.out t14_6⟩, ⟨by (with_reducible repeat (first | apply Kd.Zbj | apply Kd.Zbi | apply Kd.Zbm)); exact Kd.Zbo HO_372005.out t14_6⟩, ⟨by (with_reducible repeat (first | apply Kd.Zbj | apply Kd.Zbi | apply Kd.Zbm)); exact Kd.Zbo HO_372006.out t14_6⟩, ⟨by (with_reducible repeat (first | refine Zan ?_ _ | refine Zap ?_ | refine Zao ?_ _)); exact BK345.out⟩, ⟨by (with_reducible repeat (first | refine Zan ?_ _ | refine Zap ?_ | refine Zao ?_ _)); exact BK346.out⟩, ⟨by (with_reducible repeat (first | refine Zan ?_ _ | refine Zap ?_ | refine Zao ?_ _)); exact BK347.out⟩, ⟨by (with_reducible repeat (first | refine Zan ?_ _ | refine Zap ?_ | refine Zao ?_ _)); exact BK371.out⟩, ⟨by repeat (first | (with_reducible first | exact HB.out | apply Zau | apply Zaj | apply Zal | refine Zai ?_ GE345.out | refine Zai ?_ GE346.out | refine Zai ?_ GE347.out | refine Zai ?_ GE371.out) | exact HB.out)⟩⟩
     subst c69
     have H1 : (Zaa.j1 kj12 l1 l3 t372 t375 t382 t396 (!t375) l0_0 l0_1 l0_2 l0_3 l0_4 l0_5 l0_6 l0_7 l0_8 l0_9 a2_0 a2_1 a4_0 a4_1) = some r := by rw [if_pos rfl] at H; exact H
     clear H
     have H := H1
     clear H1
     have H' := Za.mk H
     clear H
     go_wp2
     go_meet
     case rel => exact ⟨_, (!t375), t14_11, H', ⟨by have := HJ12.out; first | omega | exact Nat.le_refl _⟩, ⟨by (with_reducible repeat (first | apply Kd.Zcm | apply Kd.Zcl | apply Kd.Zbw)); exact Kd.Zbv HO_12.out Zcg⟩, ⟨RD HO_14⟩, ⟨by (with_reducible repeat (first | apply Kd.Zcm | apply Kd.Zcl | apply Kd.Zbw)); exact Kd.Zbv HO398.out Zcg⟩, ⟨by (with_reducible repeat (first | apply Kd.Zbj | apply Kd.Zbi | apply Kd.Zbm)); exact Kd.Zbo HO_372000.out t14_6⟩, ⟨by (with_reducible repeat (first | apply Kd.Zbj | apply Kd.Zbi | apply Kd.Zbm)); exact Kd.Zbo HO_372001.out t14_6⟩, ⟨by (with_reducible repeat (first | apply Kd.Zbj | apply Kd.Zbi | apply Kd.Zbm)); exact Kd.Zbo HO_372002.out t14_6⟩, ⟨by (with_reducible repeat (first | apply Kd.Zbj | apply Kd.Zbi | apply Kd.Zbm)); exact Kd.Zbo HO_372003.out t14_6⟩, ⟨by (with_reducible repeat (first | apply Kd.Zbj | apply Kd.Zbi | apply Kd.Zbm)); exact Kd.Zbo HO_372004.out t14_6⟩, ⟨by (with_reducible repeat (first | apply Kd.Zbj | apply Kd.Zbi | apply Kd.Zbm)); exact Kd.Zbo HO_372005.out t14_6⟩, ⟨by (with_reducible repeat (first | apply Kd.Zbj | apply Kd.Zbi | apply Kd.Zbm)); exact Kd.Zbo HO_372006.out t14_6⟩, ⟨by (with_reducible repeat (first | refine Zan ?_ _ | refine Zap ?_ | refine Zao ?_ _)); exact BK345.out⟩, ⟨by (with_reducible repeat (first | refine Zan ?_ _ | refine Zap ?_ | refine Zao ?_ _)); exact BK346.out⟩, ⟨by (with_reducible repeat (first | refine Zan ?_ _ | refine Zap ?_ | refine Zao ?_ _)); exact BK347.out⟩, ⟨by (with_reducible repeat (first | refine Zan ?_ _ | refine Zap ?_ | refine Zao ?_ _)); exact BK371.out⟩, ⟨by repeat (first | (with_reducible first | exact HB.out | apply Zau | apply Zaj | apply Zal | refine Zai ?_ GE345.out | refine Zai ?_ GE346.out | refine Zai ?_ GE347.out | refine Zai ?_ GE371.out) | exact HB.out)⟩⟩
    case rest =>
     clear HC55
     try clear c1
     try clear c2
     try clear p2
     try clear c3
     try clear c4
     try clear c5
     try clear c6
     try clear c7
     try clear c12
     try clear c14
     try clear c15
     try clear c16
     try clear c17
     try clear c18
     try clear c25
     try clear c26
     try clear c27
     try clear c36
     try clear c44
     try clear c44b0
     try clear c44b1
     try clear c44b2
     try clear c51
     try clear c52
     try clear c53
     try clear c57
     try clear c58
     try clear c59
     try clear c62
     try clear c63
     try clear c65
     try clear c69
     try clear hcz19_0
     try clear hcz19_1
     try clear hcz19_2
     try clear hcz19_3
     try clear hcz19_4
     try clear hcz19_5
     try clear hcz19_6
     try clear hcz19_7
     try clear hcz19_8
     try clear hcz19_9
     try clear hcz21_0
     try clear hcz21_1
     try clear hcz21_2
     try clear hcz21_3
     try clear hcz21_4
     try clear hcz21_5
     try clear hcz21_6
     try clear hcz21_7
     try clear hcz21_8
     try clear hcz21_9
     try clear hcz28_0
     try clear hcz28_1
     try clear hcz28_2
     try clear hcz28_3
     try clear hcz28_4
     try clear hcz28_5
     try clear hcz28_6
     try clear hcz35_0
     try clear hcz35_1
     try clear hcz35_2
     try clear hcz35_3
     try clear hcz35_4
     try clear hcz35_5
     try clear hcz35_6
     try clear hcz35_7
     try clear hcz35_8
     try clear hcz35_9
     try clear hcz37_0
     try clear hcz37_1
     try clear hcz60_0
     try clear hcz60_1
     try clear hcz64_0
     try clear hcz64_1
     try clear hcz64_2
     try clear hcz64_3
     try clear hcz64_4
     try clear hcz64_5
     try clear hcz64_6
     try clear hcz64_7
     try clear hcz64_8
     try clear hcz64_9
     try clear hcz66_0
     try clear hcz66_1
     try clear hfz19_0
     try clear hfz19_1
     try clear hfz19_2
     try clear hfz19_3
     try clear hfz19_4
     try clear hfz19_5
     try clear hfz19_6
     try clear hfz19_7
     try clear hfz19_8
     try clear hfz19_9
     try clear hfz21_0
     try clear hfz21_1
     try clear hfz21_2
     try clear hfz21_3
     try clear hfz21_4
     try clear hfz21_5
     try clear hfz21_6
     try clear hfz21_7
     try clear hfz21_8
     try clear hfz21_9
     try clear hfz28_0
     try clear hfz28_1
     try clear hfz28_2
     try clear hfz28_3
     try clear hfz28_4
     try clear hfz28_5
     try clear hfz28_6
     try clear hfz35_0
     try clear hfz35_1
     try clear hfz35_2
     try clear hfz35_3
     try clear hfz35_4
     try clear hfz35_5
     try clear hfz35_6
     try clear hfz35_7
     try clear hfz35_8
     try clear hfz35_9
     try clear hfz37_0
     try clear hfz37_1
     try clear hfz60_0
     try clear hfz60_1
     try clear hfz64_0
     try clear hfz64_1
     try clear hfz64_2
     try clear hfz64_3
     try clear hfz64_4
     try clear hfz64_5
     try clear hfz64_6
     try clear hfz64_7
     try clear hfz64_8
     try clear hfz64_9
     try clear hfz66_0
     try clear hfz66_1
     try clear p2
     obtain ⟨kq, x77_54, rfl, HA, HJ54, HO_12, HO_14, HO_17, HO_372000, HO_372001, HO_372002, HO_372003, HO_372004, HO_372005, HO_372006, BK345, BK346, BK347, BK371, HB⟩ := hcut
     cases kq with
     | zero => exact absurd HA.out (by simp [Zaa.j1])
     | succ kj54 =>
      have H := HA.out
      clear HA
      simp only [Zaa.j1] at H
      by_cases c70 : x77_54 = true
      case neg =>
       replace c70 := Bool.eq_false_iff.mpr c70
       subst c70
       have H1 : (Zaa.l0 kj54 l1 l3 t372 t375 t382 t396 0 l0_0 l0_1 l0_2 l0_3 l0_4 l0_5 l0_6 l0_7 l0_8 l0_9 a2_0 a2_1 a4_0 a4_1) = some r := by rw [if_neg (show ¬ (false = true) by decide)] at H; exact H
       clear H
       have H := H1
       clear H1
       have H' := Za.mk H
       clear H
       go_wp2
       go_loopg [19] kj54 (fun kq v19 w' => ∃ (x19_3 : Int), v19 = .int .i64 x19_3 ∧ Za (Zaa.l0 kq l1 l3 t372 t375 t382 t396 x19_3 l0_0 l0_1 l0_2 l0_3 l0_4 l0_5 l0_6 l0_7 l0_8 l0_9 a2_0 a2_1 a4_0 a4_1 = some r) ∧ Za (kq ≤ kj54) ∧ Za (Kd.R k34 34 w' w.heap.size (fun k_ => some k_ ≠ (v397 : Value).ownBlock) v373 t372) ∧ Za (Kd.R k44 44 w' w.heap.size (fun _ => True) v383 t382) ∧ Za (Kd.R k34 34 w' w.heap.size (fun k_ => some k_ ≠ (v373 : Value).ownBlock) v397 t396) ∧ Za (Kd.V (Kd.slice 3 (Kd.int .i64)) 60 w' w.heap.size (fun k_ => some k_ ≠ (v373 : Value).ownBlock ∧ some k_ ≠ (v383 : Value).ownBlock ∧ some k_ ≠ (v397 : Value).ownBlock ∧ k_ ≠ gb345 ∧ k_ ≠ gb346 ∧ k_ ≠ gb347 ∧ k_ ≠ gb371) (.slice Ao24 t350.length co24) t350) ∧ Za (Kd.V (Kd.slice 3 (Kd.int .i64)) 60 w' w.heap.size (fun k_ => some k_ ≠ (v373 : Value).ownBlock ∧ some k_ ≠ (v383 : Value).ownBlock ∧ some k_ ≠ (v397 : Value).ownBlock ∧ k_ ≠ gb345 ∧ k_ ≠ gb346 ∧ k_ ≠ gb347 ∧ k_ ≠ gb371) (.slice Ao29 t353.length co29) t353) ∧ Za (Kd.V (Kd.slice 3 (Kd.int .i64)) 60 w' w.heap.size (fun k_ => some k_ ≠ (v373 : Value).ownBlock ∧ some k_ ≠ (v383 : Value).ownBlock ∧ some k_ ≠ (v397 : Value).ownBlock ∧ k_ ≠ gb345 ∧ k_ ≠ gb346 ∧ k_ ≠ gb347 ∧ k_ ≠ gb371) (.slice Ao30 t356.length co30) t356) ∧ Za (Kd.V (Kd.slice 3 (Kd.int .i64)) 60 w' w.heap.size (fun k_ => some k_ ≠ (v373 : Value).ownBlock ∧ some k_ ≠ (v383 : Value).ownBlock ∧ some k_ ≠ (v397 : Value).ownBlock ∧ k_ ≠ gb345 ∧ k_ ≠ gb346 ∧ k_ ≠ gb347 ∧ k_ ≠ gb371) (.slice Ao31 t359.length co31) t359) ∧ Za (Kd.V (Kd.slice 3 (Kd.int .i64)) 60 w' w.heap.size (fun k_ => some k_ ≠ (v373 : Value).ownBlock ∧ some k_ ≠ (v383 : Value).ownBlock ∧ some k_ ≠ (v397 : Value).ownBlock ∧ k_ ≠ gb345 ∧ k_ ≠ gb346 ∧ k_ ≠ gb347 ∧ k_ ≠ gb371) (.slice Ao32 t362.length co32) t362) ∧ Za (Kd.V (Kd.slice 3 (Kd.int .i64)) 60 w' w.heap.size (fun k_ => some k_ ≠ (v373 : Value).ownBlock ∧ some k_ ≠ (v383 : Value).ownBlock ∧ some k_ ≠ (v397 : Value).ownBlock ∧ k_ ≠ gb345 ∧ k_ ≠ gb346 ∧ k_ ≠ gb347 ∧ k_ ≠ gb371) (.slice Ao33 t365.length co33) t365) ∧ Za (Kd.V (Kd.slice 3 (Kd.int .i64)) 60 w' w.heap.size (fun k_ => some k_ ≠ (v373 : Value).ownBlock ∧ some k_ ≠ (v383 : Value).ownBlock ∧ some k_ ≠ (v397 : Value).ownBlock ∧ k_ ≠ gb345 ∧ k_ ≠ gb346 ∧ k_ ≠ gb347 ∧ k_ ≠ gb371) (.slice Ao34 t368.length co34) t368) ∧ Za (w'.heap[gb345]? = some (.cells #[(.slice A0_0 l0_0.length c0_0), (.slice A0_1 l0_1.length c0_1), (.slice A0_2 l0_2.length c0_2), (.slice A0_3 l0_3.length c0_3), (.slice A0_4 l0_4.length c0_4), (.slice A0_5 l0_5.length c0_5), (.slice A0_6 l0_6.length c0_6), (.slice A0_7 l0_7.length c0_7), (.slice A0_8 l0_8.length c0_8), (.slice A0_9 l0_9.length c0_9)] 24 (0, 0))) ∧ Za (w'.heap[gb346]? = some (.cells #[.int .i64 a2_0, .int .u8 a2_1] 32 (0, 0))) ∧ Za (w'.heap[gb347]? = some (.cells #[.int .i64 a4_0, .int .u8 a4_1] 32 (0, 0))) ∧ Za (w'.heap[gb371]? = some (.cells #[(.slice Ao24 t350.length co24), (.slice Ao29 t353.length co29), (.slice Ao30 t356.length co30), (.slice Ao31 t359.length co31), (.slice Ao32 t362.length co32), (.slice Ao33 t365.length co33), (.slice Ao34 t368.length co34)] 38 (0, 0))) ∧ Za (Below w.heap.size w w'))
       case atStart => exact ⟨(0), t14_11, H', ⟨Nat.le_refl _⟩, ⟨RD HO_12⟩, ⟨RD HO_14⟩, ⟨RD HO_17⟩, ⟨by (with_reducible repeat (first | apply Kd.Zbj | apply Kd.Zbi | apply Kd.Zbm)); exact HO_372000.out⟩, ⟨by (with_reducible repeat (first | apply Kd.Zbj | apply Kd.Zbi | apply Kd.Zbm)); exact HO_372001.out⟩, ⟨by (with_reducible repeat (first | apply Kd.Zbj | apply Kd.Zbi | apply Kd.Zbm)); exact HO_372002.out⟩, ⟨by (with_reducible repeat (first | apply Kd.Zbj | apply Kd.Zbi | apply Kd.Zbm)); exact HO_372003.out⟩, ⟨by (with_reducible repeat (first | apply Kd.Zbj | apply Kd.Zbi | apply Kd.Zbm)); exact HO_372004.out⟩, ⟨by (with_reducible repeat (first | apply Kd.Zbj | apply Kd.Zbi | apply Kd.Zbm)); exact HO_372005.out⟩, ⟨by (with_reducible repeat (first | apply Kd.Zbj | apply Kd.Zbi | apply Kd.Zbm)); exact HO_372006.out⟩, ⟨by (with_reducible repeat (first | refine Zan ?_ _ | refine Zap ?_ | refine Zao ?_ _)); exact BK345.out⟩, ⟨by (with_reducible repeat (first | refine Zan ?_ _ | refine Zap ?_ | refine Zao ?_ _)); exact BK346.out⟩, ⟨by (with_reducible repeat (first | refine Zan ?_ _ | refine Zap ?_ | refine Zao ?_ _)); exact BK347.out⟩, ⟨by (with_reducible repeat (first | refine Zan ?_ _ | refine Zap ?_ | refine Zao ?_ _)); exact BK371.out⟩, ⟨by repeat (first | (with_reducible first | exact HB.out | apply Zau | apply Zaj | apply Zal | refine Zai ?_ GE345.out | refine Zai ?_ GE346.out | refine Zai ?_ GE347.out | refine Zai ?_ GE371.out) | exact HB.out)⟩⟩
       case round =>
        clear H'
        try clear c1
        try clear c2
        try clear p2
        try clear c3
        try clear c4
        try clear c5
        try clear c6
        try clear c7
        try clear c12
        try clear c14
        try clear c15
        try clear c16
        try clear c17
        try clear c18
        try clear c25
        try clear c26
        try clear c27
        try clear c36
        try clear c44
        try clear c44b0
        try clear c44b1
        try clear c44b2
        try clear c51
        try clear c52
        try clear c53
        try clear c57
        try clear c58
        try clear c59
        try clear c62
        try clear c63
        try clear c65
        try clear c69
        try clear c70
        try clear hcz19_0
        try clear hcz19_1
        try clear hcz19_2
        try clear hcz19_3
        try clear hcz19_4
        try clear hcz19_5
        try clear hcz19_6
        try clear hcz19_7
        try clear hcz19_8
        try clear hcz19_9
        try clear hcz21_0
        try clear hcz21_1
        try clear hcz21_2
        try clear hcz21_3
        try clear hcz21_4
        try clear hcz21_5
        try clear hcz21_6
        try clear hcz21_7
        try clear hcz21_8
        try clear hcz21_9
        try clear hcz28_0
        try clear hcz28_1
        try clear hcz28_2
        try clear hcz28_3
        try clear hcz28_4
        try clear hcz28_5
        try clear hcz28_6
        try clear hcz35_0
        try clear hcz35_1
        try clear hcz35_2
        try clear hcz35_3
        try clear hcz35_4
        try clear hcz35_5
        try clear hcz35_6
        try clear hcz35_7
        try clear hcz35_8
        try clear hcz35_9
        try clear hcz37_0
        try clear hcz37_1
        try clear hcz60_0
        try clear hcz60_1
        try clear hcz64_0
        try clear hcz64_1
        try clear hcz64_2
        try clear hcz64_3
        try clear hcz64_4
        try clear hcz64_5
        try clear hcz64_6
        try clear hcz64_7
        try clear hcz64_8
        try clear hcz64_9
        try clear hcz66_0
        try clear hcz66_1
        try clear hfz19_0
        try clear hfz19_1
        try clear hfz19_2
        try clear hfz19_3
        try clear hfz19_4
        try clear hfz19_5
        try clear hfz19_6
        try clear hfz19_7
        try clear hfz19_8
        try clear hfz19_9
        try clear hfz21_0
        try clear hfz21_1
        try clear hfz21_2
        try clear hfz21_3
        try clear hfz21_4
        try clear hfz21_5
        try clear hfz21_6
        try clear hfz21_7
        try clear hfz21_8
        try clear hfz21_9
        try clear hfz28_0
        try clear hfz28_1
        try clear hfz28_2
        try clear hfz28_3
        try clear hfz28_4
        try clear hfz28_5
        try clear hfz28_6
        try clear hfz35_0
        try clear hfz35_1
        try clear hfz35_2
        try clear hfz35_3
        try clear hfz35_4
        try clear hfz35_5
        try clear hfz35_6
        try clear hfz35_7
        try clear hfz35_8
        try clear hfz35_9
        try clear hfz37_0
        try clear hfz37_1
        try clear hfz60_0
        try clear hfz60_1
        try clear hfz64_0
        try clear hfz64_1
        try clear hfz64_2
        try clear hfz64_3
        try clear hfz64_4
        try clear hfz64_5
        try clear hfz64_6
        try clear hfz64_7
        try clear hfz64_8
        try clear hfz64_9
        try clear hfz66_0
        try clear hfz66_1
        try clear p2
        obtain ⟨x19_3, rfl, HA, HK3, HO_12, HO_14, HO_17, HO_372000, HO_372001, HO_372002, HO_372003, HO_372004, HO_372005, HO_372006, BK345, BK346, BK347, BK371, HB⟩ := hrel
        cases gk with
        | zero => exact absurd HA.out (by simp [Zaa.l0])
        | succ k3 =>
         have H := HA.out
         clear HA
         simp only [Zaa.l0] at H
         by_cases c71 : x19_3 < (t396.length : Int)
         case neg =>
          rw [if_neg c71] at H
          have c71b0 : decide (x19_3 < (t396.length : Int)) = false := decide_eq_false c71
          clear c71
          by_cases c92 : t375 = true
          case neg =>
           replace c92 := Bool.eq_false_iff.mpr c92
           subst c92
           have H1 : ((Zbq.f).bind fun t406 => (some t406)) = some r := by rw [if_neg (show ¬ (false = true) by decide)] at H; exact H
           clear H
           have H := H1
           clear H1
           replace H := Option.bind_eq_some_iff.mp H
           obtain ⟨t406, A1280, H⟩ := H
           try dsimp only at H
           have A128 := Za.mk A1280
           clear A1280
           obtain rfl := Option.some.inj H
           obtain ⟨Ao129, co129, eo129⟩ := Kd.Zbp HO_17.out
           subst eo129
           go_wp2_with (first | ((with_reducible refine Zbl (f := 13) rfl ?_); refine Zcx (some 104) rfl rfl Try.func13 Zcj rfl #[] rfl t14_5 ?_; (with_reducible refine (Zbq.calls  t406 _ A128.out).mono ?_); rintro e w130 ⟨rfl, hb⟩; refine ⟨_, rfl, ?_⟩; have n0_ := RB HO_12 hb; have n1_ := RB HO_14 hb; have n2_ := RB HO_17 hb; have n3_ := Za.mk (Kd.Zbh (VD HO_372000) hb); have n4_ := Za.mk (Kd.Zbh (VD HO_372001) hb); have n5_ := Za.mk (Kd.Zbh (VD HO_372002) hb); have n6_ := Za.mk (Kd.Zbh (VD HO_372003) hb); have n7_ := Za.mk (Kd.Zbh (VD HO_372004) hb); have n8_ := Za.mk (Kd.Zbh (VD HO_372005) hb); have n9_ := Za.mk (Kd.Zbh (VD HO_372006) hb); have n10_ := Za.mk (Zam (KB BK345) hb); have n11_ := Za.mk (Zam (KB BK346) hb); have n12_ := Za.mk (Zam (KB BK347) hb); have n13_ := Za.mk (Zam (KB BK371) hb); have n14_ := Za.mk (Zbb Zeu hb); clear HO_12; clear HO_14; clear HO_17; clear HO_372000; clear HO_372001; clear HO_372002; clear HO_372003; clear HO_372004; clear HO_372005; clear HO_372006; clear BK345; clear BK346; clear BK347; clear BK371; clear HB; have HO_12 := n0_; have HO_14 := n1_; have HO_17 := n2_; have HO_372000 := n3_; have HO_372001 := n4_; have HO_372002 := n5_; have HO_372003 := n6_; have HO_372004 := n7_; have HO_372005 := n8_; have HO_372006 := n9_; have BK345 := n10_; have BK346 := n11_; have BK347 := n12_; have BK371 := n13_; have HB := n14_; clear n0_ n1_ n2_ n3_ n4_ n5_ n6_ n7_ n8_ n9_ n10_ n11_ n12_ n13_ n14_; (try clear hb); (try clear hb2); (try clear hk); (try clear hi)))
           go_ret
           exact ⟨by first | rfl | (simp [Zbe, Zbd] <;> rfl) | (simp [*, Zbe, Zbd] <;> rfl), by repeat (first | (with_reducible first | exact HB.out | apply Zau | apply Zaj | apply Zal | refine Zai ?_ GE345.out | refine Zai ?_ GE346.out | refine Zai ?_ GE347.out | refine Zai ?_ GE371.out) | exact HB.out)⟩
          subst c92
          have H1 : ((Zbn.f a2_0 a2_1).bind fun bt407 => ((Zak.f k3 t382 bt407.1 bt407.2.1 bt407.2.2).bind fun t410 => (if t410 < 0 then (Zaa.j3 k3 l3 t382 true) else (if 0 ≤ t410 then (if t410 < (t382.length : Int) then (if ((Zaf t382 t410).f2 = true) then ((Zck.f l0_0 l0_1 l0_2 l0_3 l0_4 l0_5 l0_6 l0_7 l0_8 l0_9 l1 t372).bind fun t412 => (Zaa.j3 k3 l3 t382 (!t412))) else (Zaa.j3 k3 l3 t382 true)) else (none)) else (none))))) = some r := by rw [if_pos rfl] at H; exact H
          clear H
          have H := H1
          clear H1
          replace H := Option.bind_eq_some_iff.mp H
          obtain ⟨⟨t407, t408, t409⟩, A930, H⟩ := H
          replace H : ((Zak.f k3 t382 t407 t408 t409).bind fun t410 => (if t410 < 0 then (Zaa.j3 k3 l3 t382 true) else (if 0 ≤ t410 then (if t410 < (t382.length : Int) then (if ((Zaf t382 t410).f2 = true) then ((Zck.f l0_0 l0_1 l0_2 l0_3 l0_4 l0_5 l0_6 l0_7 l0_8 l0_9 l1 t372).bind fun t412 => (Zaa.j3 k3 l3 t382 (!t412))) else (Zaa.j3 k3 l3 t382 true)) else (none)) else (none)))) = some r := H
          have A93 := Za.mk A930
          clear A930
          replace H := Option.bind_eq_some_iff.mp H
          obtain ⟨t410, A940, H⟩ := H
          try dsimp only at H
          have A94 := Za.mk A940
          clear A940
          have HC95 := Za.mk H
          clear H
          obtain ⟨Ao96, co96, eo96⟩ := Kd.Zbp HO_17.out
          subst eo96
          have hnb97 := NB346_345.out
          have hnc97 := NB345_346.out
          have hnb98 := NB346_347.out
          have hnc98 := NB347_346.out
          have hnb99 := NB346_371.out
          have hnc99 := NB371_346.out
          obtain ⟨hcz100_0, hcz100_1, hfz100_0, hfz100_1⟩ := cz2 BK346
          go_upto_region 22 with (first | ((with_reducible refine Zbl (f := 17) rfl ?_); refine Zcx (some 107) rfl rfl Try.func17 Zcj rfl #[.agg #[.int .i64 a2_0, .int .u8 a2_1]] rfl t14_5 ?_; (with_reducible refine (Zbn.calls a2_0 a2_1 t407 t408 t409 _ A93.out).mono ?_); rintro e w101 ⟨rfl, hb⟩; refine ⟨_, rfl, ?_⟩; have n0_ := RB HO_12 hb; have n1_ := RB HO_14 hb; have n2_ := RB HO_17 hb; have n3_ := Za.mk (Kd.Zbh (VD HO_372000) hb); have n4_ := Za.mk (Kd.Zbh (VD HO_372001) hb); have n5_ := Za.mk (Kd.Zbh (VD HO_372002) hb); have n6_ := Za.mk (Kd.Zbh (VD HO_372003) hb); have n7_ := Za.mk (Kd.Zbh (VD HO_372004) hb); have n8_ := Za.mk (Kd.Zbh (VD HO_372005) hb); have n9_ := Za.mk (Kd.Zbh (VD HO_372006) hb); have n10_ := Za.mk (Zam (KB BK345) hb); have n11_ := Za.mk (Zam (KB BK346) hb); have n12_ := Za.mk (Zam (KB BK347) hb); have n13_ := Za.mk (Zam (KB BK371) hb); have n14_ := Za.mk (Zbb Zeu hb); clear HO_12; clear HO_14; clear HO_17; clear HO_372000; clear HO_372001; clear HO_372002; clear HO_372003; clear HO_372004; clear HO_372005; clear HO_372006; clear BK345; clear BK346; clear BK347; clear BK371; clear HB; have HO_12 := n0_; have HO_14 := n1_; have HO_17 := n2_; have HO_372000 := n3_; have HO_372001 := n4_; have HO_372002 := n5_; have HO_372003 := n6_; have HO_372004 := n7_; have HO_372005 := n8_; have HO_372006 := n9_; have BK345 := n10_; have BK346 := n11_; have BK347 := n12_; have BK371 := n13_; have HB := n14_; clear n0_ n1_ n2_ n3_ n4_ n5_ n6_ n7_ n8_ n9_ n10_ n11_ n12_ n13_ n14_; (try clear hb); (try clear hb2); (try clear hk); (try clear hi); obtain ⟨Ao102, co102, eo102⟩ := Kd.Zbp HO_14.out; subst eo102) | ((with_reducible refine Zbl (f := 21) rfl ?_); refine Zcx (some 108) rfl rfl Try.func21 Zcj rfl #[.slice Ao102 t382.length co102, .agg #[.int .i64 t407, .int .u8 t408, .bool t409]] rfl t14_5 ?_; (with_reducible refine (Zak.calls k3 _ _ t382 t407 t408 t409 t410 _ ?side1 ?side2 A94.out).mono ?_); (case side1 => exact CD ((Kd.Zb HO_14.out).2.2)); (case side2 => exact (Kd.Zb HO_14.out).2.1); rintro e w103 ⟨rfl, hb⟩; refine ⟨_, rfl, ?_⟩; have n0_ := RB HO_12 hb; have n1_ := RB HO_14 hb; have n2_ := RB HO_17 hb; have n3_ := Za.mk (Kd.Zbh (VD HO_372000) hb); have n4_ := Za.mk (Kd.Zbh (VD HO_372001) hb); have n5_ := Za.mk (Kd.Zbh (VD HO_372002) hb); have n6_ := Za.mk (Kd.Zbh (VD HO_372003) hb); have n7_ := Za.mk (Kd.Zbh (VD HO_372004) hb); have n8_ := Za.mk (Kd.Zbh (VD HO_372005) hb); have n9_ := Za.mk (Kd.Zbh (VD HO_372006) hb); have n10_ := Za.mk (Zam (KB BK345) hb); have n11_ := Za.mk (Zam (KB BK346) hb); have n12_ := Za.mk (Zam (KB BK347) hb); have n13_ := Za.mk (Zam (KB BK371) hb); have n14_ := Za.mk (Zbb Zeu hb); clear HO_12; clear HO_14; clear HO_17; clear HO_372000; clear HO_372001; clear HO_372002; clear HO_372003; clear HO_372004; clear HO_372005; clear HO_372006; clear BK345; clear BK346; clear BK347; clear BK371; clear HB; have HO_12 := n0_; have HO_14 := n1_; have HO_17 := n2_; have HO_372000 := n3_; have HO_372001 := n4_; have HO_372002 := n5_; have HO_372003 := n6_; have HO_372004 := n7_; have HO_372005 := n8_; have HO_372006 := n9_; have BK345 := n10_; have BK346 := n11_; have BK347 := n12_; have BK371 := n13_; have HB := n14_; clear n0_ n1_ n2_ n3_ n4_ n5_ n6_ n7_ n8_ n9_ n10_ n11_ n12_ n13_ n14_; (try clear hb); (try clear hb2); (try clear hk); (try clear hi)))
          (try simp only [Act.put, List.setIfInBounds_toArray, List.set_cons_zero, List.set_cons_succ])
          go_cut [125] (fun v125 wc => ∃ (kq : Nat) (x125_94 : Bool), v125 = .bool x125_94 ∧ Za (Zaa.j3 kq l3 t382 x125_94 = some r) ∧ Za (kq ≤ k3) ∧ Za (Kd.R k44 44 wc w.heap.size (fun _ => True) (.slice Ao102 t382.length co102) t382) ∧ Za (Kd.V (Kd.slice 3 (Kd.int .i64)) 60 wc w.heap.size (fun k_ => some k_ ≠ ((.slice Ao102 t382.length co102) : Value).ownBlock ∧ k_ ≠ gb345 ∧ k_ ≠ gb346 ∧ k_ ≠ gb347 ∧ k_ ≠ gb371) (.slice Ao24 t350.length co24) t350) ∧ Za (Kd.V (Kd.slice 3 (Kd.int .i64)) 60 wc w.heap.size (fun k_ => some k_ ≠ ((.slice Ao102 t382.length co102) : Value).ownBlock ∧ k_ ≠ gb345 ∧ k_ ≠ gb346 ∧ k_ ≠ gb347 ∧ k_ ≠ gb371) (.slice Ao29 t353.length co29) t353) ∧ Za (Kd.V (Kd.slice 3 (Kd.int .i64)) 60 wc w.heap.size (fun k_ => some k_ ≠ ((.slice Ao102 t382.length co102) : Value).ownBlock ∧ k_ ≠ gb345 ∧ k_ ≠ gb346 ∧ k_ ≠ gb347 ∧ k_ ≠ gb371) (.slice Ao30 t356.length co30) t356) ∧ Za (Kd.V (Kd.slice 3 (Kd.int .i64)) 60 wc w.heap.size (fun k_ => some k_ ≠ ((.slice Ao102 t382.length co102) : Value).ownBlock ∧ k_ ≠ gb345 ∧ k_ ≠ gb346 ∧ k_ ≠ gb347 ∧ k_ ≠ gb371) (.slice Ao31 t359.length co31) t359) ∧ Za (Kd.V (Kd.slice 3 (Kd.int .i64)) 60 wc w.heap.size (fun k_ => some k_ ≠ ((.slice Ao102 t382.length co102) : Value).ownBlock ∧ k_ ≠ gb345 ∧ k_ ≠ gb346 ∧ k_ ≠ gb347 ∧ k_ ≠ gb371) (.slice Ao32 t362.length co32) t362) ∧ Za (Kd.V (Kd.slice 3 (Kd.int .i64)) 60 wc w.heap.size (fun k_ => some k_ ≠ ((.slice Ao102 t382.length co102) : Value).ownBlock ∧ k_ ≠ gb345 ∧ k_ ≠ gb346 ∧ k_ ≠ gb347 ∧ k_ ≠ gb371) (.slice Ao33 t365.length co33) t365) ∧ Za (Kd.V (Kd.slice 3 (Kd.int .i64)) 60 wc w.heap.size (fun k_ => some k_ ≠ ((.slice Ao102 t382.length co102) : Value).ownBlock ∧ k_ ≠ gb345 ∧ k_ ≠ gb346 ∧ k_ ≠ gb347 ∧ k_ ≠ gb371) (.slice Ao34 t368.length co34) t368) ∧ Za (wc.heap[gb345]? = some (.cells #[(.slice A0_0 l0_0.length c0_0), (.slice A0_1 l0_1.length c0_1), (.slice A0_2 l0_2.length c0_2), (.slice A0_3 l0_3.length c0_3), (.slice A0_4 l0_4.length c0_4), (.slice A0_5 l0_5.length c0_5), (.slice A0_6 l0_6.length c0_6), (.slice A0_7 l0_7.length c0_7), (.slice A0_8 l0_8.length c0_8), (.slice A0_9 l0_9.length c0_9)] 24 (0, 0))) ∧ Za (wc.heap[gb346]? = some (.cells #[.int .i64 a2_0, .int .u8 a2_1] 32 (0, 0))) ∧ Za (wc.heap[gb347]? = some (.cells #[.int .i64 a4_0, .int .u8 a4_1] 32 (0, 0))) ∧ Za (wc.heap[gb371]? = some (.cells #[(.slice Ao24 t350.length co24), (.slice Ao29 t353.length co29), (.slice Ao30 t356.length co30), (.slice Ao31 t359.length co31), (.slice Ao32 t362.length co32), (.slice Ao33 t365.length co33), (.slice Ao34 t368.length co34)] 38 (0, 0))) ∧ Za (Below w.heap.size w wc))
          case first =>
           have H := HC95.out
           clear HC95
           by_cases c104 : t410 < 0
           case neg =>
            rw [if_neg c104] at H
            have c104b0 : decide (t410 < 0) = false := decide_eq_false c104
            clear c104
            (first | rw [c104b0] | (simp only [Zax, Zay]; rw [c104b0]) | skip)
            by_cases c105 : 0 ≤ t410
            case neg =>
             rw [if_neg c105] at H
             exact absurd H (by simp)
            rw [if_pos c105] at H
            have c105b0 : decide (0 ≤ t410) = true := decide_eq_true c105
            clear c105
            by_cases c106 : t410 < (t382.length : Int)
            case neg =>
             rw [if_neg c106] at H
             exact absurd H (by simp)
            rw [if_pos c106] at H
            have c106b0 : decide (t410 < (t382.length : Int)) = true := decide_eq_true c106
            clear c106
            obtain ⟨bq107, hbq107⟩ : ∃ b_ : Bool, b_ = ((Zaf t382 t410).f2) := ⟨_, rfl⟩
            replace H : (if (bq107 = true) then ((Zck.f l0_0 l0_1 l0_2 l0_3 l0_4 l0_5 l0_6 l0_7 l0_8 l0_9 l1 t372).bind fun t412 => (Zaa.j3 k3 l3 t382 (!t412))) else (Zaa.j3 k3 l3 t382 true)) = some r := by rw [← hbq107] at H; exact H
            have Nbq107 := Za.mk hbq107
            clear hbq107
            by_cases c108 : (bq107 = true)
            case neg =>
             replace c108 := Bool.eq_false_iff.mpr c108
             subst c108
             have H1 : (Zaa.j3 k3 l3 t382 true) = some r := by rw [if_neg (show ¬ (false = true) by decide)] at H; exact H
             clear H
             have H := H1
             clear H1
             have H' := Za.mk H
             clear H
             have p411 : 0 ≤ (t410 : Int) := of_decide_eq_true t14_10
             have q411 : t410 < (t382.length : Int) := of_decide_eq_true t14_10
             obtain ⟨ad411, e411, hx411_0, hx411_1, hx411_2⟩ := Zc (Kd.Zb HO_14.out).2.2 t410 p411 q411
             (try rw [← Nbq107.out] at hx411_2)
             cases e411
             replace p411 := eq_true p411
             replace q411 := eq_true q411
             go_wp2
             go_meet
             case rel => exact ⟨_, (true), t14_11, H', ⟨by have := HJ12.out; have := HJ54.out; have := HK3.out; first | omega | exact Nat.le_refl _⟩, ⟨RD HO_14⟩, ⟨by (with_reducible repeat (first | apply Kd.Zbj | apply Kd.Zbi | apply Kd.Zbm)); exact Kd.Zbo HO_372000.out t14_9⟩, ⟨by (with_reducible repeat (first | apply Kd.Zbj | apply Kd.Zbi | apply Kd.Zbm)); exact Kd.Zbo HO_372001.out t14_9⟩, ⟨by (with_reducible repeat (first | apply Kd.Zbj | apply Kd.Zbi | apply Kd.Zbm)); exact Kd.Zbo HO_372002.out t14_9⟩, ⟨by (with_reducible repeat (first | apply Kd.Zbj | apply Kd.Zbi | apply Kd.Zbm)); exact Kd.Zbo HO_372003.out t14_9⟩, ⟨by (with_reducible repeat (first | apply Kd.Zbj | apply Kd.Zbi | apply Kd.Zbm)); exact Kd.Zbo HO_372004.out t14_9⟩, ⟨by (with_reducible repeat (first | apply Kd.Zbj | apply Kd.Zbi | apply Kd.Zbm)); exact Kd.Zbo HO_372005.out t14_9⟩, ⟨by (with_reducible repeat (first | apply Kd.Zbj | apply Kd.Zbi | apply Kd.Zbm)); exact Kd.Zbo HO_372006.out t14_9⟩, ⟨by (with_reducible repeat (first | refine Zan ?_ _ | refine Zap ?_ | refine Zao ?_ _)); exact BK345.out⟩, ⟨by (with_reducible repeat (first | refine Zan ?_ _ | refine Zap ?_ | refine Zao ?_ _)); exact BK346.out⟩, ⟨by (with_reducible repeat (first | refine Zan ?_ _ | refine Zap ?_ | refine Zao ?_ _)); exact BK347.out⟩, ⟨by (with_reducible repeat (first | refine Zan ?_ _ | refine Zap ?_ | refine Zao ?_ _)); exact BK371.out⟩, ⟨by repeat (first | (with_reducible first | exact HB.out | apply Zau | apply Zaj | apply Zal | refine Zai ?_ GE345.out | refine Zai ?_ GE346.out | refine Zai ?_ GE347.out | refine Zai ?_ GE371.out) | exact HB.out)⟩⟩
            subst c108
            have H1 : ((Zck.f l0_0 l0_1 l0_2 l0_3 l0_4 l0_5 l0_6 l0_7 l0_8 l0_9 l1 t372).bind fun t412 => (Zaa.j3 k3 l3 t382 (!t412))) = some r := by rw [if_pos rfl] at H; exact H
            clear H
            have H := H1
            clear H1
            replace H := Option.bind_eq_some_iff.mp H
            obtain ⟨t412, A1090, H⟩ := H
            try dsimp only at H
            have A109 := Za.mk A1090
            clear A1090
            have H' := Za.mk H
            clear H
            have p411 : 0 ≤ (t410 : Int) := of_decide_eq_true t14_10
            have q411 : t410 < (t382.length : Int) := of_decide_eq_true t14_10
            obtain ⟨ad411, e411, hx411_0, hx411_1, hx411_2⟩ := Zc (Kd.Zb HO_14.out).2.2 t410 p411 q411
            (try rw [← Nbq107.out] at hx411_2)
            cases e411
            replace p411 := eq_true p411
            replace q411 := eq_true q411
            have hnb110 := NB345_346.out
            have hnc110 := NB346_345.out
            have hnb111 := NB345_347.out
            have hnc111 := NB347_345.out
            have hnb112 := NB345_371.out
            have hnc112 := NB371_345.out
            obtain ⟨hcz113_0, hcz113_1, hcz113_2, hcz113_3, hcz113_4, hcz113_5, hcz113_6, hcz113_7, hcz113_8, hcz113_9, hfz113_0, hfz113_1, hfz113_2, hfz113_3, hfz113_4, hfz113_5, hfz113_6, hfz113_7, hfz113_8, hfz113_9⟩ := cz10 BK345
            obtain ⟨Ao114, co114, eo114⟩ := Kd.Zbp HO_12.out
            subst eo114
            go_wp2_with (first | (go_at_call 22; (with_reducible refine (Zck.calls _ _ l0_0 _ _ l0_1 _ _ l0_2 _ _ l0_3 _ _ l0_4 _ _ l0_5 _ _ l0_6 _ _ l0_7 _ _ l0_8 _ _ l0_9 _ _ l1 _ _ t372 t412 _ ?side1 ?side2 ?side3 ?side4 ?side5 ?side6 ?side7 ?side8 ?side9 ?side10 ?side11 ?side12 ?side13 ?side14 ?side15 ?side16 ?side17 ?side18 ?side19 ?side20 ?side21 ?side22 ?side23 ?side24 A109.out).mono ?_); (case side1 => exact CD ((Kd.Zav HR0_0.out HB.out))); (case side2 => exact HC0_0.out); (case side3 => exact CD ((Kd.Zav HR0_1.out HB.out))); (case side4 => exact HC0_1.out); (case side5 => exact CD ((Kd.Zav HR0_2.out HB.out))); (case side6 => exact HC0_2.out); (case side7 => exact CD ((Kd.Zav HR0_3.out HB.out))); (case side8 => exact HC0_3.out); (case side9 => exact CD ((Kd.Zav HR0_4.out HB.out))); (case side10 => exact HC0_4.out); (case side11 => exact CD ((Kd.Zav HR0_5.out HB.out))); (case side12 => exact HC0_5.out); (case side13 => exact CD ((Kd.Zav HR0_6.out HB.out))); (case side14 => exact HC0_6.out); (case side15 => exact CD ((Kd.Zav HR0_7.out HB.out))); (case side16 => exact HC0_7.out); (case side17 => exact CD ((Kd.Zav HR0_8.out HB.out))); (case side18 => exact HC0_8.out); (case side19 => exact CD ((Kd.Zav HR0_9.out HB.out))); (case side20 => exact HC0_9.out); (case side21 => exact CD ((Kd.Zav HR1.out HB.out))); (case side22 => exact HC1.out); (case side23 => exact CD ((Kd.Zb HO_12.out).2.2)); (case side24 => exact (Kd.Zb HO_12.out).2.1); rintro e w115 ⟨rfl, hb⟩; have n0_ := RB HO_12 hb; have n1_ := RB HO_14 hb; have n2_ := RB HO_17 hb; have n3_ := Za.mk (Kd.Zbh (VD HO_372000) hb); have n4_ := Za.mk (Kd.Zbh (VD HO_372001) hb); have n5_ := Za.mk (Kd.Zbh (VD HO_372002) hb); have n6_ := Za.mk (Kd.Zbh (VD HO_372003) hb); have n7_ := Za.mk (Kd.Zbh (VD HO_372004) hb); have n8_ := Za.mk (Kd.Zbh (VD HO_372005) hb); have n9_ := Za.mk (Kd.Zbh (VD HO_372006) hb); have n10_ := Za.mk (Zam (KB BK345) hb); have n11_ := Za.mk (Zam (KB BK346) hb); have n12_ := Za.mk (Zam (KB BK347) hb); have n13_ := Za.mk (Zam (KB BK371) hb); have n14_ := Za.mk (Zbb Zeu hb); clear HO_12; clear HO_14; clear HO_17; clear HO_372000; clear HO_372001; clear HO_372002; clear HO_372003; clear HO_372004; clear HO_372005; clear HO_372006; clear BK345; clear BK346; clear BK347; clear BK371; clear HB; have HO_12 := n0_; have HO_14 := n1_; have HO_17 := n2_; have HO_372000 := n3_; have HO_372001 := n4_; have HO_372002 := n5_; have HO_372003 := n6_; have HO_372004 := n7_; have HO_372005 := n8_; have HO_372006 := n9_; have BK345 := n10_; have BK346 := n11_; have BK347 := n12_; have BK371 := n13_; have HB := n14_; clear n0_ n1_ n2_ n3_ n4_ n5_ n6_ n7_ n8_ n9_ n10_ n11_ n12_ n13_ n14_; (try clear hb); (try clear hb2); (try clear hk); (try clear hi)))
            go_meet
            case rel => exact ⟨_, (!t412), t14_11, H', ⟨by have := HJ12.out; have := HJ54.out; have := HK3.out; first | omega | exact Nat.le_refl _⟩, ⟨RD HO_14⟩, ⟨by (with_reducible repeat (first | apply Kd.Zbj | apply Kd.Zbi | apply Kd.Zbm)); exact Kd.Zbo HO_372000.out t14_9⟩, ⟨by (with_reducible repeat (first | apply Kd.Zbj | apply Kd.Zbi | apply Kd.Zbm)); exact Kd.Zbo HO_372001.out t14_9⟩, ⟨by (with_reducible repeat (first | apply Kd.Zbj | apply Kd.Zbi | apply Kd.Zbm)); exact Kd.Zbo HO_372002.out t14_9⟩, ⟨by (with_reducible repeat (first | apply Kd.Zbj | apply Kd.Zbi | apply Kd.Zbm)); exact Kd.Zbo HO_372003.out t14_9⟩, ⟨by (with_reducible repeat (first | apply Kd.Zbj | apply Kd.Zbi | apply Kd.Zbm)); exact Kd.Zbo HO_372004.out t14_9⟩, ⟨by (with_reducible repeat (first | apply Kd.Zbj | apply Kd.Zbi | apply Kd.Zbm)); exact Kd.Zbo HO_372005.out t14_9⟩, ⟨by (with_reducible repeat (first | apply Kd.Zbj | apply Kd.Zbi | apply Kd.Zbm)); exact Kd.Zbo HO_372006.out t14_9⟩, ⟨by (with_reducible repeat (first | refine Zan ?_ _ | refine Zap ?_ | refine Zao ?_ _)); exact BK345.out⟩, ⟨by (with_reducible repeat (first | refine Zan ?_ _ | refine Zap ?_ | refine Zao ?_ _)); exact BK346.out⟩, ⟨by (with_reducible repeat (first | refine Zan ?_ _ | refine Zap ?_ | refine Zao ?_ _)); exact BK347.out⟩, ⟨by (with_reducible repeat (first | refine Zan ?_ _ | refine Zap ?_ | refine Zao ?_ _)); exact BK371.out⟩, ⟨by repeat (first | (with_reducible first | exact HB.out | apply Zau | apply Zaj | apply Zal | refine Zai ?_ GE345.out | refine Zai ?_ GE346.out | refine Zai ?_ GE347.out | refine Zai ?_ GE371.out) | exact HB.out)⟩⟩
           rw [if_pos c104] at H
           have c104b0 : decide (t410 < 0) = true := decide_eq_true c104
           clear c104
           (first | rw [c104b0] | (simp only [Zax, Zay]; rw [c104b0]) | skip)
           have H' := Za.mk H
           clear H
           go_wp2
           go_meet
           case rel => exact ⟨_, (true), t14_11, H', ⟨by have := HJ12.out; have := HJ54.out; have := HK3.out; first | omega | exact Nat.le_refl _⟩, ⟨RD HO_14⟩, ⟨by (with_reducible repeat (first | apply Kd.Zbj | apply Kd.Zbi | apply Kd.Zbm)); exact Kd.Zbo HO_372000.out t14_9⟩, ⟨by (with_reducible repeat (first | apply Kd.Zbj | apply Kd.Zbi | apply Kd.Zbm)); exact Kd.Zbo HO_372001.out t14_9⟩, ⟨by (with_reducible repeat (first | apply Kd.Zbj | apply Kd.Zbi | apply Kd.Zbm)); exact Kd.Zbo HO_372002.out t14_9⟩, ⟨by (with_reducible repeat (first | apply Kd.Zbj | apply Kd.Zbi | apply Kd.Zbm)); exact Kd.Zbo HO_372003.out t14_9⟩, ⟨by (with_reducible repeat (first | apply Kd.Zbj | apply Kd.Zbi | apply Kd.Zbm)); exact Kd.Zbo HO_372004.out t14_9⟩, ⟨by (with_reducible repeat (first | apply Kd.Zbj | apply Kd.Zbi | apply Kd.Zbm)); exact Kd.Zbo HO_372005.out t14_9⟩, ⟨by (with_reducible repeat (first | apply Kd.Zbj | apply Kd.Zbi | apply Kd.Zbm)); exact Kd.Zbo HO_372006.out t14_9⟩, ⟨by (with_reducible repeat (first | refine Zan ?_ _ | refine Zap ?_ | refine Zao ?_ _)); exact BK345.out⟩, ⟨by (with_reducible repeat (first | refine Zan ?_ _ | refine Zap ?_ | refine Zao ?_ _)); exact BK346.out⟩, ⟨by (with_reducible repeat (first | refine Zan ?_ _ | refine Zap ?_ | refine Zao ?_ _)); exact BK347.out⟩, ⟨by (with_reducible repeat (first | refine Zan ?_ _ | refine Zap ?_ | refine Zao ?_ _)); exact BK371.out⟩, ⟨by repeat (first | (with_reducible first | exact HB.out | apply Zau | apply Zaj | apply Zal | refine Zai ?_ GE345.out | refine Zai ?_ GE346.out | refine Zai ?_ GE347.out | refine Zai ?_ GE371.out) | exact HB.out)⟩⟩
          case rest =>
           clear HC95
           try clear c1
           try clear q1
           try clear c2
           try clear p2
           try clear p4
           try clear q4
           try clear hx4
           try clear p6
           try clear c7
           try clear c8
           try clear c9
           try clear c10
           try clear q10
           try clear c11
           try clear c17
           try clear c21
           try clear p40
           try clear q40
           try clear hx40
           try clear p41
           try clear q41
           try clear hx41
           try clear p64
           try clear c71
           try clear c71b0
           try clear c72
           try clear c81
           try clear c81b0
           try clear c81b1
           try clear c81b2
           try clear c92
           try clear c97
           try clear c98
           try clear c99
           try clear c104
           try clear c104b0
           try clear c105
           try clear c105b0
           try clear c106
           try clear c106b0
           try clear q107
           try clear c108
           try clear c110
           try clear c111
           try clear c112
           try clear hcz100_0
           try clear hcz100_1
           try clear hcz113_0
           try clear hcz113_1
           try clear hcz113_2
           try clear hcz113_3
           try clear hcz113_4
           try clear hcz113_5
           try clear hcz113_6
           try clear hcz113_7
           try clear hcz113_8
           try clear hcz113_9
           try clear hfz100_0
           try clear hfz100_1
           try clear hfz113_0
           try clear hfz113_1
           try clear hfz113_2
           try clear hfz113_3
           try clear hfz113_4
           try clear hfz113_5
           try clear hfz113_6
           try clear hfz113_7
           try clear hfz113_8
           try clear hfz113_9
           try clear hx400_0
           try clear hx400_1
           try clear hx400_2
           try clear hx405_0
           try clear hx405_1
           try clear hx405_2
           try clear hx411_0
           try clear hx411_1
           try clear hx411_2
           try clear p400
           try clear p405
           try clear p411
           try clear q400
           try clear q405
           try clear q411
           obtain ⟨kq, x125_94, rfl, HA, HJ94, HO_14, HO_372000, HO_372001, HO_372002, HO_372003, HO_372004, HO_372005, HO_372006, BK345, BK346, BK347, BK371, HB⟩ := hcut
           cases kq with
           | zero => exact absurd HA.out (by simp [Zaa.j3])
           | succ kj94 =>
            have H := HA.out
            clear HA
            simp only [Zaa.j3] at H
            by_cases c116 : x125_94 = true
            case neg =>
             replace c116 := Bool.eq_false_iff.mpr c116
             subst c116
             have H1 : (Zaa.l1 kj94 l3 t382 0) = some r := by rw [if_neg (show ¬ (false = true) by decide)] at H; exact H
             clear H
             have H := H1
             clear H1
             have H' := Za.mk H
             clear H
             go_wp2
             go_loopg [21] kj94 (fun kq v21 w' => ∃ (x21_5 : Int), v21 = .int .i64 x21_5 ∧ Za (Zaa.l1 kq l3 t382 x21_5 = some r) ∧ Za (kq ≤ kj94) ∧ Za (Kd.R k44 44 w' w.heap.size (fun _ => True) (.slice Ao102 t382.length co102) t382) ∧ Za (Kd.V (Kd.slice 3 (Kd.int .i64)) 60 w' w.heap.size (fun k_ => some k_ ≠ ((.slice Ao102 t382.length co102) : Value).ownBlock ∧ k_ ≠ gb345 ∧ k_ ≠ gb346 ∧ k_ ≠ gb347 ∧ k_ ≠ gb371) (.slice Ao24 t350.length co24) t350) ∧ Za (Kd.V (Kd.slice 3 (Kd.int .i64)) 60 w' w.heap.size (fun k_ => some k_ ≠ ((.slice Ao102 t382.length co102) : Value).ownBlock ∧ k_ ≠ gb345 ∧ k_ ≠ gb346 ∧ k_ ≠ gb347 ∧ k_ ≠ gb371) (.slice Ao29 t353.length co29) t353) ∧ Za (Kd.V (Kd.slice 3 (Kd.int .i64)) 60 w' w.heap.size (fun k_ => some k_ ≠ ((.slice Ao102 t382.length co102) : Value).ownBlock ∧ k_ ≠ gb345 ∧ k_ ≠ gb346 ∧ k_ ≠ gb347 ∧ k_ ≠ gb371) (.slice Ao30 t356.length co30) t356) ∧ Za (Kd.V (Kd.slice 3 (Kd.int .i64)) 60 w' w.heap.size (fun k_ => some k_ ≠ ((.slice Ao102 t382.length co102) : Value).ownBlock ∧ k_ ≠ gb345 ∧ k_ ≠ gb346 ∧ k_ ≠ gb347 ∧ k_ ≠ gb371) (.slice Ao31 t359.length co31) t359) ∧ Za (Kd.V (Kd.slice 3 (Kd.int .i64)) 60 w' w.heap.size (fun k_ => some k_ ≠ ((.slice Ao102 t382.length co102) : Value).ownBlock ∧ k_ ≠ gb345 ∧ k_ ≠ gb346 ∧ k_ ≠ gb347 ∧ k_ ≠ gb371) (.slice Ao32 t362.length co32) t362) ∧ Za (Kd.V (Kd.slice 3 (Kd.int .i64)) 60 w' w.heap.size (fun k_ => some k_ ≠ ((.slice Ao102 t382.length co102) : Value).ownBlock ∧ k_ ≠ gb345 ∧ k_ ≠ gb346 ∧ k_ ≠ gb347 ∧ k_ ≠ gb371) (.slice Ao33 t365.length co33) t365) ∧ Za (Kd.V (Kd.slice 3 (Kd.int .i64)) 60 w' w.heap.size (fun k_ => some k_ ≠ ((.slice Ao102 t382.length co102) : Value).ownBlock ∧ k_ ≠ gb345 ∧ k_ ≠ gb346 ∧ k_ ≠ gb347 ∧ k_ ≠ gb371) (.slice Ao34 t368.length co34) t368) ∧ Za (w'.heap[gb345]? = some (.cells #[(.slice A0_0 l0_0.length c0_0), (.slice A0_1 l0_1.length c0_1), (.slice A0_2 l0_2.length c0_2), (.slice A0_3 l0_3.length c0_3), (.slice A0_4 l0_4.length c0_4), (.slice A0_5 l0_5.length c0_5), (.slice A0_6 l0_6.length c0_6), (.slice A0_7 l0_7.length c0_7), (.slice A0_8 l0_8.length c0_8), (.slice A0_9 l0_9.length c0_9)] 24 (0, 0))) ∧ Za (w'.heap[gb346]? = some (.cells #[.int .i64 a2_0, .int .u8 a2_1] 32 (0, 0))) ∧ Za (w'.heap[gb347]? = some (.cells #[.int .i64 a4_0, .int .u8 a4_1] 32 (0, 0))) ∧ Za (w'.heap[gb371]? = some (.cells #[(.slice Ao24 t350.length co24), (.slice Ao29 t353.length co29), (.slice Ao30 t356.length co30), (.slice Ao31 t359.length co31), (.slice Ao32 t362.length co32), (.slice Ao33 t365.length co33), (.slice Ao34 t368.length co34)] 38 (0, 0))) ∧ Za (Below w.heap.size w w'))
             case atStart => exact ⟨(0), t14_11, H', ⟨Nat.le_refl _⟩, ⟨RD HO_14⟩, ⟨by (with_reducible repeat (first | apply Kd.Zbj | apply Kd.Zbi | apply Kd.Zbm)); exact HO_372000.out⟩, ⟨by (with_reducible repeat (first | apply Kd.Zbj | apply Kd.Zbi | apply Kd.Zbm)); exact HO_372001.out⟩, ⟨by (with_reducible repeat (first | apply Kd.Zbj | apply Kd.Zbi | apply Kd.Zbm)); exact HO_372002.out⟩, ⟨by (with_reducible repeat (first | apply Kd.Zbj | apply Kd.Zbi | apply Kd.Zbm)); exact HO_372003.out⟩, ⟨by (with_reducible repeat (first | apply Kd.Zbj | apply Kd.Zbi | apply Kd.Zbm)); exact HO_372004.out⟩, ⟨by (with_reducible repeat (first | apply Kd.Zbj | apply Kd.Zbi | apply Kd.Zbm)); exact HO_372005.out⟩, ⟨by (with_reducible repeat (first | apply Kd.Zbj | apply Kd.Zbi | apply Kd.Zbm)); exact HO_372006.out⟩, ⟨by (with_reducible repeat (first | refine Zan ?_ _ | refine Zap ?_ | refine Zao ?_ _)); exact BK345.out⟩, ⟨by (with_reducible repeat (first | refine Zan ?_ _ | refine Zap ?_ | refine Zao ?_ _)); exact BK346.out⟩, ⟨by (with_reducible repeat (first | refine Zan ?_ _ | refine Zap ?_ | refine Zao ?_ _)); exact BK347.out⟩, ⟨by (with_reducible repeat (first | refine Zan ?_ _ | refine Zap ?_ | refine Zao ?_ _)); exact BK371.out⟩, ⟨by repeat (first | (with_reducible first | exact HB.out | apply Zau | apply Zaj | apply Zal | refine Zai ?_ GE345.out | refine Zai ?_ GE346.out | refine Zai ?_ GE347.out | refine Zai ?_ GE371.out) | exact HB.out)⟩⟩
             case round =>
              clear H'
              try clear c1
              try clear q1
              try clear c2
              try clear p2
              try clear p4
              try clear q4
              try clear hx4
              try clear p6
              try clear c7
              try clear c8
              try clear c9
              try clear c10
              try clear q10
              try clear c11
              try clear c17
              try clear c21
              try clear p40
              try clear q40
              try clear hx40
              try clear p41
              try clear q41
              try clear hx41
              try clear p64
              try clear c71
              try clear c71b0
              try clear c72
              try clear c81
              try clear c81b0
              try clear c81b1
              try clear c81b2
              try clear c92
              try clear c97
              try clear c98
              try clear c99
              try clear c104
              try clear c104b0
              try clear c105
              try clear c105b0
              try clear c106
              try clear c106b0
              try clear q107
              try clear c108
              try clear c110
              try clear c111
              try clear c112
              try clear c116
              try clear hcz100_0
              try clear hcz100_1
              try clear hcz113_0
              try clear hcz113_1
              try clear hcz113_2
              try clear hcz113_3
              try clear hcz113_4
              try clear hcz113_5
              try clear hcz113_6
              try clear hcz113_7
              try clear hcz113_8
              try clear hcz113_9
              try clear hfz100_0
              try clear hfz100_1
              try clear hfz113_0
              try clear hfz113_1
              try clear hfz113_2
              try clear hfz113_3
              try clear hfz113_4
              try clear hfz113_5
              try clear hfz113_6
              try clear hfz113_7
              try clear hfz113_8
              try clear hfz113_9
              try clear hx400_0
              try clear hx400_1
              try clear hx400_2
              try clear hx405_0
              try clear hx405_1
              try clear hx405_2
              try clear hx411_0
              try clear hx411_1
              try clear hx411_2
              try clear p2
              try clear p4
              try clear p40
              try clear p400
              try clear p405
              try clear p41
              try clear p411
              try clear p6
              try clear p64
              try clear q1
              try clear q10
              try clear q107
              try clear q4
              try clear q40
              try clear q400
              try clear q405
              try clear q41
              try clear q411
              obtain ⟨x21_5, rfl, HA, HK5, HO_14, HO_372000, HO_372001, HO_372002, HO_372003, HO_372004, HO_372005, HO_372006, BK345, BK346, BK347, BK371, HB⟩ := hrel
              cases gk with
              | zero => exact absurd HA.out (by simp [Zaa.l1])
              | succ k5 =>
               have H := HA.out
               clear HA
               simp only [Zaa.l1] at H
               by_cases c117 : x21_5 < (l3.length : Int)
               case neg =>
                rw [if_neg c117] at H
                have c117b0 : decide (x21_5 < (l3.length : Int)) = false := decide_eq_false c117
                clear c117
                replace H := Option.bind_eq_some_iff.mp H
                obtain ⟨t413, A1260, H⟩ := H
                try dsimp only at H
                have A126 := Za.mk A1260
                clear A1260
                obtain rfl := Option.some.inj H
                go_wp2_with (first | ((with_reducible refine Zbl (f := 13) rfl ?_); refine Zcx (some 140) rfl rfl Try.func13 Zcj rfl #[] rfl t14_5 ?_; (with_reducible refine (Zbq.calls  t413 _ A126.out).mono ?_); rintro e w127 ⟨rfl, hb⟩; refine ⟨_, rfl, ?_⟩; have n0_ := RB HO_14 hb; have n1_ := Za.mk (Kd.Zbh (VD HO_372000) hb); have n2_ := Za.mk (Kd.Zbh (VD HO_372001) hb); have n3_ := Za.mk (Kd.Zbh (VD HO_372002) hb); have n4_ := Za.mk (Kd.Zbh (VD HO_372003) hb); have n5_ := Za.mk (Kd.Zbh (VD HO_372004) hb); have n6_ := Za.mk (Kd.Zbh (VD HO_372005) hb); have n7_ := Za.mk (Kd.Zbh (VD HO_372006) hb); have n8_ := Za.mk (Zam (KB BK345) hb); have n9_ := Za.mk (Zam (KB BK346) hb); have n10_ := Za.mk (Zam (KB BK347) hb); have n11_ := Za.mk (Zam (KB BK371) hb); have n12_ := Za.mk (Zbb Zeu hb); clear HO_14; clear HO_372000; clear HO_372001; clear HO_372002; clear HO_372003; clear HO_372004; clear HO_372005; clear HO_372006; clear BK345; clear BK346; clear BK347; clear BK371; clear HB; have HO_14 := n0_; have HO_372000 := n1_; have HO_372001 := n2_; have HO_372002 := n3_; have HO_372003 := n4_; have HO_372004 := n5_; have HO_372005 := n6_; have HO_372006 := n7_; have BK345 := n8_; have BK346 := n9_; have BK347 := n10_; have BK371 := n11_; have HB := n12_; clear n0_ n1_ n2_ n3_ n4_ n5_ n6_ n7_ n8_ n9_ n10_ n11_ n12_; (try clear hb); (try clear hb2); (try clear hk); (try clear hi)))
                go_ret
                exact ⟨by first | rfl | (simp [Zbe, Zbd] <;> rfl) | (simp [*, Zbe, Zbd] <;> rfl), by repeat (first | (with_reducible first | exact HB.out | apply Zau | apply Zaj | apply Zal | refine Zai ?_ GE345.out | refine Zai ?_ GE346.out | refine Zai ?_ GE347.out | refine Zai ?_ GE371.out) | exact HB.out)⟩
               rw [if_pos c117] at H
               have c117b0 : decide (x21_5 < (l3.length : Int)) = true := decide_eq_true c117
               clear c117
               by_cases c118 : 0 ≤ x21_5
               case neg =>
                rw [if_neg c118] at H
                exact absurd H (by simp)
               rw [if_pos c118] at H
               have c118b0 : decide (0 ≤ x21_5) = true := decide_eq_true c118
               clear c118
               replace H := Option.bind_eq_some_iff.mp H
               obtain ⟨⟨t415, t416, t417⟩, A1190, H⟩ := H
               replace H : ((Zak.f k5 t382 t415 t416 t417).bind fun t418 => (if t418 ≥ 0 then (some false) else (Zaa.l1 k5 l3 t382 (wrap64 (x21_5 + 1))))) = some r := H
               have A119 := Za.mk A1190
               clear A1190
               replace H := Option.bind_eq_some_iff.mp H
               obtain ⟨t418, A1200, H⟩ := H
               try dsimp only at H
               have A120 := Za.mk A1200
               clear A1200
               by_cases c121 : t418 ≥ 0
               case neg =>
                rw [if_neg c121] at H
                have c121b0 : decide (0 ≤ t418) = false := decide_eq_false c121
                clear c121
                have H' := Za.mk H
                clear H
                have p414 : 0 ≤ (x21_5 : Int) := of_decide_eq_true t14_10
                have q414 : x21_5 < (l3.length : Int) := of_decide_eq_true t14_10
                obtain ⟨ad414, e414, hx414_0, hx414_1⟩ := at_T32 HR3.out x21_5 p414 q414
                cases e414
                replace hx414_0 := (HB.out.cell (World.block_lt_of_cell? w _ hx414_0)).trans hx414_0
                replace hx414_1 := (HB.out.cell (World.block_lt_of_cell? w _ hx414_1)).trans hx414_1
                replace p414 := eq_true p414
                replace q414 := eq_true q414
                go_wp2_with (first | ((with_reducible refine Zbl (f := 17) rfl ?_); refine Zcx (some 137) rfl rfl Try.func17 Zcj rfl #[.agg #[.int .i64 ((rd_T32 l3 x21_5).f0), .int .u8 ((rd_T32 l3 x21_5).f1)]] rfl t14_5 ?_; (with_reducible refine (Zbn.calls ((rd_T32 l3 x21_5).f0) ((rd_T32 l3 x21_5).f1) t415 t416 t417 _ A119.out).mono ?_); rintro e w124 ⟨rfl, hb⟩; refine ⟨_, rfl, ?_⟩; have n0_ := RB HO_14 hb; have n1_ := Za.mk (Kd.Zbh (VD HO_372000) hb); have n2_ := Za.mk (Kd.Zbh (VD HO_372001) hb); have n3_ := Za.mk (Kd.Zbh (VD HO_372002) hb); have n4_ := Za.mk (Kd.Zbh (VD HO_372003) hb); have n5_ := Za.mk (Kd.Zbh (VD HO_372004) hb); have n6_ := Za.mk (Kd.Zbh (VD HO_372005) hb); have n7_ := Za.mk (Kd.Zbh (VD HO_372006) hb); have n8_ := Za.mk (Zam (KB BK345) hb); have n9_ := Za.mk (Zam (KB BK346) hb); have n10_ := Za.mk (Zam (KB BK347) hb); have n11_ := Za.mk (Zam (KB BK371) hb); have n12_ := Za.mk (Zbb Zeu hb); clear HO_14; clear HO_372000; clear HO_372001; clear HO_372002; clear HO_372003; clear HO_372004; clear HO_372005; clear HO_372006; clear BK345; clear BK346; clear BK347; clear BK371; clear HB; have HO_14 := n0_; have HO_372000 := n1_; have HO_372001 := n2_; have HO_372002 := n3_; have HO_372003 := n4_; have HO_372004 := n5_; have HO_372005 := n6_; have HO_372006 := n7_; have BK345 := n8_; have BK346 := n9_; have BK347 := n10_; have BK371 := n11_; have HB := n12_; clear n0_ n1_ n2_ n3_ n4_ n5_ n6_ n7_ n8_ n9_ n10_ n11_ n12_; (try clear hb); (try clear hb2); (try clear hk); (try clear hi)) | ((with_reducible refine Zbl (f := 21) rfl ?_); refine Zcx (some 138) rfl rfl Try.func21 Zcj rfl #[.slice Ao102 t382.length co102, .agg #[.int .i64 t415, .int .u8 t416, .bool t417]] rfl t14_5 ?_; (with_reducible refine (Zak.calls k5 _ _ t382 t415 t416 t417 t418 _ ?side1 ?side2 A120.out).mono ?_); (case side1 => exact CD ((Kd.Zb HO_14.out).2.2)); (case side2 => exact (Kd.Zb HO_14.out).2.1); rintro e w125 ⟨rfl, hb⟩; refine ⟨_, rfl, ?_⟩; have n0_ := RB HO_14 hb; have n1_ := Za.mk (Kd.Zbh (VD HO_372000) hb); have n2_ := Za.mk (Kd.Zbh (VD HO_372001) hb); have n3_ := Za.mk (Kd.Zbh (VD HO_372002) hb); have n4_ := Za.mk (Kd.Zbh (VD HO_372003) hb); have n5_ := Za.mk (Kd.Zbh (VD HO_372004) hb); have n6_ := Za.mk (Kd.Zbh (VD HO_372005) hb); have n7_ := Za.mk (Kd.Zbh (VD HO_372006) hb); have n8_ := Za.mk (Zam (KB BK345) hb); have n9_ := Za.mk (Zam (KB BK346) hb); have n10_ := Za.mk (Zam (KB BK347) hb); have n11_ := Za.mk (Zam (KB BK371) hb); have n12_ := Za.mk (Zbb Zeu hb); clear HO_14; clear HO_372000; clear HO_372001; clear HO_372002; clear HO_372003; clear HO_372004; clear HO_372005; clear HO_372006; clear BK345; clear BK346; clear BK347; clear BK371; clear HB; have HO_14 := n0_; have HO_372000 := n1_; have HO_372001 := n2_; have HO_372002 := n3_; have HO_372003 := n4_; have HO_372004 := n5_; have HO_372005 := n6_; have HO_372006 := n7_; have BK345 := n8_; have BK346 := n9_; have BK347 := n10_; have BK371 := n11_; have HB := n12_; clear n0_ n1_ n2_ n3_ n4_ n5_ n6_ n7_ n8_ n9_ n10_ n11_ n12_; (try clear hb); (try clear hb2); (try clear hk); (try clear hi)))
                go_roundg k5
                case measure => have := HJ12.out; have := HJ54.out; have := HK3.out; have := HJ94.out; have := HK5.out; omega
                case rel => exact ⟨(wrap64 (x21_5 + 1)), t14_11, H', ⟨by have := HJ12.out; have := HJ54.out; have := HK3.out; have := HJ94.out; have := HK5.out; omega⟩, ⟨RD HO_14⟩, ⟨by (with_reducible repeat (first | apply Kd.Zbj | apply Kd.Zbi | apply Kd.Zbm)); exact HO_372000.out⟩, ⟨by (with_reducible repeat (first | apply Kd.Zbj | apply Kd.Zbi | apply Kd.Zbm)); exact HO_372001.out⟩, ⟨by (with_reducible repeat (first | apply Kd.Zbj | apply Kd.Zbi | apply Kd.Zbm)); exact HO_372002.out⟩, ⟨by (with_reducible repeat (first | apply Kd.Zbj | apply Kd.Zbi | apply Kd.Zbm)); exact HO_372003.out⟩, ⟨by (with_reducible repeat (first | apply Kd.Zbj | apply Kd.Zbi | apply Kd.Zbm)); exact HO_372004.out⟩, ⟨by (with_reducible repeat (first | apply Kd.Zbj | apply Kd.Zbi | apply Kd.Zbm)); exact HO_372005.out⟩, ⟨by (with_reducible repeat (first | apply Kd.Zbj | apply Kd.Zbi | apply Kd.Zbm)); exact HO_372006.out⟩, ⟨by (with_reducible repeat (first | refine Zan ?_ _ | refine Zap ?_ | refine Zao ?_ _)); exact BK345.out⟩, ⟨by (with_reducible repeat (first | refine Zan ?_ _ | refine Zap ?_ | refine Zao ?_ _)); exact BK346.out⟩, ⟨by (with_reducible repeat (first | refine Zan ?_ _ | refine Zap ?_ | refine Zao ?_ _)); exact BK347.out⟩, ⟨by (with_reducible repeat (first | refine Zan ?_ _ | refine Zap ?_ | refine Zao ?_ _)); exact BK371.out⟩, ⟨by repeat (first | (with_reducible first | exact HB.out | apply Zau | apply Zaj | apply Zal | refine Zai ?_ GE345.out | refine Zai ?_ GE346.out | refine Zai ?_ GE347.out | refine Zai ?_ GE371.out) | exact HB.out)⟩⟩
               rw [if_pos c121] at H
               have c121b0 : decide (0 ≤ t418) = true := decide_eq_true c121
               clear c121
               exact absurd ((Option.some.inj H).trans hrt_.out) (by decide)
            subst c116
            have H1 : (some false) = some r := by rw [if_pos rfl] at H; exact H
            clear H
            have H := H1
            clear H1
            exact absurd ((Option.some.inj H).trans hrt_.out) (by decide)
         rw [if_pos c71] at H
         have c71b0 : decide (x19_3 < (t396.length : Int)) = true := decide_eq_true c71
         clear c71
         by_cases c72 : 0 ≤ x19_3
         case neg =>
          rw [if_neg c72] at H
          exact absurd H (by simp)
         rw [if_pos c72] at H
         have c72b0 : decide (0 ≤ x19_3) = true := decide_eq_true c72
         clear c72
         replace H := Option.bind_eq_some_iff.mp H
         obtain ⟨⟨t401, t402, t403⟩, A730, H⟩ := H
         replace H : ((Zak.f k3 t382 t401 t402 t403).bind fun t404 => (if t404 < 0 then (some false) else (if (((Zby t396 x19_3).f0.f0) == a4_0 && (((Zby t396 x19_3).f0.f1) == a4_1)) = true then (some false) else (Zaa.l0 k3 l1 l3 t372 t375 t382 t396 (wrap64 (x19_3 + 1)) l0_0 l0_1 l0_2 l0_3 l0_4 l0_5 l0_6 l0_7 l0_8 l0_9 a2_0 a2_1 a4_0 a4_1)))) = some r := H
         have A73 := Za.mk A730
         clear A730
         replace H := Option.bind_eq_some_iff.mp H
         obtain ⟨t404, A740, H⟩ := H
         try dsimp only at H
         have A74 := Za.mk A740
         clear A740
         by_cases c75 : t404 < 0
         case neg =>
          rw [if_neg c75] at H
          have c75b0 : decide (t404 < 0) = false := decide_eq_false c75
          clear c75
          by_cases c81 : (((Zby t396 x19_3).f0.f0) == a4_0 && (((Zby t396 x19_3).f0.f1) == a4_1)) = true
          case neg =>
           rw [if_neg c81] at H
           have c81b0 : (((Zby t396 x19_3).f0.f0) == a4_0 && (((Zby t396 x19_3).f0.f1) == a4_1)) = false := by simpa using c81
           (try (have c81b1 : decide (((Zby t396 x19_3).f0.f0) = a4_0 && (((Zby t396 x19_3).f0.f1) == a4_1)) = false := by simpa using c81))
           (try (have c81b2 : (((Zby t396 x19_3).f0.f0) == a4_0 && (((Zby t396 x19_3).f0.f1) == a4_1)) = false := by simpa using c81))
           (try (have c81b3 : ¬ (((Zby t396 x19_3).f0.f0) = a4_0 && (((Zby t396 x19_3).f0.f1) == a4_1)) := by simpa using c81))
           clear c81
           have H' := Za.mk H
           clear H
           obtain ⟨Ao87, co87, eo87⟩ := Kd.Zbp HO_17.out
           subst eo87
           try go_wp2
           have n0_ := Za.mk (Kd.Zbw HO_12.out)
           have n1_ := Za.mk (Kd.Zbw HO_14.out)
           have n2_ := Za.mk (Kd.Zbw HO_17.out)
           have n3_ := Za.mk (Kd.Zbm HO_372000.out)
           have n4_ := Za.mk (Kd.Zbm HO_372001.out)
           have n5_ := Za.mk (Kd.Zbm HO_372002.out)
           have n6_ := Za.mk (Kd.Zbm HO_372003.out)
           have n7_ := Za.mk (Kd.Zbm HO_372004.out)
           have n8_ := Za.mk (Kd.Zbm HO_372005.out)
           have n9_ := Za.mk (Kd.Zbm HO_372006.out)
           have n10_ := Za.mk (Zap BK345.out)
           have n11_ := Za.mk (Zap BK346.out)
           have n12_ := Za.mk (Zap BK347.out)
           have n13_ := Za.mk (Zap BK371.out)
           have n14_ := Za.mk (Zal HB.out)
           clear HO_12
           clear HO_14
           clear HO_17
           clear HO_372000
           clear HO_372001
           clear HO_372002
           clear HO_372003
           clear HO_372004
           clear HO_372005
           clear HO_372006
           clear BK345
           clear BK346
           clear BK347
           clear BK371
           clear HB
           have HO_12 := n0_
           have HO_14 := n1_
           have HO_17 := n2_
           have HO_372000 := n3_
           have HO_372001 := n4_
           have HO_372002 := n5_
           have HO_372003 := n6_
           have HO_372004 := n7_
           have HO_372005 := n8_
           have HO_372006 := n9_
           have BK345 := n10_
           have BK346 := n11_
           have BK347 := n12_
           have BK371 := n13_
           have HB := n14_
           clear n0_ n1_ n2_ n3_ n4_ n5_ n6_ n7_ n8_ n9_ n10_ n11_ n12_ n13_ n14_
           have p400 : 0 ≤ (x19_3 : Int) := of_decide_eq_true t14_10
           have q400 : x19_3 < (t396.length : Int) := of_decide_eq_true t14_10
           obtain ⟨ad400, e400, hx400_0, hx400_1, hx400_2⟩ := at_T34 (Kd.Zb HO_17.out).2.2 x19_3 p400 q400
           cases e400
           replace p400 := eq_true p400
           replace q400 := eq_true q400
           have p405 : 0 ≤ (x19_3 : Int) := of_decide_eq_true t14_10
           have q405 : x19_3 < (t396.length : Int) := of_decide_eq_true t14_10
           obtain ⟨ad405, e405, hx405_0, hx405_1, hx405_2⟩ := at_T34 (Kd.Zb HO_17.out).2.2 x19_3 p405 q405
           obtain rfl : ad400 = ad405 := (by injection e405)
           replace p405 := eq_true p405
           replace q405 := eq_true q405
           refine Zek (n := 18) (S := fun w' => w'.cell? ⟨gb347, 0, none⟩ = some (.int .i64 a4_0) ∧ w'.cell? ⟨gb347, 1, none⟩ = some (.int .u8 a4_1) ∧ w'.cell? (ad400.add ((x19_3).toNat * 3)) = some (.int .i64 ((Zby t396 x19_3).f0.f0)) ∧ w'.cell? ⟨(ad400.add ((x19_3).toNat * 3)).block, (ad400.add ((x19_3).toNat * 3)).off + 1, none⟩ = some (.int .u8 ((Zby t396 x19_3).f0.f1)) ∧ w'.cell? ⟨(ad400.add ((x19_3).toNat * 3)).block, (ad400.add ((x19_3).toNat * 3)).off + 2, none⟩ = some (.bool ((Zby t396 x19_3).f1)) ∧ w'.cell? (ad400.add ((x19_3).toNat * 3)) = some (.int .i64 ((Zby t396 x19_3).f0.f0)) ∧ w'.cell? ⟨(ad400.add ((x19_3).toNat * 3)).block, (ad400.add ((x19_3).toNat * 3)).off + 1, none⟩ = some (.int .u8 ((Zby t396 x19_3).f0.f1)) ∧ w'.cell? ⟨(ad400.add ((x19_3).toNat * 3)).block, (ad400.add ((x19_3).toNat * 3)).off + 2, none⟩ = some (.bool ((Zby t396 x19_3).f1))) (ds := []) u14_13 Zcj rfl rfl ⟨(Zah BK347.out 0).trans rfl, (Zah BK347.out 1).trans rfl, hx400_0, hx400_1, hx400_2, hx405_0, hx405_1, hx405_2⟩ (fun hHeld => ?_); refine Zcp Zaa.tab17 Zaa.bits17 (fun HT_ HW_ => ?_)
           generalize wr.drew = w88 at HO_12 HO_14 HO_17 HO_372000 HO_372001 HO_372002 HO_372003 HO_372004 HO_372005 HO_372006 BK345 BK346 BK347 BK371 HB hx400_0 hx400_1 hx400_2 hx405_0 hx405_1 hx405_2 hHeld ⊢
           refine Zbc (i := 0) (N := some 84) (v := ?_) (a' := ?_) u14_14 rfl rfl (Zaw HT_.out Zcj) (fun _ _ _ h => h) (Or.inl ⟨by rfl, ?_⟩) ?_ ?_
           rotate_left
           ·intro w'
            go_simp
            with_reducible rfl
           rotate_left
           ·simp only [Act.put, s0_, s1_, s2_, Zax, Zay]
            rfl
           refine Zbc (i := 1) (N := some 85) (v := ?_) (a' := ?_) u14_15 rfl rfl (Zaw HT_.out Zcj) (fun _ _ _ h => h) (Or.inl ⟨by rfl, ?_⟩) ?_ ?_
           rotate_left
           ·intro w'
            go_simp
            with_reducible rfl
           rotate_left
           ·simp only [Act.put, s0_, s1_, s2_, Zax, Zay]
            rfl
           refine Zbc (i := 2) (N := some 86) (v := ?_) (a' := ?_) u14_16 rfl rfl (Zaw HT_.out Zcj) (fun _ _ _ h => h) (Or.inl ⟨by rfl, ?_⟩) ?_ ?_
           rotate_left
           ·intro w'
            go_simp
            with_reducible rfl
           rotate_left
           ·simp only [Act.put, s0_, s1_, s2_, Zax, Zay]
            rfl
           refine Zbc (i := 3) (N := some 87) (v := ?_) (a' := ?_) u14_17 rfl rfl (Zaw HT_.out Zcj) (fun _ _ _ h => h) (Or.inl ⟨by rfl, ?_⟩) ?_ ?_
           rotate_left
           ·intro w'
            go_simp
            with_reducible rfl
           rotate_left
           ·simp only [Act.put, s0_, s1_, s2_, Zax, Zay]
            rfl
           refine Zbc (i := 4) (N := some 88) (v := ?_) (a' := ?_) u14_18 rfl rfl (Zaw HT_.out Zcj) (fun _ _ _ h => h) (Or.inl ⟨by rfl, ?_⟩) ?_ ?_
           rotate_left
           ·intro w'
            go_simp
            with_reducible rfl
           rotate_left
           ·simp only [Act.put, s0_, s1_, s2_, Zax, Zay]
            rfl
           refine Zdh (i := 5) (N := some 89) (v := ?_) (a' := ?_) u14_19 rfl rfl (Zbt HT_.out HW_.out Zcj) (fun _ _ _ h => h) (Or.inl ⟨by rfl, ?_⟩) hHeld ?_ ?_
           rotate_left
           ·rintro w' ⟨s0, s1, s2, s3, s4, s5, s6, s7⟩
            go_simp
            with_reducible rfl
           rotate_left
           ·simp only [Act.put, s0_, s1_, s2_, Zax, Zay]
            rfl
           refine one_ (i := 6) (N := some 90) u14_20 rfl rfl (Zda HT_.out Zcj) (by decide) (fun K hK => ?_)
           refine goes_ Try.func17 Zcj rfl #[.agg #[.int .i64 ((Zby t396 x19_3).f0.f0), .int .u8 ((Zby t396 x19_3).f0.f1)]] (by rfl) rfl rfl t14_5 ?_
           with_reducible refine (Zbn.calls ((Zby t396 x19_3).f0.f0) ((Zby t396 x19_3).f0.f1) t401 t402 t403 _ A73.out).mono ?_
           rintro e w89 ⟨rfl, hb⟩
           have HS2_ := (hb.cell (World.block_lt_of_cell? _ _ (hHeld.2.2.1))).trans (hHeld.2.2.1)
           have HS3_ := (hb.cell (World.block_lt_of_cell? _ _ (hHeld.2.2.2.1))).trans (hHeld.2.2.2.1)
           have HS4_ := (hb.cell (World.block_lt_of_cell? _ _ (hHeld.2.2.2.2.1))).trans (hHeld.2.2.2.2.1)
           have HS5_ := (hb.cell (World.block_lt_of_cell? _ _ (hHeld.2.2.2.2.2.1))).trans (hHeld.2.2.2.2.2.1)
           have HS6_ := (hb.cell (World.block_lt_of_cell? _ _ (hHeld.2.2.2.2.2.2.1))).trans (hHeld.2.2.2.2.2.2.1)
           have HS7_ := (hb.cell (World.block_lt_of_cell? _ _ (hHeld.2.2.2.2.2.2.2))).trans (hHeld.2.2.2.2.2.2.2)
           refine ⟨_, rfl, ?_⟩
           have n0_ := RB HO_12 hb
           have n1_ := RB HO_14 hb
           have n2_ := RB HO_17 hb
           have n3_ := Za.mk (Kd.Zbh (VD HO_372000) hb)
           have n4_ := Za.mk (Kd.Zbh (VD HO_372001) hb)
           have n5_ := Za.mk (Kd.Zbh (VD HO_372002) hb)
           have n6_ := Za.mk (Kd.Zbh (VD HO_372003) hb)
           have n7_ := Za.mk (Kd.Zbh (VD HO_372004) hb)
           have n8_ := Za.mk (Kd.Zbh (VD HO_372005) hb)
           have n9_ := Za.mk (Kd.Zbh (VD HO_372006) hb)
           have n10_ := Za.mk (Zam (KB BK345) hb)
           have n11_ := Za.mk (Zam (KB BK346) hb)
           have n12_ := Za.mk (Zam (KB BK347) hb)
           have n13_ := Za.mk (Zam (KB BK371) hb)
           have n14_ := Za.mk (Zbb Zeu hb)
           clear HO_12
           clear HO_14
           clear HO_17
           clear HO_372000
           clear HO_372001
           clear HO_372002
           clear HO_372003
           clear HO_372004
           clear HO_372005
           clear HO_372006
           clear BK345
           clear BK346
           clear BK347
           clear BK371
           clear HB
           have HO_12 := n0_
           have HO_14 := n1_
           have HO_17 := n2_
           have HO_372000 := n3_
           have HO_372001 := n4_
           have HO_372002 := n5_
           have HO_372003 := n6_
           have HO_372004 := n7_
           have HO_372005 := n8_
           have HO_372006 := n9_
           have BK345 := n10_
           have BK346 := n11_
           have BK347 := n12_
           have BK371 := n13_
           have HB := n14_
           clear n0_ n1_ n2_ n3_ n4_ n5_ n6_ n7_ n8_ n9_ n10_ n11_ n12_ n13_ n14_
           (try clear hb)
           (try clear hb2)
           (try clear hk)
           (try clear hi)
           obtain ⟨Ao90, co90, eo90⟩ := Kd.Zbp HO_14.out
           (first | subst eo90 | (injection eo90 with f1_ f2_ f3_; have f4_ := f1_.symm; have f5_ := f3_.symm; clear f1_ f2_ f3_; subst f4_; subst f5_))
           refine hK.out _ _ ⟨(Zah BK347.out 0).trans rfl, (Zah BK347.out 1).trans rfl, HS2_, HS3_, HS4_, HS5_, HS6_, HS7_⟩ (fun hHeld => ?_)
           clear hK K
           refine Zem (a' := ?_) ?_ ?_
           rotate_left
           ·show Act.put _ (some 90) _ = _
            simp only [Act.put, s0_, s1_, s2_, Zax, Zay]
            rfl
           refine one_ (i := 7) (N := some 91) u14_21 rfl rfl (Zda HT_.out Zcj) (by decide) (fun K hK => ?_)
           refine goes_ Try.func21 Zcj rfl #[.slice Ao90 t382.length co90, .agg #[.int .i64 t401, .int .u8 t402, .bool t403]] (by rfl) rfl rfl t14_5 ?_
           with_reducible refine (Zak.calls k3 _ _ t382 t401 t402 t403 t404 _ ?side1 ?side2 A74.out).mono ?_
           (case side1 => exact CD ((Kd.Zb HO_14.out).2.2))
           (case side2 => exact (Kd.Zb HO_14.out).2.1)
           rintro e w91 ⟨rfl, hb⟩
           have HS2_ := (hb.cell (World.block_lt_of_cell? _ _ (hHeld.2.2.1))).trans (hHeld.2.2.1)
           have HS3_ := (hb.cell (World.block_lt_of_cell? _ _ (hHeld.2.2.2.1))).trans (hHeld.2.2.2.1)
           have HS4_ := (hb.cell (World.block_lt_of_cell? _ _ (hHeld.2.2.2.2.1))).trans (hHeld.2.2.2.2.1)
           have HS5_ := (hb.cell (World.block_lt_of_cell? _ _ (hHeld.2.2.2.2.2.1))).trans (hHeld.2.2.2.2.2.1)
           have HS6_ := (hb.cell (World.block_lt_of_cell? _ _ (hHeld.2.2.2.2.2.2.1))).trans (hHeld.2.2.2.2.2.2.1)
           have HS7_ := (hb.cell (World.block_lt_of_cell? _ _ (hHeld.2.2.2.2.2.2.2))).trans (hHeld.2.2.2.2.2.2.2)
           refine ⟨_, rfl, ?_⟩
           have n0_ := RB HO_12 hb
           have n1_ := RB HO_14 hb
           have n2_ := RB HO_17 hb
           have n3_ := Za.mk (Kd.Zbh (VD HO_372000) hb)
           have n4_ := Za.mk (Kd.Zbh (VD HO_372001) hb)
           have n5_ := Za.mk (Kd.Zbh (VD HO_372002) hb)
           have n6_ := Za.mk (Kd.Zbh (VD HO_372003) hb)
           have n7_ := Za.mk (Kd.Zbh (VD HO_372004) hb)
           have n8_ := Za.mk (Kd.Zbh (VD HO_372005) hb)
           have n9_ := Za.mk (Kd.Zbh (VD HO_372006) hb)
           have n10_ := Za.mk (Zam (KB BK345) hb)
           have n11_ := Za.mk (Zam (KB BK346) hb)
           have n12_ := Za.mk (Zam (KB BK347) hb)
           have n13_ := Za.mk (Zam (KB BK371) hb)
           have n14_ := Za.mk (Zbb Zeu hb)
           clear HO_12
           clear HO_14
           clear HO_17
           clear HO_372000
           clear HO_372001
           clear HO_372002
           clear HO_372003
           clear HO_372004
           clear HO_372005
           clear HO_372006
           clear BK345
           clear BK346
           clear BK347
           clear BK371
           clear HB
           have HO_12 := n0_
           have HO_14 := n1_
           have HO_17 := n2_
           have HO_372000 := n3_
           have HO_372001 := n4_
           have HO_372002 := n5_
           have HO_372003 := n6_
           have HO_372004 := n7_
           have HO_372005 := n8_
           have HO_372006 := n9_
           have BK345 := n10_
           have BK346 := n11_
           have BK347 := n12_
           have BK371 := n13_
           have HB := n14_
           clear n0_ n1_ n2_ n3_ n4_ n5_ n6_ n7_ n8_ n9_ n10_ n11_ n12_ n13_ n14_
           (try clear hb)
           (try clear hb2)
           (try clear hk)
           (try clear hi)
           refine hK.out _ _ ⟨(Zah BK347.out 0).trans rfl, (Zah BK347.out 1).trans rfl, HS2_, HS3_, HS4_, HS5_, HS6_, HS7_⟩ (fun hHeld => ?_)
           clear hK K
           refine Zem (a' := ?_) ?_ ?_
           rotate_left
           ·show Act.put _ (some 91) _ = _
            simp only [Act.put, s0_, s1_, s2_, Zax, Zay]
            rfl
           refine Zbc (i := 8) (N := some 92) (v := ?_) (a' := ?_) u14_22 rfl rfl (Zaw HT_.out Zcj) (fun _ _ _ h => h) (Or.inl ⟨by rfl, ?_⟩) ?_ ?_
           rotate_left
           ·intro w'
            go_simp
            with_reducible rfl
           rotate_left
           ·simp only [Act.put, s0_, s1_, s2_, Zax, Zay]
            rfl
           refine Zbc (i := 9) (N := some 93) (v := ?_) (a' := ?_) u14_23 rfl rfl (Zaw HT_.out Zcj) (fun _ _ _ h => h) (Or.inl ⟨by rfl, ?_⟩) ?_ ?_
           rotate_left
           ·intro w'
            go_simp
            with_reducible rfl
           rotate_left
           ·simp only [Act.put, s0_, s1_, s2_, Zax, Zay]
            rfl
           refine Zbc (i := 10) (N := some 94) (v := ?_) (a' := ?_) u14_24 rfl rfl (Zaw HT_.out Zcj) (fun _ _ _ h => h) (Or.inl ⟨by rfl, ?_⟩) ?_ ?_
           rotate_left
           ·intro w'
            go_simp
            with_reducible rfl
           rotate_left
           ·simp only [Act.put, s0_, s1_, s2_, Zax, Zay]
            rfl
           refine Zbc (i := 11) (N := some 95) (v := ?_) (a' := ?_) u14_25 rfl rfl (Zaw HT_.out Zcj) (fun _ _ _ h => h) (Or.inl ⟨by rfl, ?_⟩) ?_ ?_
           rotate_left
           ·intro w'
            go_simp
            with_reducible rfl
           rotate_left
           ·simp only [Act.put, s0_, s1_, s2_, Zax, Zay]
            rfl
           refine Zbc (i := 12) (N := some 96) (v := ?_) (a' := ?_) u14_26 rfl rfl (Zaw HT_.out Zcj) (fun _ _ _ h => h) (Or.inl ⟨by rfl, ?_⟩) ?_ ?_
           rotate_left
           ·intro w'
            go_simp
            with_reducible rfl
           rotate_left
           ·simp only [Act.put, s0_, s1_, s2_, Zax, Zay]
            rfl
           refine Zbc (i := 13) (N := some 97) (v := ?_) (a' := ?_) u14_27 rfl rfl (Zaw HT_.out Zcj) (fun _ _ _ h => h) (Or.inl ⟨by rfl, ?_⟩) ?_ ?_
           rotate_left
           ·intro w'
            go_simp
            with_reducible rfl
           rotate_left
           ·simp only [Act.put, s0_, s1_, s2_, Zax, Zay]
            rfl
           refine Zdh (i := 14) (N := some 98) (v := ?_) (a' := ?_) u14_28 rfl rfl (Zbt HT_.out HW_.out Zcj) (fun _ _ _ h => h) (Or.inl ⟨by rfl, ?_⟩) hHeld ?_ ?_
           rotate_left
           ·rintro w' ⟨s0, s1, s2, s3, s4, s5, s6, s7⟩
            go_simp
            with_reducible rfl
           rotate_left
           ·simp only [Act.put, s0_, s1_, s2_, Zax, Zay]
            rfl
           refine Zdh (i := 15) (N := some 99) (v := ?_) (a' := ?_) u14_29 rfl rfl (Zbt HT_.out HW_.out Zcj) (fun _ _ _ h => h) (Or.inl ⟨by rfl, ?_⟩) hHeld ?_ ?_
           rotate_left
           ·rintro w' ⟨s0, s1, s2, s3, s4, s5, s6, s7⟩
            go_simp
            with_reducible rfl
           rotate_left
           ·simp only [Act.put, s0_, s1_, s2_, Zax, Zay]
            rfl
           refine Zbc (i := 16) (N := some 100) (v := ?_) (a' := ?_) u14_30 rfl rfl (Zaw HT_.out Zcj) (fun _ _ _ h => h) (Or.inl ⟨by rfl, ?_⟩) ?_ ?_
           rotate_left
           ·intro w'
            go_simp
            with_reducible rfl
           rotate_left
           ·simp only [Act.put, s0_, s1_, s2_, Zax, Zay]
            rfl
           refine Zbc (i := 17) (N := some 101) (v := ?_) (a' := ?_) u14_31 rfl rfl (Zaw HT_.out Zcj) (fun _ _ _ h => h) (Or.inl ⟨by rfl, ?_⟩) ?_ ?_
           rotate_left
           ·intro w'
            go_simp
            with_reducible rfl
           rotate_left
           ·simp only [Act.put, s0_, s1_, s2_, Zax, Zay]
            rfl
           refine done_ (Zdj HT_.out Zcj) ?_
           try go_wp2
           go_roundg k3
           case measure => have := HJ12.out; have := HJ54.out; have := HK3.out; omega
           case rel => exact ⟨(wrap64 (x19_3 + 1)), t14_11, H', ⟨by have := HJ12.out; have := HJ54.out; have := HK3.out; omega⟩, ⟨RD HO_12⟩, ⟨RD HO_14⟩, ⟨RD HO_17⟩, ⟨by (with_reducible repeat (first | apply Kd.Zbj | apply Kd.Zbi | apply Kd.Zbm)); exact HO_372000.out⟩, ⟨by (with_reducible repeat (first | apply Kd.Zbj | apply Kd.Zbi | apply Kd.Zbm)); exact HO_372001.out⟩, ⟨by (with_reducible repeat (first | apply Kd.Zbj | apply Kd.Zbi | apply Kd.Zbm)); exact HO_372002.out⟩, ⟨by (with_reducible repeat (first | apply Kd.Zbj | apply Kd.Zbi | apply Kd.Zbm)); exact HO_372003.out⟩, ⟨by (with_reducible repeat (first | apply Kd.Zbj | apply Kd.Zbi | apply Kd.Zbm)); exact HO_372004.out⟩, ⟨by (with_reducible repeat (first | apply Kd.Zbj | apply Kd.Zbi | apply Kd.Zbm)); exact HO_372005.out⟩, ⟨by (with_reducible repeat (first | apply Kd.Zbj | apply Kd.Zbi | apply Kd.Zbm)); exact HO_372006.out⟩, ⟨by (with_reducible repeat (first | refine Zan ?_ _ | refine Zap ?_ | refine Zao ?_ _)); exact BK345.out⟩, ⟨by (with_reducible repeat (first | refine Zan ?_ _ | refine Zap ?_ | refine Zao ?_ _)); exact BK346.out⟩, ⟨by (with_reducible repeat (first | refine Zan ?_ _ | refine Zap ?_ | refine Zao ?_ _)); exact BK347.out⟩, ⟨by (with_reducible repeat (first | refine Zan ?_ _ | refine Zap ?_ | refine Zao ?_ _)); exact BK371.out⟩, ⟨by repeat (first | (with_reducible first | exact HB.out | apply Zau | apply Zaj | apply Zal | refine Zai ?_ GE345.out | refine Zai ?_ GE346.out | refine Zai ?_ GE347.out | refine Zai ?_ GE371.out) | exact HB.out)⟩⟩
          rw [if_pos c81] at H
          have c81b0 : (((Zby t396 x19_3).f0.f0) == a4_0 && (((Zby t396 x19_3).f0.f1) == a4_1)) = true := c81
          (try (have c81b1 : decide (((Zby t396 x19_3).f0.f0) = a4_0 && (((Zby t396 x19_3).f0.f1) == a4_1)) = true := by simpa using c81))
          (try (have c81b2 : (((Zby t396 x19_3).f0.f0) == a4_0 && (((Zby t396 x19_3).f0.f1) == a4_1)) = true := by simpa using c81))
          clear c81
          exact absurd ((Option.some.inj H).trans hrt_.out) (by decide)
         rw [if_pos c75] at H
         have c75b0 : decide (t404 < 0) = true := decide_eq_true c75
         clear c75
         exact absurd ((Option.some.inj H).trans hrt_.out) (by decide)
      subst c70
      have H1 : (some false) = some r := by rw [if_pos rfl] at H; exact H
      clear H
      have H := H1
      clear H1
      exact absurd ((Option.some.inj H).trans hrt_.out) (by decide)
   subst c51
   have H1 : (some false) = some r := by rw [if_pos rfl] at H; exact H
   clear H
   have H := H1
   clear H1
   exact absurd ((Option.some.inj H).trans hrt_.out) (by decide)
end Go.Proofs.Ytclgclcoblfddaa.P
