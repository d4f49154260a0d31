/- Printed by a program for this claim: functions of the program as plain functions, and that the machine computes them. -/
import Derived.Test.YtclgclcoblfddaaPx0
import Derived.Test.YtclgclcoblfddaaPShort
import Derived.Test.YtclgclcoblfddaaPx8
namespace Go.Proofs.Ytclgclcoblfddaa.P
open Go.RowKit Go.Proofs.YtclgclcoblfddaaW.PrintWords Go.Proofs.YtclgclcoblfddaaW.PrintLast Go.Proofs.YtclgclcoblfddaaW.PrintMore
attribute [local go_sem] Zeg Zee Zfg Zff Zdo Zdm Zef Zed
set_option linter.unusedVariables false
set_option linter.unusedSimpArgs false
theorem t9_4 {p : Prop} (h : p := by decide) : p := h
theorem t9_3 {p : Prop} (h : p := by kernel_rfl) : p := h
theorem t9_2 {p : Prop} (h : p := by first | rfl | (simp; done) | (simp [*]; done)) : p := h
theorem t9_1 {p : Prop} (h : p := by first | (with_reducible assumption) | assumption) : p := h
theorem t9_0 {p : Prop} (h : p := by (try simp only [List.map_toArray, List.map_cons, List.map_nil]); first | done | rfl | (simp only [List.length_drop, List.length_take]; rfl)) : p := h
def u9_0 : Array Bool := #[false, false, false, false, false, false, false, false, false, false, false, false, false, false, false]
def u9_1 : Array Bool := #[true, false, false, false, false, false, false, false, false, false, false, false, false, false, false]
def u9_2 : Array Bool := #[true, true, false, false, false, false, false, false, false, false, false, false, false, false, false]
def u9_3 : Array Bool := #[true, true, true, false, false, false, false, false, false, false, false, false, false, false, false]
def u9_4 : Array Bool := #[true, true, true, true, false, false, false, false, false, false, false, false, false, false, false]
def u9_5 : Array Bool := #[true, true, true, true, true, false, false, false, false, false, false, false, false, false, false]
def u9_6 : Array Bool := #[true, true, true, true, true, true, false, false, false, false, false, false, false, false, false]
def u9_7 : Array Bool := #[true, true, true, true, true, true, true, false, false, false, false, false, false, false, false]
def u9_8 : Array Bool := #[true, true, true, true, true, true, true, true, false, false, false, false, false, false, false]
def u9_9 : Array Bool := #[true, true, true, true, true, true, true, true, false, true, false, false, false, false, false]
def u9_10 : Array Bool := #[true, true, true, true, true, true, true, true, false, true, true, false, false, false, false]
def u9_11 : Array Bool := #[true, true, true, true, true, true, true, true, false, true, true, true, false, false, false]
def u9_12 : Array Bool := #[true, true, true, true, true, true, true, true, true, true, true, true, false, false, false]
def u9_13 : Array Bool := #[true, true, true, true, true, true, true, true, true, true, true, true, true, false, false]
def u9_14 : Array Bool := #[true, true, true, true, true, true, true, true, true, true, true, true, true, true, false]
def u9_15 : Array Bool := #[true, true, true, true, true, true, true, true, true, true, true, true, true, true, true]
def u9_16 : Array Bool := #[false, false, false, false, false, false, false, false, false, false, false, false, false, false, false, false]
def u9_17 : Array Bool := #[true, false, false, false, false, false, false, false, false, false, false, false, false, false, false, false]
def u9_18 : Array Bool := #[true, true, false, false, false, false, false, false, false, false, false, false, false, false, false, false]
def u9_19 : Array Bool := #[true, true, true, false, false, false, false, false, false, false, false, false, false, false, false, false]
def u9_20 : Array Bool := #[true, true, true, true, false, false, false, false, false, false, false, false, false, false, false, false]
def u9_21 : Array Bool := #[true, true, true, true, true, false, false, false, false, false, false, false, false, false, false, false]
def u9_22 : Array Bool := #[true, true, true, true, true, true, false, false, false, false, false, false, false, false, false, false]
def u9_23 : Array Bool := #[true, true, true, true, true, true, true, false, false, false, false, false, false, false, false, false]
def u9_24 : Array Bool := #[true, true, true, true, true, true, true, true, false, false, false, false, false, false, false, false]
def u9_25 : Array Bool := #[true, true, true, true, true, true, true, true, false, true, false, false, false, false, false, false]
def u9_26 : Array Bool := #[true, true, true, true, true, true, true, true, false, true, true, false, false, false, false, false]
def u9_27 : Array Bool := #[true, true, true, true, true, true, true, true, false, true, true, true, false, false, false, false]
def u9_28 : Array Bool := #[true, true, true, true, true, true, true, true, true, true, true, true, false, false, false, false]
def u9_29 : Array Bool := #[true, true, true, true, true, true, true, true, true, true, true, true, true, false, false, false]
def u9_30 : Array Bool := #[true, true, true, true, true, true, true, true, true, true, true, true, true, true, false, false]
def u9_31 : Array Bool := #[true, true, true, true, true, true, true, true, true, true, true, true, true, true, true, false]
def u9_32 : Array Bool := #[true, true, true, true, true, true, true, true, true, true, true, true, true, true, true, true]
def u9_33 : Array Bool := #[false, false, false, false, false, false, false, false, false, false, false, false]
def u9_34 : Array Bool := #[true, false, false, false, false, false, false, false, false, false, false, false]
def u9_35 : Array Bool := #[true, true, false, false, false, false, false, false, false, false, false, false]
def u9_36 : Array Bool := #[true, true, true, false, false, false, false, false, false, false, false, false]
def u9_37 : Array Bool := #[true, true, true, true, false, false, false, false, false, false, false, false]
def u9_38 : Array Bool := #[true, true, true, true, true, false, false, false, false, false, false, false]
def u9_39 : Array Bool := #[true, true, true, true, true, true, false, false, false, false, false, false]
def u9_40 : Array Bool := #[true, true, true, true, true, true, false, false, false, true, false, false]
def u9_41 : Array Bool := #[true, true, true, true, true, true, true, false, false, true, false, false]
def u9_42 : Array Bool := #[true, true, true, true, true, true, true, true, false, true, false, false]
def u9_43 : Array Bool := #[true, true, true, true, true, true, true, true, true, true, false, false]
def u9_44 : Array Bool := #[true, true, true, true, true, true, true, true, true, true, true, false]
def u9_45 : Array Bool := #[true, true, true, true, true, true, true, true, true, true, true, true]
def u9_46 : Array Bool := #[true, true, true, true, true, true, true, true, true, false, false, false, false, false, false]
def u9_47 : Array Bool := #[true, true, true, true, true, true, true, true, true, true, false, false, false, false, false]
def u9_48 : Array Bool := #[true, true, true, true, true, true, true, true, true, true, true, false, false, false, false]
def u9_49 : Array Bool := #[true, true, true, true, true, true, true, true, true, false, false, false, false, false, false, false]
def u9_50 : Array Bool := #[true, true, true, true, true, true, true, true, true, true, false, false, false, false, false, false]
def u9_51 : Array Bool := #[true, true, true, true, true, true, true, true, true, true, true, false, false, false, false, false]
private theorem ownlen_ (A : Option Addr) (n m c : Nat) : (Value.slice A n c).ownBlock = (Value.slice A m c).ownBlock := by cases A <;> rfl
mutual
def Zab.l0 : Nat → List (S44) → List (S44) → Int → Option ((List (S44)))
 | 0, _, _, _ => none
 | k + 1, x0, x3, x4 => if x4 < (x0.length : Int) then (Zab.l1 k x0 x3 x4 0) else (some x3)
def Zab.l1 : Nat → List (S44) → List (S44) → Int → Int → Option ((List (S44)))
 | 0, _, _, _, _ => none
 | k + 1, x0, x3, x4, x5 => if x5 < (x3.length : Int) then (if 0 ≤ x5 then (if 0 ≤ x4 then (if x4 < (x0.length : Int) then ((Zbs.f ((Zaf x3 x5).f0) ((Zaf x3 x5).f1) ((Zaf x3 x5).f2) ((Zaf x0 x4).f0) ((Zaf x0 x4).f1) ((Zaf x0 x4).f2)).bind fun t208 => (if t208 = true then (Zab.l1 k x0 x3 x4 (wrap64 (x5 + 1))) else ((Zbs.f ((Zaf x0 x4).f0) ((Zaf x0 x4).f1) ((Zaf x0 x4).f2) ((Zaf x3 x5).f0) ((Zaf x3 x5).f1) ((Zaf x3 x5).f2)).bind fun t211 => (if t211 = true then (if x5 ≤ (x3.length : Int) then ((some (x3.drop (x5 : Int).toNat : List (S44))).bind fun y212 => (if ([] : List (S44)).length + y212.length < 8796093022208 then ((some (([] : List (S44)) ++ y212 : List (S44))).bind fun y216 => ((some (x3.take (x5 : Int).toNat : List (S44))).bind fun y219 => (if y219.length < 8796093022208 then ((some (y219 ++ [(⟨(Zaf x0 x4).f0, (Zaf x0 x4).f1, (Zaf x0 x4).f2⟩ : S44)] : List (S44))).bind fun y223 => (if y223.length + y216.length < 8796093022208 then (Zab.l0 k x0 (y223 ++ y216) (wrap64 (x4 + 1))) else (none))) else (none)))) else (none))) else (none)) else (if (Zaf x3 x5).f2 = true then (Zab.l0 k x0 (x3.set (x5 : Int).toNat (⟨(Zaf x3 x5).f0, (Zaf x3 x5).f1, true⟩ : S44)) (wrap64 (x4 + 1))) else (Zab.l0 k x0 (x3.set (x5 : Int).toNat (⟨(Zaf x3 x5).f0, (Zaf x3 x5).f1, (Zaf x0 x4).f2⟩ : S44)) (wrap64 (x4 + 1)))))))) else (none)) else (none)) else (none)) else (if 0 ≤ x5 then (if x5 ≤ (x3.length : Int) then ((some (x3.drop (x5 : Int).toNat : List (S44))).bind fun y233 => (if ([] : List (S44)).length + y233.length < 8796093022208 then ((some (([] : List (S44)) ++ y233 : List (S44))).bind fun y237 => ((some (x3.take (x5 : Int).toNat : List (S44))).bind fun y240 => (if 0 ≤ x4 then (if x4 < (x0.length : Int) then (if y240.length < 8796093022208 then ((some (y240 ++ [(⟨(Zaf x0 x4).f0, (Zaf x0 x4).f1, (Zaf x0 x4).f2⟩ : S44)] : List (S44))).bind fun y244 => (if y244.length + y237.length < 8796093022208 then (Zab.l0 k x0 (y244 ++ y237) (wrap64 (x4 + 1))) else (none))) else (none)) else (none)) else (none)))) else (none))) else (none)) else (none))
end
def Zab.f (k : Nat) (l0 : List (S44)) : Option ((List (S44))) := Zab.l0 k l0 ([] : List (S44)) 0
def Zab.T6 : Bool × List (List Nat × List Nat) := (true, [([], []), ([], []), ([1], [1]), ([0, 2], [0, 2]), ([3], [3]), ([4], [4]), ([4], [4]), ([5, 6, 4], [4, 5, 6]), ([7, 4], [4, 7]), ([4], [4]), ([4], [4]), ([9, 10, 4], [4, 9, 10]), ([11, 4], [4, 11]), ([8, 12, 4, 4], [4, 8, 12]), ([4, 13], [4, 13])])
def Zab.B6 : List Nat := [0, 0, 2, 7, 15, 31, 31, 127, 255, 31, 31, 1567, 3615, 8191, 16383]
theorem Zab.tab6 : rtab .any (opsOf Try.f51 6) = Zab.T6 := by kernel_rfl
theorem Zab.bits6 : Zeo Zab.T6.2 Zab.B6 = true := by kernel_rfl
def Zab.T8 : Bool × List (List Nat × List Nat) := (true, [([], []), ([], []), ([1], [1]), ([0, 2], [0, 2]), ([3], [3]), ([4], [4]), ([4], [4]), ([5, 6, 4], [4, 5, 6]), ([7, 4], [4, 7]), ([4], [4]), ([4], [4]), ([9, 10, 4], [4, 9, 10]), ([11, 4], [4, 11]), ([8, 12, 4, 4], [4, 8, 12]), ([13, 4], [4, 13]), ([4, 14], [4, 14])])
def Zab.B8 : List Nat := [0, 0, 2, 7, 15, 31, 31, 127, 255, 31, 31, 1567, 3615, 8191, 16383, 32767]
theorem Zab.tab8 : rtab .any (opsOf Try.f51 8) = Zab.T8 := by kernel_rfl
theorem Zab.bits8 : Zeo Zab.T8.2 Zab.B8 = true := by kernel_rfl
def Zab.T12 : Bool × List (List Nat × List Nat) := (true, [([], []), ([], []), ([0, 1], [0, 1]), ([], []), ([], []), ([3, 4], [3, 4]), ([5], [5]), ([6], [6]), ([2, 7], [2, 7]), ([], []), ([8, 9, 8], [8, 9]), ([10, 10, 0, 1, 2, 3, 4, 5, 6, 7, 8, 9, 10], [0, 10])])
def Zab.B12 : List Nat := [0, 0, 3, 0, 0, 24, 56, 120, 255, 0, 1023, 2047]
theorem Zab.tab12 : rtab .any (opsOf Try.f51 12) = Zab.T12 := by kernel_rfl
theorem Zab.bits12 : Zeo Zab.T12.2 Zab.B12 = true := by kernel_rfl
set_option maxHeartbeats 8000000 in
set_option maxRecDepth 100000 in
theorem Zab.calls (k : Nat) (A0 : Option Addr) (c0 : Nat) (l0 : List (S44)) (r : List (S44)) (w : World) (hr0 : Kd.C k44 w A0 l0.length l0) (hc0 : l0.length ≤ c0) (h : Zab.f k l0 = some r) :
  Calls Try.prog 51 #[.slice A0 l0.length c0] w fun e w' => ∃ v0_ : Value, e = .returned (v0_) ∧ Kd.R k44 44 w' w.heap.size (fun _ => True) v0_ r ∧ Below w.heap.size w w' := by
 have hu44 := Try.underlying44
 have HR0 := Za.mk hr0
 have HC0 := Za.mk hc0
 clear hr0 hc0
 have HB := Za.mk (Below.refl w.heap.size w)
 have H : (Zab.l0 k l0 ([] : List (S44)) 0) = some r := h
 clear h
 have H' := Za.mk H
 clear H
 go_enter Try.func51, Try.ntmps51
 go_wp2
 go_loopg [3, 4] k (fun kq v3 v4 w' => ∃ (x3_1 : List (S44)) (x4_1 : Int), v4 = .int .i64 x4_1 ∧ Za (Zab.l0 kq l0 x3_1 x4_1 = some r) ∧ Za (kq ≤ k) ∧ Za (Kd.R k44 44 w' w.heap.size (fun _ => True) v3 x3_1) ∧ Za (Below w.heap.size w w'))
 case atStart => exact ⟨(([] : List (S44))), (0), t9_2, H', ⟨Nat.le_refl _⟩, ⟨by first | exact Kd.R_nil _ _ _ _ _ | exact Kd.N_nil _ _ _ _ _ | exact Kd.V_nil _ _ _ _ _ | exact Kd.Q_nil _ _ _ _ _ | exact Kd.S_nil _ _ _ _ _⟩, ⟨BD HB⟩⟩
 case round =>
  clear H'
  obtain ⟨x3_1, x4_1, rfl, HA, HK1, HO_3, HB⟩ := hrel
  cases gk with
  | zero => exact absurd HA.out (by simp [Zab.l0])
  | succ k1 =>
   have H := HA.out
   clear HA
   simp only [Zab.l0] at H
   by_cases c2 : x4_1 < (l0.length : Int)
   case neg =>
    rw [if_neg c2] at H
    have c2b0 : decide (x4_1 < (l0.length : Int)) = false := decide_eq_false c2
    clear c2
    obtain rfl := Option.some.inj H
    go_wp2
    go_ret
    exact ⟨_, by first | rfl | (simp [Zbe, Zbd] <;> rfl) | (simp [*, Zbe, Zbd] <;> rfl), RD HO_3, BD HB⟩
   rw [if_pos c2] at H
   have c2b0 : decide (x4_1 < (l0.length : Int)) = true := decide_eq_true c2
   clear c2
   have H' := Za.mk H
   clear H
   go_wp2
   go_loopg [5] k1 (fun kq v5 w' => ∃ (x5_2 : Int), v5 = .int .i64 x5_2 ∧ Za (Zab.l1 kq l0 x3_1 x4_1 x5_2 = some r) ∧ Za (kq ≤ k1) ∧ Za (Kd.R k44 44 w' w.heap.size (fun _ => True) u3 x3_1) ∧ Za (Below w.heap.size w w'))
   case atStart => exact ⟨(0), t9_2, H', ⟨Nat.le_refl _⟩, ⟨RD HO_3⟩, ⟨BD HB⟩⟩
   case round =>
    clear H'
    try clear c2
    try clear c2b0
    try clear p2
    obtain ⟨x5_2, rfl, HA, HK2, HO_3, HB⟩ := hrel
    cases gk with
    | zero => exact absurd HA.out (by simp [Zab.l1])
    | succ k2 =>
     have H := HA.out
     clear HA
     simp only [Zab.l1] at H
     by_cases c3 : x5_2 < (x3_1.length : Int)
     case neg =>
      rw [if_neg c3] at H
      have c3b0 : decide (x5_2 < (x3_1.length : Int)) = false := decide_eq_false c3
      clear c3
      by_cases c50 : 0 ≤ x5_2
      case neg =>
       rw [if_neg c50] at H
       exact absurd H (by simp)
      rw [if_pos c50] at H
      have c50b0 := eq_true c50
      have c50b1 : decide (0 ≤ x5_2) = true := decide_eq_true c50
      clear c50
      by_cases c51 : x5_2 ≤ (x3_1.length : Int)
      case neg =>
       rw [if_neg c51] at H
       exact absurd H (by simp)
      rw [if_pos c51] at H
      have c51b0 := eq_true c51
      have c51b1 : decide (x5_2 ≤ (x3_1.length : Int)) = true := decide_eq_true c51
      clear c51
      obtain ⟨y233, hy233⟩ : ∃ y_ : List (S44), y_ = (x3_1.drop (x5_2 : Int).toNat) := ⟨_, rfl⟩
      replace H : (if ([] : List (S44)).length + y233.length < 8796093022208 then ((some (([] : List (S44)) ++ y233 : List (S44))).bind fun y237 => ((some (x3_1.take (x5_2 : Int).toNat : List (S44))).bind fun y240 => (if 0 ≤ x4_1 then (if x4_1 < (l0.length : Int) then (if y240.length < 8796093022208 then ((some (y240 ++ [(⟨(Zaf l0 x4_1).f0, (Zaf l0 x4_1).f1, (Zaf l0 x4_1).f2⟩ : S44)] : List (S44))).bind fun y244 => (if y244.length + y237.length < 8796093022208 then (Zab.l0 k2 l0 (y244 ++ y237) (wrap64 (x4_1 + 1))) else (none))) else (none)) else (none)) else (none)))) else (none)) = some r := by first | (rw [hy233]; with_reducible exact H) | (have H2_ := (Option.bind_some _ _).symm.trans H; rw [hy233]; with_reducible exact H2_) | (have H2_ := (Option.bind_some _ _).symm.trans H; with_reducible exact H2_) | with_reducible exact H | (rw [hy233]; exact H) | exact H
      have Ny233 := Za.mk hy233
      clear hy233
      by_cases c52 : ([] : List (S44)).length + y233.length < 8796093022208
      case neg =>
       rw [if_neg c52] at H
       exact absurd H (by simp)
      rw [if_pos c52] at H
      have LMc52 := Za.mk c52
      clear c52
      obtain ⟨y237, hy237⟩ : ∃ y_ : List (S44), y_ = (([] : List (S44)) ++ y233) := ⟨_, rfl⟩
      replace H : ((some (x3_1.take (x5_2 : Int).toNat : List (S44))).bind fun y240 => (if 0 ≤ x4_1 then (if x4_1 < (l0.length : Int) then (if y240.length < 8796093022208 then ((some (y240 ++ [(⟨(Zaf l0 x4_1).f0, (Zaf l0 x4_1).f1, (Zaf l0 x4_1).f2⟩ : S44)] : List (S44))).bind fun y244 => (if y244.length + y237.length < 8796093022208 then (Zab.l0 k2 l0 (y244 ++ y237) (wrap64 (x4_1 + 1))) else (none))) else (none)) else (none)) else (none))) = some r := by first | (rw [hy237]; with_reducible exact H) | (have H2_ := (Option.bind_some _ _).symm.trans H; rw [hy237]; with_reducible exact H2_) | (have H2_ := (Option.bind_some _ _).symm.trans H; with_reducible exact H2_) | with_reducible exact H | (rw [hy237]; exact H) | exact H
      have Ny237 := Za.mk hy237
      clear hy237
      have c53b0 := eq_true (of_decide_eq_true t9_1 : x5_2 ≤ (x3_1.length : Int))
      obtain ⟨y240, hy240⟩ : ∃ y_ : List (S44), y_ = (x3_1.take (x5_2 : Int).toNat) := ⟨_, rfl⟩
      replace H : (if 0 ≤ x4_1 then (if x4_1 < (l0.length : Int) then (if y240.length < 8796093022208 then ((some (y240 ++ [(⟨(Zaf l0 x4_1).f0, (Zaf l0 x4_1).f1, (Zaf l0 x4_1).f2⟩ : S44)] : List (S44))).bind fun y244 => (if y244.length + y237.length < 8796093022208 then (Zab.l0 k2 l0 (y244 ++ y237) (wrap64 (x4_1 + 1))) else (none))) else (none)) else (none)) else (none)) = some r := by first | (rw [hy240]; with_reducible exact H) | (have H2_ := (Option.bind_some _ _).symm.trans H; rw [hy240]; with_reducible exact H2_) | (have H2_ := (Option.bind_some _ _).symm.trans H; with_reducible exact H2_) | with_reducible exact H | (rw [hy240]; exact H) | exact H
      have Ny240 := Za.mk hy240
      clear hy240
      by_cases c54 : 0 ≤ x4_1
      case neg =>
       rw [if_neg c54] at H
       exact absurd H (by simp)
      rw [if_pos c54] at H
      have c54b0 : decide (0 ≤ x4_1) = true := decide_eq_true c54
      clear c54
      by_cases c55 : x4_1 < (l0.length : Int)
      case neg =>
       rw [if_neg c55] at H
       exact absurd H (by simp)
      rw [if_pos c55] at H
      have c55b0 : decide (x4_1 < (l0.length : Int)) = true := decide_eq_true c55
      clear c55
      by_cases c56 : y240.length < 8796093022208
      case neg =>
       rw [if_neg c56] at H
       exact absurd H (by simp)
      rw [if_pos c56] at H
      have LMc56 := Za.mk c56
      clear c56
      obtain ⟨y244, hy244⟩ : ∃ y_ : List (S44), y_ = (y240 ++ [(⟨(Zaf l0 x4_1).f0, (Zaf l0 x4_1).f1, (Zaf l0 x4_1).f2⟩ : S44)]) := ⟨_, rfl⟩
      replace H : (if y244.length + y237.length < 8796093022208 then (Zab.l0 k2 l0 (y244 ++ y237) (wrap64 (x4_1 + 1))) else (none)) = some r := by first | (rw [hy244]; with_reducible exact H) | (have H2_ := (Option.bind_some _ _).symm.trans H; rw [hy244]; with_reducible exact H2_) | (have H2_ := (Option.bind_some _ _).symm.trans H; with_reducible exact H2_) | with_reducible exact H | (rw [hy244]; exact H) | exact H
      have Ny244 := Za.mk hy244
      clear hy244
      by_cases c57 : y244.length + y237.length < 8796093022208
      case neg =>
       rw [if_neg c57] at H
       exact absurd H (by simp)
      rw [if_pos c57] at H
      have LMc57 := Za.mk c57
      clear c57
      obtain ⟨y247, hy247⟩ : ∃ y_ : List (S44), y_ = (y244 ++ y237) := ⟨_, rfl⟩
      replace H : (Zab.l0 k2 l0 y247 (wrap64 (x4_1 + 1))) = some r := by first | (rw [hy247]; with_reducible exact H) | (have H2_ := (Option.bind_some _ _).symm.trans H; rw [hy247]; with_reducible exact H2_) | (have H2_ := (Option.bind_some _ _).symm.trans H; with_reducible exact H2_) | with_reducible exact H | (rw [hy247]; exact H) | exact H
      have Ny247 := Za.mk hy247
      clear hy247
      have H' := Za.mk H
      clear H
      try go_wp2
      have n0_ := Za.mk (Kd.Zbw HO_3.out)
      have n1_ := Za.mk (Zal HB.out)
      clear HO_3
      clear HB
      have HO_3 := n0_
      have HB := n1_
      clear n0_ n1_
      obtain ⟨Ao59, co59, eo59⟩ := Kd.Zbp HO_3.out
      (first | subst eo59 | (injection eo59 with f1_ f2_ f3_; have f4_ := f1_.symm; have f5_ := f3_.symm; clear f1_ f2_ f3_; subst f4_; subst f5_))
      refine Zek (n := 15) (S := fun w' => True) (ds := []) u9_0 t9_3 rfl rfl trivial (fun hHeld => ?_); refine Zcp Zab.tab6 Zab.bits6 (fun HT_ HW_ => ?_)
      generalize wr.drew = w58 at HO_3 HB hHeld ⊢
      refine Zbc (i := 0) (N := some 13) (v := ?_) (a' := ?_) u9_1 rfl rfl (Zaw HT_.out t9_3) (fun _ _ _ h => h) (Or.inl ⟨by rfl, ?_⟩) ?_ ?_
      rotate_left
      ·intro w'
       go_simp
       with_reducible rfl
      rotate_left
      ·simp only [Act.put, s0_, s1_, s2_, Zax, Zay]
       rfl
      refine Zbc (i := 1) (N := some 14) (v := ?_) (a' := ?_) u9_2 rfl rfl (Zaw HT_.out t9_3) (fun _ _ _ h => h) (Or.inl ⟨by rfl, ?_⟩) ?_ ?_
      rotate_left
      ·intro w'
       go_simp
       with_reducible rfl
      rotate_left
      ·simp only [Act.put, s0_, s1_, s2_, Zax, Zay]
       rfl
      refine Zbc (i := 2) (N := some 15) (v := ?_) (a' := ?_) u9_3 rfl rfl (Zaw HT_.out t9_3) (fun _ _ _ h => h) (Or.inl ⟨by rfl, ?_⟩) ?_ ?_
      rotate_left
      ·intro w'
       go_simp
       with_reducible rfl
      rotate_left
      ·simp only [Act.put, s0_, s1_, s2_, Zax, Zay]
       rfl
      refine Zbc (i := 3) (N := some 16) (v := ?_) (a' := ?_) u9_4 rfl rfl (Zaw HT_.out t9_3) (fun _ _ _ h => h) (Or.inl ⟨by rfl, ?_⟩) ?_ ?_
      rotate_left
      ·intro w'
       go_simp
       with_reducible rfl
      rotate_left
      ·simp only [Act.put, s0_, s1_, s2_, Zax, Zay]
       rfl
      refine Zbc (i := 4) (N := some 17) (v := ?_) (a' := ?_) u9_5 rfl rfl (Zaw HT_.out t9_3) (fun _ _ _ h => h) (Or.inl ⟨by rfl, ?_⟩) ?_ ?_
      rotate_left
      ·intro w'
       go_simp
       with_reducible rfl
      rotate_left
      ·simp only [Act.put, s0_, s1_, s2_, Zax, Zay]
       rfl
      refine Zbc (i := 5) (N := some 18) (v := undef) (a' := ?_) u9_6 rfl rfl (Zaw HT_.out t9_3) (fun _ _ _ h => h) (Or.inr ⟨by rfl, rfl⟩) ?_ ?_
      rotate_left
      ·simp only [Act.put, s0_, s1_, s2_, Zax, Zay]
       rfl
      refine Zbc (i := 6) (N := some 19) (v := undef) (a' := ?_) u9_7 rfl rfl (Zaw HT_.out t9_3) (fun _ _ _ h => h) (Or.inr ⟨by rfl, rfl⟩) ?_ ?_
      rotate_left
      ·simp only [Act.put, s0_, s1_, s2_, Zax, Zay]
       rfl
      refine Zbc (i := 7) (N := some 20) (v := undef) (a' := ?_) u9_8 rfl rfl (Zaw HT_.out t9_3) (fun _ _ _ h => h) (Or.inr ⟨by rfl, rfl⟩) ?_ ?_
      rotate_left
      ·simp only [Act.put, s0_, s1_, s2_, Zax, Zay]
       rfl
      refine Zbc (i := 8) (N := some 21) (v := undef) (a' := ?_) u9_46 rfl rfl (Zaw HT_.out t9_3) (fun _ _ _ h => h) (Or.inr ⟨by rfl, rfl⟩) ?_ ?_
      rotate_left
      ·simp only [Act.put, s0_, s1_, s2_, Zax, Zay]
       rfl
      refine Zbc (i := 9) (N := some 22) (v := undef) (a' := ?_) u9_47 rfl rfl (Zaw HT_.out t9_3) (fun _ _ _ h => h) (Or.inr ⟨by rfl, rfl⟩) ?_ ?_
      rotate_left
      ·simp only [Act.put, s0_, s1_, s2_, Zax, Zay]
       rfl
      refine Zbc (i := 10) (N := some 23) (v := undef) (a' := ?_) u9_48 rfl rfl (Zaw HT_.out t9_3) (fun _ _ _ h => h) (Or.inr ⟨by rfl, rfl⟩) ?_ ?_
      rotate_left
      ·simp only [Act.put, s0_, s1_, s2_, Zax, Zay]
       rfl
      refine Zbc (i := 11) (N := some 24) (v := undef) (a' := ?_) u9_12 rfl rfl (Zaw HT_.out t9_3) (fun _ _ _ h => h) (Or.inr ⟨by rfl, rfl⟩) ?_ ?_
      rotate_left
      ·simp only [Act.put, s0_, s1_, s2_, Zax, Zay]
       rfl
      refine Zbc (i := 12) (N := some 25) (v := undef) (a' := ?_) u9_13 rfl rfl (Zaw HT_.out t9_3) (fun _ _ _ h => h) (Or.inr ⟨by rfl, rfl⟩) ?_ ?_
      rotate_left
      ·simp only [Act.put, s0_, s1_, s2_, Zax, Zay]
       rfl
      refine Zbc (i := 13) (N := some 26) (v := undef) (a' := ?_) u9_14 rfl rfl (Zaw HT_.out t9_3) (fun _ _ _ h => h) (Or.inr ⟨by rfl, rfl⟩) ?_ ?_
      rotate_left
      ·simp only [Act.put, s0_, s1_, s2_, Zax, Zay]
       rfl
      refine Zbc (i := 14) (N := some 27) (v := ?_) (a' := ?_) u9_15 rfl rfl (Zaw HT_.out t9_3) (fun _ _ _ h => h) (Or.inl ⟨by rfl, ?_⟩) ?_ ?_
      rotate_left
      ·intro w'
       go_simp
       with_reducible rfl
      rotate_left
      ·simp only [Act.put, s0_, s1_, s2_, Zax, Zay]
       rfl
      refine done_ (Zdj HT_.out t9_3) ?_
      try go_wp2
      have n0_ := Za.mk (Kd.Zbw HO_3.out)
      have n1_ := Za.mk (Zal HB.out)
      clear HO_3
      clear HB
      have HO_3 := n0_
      have HB := n1_
      clear n0_ n1_
      refine Zek (n := 16) (S := fun w' => True) (ds := []) u9_16 t9_3 rfl rfl trivial (fun hHeld => ?_); refine Zcp Zab.tab8 Zab.bits8 (fun HT_ HW_ => ?_)
      generalize w58.drew = w60 at HO_3 HB hHeld ⊢
      refine Zbc (i := 0) (N := some 30) (v := ?_) (a' := ?_) u9_17 rfl rfl (Zaw HT_.out t9_3) (fun _ _ _ h => h) (Or.inl ⟨by rfl, ?_⟩) ?_ ?_
      rotate_left
      ·intro w'
       go_simp
       with_reducible rfl
      rotate_left
      ·simp only [Act.put, s0_, s1_, s2_, Zax, Zay]
       rfl
      refine Zbc (i := 1) (N := some 31) (v := ?_) (a' := ?_) u9_18 rfl rfl (Zaw HT_.out t9_3) (fun _ _ _ h => h) (Or.inl ⟨by rfl, ?_⟩) ?_ ?_
      rotate_left
      ·intro w'
       go_simp
       with_reducible rfl
      rotate_left
      ·simp only [Act.put, s0_, s1_, s2_, Zax, Zay]
       rfl
      refine Zbc (i := 2) (N := some 32) (v := ?_) (a' := ?_) u9_19 rfl rfl (Zaw HT_.out t9_3) (fun _ _ _ h => h) (Or.inl ⟨by rfl, ?_⟩) ?_ ?_
      rotate_left
      ·intro w'
       go_simp
       with_reducible rfl
      rotate_left
      ·simp only [Act.put, s0_, s1_, s2_, Zax, Zay]
       rfl
      refine Zbc (i := 3) (N := some 33) (v := ?_) (a' := ?_) u9_20 rfl rfl (Zaw HT_.out t9_3) (fun _ _ _ h => h) (Or.inl ⟨by rfl, ?_⟩) ?_ ?_
      rotate_left
      ·intro w'
       go_simp
       with_reducible rfl
      rotate_left
      ·simp only [Act.put, s0_, s1_, s2_, Zax, Zay]
       rfl
      refine Zbc (i := 4) (N := some 34) (v := ?_) (a' := ?_) u9_21 rfl rfl (Zaw HT_.out t9_3) (fun _ _ _ h => h) (Or.inl ⟨by rfl, ?_⟩) ?_ ?_
      rotate_left
      ·intro w'
       go_simp
       with_reducible rfl
      rotate_left
      ·simp only [Act.put, s0_, s1_, s2_, Zax, Zay]
       rfl
      refine Zbc (i := 5) (N := some 35) (v := undef) (a' := ?_) u9_22 rfl rfl (Zaw HT_.out t9_3) (fun _ _ _ h => h) (Or.inr ⟨by rfl, rfl⟩) ?_ ?_
      rotate_left
      ·simp only [Act.put, s0_, s1_, s2_, Zax, Zay]
       rfl
      refine Zbc (i := 6) (N := some 36) (v := undef) (a' := ?_) u9_23 rfl rfl (Zaw HT_.out t9_3) (fun _ _ _ h => h) (Or.inr ⟨by rfl, rfl⟩) ?_ ?_
      rotate_left
      ·simp only [Act.put, s0_, s1_, s2_, Zax, Zay]
       rfl
      refine Zbc (i := 7) (N := some 37) (v := undef) (a' := ?_) u9_24 rfl rfl (Zaw HT_.out t9_3) (fun _ _ _ h => h) (Or.inr ⟨by rfl, rfl⟩) ?_ ?_
      rotate_left
      ·simp only [Act.put, s0_, s1_, s2_, Zax, Zay]
       rfl
      refine Zbc (i := 8) (N := some 38) (v := undef) (a' := ?_) u9_49 rfl rfl (Zaw HT_.out t9_3) (fun _ _ _ h => h) (Or.inr ⟨by rfl, rfl⟩) ?_ ?_
      rotate_left
      ·simp only [Act.put, s0_, s1_, s2_, Zax, Zay]
       rfl
      refine Zbc (i := 9) (N := some 39) (v := undef) (a' := ?_) u9_50 rfl rfl (Zaw HT_.out t9_3) (fun _ _ _ h => h) (Or.inr ⟨by rfl, rfl⟩) ?_ ?_
      rotate_left
      ·simp only [Act.put, s0_, s1_, s2_, Zax, Zay]
       rfl
      refine Zbc (i := 10) (N := some 40) (v := undef) (a' := ?_) u9_51 rfl rfl (Zaw HT_.out t9_3) (fun _ _ _ h => h) (Or.inr ⟨by rfl, rfl⟩) ?_ ?_
      rotate_left
      ·simp only [Act.put, s0_, s1_, s2_, Zax, Zay]
       rfl
      refine Zbc (i := 11) (N := some 41) (v := undef) (a' := ?_) u9_28 rfl rfl (Zaw HT_.out t9_3) (fun _ _ _ h => h) (Or.inr ⟨by rfl, rfl⟩) ?_ ?_
      rotate_left
      ·simp only [Act.put, s0_, s1_, s2_, Zax, Zay]
       rfl
      refine Zbc (i := 12) (N := some 42) (v := undef) (a' := ?_) u9_29 rfl rfl (Zaw HT_.out t9_3) (fun _ _ _ h => h) (Or.inr ⟨by rfl, rfl⟩) ?_ ?_
      rotate_left
      ·simp only [Act.put, s0_, s1_, s2_, Zax, Zay]
       rfl
      refine Zbc (i := 13) (N := some 43) (v := undef) (a' := ?_) u9_30 rfl rfl (Zaw HT_.out t9_3) (fun _ _ _ h => h) (Or.inr ⟨by rfl, rfl⟩) ?_ ?_
      rotate_left
      ·simp only [Act.put, s0_, s1_, s2_, Zax, Zay]
       rfl
      refine Zbc (i := 14) (N := some 44) (v := undef) (a' := ?_) u9_31 rfl rfl (Zaw HT_.out t9_3) (fun _ _ _ h => h) (Or.inr ⟨by rfl, rfl⟩) ?_ ?_
      rotate_left
      ·simp only [Act.put, s0_, s1_, s2_, Zax, Zay]
       rfl
      refine Zbc (i := 15) (N := some 45) (v := ?_) (a' := ?_) u9_32 rfl rfl (Zaw HT_.out t9_3) (fun _ _ _ h => h) (Or.inl ⟨by rfl, ?_⟩) ?_ ?_
      rotate_left
      ·intro w'
       go_simp
       with_reducible rfl
      rotate_left
      ·simp only [Act.put, s0_, s1_, s2_, Zax, Zay]
       rfl
      refine done_ (Zdj HT_.out t9_3) ?_
      have q61 : (x5_2 : Int) ≤ ((x3_1.length : Int) : Int) := of_decide_eq_true t9_1
      obtain ⟨i061, hi061, _, hsz61, _⟩ := info_parts info44
      have hroom61 : x3_1.length ≤ co59 := (Kd.Zb HO_3.out).2.1
      have hC61 : Kd.C k44 _ Ao59 x3_1.length x3_1 := (Kd.Zb HO_3.out).2.2
      have q061 : (0 : Int) ≤ (x5_2 : Int) := of_decide_eq_true t9_1
      have hcut61 := cut_from (P := Try.prog) 40 44 .i64 Try.underlying40 hi061 3 hsz61 Ao59 x3_1.length co59 x5_2 q061 q61
      have hr61 := Kd.C_drop (m := (x5_2 : Int).toNat) (c := co59) hC61 (by omega) hroom61
      obtain ⟨A61, hA61⟩ : ∃ A1, A1 = (if co59 = (x5_2 : Int).toNat then Ao59 else (Ao59 : Option Addr).map (·.add ((x5_2 : Int).toNat * 3))) := ⟨_, rfl⟩
      obtain ⟨c61, hc61⟩ : ∃ c1, c1 = co59 - (x5_2 : Int).toNat := ⟨_, rfl⟩
      have hy61 : y233.length = x3_1.length - (x5_2 : Int).toNat := (by rw [Ny233.out, List.length_drop] <;> omega)
      rw [show (x3_1).drop (x5_2 : Int).toNat = y233 from Ny233.out.symm] at hr61
      replace hr61 : Kd.C k44 _ A61 y233.length y233 := (by rw [hA61]; exact hr61)
      rw [← hy61, ← hA61, ← hc61] at hcut61
      have HR236 := Za.mk hr61
      have HC236 := Za.mk (show y233.length ≤ c61 from by rw [hy61, hc61]; exact Nat.sub_le_sub_right hroom61 _)
      clear hr61 hC61 hroom61 hi061 hsz61 hc61
      have KY61 := Za.mk hy61
      have KA61 := Za.mk hA61
      clear hy61 hA61
      have KL61 := Za.mk (show (x5_2 : Int).toNat ≤ x3_1.length from by omega)
      replace q61 := eq_true q61
      try go_wp2_with (first | ((with_reducible refine Zdl (b := .append) (xs := #[.tmp 62, .tmp 65]) rfl ?_); at_builtin; refine Kd.R_append_rows k44 (w0 := w) w.heap.size rfl (.tmp 62) (.tmp 65) 40 44 (.agg #[(.int .i64 0), (.int .u8 0), (.bool false)]) 16 rfl Try.underlying40 info44 rfl t9_4 (by omega) (.slice none 0 0) ([] : List (S44)) y233 _ _ _ (fun k_ => some k_ ≠ (.slice Ao59 x3_1.length co59 : Value).ownBlock) (fun _ => False) rfl rfl ?aO ?aR (fun _ _ h => h) (fun _ h => h.elim) ?aF ?aB ?aS ?aL ?_; (case aR => repeat (first | exact (by repeat (first | (with_reducible exact HR236.out) | (with_reducible refine Kd.Zco ?_ _) | (with_reducible refine Kd.Zcn ?_ _) | (with_reducible refine Kd.Zd ?_) | exact HR236.out)) | (with_reducible refine Kd.Zco ?_ _) | (with_reducible refine Kd.Zcn ?_ _) | (with_reducible refine Kd.Zd ?_))); (case aB => exact (BD HB)); (case aF => exact (fun k_ hk => Kd.fresh' (Kd.R_lt (RD HO_3)) k_ hk)); (case aO => exact ((Kd.R_nil _ _ _ _ (fun k_ => some k_ ≠ (.slice Ao59 x3_1.length co59 : Value).ownBlock)))); (case aS => exact (Zat (BD HB))); (case aL => have := LMc52.out; omega); intro v238 w62 ho hb hg hat; rw [← Ny237.out] at ho; have n0_ := Za.mk (Kd.Zfi (Kd.R_apart_nil (RD HO_3)) hg hat); have n1_ := Za.mk (hb); have n2_ := Za.mk ((show Kd.C k44 w62 A61 y233.length y233 from by rw [Ny233.out, KA61.out]; exact Kd.C_drop (m := (x5_2 : Int).toNat) (c := co59) ((Kd.Zb (Kd.Zfi (Kd.R_apart_nil (RD HO_3)) hg hat)).2.2) KL61.out ((Kd.Zb (Kd.Zfi (Kd.R_apart_nil (RD HO_3)) hg hat)).2.1))); have n3_ := Za.mk (ho); clear HO_3; clear HB; clear HR236; have HO_3 := n0_; have HB := n1_; have HR236 := n2_; have HO239 := n3_; clear n0_ n1_ n2_ n3_; clear ho hb hg hat))
      have n0_ := Za.mk (Kd.Zbw HO_3.out)
      have n1_ := Za.mk (Kd.Zbw HO239.out)
      have n2_ := Za.mk (Kd.Zd HR236.out)
      have n3_ := Za.mk (Zal HB.out)
      clear HO_3
      clear HO239
      clear HR236
      clear HB
      have HO_3 := n0_
      have HO239 := n1_
      have HR236 := n2_
      have HB := n3_
      clear n0_ n1_ n2_ n3_
      have q64 : (x5_2 : Int) ≤ ((x3_1.length : Int) : Int) := of_decide_eq_true t9_1
      obtain ⟨i064, hi064, _, hsz64, _⟩ := info_parts info44
      have hcut64 := cut_to (P := Try.prog) 40 44 .i64 Try.underlying40 hi064 Ao59 x3_1.length co59 x5_2 (of_decide_eq_true t9_1) q64 (Kd.Zb HO_3.out).2.1
      have hr64 := Kd.R_take (m := (x5_2 : Int).toNat) HO_3.out (by omega)
      have hy64 : y240.length = (x5_2 : Int).toNat := (by rw [Ny240.out, List.length_take]; omega)
      rw [← Ny240.out] at hr64
      rw [← hy64] at hr64 hcut64
      clear hy64 hi064 hsz64 HO_3
      have HO242 := Za.mk hr64
      clear hr64
      replace q64 := eq_true q64
      have p243 : 0 ≤ (x4_1 : Int) := of_decide_eq_true t9_1
      have q243 : x4_1 < (l0.length : Int) := of_decide_eq_true t9_1
      obtain ⟨ad243, e243, hx243_0, hx243_1, hx243_2⟩ := Zc HR0.out x4_1 p243 q243
      have hw243_2 := hx243_2
      have hw243_1 := hx243_1
      have hw243_0 := hx243_0
      cases e243
      replace hx243_0 := (HB.out.cell (World.block_lt_of_cell? w _ hx243_0)).trans hx243_0
      replace hx243_1 := (HB.out.cell (World.block_lt_of_cell? w _ hx243_1)).trans hx243_1
      replace hx243_2 := (HB.out.cell (World.block_lt_of_cell? w _ hx243_2)).trans hx243_2
      replace p243 := eq_true p243
      replace q243 := eq_true q243
      refine Zek (n := 12) (S := fun w' => w'.cell? (ad243.add ((x4_1).toNat * 3)) = some (.int .i64 ((Zaf l0 x4_1).f0)) ∧ w'.cell? ⟨(ad243.add ((x4_1).toNat * 3)).block, (ad243.add ((x4_1).toNat * 3)).off + 1, none⟩ = some (.int .u8 ((Zaf l0 x4_1).f1)) ∧ w'.cell? ⟨(ad243.add ((x4_1).toNat * 3)).block, (ad243.add ((x4_1).toNat * 3)).off + 2, none⟩ = some (.bool ((Zaf l0 x4_1).f2))) (ds := []) u9_33 t9_3 rfl rfl ⟨((HB.out.cell (World.block_lt_of_cell? w _ hw243_0)).trans hw243_0), ((HB.out.cell (World.block_lt_of_cell? w _ hw243_1)).trans hw243_1), ((HB.out.cell (World.block_lt_of_cell? w _ hw243_2)).trans hw243_2)⟩ (fun hHeld => ?_); refine Zcp Zab.tab12 Zab.bits12 (fun HT_ HW_ => ?_)
      generalize w62.drew = w63 at HO_3 HO239 HR236 HB HO242 hx243_0 hx243_1 hx243_2 hHeld ⊢
      refine Zbc (i := 0) (N := some 67) (v := ?_) (a' := ?_) u9_34 rfl rfl (Zaw HT_.out t9_3) (fun _ _ _ h => h) (Or.inl ⟨by rfl, ?_⟩) ?_ ?_
      rotate_left
      ·intro w'
       go_simp
       with_reducible rfl
      rotate_left
      ·simp only [Act.put, s0_, s1_, s2_, Zax, Zay]
       rfl
      refine Zbc (i := 1) (N := some 68) (v := ?_) (a' := ?_) u9_35 rfl rfl (Zaw HT_.out t9_3) (fun _ _ _ h => h) (Or.inl ⟨by rfl, ?_⟩) ?_ ?_
      rotate_left
      ·intro w'
       go_simp
       with_reducible rfl
      rotate_left
      ·simp only [Act.put, s0_, s1_, s2_, Zax, Zay]
       rfl
      refine Zbc (i := 2) (N := some 69) (v := ?_) (a' := ?_) u9_36 rfl rfl (Zaw HT_.out t9_3) (fun _ _ _ h => h) (Or.inl ⟨by rfl, ?_⟩) ?_ ?_
      rotate_left
      ·intro w'
       go_simp
       with_reducible rfl
      rotate_left
      ·simp only [Act.put, s0_, s1_, s2_, Zax, Zay]
       rfl
      refine Zbc (i := 3) (N := some 70) (v := ?_) (a' := ?_) u9_37 rfl rfl (Zaw HT_.out t9_3) (fun _ _ _ h => h) (Or.inl ⟨by rfl, ?_⟩) ?_ ?_
      rotate_left
      ·intro w'
       go_simp
       with_reducible rfl
      rotate_left
      ·simp only [Act.put, s0_, s1_, s2_, Zax, Zay]
       rfl
      refine Zbc (i := 4) (N := some 71) (v := ?_) (a' := ?_) u9_38 rfl rfl (Zaw HT_.out t9_3) (fun _ _ _ h => h) (Or.inl ⟨by rfl, ?_⟩) ?_ ?_
      rotate_left
      ·intro w'
       go_simp
       with_reducible rfl
      rotate_left
      ·simp only [Act.put, s0_, s1_, s2_, Zax, Zay]
       rfl
      refine Zbc (i := 5) (N := some 72) (v := ?_) (a' := ?_) u9_39 rfl rfl (Zaw HT_.out t9_3) (fun _ _ _ h => h) (Or.inl ⟨by rfl, ?_⟩) ?_ ?_
      rotate_left
      ·intro w'
       go_simp
       with_reducible rfl
      rotate_left
      ·simp only [Act.put, s0_, s1_, s2_, Zax, Zay]
       rfl
      refine Zbc (i := 9) (N := some 76) (v := ?_) (a' := ?_) u9_40 rfl rfl (Zaw HT_.out t9_3) (fun _ _ _ h => h) (Or.inl ⟨by rfl, ?_⟩) ?_ ?_
      rotate_left
      ·intro w'
       go_simp
       with_reducible rfl
      rotate_left
      ·simp only [Act.put, s0_, s1_, s2_, Zax, Zay]
       rfl
      refine Zdh (i := 6) (N := some 73) (v := ?_) (a' := ?_) u9_41 rfl rfl (Zbt HT_.out HW_.out t9_3) (fun _ _ _ h => h) (Or.inl ⟨by rfl, ?_⟩) hHeld ?_ ?_
      rotate_left
      ·rintro w' ⟨s0, s1, s2⟩
       go_simp
       with_reducible rfl
      rotate_left
      ·simp only [Act.put, s0_, s1_, s2_, Zax, Zay]
       rfl
      refine one_ (i := 7) (N := some 74) u9_42 rfl rfl (Zda HT_.out t9_3) t9_4 (fun K hK => ?_)
      refine value_ (w1 := ?_) (v := ?_) (by rfl) rfl ?_ ?_
      rotate_left 2
      ·go_simp
       constructor
       ·rfl
       ·rfl
      refine hK.out _ _ ⟨(World.cell?_alloc_lt _ _ _ (World.block_lt_of_cell? _ _ (((HB.out.cell (World.block_lt_of_cell? w _ hw243_0)).trans hw243_0)))).trans (((HB.out.cell (World.block_lt_of_cell? w _ hw243_0)).trans hw243_0)), (World.cell?_alloc_lt _ _ _ (World.block_lt_of_cell? _ _ (((HB.out.cell (World.block_lt_of_cell? w _ hw243_1)).trans hw243_1)))).trans (((HB.out.cell (World.block_lt_of_cell? w _ hw243_1)).trans hw243_1)), (World.cell?_alloc_lt _ _ _ (World.block_lt_of_cell? _ _ (((HB.out.cell (World.block_lt_of_cell? w _ hw243_2)).trans hw243_2)))).trans (((HB.out.cell (World.block_lt_of_cell? w _ hw243_2)).trans hw243_2))⟩ (fun hHeld => ?_)
      clear hK K
      refine Zem (a' := ?_) ?_ ?_
      rotate_left
      ·show Act.put _ (some 74) _ = _
       simp only [Act.put, s0_, s1_, s2_, Zax, Zay]
       rfl
      refine one_ (i := 8) (N := some 75) u9_43 rfl rfl (Zda HT_.out t9_3) t9_4 (fun K hK => ?_)
      refine Kd.Zey k44 (w0 := w) w.heap.size (by rfl) (.tmp 69) (.tmp 74) 40 44 (.agg #[(.int .i64 0), (.int .u8 0), (.bool false)]) 16 rfl Try.underlying40 info44 rfl t9_4 (by omega) (.slice Ao59 y240.length co59) y240 (⟨(Zaf l0 x4_1).f0, (Zaf l0 x4_1).f1, (Zaf l0 x4_1).f2⟩ : S44) [.int .i64 ((Zaf l0 x4_1).f0), .int .u8 ((Zaf l0 x4_1).f1), .bool ((Zaf l0 x4_1).f2)] (fun k_ => some k_ ≠ (v238 : Value).ownBlock) (fun _ => False) rfl rfl ?aP (fun _ hk => hk.elim) ?aF ?aO ?aB ?aS ?aL ?_
      (case aP => exact k44_mkM _ _ _ (⟨(Zaf l0 x4_1).f0, (Zaf l0 x4_1).f1, (Zaf l0 x4_1).f2⟩ : S44))
      (case aB => exact (BD HB))
      (case aF => exact (fun k_ hk => Kd.fresh' (Kd.R_lt (RD HO239)) k_ hk))
      (case aO => exact (by (with_reducible repeat (first | apply Kd.Zcm | apply Kd.Zcl | apply Kd.Zbw)); exact Kd.Zbv HO242.out (fun _ hk => hk.2)))
      (case aS => exact (Zat (BD HB)))
      (case aL => have := LMc56.out; omega)
      intro v245 w65 ho hb hg hat
      rw [← Ny244.out] at ho
      have n0_ := Za.mk (Kd.Zfi (ok := (fun _ => True)) (by (with_reducible repeat (first | apply Kd.Zcm | apply Kd.Zcl | apply Kd.Zbw)); exact Kd.Zbv HO239.out (fun _ hk => ⟨trivial, fun e_ => hk (e_.trans (ownlen_ _ _ _ _))⟩)) hg hat)
      have n1_ := Za.mk (hb)
      have n2_ := Za.mk (ho)
      clear HO239
      clear HB
      clear HO242
      have HO239 := n0_
      have HB := n1_
      have HO246 := n2_
      clear n0_ n1_ n2_
      clear ho hb hg hat
      obtain ⟨Ao67, co67, eo67⟩ := Kd.Zbp HO239.out
      (first | subst eo67 | (injection eo67 with f1_ f2_ f3_; have f4_ := f1_.symm; have f5_ := f3_.symm; clear f1_ f2_ f3_; subst f4_; subst f5_))
      refine hK.out _ _ ⟨((HB.out.cell (World.block_lt_of_cell? w _ hw243_0)).trans hw243_0), ((HB.out.cell (World.block_lt_of_cell? w _ hw243_1)).trans hw243_1), ((HB.out.cell (World.block_lt_of_cell? w _ hw243_2)).trans hw243_2)⟩ (fun hHeld => ?_)
      clear hK K
      refine Zem (a' := ?_) ?_ ?_
      rotate_left
      ·show Act.put _ (some 75) _ = _
       simp only [Act.put, s0_, s1_, s2_, Zax, Zay]
       rfl
      refine one_ (i := 10) (N := some 77) u9_44 rfl rfl (Zda HT_.out t9_3) t9_4 (fun K hK => ?_)
      refine Kd.R_append_rows_step k44 (w0 := w) w.heap.size (by rfl) (.tmp 75) (.tmp 76) 40 44 (.agg #[(.int .i64 0), (.int .u8 0), (.bool false)]) 16 rfl Try.underlying40 info44 rfl t9_4 (by omega) v245 y244 y237 _ _ _ (fun k_ => some k_ ≠ (.slice Ao67 y237.length co67 : Value).ownBlock) (fun _ => False) rfl rfl ?aO ?aR (fun _ _ h => h) (fun _ h => h.elim) ?aF ?aB ?aS ?aL ?_
      (case aR => exact CD ((Kd.Zb HO239.out).2.2))
      (case aB => exact (BD HB))
      (case aF => exact (fun k_ hk => Kd.fresh' (Kd.R_lt (RD HO239)) k_ hk))
      (case aO => exact (RD HO246))
      (case aS => exact (Zat (BD HB)))
      (case aL => have := LMc57.out; omega)
      intro v248 w66 ho hb hg hat
      rw [← Ny247.out] at ho
      have n0_ := Za.mk (Kd.Zfi (ok := (fun _ => True)) (RD HO239) hg hat)
      have n1_ := Za.mk (hb)
      have n2_ := Za.mk (ho)
      clear HO239
      clear HB
      clear HO246
      have HO239 := n0_
      have HB := n1_
      have HO249 := n2_
      clear n0_ n1_ n2_
      clear ho hb hg hat
      refine hK.out _ _ ⟨((HB.out.cell (World.block_lt_of_cell? w _ hw243_0)).trans hw243_0), ((HB.out.cell (World.block_lt_of_cell? w _ hw243_1)).trans hw243_1), ((HB.out.cell (World.block_lt_of_cell? w _ hw243_2)).trans hw243_2)⟩ (fun hHeld => ?_)
      clear hK K
      refine Zem (a' := ?_) ?_ ?_
      rotate_left
      ·show Act.put _ (some 77) _ = _
       simp only [Act.put, s0_, s1_, s2_, Zax, Zay]
       rfl
      refine Zbc (i := 11) (N := some 3) (v := ?_) (a' := ?_) u9_45 rfl rfl (Zaw HT_.out t9_3) (fun _ _ _ h => h) (Or.inl ⟨by rfl, ?_⟩) ?_ ?_
      rotate_left
      ·intro w'
       go_simp
       with_reducible rfl
      rotate_left
      ·simp only [Act.put, s0_, s1_, s2_, Zax, Zay]
       rfl
      refine done_ (Zdj HT_.out t9_3) ?_
      try go_wp2
      go_roundg k2
      case measure => have := HK1.out; have := HK2.out; omega
      case rel => exact ⟨(y247), (wrap64 (x4_1 + 1)), t9_2, H', ⟨by have := HK1.out; have := HK2.out; omega⟩, ⟨by (with_reducible repeat (first | apply Kd.Zcm | apply Kd.Zcl | apply Kd.Zbw)); exact Kd.Zbv HO249.out (fun _ hk => trivial)⟩, ⟨BD HB⟩⟩
     rw [if_pos c3] at H
     have c3b0 : decide (x5_2 < (x3_1.length : Int)) = true := decide_eq_true c3
     clear c3
     by_cases c4 : 0 ≤ x5_2
     case neg =>
      rw [if_neg c4] at H
      exact absurd H (by simp)
     rw [if_pos c4] at H
     have c4b0 : decide (0 ≤ x5_2) = true := decide_eq_true c4
     clear c4
     by_cases c5 : 0 ≤ x4_1
     case neg =>
      rw [if_neg c5] at H
      exact absurd H (by simp)
     rw [if_pos c5] at H
     have c5b0 : decide (0 ≤ x4_1) = true := decide_eq_true c5
     clear c5
     by_cases c6 : x4_1 < (l0.length : Int)
     case neg =>
      rw [if_neg c6] at H
      exact absurd H (by simp)
     rw [if_pos c6] at H
     have c6b0 : decide (x4_1 < (l0.length : Int)) = true := decide_eq_true c6
     clear c6
     replace H := Option.bind_eq_some_iff.mp H
     obtain ⟨t208, A70, H⟩ := H
     try dsimp only at H
     have A7 := Za.mk A70
     clear A70
     by_cases c8 : t208 = true
     case neg =>
      replace c8 := Bool.eq_false_iff.mpr c8
      subst c8
      have H1 : ((Zbs.f ((Zaf l0 x4_1).f0) ((Zaf l0 x4_1).f1) ((Zaf l0 x4_1).f2) ((Zaf x3_1 x5_2).f0) ((Zaf x3_1 x5_2).f1) ((Zaf x3_1 x5_2).f2)).bind fun t211 => (if t211 = true then (if x5_2 ≤ (x3_1.length : Int) then ((some (x3_1.drop (x5_2 : Int).toNat : List (S44))).bind fun y212 => (if ([] : List (S44)).length + y212.length < 8796093022208 then ((some (([] : List (S44)) ++ y212 : List (S44))).bind fun y216 => ((some (x3_1.take (x5_2 : Int).toNat : List (S44))).bind fun y219 => (if y219.length < 8796093022208 then ((some (y219 ++ [(⟨(Zaf l0 x4_1).f0, (Zaf l0 x4_1).f1, (Zaf l0 x4_1).f2⟩ : S44)] : List (S44))).bind fun y223 => (if y223.length + y216.length < 8796093022208 then (Zab.l0 k2 l0 (y223 ++ y216) (wrap64 (x4_1 + 1))) else (none))) else (none)))) else (none))) else (none)) else (if (Zaf x3_1 x5_2).f2 = true then (Zab.l0 k2 l0 (x3_1.set (x5_2 : Int).toNat (⟨(Zaf x3_1 x5_2).f0, (Zaf x3_1 x5_2).f1, true⟩ : S44)) (wrap64 (x4_1 + 1))) else (Zab.l0 k2 l0 (x3_1.set (x5_2 : Int).toNat (⟨(Zaf x3_1 x5_2).f0, (Zaf x3_1 x5_2).f1, (Zaf l0 x4_1).f2⟩ : S44)) (wrap64 (x4_1 + 1)))))) = some r := by rw [if_neg (show ¬ (false = true) by decide)] at H; exact H
      clear H
      have H := H1
      clear H1
      replace H := Option.bind_eq_some_iff.mp H
      obtain ⟨t211, A120, H⟩ := H
      try dsimp only at H
      have A12 := Za.mk A120
      clear A120
      by_cases c13 : t211 = true
      case neg =>
       replace c13 := Bool.eq_false_iff.mpr c13
       subst c13
       have H1 : (if (Zaf x3_1 x5_2).f2 = true then (Zab.l0 k2 l0 (x3_1.set (x5_2 : Int).toNat (⟨(Zaf x3_1 x5_2).f0, (Zaf x3_1 x5_2).f1, true⟩ : S44)) (wrap64 (x4_1 + 1))) else (Zab.l0 k2 l0 (x3_1.set (x5_2 : Int).toNat (⟨(Zaf x3_1 x5_2).f0, (Zaf x3_1 x5_2).f1, (Zaf l0 x4_1).f2⟩ : S44)) (wrap64 (x4_1 + 1)))) = some r := by rw [if_neg (show ¬ (false = true) by decide)] at H; exact H
       clear H
       have H := H1
       clear H1
       obtain ⟨bq32, hbq32⟩ : ∃ b_ : Bool, b_ = ((Zaf x3_1 x5_2).f2) := ⟨_, rfl⟩
       replace H : (if bq32 = true then (Zab.l0 k2 l0 (x3_1.set (x5_2 : Int).toNat (⟨(Zaf x3_1 x5_2).f0, (Zaf x3_1 x5_2).f1, true⟩ : S44)) (wrap64 (x4_1 + 1))) else (Zab.l0 k2 l0 (x3_1.set (x5_2 : Int).toNat (⟨(Zaf x3_1 x5_2).f0, (Zaf x3_1 x5_2).f1, (Zaf l0 x4_1).f2⟩ : S44)) (wrap64 (x4_1 + 1)))) = some r := by rw [← hbq32] at H; exact H
       have Nbq32 := Za.mk hbq32
       clear hbq32
       by_cases c33 : bq32 = true
       case neg =>
        replace c33 := Bool.eq_false_iff.mpr c33
        subst c33
        have H1 : (Zab.l0 k2 l0 (x3_1.set (x5_2 : Int).toNat (⟨(Zaf x3_1 x5_2).f0, (Zaf x3_1 x5_2).f1, (Zaf l0 x4_1).f2⟩ : S44)) (wrap64 (x4_1 + 1))) = some r := by rw [if_neg (show ¬ (false = true) by decide)] at H; exact H
        clear H
        have H := H1
        clear H1
        obtain ⟨y232, hy232⟩ : ∃ y_ : List (S44), y_ = (x3_1.set (x5_2 : Int).toNat (⟨(Zaf x3_1 x5_2).f0, (Zaf x3_1 x5_2).f1, (Zaf l0 x4_1).f2⟩ : S44)) := ⟨_, rfl⟩
        replace H : (Zab.l0 k2 l0 y232 (wrap64 (x4_1 + 1))) = some r := by first | (rw [hy232]; with_reducible exact H) | (have H2_ := (Option.bind_some _ _).symm.trans H; rw [hy232]; with_reducible exact H2_) | (have H2_ := (Option.bind_some _ _).symm.trans H; with_reducible exact H2_) | with_reducible exact H | (rw [hy232]; exact H) | exact H
        have Ny232 := Za.mk hy232
        clear hy232
        have H' := Za.mk H
        clear H
        try go_wp2
        have n0_ := Za.mk (Kd.Zbw HO_3.out)
        have n1_ := Za.mk (Zal HB.out)
        clear HO_3
        clear HB
        have HO_3 := n0_
        have HB := n1_
        clear n0_ n1_
        obtain ⟨Ao44, co44, eo44⟩ := Kd.Zbp HO_3.out
        (first | subst eo44 | (injection eo44 with f1_ f2_ f3_; have f4_ := f1_.symm; have f5_ := f3_.symm; clear f1_ f2_ f3_; subst f4_; subst f5_))
        have p206 : 0 ≤ (x5_2 : Int) := of_decide_eq_true t9_1
        have q206 : x5_2 < (x3_1.length : Int) := of_decide_eq_true t9_1
        obtain ⟨ad206, e206, hx206_0, hx206_1, hx206_2⟩ := Zc (Kd.Zb HO_3.out).2.2 x5_2 p206 q206
        (try rw [← Nbq32.out] at hx206_2)
        cases e206
        replace p206 := eq_true p206
        replace q206 := eq_true q206
        have p207 : 0 ≤ (x4_1 : Int) := of_decide_eq_true t9_1
        have q207 : x4_1 < (l0.length : Int) := of_decide_eq_true t9_1
        obtain ⟨ad207, e207, hx207_0, hx207_1, hx207_2⟩ := Zc HR0.out x4_1 p207 q207
        have hw207_2 := hx207_2
        have hw207_1 := hx207_1
        have hw207_0 := hx207_0
        (try rw [← Nbq32.out] at hx207_2)
        cases e207
        replace hx207_0 := (HB.out.cell (World.block_lt_of_cell? w _ hx207_0)).trans hx207_0
        replace hx207_1 := (HB.out.cell (World.block_lt_of_cell? w _ hx207_1)).trans hx207_1
        replace hx207_2 := (HB.out.cell (World.block_lt_of_cell? w _ hx207_2)).trans hx207_2
        replace p207 := eq_true p207
        replace q207 := eq_true q207
        refine Zek (n := 15) (S := fun w' => w'.cell? (ad206.add ((x5_2).toNat * 3)) = some (.int .i64 ((Zaf x3_1 x5_2).f0)) ∧ w'.cell? ⟨(ad206.add ((x5_2).toNat * 3)).block, (ad206.add ((x5_2).toNat * 3)).off + 1, none⟩ = some (.int .u8 ((Zaf x3_1 x5_2).f1)) ∧ w'.cell? ⟨(ad206.add ((x5_2).toNat * 3)).block, (ad206.add ((x5_2).toNat * 3)).off + 2, none⟩ = some (.bool false) ∧ w'.cell? (ad207.add ((x4_1).toNat * 3)) = some (.int .i64 ((Zaf l0 x4_1).f0)) ∧ w'.cell? ⟨(ad207.add ((x4_1).toNat * 3)).block, (ad207.add ((x4_1).toNat * 3)).off + 1, none⟩ = some (.int .u8 ((Zaf l0 x4_1).f1)) ∧ w'.cell? ⟨(ad207.add ((x4_1).toNat * 3)).block, (ad207.add ((x4_1).toNat * 3)).off + 2, none⟩ = some (.bool ((Zaf l0 x4_1).f2))) (ds := []) u9_0 t9_3 rfl rfl ⟨hx206_0, hx206_1, hx206_2, ((HB.out.cell (World.block_lt_of_cell? w _ hw207_0)).trans hw207_0), ((HB.out.cell (World.block_lt_of_cell? w _ hw207_1)).trans hw207_1), ((HB.out.cell (World.block_lt_of_cell? w _ hw207_2)).trans hw207_2)⟩ (fun hHeld => ?_); refine Zcp Zab.tab6 Zab.bits6 (fun HT_ HW_ => ?_)
        generalize wr.drew = w43 at HO_3 HB hx206_0 hx206_1 hx206_2 hx207_0 hx207_1 hx207_2 hHeld ⊢
        refine Zbc (i := 0) (N := some 13) (v := ?_) (a' := ?_) u9_1 rfl rfl (Zaw HT_.out t9_3) (fun _ _ _ h => h) (Or.inl ⟨by rfl, ?_⟩) ?_ ?_
        rotate_left
        ·intro w'
         go_simp
         with_reducible rfl
        rotate_left
        ·simp only [Act.put, s0_, s1_, s2_, Zax, Zay]
         rfl
        refine Zbc (i := 1) (N := some 14) (v := ?_) (a' := ?_) u9_2 rfl rfl (Zaw HT_.out t9_3) (fun _ _ _ h => h) (Or.inl ⟨by rfl, ?_⟩) ?_ ?_
        rotate_left
        ·intro w'
         go_simp
         with_reducible rfl
        rotate_left
        ·simp only [Act.put, s0_, s1_, s2_, Zax, Zay]
         rfl
        refine Zbc (i := 2) (N := some 15) (v := ?_) (a' := ?_) u9_3 rfl rfl (Zaw HT_.out t9_3) (fun _ _ _ h => h) (Or.inl ⟨by rfl, ?_⟩) ?_ ?_
        rotate_left
        ·intro w'
         go_simp
         with_reducible rfl
        rotate_left
        ·simp only [Act.put, s0_, s1_, s2_, Zax, Zay]
         rfl
        refine Zbc (i := 3) (N := some 16) (v := ?_) (a' := ?_) u9_4 rfl rfl (Zaw HT_.out t9_3) (fun _ _ _ h => h) (Or.inl ⟨by rfl, ?_⟩) ?_ ?_
        rotate_left
        ·intro w'
         go_simp
         with_reducible rfl
        rotate_left
        ·simp only [Act.put, s0_, s1_, s2_, Zax, Zay]
         rfl
        refine Zbc (i := 4) (N := some 17) (v := ?_) (a' := ?_) u9_5 rfl rfl (Zaw HT_.out t9_3) (fun _ _ _ h => h) (Or.inl ⟨by rfl, ?_⟩) ?_ ?_
        rotate_left
        ·intro w'
         go_simp
         with_reducible rfl
        rotate_left
        ·simp only [Act.put, s0_, s1_, s2_, Zax, Zay]
         rfl
        refine Zbc (i := 5) (N := some 18) (v := ?_) (a' := ?_) u9_6 rfl rfl (Zaw HT_.out t9_3) (fun _ _ _ h => h) (Or.inl ⟨by rfl, ?_⟩) ?_ ?_
        rotate_left
        ·intro w'
         go_simp
         with_reducible rfl
        rotate_left
        ·simp only [Act.put, s0_, s1_, s2_, Zax, Zay]
         rfl
        refine Zbc (i := 6) (N := some 19) (v := ?_) (a' := ?_) u9_7 rfl rfl (Zaw HT_.out t9_3) (fun _ _ _ h => h) (Or.inl ⟨by rfl, ?_⟩) ?_ ?_
        rotate_left
        ·intro w'
         go_simp
         with_reducible rfl
        rotate_left
        ·simp only [Act.put, s0_, s1_, s2_, Zax, Zay]
         rfl
        refine Zbc (i := 7) (N := some 20) (v := ?_) (a' := ?_) u9_8 rfl rfl (Zaw HT_.out t9_3) (fun _ _ _ h => h) (Or.inl ⟨by rfl, ?_⟩) ?_ ?_
        rotate_left
        ·intro w'
         go_simp
         with_reducible rfl
        rotate_left
        ·simp only [Act.put, s0_, s1_, s2_, Zax, Zay]
         rfl
        refine Zbc (i := 9) (N := some 22) (v := ?_) (a' := ?_) u9_9 rfl rfl (Zaw HT_.out t9_3) (fun _ _ _ h => h) (Or.inl ⟨by rfl, ?_⟩) ?_ ?_
        rotate_left
        ·intro w'
         go_simp
         with_reducible rfl
        rotate_left
        ·simp only [Act.put, s0_, s1_, s2_, Zax, Zay]
         rfl
        refine Zbc (i := 10) (N := some 23) (v := ?_) (a' := ?_) u9_10 rfl rfl (Zaw HT_.out t9_3) (fun _ _ _ h => h) (Or.inl ⟨by rfl, ?_⟩) ?_ ?_
        rotate_left
        ·intro w'
         go_simp
         with_reducible rfl
        rotate_left
        ·simp only [Act.put, s0_, s1_, s2_, Zax, Zay]
         rfl
        refine Zbc (i := 11) (N := some 24) (v := ?_) (a' := ?_) u9_11 rfl rfl (Zaw HT_.out t9_3) (fun _ _ _ h => h) (Or.inl ⟨by rfl, ?_⟩) ?_ ?_
        rotate_left
        ·intro w'
         go_simp
         with_reducible rfl
        rotate_left
        ·simp only [Act.put, s0_, s1_, s2_, Zax, Zay]
         rfl
        refine Zdh (i := 8) (N := some 21) (v := ?_) (a' := ?_) u9_12 rfl rfl (Zbt HT_.out HW_.out t9_3) (fun _ _ _ h => h) (Or.inl ⟨by rfl, ?_⟩) hHeld ?_ ?_
        rotate_left
        ·rintro w' ⟨s0, s1, s2, s3, s4, s5⟩
         go_simp
         with_reducible rfl
        rotate_left
        ·simp only [Act.put, s0_, s1_, s2_, Zax, Zay]
         rfl
        refine Zdh (i := 12) (N := some 25) (v := ?_) (a' := ?_) u9_13 rfl rfl (Zbt HT_.out HW_.out t9_3) (fun _ _ _ h => h) (Or.inl ⟨by rfl, ?_⟩) hHeld ?_ ?_
        rotate_left
        ·rintro w' ⟨s0, s1, s2, s3, s4, s5⟩
         go_simp
         with_reducible rfl
        rotate_left
        ·simp only [Act.put, s0_, s1_, s2_, Zax, Zay]
         rfl
        refine one_ (i := 13) (N := some 26) u9_14 rfl rfl (Zda HT_.out t9_3) t9_4 (fun K hK => ?_)
        refine goes_ Try.func75 t9_3 rfl #[.agg #[.int .i64 ((Zaf x3_1 x5_2).f0), .int .u8 ((Zaf x3_1 x5_2).f1), .bool false], .agg #[.int .i64 ((Zaf l0 x4_1).f0), .int .u8 ((Zaf l0 x4_1).f1), .bool ((Zaf l0 x4_1).f2)]] (by rfl) rfl rfl t9_0 ?_
        with_reducible refine (Zbs.calls ((Zaf x3_1 x5_2).f0) ((Zaf x3_1 x5_2).f1) false ((Zaf l0 x4_1).f0) ((Zaf l0 x4_1).f1) ((Zaf l0 x4_1).f2) false _ (by first | exact A7.out | (have A_ := A7.out; rw [← Nbq32.out] at A_; exact A_))).mono ?_
        rintro e w45 ⟨rfl, hb⟩
        have HS0_ := (hb.cell (World.block_lt_of_cell? _ _ (hHeld.1))).trans (hHeld.1)
        have HS1_ := (hb.cell (World.block_lt_of_cell? _ _ (hHeld.2.1))).trans (hHeld.2.1)
        have HS2_ := (hb.cell (World.block_lt_of_cell? _ _ (hHeld.2.2.1))).trans (hHeld.2.2.1)
        refine ⟨_, rfl, ?_⟩
        have n0_ := RB HO_3 hb
        have n1_ := BS HB hb
        clear HO_3
        clear HB
        have HO_3 := n0_
        have HB := n1_
        clear n0_ n1_
        (try clear hb)
        (try clear hb2)
        (try clear hk)
        (try clear hi)
        refine hK.out _ _ ⟨HS0_, HS1_, HS2_, ((HB.out.cell (World.block_lt_of_cell? w _ hw207_0)).trans hw207_0), ((HB.out.cell (World.block_lt_of_cell? w _ hw207_1)).trans hw207_1), ((HB.out.cell (World.block_lt_of_cell? w _ hw207_2)).trans hw207_2)⟩ (fun hHeld => ?_)
        clear hK K
        refine Zem (a' := ?_) ?_ ?_
        rotate_left
        ·show Act.put _ (some 26) _ = _
         simp only [Act.put, s0_, s1_, s2_, Zax, Zay]
         rfl
        refine Zbc (i := 14) (N := some 27) (v := ?_) (a' := ?_) u9_15 rfl rfl (Zaw HT_.out t9_3) (fun _ _ _ h => h) (Or.inl ⟨by rfl, ?_⟩) ?_ ?_
        rotate_left
        ·intro w'
         go_simp
         with_reducible rfl
        rotate_left
        ·simp only [Act.put, s0_, s1_, s2_, Zax, Zay]
         rfl
        refine done_ (Zdj HT_.out t9_3) ?_
        try go_wp2
        have n0_ := Za.mk (Kd.Zbw HO_3.out)
        have n1_ := Za.mk (Zal HB.out)
        clear HO_3
        clear HB
        have HO_3 := n0_
        have HB := n1_
        clear n0_ n1_
        have p209 : 0 ≤ (x4_1 : Int) := of_decide_eq_true t9_1
        have q209 : x4_1 < (l0.length : Int) := of_decide_eq_true t9_1
        obtain ⟨ad209, e209, hx209_0, hx209_1, hx209_2⟩ := Zc HR0.out x4_1 p209 q209
        have hw209_2 := hx209_2
        have hw209_1 := hx209_1
        have hw209_0 := hx209_0
        (try rw [← Nbq32.out] at hx209_2)
        obtain rfl : ad207 = ad209 := (by injection e209)
        replace hx209_0 := (HB.out.cell (World.block_lt_of_cell? w _ hx209_0)).trans hx209_0
        replace hx209_1 := (HB.out.cell (World.block_lt_of_cell? w _ hx209_1)).trans hx209_1
        replace hx209_2 := (HB.out.cell (World.block_lt_of_cell? w _ hx209_2)).trans hx209_2
        replace p209 := eq_true p209
        replace q209 := eq_true q209
        have p210 : 0 ≤ (x5_2 : Int) := of_decide_eq_true t9_1
        have q210 : x5_2 < (x3_1.length : Int) := of_decide_eq_true t9_1
        obtain ⟨ad210, e210, hx210_0, hx210_1, hx210_2⟩ := Zc (Kd.Zb HO_3.out).2.2 x5_2 p210 q210
        (try rw [← Nbq32.out] at hx210_2)
        obtain rfl : ad206 = ad210 := (by injection e210)
        replace p210 := eq_true p210
        replace q210 := eq_true q210
        refine Zek (n := 16) (S := fun w' => w'.cell? (ad207.add ((x4_1).toNat * 3)) = some (.int .i64 ((Zaf l0 x4_1).f0)) ∧ w'.cell? ⟨(ad207.add ((x4_1).toNat * 3)).block, (ad207.add ((x4_1).toNat * 3)).off + 1, none⟩ = some (.int .u8 ((Zaf l0 x4_1).f1)) ∧ w'.cell? ⟨(ad207.add ((x4_1).toNat * 3)).block, (ad207.add ((x4_1).toNat * 3)).off + 2, none⟩ = some (.bool ((Zaf l0 x4_1).f2)) ∧ w'.cell? (ad206.add ((x5_2).toNat * 3)) = some (.int .i64 ((Zaf x3_1 x5_2).f0)) ∧ w'.cell? ⟨(ad206.add ((x5_2).toNat * 3)).block, (ad206.add ((x5_2).toNat * 3)).off + 1, none⟩ = some (.int .u8 ((Zaf x3_1 x5_2).f1)) ∧ w'.cell? ⟨(ad206.add ((x5_2).toNat * 3)).block, (ad206.add ((x5_2).toNat * 3)).off + 2, none⟩ = some (.bool false)) (ds := []) u9_16 t9_3 rfl rfl ⟨((HB.out.cell (World.block_lt_of_cell? w _ hw209_0)).trans hw209_0), ((HB.out.cell (World.block_lt_of_cell? w _ hw209_1)).trans hw209_1), ((HB.out.cell (World.block_lt_of_cell? w _ hw209_2)).trans hw209_2), hx210_0, hx210_1, hx210_2⟩ (fun hHeld => ?_); refine Zcp Zab.tab8 Zab.bits8 (fun HT_ HW_ => ?_)
        generalize w45.drew = w46 at HO_3 HB hx209_0 hx209_1 hx209_2 hx210_0 hx210_1 hx210_2 hHeld ⊢
        refine Zbc (i := 0) (N := some 30) (v := ?_) (a' := ?_) u9_17 rfl rfl (Zaw HT_.out t9_3) (fun _ _ _ h => h) (Or.inl ⟨by rfl, ?_⟩) ?_ ?_
        rotate_left
        ·intro w'
         go_simp
         with_reducible rfl
        rotate_left
        ·simp only [Act.put, s0_, s1_, s2_, Zax, Zay]
         rfl
        refine Zbc (i := 1) (N := some 31) (v := ?_) (a' := ?_) u9_18 rfl rfl (Zaw HT_.out t9_3) (fun _ _ _ h => h) (Or.inl ⟨by rfl, ?_⟩) ?_ ?_
        rotate_left
        ·intro w'
         go_simp
         with_reducible rfl
        rotate_left
        ·simp only [Act.put, s0_, s1_, s2_, Zax, Zay]
         rfl
        refine Zbc (i := 2) (N := some 32) (v := ?_) (a' := ?_) u9_19 rfl rfl (Zaw HT_.out t9_3) (fun _ _ _ h => h) (Or.inl ⟨by rfl, ?_⟩) ?_ ?_
        rotate_left
        ·intro w'
         go_simp
         with_reducible rfl
        rotate_left
        ·simp only [Act.put, s0_, s1_, s2_, Zax, Zay]
         rfl
        refine Zbc (i := 3) (N := some 33) (v := ?_) (a' := ?_) u9_20 rfl rfl (Zaw HT_.out t9_3) (fun _ _ _ h => h) (Or.inl ⟨by rfl, ?_⟩) ?_ ?_
        rotate_left
        ·intro w'
         go_simp
         with_reducible rfl
        rotate_left
        ·simp only [Act.put, s0_, s1_, s2_, Zax, Zay]
         rfl
        refine Zbc (i := 4) (N := some 34) (v := ?_) (a' := ?_) u9_21 rfl rfl (Zaw HT_.out t9_3) (fun _ _ _ h => h) (Or.inl ⟨by rfl, ?_⟩) ?_ ?_
        rotate_left
        ·intro w'
         go_simp
         with_reducible rfl
        rotate_left
        ·simp only [Act.put, s0_, s1_, s2_, Zax, Zay]
         rfl
        refine Zbc (i := 5) (N := some 35) (v := ?_) (a' := ?_) u9_22 rfl rfl (Zaw HT_.out t9_3) (fun _ _ _ h => h) (Or.inl ⟨by rfl, ?_⟩) ?_ ?_
        rotate_left
        ·intro w'
         go_simp
         with_reducible rfl
        rotate_left
        ·simp only [Act.put, s0_, s1_, s2_, Zax, Zay]
         rfl
        refine Zbc (i := 6) (N := some 36) (v := ?_) (a' := ?_) u9_23 rfl rfl (Zaw HT_.out t9_3) (fun _ _ _ h => h) (Or.inl ⟨by rfl, ?_⟩) ?_ ?_
        rotate_left
        ·intro w'
         go_simp
         with_reducible rfl
        rotate_left
        ·simp only [Act.put, s0_, s1_, s2_, Zax, Zay]
         rfl
        refine Zbc (i := 7) (N := some 37) (v := ?_) (a' := ?_) u9_24 rfl rfl (Zaw HT_.out t9_3) (fun _ _ _ h => h) (Or.inl ⟨by rfl, ?_⟩) ?_ ?_
        rotate_left
        ·intro w'
         go_simp
         with_reducible rfl
        rotate_left
        ·simp only [Act.put, s0_, s1_, s2_, Zax, Zay]
         rfl
        refine Zbc (i := 9) (N := some 39) (v := ?_) (a' := ?_) u9_25 rfl rfl (Zaw HT_.out t9_3) (fun _ _ _ h => h) (Or.inl ⟨by rfl, ?_⟩) ?_ ?_
        rotate_left
        ·intro w'
         go_simp
         with_reducible rfl
        rotate_left
        ·simp only [Act.put, s0_, s1_, s2_, Zax, Zay]
         rfl
        refine Zbc (i := 10) (N := some 40) (v := ?_) (a' := ?_) u9_26 rfl rfl (Zaw HT_.out t9_3) (fun _ _ _ h => h) (Or.inl ⟨by rfl, ?_⟩) ?_ ?_
        rotate_left
        ·intro w'
         go_simp
         with_reducible rfl
        rotate_left
        ·simp only [Act.put, s0_, s1_, s2_, Zax, Zay]
         rfl
        refine Zbc (i := 11) (N := some 41) (v := ?_) (a' := ?_) u9_27 rfl rfl (Zaw HT_.out t9_3) (fun _ _ _ h => h) (Or.inl ⟨by rfl, ?_⟩) ?_ ?_
        rotate_left
        ·intro w'
         go_simp
         with_reducible rfl
        rotate_left
        ·simp only [Act.put, s0_, s1_, s2_, Zax, Zay]
         rfl
        refine Zdh (i := 8) (N := some 38) (v := ?_) (a' := ?_) u9_28 rfl rfl (Zbt HT_.out HW_.out t9_3) (fun _ _ _ h => h) (Or.inl ⟨by rfl, ?_⟩) hHeld ?_ ?_
        rotate_left
        ·rintro w' ⟨s0, s1, s2, s3, s4, s5⟩
         go_simp
         with_reducible rfl
        rotate_left
        ·simp only [Act.put, s0_, s1_, s2_, Zax, Zay]
         rfl
        refine Zdh (i := 12) (N := some 42) (v := ?_) (a' := ?_) u9_29 rfl rfl (Zbt HT_.out HW_.out t9_3) (fun _ _ _ h => h) (Or.inl ⟨by rfl, ?_⟩) hHeld ?_ ?_
        rotate_left
        ·rintro w' ⟨s0, s1, s2, s3, s4, s5⟩
         go_simp
         with_reducible rfl
        rotate_left
        ·simp only [Act.put, s0_, s1_, s2_, Zax, Zay]
         rfl
        refine one_ (i := 13) (N := some 43) u9_30 rfl rfl (Zda HT_.out t9_3) t9_4 (fun K hK => ?_)
        refine goes_ Try.func75 t9_3 rfl #[.agg #[.int .i64 ((Zaf l0 x4_1).f0), .int .u8 ((Zaf l0 x4_1).f1), .bool ((Zaf l0 x4_1).f2)], .agg #[.int .i64 ((Zaf x3_1 x5_2).f0), .int .u8 ((Zaf x3_1 x5_2).f1), .bool false]] (by rfl) rfl rfl t9_0 ?_
        with_reducible refine (Zbs.calls ((Zaf l0 x4_1).f0) ((Zaf l0 x4_1).f1) ((Zaf l0 x4_1).f2) ((Zaf x3_1 x5_2).f0) ((Zaf x3_1 x5_2).f1) false false _ (by first | exact A12.out | (have A_ := A12.out; rw [← Nbq32.out] at A_; exact A_))).mono ?_
        rintro e w47 ⟨rfl, hb⟩
        have HS3_ := (hb.cell (World.block_lt_of_cell? _ _ (hHeld.2.2.2.1))).trans (hHeld.2.2.2.1)
        have HS4_ := (hb.cell (World.block_lt_of_cell? _ _ (hHeld.2.2.2.2.1))).trans (hHeld.2.2.2.2.1)
        have HS5_ := (hb.cell (World.block_lt_of_cell? _ _ (hHeld.2.2.2.2.2))).trans (hHeld.2.2.2.2.2)
        refine ⟨_, rfl, ?_⟩
        have n0_ := RB HO_3 hb
        have n1_ := BS HB hb
        clear HO_3
        clear HB
        have HO_3 := n0_
        have HB := n1_
        clear n0_ n1_
        (try clear hb)
        (try clear hb2)
        (try clear hk)
        (try clear hi)
        refine hK.out _ _ ⟨((HB.out.cell (World.block_lt_of_cell? w _ hw209_0)).trans hw209_0), ((HB.out.cell (World.block_lt_of_cell? w _ hw209_1)).trans hw209_1), ((HB.out.cell (World.block_lt_of_cell? w _ hw209_2)).trans hw209_2), HS3_, HS4_, HS5_⟩ (fun hHeld => ?_)
        clear hK K
        refine Zem (a' := ?_) ?_ ?_
        rotate_left
        ·show Act.put _ (some 43) _ = _
         simp only [Act.put, s0_, s1_, s2_, Zax, Zay]
         rfl
        refine Zbc (i := 14) (N := some 44) (v := ?_) (a' := ?_) u9_31 rfl rfl (Zaw HT_.out t9_3) (fun _ _ _ h => h) (Or.inl ⟨by rfl, ?_⟩) ?_ ?_
        rotate_left
        ·intro w'
         go_simp
         with_reducible rfl
        rotate_left
        ·simp only [Act.put, s0_, s1_, s2_, Zax, Zay]
         rfl
        refine Zbc (i := 15) (N := some 45) (v := ?_) (a' := ?_) u9_32 rfl rfl (Zaw HT_.out t9_3) (fun _ _ _ h => h) (Or.inl ⟨by rfl, ?_⟩) ?_ ?_
        rotate_left
        ·intro w'
         go_simp
         with_reducible rfl
        rotate_left
        ·simp only [Act.put, s0_, s1_, s2_, Zax, Zay]
         rfl
        refine done_ (Zdj HT_.out t9_3) ?_
        have p229 : 0 ≤ (x5_2 : Int) := of_decide_eq_true t9_1
        have q229 : x5_2 < (x3_1.length : Int) := of_decide_eq_true t9_1
        obtain ⟨ad229, e229, hx229_0, hx229_1, hx229_2⟩ := Zc (Kd.Zb HO_3.out).2.2 x5_2 p229 q229
        (try rw [← Nbq32.out] at hx229_2)
        obtain rfl : ad206 = ad229 := (by injection e229)
        replace p229 := eq_true p229
        replace q229 := eq_true q229
        have p231 : 0 ≤ (x4_1 : Int) := of_decide_eq_true t9_1
        have q231 : x4_1 < (l0.length : Int) := of_decide_eq_true t9_1
        obtain ⟨ad231, e231, hx231_0, hx231_1, hx231_2⟩ := Zc HR0.out x4_1 p231 q231
        (try rw [← Nbq32.out] at hx231_2)
        obtain rfl : ad207 = ad231 := (by injection e231)
        replace hx231_0 := (HB.out.cell (World.block_lt_of_cell? w _ hx231_0)).trans hx231_0
        replace hx231_1 := (HB.out.cell (World.block_lt_of_cell? w _ hx231_1)).trans hx231_1
        replace hx231_2 := (HB.out.cell (World.block_lt_of_cell? w _ hx231_2)).trans hx231_2
        replace p231 := eq_true p231
        replace q231 := eq_true q231
        have p42 : 0 ≤ (x5_2 : Int) := of_decide_eq_true t9_1
        have q42 : (x5_2 : Int) < ((x3_1.length : Int) : Int) := of_decide_eq_true t9_1
        obtain ⟨go42, co42, eo42, gb42, gl42, cl42, HG42⟩ := Kd.R_form HO_3.out (by omega)
        (first | cases eo42 | (injection eo42 with ea_ en_ ec_; (first | subst ea_ | (injection ea_ with ea_; subst ea_)); subst ec_; clear en_))
        have GB42 := Za.mk gb42
        have GG42 := Za.mk HG42
        clear gb42 gl42 HG42
        (first | simp only [add_plain] at hx206_0 | skip)
        (first | simp only [add_plain] at hx206_1 | skip)
        (first | simp only [add_plain] at hx206_2 | skip)
        (first | simp only [add_plain] at hx210_0 | skip)
        (first | simp only [add_plain] at hx210_1 | skip)
        (first | simp only [add_plain] at hx210_2 | skip)
        (first | simp only [add_plain] at hx229_0 | skip)
        (first | simp only [add_plain] at hx229_1 | skip)
        (first | simp only [add_plain] at hx229_2 | skip)
        obtain ⟨ce42, hcl42, hM42, hcc42, hfr42⟩ := Kd.R_elem HO_3.out z44 (x5_2 : Int) p42 q42
        obtain rfl := k44_openM hM42
        have hx42_0 : w47.cell? ⟨go42, (x5_2 : Int).toNat * 3, none⟩ = some (.int .i64 ((Zaf x3_1 x5_2).f0)) := hcc42 0 _ rfl
        have hx42_1 : w47.cell? ⟨go42, (x5_2 : Int).toNat * 3 + 1, none⟩ = some (.int .u8 ((Zaf x3_1 x5_2).f1)) := hcc42 1 _ rfl
        have hx42_2 : w47.cell? ⟨go42, (x5_2 : Int).toNat * 3 + 2, none⟩ = some (.bool ((Zaf x3_1 x5_2).f2)) := hcc42 2 _ rfl
        have hf42_0 : w47.frozen? ⟨go42, (x5_2 : Int).toNat * 3, none⟩ = false := hfr42 0
        have hf42_1 : w47.frozen? ⟨go42, (x5_2 : Int).toNat * 3 + 1, none⟩ = false := hfr42 1
        have hf42_2 : w47.frozen? ⟨go42, (x5_2 : Int).toNat * 3 + 2, none⟩ = false := hfr42 2
        clear hcl42 hcc42 hfr42 hM42
        replace p42 := eq_true p42
        replace q42 := eq_true q42
        have HX48 := Za.mk (show Kd.R k44 44 w47 w.heap.size (fun _ => True) (.slice (some ⟨go42, 0, none⟩) x3_1.length co44) x3_1 from (RD HO_3))
        obtain ⟨ce48, hcl48, hM48, hcc48, hfr48⟩ := Kd.R_elem HX48.out z44 (x5_2 : Int) (of_decide_eq_true t9_1) (by have h_ : (x5_2 : Int) < ((x3_1.length : Int) : Int) := of_decide_eq_true t9_1; first | exact h_ | (have e_ := (Kd.Zb HO_3.out).1; omega) | simpa using h_)
        obtain rfl := k44_openM hM48
        have HP48 := Kd.R_seg HX48.out (x5_2 : Int) (of_decide_eq_true t9_1) (by have h_ : (x5_2 : Int) < ((x3_1.length : Int) : Int) := of_decide_eq_true t9_1; first | exact h_ | (have e_ := (Kd.Zb HO_3.out).1; omega) | simpa using h_) (seg := [.bool ((Zaf l0 x4_1).f2)]) (j := 2) hcl48 hcc48 (show 3 ≤ 3 from by decide) (x' := (⟨(Zaf x3_1 x5_2).f0, (Zaf x3_1 x5_2).f1, (Zaf l0 x4_1).f2⟩ : S44)) (k44_mkM _ _ _ (⟨(Zaf x3_1 x5_2).f0, (Zaf x3_1 x5_2).f1, (Zaf l0 x4_1).f2⟩ : S44) ) (fun _ hk => hk)
        have hx48_2 := hcc48 2 _ rfl
        (try simp only [show (k44).sz = 3 from rfl, Nat.mul_one, Nat.add_zero] at hx48_2)
        have hf48_2 := hfr48 2
        (try simp only [show (k44).sz = 3 from rfl, Nat.mul_one, Nat.add_zero] at hf48_2)
        clear hcl48 hcc48 hfr48 hM48
        try go_wp2_with (first | ((with_reducible refine gate_store (t := 4) (p := 61) rfl ?_); refine store_event (t := 4) (p := 61) (v := ?vo_w49) (w1 := (w47.setCell ⟨go42, (x5_2 : Int).toNat * 3 + 2, none⟩ (.bool ((Zaf l0 x4_1).f2)))) ?hg ?ho ?hn ?hr ?_; (case ho => rfl); (case hg => rfl); (case hn => rfl); (case hr => first | (go_simp; done) | (go_simp; rfl)); intro w49 hw; have hg : w47.grownBy w49 (some go42) := (by rw [hw]; exact HP48.2); have hp_ : Kd.R k44 44 w49 w.heap.size (fun _ => True) (.slice (some ⟨go42, 0, none⟩) x3_1.length co44) y232 := (by rw [hw, Ny232.out]; exact HP48.1); clear HP48; have n0_ := Za.mk (hp_); have n1_ := Za.mk ((by rw [hw]; exact Zai (HB.out) GB42.out : Below w.heap.size w w49)); clear HO_3; clear HB; have HO_3 := n0_; have HB := n1_; clear n0_ n1_; clear hg hw hp_))
        go_roundg k2
        case measure => have := HK1.out; have := HK2.out; omega
        case rel => exact ⟨(y232), (wrap64 (x4_1 + 1)), t9_2, H', ⟨by have := HK1.out; have := HK2.out; omega⟩, ⟨RD HO_3⟩, ⟨BD HB⟩⟩
       subst c33
       have H1 : (Zab.l0 k2 l0 (x3_1.set (x5_2 : Int).toNat (⟨(Zaf x3_1 x5_2).f0, (Zaf x3_1 x5_2).f1, true⟩ : S44)) (wrap64 (x4_1 + 1))) = some r := by rw [if_pos rfl] at H; exact H
       clear H
       have H := H1
       clear H1
       obtain ⟨y230, hy230⟩ : ∃ y_ : List (S44), y_ = (x3_1.set (x5_2 : Int).toNat (⟨(Zaf x3_1 x5_2).f0, (Zaf x3_1 x5_2).f1, true⟩ : S44)) := ⟨_, rfl⟩
       replace H : (Zab.l0 k2 l0 y230 (wrap64 (x4_1 + 1))) = some r := by first | (rw [hy230]; with_reducible exact H) | (have H2_ := (Option.bind_some _ _).symm.trans H; rw [hy230]; with_reducible exact H2_) | (have H2_ := (Option.bind_some _ _).symm.trans H; with_reducible exact H2_) | with_reducible exact H | (rw [hy230]; exact H) | exact H
       have Ny230 := Za.mk hy230
       clear hy230
       have H' := Za.mk H
       clear H
       try go_wp2
       have n0_ := Za.mk (Kd.Zbw HO_3.out)
       have n1_ := Za.mk (Zal HB.out)
       clear HO_3
       clear HB
       have HO_3 := n0_
       have HB := n1_
       clear n0_ n1_
       obtain ⟨Ao36, co36, eo36⟩ := Kd.Zbp HO_3.out
       (first | subst eo36 | (injection eo36 with f1_ f2_ f3_; have f4_ := f1_.symm; have f5_ := f3_.symm; clear f1_ f2_ f3_; subst f4_; subst f5_))
       have p206 : 0 ≤ (x5_2 : Int) := of_decide_eq_true t9_1
       have q206 : x5_2 < (x3_1.length : Int) := of_decide_eq_true t9_1
       obtain ⟨ad206, e206, hx206_0, hx206_1, hx206_2⟩ := Zc (Kd.Zb HO_3.out).2.2 x5_2 p206 q206
       (try rw [← Nbq32.out] at hx206_2)
       cases e206
       replace p206 := eq_true p206
       replace q206 := eq_true q206
       have p207 : 0 ≤ (x4_1 : Int) := of_decide_eq_true t9_1
       have q207 : x4_1 < (l0.length : Int) := of_decide_eq_true t9_1
       obtain ⟨ad207, e207, hx207_0, hx207_1, hx207_2⟩ := Zc HR0.out x4_1 p207 q207
       have hw207_2 := hx207_2
       have hw207_1 := hx207_1
       have hw207_0 := hx207_0
       (try rw [← Nbq32.out] at hx207_2)
       cases e207
       replace hx207_0 := (HB.out.cell (World.block_lt_of_cell? w _ hx207_0)).trans hx207_0
       replace hx207_1 := (HB.out.cell (World.block_lt_of_cell? w _ hx207_1)).trans hx207_1
       replace hx207_2 := (HB.out.cell (World.block_lt_of_cell? w _ hx207_2)).trans hx207_2
       replace p207 := eq_true p207
       replace q207 := eq_true q207
       refine Zek (n := 15) (S := fun w' => w'.cell? (ad206.add ((x5_2).toNat * 3)) = some (.int .i64 ((Zaf x3_1 x5_2).f0)) ∧ w'.cell? ⟨(ad206.add ((x5_2).toNat * 3)).block, (ad206.add ((x5_2).toNat * 3)).off + 1, none⟩ = some (.int .u8 ((Zaf x3_1 x5_2).f1)) ∧ w'.cell? ⟨(ad206.add ((x5_2).toNat * 3)).block, (ad206.add ((x5_2).toNat * 3)).off + 2, none⟩ = some (.bool true) ∧ w'.cell? (ad207.add ((x4_1).toNat * 3)) = some (.int .i64 ((Zaf l0 x4_1).f0)) ∧ w'.cell? ⟨(ad207.add ((x4_1).toNat * 3)).block, (ad207.add ((x4_1).toNat * 3)).off + 1, none⟩ = some (.int .u8 ((Zaf l0 x4_1).f1)) ∧ w'.cell? ⟨(ad207.add ((x4_1).toNat * 3)).block, (ad207.add ((x4_1).toNat * 3)).off + 2, none⟩ = some (.bool ((Zaf l0 x4_1).f2))) (ds := []) u9_0 t9_3 rfl rfl ⟨hx206_0, hx206_1, hx206_2, ((HB.out.cell (World.block_lt_of_cell? w _ hw207_0)).trans hw207_0), ((HB.out.cell (World.block_lt_of_cell? w _ hw207_1)).trans hw207_1), ((HB.out.cell (World.block_lt_of_cell? w _ hw207_2)).trans hw207_2)⟩ (fun hHeld => ?_); refine Zcp Zab.tab6 Zab.bits6 (fun HT_ HW_ => ?_)
       generalize wr.drew = w35 at HO_3 HB hx206_0 hx206_1 hx206_2 hx207_0 hx207_1 hx207_2 hHeld ⊢
       refine Zbc (i := 0) (N := some 13) (v := ?_) (a' := ?_) u9_1 rfl rfl (Zaw HT_.out t9_3) (fun _ _ _ h => h) (Or.inl ⟨by rfl, ?_⟩) ?_ ?_
       rotate_left
       ·intro w'
        go_simp
        with_reducible rfl
       rotate_left
       ·simp only [Act.put, s0_, s1_, s2_, Zax, Zay]
        rfl
       refine Zbc (i := 1) (N := some 14) (v := ?_) (a' := ?_) u9_2 rfl rfl (Zaw HT_.out t9_3) (fun _ _ _ h => h) (Or.inl ⟨by rfl, ?_⟩) ?_ ?_
       rotate_left
       ·intro w'
        go_simp
        with_reducible rfl
       rotate_left
       ·simp only [Act.put, s0_, s1_, s2_, Zax, Zay]
        rfl
       refine Zbc (i := 2) (N := some 15) (v := ?_) (a' := ?_) u9_3 rfl rfl (Zaw HT_.out t9_3) (fun _ _ _ h => h) (Or.inl ⟨by rfl, ?_⟩) ?_ ?_
       rotate_left
       ·intro w'
        go_simp
        with_reducible rfl
       rotate_left
       ·simp only [Act.put, s0_, s1_, s2_, Zax, Zay]
        rfl
       refine Zbc (i := 3) (N := some 16) (v := ?_) (a' := ?_) u9_4 rfl rfl (Zaw HT_.out t9_3) (fun _ _ _ h => h) (Or.inl ⟨by rfl, ?_⟩) ?_ ?_
       rotate_left
       ·intro w'
        go_simp
        with_reducible rfl
       rotate_left
       ·simp only [Act.put, s0_, s1_, s2_, Zax, Zay]
        rfl
       refine Zbc (i := 4) (N := some 17) (v := ?_) (a' := ?_) u9_5 rfl rfl (Zaw HT_.out t9_3) (fun _ _ _ h => h) (Or.inl ⟨by rfl, ?_⟩) ?_ ?_
       rotate_left
       ·intro w'
        go_simp
        with_reducible rfl
       rotate_left
       ·simp only [Act.put, s0_, s1_, s2_, Zax, Zay]
        rfl
       refine Zbc (i := 5) (N := some 18) (v := ?_) (a' := ?_) u9_6 rfl rfl (Zaw HT_.out t9_3) (fun _ _ _ h => h) (Or.inl ⟨by rfl, ?_⟩) ?_ ?_
       rotate_left
       ·intro w'
        go_simp
        with_reducible rfl
       rotate_left
       ·simp only [Act.put, s0_, s1_, s2_, Zax, Zay]
        rfl
       refine Zbc (i := 6) (N := some 19) (v := ?_) (a' := ?_) u9_7 rfl rfl (Zaw HT_.out t9_3) (fun _ _ _ h => h) (Or.inl ⟨by rfl, ?_⟩) ?_ ?_
       rotate_left
       ·intro w'
        go_simp
        with_reducible rfl
       rotate_left
       ·simp only [Act.put, s0_, s1_, s2_, Zax, Zay]
        rfl
       refine Zbc (i := 7) (N := some 20) (v := ?_) (a' := ?_) u9_8 rfl rfl (Zaw HT_.out t9_3) (fun _ _ _ h => h) (Or.inl ⟨by rfl, ?_⟩) ?_ ?_
       rotate_left
       ·intro w'
        go_simp
        with_reducible rfl
       rotate_left
       ·simp only [Act.put, s0_, s1_, s2_, Zax, Zay]
        rfl
       refine Zbc (i := 9) (N := some 22) (v := ?_) (a' := ?_) u9_9 rfl rfl (Zaw HT_.out t9_3) (fun _ _ _ h => h) (Or.inl ⟨by rfl, ?_⟩) ?_ ?_
       rotate_left
       ·intro w'
        go_simp
        with_reducible rfl
       rotate_left
       ·simp only [Act.put, s0_, s1_, s2_, Zax, Zay]
        rfl
       refine Zbc (i := 10) (N := some 23) (v := ?_) (a' := ?_) u9_10 rfl rfl (Zaw HT_.out t9_3) (fun _ _ _ h => h) (Or.inl ⟨by rfl, ?_⟩) ?_ ?_
       rotate_left
       ·intro w'
        go_simp
        with_reducible rfl
       rotate_left
       ·simp only [Act.put, s0_, s1_, s2_, Zax, Zay]
        rfl
       refine Zbc (i := 11) (N := some 24) (v := ?_) (a' := ?_) u9_11 rfl rfl (Zaw HT_.out t9_3) (fun _ _ _ h => h) (Or.inl ⟨by rfl, ?_⟩) ?_ ?_
       rotate_left
       ·intro w'
        go_simp
        with_reducible rfl
       rotate_left
       ·simp only [Act.put, s0_, s1_, s2_, Zax, Zay]
        rfl
       refine Zdh (i := 8) (N := some 21) (v := ?_) (a' := ?_) u9_12 rfl rfl (Zbt HT_.out HW_.out t9_3) (fun _ _ _ h => h) (Or.inl ⟨by rfl, ?_⟩) hHeld ?_ ?_
       rotate_left
       ·rintro w' ⟨s0, s1, s2, s3, s4, s5⟩
        go_simp
        with_reducible rfl
       rotate_left
       ·simp only [Act.put, s0_, s1_, s2_, Zax, Zay]
        rfl
       refine Zdh (i := 12) (N := some 25) (v := ?_) (a' := ?_) u9_13 rfl rfl (Zbt HT_.out HW_.out t9_3) (fun _ _ _ h => h) (Or.inl ⟨by rfl, ?_⟩) hHeld ?_ ?_
       rotate_left
       ·rintro w' ⟨s0, s1, s2, s3, s4, s5⟩
        go_simp
        with_reducible rfl
       rotate_left
       ·simp only [Act.put, s0_, s1_, s2_, Zax, Zay]
        rfl
       refine one_ (i := 13) (N := some 26) u9_14 rfl rfl (Zda HT_.out t9_3) t9_4 (fun K hK => ?_)
       refine goes_ Try.func75 t9_3 rfl #[.agg #[.int .i64 ((Zaf x3_1 x5_2).f0), .int .u8 ((Zaf x3_1 x5_2).f1), .bool true], .agg #[.int .i64 ((Zaf l0 x4_1).f0), .int .u8 ((Zaf l0 x4_1).f1), .bool ((Zaf l0 x4_1).f2)]] (by rfl) rfl rfl t9_0 ?_
       with_reducible refine (Zbs.calls ((Zaf x3_1 x5_2).f0) ((Zaf x3_1 x5_2).f1) true ((Zaf l0 x4_1).f0) ((Zaf l0 x4_1).f1) ((Zaf l0 x4_1).f2) false _ (by first | exact A7.out | (have A_ := A7.out; rw [← Nbq32.out] at A_; exact A_))).mono ?_
       rintro e w37 ⟨rfl, hb⟩
       have HS0_ := (hb.cell (World.block_lt_of_cell? _ _ (hHeld.1))).trans (hHeld.1)
       have HS1_ := (hb.cell (World.block_lt_of_cell? _ _ (hHeld.2.1))).trans (hHeld.2.1)
       have HS2_ := (hb.cell (World.block_lt_of_cell? _ _ (hHeld.2.2.1))).trans (hHeld.2.2.1)
       refine ⟨_, rfl, ?_⟩
       have n0_ := RB HO_3 hb
       have n1_ := BS HB hb
       clear HO_3
       clear HB
       have HO_3 := n0_
       have HB := n1_
       clear n0_ n1_
       (try clear hb)
       (try clear hb2)
       (try clear hk)
       (try clear hi)
       refine hK.out _ _ ⟨HS0_, HS1_, HS2_, ((HB.out.cell (World.block_lt_of_cell? w _ hw207_0)).trans hw207_0), ((HB.out.cell (World.block_lt_of_cell? w _ hw207_1)).trans hw207_1), ((HB.out.cell (World.block_lt_of_cell? w _ hw207_2)).trans hw207_2)⟩ (fun hHeld => ?_)
       clear hK K
       refine Zem (a' := ?_) ?_ ?_
       rotate_left
       ·show Act.put _ (some 26) _ = _
        simp only [Act.put, s0_, s1_, s2_, Zax, Zay]
        rfl
       refine Zbc (i := 14) (N := some 27) (v := ?_) (a' := ?_) u9_15 rfl rfl (Zaw HT_.out t9_3) (fun _ _ _ h => h) (Or.inl ⟨by rfl, ?_⟩) ?_ ?_
       rotate_left
       ·intro w'
        go_simp
        with_reducible rfl
       rotate_left
       ·simp only [Act.put, s0_, s1_, s2_, Zax, Zay]
        rfl
       refine done_ (Zdj HT_.out t9_3) ?_
       try go_wp2
       have n0_ := Za.mk (Kd.Zbw HO_3.out)
       have n1_ := Za.mk (Zal HB.out)
       clear HO_3
       clear HB
       have HO_3 := n0_
       have HB := n1_
       clear n0_ n1_
       have p209 : 0 ≤ (x4_1 : Int) := of_decide_eq_true t9_1
       have q209 : x4_1 < (l0.length : Int) := of_decide_eq_true t9_1
       obtain ⟨ad209, e209, hx209_0, hx209_1, hx209_2⟩ := Zc HR0.out x4_1 p209 q209
       have hw209_2 := hx209_2
       have hw209_1 := hx209_1
       have hw209_0 := hx209_0
       (try rw [← Nbq32.out] at hx209_2)
       obtain rfl : ad207 = ad209 := (by injection e209)
       replace hx209_0 := (HB.out.cell (World.block_lt_of_cell? w _ hx209_0)).trans hx209_0
       replace hx209_1 := (HB.out.cell (World.block_lt_of_cell? w _ hx209_1)).trans hx209_1
       replace hx209_2 := (HB.out.cell (World.block_lt_of_cell? w _ hx209_2)).trans hx209_2
       replace p209 := eq_true p209
       replace q209 := eq_true q209
       have p210 : 0 ≤ (x5_2 : Int) := of_decide_eq_true t9_1
       have q210 : x5_2 < (x3_1.length : Int) := of_decide_eq_true t9_1
       obtain ⟨ad210, e210, hx210_0, hx210_1, hx210_2⟩ := Zc (Kd.Zb HO_3.out).2.2 x5_2 p210 q210
       (try rw [← Nbq32.out] at hx210_2)
       obtain rfl : ad206 = ad210 := (by injection e210)
       replace p210 := eq_true p210
       replace q210 := eq_true q210
       refine Zek (n := 16) (S := fun w' => w'.cell? (ad207.add ((x4_1).toNat * 3)) = some (.int .i64 ((Zaf l0 x4_1).f0)) ∧ w'.cell? ⟨(ad207.add ((x4_1).toNat * 3)).block, (ad207.add ((x4_1).toNat * 3)).off + 1, none⟩ = some (.int .u8 ((Zaf l0 x4_1).f1)) ∧ w'.cell? ⟨(ad207.add ((x4_1).toNat * 3)).block, (ad207.add ((x4_1).toNat * 3)).off + 2, none⟩ = some (.bool ((Zaf l0 x4_1).f2)) ∧ w'.cell? (ad206.add ((x5_2).toNat * 3)) = some (.int .i64 ((Zaf x3_1 x5_2).f0)) ∧ w'.cell? ⟨(ad206.add ((x5_2).toNat * 3)).block, (ad206.add ((x5_2).toNat * 3)).off + 1, none⟩ = some (.int .u8 ((Zaf x3_1 x5_2).f1)) ∧ w'.cell? ⟨(ad206.add ((x5_2).toNat * 3)).block, (ad206.add ((x5_2).toNat * 3)).off + 2, none⟩ = some (.bool true)) (ds := []) u9_16 t9_3 rfl rfl ⟨((HB.out.cell (World.block_lt_of_cell? w _ hw209_0)).trans hw209_0), ((HB.out.cell (World.block_lt_of_cell? w _ hw209_1)).trans hw209_1), ((HB.out.cell (World.block_lt_of_cell? w _ hw209_2)).trans hw209_2), hx210_0, hx210_1, hx210_2⟩ (fun hHeld => ?_); refine Zcp Zab.tab8 Zab.bits8 (fun HT_ HW_ => ?_)
       generalize w37.drew = w38 at HO_3 HB hx209_0 hx209_1 hx209_2 hx210_0 hx210_1 hx210_2 hHeld ⊢
       refine Zbc (i := 0) (N := some 30) (v := ?_) (a' := ?_) u9_17 rfl rfl (Zaw HT_.out t9_3) (fun _ _ _ h => h) (Or.inl ⟨by rfl, ?_⟩) ?_ ?_
       rotate_left
       ·intro w'
        go_simp
        with_reducible rfl
       rotate_left
       ·simp only [Act.put, s0_, s1_, s2_, Zax, Zay]
        rfl
       refine Zbc (i := 1) (N := some 31) (v := ?_) (a' := ?_) u9_18 rfl rfl (Zaw HT_.out t9_3) (fun _ _ _ h => h) (Or.inl ⟨by rfl, ?_⟩) ?_ ?_
       rotate_left
       ·intro w'
        go_simp
        with_reducible rfl
       rotate_left
       ·simp only [Act.put, s0_, s1_, s2_, Zax, Zay]
        rfl
       refine Zbc (i := 2) (N := some 32) (v := ?_) (a' := ?_) u9_19 rfl rfl (Zaw HT_.out t9_3) (fun _ _ _ h => h) (Or.inl ⟨by rfl, ?_⟩) ?_ ?_
       rotate_left
       ·intro w'
        go_simp
        with_reducible rfl
       rotate_left
       ·simp only [Act.put, s0_, s1_, s2_, Zax, Zay]
        rfl
       refine Zbc (i := 3) (N := some 33) (v := ?_) (a' := ?_) u9_20 rfl rfl (Zaw HT_.out t9_3) (fun _ _ _ h => h) (Or.inl ⟨by rfl, ?_⟩) ?_ ?_
       rotate_left
       ·intro w'
        go_simp
        with_reducible rfl
       rotate_left
       ·simp only [Act.put, s0_, s1_, s2_, Zax, Zay]
        rfl
       refine Zbc (i := 4) (N := some 34) (v := ?_) (a' := ?_) u9_21 rfl rfl (Zaw HT_.out t9_3) (fun _ _ _ h => h) (Or.inl ⟨by rfl, ?_⟩) ?_ ?_
       rotate_left
       ·intro w'
        go_simp
        with_reducible rfl
       rotate_left
       ·simp only [Act.put, s0_, s1_, s2_, Zax, Zay]
        rfl
       refine Zbc (i := 5) (N := some 35) (v := ?_) (a' := ?_) u9_22 rfl rfl (Zaw HT_.out t9_3) (fun _ _ _ h => h) (Or.inl ⟨by rfl, ?_⟩) ?_ ?_
       rotate_left
       ·intro w'
        go_simp
        with_reducible rfl
       rotate_left
       ·simp only [Act.put, s0_, s1_, s2_, Zax, Zay]
        rfl
       refine Zbc (i := 6) (N := some 36) (v := ?_) (a' := ?_) u9_23 rfl rfl (Zaw HT_.out t9_3) (fun _ _ _ h => h) (Or.inl ⟨by rfl, ?_⟩) ?_ ?_
       rotate_left
       ·intro w'
        go_simp
        with_reducible rfl
       rotate_left
       ·simp only [Act.put, s0_, s1_, s2_, Zax, Zay]
        rfl
       refine Zbc (i := 7) (N := some 37) (v := ?_) (a' := ?_) u9_24 rfl rfl (Zaw HT_.out t9_3) (fun _ _ _ h => h) (Or.inl ⟨by rfl, ?_⟩) ?_ ?_
       rotate_left
       ·intro w'
        go_simp
        with_reducible rfl
       rotate_left
       ·simp only [Act.put, s0_, s1_, s2_, Zax, Zay]
        rfl
       refine Zbc (i := 9) (N := some 39) (v := ?_) (a' := ?_) u9_25 rfl rfl (Zaw HT_.out t9_3) (fun _ _ _ h => h) (Or.inl ⟨by rfl, ?_⟩) ?_ ?_
       rotate_left
       ·intro w'
        go_simp
        with_reducible rfl
       rotate_left
       ·simp only [Act.put, s0_, s1_, s2_, Zax, Zay]
        rfl
       refine Zbc (i := 10) (N := some 40) (v := ?_) (a' := ?_) u9_26 rfl rfl (Zaw HT_.out t9_3) (fun _ _ _ h => h) (Or.inl ⟨by rfl, ?_⟩) ?_ ?_
       rotate_left
       ·intro w'
        go_simp
        with_reducible rfl
       rotate_left
       ·simp only [Act.put, s0_, s1_, s2_, Zax, Zay]
        rfl
       refine Zbc (i := 11) (N := some 41) (v := ?_) (a' := ?_) u9_27 rfl rfl (Zaw HT_.out t9_3) (fun _ _ _ h => h) (Or.inl ⟨by rfl, ?_⟩) ?_ ?_
       rotate_left
       ·intro w'
        go_simp
        with_reducible rfl
       rotate_left
       ·simp only [Act.put, s0_, s1_, s2_, Zax, Zay]
        rfl
       refine Zdh (i := 8) (N := some 38) (v := ?_) (a' := ?_) u9_28 rfl rfl (Zbt HT_.out HW_.out t9_3) (fun _ _ _ h => h) (Or.inl ⟨by rfl, ?_⟩) hHeld ?_ ?_
       rotate_left
       ·rintro w' ⟨s0, s1, s2, s3, s4, s5⟩
        go_simp
        with_reducible rfl
       rotate_left
       ·simp only [Act.put, s0_, s1_, s2_, Zax, Zay]
        rfl
       refine Zdh (i := 12) (N := some 42) (v := ?_) (a' := ?_) u9_29 rfl rfl (Zbt HT_.out HW_.out t9_3) (fun _ _ _ h => h) (Or.inl ⟨by rfl, ?_⟩) hHeld ?_ ?_
       rotate_left
       ·rintro w' ⟨s0, s1, s2, s3, s4, s5⟩
        go_simp
        with_reducible rfl
       rotate_left
       ·simp only [Act.put, s0_, s1_, s2_, Zax, Zay]
        rfl
       refine one_ (i := 13) (N := some 43) u9_30 rfl rfl (Zda HT_.out t9_3) t9_4 (fun K hK => ?_)
       refine goes_ Try.func75 t9_3 rfl #[.agg #[.int .i64 ((Zaf l0 x4_1).f0), .int .u8 ((Zaf l0 x4_1).f1), .bool ((Zaf l0 x4_1).f2)], .agg #[.int .i64 ((Zaf x3_1 x5_2).f0), .int .u8 ((Zaf x3_1 x5_2).f1), .bool true]] (by rfl) rfl rfl t9_0 ?_
       with_reducible refine (Zbs.calls ((Zaf l0 x4_1).f0) ((Zaf l0 x4_1).f1) ((Zaf l0 x4_1).f2) ((Zaf x3_1 x5_2).f0) ((Zaf x3_1 x5_2).f1) true false _ (by first | exact A12.out | (have A_ := A12.out; rw [← Nbq32.out] at A_; exact A_))).mono ?_
       rintro e w39 ⟨rfl, hb⟩
       have HS3_ := (hb.cell (World.block_lt_of_cell? _ _ (hHeld.2.2.2.1))).trans (hHeld.2.2.2.1)
       have HS4_ := (hb.cell (World.block_lt_of_cell? _ _ (hHeld.2.2.2.2.1))).trans (hHeld.2.2.2.2.1)
       have HS5_ := (hb.cell (World.block_lt_of_cell? _ _ (hHeld.2.2.2.2.2))).trans (hHeld.2.2.2.2.2)
       refine ⟨_, rfl, ?_⟩
       have n0_ := RB HO_3 hb
       have n1_ := BS HB hb
       clear HO_3
       clear HB
       have HO_3 := n0_
       have HB := n1_
       clear n0_ n1_
       (try clear hb)
       (try clear hb2)
       (try clear hk)
       (try clear hi)
       refine hK.out _ _ ⟨((HB.out.cell (World.block_lt_of_cell? w _ hw209_0)).trans hw209_0), ((HB.out.cell (World.block_lt_of_cell? w _ hw209_1)).trans hw209_1), ((HB.out.cell (World.block_lt_of_cell? w _ hw209_2)).trans hw209_2), HS3_, HS4_, HS5_⟩ (fun hHeld => ?_)
       clear hK K
       refine Zem (a' := ?_) ?_ ?_
       rotate_left
       ·show Act.put _ (some 43) _ = _
        simp only [Act.put, s0_, s1_, s2_, Zax, Zay]
        rfl
       refine Zbc (i := 14) (N := some 44) (v := ?_) (a' := ?_) u9_31 rfl rfl (Zaw HT_.out t9_3) (fun _ _ _ h => h) (Or.inl ⟨by rfl, ?_⟩) ?_ ?_
       rotate_left
       ·intro w'
        go_simp
        with_reducible rfl
       rotate_left
       ·simp only [Act.put, s0_, s1_, s2_, Zax, Zay]
        rfl
       refine Zbc (i := 15) (N := some 45) (v := ?_) (a' := ?_) u9_32 rfl rfl (Zaw HT_.out t9_3) (fun _ _ _ h => h) (Or.inl ⟨by rfl, ?_⟩) ?_ ?_
       rotate_left
       ·intro w'
        go_simp
        with_reducible rfl
       rotate_left
       ·simp only [Act.put, s0_, s1_, s2_, Zax, Zay]
        rfl
       refine done_ (Zdj HT_.out t9_3) ?_
       have p229 : 0 ≤ (x5_2 : Int) := of_decide_eq_true t9_1
       have q229 : x5_2 < (x3_1.length : Int) := of_decide_eq_true t9_1
       obtain ⟨ad229, e229, hx229_0, hx229_1, hx229_2⟩ := Zc (Kd.Zb HO_3.out).2.2 x5_2 p229 q229
       (try rw [← Nbq32.out] at hx229_2)
       obtain rfl : ad206 = ad229 := (by injection e229)
       replace p229 := eq_true p229
       replace q229 := eq_true q229
       have p34 : 0 ≤ (x5_2 : Int) := of_decide_eq_true t9_1
       have q34 : (x5_2 : Int) < ((x3_1.length : Int) : Int) := of_decide_eq_true t9_1
       obtain ⟨go34, co34, eo34, gb34, gl34, cl34, HG34⟩ := Kd.R_form HO_3.out (by omega)
       (first | cases eo34 | (injection eo34 with ea_ en_ ec_; (first | subst ea_ | (injection ea_ with ea_; subst ea_)); subst ec_; clear en_))
       have GB34 := Za.mk gb34
       have GG34 := Za.mk HG34
       clear gb34 gl34 HG34
       (first | simp only [add_plain] at hx206_0 | skip)
       (first | simp only [add_plain] at hx206_1 | skip)
       (first | simp only [add_plain] at hx206_2 | skip)
       (first | simp only [add_plain] at hx210_0 | skip)
       (first | simp only [add_plain] at hx210_1 | skip)
       (first | simp only [add_plain] at hx210_2 | skip)
       (first | simp only [add_plain] at hx229_0 | skip)
       (first | simp only [add_plain] at hx229_1 | skip)
       (first | simp only [add_plain] at hx229_2 | skip)
       obtain ⟨ce34, hcl34, hM34, hcc34, hfr34⟩ := Kd.R_elem HO_3.out z44 (x5_2 : Int) p34 q34
       obtain rfl := k44_openM hM34
       have hx34_0 : w39.cell? ⟨go34, (x5_2 : Int).toNat * 3, none⟩ = some (.int .i64 ((Zaf x3_1 x5_2).f0)) := hcc34 0 _ rfl
       have hx34_1 : w39.cell? ⟨go34, (x5_2 : Int).toNat * 3 + 1, none⟩ = some (.int .u8 ((Zaf x3_1 x5_2).f1)) := hcc34 1 _ rfl
       have hx34_2 : w39.cell? ⟨go34, (x5_2 : Int).toNat * 3 + 2, none⟩ = some (.bool ((Zaf x3_1 x5_2).f2)) := hcc34 2 _ rfl
       have hf34_0 : w39.frozen? ⟨go34, (x5_2 : Int).toNat * 3, none⟩ = false := hfr34 0
       have hf34_1 : w39.frozen? ⟨go34, (x5_2 : Int).toNat * 3 + 1, none⟩ = false := hfr34 1
       have hf34_2 : w39.frozen? ⟨go34, (x5_2 : Int).toNat * 3 + 2, none⟩ = false := hfr34 2
       clear hcl34 hcc34 hfr34 hM34
       replace p34 := eq_true p34
       replace q34 := eq_true q34
       have HX40 := Za.mk (show Kd.R k44 44 w39 w.heap.size (fun _ => True) (.slice (some ⟨go34, 0, none⟩) x3_1.length co36) x3_1 from (RD HO_3))
       obtain ⟨ce40, hcl40, hM40, hcc40, hfr40⟩ := Kd.R_elem HX40.out z44 (x5_2 : Int) (of_decide_eq_true t9_1) (by have h_ : (x5_2 : Int) < ((x3_1.length : Int) : Int) := of_decide_eq_true t9_1; first | exact h_ | (have e_ := (Kd.Zb HO_3.out).1; omega) | simpa using h_)
       obtain rfl := k44_openM hM40
       have HP40 := Kd.R_seg HX40.out (x5_2 : Int) (of_decide_eq_true t9_1) (by have h_ : (x5_2 : Int) < ((x3_1.length : Int) : Int) := of_decide_eq_true t9_1; first | exact h_ | (have e_ := (Kd.Zb HO_3.out).1; omega) | simpa using h_) (seg := [.bool true]) (j := 2) hcl40 hcc40 (show 3 ≤ 3 from by decide) (x' := (⟨(Zaf x3_1 x5_2).f0, (Zaf x3_1 x5_2).f1, true⟩ : S44)) (k44_mkM _ _ _ (⟨(Zaf x3_1 x5_2).f0, (Zaf x3_1 x5_2).f1, true⟩ : S44) ) (fun _ hk => hk)
       have hx40_2 := hcc40 2 _ rfl
       (try simp only [show (k44).sz = 3 from rfl, Nat.mul_one, Nat.add_zero] at hx40_2)
       have hf40_2 := hfr40 2
       (try simp only [show (k44).sz = 3 from rfl, Nat.mul_one, Nat.add_zero] at hf40_2)
       clear hcl40 hcc40 hfr40 hM40
       try go_wp2_with (first | ((with_reducible refine gate_store (t := 4) (p := 61) rfl ?_); refine store_event (t := 4) (p := 61) (v := ?vo_w41) (w1 := (w39.setCell ⟨go34, (x5_2 : Int).toNat * 3 + 2, none⟩ (.bool true))) ?hg ?ho ?hn ?hr ?_; (case ho => rfl); (case hg => rfl); (case hn => rfl); (case hr => first | (go_simp; done) | (go_simp; rfl)); intro w41 hw; have hg : w39.grownBy w41 (some go34) := (by rw [hw]; exact HP40.2); have hp_ : Kd.R k44 44 w41 w.heap.size (fun _ => True) (.slice (some ⟨go34, 0, none⟩) x3_1.length co36) y230 := (by rw [hw, Ny230.out]; exact HP40.1); clear HP40; have n0_ := Za.mk (hp_); have n1_ := Za.mk ((by rw [hw]; exact Zai (HB.out) GB34.out : Below w.heap.size w w41)); clear HO_3; clear HB; have HO_3 := n0_; have HB := n1_; clear n0_ n1_; clear hg hw hp_))
       go_roundg k2
       case measure => have := HK1.out; have := HK2.out; omega
       case rel => exact ⟨(y230), (wrap64 (x4_1 + 1)), t9_2, H', ⟨by have := HK1.out; have := HK2.out; omega⟩, ⟨RD HO_3⟩, ⟨BD HB⟩⟩
      subst c13
      have H1 : (if x5_2 ≤ (x3_1.length : Int) then ((some (x3_1.drop (x5_2 : Int).toNat : List (S44))).bind fun y212 => (if ([] : List (S44)).length + y212.length < 8796093022208 then ((some (([] : List (S44)) ++ y212 : List (S44))).bind fun y216 => ((some (x3_1.take (x5_2 : Int).toNat : List (S44))).bind fun y219 => (if y219.length < 8796093022208 then ((some (y219 ++ [(⟨(Zaf l0 x4_1).f0, (Zaf l0 x4_1).f1, (Zaf l0 x4_1).f2⟩ : S44)] : List (S44))).bind fun y223 => (if y223.length + y216.length < 8796093022208 then (Zab.l0 k2 l0 (y223 ++ y216) (wrap64 (x4_1 + 1))) else (none))) else (none)))) else (none))) else (none)) = some r := by rw [if_pos rfl] at H; exact H
      clear H
      have H := H1
      clear H1
      have c14b0 := eq_true (of_decide_eq_true t9_1 : 0 ≤ x5_2)
      by_cases c15 : x5_2 ≤ (x3_1.length : Int)
      case neg =>
       rw [if_neg c15] at H
       exact absurd H (by simp)
      rw [if_pos c15] at H
      have c15b0 := eq_true c15
      have c15b1 : decide (x5_2 ≤ (x3_1.length : Int)) = true := decide_eq_true c15
      clear c15
      obtain ⟨y212, hy212⟩ : ∃ y_ : List (S44), y_ = (x3_1.drop (x5_2 : Int).toNat) := ⟨_, rfl⟩
      replace H : (if ([] : List (S44)).length + y212.length < 8796093022208 then ((some (([] : List (S44)) ++ y212 : List (S44))).bind fun y216 => ((some (x3_1.take (x5_2 : Int).toNat : List (S44))).bind fun y219 => (if y219.length < 8796093022208 then ((some (y219 ++ [(⟨(Zaf l0 x4_1).f0, (Zaf l0 x4_1).f1, (Zaf l0 x4_1).f2⟩ : S44)] : List (S44))).bind fun y223 => (if y223.length + y216.length < 8796093022208 then (Zab.l0 k2 l0 (y223 ++ y216) (wrap64 (x4_1 + 1))) else (none))) else (none)))) else (none)) = some r := by first | (rw [hy212]; with_reducible exact H) | (have H2_ := (Option.bind_some _ _).symm.trans H; rw [hy212]; with_reducible exact H2_) | (have H2_ := (Option.bind_some _ _).symm.trans H; with_reducible exact H2_) | with_reducible exact H | (rw [hy212]; exact H) | exact H
      have Ny212 := Za.mk hy212
      clear hy212
      by_cases c16 : ([] : List (S44)).length + y212.length < 8796093022208
      case neg =>
       rw [if_neg c16] at H
       exact absurd H (by simp)
      rw [if_pos c16] at H
      have LMc16 := Za.mk c16
      clear c16
      obtain ⟨y216, hy216⟩ : ∃ y_ : List (S44), y_ = (([] : List (S44)) ++ y212) := ⟨_, rfl⟩
      replace H : ((some (x3_1.take (x5_2 : Int).toNat : List (S44))).bind fun y219 => (if y219.length < 8796093022208 then ((some (y219 ++ [(⟨(Zaf l0 x4_1).f0, (Zaf l0 x4_1).f1, (Zaf l0 x4_1).f2⟩ : S44)] : List (S44))).bind fun y223 => (if y223.length + y216.length < 8796093022208 then (Zab.l0 k2 l0 (y223 ++ y216) (wrap64 (x4_1 + 1))) else (none))) else (none))) = some r := by first | (rw [hy216]; with_reducible exact H) | (have H2_ := (Option.bind_some _ _).symm.trans H; rw [hy216]; with_reducible exact H2_) | (have H2_ := (Option.bind_some _ _).symm.trans H; with_reducible exact H2_) | with_reducible exact H | (rw [hy216]; exact H) | exact H
      have Ny216 := Za.mk hy216
      clear hy216
      have c17b0 := eq_true (of_decide_eq_true t9_1 : x5_2 ≤ (x3_1.length : Int))
      obtain ⟨y219, hy219⟩ : ∃ y_ : List (S44), y_ = (x3_1.take (x5_2 : Int).toNat) := ⟨_, rfl⟩
      replace H : (if y219.length < 8796093022208 then ((some (y219 ++ [(⟨(Zaf l0 x4_1).f0, (Zaf l0 x4_1).f1, (Zaf l0 x4_1).f2⟩ : S44)] : List (S44))).bind fun y223 => (if y223.length + y216.length < 8796093022208 then (Zab.l0 k2 l0 (y223 ++ y216) (wrap64 (x4_1 + 1))) else (none))) else (none)) = some r := by first | (rw [hy219]; with_reducible exact H) | (have H2_ := (Option.bind_some _ _).symm.trans H; rw [hy219]; with_reducible exact H2_) | (have H2_ := (Option.bind_some _ _).symm.trans H; with_reducible exact H2_) | with_reducible exact H | (rw [hy219]; exact H) | exact H
      have Ny219 := Za.mk hy219
      clear hy219
      by_cases c18 : y219.length < 8796093022208
      case neg =>
       rw [if_neg c18] at H
       exact absurd H (by simp)
      rw [if_pos c18] at H
      have LMc18 := Za.mk c18
      clear c18
      obtain ⟨y223, hy223⟩ : ∃ y_ : List (S44), y_ = (y219 ++ [(⟨(Zaf l0 x4_1).f0, (Zaf l0 x4_1).f1, (Zaf l0 x4_1).f2⟩ : S44)]) := ⟨_, rfl⟩
      replace H : (if y223.length + y216.length < 8796093022208 then (Zab.l0 k2 l0 (y223 ++ y216) (wrap64 (x4_1 + 1))) else (none)) = some r := by first | (rw [hy223]; with_reducible exact H) | (have H2_ := (Option.bind_some _ _).symm.trans H; rw [hy223]; with_reducible exact H2_) | (have H2_ := (Option.bind_some _ _).symm.trans H; with_reducible exact H2_) | with_reducible exact H | (rw [hy223]; exact H) | exact H
      have Ny223 := Za.mk hy223
      clear hy223
      by_cases c19 : y223.length + y216.length < 8796093022208
      case neg =>
       rw [if_neg c19] at H
       exact absurd H (by simp)
      rw [if_pos c19] at H
      have LMc19 := Za.mk c19
      clear c19
      obtain ⟨y226, hy226⟩ : ∃ y_ : List (S44), y_ = (y223 ++ y216) := ⟨_, rfl⟩
      replace H : (Zab.l0 k2 l0 y226 (wrap64 (x4_1 + 1))) = some r := by first | (rw [hy226]; with_reducible exact H) | (have H2_ := (Option.bind_some _ _).symm.trans H; rw [hy226]; with_reducible exact H2_) | (have H2_ := (Option.bind_some _ _).symm.trans H; with_reducible exact H2_) | with_reducible exact H | (rw [hy226]; exact H) | exact H
      have Ny226 := Za.mk hy226
      clear hy226
      have H' := Za.mk H
      clear H
      try go_wp2
      have n0_ := Za.mk (Kd.Zbw HO_3.out)
      have n1_ := Za.mk (Zal HB.out)
      clear HO_3
      clear HB
      have HO_3 := n0_
      have HB := n1_
      clear n0_ n1_
      obtain ⟨Ao21, co21, eo21⟩ := Kd.Zbp HO_3.out
      (first | subst eo21 | (injection eo21 with f1_ f2_ f3_; have f4_ := f1_.symm; have f5_ := f3_.symm; clear f1_ f2_ f3_; subst f4_; subst f5_))
      have p206 : 0 ≤ (x5_2 : Int) := of_decide_eq_true t9_1
      have q206 : x5_2 < (x3_1.length : Int) := of_decide_eq_true t9_1
      obtain ⟨ad206, e206, hx206_0, hx206_1, hx206_2⟩ := Zc (Kd.Zb HO_3.out).2.2 x5_2 p206 q206
      cases e206
      replace p206 := eq_true p206
      replace q206 := eq_true q206
      have p207 : 0 ≤ (x4_1 : Int) := of_decide_eq_true t9_1
      have q207 : x4_1 < (l0.length : Int) := of_decide_eq_true t9_1
      obtain ⟨ad207, e207, hx207_0, hx207_1, hx207_2⟩ := Zc HR0.out x4_1 p207 q207
      have hw207_2 := hx207_2
      have hw207_1 := hx207_1
      have hw207_0 := hx207_0
      cases e207
      replace hx207_0 := (HB.out.cell (World.block_lt_of_cell? w _ hx207_0)).trans hx207_0
      replace hx207_1 := (HB.out.cell (World.block_lt_of_cell? w _ hx207_1)).trans hx207_1
      replace hx207_2 := (HB.out.cell (World.block_lt_of_cell? w _ hx207_2)).trans hx207_2
      replace p207 := eq_true p207
      replace q207 := eq_true q207
      refine Zek (n := 15) (S := fun w' => w'.cell? (ad206.add ((x5_2).toNat * 3)) = some (.int .i64 ((Zaf x3_1 x5_2).f0)) ∧ w'.cell? ⟨(ad206.add ((x5_2).toNat * 3)).block, (ad206.add ((x5_2).toNat * 3)).off + 1, none⟩ = some (.int .u8 ((Zaf x3_1 x5_2).f1)) ∧ w'.cell? ⟨(ad206.add ((x5_2).toNat * 3)).block, (ad206.add ((x5_2).toNat * 3)).off + 2, none⟩ = some (.bool ((Zaf x3_1 x5_2).f2)) ∧ w'.cell? (ad207.add ((x4_1).toNat * 3)) = some (.int .i64 ((Zaf l0 x4_1).f0)) ∧ w'.cell? ⟨(ad207.add ((x4_1).toNat * 3)).block, (ad207.add ((x4_1).toNat * 3)).off + 1, none⟩ = some (.int .u8 ((Zaf l0 x4_1).f1)) ∧ w'.cell? ⟨(ad207.add ((x4_1).toNat * 3)).block, (ad207.add ((x4_1).toNat * 3)).off + 2, none⟩ = some (.bool ((Zaf l0 x4_1).f2))) (ds := []) u9_0 t9_3 rfl rfl ⟨hx206_0, hx206_1, hx206_2, ((HB.out.cell (World.block_lt_of_cell? w _ hw207_0)).trans hw207_0), ((HB.out.cell (World.block_lt_of_cell? w _ hw207_1)).trans hw207_1), ((HB.out.cell (World.block_lt_of_cell? w _ hw207_2)).trans hw207_2)⟩ (fun hHeld => ?_); refine Zcp Zab.tab6 Zab.bits6 (fun HT_ HW_ => ?_)
      generalize wr.drew = w20 at HO_3 HB hx206_0 hx206_1 hx206_2 hx207_0 hx207_1 hx207_2 hHeld ⊢
      refine Zbc (i := 0) (N := some 13) (v := ?_) (a' := ?_) u9_1 rfl rfl (Zaw HT_.out t9_3) (fun _ _ _ h => h) (Or.inl ⟨by rfl, ?_⟩) ?_ ?_
      rotate_left
      ·intro w'
       go_simp
       with_reducible rfl
      rotate_left
      ·simp only [Act.put, s0_, s1_, s2_, Zax, Zay]
       rfl
      refine Zbc (i := 1) (N := some 14) (v := ?_) (a' := ?_) u9_2 rfl rfl (Zaw HT_.out t9_3) (fun _ _ _ h => h) (Or.inl ⟨by rfl, ?_⟩) ?_ ?_
      rotate_left
      ·intro w'
       go_simp
       with_reducible rfl
      rotate_left
      ·simp only [Act.put, s0_, s1_, s2_, Zax, Zay]
       rfl
      refine Zbc (i := 2) (N := some 15) (v := ?_) (a' := ?_) u9_3 rfl rfl (Zaw HT_.out t9_3) (fun _ _ _ h => h) (Or.inl ⟨by rfl, ?_⟩) ?_ ?_
      rotate_left
      ·intro w'
       go_simp
       with_reducible rfl
      rotate_left
      ·simp only [Act.put, s0_, s1_, s2_, Zax, Zay]
       rfl
      refine Zbc (i := 3) (N := some 16) (v := ?_) (a' := ?_) u9_4 rfl rfl (Zaw HT_.out t9_3) (fun _ _ _ h => h) (Or.inl ⟨by rfl, ?_⟩) ?_ ?_
      rotate_left
      ·intro w'
       go_simp
       with_reducible rfl
      rotate_left
      ·simp only [Act.put, s0_, s1_, s2_, Zax, Zay]
       rfl
      refine Zbc (i := 4) (N := some 17) (v := ?_) (a' := ?_) u9_5 rfl rfl (Zaw HT_.out t9_3) (fun _ _ _ h => h) (Or.inl ⟨by rfl, ?_⟩) ?_ ?_
      rotate_left
      ·intro w'
       go_simp
       with_reducible rfl
      rotate_left
      ·simp only [Act.put, s0_, s1_, s2_, Zax, Zay]
       rfl
      refine Zbc (i := 5) (N := some 18) (v := ?_) (a' := ?_) u9_6 rfl rfl (Zaw HT_.out t9_3) (fun _ _ _ h => h) (Or.inl ⟨by rfl, ?_⟩) ?_ ?_
      rotate_left
      ·intro w'
       go_simp
       with_reducible rfl
      rotate_left
      ·simp only [Act.put, s0_, s1_, s2_, Zax, Zay]
       rfl
      refine Zbc (i := 6) (N := some 19) (v := ?_) (a' := ?_) u9_7 rfl rfl (Zaw HT_.out t9_3) (fun _ _ _ h => h) (Or.inl ⟨by rfl, ?_⟩) ?_ ?_
      rotate_left
      ·intro w'
       go_simp
       with_reducible rfl
      rotate_left
      ·simp only [Act.put, s0_, s1_, s2_, Zax, Zay]
       rfl
      refine Zbc (i := 7) (N := some 20) (v := ?_) (a' := ?_) u9_8 rfl rfl (Zaw HT_.out t9_3) (fun _ _ _ h => h) (Or.inl ⟨by rfl, ?_⟩) ?_ ?_
      rotate_left
      ·intro w'
       go_simp
       with_reducible rfl
      rotate_left
      ·simp only [Act.put, s0_, s1_, s2_, Zax, Zay]
       rfl
      refine Zbc (i := 9) (N := some 22) (v := ?_) (a' := ?_) u9_9 rfl rfl (Zaw HT_.out t9_3) (fun _ _ _ h => h) (Or.inl ⟨by rfl, ?_⟩) ?_ ?_
      rotate_left
      ·intro w'
       go_simp
       with_reducible rfl
      rotate_left
      ·simp only [Act.put, s0_, s1_, s2_, Zax, Zay]
       rfl
      refine Zbc (i := 10) (N := some 23) (v := ?_) (a' := ?_) u9_10 rfl rfl (Zaw HT_.out t9_3) (fun _ _ _ h => h) (Or.inl ⟨by rfl, ?_⟩) ?_ ?_
      rotate_left
      ·intro w'
       go_simp
       with_reducible rfl
      rotate_left
      ·simp only [Act.put, s0_, s1_, s2_, Zax, Zay]
       rfl
      refine Zbc (i := 11) (N := some 24) (v := ?_) (a' := ?_) u9_11 rfl rfl (Zaw HT_.out t9_3) (fun _ _ _ h => h) (Or.inl ⟨by rfl, ?_⟩) ?_ ?_
      rotate_left
      ·intro w'
       go_simp
       with_reducible rfl
      rotate_left
      ·simp only [Act.put, s0_, s1_, s2_, Zax, Zay]
       rfl
      refine Zdh (i := 8) (N := some 21) (v := ?_) (a' := ?_) u9_12 rfl rfl (Zbt HT_.out HW_.out t9_3) (fun _ _ _ h => h) (Or.inl ⟨by rfl, ?_⟩) hHeld ?_ ?_
      rotate_left
      ·rintro w' ⟨s0, s1, s2, s3, s4, s5⟩
       go_simp
       with_reducible rfl
      rotate_left
      ·simp only [Act.put, s0_, s1_, s2_, Zax, Zay]
       rfl
      refine Zdh (i := 12) (N := some 25) (v := ?_) (a' := ?_) u9_13 rfl rfl (Zbt HT_.out HW_.out t9_3) (fun _ _ _ h => h) (Or.inl ⟨by rfl, ?_⟩) hHeld ?_ ?_
      rotate_left
      ·rintro w' ⟨s0, s1, s2, s3, s4, s5⟩
       go_simp
       with_reducible rfl
      rotate_left
      ·simp only [Act.put, s0_, s1_, s2_, Zax, Zay]
       rfl
      refine one_ (i := 13) (N := some 26) u9_14 rfl rfl (Zda HT_.out t9_3) t9_4 (fun K hK => ?_)
      refine goes_ Try.func75 t9_3 rfl #[.agg #[.int .i64 ((Zaf x3_1 x5_2).f0), .int .u8 ((Zaf x3_1 x5_2).f1), .bool ((Zaf x3_1 x5_2).f2)], .agg #[.int .i64 ((Zaf l0 x4_1).f0), .int .u8 ((Zaf l0 x4_1).f1), .bool ((Zaf l0 x4_1).f2)]] (by rfl) rfl rfl t9_0 ?_
      with_reducible refine (Zbs.calls ((Zaf x3_1 x5_2).f0) ((Zaf x3_1 x5_2).f1) ((Zaf x3_1 x5_2).f2) ((Zaf l0 x4_1).f0) ((Zaf l0 x4_1).f1) ((Zaf l0 x4_1).f2) false _ A7.out).mono ?_
      rintro e w22 ⟨rfl, hb⟩
      have HS0_ := (hb.cell (World.block_lt_of_cell? _ _ (hHeld.1))).trans (hHeld.1)
      have HS1_ := (hb.cell (World.block_lt_of_cell? _ _ (hHeld.2.1))).trans (hHeld.2.1)
      have HS2_ := (hb.cell (World.block_lt_of_cell? _ _ (hHeld.2.2.1))).trans (hHeld.2.2.1)
      refine ⟨_, rfl, ?_⟩
      have n0_ := RB HO_3 hb
      have n1_ := BS HB hb
      clear HO_3
      clear HB
      have HO_3 := n0_
      have HB := n1_
      clear n0_ n1_
      (try clear hb)
      (try clear hb2)
      (try clear hk)
      (try clear hi)
      refine hK.out _ _ ⟨HS0_, HS1_, HS2_, ((HB.out.cell (World.block_lt_of_cell? w _ hw207_0)).trans hw207_0), ((HB.out.cell (World.block_lt_of_cell? w _ hw207_1)).trans hw207_1), ((HB.out.cell (World.block_lt_of_cell? w _ hw207_2)).trans hw207_2)⟩ (fun hHeld => ?_)
      clear hK K
      refine Zem (a' := ?_) ?_ ?_
      rotate_left
      ·show Act.put _ (some 26) _ = _
       simp only [Act.put, s0_, s1_, s2_, Zax, Zay]
       rfl
      refine Zbc (i := 14) (N := some 27) (v := ?_) (a' := ?_) u9_15 rfl rfl (Zaw HT_.out t9_3) (fun _ _ _ h => h) (Or.inl ⟨by rfl, ?_⟩) ?_ ?_
      rotate_left
      ·intro w'
       go_simp
       with_reducible rfl
      rotate_left
      ·simp only [Act.put, s0_, s1_, s2_, Zax, Zay]
       rfl
      refine done_ (Zdj HT_.out t9_3) ?_
      try go_wp2
      have n0_ := Za.mk (Kd.Zbw HO_3.out)
      have n1_ := Za.mk (Zal HB.out)
      clear HO_3
      clear HB
      have HO_3 := n0_
      have HB := n1_
      clear n0_ n1_
      have p209 : 0 ≤ (x4_1 : Int) := of_decide_eq_true t9_1
      have q209 : x4_1 < (l0.length : Int) := of_decide_eq_true t9_1
      obtain ⟨ad209, e209, hx209_0, hx209_1, hx209_2⟩ := Zc HR0.out x4_1 p209 q209
      have hw209_2 := hx209_2
      have hw209_1 := hx209_1
      have hw209_0 := hx209_0
      obtain rfl : ad207 = ad209 := (by injection e209)
      replace hx209_0 := (HB.out.cell (World.block_lt_of_cell? w _ hx209_0)).trans hx209_0
      replace hx209_1 := (HB.out.cell (World.block_lt_of_cell? w _ hx209_1)).trans hx209_1
      replace hx209_2 := (HB.out.cell (World.block_lt_of_cell? w _ hx209_2)).trans hx209_2
      replace p209 := eq_true p209
      replace q209 := eq_true q209
      have p210 : 0 ≤ (x5_2 : Int) := of_decide_eq_true t9_1
      have q210 : x5_2 < (x3_1.length : Int) := of_decide_eq_true t9_1
      obtain ⟨ad210, e210, hx210_0, hx210_1, hx210_2⟩ := Zc (Kd.Zb HO_3.out).2.2 x5_2 p210 q210
      obtain rfl : ad206 = ad210 := (by injection e210)
      replace p210 := eq_true p210
      replace q210 := eq_true q210
      refine Zek (n := 16) (S := fun w' => w'.cell? (ad207.add ((x4_1).toNat * 3)) = some (.int .i64 ((Zaf l0 x4_1).f0)) ∧ w'.cell? ⟨(ad207.add ((x4_1).toNat * 3)).block, (ad207.add ((x4_1).toNat * 3)).off + 1, none⟩ = some (.int .u8 ((Zaf l0 x4_1).f1)) ∧ w'.cell? ⟨(ad207.add ((x4_1).toNat * 3)).block, (ad207.add ((x4_1).toNat * 3)).off + 2, none⟩ = some (.bool ((Zaf l0 x4_1).f2)) ∧ w'.cell? (ad206.add ((x5_2).toNat * 3)) = some (.int .i64 ((Zaf x3_1 x5_2).f0)) ∧ w'.cell? ⟨(ad206.add ((x5_2).toNat * 3)).block, (ad206.add ((x5_2).toNat * 3)).off + 1, none⟩ = some (.int .u8 ((Zaf x3_1 x5_2).f1)) ∧ w'.cell? ⟨(ad206.add ((x5_2).toNat * 3)).block, (ad206.add ((x5_2).toNat * 3)).off + 2, none⟩ = some (.bool ((Zaf x3_1 x5_2).f2))) (ds := []) u9_16 t9_3 rfl rfl ⟨((HB.out.cell (World.block_lt_of_cell? w _ hw209_0)).trans hw209_0), ((HB.out.cell (World.block_lt_of_cell? w _ hw209_1)).trans hw209_1), ((HB.out.cell (World.block_lt_of_cell? w _ hw209_2)).trans hw209_2), hx210_0, hx210_1, hx210_2⟩ (fun hHeld => ?_); refine Zcp Zab.tab8 Zab.bits8 (fun HT_ HW_ => ?_)
      generalize w22.drew = w23 at HO_3 HB hx209_0 hx209_1 hx209_2 hx210_0 hx210_1 hx210_2 hHeld ⊢
      refine Zbc (i := 0) (N := some 30) (v := ?_) (a' := ?_) u9_17 rfl rfl (Zaw HT_.out t9_3) (fun _ _ _ h => h) (Or.inl ⟨by rfl, ?_⟩) ?_ ?_
      rotate_left
      ·intro w'
       go_simp
       with_reducible rfl
      rotate_left
      ·simp only [Act.put, s0_, s1_, s2_, Zax, Zay]
       rfl
      refine Zbc (i := 1) (N := some 31) (v := ?_) (a' := ?_) u9_18 rfl rfl (Zaw HT_.out t9_3) (fun _ _ _ h => h) (Or.inl ⟨by rfl, ?_⟩) ?_ ?_
      rotate_left
      ·intro w'
       go_simp
       with_reducible rfl
      rotate_left
      ·simp only [Act.put, s0_, s1_, s2_, Zax, Zay]
       rfl
      refine Zbc (i := 2) (N := some 32) (v := ?_) (a' := ?_) u9_19 rfl rfl (Zaw HT_.out t9_3) (fun _ _ _ h => h) (Or.inl ⟨by rfl, ?_⟩) ?_ ?_
      rotate_left
      ·intro w'
       go_simp
       with_reducible rfl
      rotate_left
      ·simp only [Act.put, s0_, s1_, s2_, Zax, Zay]
       rfl
      refine Zbc (i := 3) (N := some 33) (v := ?_) (a' := ?_) u9_20 rfl rfl (Zaw HT_.out t9_3) (fun _ _ _ h => h) (Or.inl ⟨by rfl, ?_⟩) ?_ ?_
      rotate_left
      ·intro w'
       go_simp
       with_reducible rfl
      rotate_left
      ·simp only [Act.put, s0_, s1_, s2_, Zax, Zay]
       rfl
      refine Zbc (i := 4) (N := some 34) (v := ?_) (a' := ?_) u9_21 rfl rfl (Zaw HT_.out t9_3) (fun _ _ _ h => h) (Or.inl ⟨by rfl, ?_⟩) ?_ ?_
      rotate_left
      ·intro w'
       go_simp
       with_reducible rfl
      rotate_left
      ·simp only [Act.put, s0_, s1_, s2_, Zax, Zay]
       rfl
      refine Zbc (i := 5) (N := some 35) (v := ?_) (a' := ?_) u9_22 rfl rfl (Zaw HT_.out t9_3) (fun _ _ _ h => h) (Or.inl ⟨by rfl, ?_⟩) ?_ ?_
      rotate_left
      ·intro w'
       go_simp
       with_reducible rfl
      rotate_left
      ·simp only [Act.put, s0_, s1_, s2_, Zax, Zay]
       rfl
      refine Zbc (i := 6) (N := some 36) (v := ?_) (a' := ?_) u9_23 rfl rfl (Zaw HT_.out t9_3) (fun _ _ _ h => h) (Or.inl ⟨by rfl, ?_⟩) ?_ ?_
      rotate_left
      ·intro w'
       go_simp
       with_reducible rfl
      rotate_left
      ·simp only [Act.put, s0_, s1_, s2_, Zax, Zay]
       rfl
      refine Zbc (i := 7) (N := some 37) (v := ?_) (a' := ?_) u9_24 rfl rfl (Zaw HT_.out t9_3) (fun _ _ _ h => h) (Or.inl ⟨by rfl, ?_⟩) ?_ ?_
      rotate_left
      ·intro w'
       go_simp
       with_reducible rfl
      rotate_left
      ·simp only [Act.put, s0_, s1_, s2_, Zax, Zay]
       rfl
      refine Zbc (i := 9) (N := some 39) (v := ?_) (a' := ?_) u9_25 rfl rfl (Zaw HT_.out t9_3) (fun _ _ _ h => h) (Or.inl ⟨by rfl, ?_⟩) ?_ ?_
      rotate_left
      ·intro w'
       go_simp
       with_reducible rfl
      rotate_left
      ·simp only [Act.put, s0_, s1_, s2_, Zax, Zay]
       rfl
      refine Zbc (i := 10) (N := some 40) (v := ?_) (a' := ?_) u9_26 rfl rfl (Zaw HT_.out t9_3) (fun _ _ _ h => h) (Or.inl ⟨by rfl, ?_⟩) ?_ ?_
      rotate_left
      ·intro w'
       go_simp
       with_reducible rfl
      rotate_left
      ·simp only [Act.put, s0_, s1_, s2_, Zax, Zay]
       rfl
      refine Zbc (i := 11) (N := some 41) (v := ?_) (a' := ?_) u9_27 rfl rfl (Zaw HT_.out t9_3) (fun _ _ _ h => h) (Or.inl ⟨by rfl, ?_⟩) ?_ ?_
      rotate_left
      ·intro w'
       go_simp
       with_reducible rfl
      rotate_left
      ·simp only [Act.put, s0_, s1_, s2_, Zax, Zay]
       rfl
      refine Zdh (i := 8) (N := some 38) (v := ?_) (a' := ?_) u9_28 rfl rfl (Zbt HT_.out HW_.out t9_3) (fun _ _ _ h => h) (Or.inl ⟨by rfl, ?_⟩) hHeld ?_ ?_
      rotate_left
      ·rintro w' ⟨s0, s1, s2, s3, s4, s5⟩
       go_simp
       with_reducible rfl
      rotate_left
      ·simp only [Act.put, s0_, s1_, s2_, Zax, Zay]
       rfl
      refine Zdh (i := 12) (N := some 42) (v := ?_) (a' := ?_) u9_29 rfl rfl (Zbt HT_.out HW_.out t9_3) (fun _ _ _ h => h) (Or.inl ⟨by rfl, ?_⟩) hHeld ?_ ?_
      rotate_left
      ·rintro w' ⟨s0, s1, s2, s3, s4, s5⟩
       go_simp
       with_reducible rfl
      rotate_left
      ·simp only [Act.put, s0_, s1_, s2_, Zax, Zay]
       rfl
      refine one_ (i := 13) (N := some 43) u9_30 rfl rfl (Zda HT_.out t9_3) t9_4 (fun K hK => ?_)
      refine goes_ Try.func75 t9_3 rfl #[.agg #[.int .i64 ((Zaf l0 x4_1).f0), .int .u8 ((Zaf l0 x4_1).f1), .bool ((Zaf l0 x4_1).f2)], .agg #[.int .i64 ((Zaf x3_1 x5_2).f0), .int .u8 ((Zaf x3_1 x5_2).f1), .bool ((Zaf x3_1 x5_2).f2)]] (by rfl) rfl rfl t9_0 ?_
      with_reducible refine (Zbs.calls ((Zaf l0 x4_1).f0) ((Zaf l0 x4_1).f1) ((Zaf l0 x4_1).f2) ((Zaf x3_1 x5_2).f0) ((Zaf x3_1 x5_2).f1) ((Zaf x3_1 x5_2).f2) true _ A12.out).mono ?_
      rintro e w24 ⟨rfl, hb⟩
      have HS3_ := (hb.cell (World.block_lt_of_cell? _ _ (hHeld.2.2.2.1))).trans (hHeld.2.2.2.1)
      have HS4_ := (hb.cell (World.block_lt_of_cell? _ _ (hHeld.2.2.2.2.1))).trans (hHeld.2.2.2.2.1)
      have HS5_ := (hb.cell (World.block_lt_of_cell? _ _ (hHeld.2.2.2.2.2))).trans (hHeld.2.2.2.2.2)
      refine ⟨_, rfl, ?_⟩
      have n0_ := RB HO_3 hb
      have n1_ := BS HB hb
      clear HO_3
      clear HB
      have HO_3 := n0_
      have HB := n1_
      clear n0_ n1_
      (try clear hb)
      (try clear hb2)
      (try clear hk)
      (try clear hi)
      refine hK.out _ _ ⟨((HB.out.cell (World.block_lt_of_cell? w _ hw209_0)).trans hw209_0), ((HB.out.cell (World.block_lt_of_cell? w _ hw209_1)).trans hw209_1), ((HB.out.cell (World.block_lt_of_cell? w _ hw209_2)).trans hw209_2), HS3_, HS4_, HS5_⟩ (fun hHeld => ?_)
      clear hK K
      refine Zem (a' := ?_) ?_ ?_
      rotate_left
      ·show Act.put _ (some 43) _ = _
       simp only [Act.put, s0_, s1_, s2_, Zax, Zay]
       rfl
      refine Zbc (i := 14) (N := some 44) (v := ?_) (a' := ?_) u9_31 rfl rfl (Zaw HT_.out t9_3) (fun _ _ _ h => h) (Or.inl ⟨by rfl, ?_⟩) ?_ ?_
      rotate_left
      ·intro w'
       go_simp
       with_reducible rfl
      rotate_left
      ·simp only [Act.put, s0_, s1_, s2_, Zax, Zay]
       rfl
      refine Zbc (i := 15) (N := some 45) (v := ?_) (a' := ?_) u9_32 rfl rfl (Zaw HT_.out t9_3) (fun _ _ _ h => h) (Or.inl ⟨by rfl, ?_⟩) ?_ ?_
      rotate_left
      ·intro w'
       go_simp
       with_reducible rfl
      rotate_left
      ·simp only [Act.put, s0_, s1_, s2_, Zax, Zay]
       rfl
      refine done_ (Zdj HT_.out t9_3) ?_
      have q25 : (x5_2 : Int) ≤ ((x3_1.length : Int) : Int) := of_decide_eq_true t9_1
      obtain ⟨i025, hi025, _, hsz25, _⟩ := info_parts info44
      have hroom25 : x3_1.length ≤ co21 := (Kd.Zb HO_3.out).2.1
      have hC25 : Kd.C k44 _ (some ad206) x3_1.length x3_1 := (Kd.Zb HO_3.out).2.2
      have q025 : (0 : Int) ≤ (x5_2 : Int) := of_decide_eq_true t9_1
      have hcut25 := cut_from (P := Try.prog) 40 44 .i64 Try.underlying40 hi025 3 hsz25 (some ad206) x3_1.length co21 x5_2 q025 q25
      have hr25 := Kd.C_drop (m := (x5_2 : Int).toNat) (c := co21) hC25 (by omega) hroom25
      obtain ⟨A25, hA25⟩ : ∃ A1, A1 = (if co21 = (x5_2 : Int).toNat then (some ad206) else ((some ad206) : Option Addr).map (·.add ((x5_2 : Int).toNat * 3))) := ⟨_, rfl⟩
      obtain ⟨c25, hc25⟩ : ∃ c1, c1 = co21 - (x5_2 : Int).toNat := ⟨_, rfl⟩
      have hy25 : y212.length = x3_1.length - (x5_2 : Int).toNat := (by rw [Ny212.out, List.length_drop] <;> omega)
      rw [show (x3_1).drop (x5_2 : Int).toNat = y212 from Ny212.out.symm] at hr25
      replace hr25 : Kd.C k44 _ A25 y212.length y212 := (by rw [hA25]; exact hr25)
      rw [← hy25, ← hA25, ← hc25] at hcut25
      have HR215 := Za.mk hr25
      have HC215 := Za.mk (show y212.length ≤ c25 from by rw [hy25, hc25]; exact Nat.sub_le_sub_right hroom25 _)
      clear hr25 hC25 hroom25 hi025 hsz25 hc25
      have KY25 := Za.mk hy25
      have KA25 := Za.mk hA25
      clear hy25 hA25
      have KL25 := Za.mk (show (x5_2 : Int).toNat ≤ x3_1.length from by omega)
      replace q25 := eq_true q25
      try go_wp2_with (first | ((with_reducible refine Zdl (b := .append) (xs := #[.tmp 62, .tmp 65]) rfl ?_); at_builtin; refine Kd.R_append_rows k44 (w0 := w) w.heap.size rfl (.tmp 62) (.tmp 65) 40 44 (.agg #[(.int .i64 0), (.int .u8 0), (.bool false)]) 16 rfl Try.underlying40 info44 rfl t9_4 (by omega) (.slice none 0 0) ([] : List (S44)) y212 _ _ _ (fun k_ => some k_ ≠ (.slice (some ad206) x3_1.length co21 : Value).ownBlock) (fun _ => False) rfl rfl ?aO ?aR (fun _ _ h => h) (fun _ h => h.elim) ?aF ?aB ?aS ?aL ?_; (case aR => repeat (first | exact (by repeat (first | (with_reducible exact HR215.out) | (with_reducible refine Kd.Zco ?_ _) | (with_reducible refine Kd.Zcn ?_ _) | (with_reducible refine Kd.Zd ?_) | exact HR215.out)) | (with_reducible refine Kd.Zco ?_ _) | (with_reducible refine Kd.Zcn ?_ _) | (with_reducible refine Kd.Zd ?_))); (case aB => exact (BD HB)); (case aF => exact (fun k_ hk => Kd.fresh' (Kd.R_lt (RD HO_3)) k_ hk)); (case aO => exact ((Kd.R_nil _ _ _ _ (fun k_ => some k_ ≠ (.slice (some ad206) x3_1.length co21 : Value).ownBlock)))); (case aS => exact (Zat (BD HB))); (case aL => have := LMc16.out; omega); intro v217 w26 ho hb hg hat; rw [← Ny216.out] at ho; have n0_ := Za.mk (Kd.Zfi (Kd.R_apart_nil (RD HO_3)) hg hat); have n1_ := Za.mk (hb); have n2_ := Za.mk ((show Kd.C k44 w26 A25 y212.length y212 from by rw [Ny212.out, KA25.out]; exact Kd.C_drop (m := (x5_2 : Int).toNat) (c := co21) ((Kd.Zb (Kd.Zfi (Kd.R_apart_nil (RD HO_3)) hg hat)).2.2) KL25.out ((Kd.Zb (Kd.Zfi (Kd.R_apart_nil (RD HO_3)) hg hat)).2.1))); have n3_ := Za.mk (ho); clear HO_3; clear HB; clear HR215; have HO_3 := n0_; have HB := n1_; have HR215 := n2_; have HO218 := n3_; clear n0_ n1_ n2_ n3_; clear ho hb hg hat))
      have n0_ := Za.mk (Kd.Zbw HO_3.out)
      have n1_ := Za.mk (Kd.Zbw HO218.out)
      have n2_ := Za.mk (Kd.Zd HR215.out)
      have n3_ := Za.mk (Zal HB.out)
      clear HO_3
      clear HO218
      clear HR215
      clear HB
      have HO_3 := n0_
      have HO218 := n1_
      have HR215 := n2_
      have HB := n3_
      clear n0_ n1_ n2_ n3_
      have q28 : (x5_2 : Int) ≤ ((x3_1.length : Int) : Int) := of_decide_eq_true t9_1
      obtain ⟨i028, hi028, _, hsz28, _⟩ := info_parts info44
      have hcut28 := cut_to (P := Try.prog) 40 44 .i64 Try.underlying40 hi028 (some ad206) x3_1.length co21 x5_2 (of_decide_eq_true t9_1) q28 (Kd.Zb HO_3.out).2.1
      have hr28 := Kd.R_take (m := (x5_2 : Int).toNat) HO_3.out (by omega)
      have hy28 : y219.length = (x5_2 : Int).toNat := (by rw [Ny219.out, List.length_take]; omega)
      rw [← Ny219.out] at hr28
      rw [← hy28] at hr28 hcut28
      clear hy28 hi028 hsz28 HO_3
      have HO221 := Za.mk hr28
      clear hr28
      replace q28 := eq_true q28
      have p222 : 0 ≤ (x4_1 : Int) := of_decide_eq_true t9_1
      have q222 : x4_1 < (l0.length : Int) := of_decide_eq_true t9_1
      obtain ⟨ad222, e222, hx222_0, hx222_1, hx222_2⟩ := Zc HR0.out x4_1 p222 q222
      have hw222_2 := hx222_2
      have hw222_1 := hx222_1
      have hw222_0 := hx222_0
      obtain rfl : ad207 = ad222 := (by injection e222)
      replace hx222_0 := (HB.out.cell (World.block_lt_of_cell? w _ hx222_0)).trans hx222_0
      replace hx222_1 := (HB.out.cell (World.block_lt_of_cell? w _ hx222_1)).trans hx222_1
      replace hx222_2 := (HB.out.cell (World.block_lt_of_cell? w _ hx222_2)).trans hx222_2
      replace p222 := eq_true p222
      replace q222 := eq_true q222
      refine Zek (n := 12) (S := fun w' => w'.cell? (ad207.add ((x4_1).toNat * 3)) = some (.int .i64 ((Zaf l0 x4_1).f0)) ∧ w'.cell? ⟨(ad207.add ((x4_1).toNat * 3)).block, (ad207.add ((x4_1).toNat * 3)).off + 1, none⟩ = some (.int .u8 ((Zaf l0 x4_1).f1)) ∧ w'.cell? ⟨(ad207.add ((x4_1).toNat * 3)).block, (ad207.add ((x4_1).toNat * 3)).off + 2, none⟩ = some (.bool ((Zaf l0 x4_1).f2))) (ds := []) u9_33 t9_3 rfl rfl ⟨((HB.out.cell (World.block_lt_of_cell? w _ hw222_0)).trans hw222_0), ((HB.out.cell (World.block_lt_of_cell? w _ hw222_1)).trans hw222_1), ((HB.out.cell (World.block_lt_of_cell? w _ hw222_2)).trans hw222_2)⟩ (fun hHeld => ?_); refine Zcp Zab.tab12 Zab.bits12 (fun HT_ HW_ => ?_)
      generalize w26.drew = w27 at HO_3 HO218 HR215 HB HO221 hx222_0 hx222_1 hx222_2 hHeld ⊢
      refine Zbc (i := 0) (N := some 67) (v := ?_) (a' := ?_) u9_34 rfl rfl (Zaw HT_.out t9_3) (fun _ _ _ h => h) (Or.inl ⟨by rfl, ?_⟩) ?_ ?_
      rotate_left
      ·intro w'
       go_simp
       with_reducible rfl
      rotate_left
      ·simp only [Act.put, s0_, s1_, s2_, Zax, Zay]
       rfl
      refine Zbc (i := 1) (N := some 68) (v := ?_) (a' := ?_) u9_35 rfl rfl (Zaw HT_.out t9_3) (fun _ _ _ h => h) (Or.inl ⟨by rfl, ?_⟩) ?_ ?_
      rotate_left
      ·intro w'
       go_simp
       with_reducible rfl
      rotate_left
      ·simp only [Act.put, s0_, s1_, s2_, Zax, Zay]
       rfl
      refine Zbc (i := 2) (N := some 69) (v := ?_) (a' := ?_) u9_36 rfl rfl (Zaw HT_.out t9_3) (fun _ _ _ h => h) (Or.inl ⟨by rfl, ?_⟩) ?_ ?_
      rotate_left
      ·intro w'
       go_simp
       with_reducible rfl
      rotate_left
      ·simp only [Act.put, s0_, s1_, s2_, Zax, Zay]
       rfl
      refine Zbc (i := 3) (N := some 70) (v := ?_) (a' := ?_) u9_37 rfl rfl (Zaw HT_.out t9_3) (fun _ _ _ h => h) (Or.inl ⟨by rfl, ?_⟩) ?_ ?_
      rotate_left
      ·intro w'
       go_simp
       with_reducible rfl
      rotate_left
      ·simp only [Act.put, s0_, s1_, s2_, Zax, Zay]
       rfl
      refine Zbc (i := 4) (N := some 71) (v := ?_) (a' := ?_) u9_38 rfl rfl (Zaw HT_.out t9_3) (fun _ _ _ h => h) (Or.inl ⟨by rfl, ?_⟩) ?_ ?_
      rotate_left
      ·intro w'
       go_simp
       with_reducible rfl
      rotate_left
      ·simp only [Act.put, s0_, s1_, s2_, Zax, Zay]
       rfl
      refine Zbc (i := 5) (N := some 72) (v := ?_) (a' := ?_) u9_39 rfl rfl (Zaw HT_.out t9_3) (fun _ _ _ h => h) (Or.inl ⟨by rfl, ?_⟩) ?_ ?_
      rotate_left
      ·intro w'
       go_simp
       with_reducible rfl
      rotate_left
      ·simp only [Act.put, s0_, s1_, s2_, Zax, Zay]
       rfl
      refine Zbc (i := 9) (N := some 76) (v := ?_) (a' := ?_) u9_40 rfl rfl (Zaw HT_.out t9_3) (fun _ _ _ h => h) (Or.inl ⟨by rfl, ?_⟩) ?_ ?_
      rotate_left
      ·intro w'
       go_simp
       with_reducible rfl
      rotate_left
      ·simp only [Act.put, s0_, s1_, s2_, Zax, Zay]
       rfl
      refine Zdh (i := 6) (N := some 73) (v := ?_) (a' := ?_) u9_41 rfl rfl (Zbt HT_.out HW_.out t9_3) (fun _ _ _ h => h) (Or.inl ⟨by rfl, ?_⟩) hHeld ?_ ?_
      rotate_left
      ·rintro w' ⟨s0, s1, s2⟩
       go_simp
       with_reducible rfl
      rotate_left
      ·simp only [Act.put, s0_, s1_, s2_, Zax, Zay]
       rfl
      refine one_ (i := 7) (N := some 74) u9_42 rfl rfl (Zda HT_.out t9_3) t9_4 (fun K hK => ?_)
      refine value_ (w1 := ?_) (v := ?_) (by rfl) rfl ?_ ?_
      rotate_left 2
      ·go_simp
       constructor
       ·rfl
       ·rfl
      refine hK.out _ _ ⟨(World.cell?_alloc_lt _ _ _ (World.block_lt_of_cell? _ _ (((HB.out.cell (World.block_lt_of_cell? w _ hw222_0)).trans hw222_0)))).trans (((HB.out.cell (World.block_lt_of_cell? w _ hw222_0)).trans hw222_0)), (World.cell?_alloc_lt _ _ _ (World.block_lt_of_cell? _ _ (((HB.out.cell (World.block_lt_of_cell? w _ hw222_1)).trans hw222_1)))).trans (((HB.out.cell (World.block_lt_of_cell? w _ hw222_1)).trans hw222_1)), (World.cell?_alloc_lt _ _ _ (World.block_lt_of_cell? _ _ (((HB.out.cell (World.block_lt_of_cell? w _ hw222_2)).trans hw222_2)))).trans (((HB.out.cell (World.block_lt_of_cell? w _ hw222_2)).trans hw222_2))⟩ (fun hHeld => ?_)
      clear hK K
      refine Zem (a' := ?_) ?_ ?_
      rotate_left
      ·show Act.put _ (some 74) _ = _
       simp only [Act.put, s0_, s1_, s2_, Zax, Zay]
       rfl
      refine one_ (i := 8) (N := some 75) u9_43 rfl rfl (Zda HT_.out t9_3) t9_4 (fun K hK => ?_)
      refine Kd.Zey k44 (w0 := w) w.heap.size (by rfl) (.tmp 69) (.tmp 74) 40 44 (.agg #[(.int .i64 0), (.int .u8 0), (.bool false)]) 16 rfl Try.underlying40 info44 rfl t9_4 (by omega) (.slice (some ad206) y219.length co21) y219 (⟨(Zaf l0 x4_1).f0, (Zaf l0 x4_1).f1, (Zaf l0 x4_1).f2⟩ : S44) [.int .i64 ((Zaf l0 x4_1).f0), .int .u8 ((Zaf l0 x4_1).f1), .bool ((Zaf l0 x4_1).f2)] (fun k_ => some k_ ≠ (v217 : Value).ownBlock) (fun _ => False) rfl rfl ?aP (fun _ hk => hk.elim) ?aF ?aO ?aB ?aS ?aL ?_
      (case aP => exact k44_mkM _ _ _ (⟨(Zaf l0 x4_1).f0, (Zaf l0 x4_1).f1, (Zaf l0 x4_1).f2⟩ : S44))
      (case aB => exact (BD HB))
      (case aF => exact (fun k_ hk => Kd.fresh' (Kd.R_lt (RD HO218)) k_ hk))
      (case aO => exact (by (with_reducible repeat (first | apply Kd.Zcm | apply Kd.Zcl | apply Kd.Zbw)); exact Kd.Zbv HO221.out (fun _ hk => hk.2)))
      (case aS => exact (Zat (BD HB)))
      (case aL => have := LMc18.out; omega)
      intro v224 w29 ho hb hg hat
      rw [← Ny223.out] at ho
      have n0_ := Za.mk (Kd.Zfi (ok := (fun _ => True)) (by (with_reducible repeat (first | apply Kd.Zcm | apply Kd.Zcl | apply Kd.Zbw)); exact Kd.Zbv HO218.out (fun _ hk => ⟨trivial, hk⟩)) hg hat)
      have n1_ := Za.mk (hb)
      have n2_ := Za.mk (ho)
      clear HO218
      clear HB
      clear HO221
      have HO218 := n0_
      have HB := n1_
      have HO225 := n2_
      clear n0_ n1_ n2_
      clear ho hb hg hat
      obtain ⟨Ao31, co31, eo31⟩ := Kd.Zbp HO218.out
      (first | subst eo31 | (injection eo31 with f1_ f2_ f3_; have f4_ := f1_.symm; have f5_ := f3_.symm; clear f1_ f2_ f3_; subst f4_; subst f5_))
      refine hK.out _ _ ⟨((HB.out.cell (World.block_lt_of_cell? w _ hw222_0)).trans hw222_0), ((HB.out.cell (World.block_lt_of_cell? w _ hw222_1)).trans hw222_1), ((HB.out.cell (World.block_lt_of_cell? w _ hw222_2)).trans hw222_2)⟩ (fun hHeld => ?_)
      clear hK K
      refine Zem (a' := ?_) ?_ ?_
      rotate_left
      ·show Act.put _ (some 75) _ = _
       simp only [Act.put, s0_, s1_, s2_, Zax, Zay]
       rfl
      refine one_ (i := 10) (N := some 77) u9_44 rfl rfl (Zda HT_.out t9_3) t9_4 (fun K hK => ?_)
      refine Kd.R_append_rows_step k44 (w0 := w) w.heap.size (by rfl) (.tmp 75) (.tmp 76) 40 44 (.agg #[(.int .i64 0), (.int .u8 0), (.bool false)]) 16 rfl Try.underlying40 info44 rfl t9_4 (by omega) v224 y223 y216 _ _ _ (fun k_ => some k_ ≠ (.slice Ao31 y216.length co31 : Value).ownBlock) (fun _ => False) rfl rfl ?aO ?aR (fun _ _ h => h) (fun _ h => h.elim) ?aF ?aB ?aS ?aL ?_
      (case aR => exact CD ((Kd.Zb HO218.out).2.2))
      (case aB => exact (BD HB))
      (case aF => exact (fun k_ hk => Kd.fresh' (Kd.R_lt (RD HO218)) k_ hk))
      (case aO => exact (RD HO225))
      (case aS => exact (Zat (BD HB)))
      (case aL => have := LMc19.out; omega)
      intro v227 w30 ho hb hg hat
      rw [← Ny226.out] at ho
      have n0_ := Za.mk (Kd.Zfi (ok := (fun _ => True)) (RD HO218) hg hat)
      have n1_ := Za.mk (hb)
      have n2_ := Za.mk (ho)
      clear HO218
      clear HB
      clear HO225
      have HO218 := n0_
      have HB := n1_
      have HO228 := n2_
      clear n0_ n1_ n2_
      clear ho hb hg hat
      refine hK.out _ _ ⟨((HB.out.cell (World.block_lt_of_cell? w _ hw222_0)).trans hw222_0), ((HB.out.cell (World.block_lt_of_cell? w _ hw222_1)).trans hw222_1), ((HB.out.cell (World.block_lt_of_cell? w _ hw222_2)).trans hw222_2)⟩ (fun hHeld => ?_)
      clear hK K
      refine Zem (a' := ?_) ?_ ?_
      rotate_left
      ·show Act.put _ (some 77) _ = _
       simp only [Act.put, s0_, s1_, s2_, Zax, Zay]
       rfl
      refine Zbc (i := 11) (N := some 3) (v := ?_) (a' := ?_) u9_45 rfl rfl (Zaw HT_.out t9_3) (fun _ _ _ h => h) (Or.inl ⟨by rfl, ?_⟩) ?_ ?_
      rotate_left
      ·intro w'
       go_simp
       with_reducible rfl
      rotate_left
      ·simp only [Act.put, s0_, s1_, s2_, Zax, Zay]
       rfl
      refine done_ (Zdj HT_.out t9_3) ?_
      try go_wp2
      go_roundg k2
      case measure => have := HK1.out; have := HK2.out; omega
      case rel => exact ⟨(y226), (wrap64 (x4_1 + 1)), t9_2, H', ⟨by have := HK1.out; have := HK2.out; omega⟩, ⟨by (with_reducible repeat (first | apply Kd.Zcm | apply Kd.Zcl | apply Kd.Zbw)); exact Kd.Zbv HO228.out (fun _ hk => trivial)⟩, ⟨BD HB⟩⟩
     subst c8
     have H1 : (Zab.l1 k2 l0 x3_1 x4_1 (wrap64 (x5_2 + 1))) = some r := by rw [if_pos rfl] at H; exact H
     clear H
     have H := H1
     clear H1
     have H' := Za.mk H
     clear H
     try go_wp2
     have n0_ := Za.mk (Kd.Zbw HO_3.out)
     have n1_ := Za.mk (Zal HB.out)
     clear HO_3
     clear HB
     have HO_3 := n0_
     have HB := n1_
     clear n0_ n1_
     obtain ⟨Ao10, co10, eo10⟩ := Kd.Zbp HO_3.out
     (first | subst eo10 | (injection eo10 with f1_ f2_ f3_; have f4_ := f1_.symm; have f5_ := f3_.symm; clear f1_ f2_ f3_; subst f4_; subst f5_))
     have p206 : 0 ≤ (x5_2 : Int) := of_decide_eq_true t9_1
     have q206 : x5_2 < (x3_1.length : Int) := of_decide_eq_true t9_1
     obtain ⟨ad206, e206, hx206_0, hx206_1, hx206_2⟩ := Zc (Kd.Zb HO_3.out).2.2 x5_2 p206 q206
     cases e206
     replace p206 := eq_true p206
     replace q206 := eq_true q206
     have p207 : 0 ≤ (x4_1 : Int) := of_decide_eq_true t9_1
     have q207 : x4_1 < (l0.length : Int) := of_decide_eq_true t9_1
     obtain ⟨ad207, e207, hx207_0, hx207_1, hx207_2⟩ := Zc HR0.out x4_1 p207 q207
     have hw207_2 := hx207_2
     have hw207_1 := hx207_1
     have hw207_0 := hx207_0
     cases e207
     replace hx207_0 := (HB.out.cell (World.block_lt_of_cell? w _ hx207_0)).trans hx207_0
     replace hx207_1 := (HB.out.cell (World.block_lt_of_cell? w _ hx207_1)).trans hx207_1
     replace hx207_2 := (HB.out.cell (World.block_lt_of_cell? w _ hx207_2)).trans hx207_2
     replace p207 := eq_true p207
     replace q207 := eq_true q207
     refine Zek (n := 15) (S := fun w' => w'.cell? (ad206.add ((x5_2).toNat * 3)) = some (.int .i64 ((Zaf x3_1 x5_2).f0)) ∧ w'.cell? ⟨(ad206.add ((x5_2).toNat * 3)).block, (ad206.add ((x5_2).toNat * 3)).off + 1, none⟩ = some (.int .u8 ((Zaf x3_1 x5_2).f1)) ∧ w'.cell? ⟨(ad206.add ((x5_2).toNat * 3)).block, (ad206.add ((x5_2).toNat * 3)).off + 2, none⟩ = some (.bool ((Zaf x3_1 x5_2).f2)) ∧ w'.cell? (ad207.add ((x4_1).toNat * 3)) = some (.int .i64 ((Zaf l0 x4_1).f0)) ∧ w'.cell? ⟨(ad207.add ((x4_1).toNat * 3)).block, (ad207.add ((x4_1).toNat * 3)).off + 1, none⟩ = some (.int .u8 ((Zaf l0 x4_1).f1)) ∧ w'.cell? ⟨(ad207.add ((x4_1).toNat * 3)).block, (ad207.add ((x4_1).toNat * 3)).off + 2, none⟩ = some (.bool ((Zaf l0 x4_1).f2))) (ds := []) u9_0 t9_3 rfl rfl ⟨hx206_0, hx206_1, hx206_2, ((HB.out.cell (World.block_lt_of_cell? w _ hw207_0)).trans hw207_0), ((HB.out.cell (World.block_lt_of_cell? w _ hw207_1)).trans hw207_1), ((HB.out.cell (World.block_lt_of_cell? w _ hw207_2)).trans hw207_2)⟩ (fun hHeld => ?_); refine Zcp Zab.tab6 Zab.bits6 (fun HT_ HW_ => ?_)
     generalize wr.drew = w9 at HO_3 HB hx206_0 hx206_1 hx206_2 hx207_0 hx207_1 hx207_2 hHeld ⊢
     refine Zbc (i := 0) (N := some 13) (v := ?_) (a' := ?_) u9_1 rfl rfl (Zaw HT_.out t9_3) (fun _ _ _ h => h) (Or.inl ⟨by rfl, ?_⟩) ?_ ?_
     rotate_left
     ·intro w'
      go_simp
      with_reducible rfl
     rotate_left
     ·simp only [Act.put, s0_, s1_, s2_, Zax, Zay]
      rfl
     refine Zbc (i := 1) (N := some 14) (v := ?_) (a' := ?_) u9_2 rfl rfl (Zaw HT_.out t9_3) (fun _ _ _ h => h) (Or.inl ⟨by rfl, ?_⟩) ?_ ?_
     rotate_left
     ·intro w'
      go_simp
      with_reducible rfl
     rotate_left
     ·simp only [Act.put, s0_, s1_, s2_, Zax, Zay]
      rfl
     refine Zbc (i := 2) (N := some 15) (v := ?_) (a' := ?_) u9_3 rfl rfl (Zaw HT_.out t9_3) (fun _ _ _ h => h) (Or.inl ⟨by rfl, ?_⟩) ?_ ?_
     rotate_left
     ·intro w'
      go_simp
      with_reducible rfl
     rotate_left
     ·simp only [Act.put, s0_, s1_, s2_, Zax, Zay]
      rfl
     refine Zbc (i := 3) (N := some 16) (v := ?_) (a' := ?_) u9_4 rfl rfl (Zaw HT_.out t9_3) (fun _ _ _ h => h) (Or.inl ⟨by rfl, ?_⟩) ?_ ?_
     rotate_left
     ·intro w'
      go_simp
      with_reducible rfl
     rotate_left
     ·simp only [Act.put, s0_, s1_, s2_, Zax, Zay]
      rfl
     refine Zbc (i := 4) (N := some 17) (v := ?_) (a' := ?_) u9_5 rfl rfl (Zaw HT_.out t9_3) (fun _ _ _ h => h) (Or.inl ⟨by rfl, ?_⟩) ?_ ?_
     rotate_left
     ·intro w'
      go_simp
      with_reducible rfl
     rotate_left
     ·simp only [Act.put, s0_, s1_, s2_, Zax, Zay]
      rfl
     refine Zbc (i := 5) (N := some 18) (v := ?_) (a' := ?_) u9_6 rfl rfl (Zaw HT_.out t9_3) (fun _ _ _ h => h) (Or.inl ⟨by rfl, ?_⟩) ?_ ?_
     rotate_left
     ·intro w'
      go_simp
      with_reducible rfl
     rotate_left
     ·simp only [Act.put, s0_, s1_, s2_, Zax, Zay]
      rfl
     refine Zbc (i := 6) (N := some 19) (v := ?_) (a' := ?_) u9_7 rfl rfl (Zaw HT_.out t9_3) (fun _ _ _ h => h) (Or.inl ⟨by rfl, ?_⟩) ?_ ?_
     rotate_left
     ·intro w'
      go_simp
      with_reducible rfl
     rotate_left
     ·simp only [Act.put, s0_, s1_, s2_, Zax, Zay]
      rfl
     refine Zbc (i := 7) (N := some 20) (v := ?_) (a' := ?_) u9_8 rfl rfl (Zaw HT_.out t9_3) (fun _ _ _ h => h) (Or.inl ⟨by rfl, ?_⟩) ?_ ?_
     rotate_left
     ·intro w'
      go_simp
      with_reducible rfl
     rotate_left
     ·simp only [Act.put, s0_, s1_, s2_, Zax, Zay]
      rfl
     refine Zbc (i := 9) (N := some 22) (v := ?_) (a' := ?_) u9_9 rfl rfl (Zaw HT_.out t9_3) (fun _ _ _ h => h) (Or.inl ⟨by rfl, ?_⟩) ?_ ?_
     rotate_left
     ·intro w'
      go_simp
      with_reducible rfl
     rotate_left
     ·simp only [Act.put, s0_, s1_, s2_, Zax, Zay]
      rfl
     refine Zbc (i := 10) (N := some 23) (v := ?_) (a' := ?_) u9_10 rfl rfl (Zaw HT_.out t9_3) (fun _ _ _ h => h) (Or.inl ⟨by rfl, ?_⟩) ?_ ?_
     rotate_left
     ·intro w'
      go_simp
      with_reducible rfl
     rotate_left
     ·simp only [Act.put, s0_, s1_, s2_, Zax, Zay]
      rfl
     refine Zbc (i := 11) (N := some 24) (v := ?_) (a' := ?_) u9_11 rfl rfl (Zaw HT_.out t9_3) (fun _ _ _ h => h) (Or.inl ⟨by rfl, ?_⟩) ?_ ?_
     rotate_left
     ·intro w'
      go_simp
      with_reducible rfl
     rotate_left
     ·simp only [Act.put, s0_, s1_, s2_, Zax, Zay]
      rfl
     refine Zdh (i := 8) (N := some 21) (v := ?_) (a' := ?_) u9_12 rfl rfl (Zbt HT_.out HW_.out t9_3) (fun _ _ _ h => h) (Or.inl ⟨by rfl, ?_⟩) hHeld ?_ ?_
     rotate_left
     ·rintro w' ⟨s0, s1, s2, s3, s4, s5⟩
      go_simp
      with_reducible rfl
     rotate_left
     ·simp only [Act.put, s0_, s1_, s2_, Zax, Zay]
      rfl
     refine Zdh (i := 12) (N := some 25) (v := ?_) (a' := ?_) u9_13 rfl rfl (Zbt HT_.out HW_.out t9_3) (fun _ _ _ h => h) (Or.inl ⟨by rfl, ?_⟩) hHeld ?_ ?_
     rotate_left
     ·rintro w' ⟨s0, s1, s2, s3, s4, s5⟩
      go_simp
      with_reducible rfl
     rotate_left
     ·simp only [Act.put, s0_, s1_, s2_, Zax, Zay]
      rfl
     refine one_ (i := 13) (N := some 26) u9_14 rfl rfl (Zda HT_.out t9_3) t9_4 (fun K hK => ?_)
     refine goes_ Try.func75 t9_3 rfl #[.agg #[.int .i64 ((Zaf x3_1 x5_2).f0), .int .u8 ((Zaf x3_1 x5_2).f1), .bool ((Zaf x3_1 x5_2).f2)], .agg #[.int .i64 ((Zaf l0 x4_1).f0), .int .u8 ((Zaf l0 x4_1).f1), .bool ((Zaf l0 x4_1).f2)]] (by rfl) rfl rfl t9_0 ?_
     with_reducible refine (Zbs.calls ((Zaf x3_1 x5_2).f0) ((Zaf x3_1 x5_2).f1) ((Zaf x3_1 x5_2).f2) ((Zaf l0 x4_1).f0) ((Zaf l0 x4_1).f1) ((Zaf l0 x4_1).f2) true _ A7.out).mono ?_
     rintro e w11 ⟨rfl, hb⟩
     have HS0_ := (hb.cell (World.block_lt_of_cell? _ _ (hHeld.1))).trans (hHeld.1)
     have HS1_ := (hb.cell (World.block_lt_of_cell? _ _ (hHeld.2.1))).trans (hHeld.2.1)
     have HS2_ := (hb.cell (World.block_lt_of_cell? _ _ (hHeld.2.2.1))).trans (hHeld.2.2.1)
     refine ⟨_, rfl, ?_⟩
     have n0_ := RB HO_3 hb
     have n1_ := BS HB hb
     clear HO_3
     clear HB
     have HO_3 := n0_
     have HB := n1_
     clear n0_ n1_
     (try clear hb)
     (try clear hb2)
     (try clear hk)
     (try clear hi)
     refine hK.out _ _ ⟨HS0_, HS1_, HS2_, ((HB.out.cell (World.block_lt_of_cell? w _ hw207_0)).trans hw207_0), ((HB.out.cell (World.block_lt_of_cell? w _ hw207_1)).trans hw207_1), ((HB.out.cell (World.block_lt_of_cell? w _ hw207_2)).trans hw207_2)⟩ (fun hHeld => ?_)
     clear hK K
     refine Zem (a' := ?_) ?_ ?_
     rotate_left
     ·show Act.put _ (some 26) _ = _
      simp only [Act.put, s0_, s1_, s2_, Zax, Zay]
      rfl
     refine Zbc (i := 14) (N := some 27) (v := ?_) (a' := ?_) u9_15 rfl rfl (Zaw HT_.out t9_3) (fun _ _ _ h => h) (Or.inl ⟨by rfl, ?_⟩) ?_ ?_
     rotate_left
     ·intro w'
      go_simp
      with_reducible rfl
     rotate_left
     ·simp only [Act.put, s0_, s1_, s2_, Zax, Zay]
      rfl
     refine done_ (Zdj HT_.out t9_3) ?_
     try go_wp2
     go_roundg k2
     case measure => have := HK1.out; have := HK2.out; omega
     case rel => exact ⟨(wrap64 (x5_2 + 1)), t9_2, H', ⟨by have := HK1.out; have := HK2.out; omega⟩, ⟨RD HO_3⟩, ⟨BD HB⟩⟩
end Go.Proofs.Ytclgclcoblfddaa.P
