/- Printed by a program for this claim: functions of the program as plain functions, and that the machine computes them. -/
import Derived.Test.YtclgclcoblfddaaPx0
import Derived.Test.YtclgclcoblfddaaPShort
import Derived.Test.YtclgclcoblfddaaPx3
import Derived.Test.YtclgclcoblfddaaPx12
import Derived.Test.YtclgclcoblfddaaClosG
namespace Go.Proofs.Ytclgclcoblfddaa.P
open Go.RowKit Go.Proofs.YtclgclcoblfddaaW.PrintWords Go.Proofs.YtclgclcoblfddaaW.PrintLast Go.Proofs.YtclgclcoblfddaaW.PrintMore
attribute [local go_sem] Zeg Zee Zfg Zff Zdo Zdm Zef Zed
set_option linter.unusedVariables false
set_option linter.unusedSimpArgs false
theorem t13_2 {p : Prop} (h : p := by kernel_rfl) : p := h
theorem t13_1 {p : Prop} (h : p := by first | rfl | (simp; done) | (simp [*]; done)) : p := h
theorem t13_0 {p : Prop} (h : p := by first | (with_reducible assumption) | assumption) : p := h
def u13_0 : Array Bool := #[false, false, false, false, false, false, false, false, false, false, false, false, false, false, false, false, false, false, false, false, false, false]
def u13_1 : Array Bool := #[true, false, false, false, false, false, false, false, false, false, false, false, false, false, false, false, false, false, false, false, false, false]
def u13_2 : Array Bool := #[true, true, false, false, false, false, false, false, false, false, false, false, false, false, false, false, false, false, false, false, false, false]
def u13_3 : Array Bool := #[true, true, true, false, false, false, false, false, false, false, false, false, false, false, false, false, false, false, false, false, false, false]
def u13_4 : Array Bool := #[true, true, true, true, false, false, false, false, false, false, false, false, false, false, false, false, false, false, false, false, false, false]
def u13_5 : Array Bool := #[true, true, true, true, true, false, false, false, false, false, false, false, false, false, false, false, false, false, false, false, false, false]
def u13_6 : Array Bool := #[true, true, true, true, true, true, false, false, false, false, false, false, false, false, false, false, false, false, false, false, false, false]
def u13_7 : Array Bool := #[true, true, true, true, true, true, false, true, false, false, false, false, false, false, false, false, false, false, false, false, false, false]
def u13_8 : Array Bool := #[true, true, true, true, true, true, false, true, true, false, false, false, false, false, false, false, false, false, false, false, false, false]
def u13_9 : Array Bool := #[true, true, true, true, true, true, false, true, true, true, false, false, false, false, false, false, false, false, false, false, false, false]
def u13_10 : Array Bool := #[true, true, true, true, true, true, false, true, true, true, true, false, false, false, false, false, false, false, false, false, false, false]
def u13_11 : Array Bool := #[true, true, true, true, true, true, false, true, true, true, true, true, false, false, false, false, false, false, false, false, false, false]
def u13_12 : Array Bool := #[true, true, true, true, true, true, false, true, true, true, true, true, false, true, false, false, false, false, false, false, false, false]
def u13_13 : Array Bool := #[true, true, true, true, true, true, false, true, true, true, true, true, false, true, true, false, false, false, false, false, false, false]
def u13_14 : Array Bool := #[true, true, true, true, true, true, false, true, true, true, true, true, false, true, true, true, false, false, false, false, false, false]
def u13_15 : Array Bool := #[true, true, true, true, true, true, false, true, true, true, true, true, false, true, true, true, true, false, false, false, false, false]
def u13_16 : Array Bool := #[true, true, true, true, true, true, true, true, true, true, true, true, false, true, true, true, true, false, false, false, false, false]
def u13_17 : Array Bool := #[true, true, true, true, true, true, true, true, true, true, true, true, true, true, true, true, true, false, false, false, false, false]
def u13_18 : Array Bool := #[true, true, true, true, true, true, true, true, true, true, true, true, true, true, true, true, true, true, false, false, false, false]
def u13_19 : Array Bool := #[true, true, true, true, true, true, true, true, true, true, true, true, true, true, true, true, true, true, true, false, false, false]
def u13_20 : Array Bool := #[true, true, true, true, true, true, true, true, true, true, true, true, true, true, true, true, true, true, true, true, false, false]
def u13_21 : Array Bool := #[true, true, true, true, true, true, true, true, true, true, true, true, true, true, true, true, true, true, true, true, true, false]
def u13_22 : Array Bool := #[true, true, true, true, true, true, true, true, true, true, true, true, true, true, true, true, true, true, true, true, true, true]
attribute [local go_sem high] eqA44
def Zbk.l0 : Nat → List (S32) → List (S44) → Int → Option ((List (S44)))
 | 0, _, _, _ => none
 | k + 1, x0, x3, x4 => if x4 < (x0.length : Int) then (if 0 ≤ x4 then ((Zbn.f ((rd_T32 x0 x4).f0) ((rd_T32 x0 x4).f1)).bind fun bt330 => (if x3.length < 8796093022208 then (Zbk.l0 k x0 (x3 ++ [(⟨bt330.1, bt330.2.1, bt330.2.2⟩ : S44)]) (wrap64 (x4 + 1))) else (none))) else (none)) else (some x3)
def Zbk.f (k : Nat) (l0 : List (S32)) : Option ((List (S44))) := Zbk.l0 k l0 ([] : List (S44)) 0
set_option maxHeartbeats 8000000 in
set_option maxRecDepth 100000 in
theorem Zbk.calls (k : Nat) (A0 : Option Addr) (c0 : Nat) (l0 : List (S32)) (r : List (S44)) (w : World) (hr0 : Kd.C k32 w A0 l0.length l0) (hc0 : l0.length ≤ c0) (h : Zbk.f k l0 = some r) :
  Calls Try.prog 18 #[.slice A0 l0.length c0] w fun e w' => ∃ v0_ : Value, e = .returned (v0_) ∧ Kd.R k44 44 w' w.heap.size (fun _ => True) v0_ r ∧ Below w.heap.size w w' := by
 have hu32 := Try.underlying32
 have HR0 := Za.mk hr0
 have HC0 := Za.mk hc0
 clear hr0 hc0
 have HB := Za.mk (Below.refl w.heap.size w)
 have H : (Zbk.l0 k l0 ([] : List (S44)) 0) = some r := h
 clear h
 have H' := Za.mk H
 clear H
 go_enter Try.func18, Try.ntmps18
 go_wp2
 go_loopg [3, 4] k (fun kq v3 v4 w' => ∃ (x3_1 : List (S44)) (x4_1 : Int), v4 = .int .i64 x4_1 ∧ Za (Zbk.l0 kq l0 x3_1 x4_1 = some r) ∧ Za (kq ≤ k) ∧ Za (Kd.R k44 44 w' w.heap.size (fun _ => True) v3 x3_1) ∧ Za (Below w.heap.size w w'))
 case atStart => exact ⟨(([] : List (S44))), (0), t13_1, H', ⟨Nat.le_refl _⟩, ⟨by first | exact Kd.R_nil _ _ _ _ _ | exact Kd.N_nil _ _ _ _ _ | exact Kd.V_nil _ _ _ _ _ | exact Kd.Q_nil _ _ _ _ _ | exact Kd.S_nil _ _ _ _ _⟩, ⟨BD HB⟩⟩
 case round =>
  clear H'
  try clear c1
  obtain ⟨x3_1, x4_1, rfl, HA, HK1, HO_3, HB⟩ := hrel
  cases gk with
  | zero => exact absurd HA.out (by simp [Zbk.l0])
  | succ k1 =>
   have H := HA.out
   clear HA
   simp only [Zbk.l0] at H
   by_cases c2 : x4_1 < (l0.length : Int)
   case neg =>
    rw [if_neg c2] at H
    have c2b0 : decide (x4_1 < (l0.length : Int)) = false := decide_eq_false c2
    clear c2
    obtain rfl := Option.some.inj H
    go_wp2
    go_ret
    exact ⟨_, by first | rfl | (simp [Zbe, Zbd] <;> rfl) | (simp [*, Zbe, Zbd] <;> rfl), RD HO_3, BD HB⟩
   rw [if_pos c2] at H
   have c2b0 : decide (x4_1 < (l0.length : Int)) = true := decide_eq_true c2
   clear c2
   by_cases c3 : 0 ≤ x4_1
   case neg =>
    rw [if_neg c3] at H
    exact absurd H (by simp)
   rw [if_pos c3] at H
   have c3b0 : decide (0 ≤ x4_1) = true := decide_eq_true c3
   clear c3
   replace H := Option.bind_eq_some_iff.mp H
   obtain ⟨⟨t330, t331, t332⟩, A40, H⟩ := H
   replace H : (if x3_1.length < 8796093022208 then (Zbk.l0 k1 l0 (x3_1 ++ [(⟨t330, t331, t332⟩ : S44)]) (wrap64 (x4_1 + 1))) else (none)) = some r := H
   have A4 := Za.mk A40
   clear A40
   by_cases c5 : x3_1.length < 8796093022208
   case neg =>
    rw [if_neg c5] at H
    exact absurd H (by simp)
   rw [if_pos c5] at H
   have LMc5 := Za.mk c5
   clear c5
   obtain ⟨y333, hy333⟩ : ∃ y_ : List (S44), y_ = (x3_1 ++ [(⟨t330, t331, t332⟩ : S44)]) := ⟨_, rfl⟩
   replace H : (Zbk.l0 k1 l0 y333 (wrap64 (x4_1 + 1))) = some r := by first | (rw [hy333]; with_reducible exact H) | (have H2_ := (Option.bind_some _ _).symm.trans H; rw [hy333]; with_reducible exact H2_) | (have H2_ := (Option.bind_some _ _).symm.trans H; with_reducible exact H2_) | with_reducible exact H | (rw [hy333]; exact H) | exact H
   have Ny333 := Za.mk hy333
   clear hy333
   have H' := Za.mk H
   clear H
   have p329 : 0 ≤ (x4_1 : Int) := of_decide_eq_true t13_0
   have q329 : x4_1 < (l0.length : Int) := of_decide_eq_true t13_0
   obtain ⟨ad329, e329, hx329_0, hx329_1⟩ := at_T32 HR0.out x4_1 p329 q329
   cases e329
   replace hx329_0 := (HB.out.cell (World.block_lt_of_cell? w _ hx329_0)).trans hx329_0
   replace hx329_1 := (HB.out.cell (World.block_lt_of_cell? w _ hx329_1)).trans hx329_1
   replace p329 := eq_true p329
   replace q329 := eq_true q329
   go_wp2_with (first | ((with_reducible refine Zbl (f := 17) rfl ?_); refine Zcx (some 16) rfl rfl Try.func17 t13_2 rfl #[.agg #[.int .i64 ((rd_T32 l0 x4_1).f0), .int .u8 ((rd_T32 l0 x4_1).f1)]] rfl (by (try simp only [List.map_toArray, List.map_cons, List.map_nil]); first | done | rfl | (simp only [List.length_drop, List.length_take]; rfl)) ?_; (with_reducible refine (Zbn.calls ((rd_T32 l0 x4_1).f0) ((rd_T32 l0 x4_1).f1) t330 t331 t332 _ A4.out).mono ?_); rintro e w6 ⟨rfl, hb⟩; refine ⟨_, rfl, ?_⟩; have n0_ := RB HO_3 hb; have n1_ := BS HB hb; clear HO_3; clear HB; have HO_3 := n0_; have HB := n1_; clear n0_ n1_; (try clear hb); (try clear hb2); (try clear hk); (try clear hi)) | ((with_reducible refine Zdl (b := .append) (xs := #[.tmp 11, .tmp 17]) rfl ?_); at_builtin; refine Kd.R_append k44 (w0 := w) w.heap.size rfl (.tmp 11) (.tmp 17) 40 44 (.agg #[(.int .i64 0), (.int .u8 0), (.bool false)]) 16 rfl Try.underlying40 info44 rfl (by decide) (by omega) u3 x3_1 (⟨t330, t331, t332⟩ : S44) [.int .i64 t330, .int .u8 t331, .bool t332] (fun _ => True) (fun _ => False) rfl rfl ?aP (fun _ hk => hk.elim) ?aF ?aO ?aB ?aS ?aL ?_; (case aP => exact k44_mkM _ _ _ (⟨t330, t331, t332⟩ : S44)); (case aB => exact (BD HB)); (case aF => exact (fun _ _ => trivial)); (case aO => exact (RD HO_3)); (case aS => exact (Zat (BD HB))); (case aL => have := LMc5.out; omega); intro v334 w7 ho hb hg hat; rw [← Ny333.out] at ho; have n0_ := Za.mk (hb); have n1_ := Za.mk (ho); clear HB; clear HO_3; have HB := n0_; have HO335 := n1_; clear n0_ n1_; clear ho hb hg hat))
   go_roundg k1
   case measure => have := HK1.out; omega
   case rel => exact ⟨(y333), (wrap64 (x4_1 + 1)), t13_1, H', ⟨by have := HK1.out; omega⟩, ⟨RD HO335⟩, ⟨BD HB⟩⟩
def Zbf.l0 : Nat → List (S44) → List (S44) → Int → Option (Bool)
 | 0, _, _, _ => none
 | k + 1, x0, x1, x5 => if x5 < (x0.length : Int) then (if 0 ≤ x5 then (if x5 < (x1.length : Int) then (if (!(((Zaf x0 x5).f0) == ((Zaf x1 x5).f0)) || (!(((Zaf x0 x5).f1) == ((Zaf x1 x5).f1)) || (!(((Zaf x0 x5).f2) == ((Zaf x1 x5).f2))))) = true then (some false) else (Zbf.l0 k x0 x1 (wrap64 (x5 + 1)))) else (none)) else (none)) else (some true)
def Zbf.f (k : Nat) (l0 : List (S44)) (l1 : List (S44)) : Option (Bool) := if (l0.length : Int) = (l1.length : Int) then (Zbf.l0 k l0 l1 0) else (some false)
set_option maxHeartbeats 8000000 in
set_option maxRecDepth 100000 in
theorem Zbf.calls (k : Nat) (A0 : Option Addr) (c0 : Nat) (l0 : List (S44)) (A1 : Option Addr) (c1 : Nat) (l1 : List (S44)) (r : Bool) (w : World) (hr0 : Kd.C k44 w A0 l0.length l0) (hc0 : l0.length ≤ c0) (hr1 : Kd.C k44 w A1 l1.length l1) (hc1 : l1.length ≤ c1) (h : Zbf.f k l0 l1 = some r) :
  Calls Try.prog 19 #[.slice A0 l0.length c0, .slice A1 l1.length c1] w fun e w' => e = .returned (.bool r) ∧ Zdc w w' := by
 have hu44 := Try.underlying44
 have HR0 := Za.mk hr0
 have HC0 := Za.mk hc0
 clear hr0 hc0
 have HR1 := Za.mk hr1
 have HC1 := Za.mk hc1
 clear hr1 hc1
 have H : (if (l0.length : Int) = (l1.length : Int) then (Zbf.l0 k l0 l1 0) else (some false)) = some r := h
 clear h
 by_cases c3 : (l0.length : Int) = (l1.length : Int)
 case neg =>
  rw [if_neg c3] at H
  have c3b0 : ((l0.length : Int) == (l1.length : Int)) = false := beq_eq_false_iff_ne.mpr c3
  have c3b1 : ((l0.length : Int) != (l1.length : Int)) = true := bne_iff_ne.mpr c3
  have c3b2 : (l0.length == l1.length) = false := by first | simpa using c3 | (simp at c3 ⊢; omega)
  obtain rfl := Option.some.inj H
  go_enter Try.func19, Try.ntmps19
  go_wp2
  repeat (go_quiet (fail); try go_wp2)
  go_ret
  exact ⟨by first | rfl | (simp; done) | (simp [*]; done), by repeat (first | exact Zdc.refl _ | apply Zdc.step)⟩
 rw [if_pos c3] at H
 have c3b0 : ((l0.length : Int) == (l1.length : Int)) = true := beq_iff_eq.mpr c3
 have c3b1 : ((l0.length : Int) != (l1.length : Int)) = false := bne_eq_false_iff_eq.mpr c3
 have c3b2 : (l0.length == l1.length) = true := by first | simpa using c3 | (simp at c3 ⊢; omega)
 clear c3
 have H' := Za.mk H
 clear H
 go_enter Try.func19, Try.ntmps19
 go_wp2
 repeat (go_quiet (fail); try go_wp2)
 go_loopg [5] k (fun kq v5 w' => ∃ (x5_1 : Int), v5 = .int .i64 x5_1 ∧ Za (Zbf.l0 kq l0 l1 x5_1 = some r) ∧ Za (kq ≤ k) ∧ Zdc w w')
 case atStart => exact ⟨(0), t13_1, H', ⟨Nat.le_refl _⟩, by repeat (first | exact Zdc.refl _ | apply Zdc.step)⟩
 case round =>
  clear H'
  try clear c1
  try clear p2
  try clear c3
  try clear c3b0
  try clear c3b1
  try clear c3b2
  obtain ⟨x5_1, rfl, HA, HK1, ⟨m1, rfl⟩⟩ := hrel
  cases gk with
  | zero => exact absurd HA.out (by simp [Zbf.l0])
  | succ k1 =>
   have H := HA.out
   clear HA
   simp only [Zbf.l0] at H
   by_cases c4 : x5_1 < (l0.length : Int)
   case neg =>
    rw [if_neg c4] at H
    have c4b0 : decide (x5_1 < (l0.length : Int)) = false := decide_eq_false c4
    clear c4
    obtain rfl := Option.some.inj H
    go_wp2
    repeat (go_quiet (fail); try go_wp2)
    go_ret
    exact ⟨by first | rfl | (simp; done) | (simp [*]; done), by repeat (first | exact Zdc.refl _ | apply Zdc.step)⟩
   rw [if_pos c4] at H
   have c4b0 : decide (x5_1 < (l0.length : Int)) = true := decide_eq_true c4
   clear c4
   by_cases c5 : 0 ≤ x5_1
   case neg =>
    rw [if_neg c5] at H
    exact absurd H (by simp)
   rw [if_pos c5] at H
   have c5b0 : decide (0 ≤ x5_1) = true := decide_eq_true c5
   clear c5
   by_cases c6 : x5_1 < (l1.length : Int)
   case neg =>
    rw [if_neg c6] at H
    exact absurd H (by simp)
   rw [if_pos c6] at H
   have c6b0 : decide (x5_1 < (l1.length : Int)) = true := decide_eq_true c6
   clear c6
   by_cases c7 : (!(((Zaf l0 x5_1).f0) == ((Zaf l1 x5_1).f0)) || (!(((Zaf l0 x5_1).f1) == ((Zaf l1 x5_1).f1)) || (!(((Zaf l0 x5_1).f2) == ((Zaf l1 x5_1).f2))))) = true
   case neg =>
    rw [if_neg c7] at H
    have c7b0 : (!(((Zaf l0 x5_1).f0) == ((Zaf l1 x5_1).f0)) || (!(((Zaf l0 x5_1).f1) == ((Zaf l1 x5_1).f1)) || (!(((Zaf l0 x5_1).f2) == ((Zaf l1 x5_1).f2))))) = false := by simpa using c7
    clear c7
    have H' := Za.mk H
    clear H
    have p336 : 0 ≤ (x5_1 : Int) := of_decide_eq_true t13_0
    have q336 : x5_1 < (l0.length : Int) := of_decide_eq_true t13_0
    obtain ⟨ad336, e336, hx336_0, hx336_1, hx336_2⟩ := Zc HR0.out x5_1 p336 q336
    cases e336
    replace p336 := eq_true p336
    replace q336 := eq_true q336
    have p337 : 0 ≤ (x5_1 : Int) := of_decide_eq_true t13_0
    have q337 : x5_1 < (l1.length : Int) := of_decide_eq_true t13_0
    obtain ⟨ad337, e337, hx337_0, hx337_1, hx337_2⟩ := Zc HR1.out x5_1 p337 q337
    cases e337
    replace p337 := eq_true p337
    replace q337 := eq_true q337
    go_wp2
    repeat (go_quiet (fail); try go_wp2)
    go_roundg k1
    case measure => have := HK1.out; omega
    case rel => exact ⟨(wrap64 (x5_1 + 1)), t13_1, H', ⟨by have := HK1.out; omega⟩, by repeat (first | exact Zdc.refl _ | apply Zdc.step)⟩
   rw [if_pos c7] at H
   have c7b0 : (!(((Zaf l0 x5_1).f0) == ((Zaf l1 x5_1).f0)) || (!(((Zaf l0 x5_1).f1) == ((Zaf l1 x5_1).f1)) || (!(((Zaf l0 x5_1).f2) == ((Zaf l1 x5_1).f2))))) = true := c7
   clear c7
   obtain rfl := Option.some.inj H
   have p336 : 0 ≤ (x5_1 : Int) := of_decide_eq_true t13_0
   have q336 : x5_1 < (l0.length : Int) := of_decide_eq_true t13_0
   obtain ⟨ad336, e336, hx336_0, hx336_1, hx336_2⟩ := Zc HR0.out x5_1 p336 q336
   cases e336
   replace p336 := eq_true p336
   replace q336 := eq_true q336
   have p337 : 0 ≤ (x5_1 : Int) := of_decide_eq_true t13_0
   have q337 : x5_1 < (l1.length : Int) := of_decide_eq_true t13_0
   obtain ⟨ad337, e337, hx337_0, hx337_1, hx337_2⟩ := Zc HR1.out x5_1 p337 q337
   cases e337
   replace p337 := eq_true p337
   replace q337 := eq_true q337
   go_wp2
   repeat (go_quiet (fail); try go_wp2)
   go_ret
   exact ⟨by first | rfl | (simp; done) | (simp [*]; done), by repeat (first | exact Zdc.refl _ | apply Zdc.step)⟩
def Zba.l0 : Nat → List (S34) → List (S44) → Int → Option ((List (S44)))
 | 0, _, _, _ => none
 | k + 1, x0, x3, x4 => if x4 < (x0.length : Int) then (if 0 ≤ x4 then (if x3.length < 8796093022208 then (Zba.l0 k x0 (x3 ++ [(⟨(Zby x0 x4).f0.f0, (Zby x0 x4).f0.f1, (Zby x0 x4).f1⟩ : S44)]) (wrap64 (x4 + 1))) else (none)) else (none)) else (some x3)
def Zba.f (k : Nat) (l0 : List (S34)) : Option ((List (S44))) := Zba.l0 k l0 ([] : List (S44)) 0
def Zba.T5 : Bool × List (List Nat × List Nat) := (true, [([], []), ([], []), ([], []), ([1, 2], [1, 2]), ([3], [3]), ([4], [4]), ([5], [5]), ([], []), ([], []), ([7, 8], [7, 8]), ([9], [9]), ([10], [10]), ([11], [11]), ([], []), ([], []), ([13, 14], [13, 14]), ([15], [15]), ([16], [16]), ([6, 12, 17], [6, 12, 17]), ([18], [18]), ([0, 19], [0, 19]), ([20, 20, 0, 1, 2, 3, 4, 5, 6, 7, 8, 9, 10, 11, 12, 13, 14, 15, 16, 17, 18, 19, 20], [0, 20])])
def Zba.B5 : List Nat := [0, 0, 0, 6, 14, 30, 62, 0, 0, 384, 896, 1920, 3968, 0, 0, 24576, 57344, 122880, 262142, 524286, 1048575, 2097151]
theorem Zba.tab5 : rtab .any (opsOf Try.f20 5) = Zba.T5 := by kernel_rfl
theorem Zba.bits5 : Zeo Zba.T5.2 Zba.B5 = true := by kernel_rfl
set_option maxHeartbeats 8000000 in
set_option maxRecDepth 100000 in
theorem Zba.calls (k : Nat) (A0 : Option Addr) (c0 : Nat) (l0 : List (S34)) (r : List (S44)) (w : World) (hr0 : Kd.C k34 w A0 l0.length l0) (hc0 : l0.length ≤ c0) (h : Zba.f k l0 = some r) :
  Calls Try.prog 20 #[.slice A0 l0.length c0] w fun e w' => ∃ v0_ : Value, e = .returned (v0_) ∧ Kd.R k44 44 w' w.heap.size (fun _ => True) v0_ r ∧ Below w.heap.size w w' := by
 have hu44 := Try.underlying44
 have HR0 := Za.mk hr0
 have HC0 := Za.mk hc0
 clear hr0 hc0
 have HB := Za.mk (Below.refl w.heap.size w)
 have H : (Zba.l0 k l0 ([] : List (S44)) 0) = some r := h
 clear h
 have H' := Za.mk H
 clear H
 go_enter Try.func20, Try.ntmps20
 go_wp2
 go_loopg [3, 4] k (fun kq v3 v4 w' => ∃ (x3_1 : List (S44)) (x4_1 : Int), v4 = .int .i64 x4_1 ∧ Za (Zba.l0 kq l0 x3_1 x4_1 = some r) ∧ Za (kq ≤ k) ∧ Za (Kd.R k44 44 w' w.heap.size (fun _ => True) v3 x3_1) ∧ Za (Below w.heap.size w w'))
 case atStart => exact ⟨(([] : List (S44))), (0), t13_1, H', ⟨Nat.le_refl _⟩, ⟨by first | exact Kd.R_nil _ _ _ _ _ | exact Kd.N_nil _ _ _ _ _ | exact Kd.V_nil _ _ _ _ _ | exact Kd.Q_nil _ _ _ _ _ | exact Kd.S_nil _ _ _ _ _⟩, ⟨BD HB⟩⟩
 case round =>
  clear H'
  obtain ⟨x3_1, x4_1, rfl, HA, HK1, HO_3, HB⟩ := hrel
  cases gk with
  | zero => exact absurd HA.out (by simp [Zba.l0])
  | succ k1 =>
   have H := HA.out
   clear HA
   simp only [Zba.l0] at H
   by_cases c2 : x4_1 < (l0.length : Int)
   case neg =>
    rw [if_neg c2] at H
    have c2b0 : decide (x4_1 < (l0.length : Int)) = false := decide_eq_false c2
    clear c2
    obtain rfl := Option.some.inj H
    go_wp2
    go_ret
    exact ⟨_, by first | rfl | (simp [Zbe, Zbd] <;> rfl) | (simp [*, Zbe, Zbd] <;> rfl), RD HO_3, BD HB⟩
   rw [if_pos c2] at H
   have c2b0 : decide (x4_1 < (l0.length : Int)) = true := decide_eq_true c2
   clear c2
   by_cases c3 : 0 ≤ x4_1
   case neg =>
    rw [if_neg c3] at H
    exact absurd H (by simp)
   rw [if_pos c3] at H
   have c3b0 : decide (0 ≤ x4_1) = true := decide_eq_true c3
   clear c3
   by_cases c4 : x3_1.length < 8796093022208
   case neg =>
    rw [if_neg c4] at H
    exact absurd H (by simp)
   rw [if_pos c4] at H
   have LMc4 := Za.mk c4
   clear c4
   obtain ⟨y341, hy341⟩ : ∃ y_ : List (S44), y_ = (x3_1 ++ [(⟨(Zby l0 x4_1).f0.f0, (Zby l0 x4_1).f0.f1, (Zby l0 x4_1).f1⟩ : S44)]) := ⟨_, rfl⟩
   replace H : (Zba.l0 k1 l0 y341 (wrap64 (x4_1 + 1))) = some r := by first | (rw [hy341]; with_reducible exact H) | (have H2_ := (Option.bind_some _ _).symm.trans H; rw [hy341]; with_reducible exact H2_) | (have H2_ := (Option.bind_some _ _).symm.trans H; with_reducible exact H2_) | with_reducible exact H | (rw [hy341]; exact H) | exact H
   have Ny341 := Za.mk hy341
   clear hy341
   have H' := Za.mk H
   clear H
   try go_wp2
   have n0_ := Za.mk (Kd.Zbw HO_3.out)
   have n1_ := Za.mk (Zal HB.out)
   clear HO_3
   clear HB
   have HO_3 := n0_
   have HB := n1_
   clear n0_ n1_
   have p338 : 0 ≤ (x4_1 : Int) := of_decide_eq_true t13_0
   have q338 : x4_1 < (l0.length : Int) := of_decide_eq_true t13_0
   obtain ⟨ad338, e338, hx338_0, hx338_1, hx338_2⟩ := at_T34 HR0.out x4_1 p338 q338
   have hw338_2 := hx338_2
   have hw338_1 := hx338_1
   have hw338_0 := hx338_0
   cases e338
   replace hx338_0 := (HB.out.cell (World.block_lt_of_cell? w _ hx338_0)).trans hx338_0
   replace hx338_1 := (HB.out.cell (World.block_lt_of_cell? w _ hx338_1)).trans hx338_1
   replace hx338_2 := (HB.out.cell (World.block_lt_of_cell? w _ hx338_2)).trans hx338_2
   replace p338 := eq_true p338
   replace q338 := eq_true q338
   have p339 : 0 ≤ (x4_1 : Int) := of_decide_eq_true t13_0
   have q339 : x4_1 < (l0.length : Int) := of_decide_eq_true t13_0
   obtain ⟨ad339, e339, hx339_0, hx339_1, hx339_2⟩ := at_T34 HR0.out x4_1 p339 q339
   have hw339_2 := hx339_2
   have hw339_1 := hx339_1
   have hw339_0 := hx339_0
   obtain rfl : ad338 = ad339 := (by injection e339)
   replace hx339_0 := (HB.out.cell (World.block_lt_of_cell? w _ hx339_0)).trans hx339_0
   replace hx339_1 := (HB.out.cell (World.block_lt_of_cell? w _ hx339_1)).trans hx339_1
   replace hx339_2 := (HB.out.cell (World.block_lt_of_cell? w _ hx339_2)).trans hx339_2
   replace p339 := eq_true p339
   replace q339 := eq_true q339
   have p340 : 0 ≤ (x4_1 : Int) := of_decide_eq_true t13_0
   have q340 : x4_1 < (l0.length : Int) := of_decide_eq_true t13_0
   obtain ⟨ad340, e340, hx340_0, hx340_1, hx340_2⟩ := at_T34 HR0.out x4_1 p340 q340
   have hw340_2 := hx340_2
   have hw340_1 := hx340_1
   have hw340_0 := hx340_0
   obtain rfl : ad338 = ad340 := (by injection e340)
   replace hx340_0 := (HB.out.cell (World.block_lt_of_cell? w _ hx340_0)).trans hx340_0
   replace hx340_1 := (HB.out.cell (World.block_lt_of_cell? w _ hx340_1)).trans hx340_1
   replace hx340_2 := (HB.out.cell (World.block_lt_of_cell? w _ hx340_2)).trans hx340_2
   replace p340 := eq_true p340
   replace q340 := eq_true q340
   refine Zek (n := 22) (S := fun w' => w'.cell? (ad338.add ((x4_1).toNat * 3)) = some (.int .i64 ((Zby l0 x4_1).f0.f0)) ∧ w'.cell? ⟨(ad338.add ((x4_1).toNat * 3)).block, (ad338.add ((x4_1).toNat * 3)).off + 1, none⟩ = some (.int .u8 ((Zby l0 x4_1).f0.f1)) ∧ w'.cell? ⟨(ad338.add ((x4_1).toNat * 3)).block, (ad338.add ((x4_1).toNat * 3)).off + 2, none⟩ = some (.bool ((Zby l0 x4_1).f1)) ∧ w'.cell? (ad338.add ((x4_1).toNat * 3)) = some (.int .i64 ((Zby l0 x4_1).f0.f0)) ∧ w'.cell? ⟨(ad338.add ((x4_1).toNat * 3)).block, (ad338.add ((x4_1).toNat * 3)).off + 1, none⟩ = some (.int .u8 ((Zby l0 x4_1).f0.f1)) ∧ w'.cell? ⟨(ad338.add ((x4_1).toNat * 3)).block, (ad338.add ((x4_1).toNat * 3)).off + 2, none⟩ = some (.bool ((Zby l0 x4_1).f1)) ∧ w'.cell? (ad338.add ((x4_1).toNat * 3)) = some (.int .i64 ((Zby l0 x4_1).f0.f0)) ∧ w'.cell? ⟨(ad338.add ((x4_1).toNat * 3)).block, (ad338.add ((x4_1).toNat * 3)).off + 1, none⟩ = some (.int .u8 ((Zby l0 x4_1).f0.f1)) ∧ w'.cell? ⟨(ad338.add ((x4_1).toNat * 3)).block, (ad338.add ((x4_1).toNat * 3)).off + 2, none⟩ = some (.bool ((Zby l0 x4_1).f1))) (ds := []) u13_0 t13_2 rfl rfl ⟨((HB.out.cell (World.block_lt_of_cell? w _ hw338_0)).trans hw338_0), ((HB.out.cell (World.block_lt_of_cell? w _ hw338_1)).trans hw338_1), ((HB.out.cell (World.block_lt_of_cell? w _ hw338_2)).trans hw338_2), ((HB.out.cell (World.block_lt_of_cell? w _ hw339_0)).trans hw339_0), ((HB.out.cell (World.block_lt_of_cell? w _ hw339_1)).trans hw339_1), ((HB.out.cell (World.block_lt_of_cell? w _ hw339_2)).trans hw339_2), ((HB.out.cell (World.block_lt_of_cell? w _ hw340_0)).trans hw340_0), ((HB.out.cell (World.block_lt_of_cell? w _ hw340_1)).trans hw340_1), ((HB.out.cell (World.block_lt_of_cell? w _ hw340_2)).trans hw340_2)⟩ (fun hHeld => ?_); refine Zcp Zba.tab5 Zba.bits5 (fun HT_ HW_ => ?_)
   generalize wr.drew = w5 at HO_3 HB hx338_0 hx338_1 hx338_2 hx339_0 hx339_1 hx339_2 hx340_0 hx340_1 hx340_2 hHeld ⊢
   refine Zbc (i := 0) (N := some 11) (v := ?_) (a' := ?_) u13_1 rfl rfl (Zaw HT_.out t13_2) (fun _ _ _ h => h) (Or.inl ⟨by rfl, ?_⟩) ?_ ?_
   rotate_left
   ·intro w'
    go_simp
    with_reducible rfl
   rotate_left
   ·simp only [Act.put, s0_, s1_, s2_, Zax, Zay]
    rfl
   refine Zbc (i := 1) (N := some 12) (v := ?_) (a' := ?_) u13_2 rfl rfl (Zaw HT_.out t13_2) (fun _ _ _ h => h) (Or.inl ⟨by rfl, ?_⟩) ?_ ?_
   rotate_left
   ·intro w'
    go_simp
    with_reducible rfl
   rotate_left
   ·simp only [Act.put, s0_, s1_, s2_, Zax, Zay]
    rfl
   refine Zbc (i := 2) (N := some 13) (v := ?_) (a' := ?_) u13_3 rfl rfl (Zaw HT_.out t13_2) (fun _ _ _ h => h) (Or.inl ⟨by rfl, ?_⟩) ?_ ?_
   rotate_left
   ·intro w'
    go_simp
    with_reducible rfl
   rotate_left
   ·simp only [Act.put, s0_, s1_, s2_, Zax, Zay]
    rfl
   refine Zbc (i := 3) (N := some 14) (v := ?_) (a' := ?_) u13_4 rfl rfl (Zaw HT_.out t13_2) (fun _ _ _ h => h) (Or.inl ⟨by rfl, ?_⟩) ?_ ?_
   rotate_left
   ·intro w'
    go_simp
    with_reducible rfl
   rotate_left
   ·simp only [Act.put, s0_, s1_, s2_, Zax, Zay]
    rfl
   refine Zbc (i := 4) (N := some 15) (v := ?_) (a' := ?_) u13_5 rfl rfl (Zaw HT_.out t13_2) (fun _ _ _ h => h) (Or.inl ⟨by rfl, ?_⟩) ?_ ?_
   rotate_left
   ·intro w'
    go_simp
    with_reducible rfl
   rotate_left
   ·simp only [Act.put, s0_, s1_, s2_, Zax, Zay]
    rfl
   refine Zbc (i := 5) (N := some 16) (v := ?_) (a' := ?_) u13_6 rfl rfl (Zaw HT_.out t13_2) (fun _ _ _ h => h) (Or.inl ⟨by rfl, ?_⟩) ?_ ?_
   rotate_left
   ·intro w'
    go_simp
    with_reducible rfl
   rotate_left
   ·simp only [Act.put, s0_, s1_, s2_, Zax, Zay]
    rfl
   refine Zbc (i := 7) (N := some 18) (v := ?_) (a' := ?_) u13_7 rfl rfl (Zaw HT_.out t13_2) (fun _ _ _ h => h) (Or.inl ⟨by rfl, ?_⟩) ?_ ?_
   rotate_left
   ·intro w'
    go_simp
    with_reducible rfl
   rotate_left
   ·simp only [Act.put, s0_, s1_, s2_, Zax, Zay]
    rfl
   refine Zbc (i := 8) (N := some 19) (v := ?_) (a' := ?_) u13_8 rfl rfl (Zaw HT_.out t13_2) (fun _ _ _ h => h) (Or.inl ⟨by rfl, ?_⟩) ?_ ?_
   rotate_left
   ·intro w'
    go_simp
    with_reducible rfl
   rotate_left
   ·simp only [Act.put, s0_, s1_, s2_, Zax, Zay]
    rfl
   refine Zbc (i := 9) (N := some 20) (v := ?_) (a' := ?_) u13_9 rfl rfl (Zaw HT_.out t13_2) (fun _ _ _ h => h) (Or.inl ⟨by rfl, ?_⟩) ?_ ?_
   rotate_left
   ·intro w'
    go_simp
    with_reducible rfl
   rotate_left
   ·simp only [Act.put, s0_, s1_, s2_, Zax, Zay]
    rfl
   refine Zbc (i := 10) (N := some 21) (v := ?_) (a' := ?_) u13_10 rfl rfl (Zaw HT_.out t13_2) (fun _ _ _ h => h) (Or.inl ⟨by rfl, ?_⟩) ?_ ?_
   rotate_left
   ·intro w'
    go_simp
    with_reducible rfl
   rotate_left
   ·simp only [Act.put, s0_, s1_, s2_, Zax, Zay]
    rfl
   refine Zbc (i := 11) (N := some 22) (v := ?_) (a' := ?_) u13_11 rfl rfl (Zaw HT_.out t13_2) (fun _ _ _ h => h) (Or.inl ⟨by rfl, ?_⟩) ?_ ?_
   rotate_left
   ·intro w'
    go_simp
    with_reducible rfl
   rotate_left
   ·simp only [Act.put, s0_, s1_, s2_, Zax, Zay]
    rfl
   refine Zbc (i := 13) (N := some 24) (v := ?_) (a' := ?_) u13_12 rfl rfl (Zaw HT_.out t13_2) (fun _ _ _ h => h) (Or.inl ⟨by rfl, ?_⟩) ?_ ?_
   rotate_left
   ·intro w'
    go_simp
    with_reducible rfl
   rotate_left
   ·simp only [Act.put, s0_, s1_, s2_, Zax, Zay]
    rfl
   refine Zbc (i := 14) (N := some 25) (v := ?_) (a' := ?_) u13_13 rfl rfl (Zaw HT_.out t13_2) (fun _ _ _ h => h) (Or.inl ⟨by rfl, ?_⟩) ?_ ?_
   rotate_left
   ·intro w'
    go_simp
    with_reducible rfl
   rotate_left
   ·simp only [Act.put, s0_, s1_, s2_, Zax, Zay]
    rfl
   refine Zbc (i := 15) (N := some 26) (v := ?_) (a' := ?_) u13_14 rfl rfl (Zaw HT_.out t13_2) (fun _ _ _ h => h) (Or.inl ⟨by rfl, ?_⟩) ?_ ?_
   rotate_left
   ·intro w'
    go_simp
    with_reducible rfl
   rotate_left
   ·simp only [Act.put, s0_, s1_, s2_, Zax, Zay]
    rfl
   refine Zbc (i := 16) (N := some 27) (v := ?_) (a' := ?_) u13_15 rfl rfl (Zaw HT_.out t13_2) (fun _ _ _ h => h) (Or.inl ⟨by rfl, ?_⟩) ?_ ?_
   rotate_left
   ·intro w'
    go_simp
    with_reducible rfl
   rotate_left
   ·simp only [Act.put, s0_, s1_, s2_, Zax, Zay]
    rfl
   refine Zdh (i := 6) (N := some 17) (v := ?_) (a' := ?_) u13_16 rfl rfl (Zbt HT_.out HW_.out t13_2) (fun _ _ _ h => h) (Or.inl ⟨by rfl, ?_⟩) hHeld ?_ ?_
   rotate_left
   ·rintro w' ⟨s0, s1, s2, s3, s4, s5, s6, s7, s8⟩
    go_simp
    with_reducible rfl
   rotate_left
   ·simp only [Act.put, s0_, s1_, s2_, Zax, Zay]
    rfl
   refine Zdh (i := 12) (N := some 23) (v := ?_) (a' := ?_) u13_17 rfl rfl (Zbt HT_.out HW_.out t13_2) (fun _ _ _ h => h) (Or.inl ⟨by rfl, ?_⟩) hHeld ?_ ?_
   rotate_left
   ·rintro w' ⟨s0, s1, s2, s3, s4, s5, s6, s7, s8⟩
    go_simp
    with_reducible rfl
   rotate_left
   ·simp only [Act.put, s0_, s1_, s2_, Zax, Zay]
    rfl
   refine Zdh (i := 17) (N := some 28) (v := ?_) (a' := ?_) u13_18 rfl rfl (Zbt HT_.out HW_.out t13_2) (fun _ _ _ h => h) (Or.inl ⟨by rfl, ?_⟩) hHeld ?_ ?_
   rotate_left
   ·rintro w' ⟨s0, s1, s2, s3, s4, s5, s6, s7, s8⟩
    go_simp
    with_reducible rfl
   rotate_left
   ·simp only [Act.put, s0_, s1_, s2_, Zax, Zay]
    rfl
   refine Zbc (i := 18) (N := some 29) (v := ?_) (a' := ?_) u13_19 rfl rfl (Zaw HT_.out t13_2) (fun _ _ _ h => h) (Or.inl ⟨by rfl, ?_⟩) ?_ ?_
   rotate_left
   ·intro w'
    go_simp
    with_reducible rfl
   rotate_left
   ·simp only [Act.put, s0_, s1_, s2_, Zax, Zay]
    rfl
   refine one_ (i := 19) (N := some 30) u13_20 rfl rfl (Zda HT_.out t13_2) (by decide) (fun K hK => ?_)
   refine value_ (w1 := ?_) (v := ?_) (by rfl) rfl ?_ ?_
   rotate_left 2
   ·go_simp
    constructor
    ·rfl
    ·rfl
   refine hK.out _ _ ⟨(World.cell?_alloc_lt _ _ _ (World.block_lt_of_cell? _ _ (((HB.out.cell (World.block_lt_of_cell? w _ hw338_0)).trans hw338_0)))).trans (((HB.out.cell (World.block_lt_of_cell? w _ hw338_0)).trans hw338_0)), (World.cell?_alloc_lt _ _ _ (World.block_lt_of_cell? _ _ (((HB.out.cell (World.block_lt_of_cell? w _ hw338_1)).trans hw338_1)))).trans (((HB.out.cell (World.block_lt_of_cell? w _ hw338_1)).trans hw338_1)), (World.cell?_alloc_lt _ _ _ (World.block_lt_of_cell? _ _ (((HB.out.cell (World.block_lt_of_cell? w _ hw338_2)).trans hw338_2)))).trans (((HB.out.cell (World.block_lt_of_cell? w _ hw338_2)).trans hw338_2)), (World.cell?_alloc_lt _ _ _ (World.block_lt_of_cell? _ _ (((HB.out.cell (World.block_lt_of_cell? w _ hw339_0)).trans hw339_0)))).trans (((HB.out.cell (World.block_lt_of_cell? w _ hw339_0)).trans hw339_0)), (World.cell?_alloc_lt _ _ _ (World.block_lt_of_cell? _ _ (((HB.out.cell (World.block_lt_of_cell? w _ hw339_1)).trans hw339_1)))).trans (((HB.out.cell (World.block_lt_of_cell? w _ hw339_1)).trans hw339_1)), (World.cell?_alloc_lt _ _ _ (World.block_lt_of_cell? _ _ (((HB.out.cell (World.block_lt_of_cell? w _ hw339_2)).trans hw339_2)))).trans (((HB.out.cell (World.block_lt_of_cell? w _ hw339_2)).trans hw339_2)), (World.cell?_alloc_lt _ _ _ (World.block_lt_of_cell? _ _ (((HB.out.cell (World.block_lt_of_cell? w _ hw340_0)).trans hw340_0)))).trans (((HB.out.cell (World.block_lt_of_cell? w _ hw340_0)).trans hw340_0)), (World.cell?_alloc_lt _ _ _ (World.block_lt_of_cell? _ _ (((HB.out.cell (World.block_lt_of_cell? w _ hw340_1)).trans hw340_1)))).trans (((HB.out.cell (World.block_lt_of_cell? w _ hw340_1)).trans hw340_1)), (World.cell?_alloc_lt _ _ _ (World.block_lt_of_cell? _ _ (((HB.out.cell (World.block_lt_of_cell? w _ hw340_2)).trans hw340_2)))).trans (((HB.out.cell (World.block_lt_of_cell? w _ hw340_2)).trans hw340_2))⟩ (fun hHeld => ?_)
   clear hK K
   refine Zem (a' := ?_) ?_ ?_
   rotate_left
   ·show Act.put _ (some 30) _ = _
    simp only [Act.put, s0_, s1_, s2_, Zax, Zay]
    rfl
   refine one_ (i := 20) (N := some 31) u13_21 rfl rfl (Zda HT_.out t13_2) (by decide) (fun K hK => ?_)
   refine Kd.Zey k44 (w0 := w) w.heap.size (by rfl) (.tmp 11) (.tmp 30) 40 44 (.agg #[(.int .i64 0), (.int .u8 0), (.bool false)]) 16 rfl Try.underlying40 info44 rfl (by decide) (by omega) u3 x3_1 (⟨(Zby l0 x4_1).f0.f0, (Zby l0 x4_1).f0.f1, (Zby l0 x4_1).f1⟩ : S44) [.int .i64 ((Zby l0 x4_1).f0.f0), .int .u8 ((Zby l0 x4_1).f0.f1), .bool ((Zby l0 x4_1).f1)] (fun _ => True) (fun _ => False) rfl rfl ?aP (fun _ hk => hk.elim) ?aF ?aO ?aB ?aS ?aL ?_
   (case aP => exact k44_mkM _ _ _ (⟨(Zby l0 x4_1).f0.f0, (Zby l0 x4_1).f0.f1, (Zby l0 x4_1).f1⟩ : S44))
   (case aB => exact (BD HB))
   (case aF => exact (fun _ _ => trivial))
   (case aO => exact (RD HO_3))
   (case aS => exact (Zat (BD HB)))
   (case aL => have := LMc4.out; omega)
   intro v342 w6 ho hb hg hat
   rw [← Ny341.out] at ho
   have n0_ := Za.mk (hb)
   have n1_ := Za.mk (ho)
   clear HB
   clear HO_3
   have HB := n0_
   have HO343 := n1_
   clear n0_ n1_
   clear ho hb hg hat
   refine hK.out _ _ ⟨((HB.out.cell (World.block_lt_of_cell? w _ hw338_0)).trans hw338_0), ((HB.out.cell (World.block_lt_of_cell? w _ hw338_1)).trans hw338_1), ((HB.out.cell (World.block_lt_of_cell? w _ hw338_2)).trans hw338_2), ((HB.out.cell (World.block_lt_of_cell? w _ hw339_0)).trans hw339_0), ((HB.out.cell (World.block_lt_of_cell? w _ hw339_1)).trans hw339_1), ((HB.out.cell (World.block_lt_of_cell? w _ hw339_2)).trans hw339_2), ((HB.out.cell (World.block_lt_of_cell? w _ hw340_0)).trans hw340_0), ((HB.out.cell (World.block_lt_of_cell? w _ hw340_1)).trans hw340_1), ((HB.out.cell (World.block_lt_of_cell? w _ hw340_2)).trans hw340_2)⟩ (fun hHeld => ?_)
   clear hK K
   refine Zem (a' := ?_) ?_ ?_
   rotate_left
   ·show Act.put _ (some 31) _ = _
    simp only [Act.put, s0_, s1_, s2_, Zax, Zay]
    rfl
   refine Zbc (i := 21) (N := some 3) (v := ?_) (a' := ?_) u13_22 rfl rfl (Zaw HT_.out t13_2) (fun _ _ _ h => h) (Or.inl ⟨by rfl, ?_⟩) ?_ ?_
   rotate_left
   ·intro w'
    go_simp
    with_reducible rfl
   rotate_left
   ·simp only [Act.put, s0_, s1_, s2_, Zax, Zay]
    rfl
   refine done_ (Zdj HT_.out t13_2) ?_
   try go_wp2
   go_roundg k1
   case measure => have := HK1.out; omega
   case rel => exact ⟨(y341), (wrap64 (x4_1 + 1)), t13_1, H', ⟨by have := HK1.out; omega⟩, ⟨RD HO343⟩, ⟨BD HB⟩⟩
end Go.Proofs.Ytclgclcoblfddaa.P
