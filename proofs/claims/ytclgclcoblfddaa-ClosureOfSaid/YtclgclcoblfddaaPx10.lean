/- Printed by a program for this claim: functions of the program as plain functions, and that the machine computes them. -/
import Derived.Test.YtclgclcoblfddaaPx0
import Derived.Test.YtclgclcoblfddaaPShort
import Derived.Test.YtclgclcoblfddaaPx6
import Derived.Test.YtclgclcoblfddaaPx7
import Derived.Test.YtclgclcoblfddaaPx9
namespace Go.Proofs.Ytclgclcoblfddaa.P
open Go.RowKit Go.Proofs.YtclgclcoblfddaaW.PrintWords Go.Proofs.YtclgclcoblfddaaW.PrintLast Go.Proofs.YtclgclcoblfddaaW.PrintMore
attribute [local go_sem] Zeg Zee Zfg Zff Zdo Zdm Zef Zed
set_option linter.unusedVariables false
set_option linter.unusedSimpArgs false
theorem Zfa {p : Prop} (h : p := by kernel_rfl) : p := h
theorem t10_3 {p : Prop} (h : p := by first | rfl | (simp; done) | (simp [*]; done)) : p := h
theorem t10_2 {p : Prop} (h : p := by first | (with_reducible assumption) | assumption) : p := h
theorem t10_1 {p : Prop} (h : p := by (try simp only [List.map_toArray, List.map_cons, List.map_nil]); first | done | rfl | (simp only [List.length_drop, List.length_take]; rfl)) : p := h
theorem t10_0 {p : Prop} (h : p := by repeat (first | (with_reducible first | exact HB.out | apply Zau | apply Zaj | apply Zal | refine Zai ?_ GE250.out) | exact HB.out)) : p := h
def u10_0 : Array Bool := #[false, false, false, false, false, false, false, false]
def u10_1 : Array Bool := #[false, true, false, false, false, false, false, false]
def u10_2 : Array Bool := #[false, true, true, false, false, false, false, false]
def u10_3 : Array Bool := #[false, true, true, true, false, false, false, false]
def u10_4 : Array Bool := #[false, true, true, true, true, false, false, false]
def u10_5 : Array Bool := #[true, true, true, true, true, false, false, false]
def u10_6 : Array Bool := #[true, true, true, true, true, true, false, false]
def u10_7 : Array Bool := #[true, true, true, true, true, true, true, false]
def u10_8 : Array Bool := #[true, true, true, true, true, true, true, true]
def u10_9 : Array Bool := #[false, false, false, false, false, false, false, false, false, false, false, false, false, false, false]
def u10_10 : Array Bool := #[true, false, false, false, false, false, false, false, false, false, false, false, false, false, false]
def u10_11 : Array Bool := #[true, true, false, false, false, false, false, false, false, false, false, false, false, false, false]
def u10_12 : Array Bool := #[true, true, true, false, false, false, false, false, false, false, false, false, false, false, false]
def u10_13 : Array Bool := #[true, true, true, true, false, false, false, false, false, false, false, false, false, false, false]
def u10_14 : Array Bool := #[true, true, true, true, true, false, false, false, false, false, false, false, false, false, false]
def u10_15 : Array Bool := #[true, true, true, true, true, false, true, false, false, false, false, false, false, false, false]
def u10_16 : Array Bool := #[true, true, true, true, true, false, true, true, false, false, false, false, false, false, false]
def u10_17 : Array Bool := #[true, true, true, true, true, false, true, true, true, false, false, false, false, false, false]
def u10_18 : Array Bool := #[true, true, true, true, true, false, true, true, true, true, false, false, false, false, false]
def u10_19 : Array Bool := #[true, true, true, true, true, true, true, true, true, true, false, false, false, false, false]
def u10_20 : Array Bool := #[true, true, true, true, true, true, true, true, true, true, true, false, false, false, false]
def u10_21 : Array Bool := #[true, true, true, true, true, true, true, true, true, true, true, true, false, false, false]
def u10_22 : Array Bool := #[true, true, true, true, true, true, true, true, true, true, true, true, true, false, false]
def u10_23 : Array Bool := #[true, true, true, true, true, true, true, true, true, true, true, true, true, true, false]
def u10_24 : Array Bool := #[true, true, true, true, true, true, true, true, true, true, true, true, true, true, true]
mutual
def Zac.l0 : Nat → List Bool → List (S44) → List (S44) → Bool → List (List Int) → List (List Int) → List (List Int) → List (List Int) → List (List Int) → List (List Int) → List (List Int) → Option ((List (S44)))
 | 0, _, _, _, _, _, _, _, _, _, _, _ => none
 | k + 1, x1, x3, x9, x10, x251000, x251001, x251002, x251003, x251004, x251005, x251006 => if x10 = true then (Zac.l1 k x1 x3 x9 false 0 x251000 x251001 x251002 x251003 x251004 x251005 x251006) else (Zac.l3 k x3 x9 ([] : List (S44)) 0)
def Zac.l1 : Nat → List Bool → List (S44) → List (S44) → Bool → Int → List (List Int) → List (List Int) → List (List Int) → List (List Int) → List (List Int) → List (List Int) → List (List Int) → Option ((List (S44)))
 | 0, _, _, _, _, _, _, _, _, _, _, _, _ => none
 | k + 1, x1, x3, x9, x10, x11, x251000, x251001, x251002, x251003, x251004, x251005, x251006 => if x11 < (x3.length : Int) then (if 0 ≤ x11 then ((Zak.f k x9 ((Zaf x3 x11).f0) ((Zaf x3 x11).f1) ((Zaf x3 x11).f2)).bind fun t255 => (if t255 ≥ 0 then (Zac.l1 k x1 x3 x9 x10 (wrap64 (x11 + 1)) x251000 x251001 x251002 x251003 x251004 x251005 x251006) else ((Zag.f k x251000 x251001 x251002 x251003 x251004 x251005 x251006 x1 ((Zaf x3 x11).f0) ((Zaf x3 x11).f1) ((Zaf x3 x11).f2)).bind fun t257 => (Zac.l2 k x1 x3 x9 x10 x11 t257 0 x251000 x251001 x251002 x251003 x251004 x251005 x251006)))) else (none)) else (Zac.l0 k x1 x3 x9 x10 x251000 x251001 x251002 x251003 x251004 x251005 x251006)
def Zac.l2 : Nat → List Bool → List (S44) → List (S44) → Bool → Int → List (S44) → Int → List (List Int) → List (List Int) → List (List Int) → List (List Int) → List (List Int) → List (List Int) → List (List Int) → Option ((List (S44)))
 | 0, _, _, _, _, _, _, _, _, _, _, _, _, _, _ => none
 | k + 1, x1, x3, x9, x10, x11, x12, x13, x251000, x251001, x251002, x251003, x251004, x251005, x251006 => if x13 < (x12.length : Int) then (if 0 ≤ x13 then (if (Zaf x12 x13).f2 = true then ((Zak.f k x9 ((Zaf x12 x13).f0) ((Zaf x12 x13).f1) ((Zaf x12 x13).f2)).bind fun t262 => (if t262 ≥ 0 then (if 0 ≤ x11 then (if x11 < (x3.length : Int) then (if x9.length < 8796093022208 then (Zac.l1 k x1 x3 (x9 ++ [(⟨(Zaf x3 x11).f0, (Zaf x3 x11).f1, (Zaf x3 x11).f2⟩ : S44)]) true (wrap64 (x11 + 1)) x251000 x251001 x251002 x251003 x251004 x251005 x251006) else (none)) else (none)) else (none)) else (Zac.l2 k x1 x3 x9 x10 x11 x12 (wrap64 (x13 + 1)) x251000 x251001 x251002 x251003 x251004 x251005 x251006))) else (Zac.l2 k x1 x3 x9 x10 x11 x12 (wrap64 (x13 + 1)) x251000 x251001 x251002 x251003 x251004 x251005 x251006)) else (none)) else (Zac.l1 k x1 x3 x9 x10 (wrap64 (x11 + 1)) x251000 x251001 x251002 x251003 x251004 x251005 x251006)
def Zac.l3 : Nat → List (S44) → List (S44) → List (S44) → Int → Option ((List (S44)))
 | 0, _, _, _, _ => none
 | k + 1, x3, x9, x14, x15 => if x15 < (x3.length : Int) then (if 0 ≤ x15 then ((Zak.f k x9 ((Zaf x3 x15).f0) ((Zaf x3 x15).f1) ((Zaf x3 x15).f2)).bind fun t268 => (if t268 ≥ 0 then (if x14.length < 8796093022208 then (Zac.l3 k x3 x9 (x14 ++ [(⟨(Zaf x3 x15).f0, (Zaf x3 x15).f1, false⟩ : S44)]) (wrap64 (x15 + 1))) else (none)) else (Zac.l3 k x3 x9 x14 (wrap64 (x15 + 1))))) else (none)) else ((Zab.f k x14).bind fun t274 => (some t274))
end
def Zac.f (k : Nat) (l0_0 : List (List Int)) (l0_1 : List (List Int)) (l0_2 : List (List Int)) (l0_3 : List (List Int)) (l0_4 : List (List Int)) (l0_5 : List (List Int)) (l0_6 : List (List Int)) (l1 : List Bool) (l2 : List (S44)) (l3 : List (S44)) : Option ((List (S44))) := if ([] : List (S44)).length + l2.length < 8796093022208 then (Zac.l0 k l1 l3 (([] : List (S44)) ++ l2) true l0_0 l0_1 l0_2 l0_3 l0_4 l0_5 l0_6) else (none)
def Zac.T10 : Bool × List (List Nat × List Nat) := (true, [([], []), ([], []), ([], []), ([], []), ([2, 3], [2, 3]), ([4], [4]), ([0, 1, 5], [0, 1, 5]), ([6, 6, 0, 1, 2, 3, 4, 5, 6], [6])])
def Zac.B10 : List Nat := [0, 0, 0, 0, 12, 28, 63, 127]
theorem Zac.tab10 : rtab .any (opsOf Try.f27 10) = Zac.T10 := by kernel_rfl
theorem Zac.bits10 : Zeo Zac.T10.2 Zac.B10 = true := by kernel_rfl
def Zac.T22 : Bool × List (List Nat × List Nat) := (true, [([], []), ([], []), ([], []), ([1, 2], [1, 2]), ([3], [3]), ([4], [4]), ([], []), ([], []), ([6, 7], [6, 7]), ([8], [8]), ([9], [9]), ([5, 10], [5, 10]), ([11], [11]), ([0, 12], [0, 12]), ([13, 13, 0, 1, 2, 3, 4, 5, 6, 7, 8, 9, 10, 11, 12, 13], [0, 13])])
def Zac.B22 : List Nat := [0, 0, 0, 6, 14, 30, 0, 0, 192, 448, 960, 2046, 4094, 8191, 16383]
theorem Zac.tab22 : rtab .any (opsOf Try.f27 22) = Zac.T22 := by kernel_rfl
theorem Zac.bits22 : Zeo Zac.T22.2 Zac.B22 = true := by kernel_rfl
set_option maxHeartbeats 8000000 in
set_option maxRecDepth 100000 in
theorem Zac.calls (k : Nat) (A0_0 : Option Addr) (c0_0 : Nat) (l0_0 : List (List Int)) (A0_1 : Option Addr) (c0_1 : Nat) (l0_1 : List (List Int)) (A0_2 : Option Addr) (c0_2 : Nat) (l0_2 : List (List Int)) (A0_3 : Option Addr) (c0_3 : Nat) (l0_3 : List (List Int)) (A0_4 : Option Addr) (c0_4 : Nat) (l0_4 : List (List Int)) (A0_5 : Option Addr) (c0_5 : Nat) (l0_5 : List (List Int)) (A0_6 : Option Addr) (c0_6 : Nat) (l0_6 : List (List Int)) (A1 : Option Addr) (c1 : Nat) (l1 : List Bool) (A2 : Option Addr) (c2 : Nat) (l2 : List (S44)) (A3 : Option Addr) (c3 : Nat) (l3 : List (S44)) (r : List (S44)) (w : World) (hr0_0 : Kd.C (Kd.slice 3 (Kd.int .i64)) w A0_0 l0_0.length l0_0) (hc0_0 : l0_0.length ≤ c0_0) (hr0_1 : Kd.C (Kd.slice 3 (Kd.int .i64)) w A0_1 l0_1.length l0_1) (hc0_1 : l0_1.length ≤ c0_1) (hr0_2 : Kd.C (Kd.slice 3 (Kd.int .i64)) w A0_2 l0_2.length l0_2) (hc0_2 : l0_2.length ≤ c0_2) (hr0_3 : Kd.C (Kd.slice 3 (Kd.int .i64)) w A0_3 l0_3.length l0_3) (hc0_3 : l0_3.length ≤ c0_3) (hr0_4 : Kd.C (Kd.slice 3 (Kd.int .i64)) w A0_4 l0_4.length l0_4) (hc0_4 : l0_4.length ≤ c0_4) (hr0_5 : Kd.C (Kd.slice 3 (Kd.int .i64)) w A0_5 l0_5.length l0_5) (hc0_5 : l0_5.length ≤ c0_5) (hr0_6 : Kd.C (Kd.slice 3 (Kd.int .i64)) w A0_6 l0_6.length l0_6) (hc0_6 : l0_6.length ≤ c0_6) (hr1 : Kd.C Kd.bool w A1 l1.length l1) (hc1 : l1.length ≤ c1) (hr2 : Kd.C k44 w A2 l2.length l2) (hc2 : l2.length ≤ c2) (hr3 : Kd.C k44 w A3 l3.length l3) (hc3 : l3.length ≤ c3) (h : Zac.f k l0_0 l0_1 l0_2 l0_3 l0_4 l0_5 l0_6 l1 l2 l3 = some r) :
  Calls Try.prog 27 #[.agg #[.slice A0_0 l0_0.length c0_0, .slice A0_1 l0_1.length c0_1, .slice A0_2 l0_2.length c0_2, .slice A0_3 l0_3.length c0_3, .slice A0_4 l0_4.length c0_4, .slice A0_5 l0_5.length c0_5, .slice A0_6 l0_6.length c0_6], .slice A1 l1.length c1, .slice A2 l2.length c2, .slice A3 l3.length c3] w fun e w' => ∃ v0_ : Value, e = .returned (v0_) ∧ Kd.R k44 44 w' w.heap.size (fun _ => True) v0_ r ∧ Below w.heap.size w w' := by
 have hu38 := Try.underlying38
 have hu44 := Try.underlying44
 have HR0_0 := Za.mk hr0_0
 have HC0_0 := Za.mk hc0_0
 clear hr0_0 hc0_0
 have HR0_1 := Za.mk hr0_1
 have HC0_1 := Za.mk hc0_1
 clear hr0_1 hc0_1
 have HR0_2 := Za.mk hr0_2
 have HC0_2 := Za.mk hc0_2
 clear hr0_2 hc0_2
 have HR0_3 := Za.mk hr0_3
 have HC0_3 := Za.mk hc0_3
 clear hr0_3 hc0_3
 have HR0_4 := Za.mk hr0_4
 have HC0_4 := Za.mk hc0_4
 clear hr0_4 hc0_4
 have HR0_5 := Za.mk hr0_5
 have HC0_5 := Za.mk hc0_5
 clear hr0_5 hc0_5
 have HR0_6 := Za.mk hr0_6
 have HC0_6 := Za.mk hc0_6
 clear hr0_6 hc0_6
 have HR1 := Za.mk hr1
 have HC1 := Za.mk hc1
 clear hr1 hc1
 have HR2 := Za.mk hr2
 have HC2 := Za.mk hc2
 clear hr2 hc2
 have HR3 := Za.mk hr3
 have HC3 := Za.mk hc3
 clear hr3 hc3
 have HB := Za.mk (Below.refl w.heap.size w)
 have H : (if ([] : List (S44)).length + l2.length < 8796093022208 then (Zac.l0 k l1 l3 (([] : List (S44)) ++ l2) true l0_0 l0_1 l0_2 l0_3 l0_4 l0_5 l0_6) else (none)) = some r := h
 clear h
 by_cases c5 : ([] : List (S44)).length + l2.length < 8796093022208
 case neg =>
  rw [if_neg c5] at H
  exact absurd H (by simp)
 rw [if_pos c5] at H
 have LMc5 := Za.mk c5
 clear c5
 obtain ⟨y251, hy251⟩ : ∃ y_ : List (S44), y_ = (([] : List (S44)) ++ l2) := ⟨_, rfl⟩
 replace H : (Zac.l0 k l1 l3 y251 true l0_0 l0_1 l0_2 l0_3 l0_4 l0_5 l0_6) = some r := by first | (rw [hy251]; with_reducible exact H) | (have H2_ := (Option.bind_some _ _).symm.trans H; rw [hy251]; with_reducible exact H2_) | (have H2_ := (Option.bind_some _ _).symm.trans H; with_reducible exact H2_) | with_reducible exact H | (rw [hy251]; exact H) | exact H
 have Ny251 := Za.mk hy251
 clear hy251
 have H' := Za.mk H
 clear H
 go_enter Try.func27, Try.ntmps27
 go_wp2_with (first | ((with_reducible refine Zca (N := 4) rfl ?_); refine Zbu ?hg (N := 4) ?hd (cs := #[.slice A0_0 l0_0.length c0_0, .slice A0_1 l0_1.length c0_1, .slice A0_2 l0_2.length c0_2, .slice A0_3 l0_3.length c0_3, .slice A0_4 l0_4.length c0_4, .slice A0_5 l0_5.length c0_5, .slice A0_6 l0_6.length c0_6]) (t := 38) ?hr ?_; (case hd => rfl); (case hg => rfl); (case hr => first | (go_simp; done) | (go_simp; rfl)); intro gb250 hg w6 hbox hb; have n0_ := BS HB hb; have n1_ := Za.mk (hbox); have n2_ := Za.mk ((by rw [hg]; exact (Zat (BD HB)) : w.heap.size ≤ gb250)); have n3_ := Za.mk ((by rw [hg]; exact (Zat (BD HB)) : w.heap.size ≤ gb250)); clear HB; have HB := n0_; have BK250 := n1_; have GW250 := n2_; have GE250 := n3_; clear n0_ n1_ n2_ n3_; clear hb hbox hg) | ((with_reducible refine Zdl (b := .append) (xs := #[.tmp 16, .tmp 17]) rfl ?_); at_builtin; refine Kd.R_append_rows k44 (w0 := w) w.heap.size rfl (.tmp 16) (.tmp 17) 40 44 (.agg #[(.int .i64 0), (.int .u8 0), (.bool false)]) 16 rfl Try.underlying40 info44 rfl (by decide) (by omega) (.slice none 0 0) ([] : List (S44)) l2 _ _ _ (fun _ => True) (fun _ => False) rfl rfl ?aO ?aR (fun _ _ h => h) (fun _ h => h.elim) ?aF ?aB ?aS ?aL ?_; (case aR => exact CD ((Kd.Zav HR2.out HB.out))); (case aB => exact t10_0); (case aF => exact (fun _ _ => trivial)); (case aO => exact ((Kd.R_nil _ _ _ _ (fun _ => True)))); (case aS => exact (Zat t10_0)); (case aL => have := LMc5.out; omega); intro v252 w7 ho hb hg hat; rw [← Ny251.out] at ho; have n0_ := Za.mk (Zde (g := gb250) (o := .cells #[.slice A0_0 l0_0.length c0_0, .slice A0_1 l0_1.length c0_1, .slice A0_2 l0_2.length c0_2, .slice A0_3 l0_3.length c0_3, .slice A0_4 l0_4.length c0_4, .slice A0_5 l0_5.length c0_5, .slice A0_6 l0_6.length c0_6] 38 (0, 0)) (KB BK250) hg (by simp [Value.ownBlock])); have n1_ := Za.mk (hb); have n2_ := Za.mk (ho); clear BK250; clear HB; have BK250 := n0_; have HB := n1_; have HO253 := n2_; clear n0_ n1_ n2_; clear ho hb hg hat))
 go_loopg [9, 10] k (fun kq v9 v10 w' => ∃ (x9_1 : List (S44)) (x10_1 : Bool), v10 = .bool x10_1 ∧ Za (Zac.l0 kq l1 l3 x9_1 x10_1 l0_0 l0_1 l0_2 l0_3 l0_4 l0_5 l0_6 = some r) ∧ Za (kq ≤ k) ∧ Za (Kd.R k44 44 w' w.heap.size (fun _ => True) v9 x9_1) ∧ Za (w'.heap[gb250]? = some (.cells #[(.slice A0_0 l0_0.length c0_0), (.slice A0_1 l0_1.length c0_1), (.slice A0_2 l0_2.length c0_2), (.slice A0_3 l0_3.length c0_3), (.slice A0_4 l0_4.length c0_4), (.slice A0_5 l0_5.length c0_5), (.slice A0_6 l0_6.length c0_6)] 38 (0, 0))) ∧ Za (Below w.heap.size w w'))
 case atStart => exact ⟨(y251), (true), t10_3, H', ⟨Nat.le_refl _⟩, ⟨RD HO253⟩, ⟨by (with_reducible repeat (first | refine Zan ?_ _ | refine Zap ?_ | refine Zao ?_ _)); exact BK250.out⟩, ⟨by repeat (first | (with_reducible first | exact HB.out | apply Zau | apply Zaj | apply Zal | refine Zai ?_ GE250.out) | exact HB.out)⟩⟩
 case round =>
  clear H'
  try clear c1
  try clear c2
  try clear p2
  try clear c3
  try clear c5
  obtain ⟨x9_1, x10_1, rfl, HA, HK1, HO_9, BK250, HB⟩ := hrel
  cases gk with
  | zero => exact absurd HA.out (by simp [Zac.l0])
  | succ k1 =>
   have H := HA.out
   clear HA
   simp only [Zac.l0] at H
   by_cases c8 : x10_1 = true
   case neg =>
    replace c8 := Bool.eq_false_iff.mpr c8
    subst c8
    have H1 : (Zac.l3 k1 l3 x9_1 ([] : List (S44)) 0) = some r := by rw [if_neg (show ¬ (false = true) by decide)] at H; exact H
    clear H
    have H := H1
    clear H1
    have H' := Za.mk H
    clear H
    go_wp2
    go_loopg [14, 15] k1 (fun kq v14 v15 w' => ∃ (x14_2 : List (S44)) (x15_2 : Int), v15 = .int .i64 x15_2 ∧ Za (Zac.l3 kq l3 x9_1 x14_2 x15_2 = some r) ∧ Za (kq ≤ k1) ∧ Za (Kd.R k44 44 w' w.heap.size (fun k_ => some k_ ≠ (v14 : Value).ownBlock) u9 x9_1) ∧ Za (Kd.R k44 44 w' w.heap.size (fun k_ => some k_ ≠ (u9 : Value).ownBlock) v14 x14_2) ∧ Za (w'.heap[gb250]? = some (.cells #[(.slice A0_0 l0_0.length c0_0), (.slice A0_1 l0_1.length c0_1), (.slice A0_2 l0_2.length c0_2), (.slice A0_3 l0_3.length c0_3), (.slice A0_4 l0_4.length c0_4), (.slice A0_5 l0_5.length c0_5), (.slice A0_6 l0_6.length c0_6)] 38 (0, 0))) ∧ Za (Below w.heap.size w w'))
    case atStart => exact ⟨(([] : List (S44))), (0), t10_3, H', ⟨Nat.le_refl _⟩, ⟨by (with_reducible repeat (first | apply Kd.Zcm | apply Kd.Zcl | apply Kd.Zbw)); exact Kd.Zbv HO_9.out (fun _ hk => (by simp [Value.ownBlock]))⟩, ⟨by first | exact Kd.R_nil _ _ _ _ _ | exact Kd.N_nil _ _ _ _ _ | exact Kd.V_nil _ _ _ _ _ | exact Kd.Q_nil _ _ _ _ _ | exact Kd.S_nil _ _ _ _ _⟩, ⟨by (with_reducible repeat (first | refine Zan ?_ _ | refine Zap ?_ | refine Zao ?_ _)); exact BK250.out⟩, ⟨by repeat (first | (with_reducible first | exact HB.out | apply Zau | apply Zaj | apply Zal | refine Zai ?_ GE250.out) | exact HB.out)⟩⟩
    case round =>
     clear H'
     try clear c1
     try clear c2
     try clear p2
     try clear q2
     try clear hx2
     try clear c3
     try clear c5
     try clear p6
     try clear c8
     try clear c9
     try clear c9b0
     try clear c10
     try clear c10b0
     try clear c12
     try clear c12b0
     try clear c20
     try clear c20b0
     try clear c21
     try clear c21b0
     try clear q22
     try clear c23
     try clear c25
     try clear c25b0
     try clear p25
     try clear q25
     try clear hx25
     try clear c26
     try clear c26b0
     try clear p26
     try clear q26
     try clear hx26
     try clear c27
     try clear c27b0
     try clear c28
     try clear hx254_0
     try clear hx254_1
     try clear hx254_2
     try clear hx256_0
     try clear hx256_1
     try clear hx256_2
     try clear hx260_0
     try clear hx260_1
     try clear hx260_2
     try clear hx261_0
     try clear hx261_1
     try clear hx261_2
     try clear hx263_0
     try clear hx263_1
     try clear hx263_2
     try clear p2
     try clear p254
     try clear p256
     try clear p260
     try clear p261
     try clear p263
     try clear p6
     try clear q2
     try clear q254
     try clear q256
     try clear q260
     try clear q261
     try clear q263
     obtain ⟨x14_2, x15_2, rfl, HA, HK2, HO_9, HO_14, BK250, HB⟩ := hrel
     cases gk with
     | zero => exact absurd HA.out (by simp [Zac.l3])
     | succ k2 =>
      have H := HA.out
      clear HA
      simp only [Zac.l3] at H
      by_cases c38 : x15_2 < (l3.length : Int)
      case neg =>
       rw [if_neg c38] at H
       have c38b0 : decide (x15_2 < (l3.length : Int)) = false := decide_eq_false c38
       clear c38
       replace H := Option.bind_eq_some_iff.mp H
       obtain ⟨t274, A490, H⟩ := H
       try dsimp only at H
       have A49 := Za.mk A490
       clear A490
       obtain rfl := Option.some.inj H
       obtain ⟨Ao50, co50, eo50⟩ := Kd.Zbp HO_14.out
       subst eo50
       go_wp2_with (first | ((with_reducible refine Zbl (f := 51) rfl ?_); refine Zcx (some 95) rfl rfl Try.func51 Zfa rfl #[.slice Ao50 x14_2.length co50] rfl t10_1 ?_; (with_reducible refine (Zab.calls k2 _ _ x14_2 t274 _ ?side1 ?side2 A49.out).mono ?_); (case side1 => exact CD ((Kd.Zb HO_14.out).2.2)); (case side2 => exact (Kd.Zb HO_14.out).2.1); rintro e w51 ⟨v275, rfl, ho0, hb⟩; refine ⟨_, rfl, ?_⟩; have n0_ := RE HO_9 hb (Kd.Zbx ho0); have n1_ := RE HO_14 hb (Kd.Zbx ho0); have n2_ := Za.mk (Kd.Zdk (Kd.Zec (Kd.Zec ho0 (Kd.R_lt (RD HO_9))) (Kd.R_lt (RD HO_14))) (Zat t10_0)); have n3_ := Za.mk (Zam (KB BK250) hb); have n4_ := Za.mk (Zbb t10_0 hb); clear HO_9; clear HO_14; clear BK250; clear HB; have HO_9 := n0_; have HO_14 := n1_; have HO276 := n2_; have BK250 := n3_; have HB := n4_; clear n0_ n1_ n2_ n3_ n4_; (try clear hb); (try clear hb2); (try clear hk); (try clear hi); (try clear ho0)))
       go_ret
       exact ⟨_, by first | rfl | (simp [Zbe, Zbd] <;> rfl) | (simp [*, Zbe, Zbd] <;> rfl), by (with_reducible repeat (first | apply Kd.Zcm | apply Kd.Zcl | apply Kd.Zbw)); exact Kd.Zbv HO276.out (fun _ hk => trivial), by repeat (first | (with_reducible first | exact HB.out | apply Zau | apply Zaj | apply Zal | refine Zai ?_ GE250.out) | exact HB.out)⟩
      rw [if_pos c38] at H
      have c38b0 : decide (x15_2 < (l3.length : Int)) = true := decide_eq_true c38
      clear c38
      by_cases c39 : 0 ≤ x15_2
      case neg =>
       rw [if_neg c39] at H
       exact absurd H (by simp)
      rw [if_pos c39] at H
      have c39b0 : decide (0 ≤ x15_2) = true := decide_eq_true c39
      clear c39
      replace H := Option.bind_eq_some_iff.mp H
      obtain ⟨t268, A400, H⟩ := H
      try dsimp only at H
      have A40 := Za.mk A400
      clear A400
      by_cases c41 : t268 ≥ 0
      case neg =>
       rw [if_neg c41] at H
       have c41b0 : decide (0 ≤ t268) = false := decide_eq_false c41
       clear c41
       have H' := Za.mk H
       clear H
       have p267 : 0 ≤ (x15_2 : Int) := of_decide_eq_true t10_2
       have q267 : x15_2 < (l3.length : Int) := of_decide_eq_true t10_2
       obtain ⟨ad267, e267, hx267_0, hx267_1, hx267_2⟩ := Zc HR3.out x15_2 p267 q267
       cases e267
       replace hx267_0 := (HB.out.cell (World.block_lt_of_cell? w _ hx267_0)).trans hx267_0
       replace hx267_1 := (HB.out.cell (World.block_lt_of_cell? w _ hx267_1)).trans hx267_1
       replace hx267_2 := (HB.out.cell (World.block_lt_of_cell? w _ hx267_2)).trans hx267_2
       replace p267 := eq_true p267
       replace q267 := eq_true q267
       obtain ⟨Ao47, co47, eo47⟩ := Kd.Zbp HO_9.out
       subst eo47
       go_wp2_with (first | ((with_reducible refine Zbl (f := 21) rfl ?_); refine Zcx (some 78) rfl rfl Try.func21 Zfa rfl #[.slice Ao47 x9_1.length co47, .agg #[.int .i64 ((Zaf l3 x15_2).f0), .int .u8 ((Zaf l3 x15_2).f1), .bool ((Zaf l3 x15_2).f2)]] rfl t10_1 ?_; (with_reducible refine (Zak.calls k2 _ _ x9_1 ((Zaf l3 x15_2).f0) ((Zaf l3 x15_2).f1) ((Zaf l3 x15_2).f2) t268 _ ?side1 ?side2 A40.out).mono ?_); (case side1 => exact CD ((Kd.Zb HO_9.out).2.2)); (case side2 => exact (Kd.Zb HO_9.out).2.1); rintro e w48 ⟨rfl, hb⟩; refine ⟨_, rfl, ?_⟩; have n0_ := RB HO_9 hb; have n1_ := RB HO_14 hb; have n2_ := Za.mk (Zam (KB BK250) hb); have n3_ := Za.mk (Zbb t10_0 hb); clear HO_9; clear HO_14; clear BK250; clear HB; have HO_9 := n0_; have HO_14 := n1_; have BK250 := n2_; have HB := n3_; clear n0_ n1_ n2_ n3_; (try clear hb); (try clear hb2); (try clear hk); (try clear hi)))
       go_roundg k2
       case measure => have := HK1.out; have := HK2.out; omega
       case rel => exact ⟨(x14_2), (wrap64 (x15_2 + 1)), t10_3, H', ⟨by have := HK1.out; have := HK2.out; omega⟩, ⟨RD HO_9⟩, ⟨RD HO_14⟩, ⟨by (with_reducible repeat (first | refine Zan ?_ _ | refine Zap ?_ | refine Zao ?_ _)); exact BK250.out⟩, ⟨by repeat (first | (with_reducible first | exact HB.out | apply Zau | apply Zaj | apply Zal | refine Zai ?_ GE250.out) | exact HB.out)⟩⟩
      rw [if_pos c41] at H
      have c41b0 : decide (0 ≤ t268) = true := decide_eq_true c41
      clear c41
      by_cases c42 : x14_2.length < 8796093022208
      case neg =>
       rw [if_neg c42] at H
       exact absurd H (by simp)
      rw [if_pos c42] at H
      have LMc42 := Za.mk c42
      clear c42
      obtain ⟨y271, hy271⟩ : ∃ y_ : List (S44), y_ = (x14_2 ++ [(⟨(Zaf l3 x15_2).f0, (Zaf l3 x15_2).f1, false⟩ : S44)]) := ⟨_, rfl⟩
      replace H : (Zac.l3 k2 l3 x9_1 y271 (wrap64 (x15_2 + 1))) = some r := by first | (rw [hy271]; with_reducible exact H) | (have H2_ := (Option.bind_some _ _).symm.trans H; rw [hy271]; with_reducible exact H2_) | (have H2_ := (Option.bind_some _ _).symm.trans H; with_reducible exact H2_) | with_reducible exact H | (rw [hy271]; exact H) | exact H
      have Ny271 := Za.mk hy271
      clear hy271
      have H' := Za.mk H
      clear H
      have p267 : 0 ≤ (x15_2 : Int) := of_decide_eq_true t10_2
      have q267 : x15_2 < (l3.length : Int) := of_decide_eq_true t10_2
      obtain ⟨ad267, e267, hx267_0, hx267_1, hx267_2⟩ := Zc HR3.out x15_2 p267 q267
      cases e267
      replace hx267_0 := (HB.out.cell (World.block_lt_of_cell? w _ hx267_0)).trans hx267_0
      replace hx267_1 := (HB.out.cell (World.block_lt_of_cell? w _ hx267_1)).trans hx267_1
      replace hx267_2 := (HB.out.cell (World.block_lt_of_cell? w _ hx267_2)).trans hx267_2
      replace p267 := eq_true p267
      replace q267 := eq_true q267
      obtain ⟨Ao43, co43, eo43⟩ := Kd.Zbp HO_9.out
      subst eo43
      try go_wp2_with (first | ((with_reducible refine Zbl (f := 21) rfl ?_); refine Zcx (some 78) rfl rfl Try.func21 Zfa rfl #[.slice Ao43 x9_1.length co43, .agg #[.int .i64 ((Zaf l3 x15_2).f0), .int .u8 ((Zaf l3 x15_2).f1), .bool ((Zaf l3 x15_2).f2)]] rfl t10_1 ?_; (with_reducible refine (Zak.calls k2 _ _ x9_1 ((Zaf l3 x15_2).f0) ((Zaf l3 x15_2).f1) ((Zaf l3 x15_2).f2) t268 _ ?side1 ?side2 A40.out).mono ?_); (case side1 => exact CD ((Kd.Zb HO_9.out).2.2)); (case side2 => exact (Kd.Zb HO_9.out).2.1); rintro e w44 ⟨rfl, hb⟩; refine ⟨_, rfl, ?_⟩; have n0_ := RB HO_9 hb; have n1_ := RB HO_14 hb; have n2_ := Za.mk (Zam (KB BK250) hb); have n3_ := Za.mk (Zbb t10_0 hb); clear HO_9; clear HO_14; clear BK250; clear HB; have HO_9 := n0_; have HO_14 := n1_; have BK250 := n2_; have HB := n3_; clear n0_ n1_ n2_ n3_; (try clear hb); (try clear hb2); (try clear hk); (try clear hi)))
      have n0_ := Za.mk (Kd.Zbw HO_9.out)
      have n1_ := Za.mk (Kd.Zbw HO_14.out)
      have n2_ := Za.mk (Zap BK250.out)
      have n3_ := Za.mk (Zal HB.out)
      clear HO_9
      clear HO_14
      clear BK250
      clear HB
      have HO_9 := n0_
      have HO_14 := n1_
      have BK250 := n2_
      have HB := n3_
      clear n0_ n1_ n2_ n3_
      have p269 : 0 ≤ (x15_2 : Int) := of_decide_eq_true t10_2
      have q269 : x15_2 < (l3.length : Int) := of_decide_eq_true t10_2
      obtain ⟨ad269, e269, hx269_0, hx269_1, hx269_2⟩ := Zc HR3.out x15_2 p269 q269
      have hw269_2 := hx269_2
      have hw269_1 := hx269_1
      have hw269_0 := hx269_0
      obtain rfl : ad267 = ad269 := (by injection e269)
      replace hx269_0 := (HB.out.cell (World.block_lt_of_cell? w _ hx269_0)).trans hx269_0
      replace hx269_1 := (HB.out.cell (World.block_lt_of_cell? w _ hx269_1)).trans hx269_1
      replace hx269_2 := (HB.out.cell (World.block_lt_of_cell? w _ hx269_2)).trans hx269_2
      replace p269 := eq_true p269
      replace q269 := eq_true q269
      have p270 : 0 ≤ (x15_2 : Int) := of_decide_eq_true t10_2
      have q270 : x15_2 < (l3.length : Int) := of_decide_eq_true t10_2
      obtain ⟨ad270, e270, hx270_0, hx270_1, hx270_2⟩ := Zc HR3.out x15_2 p270 q270
      have hw270_2 := hx270_2
      have hw270_1 := hx270_1
      have hw270_0 := hx270_0
      obtain rfl : ad267 = ad270 := (by injection e270)
      replace hx270_0 := (HB.out.cell (World.block_lt_of_cell? w _ hx270_0)).trans hx270_0
      replace hx270_1 := (HB.out.cell (World.block_lt_of_cell? w _ hx270_1)).trans hx270_1
      replace hx270_2 := (HB.out.cell (World.block_lt_of_cell? w _ hx270_2)).trans hx270_2
      replace p270 := eq_true p270
      replace q270 := eq_true q270
      refine Zek (n := 15) (S := fun w' => w'.cell? (ad267.add ((x15_2).toNat * 3)) = some (.int .i64 ((Zaf l3 x15_2).f0)) ∧ w'.cell? ⟨(ad267.add ((x15_2).toNat * 3)).block, (ad267.add ((x15_2).toNat * 3)).off + 1, none⟩ = some (.int .u8 ((Zaf l3 x15_2).f1)) ∧ w'.cell? ⟨(ad267.add ((x15_2).toNat * 3)).block, (ad267.add ((x15_2).toNat * 3)).off + 2, none⟩ = some (.bool ((Zaf l3 x15_2).f2)) ∧ w'.cell? (ad267.add ((x15_2).toNat * 3)) = some (.int .i64 ((Zaf l3 x15_2).f0)) ∧ w'.cell? ⟨(ad267.add ((x15_2).toNat * 3)).block, (ad267.add ((x15_2).toNat * 3)).off + 1, none⟩ = some (.int .u8 ((Zaf l3 x15_2).f1)) ∧ w'.cell? ⟨(ad267.add ((x15_2).toNat * 3)).block, (ad267.add ((x15_2).toNat * 3)).off + 2, none⟩ = some (.bool ((Zaf l3 x15_2).f2))) (ds := []) u10_9 Zfa rfl rfl ⟨((HB.out.cell (World.block_lt_of_cell? w _ hw269_0)).trans hw269_0), ((HB.out.cell (World.block_lt_of_cell? w _ hw269_1)).trans hw269_1), ((HB.out.cell (World.block_lt_of_cell? w _ hw269_2)).trans hw269_2), ((HB.out.cell (World.block_lt_of_cell? w _ hw270_0)).trans hw270_0), ((HB.out.cell (World.block_lt_of_cell? w _ hw270_1)).trans hw270_1), ((HB.out.cell (World.block_lt_of_cell? w _ hw270_2)).trans hw270_2)⟩ (fun hHeld => ?_); refine Zcp Zac.tab22 Zac.bits22 (fun HT_ HW_ => ?_)
      generalize w44.drew = w45 at HO_9 HO_14 BK250 HB hx269_0 hx269_1 hx269_2 hx270_0 hx270_1 hx270_2 hHeld ⊢
      refine Zbc (i := 0) (N := some 80) (v := ?_) (a' := ?_) u10_10 rfl rfl (Zaw HT_.out Zfa) (fun _ _ _ h => h) (Or.inl ⟨by rfl, ?_⟩) ?_ ?_
      rotate_left
      ·intro w'
       go_simp
       with_reducible rfl
      rotate_left
      ·simp only [Act.put, s0_, s1_, s2_, Zax, Zay]
       rfl
      refine Zbc (i := 1) (N := some 81) (v := ?_) (a' := ?_) u10_11 rfl rfl (Zaw HT_.out Zfa) (fun _ _ _ h => h) (Or.inl ⟨by rfl, ?_⟩) ?_ ?_
      rotate_left
      ·intro w'
       go_simp
       with_reducible rfl
      rotate_left
      ·simp only [Act.put, s0_, s1_, s2_, Zax, Zay]
       rfl
      refine Zbc (i := 2) (N := some 82) (v := ?_) (a' := ?_) u10_12 rfl rfl (Zaw HT_.out Zfa) (fun _ _ _ h => h) (Or.inl ⟨by rfl, ?_⟩) ?_ ?_
      rotate_left
      ·intro w'
       go_simp
       with_reducible rfl
      rotate_left
      ·simp only [Act.put, s0_, s1_, s2_, Zax, Zay]
       rfl
      refine Zbc (i := 3) (N := some 83) (v := ?_) (a' := ?_) u10_13 rfl rfl (Zaw HT_.out Zfa) (fun _ _ _ h => h) (Or.inl ⟨by rfl, ?_⟩) ?_ ?_
      rotate_left
      ·intro w'
       go_simp
       with_reducible rfl
      rotate_left
      ·simp only [Act.put, s0_, s1_, s2_, Zax, Zay]
       rfl
      refine Zbc (i := 4) (N := some 84) (v := ?_) (a' := ?_) u10_14 rfl rfl (Zaw HT_.out Zfa) (fun _ _ _ h => h) (Or.inl ⟨by rfl, ?_⟩) ?_ ?_
      rotate_left
      ·intro w'
       go_simp
       with_reducible rfl
      rotate_left
      ·simp only [Act.put, s0_, s1_, s2_, Zax, Zay]
       rfl
      refine Zbc (i := 6) (N := some 86) (v := ?_) (a' := ?_) u10_15 rfl rfl (Zaw HT_.out Zfa) (fun _ _ _ h => h) (Or.inl ⟨by rfl, ?_⟩) ?_ ?_
      rotate_left
      ·intro w'
       go_simp
       with_reducible rfl
      rotate_left
      ·simp only [Act.put, s0_, s1_, s2_, Zax, Zay]
       rfl
      refine Zbc (i := 7) (N := some 87) (v := ?_) (a' := ?_) u10_16 rfl rfl (Zaw HT_.out Zfa) (fun _ _ _ h => h) (Or.inl ⟨by rfl, ?_⟩) ?_ ?_
      rotate_left
      ·intro w'
       go_simp
       with_reducible rfl
      rotate_left
      ·simp only [Act.put, s0_, s1_, s2_, Zax, Zay]
       rfl
      refine Zbc (i := 8) (N := some 88) (v := ?_) (a' := ?_) u10_17 rfl rfl (Zaw HT_.out Zfa) (fun _ _ _ h => h) (Or.inl ⟨by rfl, ?_⟩) ?_ ?_
      rotate_left
      ·intro w'
       go_simp
       with_reducible rfl
      rotate_left
      ·simp only [Act.put, s0_, s1_, s2_, Zax, Zay]
       rfl
      refine Zbc (i := 9) (N := some 89) (v := ?_) (a' := ?_) u10_18 rfl rfl (Zaw HT_.out Zfa) (fun _ _ _ h => h) (Or.inl ⟨by rfl, ?_⟩) ?_ ?_
      rotate_left
      ·intro w'
       go_simp
       with_reducible rfl
      rotate_left
      ·simp only [Act.put, s0_, s1_, s2_, Zax, Zay]
       rfl
      refine Zdh (i := 5) (N := some 85) (v := ?_) (a' := ?_) u10_19 rfl rfl (Zbt HT_.out HW_.out Zfa) (fun _ _ _ h => h) (Or.inl ⟨by rfl, ?_⟩) hHeld ?_ ?_
      rotate_left
      ·rintro w' ⟨s0, s1, s2, s3, s4, s5⟩
       go_simp
       with_reducible rfl
      rotate_left
      ·simp only [Act.put, s0_, s1_, s2_, Zax, Zay]
       rfl
      refine Zdh (i := 10) (N := some 90) (v := ?_) (a' := ?_) u10_20 rfl rfl (Zbt HT_.out HW_.out Zfa) (fun _ _ _ h => h) (Or.inl ⟨by rfl, ?_⟩) hHeld ?_ ?_
      rotate_left
      ·rintro w' ⟨s0, s1, s2, s3, s4, s5⟩
       go_simp
       with_reducible rfl
      rotate_left
      ·simp only [Act.put, s0_, s1_, s2_, Zax, Zay]
       rfl
      refine Zbc (i := 11) (N := some 91) (v := ?_) (a' := ?_) u10_21 rfl rfl (Zaw HT_.out Zfa) (fun _ _ _ h => h) (Or.inl ⟨by rfl, ?_⟩) ?_ ?_
      rotate_left
      ·intro w'
       go_simp
       with_reducible rfl
      rotate_left
      ·simp only [Act.put, s0_, s1_, s2_, Zax, Zay]
       rfl
      refine one_ (i := 12) (N := some 92) u10_22 rfl rfl (Zda HT_.out Zfa) (by decide) (fun K hK => ?_)
      refine value_ (w1 := ?_) (v := ?_) (by rfl) rfl ?_ ?_
      rotate_left 2
      ·go_simp
       constructor
       ·rfl
       ·rfl
      refine hK.out _ _ ⟨(World.cell?_alloc_lt _ _ _ (World.block_lt_of_cell? _ _ (((HB.out.cell (World.block_lt_of_cell? w _ hw269_0)).trans hw269_0)))).trans (((HB.out.cell (World.block_lt_of_cell? w _ hw269_0)).trans hw269_0)), (World.cell?_alloc_lt _ _ _ (World.block_lt_of_cell? _ _ (((HB.out.cell (World.block_lt_of_cell? w _ hw269_1)).trans hw269_1)))).trans (((HB.out.cell (World.block_lt_of_cell? w _ hw269_1)).trans hw269_1)), (World.cell?_alloc_lt _ _ _ (World.block_lt_of_cell? _ _ (((HB.out.cell (World.block_lt_of_cell? w _ hw269_2)).trans hw269_2)))).trans (((HB.out.cell (World.block_lt_of_cell? w _ hw269_2)).trans hw269_2)), (World.cell?_alloc_lt _ _ _ (World.block_lt_of_cell? _ _ (((HB.out.cell (World.block_lt_of_cell? w _ hw270_0)).trans hw270_0)))).trans (((HB.out.cell (World.block_lt_of_cell? w _ hw270_0)).trans hw270_0)), (World.cell?_alloc_lt _ _ _ (World.block_lt_of_cell? _ _ (((HB.out.cell (World.block_lt_of_cell? w _ hw270_1)).trans hw270_1)))).trans (((HB.out.cell (World.block_lt_of_cell? w _ hw270_1)).trans hw270_1)), (World.cell?_alloc_lt _ _ _ (World.block_lt_of_cell? _ _ (((HB.out.cell (World.block_lt_of_cell? w _ hw270_2)).trans hw270_2)))).trans (((HB.out.cell (World.block_lt_of_cell? w _ hw270_2)).trans hw270_2))⟩ (fun hHeld => ?_)
      clear hK K
      refine Zem (a' := ?_) ?_ ?_
      rotate_left
      ·show Act.put _ (some 92) _ = _
       simp only [Act.put, s0_, s1_, s2_, Zax, Zay]
       rfl
      refine one_ (i := 13) (N := some 93) u10_23 rfl rfl (Zda HT_.out Zfa) (by decide) (fun K hK => ?_)
      refine Kd.Zey k44 (w0 := w) w.heap.size (by rfl) (.tmp 80) (.tmp 92) 40 44 (.agg #[(.int .i64 0), (.int .u8 0), (.bool false)]) 16 rfl Try.underlying40 info44 rfl (by decide) (by omega) u14 x14_2 (⟨(Zaf l3 x15_2).f0, (Zaf l3 x15_2).f1, false⟩ : S44) [.int .i64 ((Zaf l3 x15_2).f0), .int .u8 ((Zaf l3 x15_2).f1), .bool false] (fun k_ => some k_ ≠ (.slice Ao43 x9_1.length co43 : Value).ownBlock) (fun _ => False) rfl rfl ?aP (fun _ hk => hk.elim) ?aF ?aO ?aB ?aS ?aL ?_
      (case aP => exact k44_mkM _ _ _ (⟨(Zaf l3 x15_2).f0, (Zaf l3 x15_2).f1, false⟩ : S44))
      (case aB => exact t10_0)
      (case aF => exact (fun k_ hk => Kd.fresh' (Kd.R_lt (RD HO_9)) k_ hk))
      (case aO => exact (RD HO_14))
      (case aS => exact (Zat t10_0))
      (case aL => have := LMc42.out; omega)
      intro v272 w46 ho hb hg hat
      rw [← Ny271.out] at ho
      have n0_ := Za.mk (Kd.Zfi (ok := (fun _ => True)) (by (with_reducible repeat (first | apply Kd.Zcm | apply Kd.Zcl | apply Kd.Zbw)); exact Kd.Zbv HO_9.out (fun _ hk => ⟨trivial, hk⟩)) hg hat)
      have n1_ := Za.mk (Zde (g := gb250) (o := .cells #[.slice A0_0 l0_0.length c0_0, .slice A0_1 l0_1.length c0_1, .slice A0_2 l0_2.length c0_2, .slice A0_3 l0_3.length c0_3, .slice A0_4 l0_4.length c0_4, .slice A0_5 l0_5.length c0_5, .slice A0_6 l0_6.length c0_6] 38 (0, 0)) (KB BK250) hg ((by first | exact Kd.R_ne HO_14.out BK250.out (by decide) | (intro h_; have h2_ := HO_14.out.1 _ h_.symm; simp at h2_))))
      have n2_ := Za.mk (hb)
      have n3_ := Za.mk (ho)
      clear HO_9
      clear BK250
      clear HB
      clear HO_14
      have HO_9 := n0_
      have BK250 := n1_
      have HB := n2_
      have HO273 := n3_
      clear n0_ n1_ n2_ n3_
      clear ho hb hg hat
      refine hK.out _ _ ⟨((HB.out.cell (World.block_lt_of_cell? w _ hw269_0)).trans hw269_0), ((HB.out.cell (World.block_lt_of_cell? w _ hw269_1)).trans hw269_1), ((HB.out.cell (World.block_lt_of_cell? w _ hw269_2)).trans hw269_2), ((HB.out.cell (World.block_lt_of_cell? w _ hw270_0)).trans hw270_0), ((HB.out.cell (World.block_lt_of_cell? w _ hw270_1)).trans hw270_1), ((HB.out.cell (World.block_lt_of_cell? w _ hw270_2)).trans hw270_2)⟩ (fun hHeld => ?_)
      clear hK K
      refine Zem (a' := ?_) ?_ ?_
      rotate_left
      ·show Act.put _ (some 93) _ = _
       simp only [Act.put, s0_, s1_, s2_, Zax, Zay]
       rfl
      refine Zbc (i := 14) (N := some 14) (v := ?_) (a' := ?_) u10_24 rfl rfl (Zaw HT_.out Zfa) (fun _ _ _ h => h) (Or.inl ⟨by rfl, ?_⟩) ?_ ?_
      rotate_left
      ·intro w'
       go_simp
       with_reducible rfl
      rotate_left
      ·simp only [Act.put, s0_, s1_, s2_, Zax, Zay]
       rfl
      refine done_ (Zdj HT_.out Zfa) ?_
      try go_wp2
      go_roundg k2
      case measure => have := HK1.out; have := HK2.out; omega
      case rel => exact ⟨(y271), (wrap64 (x15_2 + 1)), t10_3, H', ⟨by have := HK1.out; have := HK2.out; omega⟩, ⟨by (with_reducible repeat (first | apply Kd.Zcm | apply Kd.Zcl | apply Kd.Zbw)); exact Kd.Zbv HO_9.out (fun _ hk => hk.2)⟩, ⟨RD HO273⟩, ⟨by (with_reducible repeat (first | refine Zan ?_ _ | refine Zap ?_ | refine Zao ?_ _)); exact BK250.out⟩, ⟨by repeat (first | (with_reducible first | exact HB.out | apply Zau | apply Zaj | apply Zal | refine Zai ?_ GE250.out) | exact HB.out)⟩⟩
   subst c8
   have H1 : (Zac.l1 k1 l1 l3 x9_1 false 0 l0_0 l0_1 l0_2 l0_3 l0_4 l0_5 l0_6) = some r := by rw [if_pos rfl] at H; exact H
   clear H
   have H := H1
   clear H1
   have H' := Za.mk H
   clear H
   go_wp2
   go_loopg [9, 10, 11] k1 (fun kq v9 v10 v11 w' => ∃ (x9_2 : List (S44)) (x10_2 : Bool) (x11_2 : Int), v10 = .bool x10_2 ∧ v11 = .int .i64 x11_2 ∧ Za (Zac.l1 kq l1 l3 x9_2 x10_2 x11_2 l0_0 l0_1 l0_2 l0_3 l0_4 l0_5 l0_6 = some r) ∧ Za (kq ≤ k1) ∧ Za (Kd.R k44 44 w' w.heap.size (fun _ => True) v9 x9_2) ∧ Za (w'.heap[gb250]? = some (.cells #[(.slice A0_0 l0_0.length c0_0), (.slice A0_1 l0_1.length c0_1), (.slice A0_2 l0_2.length c0_2), (.slice A0_3 l0_3.length c0_3), (.slice A0_4 l0_4.length c0_4), (.slice A0_5 l0_5.length c0_5), (.slice A0_6 l0_6.length c0_6)] 38 (0, 0))) ∧ Za (Below w.heap.size w w'))
   case atStart => exact ⟨(x9_1), (false), (0), t10_3, t10_3, H', ⟨Nat.le_refl _⟩, ⟨RD HO_9⟩, ⟨by (with_reducible repeat (first | refine Zan ?_ _ | refine Zap ?_ | refine Zao ?_ _)); exact BK250.out⟩, ⟨by repeat (first | (with_reducible first | exact HB.out | apply Zau | apply Zaj | apply Zal | refine Zai ?_ GE250.out) | exact HB.out)⟩⟩
   case round =>
    clear H'
    try clear c1
    try clear c2
    try clear p2
    try clear c3
    try clear c5
    try clear c8
    try clear p2
    obtain ⟨x9_2, x10_2, x11_2, rfl, rfl, HA, HK2, HO_9, BK250, HB⟩ := hrel
    cases gk with
    | zero => exact absurd HA.out (by simp [Zac.l1])
    | succ k2 =>
     have H := HA.out
     clear HA
     simp only [Zac.l1] at H
     by_cases c9 : x11_2 < (l3.length : Int)
     case neg =>
      rw [if_neg c9] at H
      have c9b0 : decide (x11_2 < (l3.length : Int)) = false := decide_eq_false c9
      clear c9
      have H' := Za.mk H
      clear H
      go_wp2
      go_roundg k2
      case measure => have := HK1.out; have := HK2.out; omega
      case rel => exact ⟨(x9_2), (x10_2), t10_3, H', ⟨by have := HK1.out; have := HK2.out; omega⟩, ⟨RD HO_9⟩, ⟨by (with_reducible repeat (first | refine Zan ?_ _ | refine Zap ?_ | refine Zao ?_ _)); exact BK250.out⟩, ⟨by repeat (first | (with_reducible first | exact HB.out | apply Zau | apply Zaj | apply Zal | refine Zai ?_ GE250.out) | exact HB.out)⟩⟩
     rw [if_pos c9] at H
     have c9b0 : decide (x11_2 < (l3.length : Int)) = true := decide_eq_true c9
     clear c9
     by_cases c10 : 0 ≤ x11_2
     case neg =>
      rw [if_neg c10] at H
      exact absurd H (by simp)
     rw [if_pos c10] at H
     have c10b0 : decide (0 ≤ x11_2) = true := decide_eq_true c10
     clear c10
     replace H := Option.bind_eq_some_iff.mp H
     obtain ⟨t255, A110, H⟩ := H
     try dsimp only at H
     have A11 := Za.mk A110
     clear A110
     by_cases c12 : t255 ≥ 0
     case neg =>
      rw [if_neg c12] at H
      have c12b0 : decide (0 ≤ t255) = false := decide_eq_false c12
      clear c12
      replace H := Option.bind_eq_some_iff.mp H
      obtain ⟨t257, A150, H⟩ := H
      try dsimp only at H
      have A15 := Za.mk A150
      clear A150
      have H' := Za.mk H
      clear H
      have p254 : 0 ≤ (x11_2 : Int) := of_decide_eq_true t10_2
      have q254 : x11_2 < (l3.length : Int) := of_decide_eq_true t10_2
      obtain ⟨ad254, e254, hx254_0, hx254_1, hx254_2⟩ := Zc HR3.out x11_2 p254 q254
      cases e254
      replace hx254_0 := (HB.out.cell (World.block_lt_of_cell? w _ hx254_0)).trans hx254_0
      replace hx254_1 := (HB.out.cell (World.block_lt_of_cell? w _ hx254_1)).trans hx254_1
      replace hx254_2 := (HB.out.cell (World.block_lt_of_cell? w _ hx254_2)).trans hx254_2
      replace p254 := eq_true p254
      replace q254 := eq_true q254
      obtain ⟨Ao16, co16, eo16⟩ := Kd.Zbp HO_9.out
      subst eo16
      try go_wp2_with (first | ((with_reducible refine Zbl (f := 21) rfl ?_); refine Zcx (some 31) rfl rfl Try.func21 Zfa rfl #[.slice Ao16 x9_2.length co16, .agg #[.int .i64 ((Zaf l3 x11_2).f0), .int .u8 ((Zaf l3 x11_2).f1), .bool ((Zaf l3 x11_2).f2)]] rfl t10_1 ?_; (with_reducible refine (Zak.calls k2 _ _ x9_2 ((Zaf l3 x11_2).f0) ((Zaf l3 x11_2).f1) ((Zaf l3 x11_2).f2) t255 _ ?side1 ?side2 A11.out).mono ?_); (case side1 => exact CD ((Kd.Zb HO_9.out).2.2)); (case side2 => exact (Kd.Zb HO_9.out).2.1); rintro e w17 ⟨rfl, hb⟩; refine ⟨_, rfl, ?_⟩; have n0_ := RB HO_9 hb; have n1_ := Za.mk (Zam (KB BK250) hb); have n2_ := Za.mk (Zbb t10_0 hb); clear HO_9; clear BK250; clear HB; have HO_9 := n0_; have BK250 := n1_; have HB := n2_; clear n0_ n1_ n2_; (try clear hb); (try clear hb2); (try clear hk); (try clear hi)))
      have n0_ := Za.mk (Kd.Zbw HO_9.out)
      have n1_ := Za.mk (Zap BK250.out)
      have n2_ := Za.mk (Zal HB.out)
      clear HO_9
      clear BK250
      clear HB
      have HO_9 := n0_
      have BK250 := n1_
      have HB := n2_
      clear n0_ n1_ n2_
      have p256 : 0 ≤ (x11_2 : Int) := of_decide_eq_true t10_2
      have q256 : x11_2 < (l3.length : Int) := of_decide_eq_true t10_2
      obtain ⟨ad256, e256, hx256_0, hx256_1, hx256_2⟩ := Zc HR3.out x11_2 p256 q256
      have hw256_2 := hx256_2
      have hw256_1 := hx256_1
      have hw256_0 := hx256_0
      obtain rfl : ad254 = ad256 := (by injection e256)
      replace hx256_0 := (HB.out.cell (World.block_lt_of_cell? w _ hx256_0)).trans hx256_0
      replace hx256_1 := (HB.out.cell (World.block_lt_of_cell? w _ hx256_1)).trans hx256_1
      replace hx256_2 := (HB.out.cell (World.block_lt_of_cell? w _ hx256_2)).trans hx256_2
      replace p256 := eq_true p256
      replace q256 := eq_true q256
      refine Zek (n := 8) (S := fun w' => w'.cell? ⟨gb250, 0, none⟩ = some (.slice A0_0 l0_0.length c0_0) ∧ w'.cell? ⟨gb250, 1, none⟩ = some (.slice A0_1 l0_1.length c0_1) ∧ w'.cell? ⟨gb250, 2, none⟩ = some (.slice A0_2 l0_2.length c0_2) ∧ w'.cell? ⟨gb250, 3, none⟩ = some (.slice A0_3 l0_3.length c0_3) ∧ w'.cell? ⟨gb250, 4, none⟩ = some (.slice A0_4 l0_4.length c0_4) ∧ w'.cell? ⟨gb250, 5, none⟩ = some (.slice A0_5 l0_5.length c0_5) ∧ w'.cell? ⟨gb250, 6, none⟩ = some (.slice A0_6 l0_6.length c0_6) ∧ w'.cell? (ad254.add ((x11_2).toNat * 3)) = some (.int .i64 ((Zaf l3 x11_2).f0)) ∧ w'.cell? ⟨(ad254.add ((x11_2).toNat * 3)).block, (ad254.add ((x11_2).toNat * 3)).off + 1, none⟩ = some (.int .u8 ((Zaf l3 x11_2).f1)) ∧ w'.cell? ⟨(ad254.add ((x11_2).toNat * 3)).block, (ad254.add ((x11_2).toNat * 3)).off + 2, none⟩ = some (.bool ((Zaf l3 x11_2).f2))) (ds := []) u10_0 Zfa rfl rfl ⟨(Zah BK250.out 0).trans rfl, (Zah BK250.out 1).trans rfl, (Zah BK250.out 2).trans rfl, (Zah BK250.out 3).trans rfl, (Zah BK250.out 4).trans rfl, (Zah BK250.out 5).trans rfl, (Zah BK250.out 6).trans rfl, ((HB.out.cell (World.block_lt_of_cell? w _ hw256_0)).trans hw256_0), ((HB.out.cell (World.block_lt_of_cell? w _ hw256_1)).trans hw256_1), ((HB.out.cell (World.block_lt_of_cell? w _ hw256_2)).trans hw256_2)⟩ (fun hHeld => ?_); refine Zcp Zac.tab10 Zac.bits10 (fun HT_ HW_ => ?_)
      generalize w17.drew = w18 at HO_9 BK250 HB hx256_0 hx256_1 hx256_2 hHeld ⊢
      refine Zbc (i := 1) (N := some 34) (v := ?_) (a' := ?_) u10_1 rfl rfl (Zaw HT_.out Zfa) (fun _ _ _ h => h) (Or.inl ⟨by rfl, ?_⟩) ?_ ?_
      rotate_left
      ·intro w'
       go_simp
       with_reducible rfl
      rotate_left
      ·simp only [Act.put, s0_, s1_, s2_, Zax, Zay]
       rfl
      refine Zbc (i := 2) (N := some 35) (v := ?_) (a' := ?_) u10_2 rfl rfl (Zaw HT_.out Zfa) (fun _ _ _ h => h) (Or.inl ⟨by rfl, ?_⟩) ?_ ?_
      rotate_left
      ·intro w'
       go_simp
       with_reducible rfl
      rotate_left
      ·simp only [Act.put, s0_, s1_, s2_, Zax, Zay]
       rfl
      refine Zbc (i := 3) (N := some 36) (v := ?_) (a' := ?_) u10_3 rfl rfl (Zaw HT_.out Zfa) (fun _ _ _ h => h) (Or.inl ⟨by rfl, ?_⟩) ?_ ?_
      rotate_left
      ·intro w'
       go_simp
       with_reducible rfl
      rotate_left
      ·simp only [Act.put, s0_, s1_, s2_, Zax, Zay]
       rfl
      refine Zbc (i := 4) (N := some 37) (v := ?_) (a' := ?_) u10_4 rfl rfl (Zaw HT_.out Zfa) (fun _ _ _ h => h) (Or.inl ⟨by rfl, ?_⟩) ?_ ?_
      rotate_left
      ·intro w'
       go_simp
       with_reducible rfl
      rotate_left
      ·simp only [Act.put, s0_, s1_, s2_, Zax, Zay]
       rfl
      refine Zdh (i := 0) (N := some 33) (v := ?_) (a' := ?_) u10_5 rfl rfl (Zbt HT_.out HW_.out Zfa) (fun _ _ _ h => h) (Or.inl ⟨by rfl, ?_⟩) hHeld ?_ ?_
      rotate_left
      ·rintro w' ⟨s0, s1, s2, s3, s4, s5, s6, s7, s8, s9⟩
       go_simp
       with_reducible rfl
      rotate_left
      ·simp only [Act.put, s0_, s1_, s2_, Zax, Zay]
       rfl
      refine Zdh (i := 5) (N := some 38) (v := ?_) (a' := ?_) u10_6 rfl rfl (Zbt HT_.out HW_.out Zfa) (fun _ _ _ h => h) (Or.inl ⟨by rfl, ?_⟩) hHeld ?_ ?_
      rotate_left
      ·rintro w' ⟨s0, s1, s2, s3, s4, s5, s6, s7, s8, s9⟩
       go_simp
       with_reducible rfl
      rotate_left
      ·simp only [Act.put, s0_, s1_, s2_, Zax, Zay]
       rfl
      refine one_ (i := 6) (N := some 39) u10_7 rfl rfl (Zda HT_.out Zfa) (by decide) (fun K hK => ?_)
      refine goes_ Try.func25 Zfa rfl #[.agg #[.slice A0_0 l0_0.length c0_0, .slice A0_1 l0_1.length c0_1, .slice A0_2 l0_2.length c0_2, .slice A0_3 l0_3.length c0_3, .slice A0_4 l0_4.length c0_4, .slice A0_5 l0_5.length c0_5, .slice A0_6 l0_6.length c0_6], .slice A1 l1.length c1, .agg #[.int .i64 ((Zaf l3 x11_2).f0), .int .u8 ((Zaf l3 x11_2).f1), .bool ((Zaf l3 x11_2).f2)]] (by rfl) rfl rfl t10_1 ?_
      with_reducible refine (Zag.calls k2 _ _ l0_0 _ _ l0_1 _ _ l0_2 _ _ l0_3 _ _ l0_4 _ _ l0_5 _ _ l0_6 _ _ l1 ((Zaf l3 x11_2).f0) ((Zaf l3 x11_2).f1) ((Zaf l3 x11_2).f2) t257 _ ?side1 ?side2 ?side3 ?side4 ?side5 ?side6 ?side7 ?side8 ?side9 ?side10 ?side11 ?side12 ?side13 ?side14 ?side15 ?side16 A15.out).mono ?_
      (case side1 => exact CD ((Kd.Zav HR0_0.out HB.out)))
      (case side2 => exact HC0_0.out)
      (case side3 => exact CD ((Kd.Zav HR0_1.out HB.out)))
      (case side4 => exact HC0_1.out)
      (case side5 => exact CD ((Kd.Zav HR0_2.out HB.out)))
      (case side6 => exact HC0_2.out)
      (case side7 => exact CD ((Kd.Zav HR0_3.out HB.out)))
      (case side8 => exact HC0_3.out)
      (case side9 => exact CD ((Kd.Zav HR0_4.out HB.out)))
      (case side10 => exact HC0_4.out)
      (case side11 => exact CD ((Kd.Zav HR0_5.out HB.out)))
      (case side12 => exact HC0_5.out)
      (case side13 => exact CD ((Kd.Zav HR0_6.out HB.out)))
      (case side14 => exact HC0_6.out)
      (case side15 => exact CD ((Kd.Zav HR1.out HB.out)))
      (case side16 => exact HC1.out)
      rintro e w19 ⟨v258, rfl, ho0, hb⟩
      refine ⟨_, rfl, ?_⟩
      have n0_ := RE HO_9 hb (Kd.Zbx ho0)
      have n1_ := Za.mk (Kd.Zdk (Kd.Zec ho0 (Kd.R_lt (RD HO_9))) (Zat t10_0))
      have n2_ := Za.mk (Zam (KB BK250) hb)
      have n3_ := Za.mk (Zbb t10_0 hb)
      clear HO_9
      clear BK250
      clear HB
      have HO_9 := n0_
      have HO259 := n1_
      have BK250 := n2_
      have HB := n3_
      clear n0_ n1_ n2_ n3_
      (try clear hb)
      (try clear hb2)
      (try clear hk)
      (try clear hi)
      (try clear ho0)
      refine hK.out _ _ ⟨(Zah BK250.out 0).trans rfl, (Zah BK250.out 1).trans rfl, (Zah BK250.out 2).trans rfl, (Zah BK250.out 3).trans rfl, (Zah BK250.out 4).trans rfl, (Zah BK250.out 5).trans rfl, (Zah BK250.out 6).trans rfl, ((HB.out.cell (World.block_lt_of_cell? w _ hw256_0)).trans hw256_0), ((HB.out.cell (World.block_lt_of_cell? w _ hw256_1)).trans hw256_1), ((HB.out.cell (World.block_lt_of_cell? w _ hw256_2)).trans hw256_2)⟩ (fun hHeld => ?_)
      clear hK K
      refine Zem (a' := ?_) ?_ ?_
      rotate_left
      ·show Act.put _ (some 39) _ = _
       simp only [Act.put, s0_, s1_, s2_, Zax, Zay]
       rfl
      refine Zbc (i := 7) (N := some 12) (v := ?_) (a' := ?_) u10_8 rfl rfl (Zaw HT_.out Zfa) (fun _ _ _ h => h) (Or.inl ⟨by rfl, ?_⟩) ?_ ?_
      rotate_left
      ·intro w'
       go_simp
       with_reducible rfl
      rotate_left
      ·simp only [Act.put, s0_, s1_, s2_, Zax, Zay]
       rfl
      refine done_ (Zdj HT_.out Zfa) ?_
      try go_wp2
      go_loopg [9, 10, 13] k2 (fun kq v9 v10 v13 w' => ∃ (x9_3 : List (S44)) (x10_3 : Bool) (x13_3 : Int), v10 = .bool x10_3 ∧ v13 = .int .i64 x13_3 ∧ Za (Zac.l2 kq l1 l3 x9_3 x10_3 x11_2 t257 x13_3 l0_0 l0_1 l0_2 l0_3 l0_4 l0_5 l0_6 = some r) ∧ Za (kq ≤ k2) ∧ Za (Kd.R k44 44 w' w.heap.size (fun k_ => some k_ ≠ (v258 : Value).ownBlock) v9 x9_3) ∧ Za (Kd.R k44 44 w' w.heap.size (fun k_ => some k_ ≠ (v9 : Value).ownBlock) v258 t257) ∧ Za (w'.heap[gb250]? = some (.cells #[(.slice A0_0 l0_0.length c0_0), (.slice A0_1 l0_1.length c0_1), (.slice A0_2 l0_2.length c0_2), (.slice A0_3 l0_3.length c0_3), (.slice A0_4 l0_4.length c0_4), (.slice A0_5 l0_5.length c0_5), (.slice A0_6 l0_6.length c0_6)] 38 (0, 0))) ∧ Za (Below w.heap.size w w'))
      case atStart => exact ⟨(x9_2), (x10_2), (0), t10_3, t10_3, H', ⟨Nat.le_refl _⟩, ⟨by (with_reducible repeat (first | apply Kd.Zcm | apply Kd.Zcl | apply Kd.Zbw)); exact Kd.Zbv HO_9.out (fun _ hk => hk.2)⟩, ⟨by (with_reducible repeat (first | apply Kd.Zcm | apply Kd.Zcl | apply Kd.Zbw)); exact Kd.Zbv HO259.out (fun _ hk => hk.2)⟩, ⟨by (with_reducible repeat (first | refine Zan ?_ _ | refine Zap ?_ | refine Zao ?_ _)); exact BK250.out⟩, ⟨by repeat (first | (with_reducible first | exact HB.out | apply Zau | apply Zaj | apply Zal | refine Zai ?_ GE250.out) | exact HB.out)⟩⟩
      case round =>
       clear H'
       try clear c1
       try clear c2
       try clear p2
       try clear q2
       try clear hx2
       try clear c3
       try clear c5
       try clear p6
       try clear c8
       try clear c9
       try clear c9b0
       try clear c10
       try clear c10b0
       try clear c12
       try clear c12b0
       try clear hx254_0
       try clear hx254_1
       try clear hx254_2
       try clear hx256_0
       try clear hx256_1
       try clear hx256_2
       try clear p2
       try clear p254
       try clear p256
       try clear q254
       try clear q256
       obtain ⟨x9_3, x10_3, x13_3, rfl, rfl, HA, HK3, HO_9, HO_12, BK250, HB⟩ := hrel
       cases gk with
       | zero => exact absurd HA.out (by simp [Zac.l2])
       | succ k3 =>
        have H := HA.out
        clear HA
        simp only [Zac.l2] at H
        by_cases c20 : x13_3 < (t257.length : Int)
        case neg =>
         rw [if_neg c20] at H
         have c20b0 : decide (x13_3 < (t257.length : Int)) = false := decide_eq_false c20
         clear c20
         have H' := Za.mk H
         clear H
         obtain ⟨Ao37, co37, eo37⟩ := Kd.Zbp HO_12.out
         subst eo37
         go_wp2
         go_roundg k3
         case measure => have := HK1.out; have := HK2.out; have := HK3.out; omega
         case rel => exact ⟨(x9_3), (x10_3), (wrap64 (x11_2 + 1)), t10_3, t10_3, H', ⟨by have := HK1.out; have := HK2.out; have := HK3.out; omega⟩, ⟨by (with_reducible repeat (first | apply Kd.Zcm | apply Kd.Zcl | apply Kd.Zbw)); exact Kd.Zbv HO_9.out (fun _ hk => trivial)⟩, ⟨by (with_reducible repeat (first | refine Zan ?_ _ | refine Zap ?_ | refine Zao ?_ _)); exact BK250.out⟩, ⟨by repeat (first | (with_reducible first | exact HB.out | apply Zau | apply Zaj | apply Zal | refine Zai ?_ GE250.out) | exact HB.out)⟩⟩
        rw [if_pos c20] at H
        have c20b0 : decide (x13_3 < (t257.length : Int)) = true := decide_eq_true c20
        clear c20
        by_cases c21 : 0 ≤ x13_3
        case neg =>
         rw [if_neg c21] at H
         exact absurd H (by simp)
        rw [if_pos c21] at H
        have c21b0 : decide (0 ≤ x13_3) = true := decide_eq_true c21
        clear c21
        obtain ⟨bq22, hbq22⟩ : ∃ b_ : Bool, b_ = ((Zaf t257 x13_3).f2) := ⟨_, rfl⟩
        replace H : (if bq22 = true then ((Zak.f k3 x9_3 ((Zaf t257 x13_3).f0) ((Zaf t257 x13_3).f1) (bq22)).bind fun t262 => (if t262 ≥ 0 then (if 0 ≤ x11_2 then (if x11_2 < (l3.length : Int) then (if x9_3.length < 8796093022208 then (Zac.l1 k3 l1 l3 (x9_3 ++ [(⟨(Zaf l3 x11_2).f0, (Zaf l3 x11_2).f1, (Zaf l3 x11_2).f2⟩ : S44)]) true (wrap64 (x11_2 + 1)) l0_0 l0_1 l0_2 l0_3 l0_4 l0_5 l0_6) else (none)) else (none)) else (none)) else (Zac.l2 k3 l1 l3 x9_3 x10_3 x11_2 t257 (wrap64 (x13_3 + 1)) l0_0 l0_1 l0_2 l0_3 l0_4 l0_5 l0_6))) else (Zac.l2 k3 l1 l3 x9_3 x10_3 x11_2 t257 (wrap64 (x13_3 + 1)) l0_0 l0_1 l0_2 l0_3 l0_4 l0_5 l0_6)) = some r := by rw [← hbq22] at H; exact H
        have Nbq22 := Za.mk hbq22
        clear hbq22
        by_cases c23 : bq22 = true
        case neg =>
         replace c23 := Bool.eq_false_iff.mpr c23
         subst c23
         have H1 : (Zac.l2 k3 l1 l3 x9_3 x10_3 x11_2 t257 (wrap64 (x13_3 + 1)) l0_0 l0_1 l0_2 l0_3 l0_4 l0_5 l0_6) = some r := by rw [if_neg (show ¬ (false = true) by decide)] at H; exact H
         clear H
         have H := H1
         clear H1
         have H' := Za.mk H
         clear H
         obtain ⟨Ao36, co36, eo36⟩ := Kd.Zbp HO_12.out
         subst eo36
         have p260 : 0 ≤ (x13_3 : Int) := of_decide_eq_true t10_2
         have q260 : x13_3 < (t257.length : Int) := of_decide_eq_true t10_2
         obtain ⟨ad260, e260, hx260_0, hx260_1, hx260_2⟩ := Zc (Kd.Zb HO_12.out).2.2 x13_3 p260 q260
         (try rw [← Nbq22.out] at hx260_2)
         cases e260
         replace p260 := eq_true p260
         replace q260 := eq_true q260
         go_wp2
         go_roundg k3
         case measure => have := HK1.out; have := HK2.out; have := HK3.out; omega
         case rel => exact ⟨(x9_3), (x10_3), (wrap64 (x13_3 + 1)), t10_3, t10_3, H', ⟨by have := HK1.out; have := HK2.out; have := HK3.out; omega⟩, ⟨RD HO_9⟩, ⟨RD HO_12⟩, ⟨by (with_reducible repeat (first | refine Zan ?_ _ | refine Zap ?_ | refine Zao ?_ _)); exact BK250.out⟩, ⟨by repeat (first | (with_reducible first | exact HB.out | apply Zau | apply Zaj | apply Zal | refine Zai ?_ GE250.out) | exact HB.out)⟩⟩
        subst c23
        have H1 : ((Zak.f k3 x9_3 ((Zaf t257 x13_3).f0) ((Zaf t257 x13_3).f1) (true)).bind fun t262 => (if t262 ≥ 0 then (if 0 ≤ x11_2 then (if x11_2 < (l3.length : Int) then (if x9_3.length < 8796093022208 then (Zac.l1 k3 l1 l3 (x9_3 ++ [(⟨(Zaf l3 x11_2).f0, (Zaf l3 x11_2).f1, (Zaf l3 x11_2).f2⟩ : S44)]) true (wrap64 (x11_2 + 1)) l0_0 l0_1 l0_2 l0_3 l0_4 l0_5 l0_6) else (none)) else (none)) else (none)) else (Zac.l2 k3 l1 l3 x9_3 x10_3 x11_2 t257 (wrap64 (x13_3 + 1)) l0_0 l0_1 l0_2 l0_3 l0_4 l0_5 l0_6))) = some r := by rw [if_pos rfl] at H; exact H
        clear H
        have H := H1
        clear H1
        replace H := Option.bind_eq_some_iff.mp H
        obtain ⟨t262, A240, H⟩ := H
        try dsimp only at H
        have A24 := Za.mk A240
        clear A240
        by_cases c25 : t262 ≥ 0
        case neg =>
         rw [if_neg c25] at H
         have c25b0 : decide (0 ≤ t262) = false := decide_eq_false c25
         clear c25
         have H' := Za.mk H
         clear H
         obtain ⟨Ao33, co33, eo33⟩ := Kd.Zbp HO_12.out
         subst eo33
         have p260 : 0 ≤ (x13_3 : Int) := of_decide_eq_true t10_2
         have q260 : x13_3 < (t257.length : Int) := of_decide_eq_true t10_2
         obtain ⟨ad260, e260, hx260_0, hx260_1, hx260_2⟩ := Zc (Kd.Zb HO_12.out).2.2 x13_3 p260 q260
         (try rw [← Nbq22.out] at hx260_2)
         cases e260
         replace p260 := eq_true p260
         replace q260 := eq_true q260
         have p261 : 0 ≤ (x13_3 : Int) := of_decide_eq_true t10_2
         have q261 : x13_3 < (t257.length : Int) := of_decide_eq_true t10_2
         obtain ⟨ad261, e261, hx261_0, hx261_1, hx261_2⟩ := Zc (Kd.Zb HO_12.out).2.2 x13_3 p261 q261
         (try rw [← Nbq22.out] at hx261_2)
         obtain rfl : ad260 = ad261 := (by injection e261)
         replace p261 := eq_true p261
         replace q261 := eq_true q261
         obtain ⟨Ao34, co34, eo34⟩ := Kd.Zbp HO_9.out
         subst eo34
         go_wp2_with (first | (go_at_call 21; (with_reducible refine (Zak.calls k3 _ _ x9_3 ((Zaf t257 x13_3).f0) ((Zaf t257 x13_3).f1) true t262 _ ?side1 ?side2 A24.out).mono ?_); (case side1 => exact CD ((Kd.Zb HO_9.out).2.2)); (case side2 => exact (Kd.Zb HO_9.out).2.1); rintro e w35 ⟨rfl, hb⟩; have n0_ := RB HO_9 hb; have n1_ := RB HO_12 hb; have n2_ := Za.mk (Zam (KB BK250) hb); have n3_ := Za.mk (Zbb t10_0 hb); clear HO_9; clear HO_12; clear BK250; clear HB; have HO_9 := n0_; have HO_12 := n1_; have BK250 := n2_; have HB := n3_; clear n0_ n1_ n2_ n3_; (try clear hb); (try clear hb2); (try clear hk); (try clear hi)))
         go_roundg k3
         case measure => have := HK1.out; have := HK2.out; have := HK3.out; omega
         case rel => exact ⟨(x9_3), (x10_3), (wrap64 (x13_3 + 1)), t10_3, t10_3, H', ⟨by have := HK1.out; have := HK2.out; have := HK3.out; omega⟩, ⟨RD HO_9⟩, ⟨RD HO_12⟩, ⟨by (with_reducible repeat (first | refine Zan ?_ _ | refine Zap ?_ | refine Zao ?_ _)); exact BK250.out⟩, ⟨by repeat (first | (with_reducible first | exact HB.out | apply Zau | apply Zaj | apply Zal | refine Zai ?_ GE250.out) | exact HB.out)⟩⟩
        rw [if_pos c25] at H
        have c25b0 : decide (0 ≤ t262) = true := decide_eq_true c25
        clear c25
        by_cases c26 : 0 ≤ x11_2
        case neg =>
         rw [if_neg c26] at H
         exact absurd H (by simp)
        rw [if_pos c26] at H
        have c26b0 : decide (0 ≤ x11_2) = true := decide_eq_true c26
        clear c26
        by_cases c27 : x11_2 < (l3.length : Int)
        case neg =>
         rw [if_neg c27] at H
         exact absurd H (by simp)
        rw [if_pos c27] at H
        have c27b0 : decide (x11_2 < (l3.length : Int)) = true := decide_eq_true c27
        clear c27
        by_cases c28 : x9_3.length < 8796093022208
        case neg =>
         rw [if_neg c28] at H
         exact absurd H (by simp)
        rw [if_pos c28] at H
        have LMc28 := Za.mk c28
        clear c28
        obtain ⟨y264, hy264⟩ : ∃ y_ : List (S44), y_ = (x9_3 ++ [(⟨(Zaf l3 x11_2).f0, (Zaf l3 x11_2).f1, (Zaf l3 x11_2).f2⟩ : S44)]) := ⟨_, rfl⟩
        replace H : (Zac.l1 k3 l1 l3 y264 true (wrap64 (x11_2 + 1)) l0_0 l0_1 l0_2 l0_3 l0_4 l0_5 l0_6) = some r := by first | (rw [hy264]; with_reducible exact H) | (have H2_ := (Option.bind_some _ _).symm.trans H; rw [hy264]; with_reducible exact H2_) | (have H2_ := (Option.bind_some _ _).symm.trans H; with_reducible exact H2_) | with_reducible exact H | (rw [hy264]; exact H) | exact H
        have Ny264 := Za.mk hy264
        clear hy264
        have H' := Za.mk H
        clear H
        obtain ⟨Ao29, co29, eo29⟩ := Kd.Zbp HO_12.out
        subst eo29
        have p260 : 0 ≤ (x13_3 : Int) := of_decide_eq_true t10_2
        have q260 : x13_3 < (t257.length : Int) := of_decide_eq_true t10_2
        obtain ⟨ad260, e260, hx260_0, hx260_1, hx260_2⟩ := Zc (Kd.Zb HO_12.out).2.2 x13_3 p260 q260
        (try rw [← Nbq22.out] at hx260_2)
        cases e260
        replace p260 := eq_true p260
        replace q260 := eq_true q260
        have p261 : 0 ≤ (x13_3 : Int) := of_decide_eq_true t10_2
        have q261 : x13_3 < (t257.length : Int) := of_decide_eq_true t10_2
        obtain ⟨ad261, e261, hx261_0, hx261_1, hx261_2⟩ := Zc (Kd.Zb HO_12.out).2.2 x13_3 p261 q261
        (try rw [← Nbq22.out] at hx261_2)
        obtain rfl : ad260 = ad261 := (by injection e261)
        replace p261 := eq_true p261
        replace q261 := eq_true q261
        obtain ⟨Ao30, co30, eo30⟩ := Kd.Zbp HO_9.out
        subst eo30
        go_wp2_with (first | (go_at_call 21; (with_reducible refine (Zak.calls k3 _ _ x9_3 ((Zaf t257 x13_3).f0) ((Zaf t257 x13_3).f1) true t262 _ ?side1 ?side2 A24.out).mono ?_); (case side1 => exact CD ((Kd.Zb HO_9.out).2.2)); (case side2 => exact (Kd.Zb HO_9.out).2.1); rintro e w31 ⟨rfl, hb⟩; have n0_ := RB HO_9 hb; have n1_ := RB HO_12 hb; have n2_ := Za.mk (Zam (KB BK250) hb); have n3_ := Za.mk (Zbb t10_0 hb); clear HO_9; clear HO_12; clear BK250; clear HB; have HO_9 := n0_; have HO_12 := n1_; have BK250 := n2_; have HB := n3_; clear n0_ n1_ n2_ n3_; (try clear hb); (try clear hb2); (try clear hk); (try clear hi); have p263 : 0 ≤ (x11_2 : Int) := of_decide_eq_true t10_2; have q263 : x11_2 < (l3.length : Int) := of_decide_eq_true t10_2; obtain ⟨ad263, e263, hx263_0, hx263_1, hx263_2⟩ := Zc HR3.out x11_2 p263 q263; (try rw [← Nbq22.out] at hx263_2); obtain rfl : ad254 = ad263 := (by injection e263); replace hx263_0 := (HB.out.cell (World.block_lt_of_cell? w _ hx263_0)).trans hx263_0; replace hx263_1 := (HB.out.cell (World.block_lt_of_cell? w _ hx263_1)).trans hx263_1; replace hx263_2 := (HB.out.cell (World.block_lt_of_cell? w _ hx263_2)).trans hx263_2; replace p263 := eq_true p263; replace q263 := eq_true q263) | ((with_reducible refine Zdl (b := .append) (xs := #[.tmp 60, .tmp 65]) rfl ?_); at_builtin; refine Kd.R_append k44 (w0 := w) w.heap.size rfl (.tmp 60) (.tmp 65) 40 44 (.agg #[(.int .i64 0), (.int .u8 0), (.bool false)]) 16 rfl Try.underlying40 info44 rfl (by decide) (by omega) (.slice Ao30 x9_3.length co30) x9_3 (⟨(Zaf l3 x11_2).f0, (Zaf l3 x11_2).f1, (Zaf l3 x11_2).f2⟩ : S44) [.int .i64 ((Zaf l3 x11_2).f0), .int .u8 ((Zaf l3 x11_2).f1), .bool ((Zaf l3 x11_2).f2)] (fun k_ => some k_ ≠ (.slice (some ad260) t257.length co29 : Value).ownBlock) (fun _ => False) rfl rfl ?aP (fun _ hk => hk.elim) ?aF ?aO ?aB ?aS ?aL ?_; (case aP => exact k44_mkM _ _ _ (⟨(Zaf l3 x11_2).f0, (Zaf l3 x11_2).f1, (Zaf l3 x11_2).f2⟩ : S44)); (case aB => exact t10_0); (case aF => exact (fun k_ hk => Kd.fresh' (Kd.R_lt (RD HO_12)) k_ hk)); (case aO => exact (RD HO_9)); (case aS => exact (Zat t10_0)); (case aL => have := LMc28.out; omega); intro v265 w32 ho hb hg hat; rw [← Ny264.out] at ho; have n0_ := Za.mk (Kd.Zfi (ok := (fun _ => True)) (by (with_reducible repeat (first | apply Kd.Zcm | apply Kd.Zcl | apply Kd.Zbw)); exact Kd.Zbv HO_12.out (fun _ hk => ⟨trivial, hk⟩)) hg hat); have n1_ := Za.mk (Zde (g := gb250) (o := .cells #[.slice A0_0 l0_0.length c0_0, .slice A0_1 l0_1.length c0_1, .slice A0_2 l0_2.length c0_2, .slice A0_3 l0_3.length c0_3, .slice A0_4 l0_4.length c0_4, .slice A0_5 l0_5.length c0_5, .slice A0_6 l0_6.length c0_6] 38 (0, 0)) (KB BK250) hg ((by first | exact Kd.R_ne HO_9.out BK250.out (by decide) | (intro h_; have h2_ := HO_9.out.1 _ h_.symm; simp at h2_)))); have n2_ := Za.mk (hb); have n3_ := Za.mk (ho); clear HO_12; clear BK250; clear HB; clear HO_9; have HO_12 := n0_; have BK250 := n1_; have HB := n2_; have HO266 := n3_; clear n0_ n1_ n2_ n3_; clear ho hb hg hat))
        go_roundg k3
        case measure => have := HK1.out; have := HK2.out; have := HK3.out; omega
        case rel => exact ⟨(y264), (true), (wrap64 (x11_2 + 1)), t10_3, t10_3, H', ⟨by have := HK1.out; have := HK2.out; have := HK3.out; omega⟩, ⟨by (with_reducible repeat (first | apply Kd.Zcm | apply Kd.Zcl | apply Kd.Zbw)); exact Kd.Zbv HO266.out (fun _ hk => trivial)⟩, ⟨by (with_reducible repeat (first | refine Zan ?_ _ | refine Zap ?_ | refine Zao ?_ _)); exact BK250.out⟩, ⟨by repeat (first | (with_reducible first | exact HB.out | apply Zau | apply Zaj | apply Zal | refine Zai ?_ GE250.out) | exact HB.out)⟩⟩
     rw [if_pos c12] at H
     have c12b0 : decide (0 ≤ t255) = true := decide_eq_true c12
     clear c12
     have H' := Za.mk H
     clear H
     have p254 : 0 ≤ (x11_2 : Int) := of_decide_eq_true t10_2
     have q254 : x11_2 < (l3.length : Int) := of_decide_eq_true t10_2
     obtain ⟨ad254, e254, hx254_0, hx254_1, hx254_2⟩ := Zc HR3.out x11_2 p254 q254
     cases e254
     replace hx254_0 := (HB.out.cell (World.block_lt_of_cell? w _ hx254_0)).trans hx254_0
     replace hx254_1 := (HB.out.cell (World.block_lt_of_cell? w _ hx254_1)).trans hx254_1
     replace hx254_2 := (HB.out.cell (World.block_lt_of_cell? w _ hx254_2)).trans hx254_2
     replace p254 := eq_true p254
     replace q254 := eq_true q254
     obtain ⟨Ao13, co13, eo13⟩ := Kd.Zbp HO_9.out
     subst eo13
     go_wp2_with (first | ((with_reducible refine Zbl (f := 21) rfl ?_); refine Zcx (some 31) rfl rfl Try.func21 Zfa rfl #[.slice Ao13 x9_2.length co13, .agg #[.int .i64 ((Zaf l3 x11_2).f0), .int .u8 ((Zaf l3 x11_2).f1), .bool ((Zaf l3 x11_2).f2)]] rfl t10_1 ?_; (with_reducible refine (Zak.calls k2 _ _ x9_2 ((Zaf l3 x11_2).f0) ((Zaf l3 x11_2).f1) ((Zaf l3 x11_2).f2) t255 _ ?side1 ?side2 A11.out).mono ?_); (case side1 => exact CD ((Kd.Zb HO_9.out).2.2)); (case side2 => exact (Kd.Zb HO_9.out).2.1); rintro e w14 ⟨rfl, hb⟩; refine ⟨_, rfl, ?_⟩; have n0_ := RB HO_9 hb; have n1_ := Za.mk (Zam (KB BK250) hb); have n2_ := Za.mk (Zbb t10_0 hb); clear HO_9; clear BK250; clear HB; have HO_9 := n0_; have BK250 := n1_; have HB := n2_; clear n0_ n1_ n2_; (try clear hb); (try clear hb2); (try clear hk); (try clear hi)))
     go_roundg k2
     case measure => have := HK1.out; have := HK2.out; omega
     case rel => exact ⟨(x9_2), (x10_2), (wrap64 (x11_2 + 1)), t10_3, t10_3, H', ⟨by have := HK1.out; have := HK2.out; omega⟩, ⟨RD HO_9⟩, ⟨by (with_reducible repeat (first | refine Zan ?_ _ | refine Zap ?_ | refine Zao ?_ _)); exact BK250.out⟩, ⟨by repeat (first | (with_reducible first | exact HB.out | apply Zau | apply Zaj | apply Zal | refine Zai ?_ GE250.out) | exact HB.out)⟩⟩
end Go.Proofs.Ytclgclcoblfddaa.P
