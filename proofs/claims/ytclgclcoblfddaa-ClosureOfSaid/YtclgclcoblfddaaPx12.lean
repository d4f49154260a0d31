/- Printed by a program for this claim: functions of the program as plain functions, and that the machine computes them. -/
import Derived.Test.YtclgclcoblfddaaPx0
import Derived.Test.YtclgclcoblfddaaPShort
import Derived.Test.YtclgclcoblfddaaPx6
import Derived.Test.YtclgclcoblfddaaPx9
import Derived.Test.YtclgclcoblfddaaPx10
import Derived.Test.YtclgclcoblfddaaPx11
namespace Go.Proofs.Ytclgclcoblfddaa.P
open Go.RowKit Go.Proofs.YtclgclcoblfddaaW.PrintWords Go.Proofs.YtclgclcoblfddaaW.PrintLast Go.Proofs.YtclgclcoblfddaaW.PrintMore
attribute [local go_sem] Zeg Zee Zfg Zff Zdo Zdm Zef Zed
set_option linter.unusedVariables false
set_option linter.unusedSimpArgs false
theorem Zf {p : Prop} (h : p := by kernel_rfl) : p := h
theorem t12_5 {p : Prop} (h : p := by first | rfl | (simp; done) | (simp [*]; done)) : p := h
theorem t12_4 {p : Prop} (h : p := by first | (with_reducible assumption) | assumption) : p := h
theorem t12_3 {p : Prop} (h : p := by (try simp only [List.map_toArray, List.map_cons, List.map_nil]); first | done | rfl | (simp only [List.length_drop, List.length_take]; rfl)) : p := h
theorem t12_2 {p : Prop} (h : p := by repeat (first | (with_reducible first | exact HB.out | apply Zau | apply Zaj | apply Zal | refine Zai ?_ GE327.out) | exact HB.out)) : p := h
theorem t12_1 {p : Prop} (h : p := by repeat (first | (with_reducible first | exact HB.out | apply Zau | apply Zaj | apply Zal | refine Zai ?_ GE305.out) | exact HB.out)) : p := h
theorem t12_0 {p : Prop} (h : p := by repeat (first | (with_reducible first | exact HB.out | apply Zau | apply Zaj | apply Zal | refine Zai ?_ GE305.out | refine Zai ?_ GE306.out) | exact HB.out)) : p := h
def u12_0 : Array Bool := #[false, false, false, false, false, false, false, false, false]
def u12_1 : Array Bool := #[false, true, false, false, false, false, false, false, false]
def u12_2 : Array Bool := #[false, true, true, false, false, false, false, false, false]
def u12_3 : Array Bool := #[false, true, true, false, true, false, false, false, false]
def u12_4 : Array Bool := #[true, true, true, false, true, false, false, false, false]
def u12_5 : Array Bool := #[true, true, true, true, true, false, false, false, false]
def u12_6 : Array Bool := #[true, true, true, true, true, true, false, false, false]
def u12_7 : Array Bool := #[true, true, true, true, true, true, true, false, false]
def u12_8 : Array Bool := #[true, true, true, true, true, true, true, true, false]
def u12_9 : Array Bool := #[true, true, true, true, true, true, true, true, true]
mutual
def Zas.j0 : Nat → List Bool → List (S44) → Bool → List (List Int) → List (List Int) → List (List Int) → List (List Int) → List (List Int) → List (List Int) → List (List Int) → Int → Int → Bool → Option ((List (S44)) × Bool)
 | 0, _, _, _, _, _, _, _, _, _, _, _, _, _ => none
 | k + 1, x1, x3, x29, x306000, x306001, x306002, x306003, x306004, x306005, x306006, x307000, x307001, x307002 => if x29 = true then (some (([] : List (S44)), false)) else ((Zae.f k x306000 x306001 x306002 x306003 x306004 x306005 x306006 x1 x307000 x307001 false ([] : List (S44)) false).bind fun t308 => ((Zac.f k x306000 x306001 x306002 x306003 x306004 x306005 x306006 x1 x3 t308).bind fun t311 => ((Zak.f k t311 x307000 x307001 false).bind fun t314 => (if t314 ≥ 0 then (some (([] : List (S44)), false)) else ((Zae.f k x306000 x306001 x306002 x306003 x306004 x306005 x306006 x1 x307000 x307001 false t311 false).bind fun t315 => ((Zae.f k x306000 x306001 x306002 x306003 x306004 x306005 x306006 x1 x307000 x307001 false t311 true).bind fun t318 => (Zas.l0 k t315 t318 0)))))))
def Zas.l0 : Nat → List (S44) → List (S44) → Int → Option ((List (S44)) × Bool)
 | 0, _, _, _ => none
 | k + 1, x11, x12, x13 => if x13 < (x11.length : Int) then (if 0 ≤ x13 then ((Zak.f k x12 ((Zaf x11 x13).f0) ((Zaf x11 x13).f1) ((Zaf x11 x13).f2)).bind fun t322 => (Zas.l0 k (x11.set (x13 : Int).toNat (⟨(Zaf x11 x13).f0, (Zaf x11 x13).f1, decide (t322 ≥ 0)⟩ : S44)) x12 (wrap64 (x13 + 1)))) else (none)) else ((Zab.f k x11).bind fun t324 => (some (t324, true)))
end
def Zas.f (k : Nat) (l0_0 : List (List Int)) (l0_1 : List (List Int)) (l0_2 : List (List Int)) (l0_3 : List (List Int)) (l0_4 : List (List Int)) (l0_5 : List (List Int)) (l0_6 : List (List Int)) (l1 : List Bool) (a2_0 : Int) (a2_1 : Int) (a2_2 : Bool) (l3 : List (S44)) : Option ((List (S44)) × Bool) := if a2_0 < 0 then (Zas.j0 k l1 l3 true l0_0 l0_1 l0_2 l0_3 l0_4 l0_5 l0_6 a2_0 a2_1 a2_2) else (if a2_0 ≥ (l1.length : Int) then (Zas.j0 k l1 l3 true l0_0 l0_1 l0_2 l0_3 l0_4 l0_5 l0_6 a2_0 a2_1 a2_2) else ((Zcb.f a2_1).bind fun t307 => (Zas.j0 k l1 l3 (!t307) l0_0 l0_1 l0_2 l0_3 l0_4 l0_5 l0_6 a2_0 a2_1 a2_2)))
def Zas.T4 : Bool × List (List Nat × List Nat) := (true, [([], []), ([], []), ([], []), ([], []), ([], []), ([], []), ([3, 4, 5], [3, 4, 5]), ([0, 1, 2, 6, 6], [0, 1, 2, 6]), ([7, 7, 0, 1, 2, 3, 4, 5, 6, 7], [7])])
def Zas.B4 : List Nat := [0, 0, 0, 0, 0, 0, 56, 127, 255]
theorem Zas.tab4 : rtab .any (opsOf Try.f16 4) = Zas.T4 := by kernel_rfl
theorem Zas.bits4 : Zeo Zas.T4.2 Zas.B4 = true := by kernel_rfl
set_option maxHeartbeats 8000000 in
set_option maxRecDepth 100000 in
theorem Zas.calls (k : Nat) (A0_0 : Option Addr) (c0_0 : Nat) (l0_0 : List (List Int)) (A0_1 : Option Addr) (c0_1 : Nat) (l0_1 : List (List Int)) (A0_2 : Option Addr) (c0_2 : Nat) (l0_2 : List (List Int)) (A0_3 : Option Addr) (c0_3 : Nat) (l0_3 : List (List Int)) (A0_4 : Option Addr) (c0_4 : Nat) (l0_4 : List (List Int)) (A0_5 : Option Addr) (c0_5 : Nat) (l0_5 : List (List Int)) (A0_6 : Option Addr) (c0_6 : Nat) (l0_6 : List (List Int)) (A1 : Option Addr) (c1 : Nat) (l1 : List Bool) (a2_0 : Int) (a2_1 : Int) (a2_2 : Bool) (A3 : Option Addr) (c3 : Nat) (l3 : List (S44)) (r1 : List (S44)) (r2 : Bool) (w : World) (hr0_0 : Kd.C (Kd.slice 3 (Kd.int .i64)) w A0_0 l0_0.length l0_0) (hc0_0 : l0_0.length ≤ c0_0) (hr0_1 : Kd.C (Kd.slice 3 (Kd.int .i64)) w A0_1 l0_1.length l0_1) (hc0_1 : l0_1.length ≤ c0_1) (hr0_2 : Kd.C (Kd.slice 3 (Kd.int .i64)) w A0_2 l0_2.length l0_2) (hc0_2 : l0_2.length ≤ c0_2) (hr0_3 : Kd.C (Kd.slice 3 (Kd.int .i64)) w A0_3 l0_3.length l0_3) (hc0_3 : l0_3.length ≤ c0_3) (hr0_4 : Kd.C (Kd.slice 3 (Kd.int .i64)) w A0_4 l0_4.length l0_4) (hc0_4 : l0_4.length ≤ c0_4) (hr0_5 : Kd.C (Kd.slice 3 (Kd.int .i64)) w A0_5 l0_5.length l0_5) (hc0_5 : l0_5.length ≤ c0_5) (hr0_6 : Kd.C (Kd.slice 3 (Kd.int .i64)) w A0_6 l0_6.length l0_6) (hc0_6 : l0_6.length ≤ c0_6) (hr1 : Kd.C Kd.bool w A1 l1.length l1) (hc1 : l1.length ≤ c1) (hr3 : Kd.C k44 w A3 l3.length l3) (hc3 : l3.length ≤ c3) (h : Zas.f k l0_0 l0_1 l0_2 l0_3 l0_4 l0_5 l0_6 l1 a2_0 a2_1 a2_2 l3 = some (r1, r2)) :
  Calls Try.prog 16 #[.agg #[.slice A0_0 l0_0.length c0_0, .slice A0_1 l0_1.length c0_1, .slice A0_2 l0_2.length c0_2, .slice A0_3 l0_3.length c0_3, .slice A0_4 l0_4.length c0_4, .slice A0_5 l0_5.length c0_5, .slice A0_6 l0_6.length c0_6], .slice A1 l1.length c1, .agg #[.int .i64 a2_0, .int .u8 a2_1, .bool a2_2], .slice A3 l3.length c3] w fun e w' => ∃ v0_ : Value, e = .returned (.tuple #[v0_, .bool r2]) ∧ Kd.R k44 44 w' w.heap.size (fun _ => True) v0_ r1 ∧ Below w.heap.size w w' := by
 have hu38 := Try.underlying38
 have hu44 := Try.underlying44
 have HR0_0 := Za.mk hr0_0
 have HC0_0 := Za.mk hc0_0
 clear hr0_0 hc0_0
 have HR0_1 := Za.mk hr0_1
 have HC0_1 := Za.mk hc0_1
 clear hr0_1 hc0_1
 have HR0_2 := Za.mk hr0_2
 have HC0_2 := Za.mk hc0_2
 clear hr0_2 hc0_2
 have HR0_3 := Za.mk hr0_3
 have HC0_3 := Za.mk hc0_3
 clear hr0_3 hc0_3
 have HR0_4 := Za.mk hr0_4
 have HC0_4 := Za.mk hc0_4
 clear hr0_4 hc0_4
 have HR0_5 := Za.mk hr0_5
 have HC0_5 := Za.mk hc0_5
 clear hr0_5 hc0_5
 have HR0_6 := Za.mk hr0_6
 have HC0_6 := Za.mk hc0_6
 clear hr0_6 hc0_6
 have HR1 := Za.mk hr1
 have HC1 := Za.mk hc1
 clear hr1 hc1
 have HR3 := Za.mk hr3
 have HC3 := Za.mk hc3
 clear hr3 hc3
 have HB := Za.mk (Below.refl w.heap.size w)
 have H : (if a2_0 < 0 then (Zas.j0 k l1 l3 true l0_0 l0_1 l0_2 l0_3 l0_4 l0_5 l0_6 a2_0 a2_1 a2_2) else (if a2_0 ≥ (l1.length : Int) then (Zas.j0 k l1 l3 true l0_0 l0_1 l0_2 l0_3 l0_4 l0_5 l0_6 a2_0 a2_1 a2_2) else ((Zcb.f a2_1).bind fun t307 => (Zas.j0 k l1 l3 (!t307) l0_0 l0_1 l0_2 l0_3 l0_4 l0_5 l0_6 a2_0 a2_1 a2_2)))) = some (r1, r2) := h
 clear h
 have HC5 := Za.mk H
 clear H
 go_enter Try.func16, Try.ntmps16
 go_upto_region 1 with (first | ((with_reducible refine Zca (N := 4) rfl ?_); (try (refine Zdr (by rfl) ?_; dsimp only)); refine Zbu ?hg (N := 4) ?hd (cs := #[.slice A0_0 l0_0.length c0_0, .slice A0_1 l0_1.length c0_1, .slice A0_2 l0_2.length c0_2, .slice A0_3 l0_3.length c0_3, .slice A0_4 l0_4.length c0_4, .slice A0_5 l0_5.length c0_5, .slice A0_6 l0_6.length c0_6]) (t := 38) ?hr ?_; (case hd => rfl); (case hg => rfl); (case hr => first | (go_simp; done) | (go_simp; rfl)); intro gb305 hg w6 hbox hb; have n0_ := BS HB hb; have n1_ := Za.mk (hbox); have n2_ := Za.mk ((by rw [hg]; exact (Zat (BD HB)) : w.heap.size ≤ gb305)); have n3_ := Za.mk ((by rw [hg]; exact (Zat (BD HB)) : w.heap.size ≤ gb305)); clear HB; have HB := n0_; have BK305 := n1_; have GW305 := n2_; have GE305 := n3_; clear n0_ n1_ n2_ n3_; clear hb hbox hg) | ((with_reducible refine Zca (N := 6) rfl ?_); (try (refine Zdr (by rfl) ?_; dsimp only)); refine Zbu ?hg (N := 6) ?hd (cs := #[.int .i64 a2_0, .int .u8 a2_1, .bool a2_2]) (t := 44) ?hr ?_; (case hd => rfl); (case hg => rfl); (case hr => first | (go_simp; done) | (go_simp; rfl)); intro gb306 hg w7 hbox hb; have n0_ := Za.mk (Zam (KB BK305) hb); have n1_ := Za.mk (Zbb t12_1 hb); have n2_ := Za.mk (hbox); have n3_ := Za.mk ((by rw [hg]; exact (Zat t12_1) : w.heap.size ≤ gb306)); have n4_ := Za.mk ((by rw [hg]; exact (Zat t12_1) : w.heap.size ≤ gb306)); have n5_ := Za.mk ((by rw [hg]; exact Nat.ne_of_lt (Zcw (KB BK305)) : gb305 ≠ gb306)); have n6_ := Za.mk ((by rw [hg]; exact Nat.ne_of_gt (Zcw (KB BK305)) : gb306 ≠ gb305)); clear BK305; clear HB; have BK305 := n0_; have HB := n1_; have BK306 := n2_; have GW306 := n3_; have GE306 := n4_; have NB305_306 := n5_; have NB306_305 := n6_; clear n0_ n1_ n2_ n3_ n4_ n5_ n6_; clear hb hbox hg))
 (try simp only [Act.put, List.setIfInBounds_toArray, List.set_cons_zero, List.set_cons_succ])
 go_cut [29] (fun v29 wc => ∃ (kq : Nat) (x29_4 : Bool), v29 = .bool x29_4 ∧ Za (Zas.j0 kq l1 l3 x29_4 l0_0 l0_1 l0_2 l0_3 l0_4 l0_5 l0_6 a2_0 a2_1 a2_2 = some (r1, r2)) ∧ Za (kq ≤ k) ∧ Za (wc.heap[gb305]? = some (.cells #[(.slice A0_0 l0_0.length c0_0), (.slice A0_1 l0_1.length c0_1), (.slice A0_2 l0_2.length c0_2), (.slice A0_3 l0_3.length c0_3), (.slice A0_4 l0_4.length c0_4), (.slice A0_5 l0_5.length c0_5), (.slice A0_6 l0_6.length c0_6)] 38 (0, 0))) ∧ Za (wc.heap[gb306]? = some (.cells #[.int .i64 a2_0, .int .u8 a2_1, .bool a2_2] 44 (0, 0))) ∧ Za (Below w.heap.size w wc))
 case first =>
  have H := HC5.out
  clear HC5
  by_cases c8 : a2_0 < 0
  case neg =>
   rw [if_neg c8] at H
   have c8b0 : decide (a2_0 < 0) = false := decide_eq_false c8
   clear c8
   (first | rw [c8b0] | (simp only [Zax, Zay]; rw [c8b0]) | skip)
   by_cases c11 : a2_0 ≥ (l1.length : Int)
   case neg =>
    rw [if_neg c11] at H
    have c11b0 : decide ((l1.length : Int) ≤ a2_0) = false := decide_eq_false c11
    clear c11
    replace H := Option.bind_eq_some_iff.mp H
    obtain ⟨t307, A140, H⟩ := H
    try dsimp only at H
    have A14 := Za.mk A140
    clear A140
    have H' := Za.mk H
    clear H
    have hnb15 := NB306_305.out
    have hnc15 := NB305_306.out
    obtain ⟨hcz16_0, hcz16_1, hcz16_2, hfz16_0, hfz16_1, hfz16_2⟩ := cz3 BK306
    go_wp2_with (first | (go_at_call 49; (with_reducible refine (Zcb.calls a2_1 t307 _ A14.out).mono ?_); rintro e w' ⟨rfl, ⟨nd, rfl⟩⟩))
    go_meet
    case rel => exact ⟨_, (!t307), t12_5, H', ⟨by first | omega | exact Nat.le_refl _⟩, ⟨by (with_reducible repeat (first | refine Zan ?_ _ | refine Zap ?_ | refine Zao ?_ _)); exact BK305.out⟩, ⟨by (with_reducible repeat (first | refine Zan ?_ _ | refine Zap ?_ | refine Zao ?_ _)); exact BK306.out⟩, ⟨by repeat (first | (with_reducible first | exact HB.out | apply Zau | apply Zaj | apply Zal | refine Zai ?_ GE305.out | refine Zai ?_ GE306.out) | exact HB.out)⟩⟩
   rw [if_pos c11] at H
   have c11b0 : decide ((l1.length : Int) ≤ a2_0) = true := decide_eq_true c11
   clear c11
   have H' := Za.mk H
   clear H
   have hnb12 := NB306_305.out
   have hnc12 := NB305_306.out
   obtain ⟨hcz13_0, hcz13_1, hcz13_2, hfz13_0, hfz13_1, hfz13_2⟩ := cz3 BK306
   go_wp2
   go_meet
   case rel => exact ⟨_, (true), t12_5, H', ⟨by first | omega | exact Nat.le_refl _⟩, ⟨by (with_reducible repeat (first | refine Zan ?_ _ | refine Zap ?_ | refine Zao ?_ _)); exact BK305.out⟩, ⟨by (with_reducible repeat (first | refine Zan ?_ _ | refine Zap ?_ | refine Zao ?_ _)); exact BK306.out⟩, ⟨by repeat (first | (with_reducible first | exact HB.out | apply Zau | apply Zaj | apply Zal | refine Zai ?_ GE305.out | refine Zai ?_ GE306.out) | exact HB.out)⟩⟩
  rw [if_pos c8] at H
  have c8b0 : decide (a2_0 < 0) = true := decide_eq_true c8
  clear c8
  (first | rw [c8b0] | (simp only [Zax, Zay]; rw [c8b0]) | skip)
  have H' := Za.mk H
  clear H
  have hnb9 := NB306_305.out
  have hnc9 := NB305_306.out
  obtain ⟨hcz10_0, hcz10_1, hcz10_2, hfz10_0, hfz10_1, hfz10_2⟩ := cz3 BK306
  go_wp2
  go_meet
  case rel => exact ⟨_, (true), t12_5, H', ⟨by first | omega | exact Nat.le_refl _⟩, ⟨by (with_reducible repeat (first | refine Zan ?_ _ | refine Zap ?_ | refine Zao ?_ _)); exact BK305.out⟩, ⟨by (with_reducible repeat (first | refine Zan ?_ _ | refine Zap ?_ | refine Zao ?_ _)); exact BK306.out⟩, ⟨by repeat (first | (with_reducible first | exact HB.out | apply Zau | apply Zaj | apply Zal | refine Zai ?_ GE305.out | refine Zai ?_ GE306.out) | exact HB.out)⟩⟩
 case rest =>
  clear HC5
  try clear c1
  try clear p2
  try clear c3
  try clear c8
  try clear c8b0
  try clear c9
  try clear c11
  try clear c11b0
  try clear c12
  try clear c15
  try clear c16
  try clear hcz10_0
  try clear hcz10_1
  try clear hcz10_2
  try clear hcz13_0
  try clear hcz13_1
  try clear hcz13_2
  try clear hcz16_0
  try clear hcz16_1
  try clear hcz16_2
  try clear hfz10_0
  try clear hfz10_1
  try clear hfz10_2
  try clear hfz13_0
  try clear hfz13_1
  try clear hfz13_2
  try clear hfz16_0
  try clear hfz16_1
  try clear hfz16_2
  obtain ⟨kq, x29_4, rfl, HA, HJ4, BK305, BK306, HB⟩ := hcut
  cases kq with
  | zero => exact absurd HA.out (by simp [Zas.j0])
  | succ kj4 =>
   have H := HA.out
   clear HA
   simp only [Zas.j0] at H
   by_cases c17 : x29_4 = true
   case neg =>
    replace c17 := Bool.eq_false_iff.mpr c17
    subst c17
    have H1 : ((Zae.f kj4 l0_0 l0_1 l0_2 l0_3 l0_4 l0_5 l0_6 l1 a2_0 a2_1 false ([] : List (S44)) false).bind fun t308 => ((Zac.f kj4 l0_0 l0_1 l0_2 l0_3 l0_4 l0_5 l0_6 l1 l3 t308).bind fun t311 => ((Zak.f kj4 t311 a2_0 a2_1 false).bind fun t314 => (if t314 ≥ 0 then (some (([] : List (S44)), false)) else ((Zae.f kj4 l0_0 l0_1 l0_2 l0_3 l0_4 l0_5 l0_6 l1 a2_0 a2_1 false t311 false).bind fun t315 => ((Zae.f kj4 l0_0 l0_1 l0_2 l0_3 l0_4 l0_5 l0_6 l1 a2_0 a2_1 false t311 true).bind fun t318 => (Zas.l0 kj4 t315 t318 0))))))) = some (r1, r2) := by rw [if_neg (show ¬ (false = true) by decide)] at H; exact H
    clear H
    have H := H1
    clear H1
    replace H := Option.bind_eq_some_iff.mp H
    obtain ⟨t308, A180, H⟩ := H
    try dsimp only at H
    have A18 := Za.mk A180
    clear A180
    replace H := Option.bind_eq_some_iff.mp H
    obtain ⟨t311, A190, H⟩ := H
    try dsimp only at H
    have A19 := Za.mk A190
    clear A190
    replace H := Option.bind_eq_some_iff.mp H
    obtain ⟨t314, A200, H⟩ := H
    try dsimp only at H
    have A20 := Za.mk A200
    clear A200
    by_cases c21 : t314 ≥ 0
    case neg =>
     rw [if_neg c21] at H
     have c21b0 : decide (0 ≤ t314) = false := decide_eq_false c21
     clear c21
     replace H := Option.bind_eq_some_iff.mp H
     obtain ⟨t315, A320, H⟩ := H
     try dsimp only at H
     have A32 := Za.mk A320
     clear A320
     replace H := Option.bind_eq_some_iff.mp H
     obtain ⟨t318, A330, H⟩ := H
     try dsimp only at H
     have A33 := Za.mk A330
     clear A330
     have H' := Za.mk H
     clear H
     have hnb34 := NB306_305.out
     have hnc34 := NB305_306.out
     obtain ⟨hcz35_0, hcz35_1, hcz35_2, hfz35_0, hfz35_1, hfz35_2⟩ := cz3 BK306
     try go_wp2
     have n0_ : Za ((wc.setCell ⟨gb306, 2, none⟩ (.bool false)).heap[gb305]? = some (.cells #[.slice A0_0 l0_0.length c0_0, .slice A0_1 l0_1.length c0_1, .slice A0_2 l0_2.length c0_2, .slice A0_3 l0_3.length c0_3, .slice A0_4 l0_4.length c0_4, .slice A0_5 l0_5.length c0_5, .slice A0_6 l0_6.length c0_6] 38 (0, 0))) := ⟨by (with_reducible repeat (first | refine Zan ?_ _ | refine Zap ?_ | refine Zao ?_ _)); refine Zdp ?_ NB305_306.out _; (with_reducible repeat (first | refine Zan ?_ _ | refine Zap ?_ | refine Zao ?_ _)); exact BK305.out⟩
     have n1_ : Za ((wc.setCell ⟨gb306, 2, none⟩ (.bool false)).heap[gb306]? = some (.cells #[.int .i64 a2_0, .int .u8 a2_1, .bool false] 44 (0, 0))) := ⟨by (with_reducible repeat (first | refine Zan ?_ _ | refine Zap ?_ | refine Zao ?_ _)); refine Zeh (cs := #[.int .i64 a2_0, .int .u8 a2_1, .bool a2_2]) ?_ 2 _ rfl; (with_reducible repeat (first | refine Zan ?_ _ | refine Zap ?_ | refine Zao ?_ _)); exact BK306.out⟩
     have n2_ : Za (Below w.heap.size w (wc.setCell ⟨gb306, 2, none⟩ (.bool false))) := ⟨by repeat (first | (with_reducible first | exact HB.out | apply Zau | apply Zaj | apply Zal | refine Zai ?_ GE305.out | refine Zai ?_ GE306.out) | exact HB.out)⟩
     (try clear BK305)
     (try clear BK306)
     (try clear HB)
     generalize (wc.setCell ⟨gb306, 2, none⟩ (.bool false)) = w36 at n0_ n1_ n2_ ⊢
     have BK305 := n0_
     have BK306 := n1_
     have HB := n2_
     clear n0_ n1_ n2_
     have n0_ := Za.mk (Zap BK305.out)
     have n1_ := Za.mk (Zap BK306.out)
     have n2_ := Za.mk (Zal HB.out)
     clear BK305
     clear BK306
     clear HB
     have BK305 := n0_
     have BK306 := n1_
     have HB := n2_
     clear n0_ n1_ n2_
     refine Zek (n := 9) (S := fun w' => w'.cell? ⟨gb305, 0, none⟩ = some (.slice A0_0 l0_0.length c0_0) ∧ w'.cell? ⟨gb305, 1, none⟩ = some (.slice A0_1 l0_1.length c0_1) ∧ w'.cell? ⟨gb305, 2, none⟩ = some (.slice A0_2 l0_2.length c0_2) ∧ w'.cell? ⟨gb305, 3, none⟩ = some (.slice A0_3 l0_3.length c0_3) ∧ w'.cell? ⟨gb305, 4, none⟩ = some (.slice A0_4 l0_4.length c0_4) ∧ w'.cell? ⟨gb305, 5, none⟩ = some (.slice A0_5 l0_5.length c0_5) ∧ w'.cell? ⟨gb305, 6, none⟩ = some (.slice A0_6 l0_6.length c0_6) ∧ w'.cell? ⟨gb306, 0, none⟩ = some (.int .i64 a2_0) ∧ w'.cell? ⟨gb306, 1, none⟩ = some (.int .u8 a2_1) ∧ w'.cell? ⟨gb306, 2, none⟩ = some (.bool false)) (ds := []) u12_0 Zf rfl rfl ⟨(Zah BK305.out 0).trans rfl, (Zah BK305.out 1).trans rfl, (Zah BK305.out 2).trans rfl, (Zah BK305.out 3).trans rfl, (Zah BK305.out 4).trans rfl, (Zah BK305.out 5).trans rfl, (Zah BK305.out 6).trans rfl, (Zah BK306.out 0).trans rfl, (Zah BK306.out 1).trans rfl, (Zah BK306.out 2).trans rfl⟩ (fun hHeld => ?_); refine Zcp Zas.tab4 Zas.bits4 (fun HT_ HW_ => ?_)
     generalize w36.drew = w37 at BK305 BK306 HB hHeld ⊢
     refine Zbc (i := 1) (N := some 32) (v := ?_) (a' := ?_) u12_1 rfl rfl (Zaw HT_.out Zf) (fun _ _ _ h => h) (Or.inl ⟨by rfl, ?_⟩) ?_ ?_
     rotate_left
     ·intro w'
      go_simp
      with_reducible rfl
     rotate_left
     ·simp only [Act.put, s0_, s1_, s2_, Zax, Zay]
      rfl
     refine Zbc (i := 2) (N := some 33) (v := ?_) (a' := ?_) u12_2 rfl rfl (Zaw HT_.out Zf) (fun _ _ _ h => h) (Or.inl ⟨by rfl, ?_⟩) ?_ ?_
     rotate_left
     ·intro w'
      go_simp
      with_reducible rfl
     rotate_left
     ·simp only [Act.put, s0_, s1_, s2_, Zax, Zay]
      rfl
     refine Zbc (i := 4) (N := some 35) (v := ?_) (a' := ?_) u12_3 rfl rfl (Zaw HT_.out Zf) (fun _ _ _ h => h) (Or.inl ⟨by rfl, ?_⟩) ?_ ?_
     rotate_left
     ·intro w'
      go_simp
      with_reducible rfl
     rotate_left
     ·simp only [Act.put, s0_, s1_, s2_, Zax, Zay]
      rfl
     refine Zdh (i := 0) (N := some 31) (v := ?_) (a' := ?_) u12_4 rfl rfl (Zbt HT_.out HW_.out Zf) (fun _ _ _ h => h) (Or.inl ⟨by rfl, ?_⟩) hHeld ?_ ?_
     rotate_left
     ·rintro w' ⟨s0, s1, s2, s3, s4, s5, s6, s7, s8, s9⟩
      go_simp
      with_reducible rfl
     rotate_left
     ·simp only [Act.put, s0_, s1_, s2_, Zax, Zay]
      rfl
     refine Zdh (i := 3) (N := some 34) (v := ?_) (a' := ?_) u12_5 rfl rfl (Zbt HT_.out HW_.out Zf) (fun _ _ _ h => h) (Or.inl ⟨by rfl, ?_⟩) hHeld ?_ ?_
     rotate_left
     ·rintro w' ⟨s0, s1, s2, s3, s4, s5, s6, s7, s8, s9⟩
      go_simp
      with_reducible rfl
     rotate_left
     ·simp only [Act.put, s0_, s1_, s2_, Zax, Zay]
      rfl
     refine Zdh (i := 5) (N := some 36) (v := ?_) (a' := ?_) u12_6 rfl rfl (Zbt HT_.out HW_.out Zf) (fun _ _ _ h => h) (Or.inl ⟨by rfl, ?_⟩) hHeld ?_ ?_
     rotate_left
     ·rintro w' ⟨s0, s1, s2, s3, s4, s5, s6, s7, s8, s9⟩
      go_simp
      with_reducible rfl
     rotate_left
     ·simp only [Act.put, s0_, s1_, s2_, Zax, Zay]
      rfl
     refine one_ (i := 6) (N := some 37) u12_7 rfl rfl (Zda HT_.out Zf) (by decide) (fun K hK => ?_)
     refine goes_ Try.func50 Zf rfl #[.agg #[.slice A0_0 l0_0.length c0_0, .slice A0_1 l0_1.length c0_1, .slice A0_2 l0_2.length c0_2, .slice A0_3 l0_3.length c0_3, .slice A0_4 l0_4.length c0_4, .slice A0_5 l0_5.length c0_5, .slice A0_6 l0_6.length c0_6], .slice A1 l1.length c1, .agg #[.int .i64 a2_0, .int .u8 a2_1, .bool false], .slice none 0 0, .bool false] (by rfl) rfl rfl t12_3 ?_
     refine (Zae.calls kj4 _ _ l0_0 _ _ l0_1 _ _ l0_2 _ _ l0_3 _ _ l0_4 _ _ l0_5 _ _ l0_6 _ _ l1 a2_0 a2_1 false _ _ ([] : List (S44)) false t308 _ ?side1 ?side2 ?side3 ?side4 ?side5 ?side6 ?side7 ?side8 ?side9 ?side10 ?side11 ?side12 ?side13 ?side14 ?side15 ?side16 ?side17 ?side18 A18.out).mono ?_
     (case side1 => exact CD ((Kd.Zav HR0_0.out HB.out)))
     (case side2 => exact HC0_0.out)
     (case side3 => exact CD ((Kd.Zav HR0_1.out HB.out)))
     (case side4 => exact HC0_1.out)
     (case side5 => exact CD ((Kd.Zav HR0_2.out HB.out)))
     (case side6 => exact HC0_2.out)
     (case side7 => exact CD ((Kd.Zav HR0_3.out HB.out)))
     (case side8 => exact HC0_3.out)
     (case side9 => exact CD ((Kd.Zav HR0_4.out HB.out)))
     (case side10 => exact HC0_4.out)
     (case side11 => exact CD ((Kd.Zav HR0_5.out HB.out)))
     (case side12 => exact HC0_5.out)
     (case side13 => exact CD ((Kd.Zav HR0_6.out HB.out)))
     (case side14 => exact HC0_6.out)
     (case side15 => exact CD ((Kd.Zav HR1.out HB.out)))
     (case side16 => exact HC1.out)
     (case side17 => exact Kd.C_nil _ _)
     (case side18 => exact Nat.le_refl _)
     rintro e w38 ⟨v309, rfl, ho0, hb⟩
     refine ⟨_, rfl, ?_⟩
     have n0_ := Za.mk (Kd.Zdk (Kd.R_newB ho0 (g := gb306) (o := .cells #[.int .i64 a2_0, .int .u8 a2_1, .bool false] 44 (0, 0)) (KB BK306)) (Zat t12_0))
     have n1_ := Za.mk (Zam (KB BK305) hb)
     have n2_ := Za.mk (Zam (KB BK306) hb)
     have n3_ := Za.mk (Zbb t12_0 hb)
     clear BK305
     clear BK306
     clear HB
     have HO310 := n0_
     have BK305 := n1_
     have BK306 := n2_
     have HB := n3_
     clear n0_ n1_ n2_ n3_
     (try clear hb)
     (try clear hb2)
     (try clear hk)
     (try clear hi)
     (try clear ho0)
     obtain ⟨Ao39, co39, eo39⟩ := Kd.Zbp HO310.out
     (first | subst eo39 | (injection eo39 with f1_ f2_ f3_; have f4_ := f1_.symm; have f5_ := f3_.symm; clear f1_ f2_ f3_; subst f4_; subst f5_))
     refine hK.out _ _ ⟨(Zah BK305.out 0).trans rfl, (Zah BK305.out 1).trans rfl, (Zah BK305.out 2).trans rfl, (Zah BK305.out 3).trans rfl, (Zah BK305.out 4).trans rfl, (Zah BK305.out 5).trans rfl, (Zah BK305.out 6).trans rfl, (Zah BK306.out 0).trans rfl, (Zah BK306.out 1).trans rfl, (Zah BK306.out 2).trans rfl⟩ (fun hHeld => ?_)
     clear hK K
     refine Zem (a' := ?_) ?_ ?_
     rotate_left
     ·show Act.put _ (some 37) _ = _
      simp only [Act.put, s0_, s1_, s2_, Zax, Zay]
      rfl
     refine one_ (i := 7) (N := some 38) u12_8 rfl rfl (Zda HT_.out Zf) (by decide) (fun K hK => ?_)
     refine goes_ Try.func27 Zf rfl #[.agg #[.slice A0_0 l0_0.length c0_0, .slice A0_1 l0_1.length c0_1, .slice A0_2 l0_2.length c0_2, .slice A0_3 l0_3.length c0_3, .slice A0_4 l0_4.length c0_4, .slice A0_5 l0_5.length c0_5, .slice A0_6 l0_6.length c0_6], .slice A1 l1.length c1, .slice A3 l3.length c3, .slice Ao39 t308.length co39] (by rfl) rfl rfl t12_3 ?_
     with_reducible refine (Zac.calls kj4 _ _ l0_0 _ _ l0_1 _ _ l0_2 _ _ l0_3 _ _ l0_4 _ _ l0_5 _ _ l0_6 _ _ l1 _ _ l3 _ _ t308 t311 _ ?side1 ?side2 ?side3 ?side4 ?side5 ?side6 ?side7 ?side8 ?side9 ?side10 ?side11 ?side12 ?side13 ?side14 ?side15 ?side16 ?side17 ?side18 ?side19 ?side20 A19.out).mono ?_
     (case side1 => exact CD ((Kd.Zav HR0_0.out HB.out)))
     (case side2 => exact HC0_0.out)
     (case side3 => exact CD ((Kd.Zav HR0_1.out HB.out)))
     (case side4 => exact HC0_1.out)
     (case side5 => exact CD ((Kd.Zav HR0_2.out HB.out)))
     (case side6 => exact HC0_2.out)
     (case side7 => exact CD ((Kd.Zav HR0_3.out HB.out)))
     (case side8 => exact HC0_3.out)
     (case side9 => exact CD ((Kd.Zav HR0_4.out HB.out)))
     (case side10 => exact HC0_4.out)
     (case side11 => exact CD ((Kd.Zav HR0_5.out HB.out)))
     (case side12 => exact HC0_5.out)
     (case side13 => exact CD ((Kd.Zav HR0_6.out HB.out)))
     (case side14 => exact HC0_6.out)
     (case side15 => exact CD ((Kd.Zav HR1.out HB.out)))
     (case side16 => exact HC1.out)
     (case side17 => exact CD ((Kd.Zav HR3.out HB.out)))
     (case side18 => exact HC3.out)
     (case side19 => exact CD ((Kd.Zb HO310.out).2.2))
     (case side20 => exact (Kd.Zb HO310.out).2.1)
     rintro e w40 ⟨v312, rfl, ho0, hb⟩
     refine ⟨_, rfl, ?_⟩
     have n0_ := RE HO310 hb (Kd.Zbx ho0)
     have n1_ := Za.mk (Kd.Zdk (Kd.R_newB (Kd.Zec ho0 (Kd.R_lt (RD HO310))) (g := gb306) (o := .cells #[.int .i64 a2_0, .int .u8 a2_1, .bool false] 44 (0, 0)) (KB BK306)) (Zat t12_0))
     have n2_ := Za.mk (Zam (KB BK305) hb)
     have n3_ := Za.mk (Zam (KB BK306) hb)
     have n4_ := Za.mk (Zbb t12_0 hb)
     clear HO310
     clear BK305
     clear BK306
     clear HB
     have HO310 := n0_
     have HO313 := n1_
     have BK305 := n2_
     have BK306 := n3_
     have HB := n4_
     clear n0_ n1_ n2_ n3_ n4_
     (try clear hb)
     (try clear hb2)
     (try clear hk)
     (try clear hi)
     (try clear ho0)
     refine hK.out _ _ ⟨(Zah BK305.out 0).trans rfl, (Zah BK305.out 1).trans rfl, (Zah BK305.out 2).trans rfl, (Zah BK305.out 3).trans rfl, (Zah BK305.out 4).trans rfl, (Zah BK305.out 5).trans rfl, (Zah BK305.out 6).trans rfl, (Zah BK306.out 0).trans rfl, (Zah BK306.out 1).trans rfl, (Zah BK306.out 2).trans rfl⟩ (fun hHeld => ?_)
     clear hK K
     refine Zem (a' := ?_) ?_ ?_
     rotate_left
     ·show Act.put _ (some 38) _ = _
      simp only [Act.put, s0_, s1_, s2_, Zax, Zay]
      rfl
     refine Zbc (i := 8) (N := some 10) (v := ?_) (a' := ?_) u12_9 rfl rfl (Zaw HT_.out Zf) (fun _ _ _ h => h) (Or.inl ⟨by rfl, ?_⟩) ?_ ?_
     rotate_left
     ·intro w'
      go_simp
      with_reducible rfl
     rotate_left
     ·simp only [Act.put, s0_, s1_, s2_, Zax, Zay]
      rfl
     refine done_ (Zdj HT_.out Zf) ?_
     obtain ⟨hcz41_0, hcz41_1, hcz41_2, hfz41_0, hfz41_1, hfz41_2⟩ := cz3 BK306
     obtain ⟨Ao42, co42, eo42⟩ := Kd.Zbp HO313.out
     subst eo42
     try go_wp2_with (first | ((with_reducible refine Zbl (f := 21) rfl ?_); refine Zcx (some 41) rfl rfl Try.func21 Zf rfl #[.slice Ao42 t311.length co42, .agg #[.int .i64 a2_0, .int .u8 a2_1, .bool false]] rfl t12_3 ?_; (with_reducible refine (Zak.calls kj4 _ _ t311 a2_0 a2_1 false t314 _ ?side1 ?side2 A20.out).mono ?_); (case side1 => exact CD ((Kd.Zb HO313.out).2.2)); (case side2 => exact (Kd.Zb HO313.out).2.1); rintro e w43 ⟨rfl, hb⟩; refine ⟨_, rfl, ?_⟩; have n0_ := RB HO310 hb; have n1_ := RB HO313 hb; have n2_ := Za.mk (Zam (KB BK305) hb); have n3_ := Za.mk (Zam (KB BK306) hb); have n4_ := Za.mk (Zbb t12_0 hb); clear HO310; clear HO313; clear BK305; clear BK306; clear HB; have HO310 := n0_; have HO313 := n1_; have BK305 := n2_; have BK306 := n3_; have HB := n4_; clear n0_ n1_ n2_ n3_ n4_; (try clear hb); (try clear hb2); (try clear hk); (try clear hi); obtain ⟨hcz44_0, hcz44_1, hcz44_2, hcz44_3, hcz44_4, hcz44_5, hcz44_6, hfz44_0, hfz44_1, hfz44_2, hfz44_3, hfz44_4, hfz44_5, hfz44_6⟩ := cz7 BK305; obtain ⟨hcz45_0, hcz45_1, hcz45_2, hfz45_0, hfz45_1, hfz45_2⟩ := cz3 BK306) | ((with_reducible refine Zbl (f := 50) rfl ?_); refine Zcx (some 47) rfl rfl Try.func50 Zf rfl #[.agg #[.slice A0_0 l0_0.length c0_0, .slice A0_1 l0_1.length c0_1, .slice A0_2 l0_2.length c0_2, .slice A0_3 l0_3.length c0_3, .slice A0_4 l0_4.length c0_4, .slice A0_5 l0_5.length c0_5, .slice A0_6 l0_6.length c0_6], .slice A1 l1.length c1, .agg #[.int .i64 a2_0, .int .u8 a2_1, .bool false], .slice Ao42 t311.length co42, .bool false] rfl t12_3 ?_; (with_reducible refine (Zae.calls kj4 _ _ l0_0 _ _ l0_1 _ _ l0_2 _ _ l0_3 _ _ l0_4 _ _ l0_5 _ _ l0_6 _ _ l1 a2_0 a2_1 false _ _ t311 false t315 _ ?side1 ?side2 ?side3 ?side4 ?side5 ?side6 ?side7 ?side8 ?side9 ?side10 ?side11 ?side12 ?side13 ?side14 ?side15 ?side16 ?side17 ?side18 A32.out).mono ?_); (case side1 => exact CD ((Kd.Zav HR0_0.out HB.out))); (case side2 => exact HC0_0.out); (case side3 => exact CD ((Kd.Zav HR0_1.out HB.out))); (case side4 => exact HC0_1.out); (case side5 => exact CD ((Kd.Zav HR0_2.out HB.out))); (case side6 => exact HC0_2.out); (case side7 => exact CD ((Kd.Zav HR0_3.out HB.out))); (case side8 => exact HC0_3.out); (case side9 => exact CD ((Kd.Zav HR0_4.out HB.out))); (case side10 => exact HC0_4.out); (case side11 => exact CD ((Kd.Zav HR0_5.out HB.out))); (case side12 => exact HC0_5.out); (case side13 => exact CD ((Kd.Zav HR0_6.out HB.out))); (case side14 => exact HC0_6.out); (case side15 => exact CD ((Kd.Zav HR1.out HB.out))); (case side16 => exact HC1.out); (case side17 => exact CD ((Kd.Zb HO313.out).2.2)); (case side18 => exact (Kd.Zb HO313.out).2.1); rintro e w46 ⟨v316, rfl, ho0, hb⟩; refine ⟨_, rfl, ?_⟩; have n0_ := RE HO310 hb (Kd.Zbx ho0); have n1_ := RE HO313 hb (Kd.Zbx ho0); have n2_ := Za.mk (Kd.Zdk (Kd.R_newB (Kd.Zec (Kd.Zec ho0 (Kd.R_lt (RD HO310))) (Kd.R_lt (RD HO313))) (g := gb306) (o := .cells #[.int .i64 a2_0, .int .u8 a2_1, .bool false] 44 (0, 0)) (KB BK306)) (Zat t12_0)); have n3_ := Za.mk (Zam (KB BK305) hb); have n4_ := Za.mk (Zam (KB BK306) hb); have n5_ := Za.mk (Zbb t12_0 hb); clear HO310; clear HO313; clear BK305; clear BK306; clear HB; have HO310 := n0_; have HO313 := n1_; have HO317 := n2_; have BK305 := n3_; have BK306 := n4_; have HB := n5_; clear n0_ n1_ n2_ n3_ n4_ n5_; (try clear hb); (try clear hb2); (try clear hk); (try clear hi); (try clear ho0); obtain ⟨hcz47_0, hcz47_1, hcz47_2, hcz47_3, hcz47_4, hcz47_5, hcz47_6, hfz47_0, hfz47_1, hfz47_2, hfz47_3, hfz47_4, hfz47_5, hfz47_6⟩ := cz7 BK305; obtain ⟨hcz48_0, hcz48_1, hcz48_2, hfz48_0, hfz48_1, hfz48_2⟩ := cz3 BK306) | ((with_reducible refine Zbl (f := 50) rfl ?_); refine Zcx (some 52) rfl rfl Try.func50 Zf rfl #[.agg #[.slice A0_0 l0_0.length c0_0, .slice A0_1 l0_1.length c0_1, .slice A0_2 l0_2.length c0_2, .slice A0_3 l0_3.length c0_3, .slice A0_4 l0_4.length c0_4, .slice A0_5 l0_5.length c0_5, .slice A0_6 l0_6.length c0_6], .slice A1 l1.length c1, .agg #[.int .i64 a2_0, .int .u8 a2_1, .bool false], .slice Ao42 t311.length co42, .bool true] rfl t12_3 ?_; (with_reducible refine (Zae.calls kj4 _ _ l0_0 _ _ l0_1 _ _ l0_2 _ _ l0_3 _ _ l0_4 _ _ l0_5 _ _ l0_6 _ _ l1 a2_0 a2_1 false _ _ t311 true t318 _ ?side1 ?side2 ?side3 ?side4 ?side5 ?side6 ?side7 ?side8 ?side9 ?side10 ?side11 ?side12 ?side13 ?side14 ?side15 ?side16 ?side17 ?side18 A33.out).mono ?_); (case side1 => exact CD ((Kd.Zav HR0_0.out HB.out))); (case side2 => exact HC0_0.out); (case side3 => exact CD ((Kd.Zav HR0_1.out HB.out))); (case side4 => exact HC0_1.out); (case side5 => exact CD ((Kd.Zav HR0_2.out HB.out))); (case side6 => exact HC0_2.out); (case side7 => exact CD ((Kd.Zav HR0_3.out HB.out))); (case side8 => exact HC0_3.out); (case side9 => exact CD ((Kd.Zav HR0_4.out HB.out))); (case side10 => exact HC0_4.out); (case side11 => exact CD ((Kd.Zav HR0_5.out HB.out))); (case side12 => exact HC0_5.out); (case side13 => exact CD ((Kd.Zav HR0_6.out HB.out))); (case side14 => exact HC0_6.out); (case side15 => exact CD ((Kd.Zav HR1.out HB.out))); (case side16 => exact HC1.out); (case side17 => exact CD ((Kd.Zb HO313.out).2.2)); (case side18 => exact (Kd.Zb HO313.out).2.1); rintro e w49 ⟨v319, rfl, ho0, hb⟩; refine ⟨_, rfl, ?_⟩; have n0_ := RE HO310 hb (Kd.Zbx ho0); have n1_ := RE HO313 hb (Kd.Zbx ho0); have n2_ := RE HO317 hb (Kd.Zbx ho0); have n3_ := Za.mk (Kd.Zdk (Kd.R_newB (Kd.Zec (Kd.Zec (Kd.Zec ho0 (Kd.R_lt (RD HO310))) (Kd.R_lt (RD HO313))) (Kd.R_lt (RD HO317))) (g := gb306) (o := .cells #[.int .i64 a2_0, .int .u8 a2_1, .bool false] 44 (0, 0)) (KB BK306)) (Zat t12_0)); have n4_ := Za.mk (Zam (KB BK305) hb); have n5_ := Za.mk (Zam (KB BK306) hb); have n6_ := Za.mk (Zbb t12_0 hb); clear HO310; clear HO313; clear HO317; clear BK305; clear BK306; clear HB; have HO310 := n0_; have HO313 := n1_; have HO317 := n2_; have HO320 := n3_; have BK305 := n4_; have BK306 := n5_; have HB := n6_; clear n0_ n1_ n2_ n3_ n4_ n5_ n6_; (try clear hb); (try clear hb2); (try clear hk); (try clear hi); (try clear ho0)))
     go_loopg [13] kj4 (fun kq v13 w' => ∃ (x11_2 : List (S44)) (x13_2 : Int) (x307002_2 : Bool), v13 = .int .i64 x13_2 ∧ Za (Zas.l0 kq x11_2 t318 x13_2 = some (r1, r2)) ∧ Za (kq ≤ kj4) ∧ Za (Kd.R k44 44 w' w.heap.size (fun k_ => some k_ ≠ (v319 : Value).ownBlock ∧ k_ ≠ gb306) v316 x11_2) ∧ Za (Kd.R k44 44 w' w.heap.size (fun k_ => some k_ ≠ (v316 : Value).ownBlock ∧ k_ ≠ gb306) v319 t318) ∧ Za (w'.heap[gb305]? = some (.cells #[(.slice A0_0 l0_0.length c0_0), (.slice A0_1 l0_1.length c0_1), (.slice A0_2 l0_2.length c0_2), (.slice A0_3 l0_3.length c0_3), (.slice A0_4 l0_4.length c0_4), (.slice A0_5 l0_5.length c0_5), (.slice A0_6 l0_6.length c0_6)] 38 (0, 0))) ∧ Za (w'.heap[gb306]? = some (.cells #[.int .i64 a2_0, .int .u8 a2_1, .bool x307002_2] 44 (0, 0))) ∧ Za (Below w.heap.size w w'))
     case atStart => exact ⟨(t315), (0), (false), t12_5, H', ⟨Nat.le_refl _⟩, ⟨by (with_reducible repeat (first | apply Kd.Zcm | apply Kd.Zcl | apply Kd.Zbw)); exact Kd.Zbv HO317.out (fun _ hk => ⟨hk.2, hk.1.2⟩)⟩, ⟨by (with_reducible repeat (first | apply Kd.Zcm | apply Kd.Zcl | apply Kd.Zbw)); exact Kd.Zbv HO320.out (fun _ hk => ⟨hk.1.2, hk.2⟩)⟩, ⟨by (with_reducible repeat (first | refine Zan ?_ _ | refine Zap ?_ | refine Zao ?_ _)); exact BK305.out⟩, ⟨by (with_reducible repeat (first | refine Zan ?_ _ | refine Zap ?_ | refine Zao ?_ _)); exact BK306.out⟩, ⟨by repeat (first | (with_reducible first | exact HB.out | apply Zau | apply Zaj | apply Zal | refine Zai ?_ GE305.out | refine Zai ?_ GE306.out) | exact HB.out)⟩⟩
     case round =>
      clear H'
      try clear c1
      try clear c2
      try clear p2
      try clear c3
      try clear c5
      try clear c8
      try clear c8b0
      try clear c9
      try clear c11
      try clear c11b0
      try clear c12
      try clear c15
      try clear c16
      try clear c17
      try clear c21
      try clear c21b0
      try clear c22
      try clear c27
      try clear c34
      try clear hcz10_0
      try clear hcz10_1
      try clear hcz10_2
      try clear hcz13_0
      try clear hcz13_1
      try clear hcz13_2
      try clear hcz16_0
      try clear hcz16_1
      try clear hcz16_2
      try clear hcz23_0
      try clear hcz23_1
      try clear hcz23_2
      try clear hcz29_0
      try clear hcz29_1
      try clear hcz29_2
      try clear hcz35_0
      try clear hcz35_1
      try clear hcz35_2
      try clear hcz41_0
      try clear hcz41_1
      try clear hcz41_2
      try clear hcz44_0
      try clear hcz44_1
      try clear hcz44_2
      try clear hcz44_3
      try clear hcz44_4
      try clear hcz44_5
      try clear hcz44_6
      try clear hcz45_0
      try clear hcz45_1
      try clear hcz45_2
      try clear hcz47_0
      try clear hcz47_1
      try clear hcz47_2
      try clear hcz47_3
      try clear hcz47_4
      try clear hcz47_5
      try clear hcz47_6
      try clear hcz48_0
      try clear hcz48_1
      try clear hcz48_2
      try clear hfz10_0
      try clear hfz10_1
      try clear hfz10_2
      try clear hfz13_0
      try clear hfz13_1
      try clear hfz13_2
      try clear hfz16_0
      try clear hfz16_1
      try clear hfz16_2
      try clear hfz23_0
      try clear hfz23_1
      try clear hfz23_2
      try clear hfz29_0
      try clear hfz29_1
      try clear hfz29_2
      try clear hfz35_0
      try clear hfz35_1
      try clear hfz35_2
      try clear hfz41_0
      try clear hfz41_1
      try clear hfz41_2
      try clear hfz44_0
      try clear hfz44_1
      try clear hfz44_2
      try clear hfz44_3
      try clear hfz44_4
      try clear hfz44_5
      try clear hfz44_6
      try clear hfz45_0
      try clear hfz45_1
      try clear hfz45_2
      try clear hfz47_0
      try clear hfz47_1
      try clear hfz47_2
      try clear hfz47_3
      try clear hfz47_4
      try clear hfz47_5
      try clear hfz47_6
      try clear hfz48_0
      try clear hfz48_1
      try clear hfz48_2
      try clear p2
      obtain ⟨x11_2, x13_2, x307002_2, rfl, HA, HK2, HO_11, HO_12, BK305, BK306, HB⟩ := hrel
      cases gk with
      | zero => exact absurd HA.out (by simp [Zas.l0])
      | succ k2 =>
       have H := HA.out
       clear HA
       simp only [Zas.l0] at H
       by_cases c50 : x13_2 < (x11_2.length : Int)
       case neg =>
        rw [if_neg c50] at H
        have c50b0 : decide (x13_2 < (x11_2.length : Int)) = false := decide_eq_false c50
        clear c50
        replace H := Option.bind_eq_some_iff.mp H
        obtain ⟨t324, A590, H⟩ := H
        try dsimp only at H
        have A59 := Za.mk A590
        clear A590
        simp only [Option.some.injEq, Prod.mk.injEq] at H
        obtain ⟨rfl, rfl⟩ := H
        obtain ⟨Ao60, co60, eo60⟩ := Kd.Zbp HO_11.out
        subst eo60
        go_wp2_with (first | ((with_reducible refine Zbl (f := 51) rfl ?_); refine Zcx (some 71) rfl rfl Try.func51 Zf rfl #[.slice Ao60 x11_2.length co60] rfl t12_3 ?_; (with_reducible refine (Zab.calls k2 _ _ x11_2 t324 _ ?side1 ?side2 A59.out).mono ?_); (case side1 => exact CD ((Kd.Zb HO_11.out).2.2)); (case side2 => exact (Kd.Zb HO_11.out).2.1); rintro e w61 ⟨v325, rfl, ho0, hb⟩; refine ⟨_, rfl, ?_⟩; have n0_ := RE HO_11 hb (Kd.Zbx ho0); have n1_ := RE HO_12 hb (Kd.Zbx ho0); have n2_ := Za.mk (Kd.Zdk (Kd.R_newB (Kd.Zec (Kd.Zec ho0 (Kd.R_lt (RD HO_11))) (Kd.R_lt (RD HO_12))) (g := gb306) (o := .cells #[.int .i64 a2_0, .int .u8 a2_1, .bool x307002_2] 44 (0, 0)) (KB BK306)) (Zat t12_0)); have n3_ := Za.mk (Zam (KB BK305) hb); have n4_ := Za.mk (Zam (KB BK306) hb); have n5_ := Za.mk (Zbb t12_0 hb); clear HO_11; clear HO_12; clear BK305; clear BK306; clear HB; have HO_11 := n0_; have HO_12 := n1_; have HO326 := n2_; have BK305 := n3_; have BK306 := n4_; have HB := n5_; clear n0_ n1_ n2_ n3_ n4_ n5_; (try clear hb); (try clear hb2); (try clear hk); (try clear hi); (try clear ho0)))
        go_ret2
        exact ⟨_, by first | rfl | (simp [Zbe, Zbd] <;> rfl) | (simp [*, Zbe, Zbd] <;> rfl), by (with_reducible repeat (first | apply Kd.Zcm | apply Kd.Zcl | apply Kd.Zbw)); exact Kd.Zbv HO326.out (fun _ hk => trivial), by repeat (first | (with_reducible first | exact HB.out | apply Zau | apply Zaj | apply Zal | refine Zai ?_ GE305.out | refine Zai ?_ GE306.out) | exact HB.out)⟩
       rw [if_pos c50] at H
       have c50b0 : decide (x13_2 < (x11_2.length : Int)) = true := decide_eq_true c50
       clear c50
       by_cases c51 : 0 ≤ x13_2
       case neg =>
        rw [if_neg c51] at H
        exact absurd H (by simp)
       rw [if_pos c51] at H
       have c51b0 : decide (0 ≤ x13_2) = true := decide_eq_true c51
       clear c51
       replace H := Option.bind_eq_some_iff.mp H
       obtain ⟨t322, A520, H⟩ := H
       try dsimp only at H
       have A52 := Za.mk A520
       clear A520
       obtain ⟨y323, hy323⟩ : ∃ y_ : List (S44), y_ = (x11_2.set (x13_2 : Int).toNat (⟨(Zaf x11_2 x13_2).f0, (Zaf x11_2 x13_2).f1, decide (t322 ≥ 0)⟩ : S44)) := ⟨_, rfl⟩
       replace H : (Zas.l0 k2 y323 t318 (wrap64 (x13_2 + 1))) = some (r1, r2) := by first | (rw [hy323]; with_reducible exact H) | (have H2_ := (Option.bind_some _ _).symm.trans H; rw [hy323]; with_reducible exact H2_) | (have H2_ := (Option.bind_some _ _).symm.trans H; with_reducible exact H2_) | with_reducible exact H | (rw [hy323]; exact H) | exact H
       have Ny323 := Za.mk hy323
       clear hy323
       have H' := Za.mk H
       clear H
       obtain ⟨Ao54, co54, eo54⟩ := Kd.Zbp HO_11.out
       subst eo54
       have p321 : 0 ≤ (x13_2 : Int) := of_decide_eq_true t12_4
       have q321 : x13_2 < (x11_2.length : Int) := of_decide_eq_true t12_4
       obtain ⟨ad321, e321, hx321_0, hx321_1, hx321_2⟩ := Zc (Kd.Zb HO_11.out).2.2 x13_2 p321 q321
       cases e321
       replace p321 := eq_true p321
       replace q321 := eq_true q321
       obtain ⟨Ao55, co55, eo55⟩ := Kd.Zbp HO_12.out
       subst eo55
       go_wp2_with (first | ((with_reducible refine Zbl (f := 21) rfl ?_); refine Zcx (some 66) rfl rfl Try.func21 Zf rfl #[.slice Ao55 t318.length co55, .agg #[.int .i64 ((Zaf x11_2 x13_2).f0), .int .u8 ((Zaf x11_2 x13_2).f1), .bool ((Zaf x11_2 x13_2).f2)]] rfl t12_3 ?_; (with_reducible refine (Zak.calls k2 _ _ t318 ((Zaf x11_2 x13_2).f0) ((Zaf x11_2 x13_2).f1) ((Zaf x11_2 x13_2).f2) t322 _ ?side1 ?side2 A52.out).mono ?_); (case side1 => exact CD ((Kd.Zb HO_12.out).2.2)); (case side2 => exact (Kd.Zb HO_12.out).2.1); rintro e w56 ⟨rfl, hb⟩; refine ⟨_, rfl, ?_⟩; have n0_ := RB HO_11 hb; have n1_ := RB HO_12 hb; have n2_ := Za.mk (Zam (KB BK305) hb); have n3_ := Za.mk (Zam (KB BK306) hb); have n4_ := Za.mk (Zbb t12_0 hb); clear HO_11; clear HO_12; clear BK305; clear BK306; clear HB; have HO_11 := n0_; have HO_12 := n1_; have BK305 := n2_; have BK306 := n3_; have HB := n4_; clear n0_ n1_ n2_ n3_ n4_; (try clear hb); (try clear hb2); (try clear hk); (try clear hi); have p53 : 0 ≤ (x13_2 : Int) := of_decide_eq_true t12_4; have q53 : (x13_2 : Int) < ((x11_2.length : Int) : Int) := of_decide_eq_true t12_4; obtain ⟨go53, co53, eo53, gb53, gl53, cl53, HG53⟩ := Kd.R_form HO_11.out (by omega); (first | cases eo53 | (injection eo53 with ea_ en_ ec_; (first | subst ea_ | (injection ea_ with ea_; subst ea_)); subst ec_; clear en_)); have GB53 := Za.mk gb53; have GG53 := Za.mk HG53; clear gb53 gl53 HG53; (first | simp only [add_plain] at hx321_0 | skip); (first | simp only [add_plain] at hx321_1 | skip); (first | simp only [add_plain] at hx321_2 | skip); obtain ⟨ce53, hcl53, hM53, hcc53, hfr53⟩ := Kd.R_elem HO_11.out z44 (x13_2 : Int) p53 q53; obtain rfl := k44_openM hM53; have hx53_0 : w56.cell? ⟨go53, (x13_2 : Int).toNat * 3, none⟩ = some (.int .i64 ((Zaf x11_2 x13_2).f0)) := hcc53 0 _ rfl; have hx53_1 : w56.cell? ⟨go53, (x13_2 : Int).toNat * 3 + 1, none⟩ = some (.int .u8 ((Zaf x11_2 x13_2).f1)) := hcc53 1 _ rfl; have hx53_2 : w56.cell? ⟨go53, (x13_2 : Int).toNat * 3 + 2, none⟩ = some (.bool ((Zaf x11_2 x13_2).f2)) := hcc53 2 _ rfl; have hf53_0 : w56.frozen? ⟨go53, (x13_2 : Int).toNat * 3, none⟩ = false := hfr53 0; have hf53_1 : w56.frozen? ⟨go53, (x13_2 : Int).toNat * 3 + 1, none⟩ = false := hfr53 1; have hf53_2 : w56.frozen? ⟨go53, (x13_2 : Int).toNat * 3 + 2, none⟩ = false := hfr53 2; clear hcl53 hcc53 hfr53 hM53; replace p53 := eq_true p53; replace q53 := eq_true q53; have HX57 := Za.mk (show Kd.R k44 44 w56 w.heap.size (fun k_ => some k_ ≠ (.slice Ao55 t318.length co55 : Value).ownBlock ∧ k_ ≠ gb306) (.slice (some ⟨go53, 0, none⟩) x11_2.length co54) x11_2 from (RD HO_11)); obtain ⟨ce57, hcl57, hM57, hcc57, hfr57⟩ := Kd.R_elem HX57.out z44 (x13_2 : Int) (of_decide_eq_true t12_4) (by have h_ : (x13_2 : Int) < ((x11_2.length : Int) : Int) := of_decide_eq_true t12_4; first | exact h_ | (have e_ := (Kd.Zb HO_11.out).1; omega) | simpa using h_); obtain rfl := k44_openM hM57; have HP57 := Kd.R_seg HX57.out (x13_2 : Int) (of_decide_eq_true t12_4) (by have h_ : (x13_2 : Int) < ((x11_2.length : Int) : Int) := of_decide_eq_true t12_4; first | exact h_ | (have e_ := (Kd.Zb HO_11.out).1; omega) | simpa using h_) (seg := [.bool (decide (t322 ≥ 0))]) (j := 2) hcl57 hcc57 (show 3 ≤ 3 from by decide) (x' := (⟨(Zaf x11_2 x13_2).f0, (Zaf x11_2 x13_2).f1, decide (t322 ≥ 0)⟩ : S44)) (k44_mkM _ _ _ (⟨(Zaf x11_2 x13_2).f0, (Zaf x11_2 x13_2).f1, decide (t322 ≥ 0)⟩ : S44) ) (fun _ hk => hk); have hx57_2 := hcc57 2 _ rfl; (try simp only [show (k44).sz = 3 from rfl, Nat.mul_one, Nat.add_zero] at hx57_2); have hf57_2 := hfr57 2; (try simp only [show (k44).sz = 3 from rfl, Nat.mul_one, Nat.add_zero] at hf57_2); clear hcl57 hcc57 hfr57 hM57) | ((with_reducible refine gate_store (t := 4) (p := 69) rfl ?_); refine store_event (t := 4) (p := 69) (v := ?vo_w58) (w1 := (w56.setCell ⟨go53, (x13_2 : Int).toNat * 3 + 2, none⟩ (.bool (decide (t322 ≥ 0))))) ?hg ?ho ?hn ?hr ?_; (case ho => rfl); (case hg => rfl); (case hn => rfl); (case hr => first | (go_simp; done) | (go_simp; rfl)); intro w58 hw; have hg : w56.grownBy w58 (some go53) := (by rw [hw]; exact HP57.2); have hp_ : Kd.R k44 44 w58 w.heap.size (fun k_ => some k_ ≠ (.slice Ao55 t318.length co55 : Value).ownBlock ∧ k_ ≠ gb306) (.slice (some ⟨go53, 0, none⟩) x11_2.length co54) y323 := (by rw [hw, Ny323.out]; exact HP57.1); clear HP57; have n0_ := Za.mk (hp_); have n1_ := Za.mk (Kd.Zfi (v := (.slice (some ⟨go53, 0, none⟩) x11_2.length co54)) (v1 := (.slice (some ⟨go53, 0, none⟩) x11_2.length co54)) (ok := (fun k_ => k_ ≠ gb306)) (by (with_reducible repeat (first | apply Kd.Zcm | apply Kd.Zcl | apply Kd.Zbw)); exact Kd.Zbv HO_12.out (fun _ hk => ⟨hk.2, hk.1⟩)) hg (.inl rfl)); have n2_ := Za.mk (Zde (g := gb305) (o := .cells #[.slice A0_0 l0_0.length c0_0, .slice A0_1 l0_1.length c0_1, .slice A0_2 l0_2.length c0_2, .slice A0_3 l0_3.length c0_3, .slice A0_4 l0_4.length c0_4, .slice A0_5 l0_5.length c0_5, .slice A0_6 l0_6.length c0_6] 38 (0, 0)) (KB BK305) hg ((by first | exact Kd.R_ne HO_11.out BK305.out (by decide) | (intro h_; have h2_ := HO_11.out.1 _ h_.symm; simp at h2_)))); have n3_ := Za.mk (Zde (g := gb306) (o := .cells #[.int .i64 a2_0, .int .u8 a2_1, .bool x307002_2] 44 (0, 0)) (KB BK306) hg (Kd.R_away HO_11.out (fun _ hk => hk.2))); have n4_ := Za.mk ((by rw [hw]; exact Zai (HB.out) GB53.out : Below w.heap.size w w58)); clear HO_11; clear HO_12; clear BK305; clear BK306; clear HB; have HO_11 := n0_; have HO_12 := n1_; have BK305 := n2_; have BK306 := n3_; have HB := n4_; clear n0_ n1_ n2_ n3_ n4_; clear hg hw hp_))
       go_roundg k2
       case measure => have := HJ4.out; have := HK2.out; omega
       case rel => exact ⟨(y323), (wrap64 (x13_2 + 1)), (x307002_2), t12_5, H', ⟨by have := HJ4.out; have := HK2.out; omega⟩, ⟨RD HO_11⟩, ⟨by (with_reducible repeat (first | apply Kd.Zcm | apply Kd.Zcl | apply Kd.Zbw)); exact Kd.Zbv HO_12.out (fun _ hk => ⟨hk.2, hk.1⟩)⟩, ⟨by (with_reducible repeat (first | refine Zan ?_ _ | refine Zap ?_ | refine Zao ?_ _)); exact BK305.out⟩, ⟨by (with_reducible repeat (first | refine Zan ?_ _ | refine Zap ?_ | refine Zao ?_ _)); exact BK306.out⟩, ⟨by repeat (first | (with_reducible first | exact HB.out | apply Zau | apply Zaj | apply Zal | refine Zai ?_ GE305.out | refine Zai ?_ GE306.out) | exact HB.out)⟩⟩
    rw [if_pos c21] at H
    have c21b0 : decide (0 ≤ t314) = true := decide_eq_true c21
    clear c21
    simp only [Option.some.injEq, Prod.mk.injEq] at H
    obtain ⟨rfl, rfl⟩ := H
    have hnb22 := NB306_305.out
    have hnc22 := NB305_306.out
    obtain ⟨hcz23_0, hcz23_1, hcz23_2, hfz23_0, hfz23_1, hfz23_2⟩ := cz3 BK306
    try go_wp2
    have n0_ : Za ((wc.setCell ⟨gb306, 2, none⟩ (.bool false)).heap[gb305]? = some (.cells #[.slice A0_0 l0_0.length c0_0, .slice A0_1 l0_1.length c0_1, .slice A0_2 l0_2.length c0_2, .slice A0_3 l0_3.length c0_3, .slice A0_4 l0_4.length c0_4, .slice A0_5 l0_5.length c0_5, .slice A0_6 l0_6.length c0_6] 38 (0, 0))) := ⟨by (with_reducible repeat (first | refine Zan ?_ _ | refine Zap ?_ | refine Zao ?_ _)); refine Zdp ?_ NB305_306.out _; (with_reducible repeat (first | refine Zan ?_ _ | refine Zap ?_ | refine Zao ?_ _)); exact BK305.out⟩
    have n1_ : Za ((wc.setCell ⟨gb306, 2, none⟩ (.bool false)).heap[gb306]? = some (.cells #[.int .i64 a2_0, .int .u8 a2_1, .bool false] 44 (0, 0))) := ⟨by (with_reducible repeat (first | refine Zan ?_ _ | refine Zap ?_ | refine Zao ?_ _)); refine Zeh (cs := #[.int .i64 a2_0, .int .u8 a2_1, .bool a2_2]) ?_ 2 _ rfl; (with_reducible repeat (first | refine Zan ?_ _ | refine Zap ?_ | refine Zao ?_ _)); exact BK306.out⟩
    have n2_ : Za (Below w.heap.size w (wc.setCell ⟨gb306, 2, none⟩ (.bool false))) := ⟨by repeat (first | (with_reducible first | exact HB.out | apply Zau | apply Zaj | apply Zal | refine Zai ?_ GE305.out | refine Zai ?_ GE306.out) | exact HB.out)⟩
    (try clear BK305)
    (try clear BK306)
    (try clear HB)
    generalize (wc.setCell ⟨gb306, 2, none⟩ (.bool false)) = w24 at n0_ n1_ n2_ ⊢
    have BK305 := n0_
    have BK306 := n1_
    have HB := n2_
    clear n0_ n1_ n2_
    have n0_ := Za.mk (Zap BK305.out)
    have n1_ := Za.mk (Zap BK306.out)
    have n2_ := Za.mk (Zal HB.out)
    clear BK305
    clear BK306
    clear HB
    have BK305 := n0_
    have BK306 := n1_
    have HB := n2_
    clear n0_ n1_ n2_
    refine Zek (n := 9) (S := fun w' => w'.cell? ⟨gb305, 0, none⟩ = some (.slice A0_0 l0_0.length c0_0) ∧ w'.cell? ⟨gb305, 1, none⟩ = some (.slice A0_1 l0_1.length c0_1) ∧ w'.cell? ⟨gb305, 2, none⟩ = some (.slice A0_2 l0_2.length c0_2) ∧ w'.cell? ⟨gb305, 3, none⟩ = some (.slice A0_3 l0_3.length c0_3) ∧ w'.cell? ⟨gb305, 4, none⟩ = some (.slice A0_4 l0_4.length c0_4) ∧ w'.cell? ⟨gb305, 5, none⟩ = some (.slice A0_5 l0_5.length c0_5) ∧ w'.cell? ⟨gb305, 6, none⟩ = some (.slice A0_6 l0_6.length c0_6) ∧ w'.cell? ⟨gb306, 0, none⟩ = some (.int .i64 a2_0) ∧ w'.cell? ⟨gb306, 1, none⟩ = some (.int .u8 a2_1) ∧ w'.cell? ⟨gb306, 2, none⟩ = some (.bool false)) (ds := []) u12_0 Zf rfl rfl ⟨(Zah BK305.out 0).trans rfl, (Zah BK305.out 1).trans rfl, (Zah BK305.out 2).trans rfl, (Zah BK305.out 3).trans rfl, (Zah BK305.out 4).trans rfl, (Zah BK305.out 5).trans rfl, (Zah BK305.out 6).trans rfl, (Zah BK306.out 0).trans rfl, (Zah BK306.out 1).trans rfl, (Zah BK306.out 2).trans rfl⟩ (fun hHeld => ?_); refine Zcp Zas.tab4 Zas.bits4 (fun HT_ HW_ => ?_)
    generalize w24.drew = w25 at BK305 BK306 HB hHeld ⊢
    refine Zbc (i := 1) (N := some 32) (v := ?_) (a' := ?_) u12_1 rfl rfl (Zaw HT_.out Zf) (fun _ _ _ h => h) (Or.inl ⟨by rfl, ?_⟩) ?_ ?_
    rotate_left
    ·intro w'
     go_simp
     with_reducible rfl
    rotate_left
    ·simp only [Act.put, s0_, s1_, s2_, Zax, Zay]
     rfl
    refine Zbc (i := 2) (N := some 33) (v := ?_) (a' := ?_) u12_2 rfl rfl (Zaw HT_.out Zf) (fun _ _ _ h => h) (Or.inl ⟨by rfl, ?_⟩) ?_ ?_
    rotate_left
    ·intro w'
     go_simp
     with_reducible rfl
    rotate_left
    ·simp only [Act.put, s0_, s1_, s2_, Zax, Zay]
     rfl
    refine Zbc (i := 4) (N := some 35) (v := ?_) (a' := ?_) u12_3 rfl rfl (Zaw HT_.out Zf) (fun _ _ _ h => h) (Or.inl ⟨by rfl, ?_⟩) ?_ ?_
    rotate_left
    ·intro w'
     go_simp
     with_reducible rfl
    rotate_left
    ·simp only [Act.put, s0_, s1_, s2_, Zax, Zay]
     rfl
    refine Zdh (i := 0) (N := some 31) (v := ?_) (a' := ?_) u12_4 rfl rfl (Zbt HT_.out HW_.out Zf) (fun _ _ _ h => h) (Or.inl ⟨by rfl, ?_⟩) hHeld ?_ ?_
    rotate_left
    ·rintro w' ⟨s0, s1, s2, s3, s4, s5, s6, s7, s8, s9⟩
     go_simp
     with_reducible rfl
    rotate_left
    ·simp only [Act.put, s0_, s1_, s2_, Zax, Zay]
     rfl
    refine Zdh (i := 3) (N := some 34) (v := ?_) (a' := ?_) u12_5 rfl rfl (Zbt HT_.out HW_.out Zf) (fun _ _ _ h => h) (Or.inl ⟨by rfl, ?_⟩) hHeld ?_ ?_
    rotate_left
    ·rintro w' ⟨s0, s1, s2, s3, s4, s5, s6, s7, s8, s9⟩
     go_simp
     with_reducible rfl
    rotate_left
    ·simp only [Act.put, s0_, s1_, s2_, Zax, Zay]
     rfl
    refine Zdh (i := 5) (N := some 36) (v := ?_) (a' := ?_) u12_6 rfl rfl (Zbt HT_.out HW_.out Zf) (fun _ _ _ h => h) (Or.inl ⟨by rfl, ?_⟩) hHeld ?_ ?_
    rotate_left
    ·rintro w' ⟨s0, s1, s2, s3, s4, s5, s6, s7, s8, s9⟩
     go_simp
     with_reducible rfl
    rotate_left
    ·simp only [Act.put, s0_, s1_, s2_, Zax, Zay]
     rfl
    refine one_ (i := 6) (N := some 37) u12_7 rfl rfl (Zda HT_.out Zf) (by decide) (fun K hK => ?_)
    refine goes_ Try.func50 Zf rfl #[.agg #[.slice A0_0 l0_0.length c0_0, .slice A0_1 l0_1.length c0_1, .slice A0_2 l0_2.length c0_2, .slice A0_3 l0_3.length c0_3, .slice A0_4 l0_4.length c0_4, .slice A0_5 l0_5.length c0_5, .slice A0_6 l0_6.length c0_6], .slice A1 l1.length c1, .agg #[.int .i64 a2_0, .int .u8 a2_1, .bool false], .slice none 0 0, .bool false] (by rfl) rfl rfl t12_3 ?_
    refine (Zae.calls kj4 _ _ l0_0 _ _ l0_1 _ _ l0_2 _ _ l0_3 _ _ l0_4 _ _ l0_5 _ _ l0_6 _ _ l1 a2_0 a2_1 false _ _ ([] : List (S44)) false t308 _ ?side1 ?side2 ?side3 ?side4 ?side5 ?side6 ?side7 ?side8 ?side9 ?side10 ?side11 ?side12 ?side13 ?side14 ?side15 ?side16 ?side17 ?side18 A18.out).mono ?_
    (case side1 => exact CD ((Kd.Zav HR0_0.out HB.out)))
    (case side2 => exact HC0_0.out)
    (case side3 => exact CD ((Kd.Zav HR0_1.out HB.out)))
    (case side4 => exact HC0_1.out)
    (case side5 => exact CD ((Kd.Zav HR0_2.out HB.out)))
    (case side6 => exact HC0_2.out)
    (case side7 => exact CD ((Kd.Zav HR0_3.out HB.out)))
    (case side8 => exact HC0_3.out)
    (case side9 => exact CD ((Kd.Zav HR0_4.out HB.out)))
    (case side10 => exact HC0_4.out)
    (case side11 => exact CD ((Kd.Zav HR0_5.out HB.out)))
    (case side12 => exact HC0_5.out)
    (case side13 => exact CD ((Kd.Zav HR0_6.out HB.out)))
    (case side14 => exact HC0_6.out)
    (case side15 => exact CD ((Kd.Zav HR1.out HB.out)))
    (case side16 => exact HC1.out)
    (case side17 => exact Kd.C_nil _ _)
    (case side18 => exact Nat.le_refl _)
    rintro e w26 ⟨v309, rfl, ho0, hb⟩
    refine ⟨_, rfl, ?_⟩
    have n0_ := Za.mk (Kd.Zdk (Kd.R_newB ho0 (g := gb306) (o := .cells #[.int .i64 a2_0, .int .u8 a2_1, .bool false] 44 (0, 0)) (KB BK306)) (Zat t12_0))
    have n1_ := Za.mk (Zam (KB BK305) hb)
    have n2_ := Za.mk (Zam (KB BK306) hb)
    have n3_ := Za.mk (Zbb t12_0 hb)
    clear BK305
    clear BK306
    clear HB
    have HO310 := n0_
    have BK305 := n1_
    have BK306 := n2_
    have HB := n3_
    clear n0_ n1_ n2_ n3_
    (try clear hb)
    (try clear hb2)
    (try clear hk)
    (try clear hi)
    (try clear ho0)
    obtain ⟨Ao27, co27, eo27⟩ := Kd.Zbp HO310.out
    (first | subst eo27 | (injection eo27 with f1_ f2_ f3_; have f4_ := f1_.symm; have f5_ := f3_.symm; clear f1_ f2_ f3_; subst f4_; subst f5_))
    refine hK.out _ _ ⟨(Zah BK305.out 0).trans rfl, (Zah BK305.out 1).trans rfl, (Zah BK305.out 2).trans rfl, (Zah BK305.out 3).trans rfl, (Zah BK305.out 4).trans rfl, (Zah BK305.out 5).trans rfl, (Zah BK305.out 6).trans rfl, (Zah BK306.out 0).trans rfl, (Zah BK306.out 1).trans rfl, (Zah BK306.out 2).trans rfl⟩ (fun hHeld => ?_)
    clear hK K
    refine Zem (a' := ?_) ?_ ?_
    rotate_left
    ·show Act.put _ (some 37) _ = _
     simp only [Act.put, s0_, s1_, s2_, Zax, Zay]
     rfl
    refine one_ (i := 7) (N := some 38) u12_8 rfl rfl (Zda HT_.out Zf) (by decide) (fun K hK => ?_)
    refine goes_ Try.func27 Zf rfl #[.agg #[.slice A0_0 l0_0.length c0_0, .slice A0_1 l0_1.length c0_1, .slice A0_2 l0_2.length c0_2, .slice A0_3 l0_3.length c0_3, .slice A0_4 l0_4.length c0_4, .slice A0_5 l0_5.length c0_5, .slice A0_6 l0_6.length c0_6], .slice A1 l1.length c1, .slice A3 l3.length c3, .slice Ao27 t308.length co27] (by rfl) rfl rfl t12_3 ?_
    with_reducible refine (Zac.calls kj4 _ _ l0_0 _ _ l0_1 _ _ l0_2 _ _ l0_3 _ _ l0_4 _ _ l0_5 _ _ l0_6 _ _ l1 _ _ l3 _ _ t308 t311 _ ?side1 ?side2 ?side3 ?side4 ?side5 ?side6 ?side7 ?side8 ?side9 ?side10 ?side11 ?side12 ?side13 ?side14 ?side15 ?side16 ?side17 ?side18 ?side19 ?side20 A19.out).mono ?_
    (case side1 => exact CD ((Kd.Zav HR0_0.out HB.out)))
    (case side2 => exact HC0_0.out)
    (case side3 => exact CD ((Kd.Zav HR0_1.out HB.out)))
    (case side4 => exact HC0_1.out)
    (case side5 => exact CD ((Kd.Zav HR0_2.out HB.out)))
    (case side6 => exact HC0_2.out)
    (case side7 => exact CD ((Kd.Zav HR0_3.out HB.out)))
    (case side8 => exact HC0_3.out)
    (case side9 => exact CD ((Kd.Zav HR0_4.out HB.out)))
    (case side10 => exact HC0_4.out)
    (case side11 => exact CD ((Kd.Zav HR0_5.out HB.out)))
    (case side12 => exact HC0_5.out)
    (case side13 => exact CD ((Kd.Zav HR0_6.out HB.out)))
    (case side14 => exact HC0_6.out)
    (case side15 => exact CD ((Kd.Zav HR1.out HB.out)))
    (case side16 => exact HC1.out)
    (case side17 => exact CD ((Kd.Zav HR3.out HB.out)))
    (case side18 => exact HC3.out)
    (case side19 => exact CD ((Kd.Zb HO310.out).2.2))
    (case side20 => exact (Kd.Zb HO310.out).2.1)
    rintro e w28 ⟨v312, rfl, ho0, hb⟩
    refine ⟨_, rfl, ?_⟩
    have n0_ := RE HO310 hb (Kd.Zbx ho0)
    have n1_ := Za.mk (Kd.Zdk (Kd.R_newB (Kd.Zec ho0 (Kd.R_lt (RD HO310))) (g := gb306) (o := .cells #[.int .i64 a2_0, .int .u8 a2_1, .bool false] 44 (0, 0)) (KB BK306)) (Zat t12_0))
    have n2_ := Za.mk (Zam (KB BK305) hb)
    have n3_ := Za.mk (Zam (KB BK306) hb)
    have n4_ := Za.mk (Zbb t12_0 hb)
    clear HO310
    clear BK305
    clear BK306
    clear HB
    have HO310 := n0_
    have HO313 := n1_
    have BK305 := n2_
    have BK306 := n3_
    have HB := n4_
    clear n0_ n1_ n2_ n3_ n4_
    (try clear hb)
    (try clear hb2)
    (try clear hk)
    (try clear hi)
    (try clear ho0)
    refine hK.out _ _ ⟨(Zah BK305.out 0).trans rfl, (Zah BK305.out 1).trans rfl, (Zah BK305.out 2).trans rfl, (Zah BK305.out 3).trans rfl, (Zah BK305.out 4).trans rfl, (Zah BK305.out 5).trans rfl, (Zah BK305.out 6).trans rfl, (Zah BK306.out 0).trans rfl, (Zah BK306.out 1).trans rfl, (Zah BK306.out 2).trans rfl⟩ (fun hHeld => ?_)
    clear hK K
    refine Zem (a' := ?_) ?_ ?_
    rotate_left
    ·show Act.put _ (some 38) _ = _
     simp only [Act.put, s0_, s1_, s2_, Zax, Zay]
     rfl
    refine Zbc (i := 8) (N := some 10) (v := ?_) (a' := ?_) u12_9 rfl rfl (Zaw HT_.out Zf) (fun _ _ _ h => h) (Or.inl ⟨by rfl, ?_⟩) ?_ ?_
    rotate_left
    ·intro w'
     go_simp
     with_reducible rfl
    rotate_left
    ·simp only [Act.put, s0_, s1_, s2_, Zax, Zay]
     rfl
    refine done_ (Zdj HT_.out Zf) ?_
    obtain ⟨hcz29_0, hcz29_1, hcz29_2, hfz29_0, hfz29_1, hfz29_2⟩ := cz3 BK306
    obtain ⟨Ao30, co30, eo30⟩ := Kd.Zbp HO313.out
    subst eo30
    try go_wp2_with (first | ((with_reducible refine Zbl (f := 21) rfl ?_); refine Zcx (some 41) rfl rfl Try.func21 Zf rfl #[.slice Ao30 t311.length co30, .agg #[.int .i64 a2_0, .int .u8 a2_1, .bool false]] rfl t12_3 ?_; (with_reducible refine (Zak.calls kj4 _ _ t311 a2_0 a2_1 false t314 _ ?side1 ?side2 A20.out).mono ?_); (case side1 => exact CD ((Kd.Zb HO313.out).2.2)); (case side2 => exact (Kd.Zb HO313.out).2.1); rintro e w31 ⟨rfl, hb⟩; refine ⟨_, rfl, ?_⟩; have n0_ := RB HO310 hb; have n1_ := RB HO313 hb; have n2_ := Za.mk (Zam (KB BK305) hb); have n3_ := Za.mk (Zam (KB BK306) hb); have n4_ := Za.mk (Zbb t12_0 hb); clear HO310; clear HO313; clear BK305; clear BK306; clear HB; have HO310 := n0_; have HO313 := n1_; have BK305 := n2_; have BK306 := n3_; have HB := n4_; clear n0_ n1_ n2_ n3_ n4_; (try clear hb); (try clear hb2); (try clear hk); (try clear hi)))
    go_ret2
    exact ⟨_, by first | rfl | (simp [Zbe, Zbd] <;> rfl) | (simp [*, Zbe, Zbd] <;> rfl), by first | exact Kd.R_nil _ _ _ _ _ | exact Kd.N_nil _ _ _ _ _ | exact Kd.V_nil _ _ _ _ _ | exact Kd.Q_nil _ _ _ _ _ | exact Kd.S_nil _ _ _ _ _, by repeat (first | (with_reducible first | exact HB.out | apply Zau | apply Zaj | apply Zal | refine Zai ?_ GE305.out | refine Zai ?_ GE306.out) | exact HB.out)⟩
   subst c17
   have H1 : (some (([] : List (S44)), false)) = some (r1, r2) := by rw [if_pos rfl] at H; exact H
   clear H
   have H := H1
   clear H1
   simp only [Option.some.injEq, Prod.mk.injEq] at H
   obtain ⟨rfl, rfl⟩ := H
   go_wp2
   go_ret2
   exact ⟨_, by first | rfl | (simp [Zbe, Zbd] <;> rfl) | (simp [*, Zbe, Zbd] <;> rfl), by first | exact Kd.R_nil _ _ _ _ _ | exact Kd.N_nil _ _ _ _ _ | exact Kd.V_nil _ _ _ _ _ | exact Kd.Q_nil _ _ _ _ _ | exact Kd.S_nil _ _ _ _ _, by repeat (first | (with_reducible first | exact HB.out | apply Zau | apply Zaj | apply Zal | refine Zai ?_ GE305.out | refine Zai ?_ GE306.out) | exact HB.out)⟩
def Zbn.f (a0_0 : Int) (a0_1 : Int) : Option (Int × Int × Bool) := some (a0_0, a0_1, false)
set_option maxHeartbeats 8000000 in
set_option maxRecDepth 100000 in
theorem Zbn.calls (a0_0 : Int) (a0_1 : Int) (r1 : Int) (r2 : Int) (r3 : Bool) (w : World) (h : Zbn.f a0_0 a0_1 = some (r1, r2, r3)) :
  Calls Try.prog 17 #[.agg #[.int .i64 a0_0, .int .u8 a0_1]] w fun e w' => e = .returned (.agg #[.int .i64 r1, .int .u8 r2, .bool r3]) ∧ Below w.heap.size w w' := by
 have hu32 := Try.underlying32
 have hu44 := Try.underlying44
 have HB := Za.mk (Below.refl w.heap.size w)
 have H : (some (a0_0, a0_1, false)) = some (r1, r2, r3) := h
 clear h
 simp only [Option.some.injEq, Prod.mk.injEq] at H
 obtain ⟨rfl, rfl, rfl⟩ := H
 go_enter Try.func17, Try.ntmps17
 go_wp2_with (first | ((with_reducible refine Zca (N := 1) rfl ?_); refine Zbu ?hg (N := 1) ?hd (cs := #[.int .i64 a0_0, .int .u8 a0_1]) (t := 32) ?hr ?_; (case hd => rfl); (case hg => rfl); (case hr => first | (go_simp; done) | (go_simp; rfl)); intro gb327 hg w2 hbox hb; have n0_ := BS HB hb; have n1_ := Za.mk (hbox); have n2_ := Za.mk ((by rw [hg]; exact (Zat (BD HB)) : w.heap.size ≤ gb327)); have n3_ := Za.mk ((by rw [hg]; exact (Zat (BD HB)) : w.heap.size ≤ gb327)); clear HB; have HB := n0_; have BK327 := n1_; have GW327 := n2_; have GE327 := n3_; clear n0_ n1_ n2_ n3_; clear hb hbox hg) | ((with_reducible refine Zca (N := 2) rfl ?_); refine Zbu ?hg (N := 2) ?hd (cs := #[.int .i64 0, .int .u8 0, .bool false]) (t := 44) ?hr ?_; (case hd => rfl); (case hg => rfl); (case hr => first | (go_simp; done) | (go_simp; rfl)); intro gb328 hg w3 hbox hb; have n0_ := Za.mk (Zam (KB BK327) hb); have n1_ := Za.mk (Zbb t12_2 hb); have n2_ := Za.mk (hbox); have n3_ := Za.mk ((by rw [hg]; exact (Zat t12_2) : w.heap.size ≤ gb328)); have n4_ := Za.mk ((by rw [hg]; exact (Zat t12_2) : w.heap.size ≤ gb328)); have n5_ := Za.mk ((by rw [hg]; exact Nat.ne_of_lt (Zcw (KB BK327)) : gb327 ≠ gb328)); have n6_ := Za.mk ((by rw [hg]; exact Nat.ne_of_gt (Zcw (KB BK327)) : gb328 ≠ gb327)); clear BK327; clear HB; have BK327 := n0_; have HB := n1_; have BK328 := n2_; have GW328 := n3_; have GE328 := n4_; have NB327_328 := n5_; have NB328_327 := n6_; clear n0_ n1_ n2_ n3_ n4_ n5_ n6_; clear hb hbox hg; have hnb4 := NB327_328.out; have hnc4 := NB328_327.out; obtain ⟨hcz5_0, hcz5_1, hfz5_0, hfz5_1⟩ := cz2 BK327; obtain ⟨hcz6_0, hcz6_1, hcz6_2, hfz6_0, hfz6_1, hfz6_2⟩ := cz3 BK328))
 refine bodyPost_ret (results_cell_row rfl _ _ gb328 44 #[.int .i64 a0_0, .int .u8 a0_1, .bool false] (0, 0) _ rfl (by (with_reducible repeat (first | refine Zan ?_ _ | refine Zap ?_ | refine Zao ?_ _)); refine Zeh (cs := #[.int .i64 a0_0, .int .u8 a0_1, .bool false]) ?_ 2 _ rfl; (with_reducible repeat (first | refine Zan ?_ _ | refine Zap ?_ | refine Zao ?_ _)); refine Zeh (cs := #[.int .i64 a0_0, .int .u8 0, .bool false]) ?_ 1 _ rfl; (with_reducible repeat (first | refine Zan ?_ _ | refine Zap ?_ | refine Zao ?_ _)); refine Zeh (cs := #[.int .i64 0, .int .u8 0, .bool false]) ?_ 0 _ rfl; (with_reducible repeat (first | refine Zan ?_ _ | refine Zap ?_ | refine Zao ?_ _)); exact BK328.out) Try.underlying44 rfl Zf) rfl ?_
 exact ⟨by first | rfl | (simp [Zbe, Zbd] <;> rfl) | (simp [*, Zbe, Zbd] <;> rfl), by repeat (first | (with_reducible first | exact HB.out | apply Zau | apply Zaj | apply Zal | refine Zai ?_ GE327.out | refine Zai ?_ GE328.out) | exact HB.out)⟩
end Go.Proofs.Ytclgclcoblfddaa.P
