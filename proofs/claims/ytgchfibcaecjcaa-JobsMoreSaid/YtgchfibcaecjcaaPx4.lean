/- Printed by a program for this claim: functions of the program as plain functions, and that the machine computes them. -/
import Derived.Test.YtgchfibcaecjcaaPx0
import Derived.Test.YtgchfibcaecjcaaPShort
import Derived.Test.YtgchfibcaecjcaaPx1
import Derived.Test.YtgchfibcaecjcaaPx3
import Derived.Test.YtgchfibcaecjcaaJobsG
import Derived.Test.YtgchfibcaecjcaaJobsG
namespace Go.Proofs.Ytgchfibcaecjcaa.P
open Go.RowKit Go.Proofs.YtgchfibcaecjcaaW.PrintWords Go.Proofs.YtgchfibcaecjcaaW.PrintLast Go.Proofs.YtgchfibcaecjcaaW.PrintMore
attribute [local go_sem] max2_int min2_int max_two min_two max_three min_three max_four min_four   -- for this text's walks alone
set_option linter.unusedVariables false
set_option linter.unusedSimpArgs false
def u4_0 : Array Bool := #[false, false, false, false, false, false, false, false, false, false, false, false, false, false, false, false, false, false, false, false, false, false]
def u4_1 : Array Bool := #[true, false, false, false, false, false, false, false, false, false, false, false, false, false, false, false, false, false, false, false, false, false]
def u4_2 : Array Bool := #[true, true, false, false, false, false, false, false, false, false, false, false, false, false, false, false, false, false, false, false, false, false]
def u4_3 : Array Bool := #[true, true, true, false, false, false, false, false, false, false, false, false, false, false, false, false, false, false, false, false, false, false]
def u4_4 : Array Bool := #[true, true, true, true, false, false, false, false, false, false, false, false, false, false, false, false, false, false, false, false, false, false]
def u4_5 : Array Bool := #[true, true, true, true, true, false, false, false, false, false, false, false, false, false, false, false, false, false, false, false, false, false]
def u4_6 : Array Bool := #[true, true, true, true, true, true, false, false, false, false, false, false, false, false, false, false, false, false, false, false, false, false]
def u4_7 : Array Bool := #[true, true, true, true, true, true, false, true, false, false, false, false, false, false, false, false, false, false, false, false, false, false]
def u4_8 : Array Bool := #[true, true, true, true, true, true, false, true, true, false, false, false, false, false, false, false, false, false, false, false, false, false]
def u4_9 : Array Bool := #[true, true, true, true, true, true, false, true, true, true, false, false, false, false, false, false, false, false, false, false, false, false]
def u4_10 : Array Bool := #[true, true, true, true, true, true, false, true, true, true, true, false, false, false, false, false, false, false, false, false, false, false]
def u4_11 : Array Bool := #[true, true, true, true, true, true, false, true, true, true, true, true, false, false, false, false, false, false, false, false, false, false]
def u4_12 : Array Bool := #[true, true, true, true, true, true, false, true, true, true, true, true, false, true, false, false, false, false, false, false, false, false]
def u4_13 : Array Bool := #[true, true, true, true, true, true, false, true, true, true, true, true, false, true, true, false, false, false, false, false, false, false]
def u4_14 : Array Bool := #[true, true, true, true, true, true, false, true, true, true, true, true, false, true, true, true, false, false, false, false, false, false]
def u4_15 : Array Bool := #[true, true, true, true, true, true, false, true, true, true, true, true, false, true, true, true, true, false, false, false, false, false]
def u4_16 : Array Bool := #[true, true, true, true, true, true, true, true, true, true, true, true, false, true, true, true, true, false, false, false, false, false]
def u4_17 : Array Bool := #[true, true, true, true, true, true, true, true, true, true, true, true, true, true, true, true, true, false, false, false, false, false]
def u4_18 : Array Bool := #[true, true, true, true, true, true, true, true, true, true, true, true, true, true, true, true, true, true, false, false, false, false]
def u4_19 : Array Bool := #[true, true, true, true, true, true, true, true, true, true, true, true, true, true, true, true, true, true, true, false, false, false]
def u4_20 : Array Bool := #[true, true, true, true, true, true, true, true, true, true, true, true, true, true, true, true, true, true, true, true, false, false]
def u4_21 : Array Bool := #[true, true, true, true, true, true, true, true, true, true, true, true, true, true, true, true, true, true, true, true, true, false]
def u4_22 : Array Bool := #[true, true, true, true, true, true, true, true, true, true, true, true, true, true, true, true, true, true, true, true, true, true]

attribute [local go_sem high] eqA35 eqA39
-- given: jobs_Whole
/-! ### jobs_Known: function 16 -/
def jobs_Known.f (a0 : Int) : Option (Bool) := if a0 ≥ 1 then (some (decide (a0 ≤ 3))) else (some false)
set_option maxHeartbeats 8000000 in
set_option maxRecDepth 100000 in
theorem jobs_Known.calls (a0 : Int) (r : Bool) (w : World) (h : jobs_Known.f a0 = some r) :
  Calls Try.prog 16 #[.int .u8 a0] w fun e w' => e = .returned (.bool r) ∧ Drawn0 w w' := by
 have H : (if a0 ≥ 1 then (some (decide (a0 ≤ 3))) else (some false)) = some r := h
 clear h
 by_cases c2 : a0 ≥ 1
 ·rw [if_pos c2] at H
  have c2b0 : decide (1 ≤ a0) = true := decide_eq_true c2
  clear c2
  obtain rfl := Option.some.inj H
  go_enter Try.func16, Try.ntmps16
  go_wp2
  go_ret
  exact ⟨by first | rfl | (simp; done) | (simp [*]; done), by repeat (first | exact Drawn0.refl _ | apply Drawn0.step)⟩
 ·rw [if_neg c2] at H
  have c2b0 : decide (1 ≤ a0) = false := decide_eq_false c2
  clear c2
  obtain rfl := Option.some.inj H
  go_enter Try.func16, Try.ntmps16
  go_wp2
  go_ret
  exact ⟨by first | rfl | (simp; done) | (simp [*]; done), by repeat (first | exact Drawn0.refl _ | apply Drawn0.step)⟩

/-! ### jobs_Merge: function 15 -/
def jobs_Merge.j0 : Nat → Int → Int → Bool → Option (Int × Bool)
 | 0, _, _, _ => none
 | k + 1, x0, x1, x6 => if x6 = true then (some (0, false)) else (if x0 = x1 then (some (x0, true)) else (if x0 = 2 then (some (0, false)) else (if x1 = 2 then (some (0, false)) else (some (3, true)))))
def jobs_Merge.f (k : Nat) (a0 : Int) (a1 : Int) : Option (Int × Bool) := (jobs_Known.f a0).bind fun t109 => (if t109 = true then ((jobs_Known.f a1).bind fun t110 => (jobs_Merge.j0 k a0 a1 (!t110))) else (jobs_Merge.j0 k a0 a1 true))
theorem jobs_Merge.mono_l : ∀ k, (∀ y0 y1 y2, LeO (jobs_Merge.j0 k y0 y1 y2) (jobs_Merge.j0 (k + 1) y0 y1 y2))
 | 0 => fun _ _ _ r h => by simp [jobs_Merge.j0] at h
 | k + 1 => by
  have ih0 := jobs_Merge.mono_l k
  ·intro y0 y1 y2
   unfold jobs_Merge.j0
   repeat' first
   | (with_reducible exact ih0 _ _ _)
   | (with_reducible exact LeO.refl _)
   | (with_reducible exact LeO.none _)
   | (with_reducible refine LeO.ite ?_ ?_)
   | (with_reducible refine LeO.bind ?_ (fun _ => ?_))
   | exact ih0 _ _ _
   | exact LeO.none _
   | refine LeO.ite ?_ ?_
   | refine LeO.bind ?_ (fun _ => ?_)
theorem jobs_Merge.mono : ∀ a0 a1 k, LeO (jobs_Merge.f k a0 a1) (jobs_Merge.f (k + 1) a0 a1) := by
 intro a0 a1 k
 have ih0 := jobs_Merge.mono_l k
 unfold jobs_Merge.f
 repeat' first
   | (with_reducible exact ih0 _ _ _)
   | (with_reducible exact LeO.refl _)
   | (with_reducible exact LeO.none _)
   | (with_reducible refine LeO.ite ?_ ?_)
   | (with_reducible refine LeO.bind ?_ (fun _ => ?_))
   | exact ih0 _ _ _
   | exact LeO.none _
   | refine LeO.ite ?_ ?_
   | refine LeO.bind ?_ (fun _ => ?_)
set_option maxHeartbeats 8000000 in
set_option maxRecDepth 100000 in
theorem jobs_Merge.calls (k : Nat) (a0 : Int) (a1 : Int) (r1 : Int) (r2 : Bool) (w : World) (h : jobs_Merge.f k a0 a1 = some (r1, r2)) :
  Calls Try.prog 15 #[.int .u8 a0, .int .u8 a1] w fun e w' => e = .returned (.tuple #[.int .u8 r1, .bool r2]) ∧ Drawn0 w w' := by
 have H : ((jobs_Known.f a0).bind fun t109 => (if t109 = true then ((jobs_Known.f a1).bind fun t110 => (jobs_Merge.j0 k a0 a1 (!t110))) else (jobs_Merge.j0 k a0 a1 true))) = some (r1, r2) := h
 clear h
 have HC3 := Aside0.mk H
 clear H
 go_enter Try.func15, Try.ntmps15
 go_upto_region 1 with (fail)
 go_cut [6] (fun v6 wc => ∃ (kq : Nat) (x6_2 : Bool), v6 = .bool x6_2 ∧ Aside0 (jobs_Merge.j0 kq a0 a1 x6_2 = some (r1, r2)) ∧ Aside0 (kq ≤ k) ∧ Drawn0 w wc)
 case first =>
  have H := HC3.out
  clear HC3
  replace H := Option.bind_eq_some_iff.mp H
  obtain ⟨t109, A40, H⟩ := H
  replace H : (if t109 = true then ((jobs_Known.f a1).bind fun t110 => (jobs_Merge.j0 k a0 a1 (!t110))) else (jobs_Merge.j0 k a0 a1 true)) = some (r1, r2) := H
  have A4 := Aside0.mk A40
  clear A40
  by_cases c5 : t109 = true
  ·subst c5
   have H1 : ((jobs_Known.f a1).bind fun t110 => (jobs_Merge.j0 k a0 a1 (!t110))) = some (r1, r2) := by rw [if_pos rfl] at H; exact H
   clear H
   have H := H1
   clear H1
   replace H := Option.bind_eq_some_iff.mp H
   obtain ⟨t110, A60, H⟩ := H
   replace H : (jobs_Merge.j0 k a0 a1 (!t110)) = some (r1, r2) := H
   have A6 := Aside0.mk A60
   clear A60
   have H' := Aside0.mk H
   clear H
   go_wp2_with (first | ((with_reducible refine gate_callee (f := 16) rfl ?_); refine goesL_ (some 8) rfl rfl Try.func16 (by kernel_rfl) rfl #[.int .u8 a0] rfl (by (try simp only [List.map_toArray, List.map_cons, List.map_nil]); first | done | rfl | (simp only [List.length_drop, List.length_take]; rfl)) ?_; (with_reducible refine (jobs_Known.calls a0 true _ A4.out).mono ?_); rintro e w' ⟨rfl, ⟨nd, rfl⟩⟩; refine ⟨_, rfl, ?_⟩) | (go_at_call 16; (with_reducible refine (jobs_Known.calls a1 t110 _ A6.out).mono ?_); rintro e w' ⟨rfl, ⟨nd, rfl⟩⟩))
   go_meet
   case rel => exact ⟨_, (!t110), (by first | rfl | (simp; done) | (simp [*]; done)), H', ⟨by first | omega | exact Nat.le_refl _⟩, by repeat (first | exact Drawn0.refl _ | apply Drawn0.step)⟩
  ·replace c5 := Bool.eq_false_iff.mpr c5
   subst c5
   have H1 : (jobs_Merge.j0 k a0 a1 true) = some (r1, r2) := by rw [if_neg (show ¬ (false = true) by decide)] at H; exact H
   clear H
   have H := H1
   clear H1
   have H' := Aside0.mk H
   clear H
   go_wp2_with (first | ((with_reducible refine gate_callee (f := 16) rfl ?_); refine goesL_ (some 8) rfl rfl Try.func16 (by kernel_rfl) rfl #[.int .u8 a0] rfl (by (try simp only [List.map_toArray, List.map_cons, List.map_nil]); first | done | rfl | (simp only [List.length_drop, List.length_take]; rfl)) ?_; (with_reducible refine (jobs_Known.calls a0 false _ A4.out).mono ?_); rintro e w' ⟨rfl, ⟨nd, rfl⟩⟩; refine ⟨_, rfl, ?_⟩))
   go_meet
   case rel => exact ⟨_, (true), (by first | rfl | (simp; done) | (simp [*]; done)), H', ⟨by first | omega | exact Nat.le_refl _⟩, by repeat (first | exact Drawn0.refl _ | apply Drawn0.step)⟩
 case rest =>
  clear HC3
  try clear c1
  try clear p2
  try clear c5
  obtain ⟨kq, x6_2, rfl, HA, HJ2, ⟨mc2, rfl⟩⟩ := hcut
  cases kq with
  | zero => exact absurd HA.out (by simp [jobs_Merge.j0])
  | succ kj2 =>
   have H := HA.out
   clear HA
   simp only [jobs_Merge.j0] at H
   by_cases c7 : x6_2 = true
   ·subst c7
    have H1 : (some (0, false)) = some (r1, r2) := by rw [if_pos rfl] at H; exact H
    clear H
    have H := H1
    clear H1
    simp only [Option.some.injEq, Prod.mk.injEq] at H
    obtain ⟨rfl, rfl⟩ := H
    go_wp2
    go_ret2
    exact ⟨by first | rfl | (simp; done) | (simp [*]; done), by repeat (first | exact Drawn0.refl _ | apply Drawn0.step)⟩
   ·replace c7 := Bool.eq_false_iff.mpr c7
    subst c7
    have H1 : (if a0 = a1 then (some (a0, true)) else (if a0 = 2 then (some (0, false)) else (if a1 = 2 then (some (0, false)) else (some (3, true))))) = some (r1, r2) := by rw [if_neg (show ¬ (false = true) by decide)] at H; exact H
    clear H
    have H := H1
    clear H1
    by_cases c8 : a0 = a1
    ·rw [if_pos c8] at H
     have c8b0 : (a0 == a1) = true := beq_iff_eq.mpr c8
     have c8b1 : (a0 != a1) = false := bne_eq_false_iff_eq.mpr c8
     clear c8
     simp only [Option.some.injEq, Prod.mk.injEq] at H
     obtain ⟨rfl, rfl⟩ := H
     go_wp2
     go_ret2
     exact ⟨by first | rfl | (simp; done) | (simp [*]; done), by repeat (first | exact Drawn0.refl _ | apply Drawn0.step)⟩
    ·rw [if_neg c8] at H
     have c8b0 : (a0 == a1) = false := beq_eq_false_iff_ne.mpr c8
     have c8b1 : (a0 != a1) = true := bne_iff_ne.mpr c8
     by_cases c9 : a0 = 2
     ·rw [if_pos c9] at H
      have c9b0 : (a0 == 2) = true := beq_iff_eq.mpr c9
      have c9b1 : (a0 != 2) = false := bne_eq_false_iff_eq.mpr c9
      clear c9
      simp only [Option.some.injEq, Prod.mk.injEq] at H
      obtain ⟨rfl, rfl⟩ := H
      go_wp2
      go_ret2
      exact ⟨by first | rfl | (simp; done) | (simp [*]; done), by repeat (first | exact Drawn0.refl _ | apply Drawn0.step)⟩
     ·rw [if_neg c9] at H
      have c9b0 : (a0 == 2) = false := beq_eq_false_iff_ne.mpr c9
      have c9b1 : (a0 != 2) = true := bne_iff_ne.mpr c9
      by_cases c10 : a1 = 2
      ·rw [if_pos c10] at H
       have c10b0 : (a1 == 2) = true := beq_iff_eq.mpr c10
       have c10b1 : (a1 != 2) = false := bne_eq_false_iff_eq.mpr c10
       clear c10
       simp only [Option.some.injEq, Prod.mk.injEq] at H
       obtain ⟨rfl, rfl⟩ := H
       go_wp2
       go_ret2
       exact ⟨by first | rfl | (simp; done) | (simp [*]; done), by repeat (first | exact Drawn0.refl _ | apply Drawn0.step)⟩
      ·rw [if_neg c10] at H
       have c10b0 : (a1 == 2) = false := beq_eq_false_iff_ne.mpr c10
       have c10b1 : (a1 != 2) = true := bne_iff_ne.mpr c10
       simp only [Option.some.injEq, Prod.mk.injEq] at H
       obtain ⟨rfl, rfl⟩ := H
       go_wp2
       go_ret2
       exact ⟨by first | rfl | (simp; done) | (simp [*]; done), by repeat (first | exact Drawn0.refl _ | apply Drawn0.step)⟩

/-! ### clepsydralaw20_works: function 8 -/
def clepsydralaw20_works.f (k : Nat)  : Option (Bool) := (jobs_Merge.f k 1 3).bind fun bt111 => ((jobs_Merge.f k 2 1).bind fun bt113 => ((jobs_Whole.f (([(⟨(⟨0, 1⟩ : S35), false⟩ : S39), (⟨(⟨0, 3⟩ : S35), true⟩ : S39), (⟨(⟨1, 2⟩ : S35), false⟩ : S39), (⟨(⟨1, 1⟩ : S35), false⟩ : S39)] : List (S39)))).bind fun bt118 => (if bt111.1 = 3 then (if bt111.2 = true then (if bt113.1 = 0 then (if bt113.2 = true then (some false) else (if (bt118.1.length : Int) = 1 then (if 0 < (bt118.1.length : Int) then (if ((((rd_T39 bt118.1 0).f0.f0) == 0 && (((rd_T39 bt118.1 0).f0.f1) == 3)) && (((rd_T39 bt118.1 0).f1))) = true then (if (bt118.2.length : Int) = 2 then (if 0 < (bt118.2.length : Int) then (if (((rd_T35 bt118.2 0).f0) == 1 && (((rd_T35 bt118.2 0).f1) == 1)) = true then (if 1 < (bt118.2.length : Int) then (some (((rd_T35 bt118.2 1).f0) == 1 && (((rd_T35 bt118.2 1).f1) == 2))) else (none)) else (some false)) else (none)) else (some false)) else (some false)) else (none)) else (some false))) else (some false)) else (some false)) else (some false))))
theorem clepsydralaw20_works.mono : ∀ k, LeO (clepsydralaw20_works.f k ) (clepsydralaw20_works.f (k + 1) ) := by
 intro  k
 unfold clepsydralaw20_works.f
 repeat' first
   | (with_reducible exact jobs_Merge.mono _ _ _)
   | (with_reducible exact LeO.refl _)
   | (with_reducible exact LeO.none _)
   | (with_reducible refine LeO.ite ?_ ?_)
   | (with_reducible refine LeO.bind ?_ (fun _ => ?_))
   | exact jobs_Merge.mono _ _ _
   | exact LeO.none _
   | refine LeO.ite ?_ ?_
   | refine LeO.bind ?_ (fun _ => ?_)
set_option maxHeartbeats 8000000 in
set_option maxRecDepth 100000 in
theorem clepsydralaw20_works.calls (k : Nat)  (r : Bool) (w : World) (h : clepsydralaw20_works.f k  = some r) :
  Calls Try.prog 8 #[] w fun e w' => e = .returned (.bool r) ∧ Below w.heap.size w w' := by
 have hu35 := Try.underlying35
 have hu39 := Try.underlying39
 have HB := Aside0.mk (Below.refl w.heap.size w)
 have H : ((jobs_Merge.f k 1 3).bind fun bt111 => ((jobs_Merge.f k 2 1).bind fun bt113 => ((jobs_Whole.f (([(⟨(⟨0, 1⟩ : S35), false⟩ : S39), (⟨(⟨0, 3⟩ : S35), true⟩ : S39), (⟨(⟨1, 2⟩ : S35), false⟩ : S39), (⟨(⟨1, 1⟩ : S35), false⟩ : S39)] : List (S39)))).bind fun bt118 => (if bt111.1 = 3 then (if bt111.2 = true then (if bt113.1 = 0 then (if bt113.2 = true then (some false) else (if (bt118.1.length : Int) = 1 then (if 0 < (bt118.1.length : Int) then (if ((((rd_T39 bt118.1 0).f0.f0) == 0 && (((rd_T39 bt118.1 0).f0.f1) == 3)) && (((rd_T39 bt118.1 0).f1))) = true then (if (bt118.2.length : Int) = 2 then (if 0 < (bt118.2.length : Int) then (if (((rd_T35 bt118.2 0).f0) == 1 && (((rd_T35 bt118.2 0).f1) == 1)) = true then (if 1 < (bt118.2.length : Int) then (some (((rd_T35 bt118.2 1).f0) == 1 && (((rd_T35 bt118.2 1).f1) == 2))) else (none)) else (some false)) else (none)) else (some false)) else (some false)) else (none)) else (some false))) else (some false)) else (some false)) else (some false))))) = some r := h
 clear h
 replace H := Option.bind_eq_some_iff.mp H
 obtain ⟨⟨t111, t112⟩, A10, H⟩ := H
 replace H : ((jobs_Merge.f k 2 1).bind fun bt113 => ((jobs_Whole.f (([(⟨(⟨0, 1⟩ : S35), false⟩ : S39), (⟨(⟨0, 3⟩ : S35), true⟩ : S39), (⟨(⟨1, 2⟩ : S35), false⟩ : S39), (⟨(⟨1, 1⟩ : S35), false⟩ : S39)] : List (S39)))).bind fun bt118 => (if t111 = 3 then (if t112 = true then (if bt113.1 = 0 then (if bt113.2 = true then (some false) else (if (bt118.1.length : Int) = 1 then (if 0 < (bt118.1.length : Int) then (if ((((rd_T39 bt118.1 0).f0.f0) == 0 && (((rd_T39 bt118.1 0).f0.f1) == 3)) && (((rd_T39 bt118.1 0).f1))) = true then (if (bt118.2.length : Int) = 2 then (if 0 < (bt118.2.length : Int) then (if (((rd_T35 bt118.2 0).f0) == 1 && (((rd_T35 bt118.2 0).f1) == 1)) = true then (if 1 < (bt118.2.length : Int) then (some (((rd_T35 bt118.2 1).f0) == 1 && (((rd_T35 bt118.2 1).f1) == 2))) else (none)) else (some false)) else (none)) else (some false)) else (some false)) else (none)) else (some false))) else (some false)) else (some false)) else (some false)))) = some r := H
 have A1 := Aside0.mk A10
 clear A10
 replace H := Option.bind_eq_some_iff.mp H
 obtain ⟨⟨t113, t114⟩, A20, H⟩ := H
 replace H : ((jobs_Whole.f (([(⟨(⟨0, 1⟩ : S35), false⟩ : S39), (⟨(⟨0, 3⟩ : S35), true⟩ : S39), (⟨(⟨1, 2⟩ : S35), false⟩ : S39), (⟨(⟨1, 1⟩ : S35), false⟩ : S39)] : List (S39)))).bind fun bt118 => (if t111 = 3 then (if t112 = true then (if t113 = 0 then (if t114 = true then (some false) else (if (bt118.1.length : Int) = 1 then (if 0 < (bt118.1.length : Int) then (if ((((rd_T39 bt118.1 0).f0.f0) == 0 && (((rd_T39 bt118.1 0).f0.f1) == 3)) && (((rd_T39 bt118.1 0).f1))) = true then (if (bt118.2.length : Int) = 2 then (if 0 < (bt118.2.length : Int) then (if (((rd_T35 bt118.2 0).f0) == 1 && (((rd_T35 bt118.2 0).f1) == 1)) = true then (if 1 < (bt118.2.length : Int) then (some (((rd_T35 bt118.2 1).f0) == 1 && (((rd_T35 bt118.2 1).f1) == 2))) else (none)) else (some false)) else (none)) else (some false)) else (some false)) else (none)) else (some false))) else (some false)) else (some false)) else (some false))) = some r := H
 have A2 := Aside0.mk A20
 clear A20
 obtain ⟨y115, hy115⟩ : ∃ y_ : List (S39), y_ = (([(⟨(⟨0, 1⟩ : S35), false⟩ : S39), (⟨(⟨0, 3⟩ : S35), true⟩ : S39), (⟨(⟨1, 2⟩ : S35), false⟩ : S39), (⟨(⟨1, 1⟩ : S35), false⟩ : S39)] : List (S39))) := ⟨_, rfl⟩
 replace H : ((jobs_Whole.f y115).bind fun bt118 => (if t111 = 3 then (if t112 = true then (if t113 = 0 then (if t114 = true then (some false) else (if (bt118.1.length : Int) = 1 then (if 0 < (bt118.1.length : Int) then (if ((((rd_T39 bt118.1 0).f0.f0) == 0 && (((rd_T39 bt118.1 0).f0.f1) == 3)) && (((rd_T39 bt118.1 0).f1))) = true then (if (bt118.2.length : Int) = 2 then (if 0 < (bt118.2.length : Int) then (if (((rd_T35 bt118.2 0).f0) == 1 && (((rd_T35 bt118.2 0).f1) == 1)) = true then (if 1 < (bt118.2.length : Int) then (some (((rd_T35 bt118.2 1).f0) == 1 && (((rd_T35 bt118.2 1).f1) == 2))) else (none)) else (some false)) else (none)) else (some false)) else (some false)) else (none)) else (some false))) else (some false)) else (some false)) else (some false))) = some r := by first | (rw [hy115]; with_reducible exact H) | (have H2_ := (Option.bind_some _ _).symm.trans H; rw [hy115]; with_reducible exact H2_) | (have H2_ := (Option.bind_some _ _).symm.trans H; with_reducible exact H2_) | with_reducible exact H | (rw [hy115]; exact H) | exact H
 have Ny115 := Aside0.mk hy115
 clear hy115
 replace H := Option.bind_eq_some_iff.mp H
 obtain ⟨⟨t118, t119⟩, A30, H⟩ := H
 replace H : (if t111 = 3 then (if t112 = true then (if t113 = 0 then (if t114 = true then (some false) else (if (t118.length : Int) = 1 then (if 0 < (t118.length : Int) then (if ((((rd_T39 t118 0).f0.f0) == 0 && (((rd_T39 t118 0).f0.f1) == 3)) && (((rd_T39 t118 0).f1))) = true then (if (t119.length : Int) = 2 then (if 0 < (t119.length : Int) then (if (((rd_T35 t119 0).f0) == 1 && (((rd_T35 t119 0).f1) == 1)) = true then (if 1 < (t119.length : Int) then (some (((rd_T35 t119 1).f0) == 1 && (((rd_T35 t119 1).f1) == 2))) else (none)) else (some false)) else (none)) else (some false)) else (some false)) else (none)) else (some false))) else (some false)) else (some false)) else (some false)) = some r := H
 have A3 := Aside0.mk A30
 clear A30
 by_cases c4 : t111 = 3
 ·rw [if_pos c4] at H
  have c4b0 : (t111 == 3) = true := beq_iff_eq.mpr c4
  have c4b1 : (t111 != 3) = false := bne_eq_false_iff_eq.mpr c4
  clear c4
  by_cases c5 : t112 = true
  ·subst c5
   have H1 : (if t113 = 0 then (if t114 = true then (some false) else (if (t118.length : Int) = 1 then (if 0 < (t118.length : Int) then (if ((((rd_T39 t118 0).f0.f0) == 0 && (((rd_T39 t118 0).f0.f1) == 3)) && (((rd_T39 t118 0).f1))) = true then (if (t119.length : Int) = 2 then (if 0 < (t119.length : Int) then (if (((rd_T35 t119 0).f0) == 1 && (((rd_T35 t119 0).f1) == 1)) = true then (if 1 < (t119.length : Int) then (some (((rd_T35 t119 1).f0) == 1 && (((rd_T35 t119 1).f1) == 2))) else (none)) else (some false)) else (none)) else (some false)) else (some false)) else (none)) else (some false))) else (some false)) = some r := by rw [if_pos rfl] at H; exact H
   clear H
   have H := H1
   clear H1
   by_cases c6 : t113 = 0
   ·rw [if_pos c6] at H
    have c6b0 : (t113 == 0) = true := beq_iff_eq.mpr c6
    have c6b1 : (t113 != 0) = false := bne_eq_false_iff_eq.mpr c6
    clear c6
    by_cases c7 : t114 = true
    ·subst c7
     have H1 : (some false) = some r := by rw [if_pos rfl] at H; exact H
     clear H
     have H := H1
     clear H1
     obtain rfl := Option.some.inj H
     go_enter Try.func8, Try.ntmps8
     go_wp2_with (first | ((with_reducible refine gate_callee (f := 15) rfl ?_); refine goesL_ (some 8) rfl rfl Try.func15 (by kernel_rfl) rfl #[.int .u8 1, .int .u8 3] rfl (by (try simp only [List.map_toArray, List.map_cons, List.map_nil]); first | done | rfl | (simp only [List.length_drop, List.length_take]; rfl)) ?_; (with_reducible refine (jobs_Merge.calls k 1 3 t111 true _ A1.out).mono ?_); rintro e w' ⟨rfl, ⟨nd, rfl⟩⟩; refine ⟨_, rfl, ?_⟩) | ((with_reducible refine gate_callee (f := 15) rfl ?_); refine goesL_ (some 12) rfl rfl Try.func15 (by kernel_rfl) rfl #[.int .u8 2, .int .u8 1] rfl (by (try simp only [List.map_toArray, List.map_cons, List.map_nil]); first | done | rfl | (simp only [List.length_drop, List.length_take]; rfl)) ?_; (with_reducible refine (jobs_Merge.calls k 2 1 t113 true _ A2.out).mono ?_); rintro e w' ⟨rfl, ⟨nd, rfl⟩⟩; refine ⟨_, rfl, ?_⟩) | ((with_reducible refine gate_dst (N := 24) rfl ?_); (try (refine gate_guard (by rfl) ?_; dsimp only)); refine Kd.R_lit k39 _ 39 ?hg (N := 24) ?hd (xs := ([(⟨(⟨0, 1⟩ : S35), false⟩ : S39), (⟨(⟨0, 3⟩ : S35), true⟩ : S39), (⟨(⟨1, 2⟩ : S35), false⟩ : S39), (⟨(⟨1, 1⟩ : S35), false⟩ : S39)] : List (S39))) (inner := [.int .i64 0, .int .u8 1, .bool false, .int .i64 0, .int .u8 3, .bool true, .int .i64 1, .int .u8 2, .bool false, .int .i64 1, .int .u8 1, .bool false]) (ok := fun _ => True) (okp := fun _ => True) ?hr ?hp (fun _ hk => hk) trivial (Below.refl _ _) (Nat.le_refl _) (by simp) ?_; (case hd => rfl); (case hg => rfl); (case hr => first | (go_simp; done) | (go_simp; rfl)); (case hp => exact (Reps.c3 (show Kd.M k39 _ _ _ (⟨(⟨0, 1⟩ : S35), false⟩ : S39) [.int .i64 0, .int .u8 1, .bool false] from (k39_mkM _ _ _ (⟨(⟨0, 1⟩ : S35), false⟩ : S39) )) (Reps.c3 (show Kd.M k39 _ _ _ (⟨(⟨0, 3⟩ : S35), true⟩ : S39) [.int .i64 0, .int .u8 3, .bool true] from (k39_mkM _ _ _ (⟨(⟨0, 3⟩ : S35), true⟩ : S39) )) (Reps.c3 (show Kd.M k39 _ _ _ (⟨(⟨1, 2⟩ : S35), false⟩ : S39) [.int .i64 1, .int .u8 2, .bool false] from (k39_mkM _ _ _ (⟨(⟨1, 2⟩ : S35), false⟩ : S39) )) (Reps.c3 (show Kd.M k39 _ _ _ (⟨(⟨1, 1⟩ : S35), false⟩ : S39) [.int .i64 1, .int .u8 1, .bool false] from (k39_mkM _ _ _ (⟨(⟨1, 1⟩ : S35), false⟩ : S39) )) (Reps.none _ _)))))); intro v116 w8 ho9 hb hg_ hnew_; clear hg_ hnew_; (first | rw [← Ny115.out] at ho9 | (simp only [Int.reduceToNat] at ho9; rw [← Ny115.out] at ho9)); have n0_ := Aside0.mk (Kd.R_lower ho9 (below_size (BD HB))); have n1_ := BS HB hb; clear HB; have HO117 := n0_; have HB := n1_; clear n0_ n1_; clear hb ho9; obtain ⟨Ao10, co10, eo10⟩ := Kd.R_slice HO117.out; subst eo10) | ((with_reducible refine gate_callee (f := 11) rfl ?_); refine goesL_ (some 25) rfl rfl Try.func11 (by kernel_rfl) rfl #[.slice Ao10 y115.length co10] rfl (by (try simp only [List.map_toArray, List.map_cons, List.map_nil]); first | done | rfl | (simp only [List.length_drop, List.length_take]; rfl)) ?_; (with_reducible refine (jobs_Whole.calls _ _ y115 t118 t119 _ ?side1 ?side2 A3.out).mono ?_); (case side1 => exact CD ((Kd.R_reads' HO117.out).2.2)); (case side2 => exact (Kd.R_reads' HO117.out).2.1); rintro e w11 ⟨v120, v122, rfl, ho0, ho1, hb⟩; refine ⟨_, rfl, ?_⟩; have n0_ := RE HO117 hb (Kd.R_base ho0); have n1_ := Aside0.mk (Kd.R_lower (Kd.R_new' ho0 (Kd.R_lt (RD HO117))) (below_size (BD HB))); have n2_ := Aside0.mk (Kd.R_lower ho1 (below_size (BD HB))); have n3_ := BS HB hb; clear HO117; clear HB; have HO117 := n0_; have HO121 := n1_; have HO123 := n2_; have HB := n3_; clear n0_ n1_ n2_ n3_; (try clear hb); (try clear hb2); (try clear hk); (try clear hi); (try clear ho0); (try clear ho1)))
     go_ret
     exact ⟨by first | rfl | (simp [errW_none, errW_some] <;> rfl) | (simp [*, errW_none, errW_some] <;> rfl), BD HB⟩
    ·replace c7 := Bool.eq_false_iff.mpr c7
     subst c7
     have H1 : (if (t118.length : Int) = 1 then (if 0 < (t118.length : Int) then (if ((((rd_T39 t118 0).f0.f0) == 0 && (((rd_T39 t118 0).f0.f1) == 3)) && (((rd_T39 t118 0).f1))) = true then (if (t119.length : Int) = 2 then (if 0 < (t119.length : Int) then (if (((rd_T35 t119 0).f0) == 1 && (((rd_T35 t119 0).f1) == 1)) = true then (if 1 < (t119.length : Int) then (some (((rd_T35 t119 1).f0) == 1 && (((rd_T35 t119 1).f1) == 2))) else (none)) else (some false)) else (none)) else (some false)) else (some false)) else (none)) else (some false)) = some r := by rw [if_neg (show ¬ (false = true) by decide)] at H; exact H
     clear H
     have H := H1
     clear H1
     by_cases c12 : (t118.length : Int) = 1
     ·rw [if_pos c12] at H
      have c12b0 : ((t118.length : Int) == 1) = true := beq_iff_eq.mpr c12
      have c12b1 : ((t118.length : Int) != 1) = false := bne_eq_false_iff_eq.mpr c12
      clear c12
      by_cases c13 : 0 < (t118.length : Int)
      ·rw [if_pos c13] at H
       have c13b0 : decide (0 < (t118.length : Int)) = true := decide_eq_true c13
       have c13b1 : decide (0 < t118.length) = true := decide_eq_true (by omega)
       clear c13
       by_cases c14 : ((((rd_T39 t118 0).f0.f0) == 0 && (((rd_T39 t118 0).f0.f1) == 3)) && (((rd_T39 t118 0).f1))) = true
       ·rw [if_pos c14] at H
        have c14b0 : ((((rd_T39 t118 0).f0.f0) == 0 && (((rd_T39 t118 0).f0.f1) == 3)) && (((rd_T39 t118 0).f1))) = true := c14
        clear c14
        by_cases c15 : (t119.length : Int) = 2
        ·rw [if_pos c15] at H
         have c15b0 : ((t119.length : Int) == 2) = true := beq_iff_eq.mpr c15
         have c15b1 : ((t119.length : Int) != 2) = false := bne_eq_false_iff_eq.mpr c15
         clear c15
         by_cases c16 : 0 < (t119.length : Int)
         ·rw [if_pos c16] at H
          have c16b0 : decide (0 < (t119.length : Int)) = true := decide_eq_true c16
          have c16b1 : decide (0 < t119.length) = true := decide_eq_true (by omega)
          clear c16
          by_cases c17 : (((rd_T35 t119 0).f0) == 1 && (((rd_T35 t119 0).f1) == 1)) = true
          ·rw [if_pos c17] at H
           have c17b0 : (((rd_T35 t119 0).f0) == 1 && (((rd_T35 t119 0).f1) == 1)) = true := c17
           (try (have c17b1 : decide (((rd_T35 t119 0).f0) = 1 && (((rd_T35 t119 0).f1) == 1)) = true := by simpa using c17))
           (try (have c17b2 : (((rd_T35 t119 0).f0) == 1 && (((rd_T35 t119 0).f1) == 1)) = true := by simpa using c17))
           clear c17
           by_cases c18 : 1 < (t119.length : Int)
           ·rw [if_pos c18] at H
            have c18b0 : decide (1 < (t119.length : Int)) = true := decide_eq_true c18
            have c18b1 : decide (1 < t119.length) = true := decide_eq_true (by omega)
            clear c18
            obtain rfl := Option.some.inj H
            go_enter Try.func8, Try.ntmps8
            go_wp2_with (first | ((with_reducible refine gate_callee (f := 15) rfl ?_); refine goesL_ (some 8) rfl rfl Try.func15 (by kernel_rfl) rfl #[.int .u8 1, .int .u8 3] rfl (by (try simp only [List.map_toArray, List.map_cons, List.map_nil]); first | done | rfl | (simp only [List.length_drop, List.length_take]; rfl)) ?_; (with_reducible refine (jobs_Merge.calls k 1 3 t111 true _ A1.out).mono ?_); rintro e w' ⟨rfl, ⟨nd, rfl⟩⟩; refine ⟨_, rfl, ?_⟩) | ((with_reducible refine gate_callee (f := 15) rfl ?_); refine goesL_ (some 12) rfl rfl Try.func15 (by kernel_rfl) rfl #[.int .u8 2, .int .u8 1] rfl (by (try simp only [List.map_toArray, List.map_cons, List.map_nil]); first | done | rfl | (simp only [List.length_drop, List.length_take]; rfl)) ?_; (with_reducible refine (jobs_Merge.calls k 2 1 t113 false _ A2.out).mono ?_); rintro e w' ⟨rfl, ⟨nd, rfl⟩⟩; refine ⟨_, rfl, ?_⟩) | ((with_reducible refine gate_dst (N := 24) rfl ?_); (try (refine gate_guard (by rfl) ?_; dsimp only)); refine Kd.R_lit k39 _ 39 ?hg (N := 24) ?hd (xs := ([(⟨(⟨0, 1⟩ : S35), false⟩ : S39), (⟨(⟨0, 3⟩ : S35), true⟩ : S39), (⟨(⟨1, 2⟩ : S35), false⟩ : S39), (⟨(⟨1, 1⟩ : S35), false⟩ : S39)] : List (S39))) (inner := [.int .i64 0, .int .u8 1, .bool false, .int .i64 0, .int .u8 3, .bool true, .int .i64 1, .int .u8 2, .bool false, .int .i64 1, .int .u8 1, .bool false]) (ok := fun _ => True) (okp := fun _ => True) ?hr ?hp (fun _ hk => hk) trivial (Below.refl _ _) (Nat.le_refl _) (by simp) ?_; (case hd => rfl); (case hg => rfl); (case hr => first | (go_simp; done) | (go_simp; rfl)); (case hp => exact (Reps.c3 (show Kd.M k39 _ _ _ (⟨(⟨0, 1⟩ : S35), false⟩ : S39) [.int .i64 0, .int .u8 1, .bool false] from (k39_mkM _ _ _ (⟨(⟨0, 1⟩ : S35), false⟩ : S39) )) (Reps.c3 (show Kd.M k39 _ _ _ (⟨(⟨0, 3⟩ : S35), true⟩ : S39) [.int .i64 0, .int .u8 3, .bool true] from (k39_mkM _ _ _ (⟨(⟨0, 3⟩ : S35), true⟩ : S39) )) (Reps.c3 (show Kd.M k39 _ _ _ (⟨(⟨1, 2⟩ : S35), false⟩ : S39) [.int .i64 1, .int .u8 2, .bool false] from (k39_mkM _ _ _ (⟨(⟨1, 2⟩ : S35), false⟩ : S39) )) (Reps.c3 (show Kd.M k39 _ _ _ (⟨(⟨1, 1⟩ : S35), false⟩ : S39) [.int .i64 1, .int .u8 1, .bool false] from (k39_mkM _ _ _ (⟨(⟨1, 1⟩ : S35), false⟩ : S39) )) (Reps.none _ _)))))); intro v116 w19 ho20 hb hg_ hnew_; clear hg_ hnew_; (first | rw [← Ny115.out] at ho20 | (simp only [Int.reduceToNat] at ho20; rw [← Ny115.out] at ho20)); have n0_ := Aside0.mk (Kd.R_lower ho20 (below_size (BD HB))); have n1_ := BS HB hb; clear HB; have HO117 := n0_; have HB := n1_; clear n0_ n1_; clear hb ho20; obtain ⟨Ao21, co21, eo21⟩ := Kd.R_slice HO117.out; subst eo21) | ((with_reducible refine gate_callee (f := 11) rfl ?_); refine goesL_ (some 25) rfl rfl Try.func11 (by kernel_rfl) rfl #[.slice Ao21 y115.length co21] rfl (by (try simp only [List.map_toArray, List.map_cons, List.map_nil]); first | done | rfl | (simp only [List.length_drop, List.length_take]; rfl)) ?_; (with_reducible refine (jobs_Whole.calls _ _ y115 t118 t119 _ ?side1 ?side2 A3.out).mono ?_); (case side1 => exact CD ((Kd.R_reads' HO117.out).2.2)); (case side2 => exact (Kd.R_reads' HO117.out).2.1); rintro e w22 ⟨v120, v122, rfl, ho0, ho1, hb⟩; refine ⟨_, rfl, ?_⟩; have n0_ := RE HO117 hb (Kd.R_base ho0); have n1_ := Aside0.mk (Kd.R_lower (Kd.R_new' ho0 (Kd.R_lt (RD HO117))) (below_size (BD HB))); have n2_ := Aside0.mk (Kd.R_lower ho1 (below_size (BD HB))); have n3_ := BS HB hb; clear HO117; clear HB; have HO117 := n0_; have HO121 := n1_; have HO123 := n2_; have HB := n3_; clear n0_ n1_ n2_ n3_; (try clear hb); (try clear hb2); (try clear hk); (try clear hi); (try clear ho0); (try clear ho1); obtain ⟨Ao23, co23, eo23⟩ := Kd.R_slice HO121.out; subst eo23; have p124 : 0 ≤ (0 : Int) := (by omega); have q124 : 0 < (t118.length : Int) := of_decide_eq_true (by first | (with_reducible assumption) | assumption); obtain ⟨ad124, e124, hx124_0, hx124_1, hx124_2⟩ := at_T39 (Kd.R_reads' HO121.out).2.2 0 p124 q124; cases e124; have qi124 : (0 < t118.length) = True := eq_true (by omega); (try rw [show ((0 : Int)).toNat = 0 from rfl] at hx124_0); (try rw [show 0 * 3 = 0 from rfl] at hx124_0); (try rw [Addr.add_zero'] at hx124_0); (try rw [show ((0 : Int)).toNat = 0 from rfl] at hx124_1); (try rw [show 0 * 3 = 0 from rfl] at hx124_1); (try rw [Addr.add_zero'] at hx124_1); (try rw [show ((0 : Int)).toNat = 0 from rfl] at hx124_2); (try rw [show 0 * 3 = 0 from rfl] at hx124_2); (try rw [Addr.add_zero'] at hx124_2); replace p124 := eq_true p124; replace q124 := eq_true q124; obtain ⟨Ao24, co24, eo24⟩ := Kd.R_slice HO123.out; subst eo24; have p125 : 0 ≤ (0 : Int) := (by omega); have q125 : 0 < (t119.length : Int) := of_decide_eq_true (by first | (with_reducible assumption) | assumption); obtain ⟨ad125, e125, hx125_0, hx125_1⟩ := at_T35 (Kd.R_reads' HO123.out).2.2 0 p125 q125; cases e125; have qi125 : (0 < t119.length) = True := eq_true (by omega); (try rw [show ((0 : Int)).toNat = 0 from rfl] at hx125_0); (try rw [show 0 * 2 = 0 from rfl] at hx125_0); (try rw [Addr.add_zero'] at hx125_0); (try rw [show ((0 : Int)).toNat = 0 from rfl] at hx125_1); (try rw [show 0 * 2 = 0 from rfl] at hx125_1); (try rw [Addr.add_zero'] at hx125_1); replace p125 := eq_true p125; replace q125 := eq_true q125; have p126 : 0 ≤ (1 : Int) := (by omega); have q126 : 1 < (t119.length : Int) := of_decide_eq_true (by first | (with_reducible assumption) | assumption); obtain ⟨ad126, e126, hx126_0, hx126_1⟩ := at_T35 (Kd.R_reads' HO123.out).2.2 1 p126 q126; obtain rfl : ad125 = ad126 := (by injection e126); (try simp only [show (1 : Int).toNat = 1 from rfl, Nat.reduceMul, Nat.reduceEqDiff, Go.Addr.add, ↓reduceIte] at hx126_0); (try simp only [show (1 : Int).toNat = 1 from rfl, Nat.reduceMul, Nat.reduceEqDiff, Go.Addr.add, ↓reduceIte] at hx126_1); have qi126 : (1 < t119.length) = True := eq_true (by omega); (try rw [show ((1 : Int)).toNat = 1 from rfl] at hx126_0); (try rw [show 1 * 2 = 2 from rfl] at hx126_0); (try rw [show ((1 : Int)).toNat = 1 from rfl] at hx126_1); (try rw [show 1 * 2 = 2 from rfl] at hx126_1); replace p126 := eq_true p126; replace q126 := eq_true q126))
            go_ret
            exact ⟨by first | rfl | (simp [errW_none, errW_some] <;> rfl) | (simp [*, errW_none, errW_some] <;> rfl), BD HB⟩
           ·rw [if_neg c18] at H
            exact absurd H (by simp)
          ·rw [if_neg c17] at H
           have c17b0 : (((rd_T35 t119 0).f0) == 1 && (((rd_T35 t119 0).f1) == 1)) = false := by simpa using c17
           (try (have c17b1 : decide (((rd_T35 t119 0).f0) = 1 && (((rd_T35 t119 0).f1) == 1)) = false := by simpa using c17))
           (try (have c17b2 : (((rd_T35 t119 0).f0) == 1 && (((rd_T35 t119 0).f1) == 1)) = false := by simpa using c17))
           (try (have c17b3 : ¬ (((rd_T35 t119 0).f0) = 1 && (((rd_T35 t119 0).f1) == 1)) := by simpa using c17))
           clear c17
           obtain rfl := Option.some.inj H
           go_enter Try.func8, Try.ntmps8
           go_wp2_with (first | ((with_reducible refine gate_callee (f := 15) rfl ?_); refine goesL_ (some 8) rfl rfl Try.func15 (by kernel_rfl) rfl #[.int .u8 1, .int .u8 3] rfl (by (try simp only [List.map_toArray, List.map_cons, List.map_nil]); first | done | rfl | (simp only [List.length_drop, List.length_take]; rfl)) ?_; (with_reducible refine (jobs_Merge.calls k 1 3 t111 true _ A1.out).mono ?_); rintro e w' ⟨rfl, ⟨nd, rfl⟩⟩; refine ⟨_, rfl, ?_⟩) | ((with_reducible refine gate_callee (f := 15) rfl ?_); refine goesL_ (some 12) rfl rfl Try.func15 (by kernel_rfl) rfl #[.int .u8 2, .int .u8 1] rfl (by (try simp only [List.map_toArray, List.map_cons, List.map_nil]); first | done | rfl | (simp only [List.length_drop, List.length_take]; rfl)) ?_; (with_reducible refine (jobs_Merge.calls k 2 1 t113 false _ A2.out).mono ?_); rintro e w' ⟨rfl, ⟨nd, rfl⟩⟩; refine ⟨_, rfl, ?_⟩) | ((with_reducible refine gate_dst (N := 24) rfl ?_); (try (refine gate_guard (by rfl) ?_; dsimp only)); refine Kd.R_lit k39 _ 39 ?hg (N := 24) ?hd (xs := ([(⟨(⟨0, 1⟩ : S35), false⟩ : S39), (⟨(⟨0, 3⟩ : S35), true⟩ : S39), (⟨(⟨1, 2⟩ : S35), false⟩ : S39), (⟨(⟨1, 1⟩ : S35), false⟩ : S39)] : List (S39))) (inner := [.int .i64 0, .int .u8 1, .bool false, .int .i64 0, .int .u8 3, .bool true, .int .i64 1, .int .u8 2, .bool false, .int .i64 1, .int .u8 1, .bool false]) (ok := fun _ => True) (okp := fun _ => True) ?hr ?hp (fun _ hk => hk) trivial (Below.refl _ _) (Nat.le_refl _) (by simp) ?_; (case hd => rfl); (case hg => rfl); (case hr => first | (go_simp; done) | (go_simp; rfl)); (case hp => exact (Reps.c3 (show Kd.M k39 _ _ _ (⟨(⟨0, 1⟩ : S35), false⟩ : S39) [.int .i64 0, .int .u8 1, .bool false] from (k39_mkM _ _ _ (⟨(⟨0, 1⟩ : S35), false⟩ : S39) )) (Reps.c3 (show Kd.M k39 _ _ _ (⟨(⟨0, 3⟩ : S35), true⟩ : S39) [.int .i64 0, .int .u8 3, .bool true] from (k39_mkM _ _ _ (⟨(⟨0, 3⟩ : S35), true⟩ : S39) )) (Reps.c3 (show Kd.M k39 _ _ _ (⟨(⟨1, 2⟩ : S35), false⟩ : S39) [.int .i64 1, .int .u8 2, .bool false] from (k39_mkM _ _ _ (⟨(⟨1, 2⟩ : S35), false⟩ : S39) )) (Reps.c3 (show Kd.M k39 _ _ _ (⟨(⟨1, 1⟩ : S35), false⟩ : S39) [.int .i64 1, .int .u8 1, .bool false] from (k39_mkM _ _ _ (⟨(⟨1, 1⟩ : S35), false⟩ : S39) )) (Reps.none _ _)))))); intro v116 w25 ho26 hb hg_ hnew_; clear hg_ hnew_; (first | rw [← Ny115.out] at ho26 | (simp only [Int.reduceToNat] at ho26; rw [← Ny115.out] at ho26)); have n0_ := Aside0.mk (Kd.R_lower ho26 (below_size (BD HB))); have n1_ := BS HB hb; clear HB; have HO117 := n0_; have HB := n1_; clear n0_ n1_; clear hb ho26; obtain ⟨Ao27, co27, eo27⟩ := Kd.R_slice HO117.out; subst eo27) | ((with_reducible refine gate_callee (f := 11) rfl ?_); refine goesL_ (some 25) rfl rfl Try.func11 (by kernel_rfl) rfl #[.slice Ao27 y115.length co27] rfl (by (try simp only [List.map_toArray, List.map_cons, List.map_nil]); first | done | rfl | (simp only [List.length_drop, List.length_take]; rfl)) ?_; (with_reducible refine (jobs_Whole.calls _ _ y115 t118 t119 _ ?side1 ?side2 A3.out).mono ?_); (case side1 => exact CD ((Kd.R_reads' HO117.out).2.2)); (case side2 => exact (Kd.R_reads' HO117.out).2.1); rintro e w28 ⟨v120, v122, rfl, ho0, ho1, hb⟩; refine ⟨_, rfl, ?_⟩; have n0_ := RE HO117 hb (Kd.R_base ho0); have n1_ := Aside0.mk (Kd.R_lower (Kd.R_new' ho0 (Kd.R_lt (RD HO117))) (below_size (BD HB))); have n2_ := Aside0.mk (Kd.R_lower ho1 (below_size (BD HB))); have n3_ := BS HB hb; clear HO117; clear HB; have HO117 := n0_; have HO121 := n1_; have HO123 := n2_; have HB := n3_; clear n0_ n1_ n2_ n3_; (try clear hb); (try clear hb2); (try clear hk); (try clear hi); (try clear ho0); (try clear ho1); obtain ⟨Ao29, co29, eo29⟩ := Kd.R_slice HO121.out; subst eo29; have p124 : 0 ≤ (0 : Int) := (by omega); have q124 : 0 < (t118.length : Int) := of_decide_eq_true (by first | (with_reducible assumption) | assumption); obtain ⟨ad124, e124, hx124_0, hx124_1, hx124_2⟩ := at_T39 (Kd.R_reads' HO121.out).2.2 0 p124 q124; cases e124; have qi124 : (0 < t118.length) = True := eq_true (by omega); (try rw [show ((0 : Int)).toNat = 0 from rfl] at hx124_0); (try rw [show 0 * 3 = 0 from rfl] at hx124_0); (try rw [Addr.add_zero'] at hx124_0); (try rw [show ((0 : Int)).toNat = 0 from rfl] at hx124_1); (try rw [show 0 * 3 = 0 from rfl] at hx124_1); (try rw [Addr.add_zero'] at hx124_1); (try rw [show ((0 : Int)).toNat = 0 from rfl] at hx124_2); (try rw [show 0 * 3 = 0 from rfl] at hx124_2); (try rw [Addr.add_zero'] at hx124_2); replace p124 := eq_true p124; replace q124 := eq_true q124; obtain ⟨Ao30, co30, eo30⟩ := Kd.R_slice HO123.out; subst eo30; have p125 : 0 ≤ (0 : Int) := (by omega); have q125 : 0 < (t119.length : Int) := of_decide_eq_true (by first | (with_reducible assumption) | assumption); obtain ⟨ad125, e125, hx125_0, hx125_1⟩ := at_T35 (Kd.R_reads' HO123.out).2.2 0 p125 q125; cases e125; have qi125 : (0 < t119.length) = True := eq_true (by omega); (try rw [show ((0 : Int)).toNat = 0 from rfl] at hx125_0); (try rw [show 0 * 2 = 0 from rfl] at hx125_0); (try rw [Addr.add_zero'] at hx125_0); (try rw [show ((0 : Int)).toNat = 0 from rfl] at hx125_1); (try rw [show 0 * 2 = 0 from rfl] at hx125_1); (try rw [Addr.add_zero'] at hx125_1); replace p125 := eq_true p125; replace q125 := eq_true q125))
           go_ret
           exact ⟨by first | rfl | (simp [errW_none, errW_some] <;> rfl) | (simp [*, errW_none, errW_some] <;> rfl), BD HB⟩
         ·rw [if_neg c16] at H
          exact absurd H (by simp)
        ·rw [if_neg c15] at H
         have c15b0 : ((t119.length : Int) == 2) = false := beq_eq_false_iff_ne.mpr c15
         have c15b1 : ((t119.length : Int) != 2) = true := bne_iff_ne.mpr c15
         obtain rfl := Option.some.inj H
         go_enter Try.func8, Try.ntmps8
         go_wp2_with (first | ((with_reducible refine gate_callee (f := 15) rfl ?_); refine goesL_ (some 8) rfl rfl Try.func15 (by kernel_rfl) rfl #[.int .u8 1, .int .u8 3] rfl (by (try simp only [List.map_toArray, List.map_cons, List.map_nil]); first | done | rfl | (simp only [List.length_drop, List.length_take]; rfl)) ?_; (with_reducible refine (jobs_Merge.calls k 1 3 t111 true _ A1.out).mono ?_); rintro e w' ⟨rfl, ⟨nd, rfl⟩⟩; refine ⟨_, rfl, ?_⟩) | ((with_reducible refine gate_callee (f := 15) rfl ?_); refine goesL_ (some 12) rfl rfl Try.func15 (by kernel_rfl) rfl #[.int .u8 2, .int .u8 1] rfl (by (try simp only [List.map_toArray, List.map_cons, List.map_nil]); first | done | rfl | (simp only [List.length_drop, List.length_take]; rfl)) ?_; (with_reducible refine (jobs_Merge.calls k 2 1 t113 false _ A2.out).mono ?_); rintro e w' ⟨rfl, ⟨nd, rfl⟩⟩; refine ⟨_, rfl, ?_⟩) | ((with_reducible refine gate_dst (N := 24) rfl ?_); (try (refine gate_guard (by rfl) ?_; dsimp only)); refine Kd.R_lit k39 _ 39 ?hg (N := 24) ?hd (xs := ([(⟨(⟨0, 1⟩ : S35), false⟩ : S39), (⟨(⟨0, 3⟩ : S35), true⟩ : S39), (⟨(⟨1, 2⟩ : S35), false⟩ : S39), (⟨(⟨1, 1⟩ : S35), false⟩ : S39)] : List (S39))) (inner := [.int .i64 0, .int .u8 1, .bool false, .int .i64 0, .int .u8 3, .bool true, .int .i64 1, .int .u8 2, .bool false, .int .i64 1, .int .u8 1, .bool false]) (ok := fun _ => True) (okp := fun _ => True) ?hr ?hp (fun _ hk => hk) trivial (Below.refl _ _) (Nat.le_refl _) (by simp) ?_; (case hd => rfl); (case hg => rfl); (case hr => first | (go_simp; done) | (go_simp; rfl)); (case hp => exact (Reps.c3 (show Kd.M k39 _ _ _ (⟨(⟨0, 1⟩ : S35), false⟩ : S39) [.int .i64 0, .int .u8 1, .bool false] from (k39_mkM _ _ _ (⟨(⟨0, 1⟩ : S35), false⟩ : S39) )) (Reps.c3 (show Kd.M k39 _ _ _ (⟨(⟨0, 3⟩ : S35), true⟩ : S39) [.int .i64 0, .int .u8 3, .bool true] from (k39_mkM _ _ _ (⟨(⟨0, 3⟩ : S35), true⟩ : S39) )) (Reps.c3 (show Kd.M k39 _ _ _ (⟨(⟨1, 2⟩ : S35), false⟩ : S39) [.int .i64 1, .int .u8 2, .bool false] from (k39_mkM _ _ _ (⟨(⟨1, 2⟩ : S35), false⟩ : S39) )) (Reps.c3 (show Kd.M k39 _ _ _ (⟨(⟨1, 1⟩ : S35), false⟩ : S39) [.int .i64 1, .int .u8 1, .bool false] from (k39_mkM _ _ _ (⟨(⟨1, 1⟩ : S35), false⟩ : S39) )) (Reps.none _ _)))))); intro v116 w31 ho32 hb hg_ hnew_; clear hg_ hnew_; (first | rw [← Ny115.out] at ho32 | (simp only [Int.reduceToNat] at ho32; rw [← Ny115.out] at ho32)); have n0_ := Aside0.mk (Kd.R_lower ho32 (below_size (BD HB))); have n1_ := BS HB hb; clear HB; have HO117 := n0_; have HB := n1_; clear n0_ n1_; clear hb ho32; obtain ⟨Ao33, co33, eo33⟩ := Kd.R_slice HO117.out; subst eo33) | ((with_reducible refine gate_callee (f := 11) rfl ?_); refine goesL_ (some 25) rfl rfl Try.func11 (by kernel_rfl) rfl #[.slice Ao33 y115.length co33] rfl (by (try simp only [List.map_toArray, List.map_cons, List.map_nil]); first | done | rfl | (simp only [List.length_drop, List.length_take]; rfl)) ?_; (with_reducible refine (jobs_Whole.calls _ _ y115 t118 t119 _ ?side1 ?side2 A3.out).mono ?_); (case side1 => exact CD ((Kd.R_reads' HO117.out).2.2)); (case side2 => exact (Kd.R_reads' HO117.out).2.1); rintro e w34 ⟨v120, v122, rfl, ho0, ho1, hb⟩; refine ⟨_, rfl, ?_⟩; have n0_ := RE HO117 hb (Kd.R_base ho0); have n1_ := Aside0.mk (Kd.R_lower (Kd.R_new' ho0 (Kd.R_lt (RD HO117))) (below_size (BD HB))); have n2_ := Aside0.mk (Kd.R_lower ho1 (below_size (BD HB))); have n3_ := BS HB hb; clear HO117; clear HB; have HO117 := n0_; have HO121 := n1_; have HO123 := n2_; have HB := n3_; clear n0_ n1_ n2_ n3_; (try clear hb); (try clear hb2); (try clear hk); (try clear hi); (try clear ho0); (try clear ho1); obtain ⟨Ao35, co35, eo35⟩ := Kd.R_slice HO121.out; subst eo35; have p124 : 0 ≤ (0 : Int) := (by omega); have q124 : 0 < (t118.length : Int) := of_decide_eq_true (by first | (with_reducible assumption) | assumption); obtain ⟨ad124, e124, hx124_0, hx124_1, hx124_2⟩ := at_T39 (Kd.R_reads' HO121.out).2.2 0 p124 q124; cases e124; have qi124 : (0 < t118.length) = True := eq_true (by omega); (try rw [show ((0 : Int)).toNat = 0 from rfl] at hx124_0); (try rw [show 0 * 3 = 0 from rfl] at hx124_0); (try rw [Addr.add_zero'] at hx124_0); (try rw [show ((0 : Int)).toNat = 0 from rfl] at hx124_1); (try rw [show 0 * 3 = 0 from rfl] at hx124_1); (try rw [Addr.add_zero'] at hx124_1); (try rw [show ((0 : Int)).toNat = 0 from rfl] at hx124_2); (try rw [show 0 * 3 = 0 from rfl] at hx124_2); (try rw [Addr.add_zero'] at hx124_2); replace p124 := eq_true p124; replace q124 := eq_true q124; obtain ⟨Ao36, co36, eo36⟩ := Kd.R_slice HO123.out; subst eo36))
         go_ret
         exact ⟨by first | rfl | (simp [errW_none, errW_some] <;> rfl) | (simp [*, errW_none, errW_some] <;> rfl), BD HB⟩
       ·rw [if_neg c14] at H
        have c14b0 : ((((rd_T39 t118 0).f0.f0) == 0 && (((rd_T39 t118 0).f0.f1) == 3)) && (((rd_T39 t118 0).f1))) = false := by simpa using c14
        clear c14
        obtain rfl := Option.some.inj H
        go_enter Try.func8, Try.ntmps8
        go_wp2_with (first | ((with_reducible refine gate_callee (f := 15) rfl ?_); refine goesL_ (some 8) rfl rfl Try.func15 (by kernel_rfl) rfl #[.int .u8 1, .int .u8 3] rfl (by (try simp only [List.map_toArray, List.map_cons, List.map_nil]); first | done | rfl | (simp only [List.length_drop, List.length_take]; rfl)) ?_; (with_reducible refine (jobs_Merge.calls k 1 3 t111 true _ A1.out).mono ?_); rintro e w' ⟨rfl, ⟨nd, rfl⟩⟩; refine ⟨_, rfl, ?_⟩) | ((with_reducible refine gate_callee (f := 15) rfl ?_); refine goesL_ (some 12) rfl rfl Try.func15 (by kernel_rfl) rfl #[.int .u8 2, .int .u8 1] rfl (by (try simp only [List.map_toArray, List.map_cons, List.map_nil]); first | done | rfl | (simp only [List.length_drop, List.length_take]; rfl)) ?_; (with_reducible refine (jobs_Merge.calls k 2 1 t113 false _ A2.out).mono ?_); rintro e w' ⟨rfl, ⟨nd, rfl⟩⟩; refine ⟨_, rfl, ?_⟩) | ((with_reducible refine gate_dst (N := 24) rfl ?_); (try (refine gate_guard (by rfl) ?_; dsimp only)); refine Kd.R_lit k39 _ 39 ?hg (N := 24) ?hd (xs := ([(⟨(⟨0, 1⟩ : S35), false⟩ : S39), (⟨(⟨0, 3⟩ : S35), true⟩ : S39), (⟨(⟨1, 2⟩ : S35), false⟩ : S39), (⟨(⟨1, 1⟩ : S35), false⟩ : S39)] : List (S39))) (inner := [.int .i64 0, .int .u8 1, .bool false, .int .i64 0, .int .u8 3, .bool true, .int .i64 1, .int .u8 2, .bool false, .int .i64 1, .int .u8 1, .bool false]) (ok := fun _ => True) (okp := fun _ => True) ?hr ?hp (fun _ hk => hk) trivial (Below.refl _ _) (Nat.le_refl _) (by simp) ?_; (case hd => rfl); (case hg => rfl); (case hr => first | (go_simp; done) | (go_simp; rfl)); (case hp => exact (Reps.c3 (show Kd.M k39 _ _ _ (⟨(⟨0, 1⟩ : S35), false⟩ : S39) [.int .i64 0, .int .u8 1, .bool false] from (k39_mkM _ _ _ (⟨(⟨0, 1⟩ : S35), false⟩ : S39) )) (Reps.c3 (show Kd.M k39 _ _ _ (⟨(⟨0, 3⟩ : S35), true⟩ : S39) [.int .i64 0, .int .u8 3, .bool true] from (k39_mkM _ _ _ (⟨(⟨0, 3⟩ : S35), true⟩ : S39) )) (Reps.c3 (show Kd.M k39 _ _ _ (⟨(⟨1, 2⟩ : S35), false⟩ : S39) [.int .i64 1, .int .u8 2, .bool false] from (k39_mkM _ _ _ (⟨(⟨1, 2⟩ : S35), false⟩ : S39) )) (Reps.c3 (show Kd.M k39 _ _ _ (⟨(⟨1, 1⟩ : S35), false⟩ : S39) [.int .i64 1, .int .u8 1, .bool false] from (k39_mkM _ _ _ (⟨(⟨1, 1⟩ : S35), false⟩ : S39) )) (Reps.none _ _)))))); intro v116 w37 ho38 hb hg_ hnew_; clear hg_ hnew_; (first | rw [← Ny115.out] at ho38 | (simp only [Int.reduceToNat] at ho38; rw [← Ny115.out] at ho38)); have n0_ := Aside0.mk (Kd.R_lower ho38 (below_size (BD HB))); have n1_ := BS HB hb; clear HB; have HO117 := n0_; have HB := n1_; clear n0_ n1_; clear hb ho38; obtain ⟨Ao39, co39, eo39⟩ := Kd.R_slice HO117.out; subst eo39) | ((with_reducible refine gate_callee (f := 11) rfl ?_); refine goesL_ (some 25) rfl rfl Try.func11 (by kernel_rfl) rfl #[.slice Ao39 y115.length co39] rfl (by (try simp only [List.map_toArray, List.map_cons, List.map_nil]); first | done | rfl | (simp only [List.length_drop, List.length_take]; rfl)) ?_; (with_reducible refine (jobs_Whole.calls _ _ y115 t118 t119 _ ?side1 ?side2 A3.out).mono ?_); (case side1 => exact CD ((Kd.R_reads' HO117.out).2.2)); (case side2 => exact (Kd.R_reads' HO117.out).2.1); rintro e w40 ⟨v120, v122, rfl, ho0, ho1, hb⟩; refine ⟨_, rfl, ?_⟩; have n0_ := RE HO117 hb (Kd.R_base ho0); have n1_ := Aside0.mk (Kd.R_lower (Kd.R_new' ho0 (Kd.R_lt (RD HO117))) (below_size (BD HB))); have n2_ := Aside0.mk (Kd.R_lower ho1 (below_size (BD HB))); have n3_ := BS HB hb; clear HO117; clear HB; have HO117 := n0_; have HO121 := n1_; have HO123 := n2_; have HB := n3_; clear n0_ n1_ n2_ n3_; (try clear hb); (try clear hb2); (try clear hk); (try clear hi); (try clear ho0); (try clear ho1); obtain ⟨Ao41, co41, eo41⟩ := Kd.R_slice HO121.out; subst eo41; have p124 : 0 ≤ (0 : Int) := (by omega); have q124 : 0 < (t118.length : Int) := of_decide_eq_true (by first | (with_reducible assumption) | assumption); obtain ⟨ad124, e124, hx124_0, hx124_1, hx124_2⟩ := at_T39 (Kd.R_reads' HO121.out).2.2 0 p124 q124; cases e124; have qi124 : (0 < t118.length) = True := eq_true (by omega); (try rw [show ((0 : Int)).toNat = 0 from rfl] at hx124_0); (try rw [show 0 * 3 = 0 from rfl] at hx124_0); (try rw [Addr.add_zero'] at hx124_0); (try rw [show ((0 : Int)).toNat = 0 from rfl] at hx124_1); (try rw [show 0 * 3 = 0 from rfl] at hx124_1); (try rw [Addr.add_zero'] at hx124_1); (try rw [show ((0 : Int)).toNat = 0 from rfl] at hx124_2); (try rw [show 0 * 3 = 0 from rfl] at hx124_2); (try rw [Addr.add_zero'] at hx124_2); replace p124 := eq_true p124; replace q124 := eq_true q124))
        go_ret
        exact ⟨by first | rfl | (simp [errW_none, errW_some] <;> rfl) | (simp [*, errW_none, errW_some] <;> rfl), BD HB⟩
      ·rw [if_neg c13] at H
       exact absurd H (by simp)
     ·rw [if_neg c12] at H
      have c12b0 : ((t118.length : Int) == 1) = false := beq_eq_false_iff_ne.mpr c12
      have c12b1 : ((t118.length : Int) != 1) = true := bne_iff_ne.mpr c12
      obtain rfl := Option.some.inj H
      go_enter Try.func8, Try.ntmps8
      go_wp2_with (first | ((with_reducible refine gate_callee (f := 15) rfl ?_); refine goesL_ (some 8) rfl rfl Try.func15 (by kernel_rfl) rfl #[.int .u8 1, .int .u8 3] rfl (by (try simp only [List.map_toArray, List.map_cons, List.map_nil]); first | done | rfl | (simp only [List.length_drop, List.length_take]; rfl)) ?_; (with_reducible refine (jobs_Merge.calls k 1 3 t111 true _ A1.out).mono ?_); rintro e w' ⟨rfl, ⟨nd, rfl⟩⟩; refine ⟨_, rfl, ?_⟩) | ((with_reducible refine gate_callee (f := 15) rfl ?_); refine goesL_ (some 12) rfl rfl Try.func15 (by kernel_rfl) rfl #[.int .u8 2, .int .u8 1] rfl (by (try simp only [List.map_toArray, List.map_cons, List.map_nil]); first | done | rfl | (simp only [List.length_drop, List.length_take]; rfl)) ?_; (with_reducible refine (jobs_Merge.calls k 2 1 t113 false _ A2.out).mono ?_); rintro e w' ⟨rfl, ⟨nd, rfl⟩⟩; refine ⟨_, rfl, ?_⟩) | ((with_reducible refine gate_dst (N := 24) rfl ?_); (try (refine gate_guard (by rfl) ?_; dsimp only)); refine Kd.R_lit k39 _ 39 ?hg (N := 24) ?hd (xs := ([(⟨(⟨0, 1⟩ : S35), false⟩ : S39), (⟨(⟨0, 3⟩ : S35), true⟩ : S39), (⟨(⟨1, 2⟩ : S35), false⟩ : S39), (⟨(⟨1, 1⟩ : S35), false⟩ : S39)] : List (S39))) (inner := [.int .i64 0, .int .u8 1, .bool false, .int .i64 0, .int .u8 3, .bool true, .int .i64 1, .int .u8 2, .bool false, .int .i64 1, .int .u8 1, .bool false]) (ok := fun _ => True) (okp := fun _ => True) ?hr ?hp (fun _ hk => hk) trivial (Below.refl _ _) (Nat.le_refl _) (by simp) ?_; (case hd => rfl); (case hg => rfl); (case hr => first | (go_simp; done) | (go_simp; rfl)); (case hp => exact (Reps.c3 (show Kd.M k39 _ _ _ (⟨(⟨0, 1⟩ : S35), false⟩ : S39) [.int .i64 0, .int .u8 1, .bool false] from (k39_mkM _ _ _ (⟨(⟨0, 1⟩ : S35), false⟩ : S39) )) (Reps.c3 (show Kd.M k39 _ _ _ (⟨(⟨0, 3⟩ : S35), true⟩ : S39) [.int .i64 0, .int .u8 3, .bool true] from (k39_mkM _ _ _ (⟨(⟨0, 3⟩ : S35), true⟩ : S39) )) (Reps.c3 (show Kd.M k39 _ _ _ (⟨(⟨1, 2⟩ : S35), false⟩ : S39) [.int .i64 1, .int .u8 2, .bool false] from (k39_mkM _ _ _ (⟨(⟨1, 2⟩ : S35), false⟩ : S39) )) (Reps.c3 (show Kd.M k39 _ _ _ (⟨(⟨1, 1⟩ : S35), false⟩ : S39) [.int .i64 1, .int .u8 1, .bool false] from (k39_mkM _ _ _ (⟨(⟨1, 1⟩ : S35), false⟩ : S39) )) (Reps.none _ _)))))); intro v116 w42 ho43 hb hg_ hnew_; clear hg_ hnew_; (first | rw [← Ny115.out] at ho43 | (simp only [Int.reduceToNat] at ho43; rw [← Ny115.out] at ho43)); have n0_ := Aside0.mk (Kd.R_lower ho43 (below_size (BD HB))); have n1_ := BS HB hb; clear HB; have HO117 := n0_; have HB := n1_; clear n0_ n1_; clear hb ho43; obtain ⟨Ao44, co44, eo44⟩ := Kd.R_slice HO117.out; subst eo44) | ((with_reducible refine gate_callee (f := 11) rfl ?_); refine goesL_ (some 25) rfl rfl Try.func11 (by kernel_rfl) rfl #[.slice Ao44 y115.length co44] rfl (by (try simp only [List.map_toArray, List.map_cons, List.map_nil]); first | done | rfl | (simp only [List.length_drop, List.length_take]; rfl)) ?_; (with_reducible refine (jobs_Whole.calls _ _ y115 t118 t119 _ ?side1 ?side2 A3.out).mono ?_); (case side1 => exact CD ((Kd.R_reads' HO117.out).2.2)); (case side2 => exact (Kd.R_reads' HO117.out).2.1); rintro e w45 ⟨v120, v122, rfl, ho0, ho1, hb⟩; refine ⟨_, rfl, ?_⟩; have n0_ := RE HO117 hb (Kd.R_base ho0); have n1_ := Aside0.mk (Kd.R_lower (Kd.R_new' ho0 (Kd.R_lt (RD HO117))) (below_size (BD HB))); have n2_ := Aside0.mk (Kd.R_lower ho1 (below_size (BD HB))); have n3_ := BS HB hb; clear HO117; clear HB; have HO117 := n0_; have HO121 := n1_; have HO123 := n2_; have HB := n3_; clear n0_ n1_ n2_ n3_; (try clear hb); (try clear hb2); (try clear hk); (try clear hi); (try clear ho0); (try clear ho1); obtain ⟨Ao46, co46, eo46⟩ := Kd.R_slice HO121.out; subst eo46))
      go_ret
      exact ⟨by first | rfl | (simp [errW_none, errW_some] <;> rfl) | (simp [*, errW_none, errW_some] <;> rfl), BD HB⟩
   ·rw [if_neg c6] at H
    have c6b0 : (t113 == 0) = false := beq_eq_false_iff_ne.mpr c6
    have c6b1 : (t113 != 0) = true := bne_iff_ne.mpr c6
    obtain rfl := Option.some.inj H
    go_enter Try.func8, Try.ntmps8
    go_wp2_with (first | ((with_reducible refine gate_callee (f := 15) rfl ?_); refine goesL_ (some 8) rfl rfl Try.func15 (by kernel_rfl) rfl #[.int .u8 1, .int .u8 3] rfl (by (try simp only [List.map_toArray, List.map_cons, List.map_nil]); first | done | rfl | (simp only [List.length_drop, List.length_take]; rfl)) ?_; (with_reducible refine (jobs_Merge.calls k 1 3 t111 true _ A1.out).mono ?_); rintro e w' ⟨rfl, ⟨nd, rfl⟩⟩; refine ⟨_, rfl, ?_⟩) | ((with_reducible refine gate_callee (f := 15) rfl ?_); refine goesL_ (some 12) rfl rfl Try.func15 (by kernel_rfl) rfl #[.int .u8 2, .int .u8 1] rfl (by (try simp only [List.map_toArray, List.map_cons, List.map_nil]); first | done | rfl | (simp only [List.length_drop, List.length_take]; rfl)) ?_; (with_reducible refine (jobs_Merge.calls k 2 1 t113 t114 _ A2.out).mono ?_); rintro e w' ⟨rfl, ⟨nd, rfl⟩⟩; refine ⟨_, rfl, ?_⟩) | ((with_reducible refine gate_dst (N := 24) rfl ?_); (try (refine gate_guard (by rfl) ?_; dsimp only)); refine Kd.R_lit k39 _ 39 ?hg (N := 24) ?hd (xs := ([(⟨(⟨0, 1⟩ : S35), false⟩ : S39), (⟨(⟨0, 3⟩ : S35), true⟩ : S39), (⟨(⟨1, 2⟩ : S35), false⟩ : S39), (⟨(⟨1, 1⟩ : S35), false⟩ : S39)] : List (S39))) (inner := [.int .i64 0, .int .u8 1, .bool false, .int .i64 0, .int .u8 3, .bool true, .int .i64 1, .int .u8 2, .bool false, .int .i64 1, .int .u8 1, .bool false]) (ok := fun _ => True) (okp := fun _ => True) ?hr ?hp (fun _ hk => hk) trivial (Below.refl _ _) (Nat.le_refl _) (by simp) ?_; (case hd => rfl); (case hg => rfl); (case hr => first | (go_simp; done) | (go_simp; rfl)); (case hp => exact (Reps.c3 (show Kd.M k39 _ _ _ (⟨(⟨0, 1⟩ : S35), false⟩ : S39) [.int .i64 0, .int .u8 1, .bool false] from (k39_mkM _ _ _ (⟨(⟨0, 1⟩ : S35), false⟩ : S39) )) (Reps.c3 (show Kd.M k39 _ _ _ (⟨(⟨0, 3⟩ : S35), true⟩ : S39) [.int .i64 0, .int .u8 3, .bool true] from (k39_mkM _ _ _ (⟨(⟨0, 3⟩ : S35), true⟩ : S39) )) (Reps.c3 (show Kd.M k39 _ _ _ (⟨(⟨1, 2⟩ : S35), false⟩ : S39) [.int .i64 1, .int .u8 2, .bool false] from (k39_mkM _ _ _ (⟨(⟨1, 2⟩ : S35), false⟩ : S39) )) (Reps.c3 (show Kd.M k39 _ _ _ (⟨(⟨1, 1⟩ : S35), false⟩ : S39) [.int .i64 1, .int .u8 1, .bool false] from (k39_mkM _ _ _ (⟨(⟨1, 1⟩ : S35), false⟩ : S39) )) (Reps.none _ _)))))); intro v116 w47 ho48 hb hg_ hnew_; clear hg_ hnew_; (first | rw [← Ny115.out] at ho48 | (simp only [Int.reduceToNat] at ho48; rw [← Ny115.out] at ho48)); have n0_ := Aside0.mk (Kd.R_lower ho48 (below_size (BD HB))); have n1_ := BS HB hb; clear HB; have HO117 := n0_; have HB := n1_; clear n0_ n1_; clear hb ho48; obtain ⟨Ao49, co49, eo49⟩ := Kd.R_slice HO117.out; subst eo49) | ((with_reducible refine gate_callee (f := 11) rfl ?_); refine goesL_ (some 25) rfl rfl Try.func11 (by kernel_rfl) rfl #[.slice Ao49 y115.length co49] rfl (by (try simp only [List.map_toArray, List.map_cons, List.map_nil]); first | done | rfl | (simp only [List.length_drop, List.length_take]; rfl)) ?_; (with_reducible refine (jobs_Whole.calls _ _ y115 t118 t119 _ ?side1 ?side2 A3.out).mono ?_); (case side1 => exact CD ((Kd.R_reads' HO117.out).2.2)); (case side2 => exact (Kd.R_reads' HO117.out).2.1); rintro e w50 ⟨v120, v122, rfl, ho0, ho1, hb⟩; refine ⟨_, rfl, ?_⟩; have n0_ := RE HO117 hb (Kd.R_base ho0); have n1_ := Aside0.mk (Kd.R_lower (Kd.R_new' ho0 (Kd.R_lt (RD HO117))) (below_size (BD HB))); have n2_ := Aside0.mk (Kd.R_lower ho1 (below_size (BD HB))); have n3_ := BS HB hb; clear HO117; clear HB; have HO117 := n0_; have HO121 := n1_; have HO123 := n2_; have HB := n3_; clear n0_ n1_ n2_ n3_; (try clear hb); (try clear hb2); (try clear hk); (try clear hi); (try clear ho0); (try clear ho1)))
    go_ret
    exact ⟨by first | rfl | (simp [errW_none, errW_some] <;> rfl) | (simp [*, errW_none, errW_some] <;> rfl), BD HB⟩
  ·replace c5 := Bool.eq_false_iff.mpr c5
   subst c5
   have H1 : (some false) = some r := by rw [if_neg (show ¬ (false = true) by decide)] at H; exact H
   clear H
   have H := H1
   clear H1
   obtain rfl := Option.some.inj H
   go_enter Try.func8, Try.ntmps8
   go_wp2_with (first | ((with_reducible refine gate_callee (f := 15) rfl ?_); refine goesL_ (some 8) rfl rfl Try.func15 (by kernel_rfl) rfl #[.int .u8 1, .int .u8 3] rfl (by (try simp only [List.map_toArray, List.map_cons, List.map_nil]); first | done | rfl | (simp only [List.length_drop, List.length_take]; rfl)) ?_; (with_reducible refine (jobs_Merge.calls k 1 3 t111 false _ A1.out).mono ?_); rintro e w' ⟨rfl, ⟨nd, rfl⟩⟩; refine ⟨_, rfl, ?_⟩) | ((with_reducible refine gate_callee (f := 15) rfl ?_); refine goesL_ (some 12) rfl rfl Try.func15 (by kernel_rfl) rfl #[.int .u8 2, .int .u8 1] rfl (by (try simp only [List.map_toArray, List.map_cons, List.map_nil]); first | done | rfl | (simp only [List.length_drop, List.length_take]; rfl)) ?_; (with_reducible refine (jobs_Merge.calls k 2 1 t113 t114 _ A2.out).mono ?_); rintro e w' ⟨rfl, ⟨nd, rfl⟩⟩; refine ⟨_, rfl, ?_⟩) | ((with_reducible refine gate_dst (N := 24) rfl ?_); (try (refine gate_guard (by rfl) ?_; dsimp only)); refine Kd.R_lit k39 _ 39 ?hg (N := 24) ?hd (xs := ([(⟨(⟨0, 1⟩ : S35), false⟩ : S39), (⟨(⟨0, 3⟩ : S35), true⟩ : S39), (⟨(⟨1, 2⟩ : S35), false⟩ : S39), (⟨(⟨1, 1⟩ : S35), false⟩ : S39)] : List (S39))) (inner := [.int .i64 0, .int .u8 1, .bool false, .int .i64 0, .int .u8 3, .bool true, .int .i64 1, .int .u8 2, .bool false, .int .i64 1, .int .u8 1, .bool false]) (ok := fun _ => True) (okp := fun _ => True) ?hr ?hp (fun _ hk => hk) trivial (Below.refl _ _) (Nat.le_refl _) (by simp) ?_; (case hd => rfl); (case hg => rfl); (case hr => first | (go_simp; done) | (go_simp; rfl)); (case hp => exact (Reps.c3 (show Kd.M k39 _ _ _ (⟨(⟨0, 1⟩ : S35), false⟩ : S39) [.int .i64 0, .int .u8 1, .bool false] from (k39_mkM _ _ _ (⟨(⟨0, 1⟩ : S35), false⟩ : S39) )) (Reps.c3 (show Kd.M k39 _ _ _ (⟨(⟨0, 3⟩ : S35), true⟩ : S39) [.int .i64 0, .int .u8 3, .bool true] from (k39_mkM _ _ _ (⟨(⟨0, 3⟩ : S35), true⟩ : S39) )) (Reps.c3 (show Kd.M k39 _ _ _ (⟨(⟨1, 2⟩ : S35), false⟩ : S39) [.int .i64 1, .int .u8 2, .bool false] from (k39_mkM _ _ _ (⟨(⟨1, 2⟩ : S35), false⟩ : S39) )) (Reps.c3 (show Kd.M k39 _ _ _ (⟨(⟨1, 1⟩ : S35), false⟩ : S39) [.int .i64 1, .int .u8 1, .bool false] from (k39_mkM _ _ _ (⟨(⟨1, 1⟩ : S35), false⟩ : S39) )) (Reps.none _ _)))))); intro v116 w51 ho52 hb hg_ hnew_; clear hg_ hnew_; (first | rw [← Ny115.out] at ho52 | (simp only [Int.reduceToNat] at ho52; rw [← Ny115.out] at ho52)); have n0_ := Aside0.mk (Kd.R_lower ho52 (below_size (BD HB))); have n1_ := BS HB hb; clear HB; have HO117 := n0_; have HB := n1_; clear n0_ n1_; clear hb ho52; obtain ⟨Ao53, co53, eo53⟩ := Kd.R_slice HO117.out; subst eo53) | ((with_reducible refine gate_callee (f := 11) rfl ?_); refine goesL_ (some 25) rfl rfl Try.func11 (by kernel_rfl) rfl #[.slice Ao53 y115.length co53] rfl (by (try simp only [List.map_toArray, List.map_cons, List.map_nil]); first | done | rfl | (simp only [List.length_drop, List.length_take]; rfl)) ?_; (with_reducible refine (jobs_Whole.calls _ _ y115 t118 t119 _ ?side1 ?side2 A3.out).mono ?_); (case side1 => exact CD ((Kd.R_reads' HO117.out).2.2)); (case side2 => exact (Kd.R_reads' HO117.out).2.1); rintro e w54 ⟨v120, v122, rfl, ho0, ho1, hb⟩; refine ⟨_, rfl, ?_⟩; have n0_ := RE HO117 hb (Kd.R_base ho0); have n1_ := Aside0.mk (Kd.R_lower (Kd.R_new' ho0 (Kd.R_lt (RD HO117))) (below_size (BD HB))); have n2_ := Aside0.mk (Kd.R_lower ho1 (below_size (BD HB))); have n3_ := BS HB hb; clear HO117; clear HB; have HO117 := n0_; have HO121 := n1_; have HO123 := n2_; have HB := n3_; clear n0_ n1_ n2_ n3_; (try clear hb); (try clear hb2); (try clear hk); (try clear hi); (try clear ho0); (try clear ho1)))
   go_ret
   exact ⟨by first | rfl | (simp [errW_none, errW_some] <;> rfl) | (simp [*, errW_none, errW_some] <;> rfl), BD HB⟩
 ·rw [if_neg c4] at H
  have c4b0 : (t111 == 3) = false := beq_eq_false_iff_ne.mpr c4
  have c4b1 : (t111 != 3) = true := bne_iff_ne.mpr c4
  obtain rfl := Option.some.inj H
  go_enter Try.func8, Try.ntmps8
  go_wp2_with (first | ((with_reducible refine gate_callee (f := 15) rfl ?_); refine goesL_ (some 8) rfl rfl Try.func15 (by kernel_rfl) rfl #[.int .u8 1, .int .u8 3] rfl (by (try simp only [List.map_toArray, List.map_cons, List.map_nil]); first | done | rfl | (simp only [List.length_drop, List.length_take]; rfl)) ?_; (with_reducible refine (jobs_Merge.calls k 1 3 t111 t112 _ A1.out).mono ?_); rintro e w' ⟨rfl, ⟨nd, rfl⟩⟩; refine ⟨_, rfl, ?_⟩) | ((with_reducible refine gate_callee (f := 15) rfl ?_); refine goesL_ (some 12) rfl rfl Try.func15 (by kernel_rfl) rfl #[.int .u8 2, .int .u8 1] rfl (by (try simp only [List.map_toArray, List.map_cons, List.map_nil]); first | done | rfl | (simp only [List.length_drop, List.length_take]; rfl)) ?_; (with_reducible refine (jobs_Merge.calls k 2 1 t113 t114 _ A2.out).mono ?_); rintro e w' ⟨rfl, ⟨nd, rfl⟩⟩; refine ⟨_, rfl, ?_⟩) | ((with_reducible refine gate_dst (N := 24) rfl ?_); (try (refine gate_guard (by rfl) ?_; dsimp only)); refine Kd.R_lit k39 _ 39 ?hg (N := 24) ?hd (xs := ([(⟨(⟨0, 1⟩ : S35), false⟩ : S39), (⟨(⟨0, 3⟩ : S35), true⟩ : S39), (⟨(⟨1, 2⟩ : S35), false⟩ : S39), (⟨(⟨1, 1⟩ : S35), false⟩ : S39)] : List (S39))) (inner := [.int .i64 0, .int .u8 1, .bool false, .int .i64 0, .int .u8 3, .bool true, .int .i64 1, .int .u8 2, .bool false, .int .i64 1, .int .u8 1, .bool false]) (ok := fun _ => True) (okp := fun _ => True) ?hr ?hp (fun _ hk => hk) trivial (Below.refl _ _) (Nat.le_refl _) (by simp) ?_; (case hd => rfl); (case hg => rfl); (case hr => first | (go_simp; done) | (go_simp; rfl)); (case hp => exact (Reps.c3 (show Kd.M k39 _ _ _ (⟨(⟨0, 1⟩ : S35), false⟩ : S39) [.int .i64 0, .int .u8 1, .bool false] from (k39_mkM _ _ _ (⟨(⟨0, 1⟩ : S35), false⟩ : S39) )) (Reps.c3 (show Kd.M k39 _ _ _ (⟨(⟨0, 3⟩ : S35), true⟩ : S39) [.int .i64 0, .int .u8 3, .bool true] from (k39_mkM _ _ _ (⟨(⟨0, 3⟩ : S35), true⟩ : S39) )) (Reps.c3 (show Kd.M k39 _ _ _ (⟨(⟨1, 2⟩ : S35), false⟩ : S39) [.int .i64 1, .int .u8 2, .bool false] from (k39_mkM _ _ _ (⟨(⟨1, 2⟩ : S35), false⟩ : S39) )) (Reps.c3 (show Kd.M k39 _ _ _ (⟨(⟨1, 1⟩ : S35), false⟩ : S39) [.int .i64 1, .int .u8 1, .bool false] from (k39_mkM _ _ _ (⟨(⟨1, 1⟩ : S35), false⟩ : S39) )) (Reps.none _ _)))))); intro v116 w55 ho56 hb hg_ hnew_; clear hg_ hnew_; (first | rw [← Ny115.out] at ho56 | (simp only [Int.reduceToNat] at ho56; rw [← Ny115.out] at ho56)); have n0_ := Aside0.mk (Kd.R_lower ho56 (below_size (BD HB))); have n1_ := BS HB hb; clear HB; have HO117 := n0_; have HB := n1_; clear n0_ n1_; clear hb ho56; obtain ⟨Ao57, co57, eo57⟩ := Kd.R_slice HO117.out; subst eo57) | ((with_reducible refine gate_callee (f := 11) rfl ?_); refine goesL_ (some 25) rfl rfl Try.func11 (by kernel_rfl) rfl #[.slice Ao57 y115.length co57] rfl (by (try simp only [List.map_toArray, List.map_cons, List.map_nil]); first | done | rfl | (simp only [List.length_drop, List.length_take]; rfl)) ?_; (with_reducible refine (jobs_Whole.calls _ _ y115 t118 t119 _ ?side1 ?side2 A3.out).mono ?_); (case side1 => exact CD ((Kd.R_reads' HO117.out).2.2)); (case side2 => exact (Kd.R_reads' HO117.out).2.1); rintro e w58 ⟨v120, v122, rfl, ho0, ho1, hb⟩; refine ⟨_, rfl, ?_⟩; have n0_ := RE HO117 hb (Kd.R_base ho0); have n1_ := Aside0.mk (Kd.R_lower (Kd.R_new' ho0 (Kd.R_lt (RD HO117))) (below_size (BD HB))); have n2_ := Aside0.mk (Kd.R_lower ho1 (below_size (BD HB))); have n3_ := BS HB hb; clear HO117; clear HB; have HO117 := n0_; have HO121 := n1_; have HO123 := n2_; have HB := n3_; clear n0_ n1_ n2_ n3_; (try clear hb); (try clear hb2); (try clear hk); (try clear hi); (try clear ho0); (try clear ho1)))
  go_ret
  exact ⟨by first | rfl | (simp [errW_none, errW_some] <;> rfl) | (simp [*, errW_none, errW_some] <;> rfl), BD HB⟩

/-! ### clepsydralaw20_plain: function 9 -/
def clepsydralaw20_plain.l0 : Nat → List (S39) → List (S37) → Int → Option ((List (S37)))
 | 0, _, _, _ => none
 | k + 1, x0, x3, x4 => if x4 < (x0.length : Int) then (if 0 ≤ x4 then (if x3.length < 8796093022208 then (clepsydralaw20_plain.l0 k x0 (x3 ++ [(⟨(rd_T39 x0 x4).f0.f0, (rd_T39 x0 x4).f0.f1, (rd_T39 x0 x4).f1⟩ : S37)]) (wrap64 (x4 + 1))) else (none)) else (none)) else (some x3)
def clepsydralaw20_plain.f (k : Nat) (l0 : List (S39)) : Option ((List (S37))) := clepsydralaw20_plain.l0 k l0 ([] : List (S37)) 0
theorem clepsydralaw20_plain.mono_l : ∀ k, (∀ y0 y1 y2, LeO (clepsydralaw20_plain.l0 k y0 y1 y2) (clepsydralaw20_plain.l0 (k + 1) y0 y1 y2))
 | 0 => fun _ _ _ r h => by simp [clepsydralaw20_plain.l0] at h
 | k + 1 => by
  have ih0 := clepsydralaw20_plain.mono_l k
  ·intro y0 y1 y2
   unfold clepsydralaw20_plain.l0
   repeat' first
   | (with_reducible exact ih0 _ _ _)
   | (with_reducible exact LeO.refl _)
   | (with_reducible exact LeO.none _)
   | (with_reducible refine LeO.ite ?_ ?_)
   | (with_reducible refine LeO.bind ?_ (fun _ => ?_))
   | exact ih0 _ _ _
   | exact LeO.none _
   | refine LeO.ite ?_ ?_
   | refine LeO.bind ?_ (fun _ => ?_)
theorem clepsydralaw20_plain.mono : ∀ a0 k, LeO (clepsydralaw20_plain.f k a0) (clepsydralaw20_plain.f (k + 1) a0) := by
 intro a0 k
 have ih0 := clepsydralaw20_plain.mono_l k
 unfold clepsydralaw20_plain.f
 repeat' first
   | (with_reducible exact ih0 _ _ _)
   | (with_reducible exact LeO.refl _)
   | (with_reducible exact LeO.none _)
   | (with_reducible refine LeO.ite ?_ ?_)
   | (with_reducible refine LeO.bind ?_ (fun _ => ?_))
   | exact ih0 _ _ _
   | exact LeO.none _
   | refine LeO.ite ?_ ?_
   | refine LeO.bind ?_ (fun _ => ?_)
def clepsydralaw20_plain.T5 : Bool × List (List Nat × List Nat) := (true, [([], []), ([], []), ([], []), ([1, 2], [1, 2]), ([3], [3]), ([4], [4]), ([5], [5]), ([], []), ([], []), ([7, 8], [7, 8]), ([9], [9]), ([10], [10]), ([11], [11]), ([], []), ([], []), ([13, 14], [13, 14]), ([15], [15]), ([16], [16]), ([6, 12, 17], [6, 12, 17]), ([18], [18]), ([0, 19], [0, 19]), ([20, 20, 0, 1, 2, 3, 4, 5, 6, 7, 8, 9, 10, 11, 12, 13, 14, 15, 16, 17, 18, 19, 20], [0, 20])])
def clepsydralaw20_plain.B5 : List Nat := [0, 0, 0, 6, 14, 30, 62, 0, 0, 384, 896, 1920, 3968, 0, 0, 24576, 57344, 122880, 262142, 524286, 1048575, 2097151]
theorem clepsydralaw20_plain.tab5 : rtab .any (opsOf Try.f9 5) = clepsydralaw20_plain.T5 := by kernel_rfl
theorem clepsydralaw20_plain.bits5 : waitsOk clepsydralaw20_plain.T5.2 clepsydralaw20_plain.B5 = true := by kernel_rfl
set_option maxHeartbeats 8000000 in
set_option maxRecDepth 100000 in
theorem clepsydralaw20_plain.calls (k : Nat) (A0 : Option Addr) (c0 : Nat) (l0 : List (S39)) (r : List (S37)) (w : World) (hr0 : Kd.C k39 w A0 l0.length l0) (hc0 : l0.length ≤ c0) (h : clepsydralaw20_plain.f k l0 = some r) :
  Calls Try.prog 9 #[.slice A0 l0.length c0] w fun e w' => ∃ v0_ : Value, e = .returned (v0_) ∧ Kd.R k37 37 w' w.heap.size (fun _ => True) v0_ r ∧ Below w.heap.size w w' := by
 have hu37 := Try.underlying37
 have HR0 := Aside0.mk hr0
 have HC0 := Aside0.mk hc0
 clear hr0 hc0
 have HB := Aside0.mk (Below.refl w.heap.size w)
 have H : (clepsydralaw20_plain.l0 k l0 ([] : List (S37)) 0) = some r := h
 clear h
 have H' := Aside0.mk H
 clear H
 go_enter Try.func9, Try.ntmps9
 go_wp2
 go_loopg [3, 4] k (fun kq v3 v4 w' => ∃ (x3_1 : List (S37)) (x4_1 : Int), v4 = .int .i64 x4_1 ∧ Aside0 (clepsydralaw20_plain.l0 kq l0 x3_1 x4_1 = some r) ∧ Aside0 (kq ≤ k) ∧ Aside0 (Kd.R k37 37 w' w.heap.size (fun _ => True) v3 x3_1) ∧ Aside0 (Below w.heap.size w w'))
 case atStart => exact ⟨(([] : List (S37))), (0), (by first | rfl | (simp; done) | (simp [*]; done)), H', ⟨Nat.le_refl _⟩, ⟨by first | exact Kd.R_nil _ _ _ _ _ | exact Kd.N_nil _ _ _ _ _ | exact Kd.V_nil _ _ _ _ _ | exact Kd.Q_nil _ _ _ _ _ | exact Kd.S_nil _ _ _ _ _⟩, ⟨BD HB⟩⟩
 case round =>
  clear H'
  obtain ⟨x3_1, x4_1, rfl, HA, HK1, HO_3, HB⟩ := hrel
  cases gk with
  | zero => exact absurd HA.out (by simp [clepsydralaw20_plain.l0])
  | succ k1 =>
   have H := HA.out
   clear HA
   simp only [clepsydralaw20_plain.l0] at H
   by_cases c2 : x4_1 < (l0.length : Int)
   ·rw [if_pos c2] at H
    have c2b0 : decide (x4_1 < (l0.length : Int)) = true := decide_eq_true c2
    clear c2
    by_cases c3 : 0 ≤ x4_1
    ·rw [if_pos c3] at H
     have c3b0 : decide (0 ≤ x4_1) = true := decide_eq_true c3
     clear c3
     by_cases c4 : x3_1.length < 8796093022208
     ·rw [if_pos c4] at H
      have LMc4 := Aside0.mk c4
      clear c4
      obtain ⟨y130, hy130⟩ : ∃ y_ : List (S37), y_ = (x3_1 ++ [(⟨(rd_T39 l0 x4_1).f0.f0, (rd_T39 l0 x4_1).f0.f1, (rd_T39 l0 x4_1).f1⟩ : S37)]) := ⟨_, rfl⟩
      replace H : (clepsydralaw20_plain.l0 k1 l0 y130 (wrap64 (x4_1 + 1))) = some r := by first | (rw [hy130]; with_reducible exact H) | (have H2_ := (Option.bind_some _ _).symm.trans H; rw [hy130]; with_reducible exact H2_) | (have H2_ := (Option.bind_some _ _).symm.trans H; with_reducible exact H2_) | with_reducible exact H | (rw [hy130]; exact H) | exact H
      have Ny130 := Aside0.mk hy130
      clear hy130
      have H' := Aside0.mk H
      clear H
      try go_wp2
      have n0_ := Aside0.mk (Kd.R_drew HO_3.out)
      have n1_ := Aside0.mk (below_drew1 HB.out)
      clear HO_3
      clear HB
      have HO_3 := n0_
      have HB := n1_
      clear n0_ n1_
      have p127 : 0 ≤ (x4_1 : Int) := of_decide_eq_true (by first | (with_reducible assumption) | assumption)
      have q127 : x4_1 < (l0.length : Int) := of_decide_eq_true (by first | (with_reducible assumption) | assumption)
      obtain ⟨ad127, e127, hx127_0, hx127_1, hx127_2⟩ := at_T39 HR0.out x4_1 p127 q127
      have hw127_2 := hx127_2
      have hw127_1 := hx127_1
      have hw127_0 := hx127_0
      cases e127
      replace hx127_0 := (HB.out.cell (World.block_lt_of_cell? w _ hx127_0)).trans hx127_0
      replace hx127_1 := (HB.out.cell (World.block_lt_of_cell? w _ hx127_1)).trans hx127_1
      replace hx127_2 := (HB.out.cell (World.block_lt_of_cell? w _ hx127_2)).trans hx127_2
      replace p127 := eq_true p127
      replace q127 := eq_true q127
      have p128 : 0 ≤ (x4_1 : Int) := of_decide_eq_true (by first | (with_reducible assumption) | assumption)
      have q128 : x4_1 < (l0.length : Int) := of_decide_eq_true (by first | (with_reducible assumption) | assumption)
      obtain ⟨ad128, e128, hx128_0, hx128_1, hx128_2⟩ := at_T39 HR0.out x4_1 p128 q128
      have hw128_2 := hx128_2
      have hw128_1 := hx128_1
      have hw128_0 := hx128_0
      obtain rfl : ad127 = ad128 := (by injection e128)
      replace hx128_0 := (HB.out.cell (World.block_lt_of_cell? w _ hx128_0)).trans hx128_0
      replace hx128_1 := (HB.out.cell (World.block_lt_of_cell? w _ hx128_1)).trans hx128_1
      replace hx128_2 := (HB.out.cell (World.block_lt_of_cell? w _ hx128_2)).trans hx128_2
      replace p128 := eq_true p128
      replace q128 := eq_true q128
      have p129 : 0 ≤ (x4_1 : Int) := of_decide_eq_true (by first | (with_reducible assumption) | assumption)
      have q129 : x4_1 < (l0.length : Int) := of_decide_eq_true (by first | (with_reducible assumption) | assumption)
      obtain ⟨ad129, e129, hx129_0, hx129_1, hx129_2⟩ := at_T39 HR0.out x4_1 p129 q129
      have hw129_2 := hx129_2
      have hw129_1 := hx129_1
      have hw129_0 := hx129_0
      obtain rfl : ad127 = ad129 := (by injection e129)
      replace hx129_0 := (HB.out.cell (World.block_lt_of_cell? w _ hx129_0)).trans hx129_0
      replace hx129_1 := (HB.out.cell (World.block_lt_of_cell? w _ hx129_1)).trans hx129_1
      replace hx129_2 := (HB.out.cell (World.block_lt_of_cell? w _ hx129_2)).trans hx129_2
      replace p129 := eq_true p129
      replace q129 := eq_true q129
      refine start_ (n := 22) (S := fun w' => w'.cell? (ad127.add ((x4_1).toNat * 3)) = some (.int .i64 ((rd_T39 l0 x4_1).f0.f0)) ∧ w'.cell? ⟨(ad127.add ((x4_1).toNat * 3)).block, (ad127.add ((x4_1).toNat * 3)).off + 1, none⟩ = some (.int .u8 ((rd_T39 l0 x4_1).f0.f1)) ∧ w'.cell? ⟨(ad127.add ((x4_1).toNat * 3)).block, (ad127.add ((x4_1).toNat * 3)).off + 2, none⟩ = some (.bool ((rd_T39 l0 x4_1).f1)) ∧ w'.cell? (ad127.add ((x4_1).toNat * 3)) = some (.int .i64 ((rd_T39 l0 x4_1).f0.f0)) ∧ w'.cell? ⟨(ad127.add ((x4_1).toNat * 3)).block, (ad127.add ((x4_1).toNat * 3)).off + 1, none⟩ = some (.int .u8 ((rd_T39 l0 x4_1).f0.f1)) ∧ w'.cell? ⟨(ad127.add ((x4_1).toNat * 3)).block, (ad127.add ((x4_1).toNat * 3)).off + 2, none⟩ = some (.bool ((rd_T39 l0 x4_1).f1)) ∧ w'.cell? (ad127.add ((x4_1).toNat * 3)) = some (.int .i64 ((rd_T39 l0 x4_1).f0.f0)) ∧ w'.cell? ⟨(ad127.add ((x4_1).toNat * 3)).block, (ad127.add ((x4_1).toNat * 3)).off + 1, none⟩ = some (.int .u8 ((rd_T39 l0 x4_1).f0.f1)) ∧ w'.cell? ⟨(ad127.add ((x4_1).toNat * 3)).block, (ad127.add ((x4_1).toNat * 3)).off + 2, none⟩ = some (.bool ((rd_T39 l0 x4_1).f1))) (ds := []) u4_0 (by kernel_rfl) rfl rfl ⟨((HB.out.cell (World.block_lt_of_cell? w _ hw127_0)).trans hw127_0), ((HB.out.cell (World.block_lt_of_cell? w _ hw127_1)).trans hw127_1), ((HB.out.cell (World.block_lt_of_cell? w _ hw127_2)).trans hw127_2), ((HB.out.cell (World.block_lt_of_cell? w _ hw128_0)).trans hw128_0), ((HB.out.cell (World.block_lt_of_cell? w _ hw128_1)).trans hw128_1), ((HB.out.cell (World.block_lt_of_cell? w _ hw128_2)).trans hw128_2), ((HB.out.cell (World.block_lt_of_cell? w _ hw129_0)).trans hw129_0), ((HB.out.cell (World.block_lt_of_cell? w _ hw129_1)).trans hw129_1), ((HB.out.cell (World.block_lt_of_cell? w _ hw129_2)).trans hw129_2)⟩ (fun hHeld => ?_); refine with_tabW clepsydralaw20_plain.tab5 clepsydralaw20_plain.bits5 (fun HT_ HW_ => ?_)
      generalize wr.drew = w5 at HO_3 HB hx127_0 hx127_1 hx127_2 hx128_0 hx128_1 hx128_2 hx129_0 hx129_1 hx129_2 hHeld ⊢
      refine pure_ (i := 0) (N := some 11) (v := ?_) (a' := ?_) u4_1 rfl rfl (any_of HT_.out (by kernel_rfl)) (fun _ _ _ h => h) (Or.inl ⟨by rfl, ?_⟩) ?_ ?_
      rotate_left
      ·intro w'
       go_simp
       with_reducible rfl
      rotate_left
      ·simp only [Act.put, s0_, s1_, s2_, i64_w, i32_w]
       rfl
      refine pure_ (i := 1) (N := some 12) (v := ?_) (a' := ?_) u4_2 rfl rfl (any_of HT_.out (by kernel_rfl)) (fun _ _ _ h => h) (Or.inl ⟨by rfl, ?_⟩) ?_ ?_
      rotate_left
      ·intro w'
       go_simp
       with_reducible rfl
      rotate_left
      ·simp only [Act.put, s0_, s1_, s2_, i64_w, i32_w]
       rfl
      refine pure_ (i := 2) (N := some 13) (v := ?_) (a' := ?_) u4_3 rfl rfl (any_of HT_.out (by kernel_rfl)) (fun _ _ _ h => h) (Or.inl ⟨by rfl, ?_⟩) ?_ ?_
      rotate_left
      ·intro w'
       go_simp
       with_reducible rfl
      rotate_left
      ·simp only [Act.put, s0_, s1_, s2_, i64_w, i32_w]
       rfl
      refine pure_ (i := 3) (N := some 14) (v := ?_) (a' := ?_) u4_4 rfl rfl (any_of HT_.out (by kernel_rfl)) (fun _ _ _ h => h) (Or.inl ⟨by rfl, ?_⟩) ?_ ?_
      rotate_left
      ·intro w'
       go_simp
       with_reducible rfl
      rotate_left
      ·simp only [Act.put, s0_, s1_, s2_, i64_w, i32_w]
       rfl
      refine pure_ (i := 4) (N := some 15) (v := ?_) (a' := ?_) u4_5 rfl rfl (any_of HT_.out (by kernel_rfl)) (fun _ _ _ h => h) (Or.inl ⟨by rfl, ?_⟩) ?_ ?_
      rotate_left
      ·intro w'
       go_simp
       with_reducible rfl
      rotate_left
      ·simp only [Act.put, s0_, s1_, s2_, i64_w, i32_w]
       rfl
      refine pure_ (i := 5) (N := some 16) (v := ?_) (a' := ?_) u4_6 rfl rfl (any_of HT_.out (by kernel_rfl)) (fun _ _ _ h => h) (Or.inl ⟨by rfl, ?_⟩) ?_ ?_
      rotate_left
      ·intro w'
       go_simp
       with_reducible rfl
      rotate_left
      ·simp only [Act.put, s0_, s1_, s2_, i64_w, i32_w]
       rfl
      refine pure_ (i := 7) (N := some 18) (v := ?_) (a' := ?_) u4_7 rfl rfl (any_of HT_.out (by kernel_rfl)) (fun _ _ _ h => h) (Or.inl ⟨by rfl, ?_⟩) ?_ ?_
      rotate_left
      ·intro w'
       go_simp
       with_reducible rfl
      rotate_left
      ·simp only [Act.put, s0_, s1_, s2_, i64_w, i32_w]
       rfl
      refine pure_ (i := 8) (N := some 19) (v := ?_) (a' := ?_) u4_8 rfl rfl (any_of HT_.out (by kernel_rfl)) (fun _ _ _ h => h) (Or.inl ⟨by rfl, ?_⟩) ?_ ?_
      rotate_left
      ·intro w'
       go_simp
       with_reducible rfl
      rotate_left
      ·simp only [Act.put, s0_, s1_, s2_, i64_w, i32_w]
       rfl
      refine pure_ (i := 9) (N := some 20) (v := ?_) (a' := ?_) u4_9 rfl rfl (any_of HT_.out (by kernel_rfl)) (fun _ _ _ h => h) (Or.inl ⟨by rfl, ?_⟩) ?_ ?_
      rotate_left
      ·intro w'
       go_simp
       with_reducible rfl
      rotate_left
      ·simp only [Act.put, s0_, s1_, s2_, i64_w, i32_w]
       rfl
      refine pure_ (i := 10) (N := some 21) (v := ?_) (a' := ?_) u4_10 rfl rfl (any_of HT_.out (by kernel_rfl)) (fun _ _ _ h => h) (Or.inl ⟨by rfl, ?_⟩) ?_ ?_
      rotate_left
      ·intro w'
       go_simp
       with_reducible rfl
      rotate_left
      ·simp only [Act.put, s0_, s1_, s2_, i64_w, i32_w]
       rfl
      refine pure_ (i := 11) (N := some 22) (v := ?_) (a' := ?_) u4_11 rfl rfl (any_of HT_.out (by kernel_rfl)) (fun _ _ _ h => h) (Or.inl ⟨by rfl, ?_⟩) ?_ ?_
      rotate_left
      ·intro w'
       go_simp
       with_reducible rfl
      rotate_left
      ·simp only [Act.put, s0_, s1_, s2_, i64_w, i32_w]
       rfl
      refine pure_ (i := 13) (N := some 24) (v := ?_) (a' := ?_) u4_12 rfl rfl (any_of HT_.out (by kernel_rfl)) (fun _ _ _ h => h) (Or.inl ⟨by rfl, ?_⟩) ?_ ?_
      rotate_left
      ·intro w'
       go_simp
       with_reducible rfl
      rotate_left
      ·simp only [Act.put, s0_, s1_, s2_, i64_w, i32_w]
       rfl
      refine pure_ (i := 14) (N := some 25) (v := ?_) (a' := ?_) u4_13 rfl rfl (any_of HT_.out (by kernel_rfl)) (fun _ _ _ h => h) (Or.inl ⟨by rfl, ?_⟩) ?_ ?_
      rotate_left
      ·intro w'
       go_simp
       with_reducible rfl
      rotate_left
      ·simp only [Act.put, s0_, s1_, s2_, i64_w, i32_w]
       rfl
      refine pure_ (i := 15) (N := some 26) (v := ?_) (a' := ?_) u4_14 rfl rfl (any_of HT_.out (by kernel_rfl)) (fun _ _ _ h => h) (Or.inl ⟨by rfl, ?_⟩) ?_ ?_
      rotate_left
      ·intro w'
       go_simp
       with_reducible rfl
      rotate_left
      ·simp only [Act.put, s0_, s1_, s2_, i64_w, i32_w]
       rfl
      refine pure_ (i := 16) (N := some 27) (v := ?_) (a' := ?_) u4_15 rfl rfl (any_of HT_.out (by kernel_rfl)) (fun _ _ _ h => h) (Or.inl ⟨by rfl, ?_⟩) ?_ ?_
      rotate_left
      ·intro w'
       go_simp
       with_reducible rfl
      rotate_left
      ·simp only [Act.put, s0_, s1_, s2_, i64_w, i32_w]
       rfl
      refine take_ (i := 6) (N := some 17) (v := ?_) (a' := ?_) u4_16 rfl rfl (take_ofW HT_.out HW_.out (by kernel_rfl)) (fun _ _ _ h => h) (Or.inl ⟨by rfl, ?_⟩) hHeld ?_ ?_
      rotate_left
      ·rintro w' ⟨s0, s1, s2, s3, s4, s5, s6, s7, s8⟩
       go_simp
       with_reducible rfl
      rotate_left
      ·simp only [Act.put, s0_, s1_, s2_, i64_w, i32_w]
       rfl
      refine take_ (i := 12) (N := some 23) (v := ?_) (a' := ?_) u4_17 rfl rfl (take_ofW HT_.out HW_.out (by kernel_rfl)) (fun _ _ _ h => h) (Or.inl ⟨by rfl, ?_⟩) hHeld ?_ ?_
      rotate_left
      ·rintro w' ⟨s0, s1, s2, s3, s4, s5, s6, s7, s8⟩
       go_simp
       with_reducible rfl
      rotate_left
      ·simp only [Act.put, s0_, s1_, s2_, i64_w, i32_w]
       rfl
      refine take_ (i := 17) (N := some 28) (v := ?_) (a' := ?_) u4_18 rfl rfl (take_ofW HT_.out HW_.out (by kernel_rfl)) (fun _ _ _ h => h) (Or.inl ⟨by rfl, ?_⟩) hHeld ?_ ?_
      rotate_left
      ·rintro w' ⟨s0, s1, s2, s3, s4, s5, s6, s7, s8⟩
       go_simp
       with_reducible rfl
      rotate_left
      ·simp only [Act.put, s0_, s1_, s2_, i64_w, i32_w]
       rfl
      refine pure_ (i := 18) (N := some 29) (v := ?_) (a' := ?_) u4_19 rfl rfl (any_of HT_.out (by kernel_rfl)) (fun _ _ _ h => h) (Or.inl ⟨by rfl, ?_⟩) ?_ ?_
      rotate_left
      ·intro w'
       go_simp
       with_reducible rfl
      rotate_left
      ·simp only [Act.put, s0_, s1_, s2_, i64_w, i32_w]
       rfl
      refine one_ (i := 19) (N := some 30) u4_20 rfl rfl (one_of HT_.out (by kernel_rfl)) (by decide) (fun K hK => ?_)
      refine value_ (w1 := ?_) (v := ?_) (by rfl) rfl ?_ ?_
      rotate_left 2
      ·go_simp
       constructor
       ·rfl
       ·rfl
      refine hK.out _ _ ⟨(World.cell?_alloc_lt _ _ _ (World.block_lt_of_cell? _ _ (((HB.out.cell (World.block_lt_of_cell? w _ hw127_0)).trans hw127_0)))).trans (((HB.out.cell (World.block_lt_of_cell? w _ hw127_0)).trans hw127_0)), (World.cell?_alloc_lt _ _ _ (World.block_lt_of_cell? _ _ (((HB.out.cell (World.block_lt_of_cell? w _ hw127_1)).trans hw127_1)))).trans (((HB.out.cell (World.block_lt_of_cell? w _ hw127_1)).trans hw127_1)), (World.cell?_alloc_lt _ _ _ (World.block_lt_of_cell? _ _ (((HB.out.cell (World.block_lt_of_cell? w _ hw127_2)).trans hw127_2)))).trans (((HB.out.cell (World.block_lt_of_cell? w _ hw127_2)).trans hw127_2)), (World.cell?_alloc_lt _ _ _ (World.block_lt_of_cell? _ _ (((HB.out.cell (World.block_lt_of_cell? w _ hw128_0)).trans hw128_0)))).trans (((HB.out.cell (World.block_lt_of_cell? w _ hw128_0)).trans hw128_0)), (World.cell?_alloc_lt _ _ _ (World.block_lt_of_cell? _ _ (((HB.out.cell (World.block_lt_of_cell? w _ hw128_1)).trans hw128_1)))).trans (((HB.out.cell (World.block_lt_of_cell? w _ hw128_1)).trans hw128_1)), (World.cell?_alloc_lt _ _ _ (World.block_lt_of_cell? _ _ (((HB.out.cell (World.block_lt_of_cell? w _ hw128_2)).trans hw128_2)))).trans (((HB.out.cell (World.block_lt_of_cell? w _ hw128_2)).trans hw128_2)), (World.cell?_alloc_lt _ _ _ (World.block_lt_of_cell? _ _ (((HB.out.cell (World.block_lt_of_cell? w _ hw129_0)).trans hw129_0)))).trans (((HB.out.cell (World.block_lt_of_cell? w _ hw129_0)).trans hw129_0)), (World.cell?_alloc_lt _ _ _ (World.block_lt_of_cell? _ _ (((HB.out.cell (World.block_lt_of_cell? w _ hw129_1)).trans hw129_1)))).trans (((HB.out.cell (World.block_lt_of_cell? w _ hw129_1)).trans hw129_1)), (World.cell?_alloc_lt _ _ _ (World.block_lt_of_cell? _ _ (((HB.out.cell (World.block_lt_of_cell? w _ hw129_2)).trans hw129_2)))).trans (((HB.out.cell (World.block_lt_of_cell? w _ hw129_2)).trans hw129_2))⟩ (fun hHeld => ?_)
      clear hK K
      refine norm_ (a' := ?_) ?_ ?_
      rotate_left
      ·show Act.put _ (some 30) _ = _
       simp only [Act.put, s0_, s1_, s2_, i64_w, i32_w]
       rfl
      refine one_ (i := 20) (N := some 31) u4_21 rfl rfl (one_of HT_.out (by kernel_rfl)) (by decide) (fun K hK => ?_)
      refine Kd.R_append_step k37 (w0 := w) w.heap.size (by rfl) (.tmp 11) (.tmp 30) 24 37 (.agg #[(.int .i64 0), (.int .u8 0), (.bool false)]) 16 rfl Try.underlying24 info37 rfl (by decide) (by omega) u3 x3_1 (⟨(rd_T39 l0 x4_1).f0.f0, (rd_T39 l0 x4_1).f0.f1, (rd_T39 l0 x4_1).f1⟩ : S37) [.int .i64 ((rd_T39 l0 x4_1).f0.f0), .int .u8 ((rd_T39 l0 x4_1).f0.f1), .bool ((rd_T39 l0 x4_1).f1)] (fun _ => True) (fun _ => False) rfl rfl ?aP (fun _ hk => hk.elim) ?aF ?aO ?aB ?aS ?aL ?_
      (case aP => exact k37_mkM _ _ _ (⟨(rd_T39 l0 x4_1).f0.f0, (rd_T39 l0 x4_1).f0.f1, (rd_T39 l0 x4_1).f1⟩ : S37))
      (case aB => exact (BD HB))
      (case aF => exact (fun _ _ => trivial))
      (case aO => exact (RD HO_3))
      (case aS => exact (below_size (BD HB)))
      (case aL => have := LMc4.out; omega)
      intro v131 w6 ho hb hg hat
      rw [← Ny130.out] at ho
      have n0_ := Aside0.mk (hb)
      have n1_ := Aside0.mk (ho)
      clear HB
      clear HO_3
      have HB := n0_
      have HO132 := n1_
      clear n0_ n1_
      clear ho hb hg hat
      refine hK.out _ _ ⟨((HB.out.cell (World.block_lt_of_cell? w _ hw127_0)).trans hw127_0), ((HB.out.cell (World.block_lt_of_cell? w _ hw127_1)).trans hw127_1), ((HB.out.cell (World.block_lt_of_cell? w _ hw127_2)).trans hw127_2), ((HB.out.cell (World.block_lt_of_cell? w _ hw128_0)).trans hw128_0), ((HB.out.cell (World.block_lt_of_cell? w _ hw128_1)).trans hw128_1), ((HB.out.cell (World.block_lt_of_cell? w _ hw128_2)).trans hw128_2), ((HB.out.cell (World.block_lt_of_cell? w _ hw129_0)).trans hw129_0), ((HB.out.cell (World.block_lt_of_cell? w _ hw129_1)).trans hw129_1), ((HB.out.cell (World.block_lt_of_cell? w _ hw129_2)).trans hw129_2)⟩ (fun hHeld => ?_)
      clear hK K
      refine norm_ (a' := ?_) ?_ ?_
      rotate_left
      ·show Act.put _ (some 31) _ = _
       simp only [Act.put, s0_, s1_, s2_, i64_w, i32_w]
       rfl
      refine pure_ (i := 21) (N := some 3) (v := ?_) (a' := ?_) u4_22 rfl rfl (any_of HT_.out (by kernel_rfl)) (fun _ _ _ h => h) (Or.inl ⟨by rfl, ?_⟩) ?_ ?_
      rotate_left
      ·intro w'
       go_simp
       with_reducible rfl
      rotate_left
      ·simp only [Act.put, s0_, s1_, s2_, i64_w, i32_w]
       rfl
      refine done_ (done_of HT_.out (by kernel_rfl)) ?_
      try go_wp2
      go_roundg k1
      case measure => have := HK1.out; omega
      case rel => exact ⟨(y130), (wrap64 (x4_1 + 1)), (by first | rfl | (simp; done) | (simp [*]; done)), H', ⟨by have := HK1.out; omega⟩, ⟨RD HO132⟩, ⟨BD HB⟩⟩
     ·rw [if_neg c4] at H
      exact absurd H (by simp)
    ·rw [if_neg c3] at H
     exact absurd H (by simp)
   ·rw [if_neg c2] at H
    have c2b0 : decide (x4_1 < (l0.length : Int)) = false := decide_eq_false c2
    clear c2
    obtain rfl := Option.some.inj H
    go_wp2
    go_ret
    exact ⟨_, by first | rfl | (simp [errW_none, errW_some] <;> rfl) | (simp [*, errW_none, errW_some] <;> rfl), RD HO_3, BD HB⟩

-- given: jobs_Sorted
/-! ### clepsydraref20_Less: function 19 -/
def clepsydraref20_Less.f (a0_0 : Int) (a0_1 : Int) (a0_2 : Bool) (a1_0 : Int) (a1_1 : Int) (a1_2 : Bool) : Option (Bool) := if a0_0 < a1_0 then (some true) else (if a0_0 = a1_0 then (some (decide (a0_1 < a1_1))) else (some false))
set_option maxHeartbeats 8000000 in
set_option maxRecDepth 100000 in
theorem clepsydraref20_Less.calls (a0_0 : Int) (a0_1 : Int) (a0_2 : Bool) (a1_0 : Int) (a1_1 : Int) (a1_2 : Bool) (r : Bool) (w : World) (h : clepsydraref20_Less.f a0_0 a0_1 a0_2 a1_0 a1_1 a1_2 = some r) :
  Calls Try.prog 19 #[.agg #[.int .i64 a0_0, .int .u8 a0_1, .bool a0_2], .agg #[.int .i64 a1_0, .int .u8 a1_1, .bool a1_2]] w fun e w' => e = .returned (.bool r) ∧ Below w.heap.size w w' := by
 have hu37 := Try.underlying37
 have HB := Aside0.mk (Below.refl w.heap.size w)
 have H : (if a0_0 < a1_0 then (some true) else (if a0_0 = a1_0 then (some (decide (a0_1 < a1_1))) else (some false))) = some r := h
 clear h
 by_cases c3 : a0_0 < a1_0
 ·rw [if_pos c3] at H
  have c3b0 : decide (a0_0 < a1_0) = true := decide_eq_true c3
  clear c3
  obtain rfl := Option.some.inj H
  go_enter Try.func19, Try.ntmps19
  go_wp2_with (first | ((with_reducible refine gate_dst (N := 2) rfl ?_); refine box_event ?hg (N := 2) ?hd (cs := #[.int .i64 a0_0, .int .u8 a0_1, .bool a0_2]) (t := 37) ?hr ?_; (case hd => rfl); (case hg => rfl); (case hr => first | (go_simp; done) | (go_simp; rfl)); intro gb137 hg w4 hbox hb; have n0_ := BS HB hb; have n1_ := Aside0.mk (hbox); have n2_ := Aside0.mk ((by rw [hg]; exact (below_size (BD HB)) : w.heap.size ≤ gb137)); have n3_ := Aside0.mk ((by rw [hg]; exact (below_size (BD HB)) : w.heap.size ≤ gb137)); clear HB; have HB := n0_; have BK137 := n1_; have GW137 := n2_; have GE137 := n3_; clear n0_ n1_ n2_ n3_; clear hb hbox hg) | ((with_reducible refine gate_dst (N := 3) rfl ?_); refine box_event ?hg (N := 3) ?hd (cs := #[.int .i64 a1_0, .int .u8 a1_1, .bool a1_2]) (t := 37) ?hr ?_; (case hd => rfl); (case hg => rfl); (case hr => first | (go_simp; done) | (go_simp; rfl)); intro gb138 hg w5 hbox hb; have n0_ := Aside0.mk (blk_below (g := gb137) (o := .cells #[.int .i64 a0_0, .int .u8 a0_1, .bool a0_2] 37 (0, 0)) (by (with_reducible repeat (first | refine blk_drewN ?_ _ | refine blk_drew ?_ | refine blk_alloc ?_ _)); exact BK137.out) hb); have n1_ := Aside0.mk (below_step (by repeat (first | (with_reducible first | exact HB.out | apply below_alloc | apply pw_below_drewN | apply below_drew1 | refine below_set ?_ GE137.out) | exact HB.out)) hb); have n2_ := Aside0.mk (hbox); have n3_ := Aside0.mk ((by rw [hg]; exact (below_size (by repeat (first | (with_reducible first | exact HB.out | apply below_alloc | apply pw_below_drewN | apply below_drew1 | refine below_set ?_ GE137.out) | exact HB.out))) : w.heap.size ≤ gb138)); have n4_ := Aside0.mk ((by rw [hg]; exact (below_size (by repeat (first | (with_reducible first | exact HB.out | apply below_alloc | apply pw_below_drewN | apply below_drew1 | refine below_set ?_ GE137.out) | exact HB.out))) : w.heap.size ≤ gb138)); have n5_ := Aside0.mk ((by rw [hg]; exact Nat.ne_of_lt (blk_lt (g := gb137) (o := .cells #[.int .i64 a0_0, .int .u8 a0_1, .bool a0_2] 37 (0, 0)) (by (with_reducible repeat (first | refine blk_drewN ?_ _ | refine blk_drew ?_ | refine blk_alloc ?_ _)); exact BK137.out)) : gb137 ≠ gb138)); have n6_ := Aside0.mk ((by rw [hg]; exact Nat.ne_of_gt (blk_lt (g := gb137) (o := .cells #[.int .i64 a0_0, .int .u8 a0_1, .bool a0_2] 37 (0, 0)) (by (with_reducible repeat (first | refine blk_drewN ?_ _ | refine blk_drew ?_ | refine blk_alloc ?_ _)); exact BK137.out)) : gb138 ≠ gb137)); clear BK137; clear HB; have BK137 := n0_; have HB := n1_; have BK138 := n2_; have GW138 := n3_; have GE138 := n4_; have NB137_138 := n5_; have NB138_137 := n6_; clear n0_ n1_ n2_ n3_ n4_ n5_ n6_; clear hb hbox hg; have hnb6 := NB137_138.out; have hnc6 := NB138_137.out; have hcz7_0 : w5.cell? ⟨gb137, 0, none⟩ = some (.int .i64 a0_0) := (blk_cell BK137.out 0).trans rfl; have hcz7_1 : w5.cell? ⟨gb137, 1, none⟩ = some (.int .u8 a0_1) := (blk_cell BK137.out 1).trans rfl; have hcz7_2 : w5.cell? ⟨gb137, 2, none⟩ = some (.bool a0_2) := (blk_cell BK137.out 2).trans rfl; have hfz7_0 := blk_frozen BK137.out 0; have hfz7_1 := blk_frozen BK137.out 1; have hfz7_2 := blk_frozen BK137.out 2; have hcz8_0 : w5.cell? ⟨gb138, 0, none⟩ = some (.int .i64 a1_0) := (blk_cell BK138.out 0).trans rfl; have hcz8_1 : w5.cell? ⟨gb138, 1, none⟩ = some (.int .u8 a1_1) := (blk_cell BK138.out 1).trans rfl; have hcz8_2 : w5.cell? ⟨gb138, 2, none⟩ = some (.bool a1_2) := (blk_cell BK138.out 2).trans rfl; have hfz8_0 := blk_frozen BK138.out 0; have hfz8_1 := blk_frozen BK138.out 1; have hfz8_2 := blk_frozen BK138.out 2))
  go_ret
  exact ⟨by first | rfl | (simp [errW_none, errW_some] <;> rfl) | (simp [*, errW_none, errW_some] <;> rfl), by repeat (first | (with_reducible first | exact HB.out | apply below_alloc | apply pw_below_drewN | apply below_drew1 | refine below_set ?_ GE137.out | refine below_set ?_ GE138.out) | exact HB.out)⟩
 ·rw [if_neg c3] at H
  have c3b0 : decide (a0_0 < a1_0) = false := decide_eq_false c3
  clear c3
  by_cases c9 : a0_0 = a1_0
  ·rw [if_pos c9] at H
   have c9b0 : (a0_0 == a1_0) = true := beq_iff_eq.mpr c9
   have c9b1 : (a0_0 != a1_0) = false := bne_eq_false_iff_eq.mpr c9
   clear c9
   obtain rfl := Option.some.inj H
   go_enter Try.func19, Try.ntmps19
   go_wp2_with (first | ((with_reducible refine gate_dst (N := 2) rfl ?_); refine box_event ?hg (N := 2) ?hd (cs := #[.int .i64 a0_0, .int .u8 a0_1, .bool a0_2]) (t := 37) ?hr ?_; (case hd => rfl); (case hg => rfl); (case hr => first | (go_simp; done) | (go_simp; rfl)); intro gb137 hg w10 hbox hb; have n0_ := BS HB hb; have n1_ := Aside0.mk (hbox); have n2_ := Aside0.mk ((by rw [hg]; exact (below_size (BD HB)) : w.heap.size ≤ gb137)); have n3_ := Aside0.mk ((by rw [hg]; exact (below_size (BD HB)) : w.heap.size ≤ gb137)); clear HB; have HB := n0_; have BK137 := n1_; have GW137 := n2_; have GE137 := n3_; clear n0_ n1_ n2_ n3_; clear hb hbox hg) | ((with_reducible refine gate_dst (N := 3) rfl ?_); refine box_event ?hg (N := 3) ?hd (cs := #[.int .i64 a1_0, .int .u8 a1_1, .bool a1_2]) (t := 37) ?hr ?_; (case hd => rfl); (case hg => rfl); (case hr => first | (go_simp; done) | (go_simp; rfl)); intro gb138 hg w11 hbox hb; have n0_ := Aside0.mk (blk_below (g := gb137) (o := .cells #[.int .i64 a0_0, .int .u8 a0_1, .bool a0_2] 37 (0, 0)) (by (with_reducible repeat (first | refine blk_drewN ?_ _ | refine blk_drew ?_ | refine blk_alloc ?_ _)); exact BK137.out) hb); have n1_ := Aside0.mk (below_step (by repeat (first | (with_reducible first | exact HB.out | apply below_alloc | apply pw_below_drewN | apply below_drew1 | refine below_set ?_ GE137.out) | exact HB.out)) hb); have n2_ := Aside0.mk (hbox); have n3_ := Aside0.mk ((by rw [hg]; exact (below_size (by repeat (first | (with_reducible first | exact HB.out | apply below_alloc | apply pw_below_drewN | apply below_drew1 | refine below_set ?_ GE137.out) | exact HB.out))) : w.heap.size ≤ gb138)); have n4_ := Aside0.mk ((by rw [hg]; exact (below_size (by repeat (first | (with_reducible first | exact HB.out | apply below_alloc | apply pw_below_drewN | apply below_drew1 | refine below_set ?_ GE137.out) | exact HB.out))) : w.heap.size ≤ gb138)); have n5_ := Aside0.mk ((by rw [hg]; exact Nat.ne_of_lt (blk_lt (g := gb137) (o := .cells #[.int .i64 a0_0, .int .u8 a0_1, .bool a0_2] 37 (0, 0)) (by (with_reducible repeat (first | refine blk_drewN ?_ _ | refine blk_drew ?_ | refine blk_alloc ?_ _)); exact BK137.out)) : gb137 ≠ gb138)); have n6_ := Aside0.mk ((by rw [hg]; exact Nat.ne_of_gt (blk_lt (g := gb137) (o := .cells #[.int .i64 a0_0, .int .u8 a0_1, .bool a0_2] 37 (0, 0)) (by (with_reducible repeat (first | refine blk_drewN ?_ _ | refine blk_drew ?_ | refine blk_alloc ?_ _)); exact BK137.out)) : gb138 ≠ gb137)); clear BK137; clear HB; have BK137 := n0_; have HB := n1_; have BK138 := n2_; have GW138 := n3_; have GE138 := n4_; have NB137_138 := n5_; have NB138_137 := n6_; clear n0_ n1_ n2_ n3_ n4_ n5_ n6_; clear hb hbox hg; have hnb12 := NB137_138.out; have hnc12 := NB138_137.out; have hcz13_0 : w11.cell? ⟨gb137, 0, none⟩ = some (.int .i64 a0_0) := (blk_cell BK137.out 0).trans rfl; have hcz13_1 : w11.cell? ⟨gb137, 1, none⟩ = some (.int .u8 a0_1) := (blk_cell BK137.out 1).trans rfl; have hcz13_2 : w11.cell? ⟨gb137, 2, none⟩ = some (.bool a0_2) := (blk_cell BK137.out 2).trans rfl; have hfz13_0 := blk_frozen BK137.out 0; have hfz13_1 := blk_frozen BK137.out 1; have hfz13_2 := blk_frozen BK137.out 2; have hcz14_0 : w11.cell? ⟨gb138, 0, none⟩ = some (.int .i64 a1_0) := (blk_cell BK138.out 0).trans rfl; have hcz14_1 : w11.cell? ⟨gb138, 1, none⟩ = some (.int .u8 a1_1) := (blk_cell BK138.out 1).trans rfl; have hcz14_2 : w11.cell? ⟨gb138, 2, none⟩ = some (.bool a1_2) := (blk_cell BK138.out 2).trans rfl; have hfz14_0 := blk_frozen BK138.out 0; have hfz14_1 := blk_frozen BK138.out 1; have hfz14_2 := blk_frozen BK138.out 2))
   go_ret
   exact ⟨by first | rfl | (simp [errW_none, errW_some] <;> rfl) | (simp [*, errW_none, errW_some] <;> rfl), by repeat (first | (with_reducible first | exact HB.out | apply below_alloc | apply pw_below_drewN | apply below_drew1 | refine below_set ?_ GE137.out | refine below_set ?_ GE138.out) | exact HB.out)⟩
  ·rw [if_neg c9] at H
   have c9b0 : (a0_0 == a1_0) = false := beq_eq_false_iff_ne.mpr c9
   have c9b1 : (a0_0 != a1_0) = true := bne_iff_ne.mpr c9
   obtain rfl := Option.some.inj H
   go_enter Try.func19, Try.ntmps19
   go_wp2_with (first | ((with_reducible refine gate_dst (N := 2) rfl ?_); refine box_event ?hg (N := 2) ?hd (cs := #[.int .i64 a0_0, .int .u8 a0_1, .bool a0_2]) (t := 37) ?hr ?_; (case hd => rfl); (case hg => rfl); (case hr => first | (go_simp; done) | (go_simp; rfl)); intro gb137 hg w15 hbox hb; have n0_ := BS HB hb; have n1_ := Aside0.mk (hbox); have n2_ := Aside0.mk ((by rw [hg]; exact (below_size (BD HB)) : w.heap.size ≤ gb137)); have n3_ := Aside0.mk ((by rw [hg]; exact (below_size (BD HB)) : w.heap.size ≤ gb137)); clear HB; have HB := n0_; have BK137 := n1_; have GW137 := n2_; have GE137 := n3_; clear n0_ n1_ n2_ n3_; clear hb hbox hg) | ((with_reducible refine gate_dst (N := 3) rfl ?_); refine box_event ?hg (N := 3) ?hd (cs := #[.int .i64 a1_0, .int .u8 a1_1, .bool a1_2]) (t := 37) ?hr ?_; (case hd => rfl); (case hg => rfl); (case hr => first | (go_simp; done) | (go_simp; rfl)); intro gb138 hg w16 hbox hb; have n0_ := Aside0.mk (blk_below (g := gb137) (o := .cells #[.int .i64 a0_0, .int .u8 a0_1, .bool a0_2] 37 (0, 0)) (by (with_reducible repeat (first | refine blk_drewN ?_ _ | refine blk_drew ?_ | refine blk_alloc ?_ _)); exact BK137.out) hb); have n1_ := Aside0.mk (below_step (by repeat (first | (with_reducible first | exact HB.out | apply below_alloc | apply pw_below_drewN | apply below_drew1 | refine below_set ?_ GE137.out) | exact HB.out)) hb); have n2_ := Aside0.mk (hbox); have n3_ := Aside0.mk ((by rw [hg]; exact (below_size (by repeat (first | (with_reducible first | exact HB.out | apply below_alloc | apply pw_below_drewN | apply below_drew1 | refine below_set ?_ GE137.out) | exact HB.out))) : w.heap.size ≤ gb138)); have n4_ := Aside0.mk ((by rw [hg]; exact (below_size (by repeat (first | (with_reducible first | exact HB.out | apply below_alloc | apply pw_below_drewN | apply below_drew1 | refine below_set ?_ GE137.out) | exact HB.out))) : w.heap.size ≤ gb138)); have n5_ := Aside0.mk ((by rw [hg]; exact Nat.ne_of_lt (blk_lt (g := gb137) (o := .cells #[.int .i64 a0_0, .int .u8 a0_1, .bool a0_2] 37 (0, 0)) (by (with_reducible repeat (first | refine blk_drewN ?_ _ | refine blk_drew ?_ | refine blk_alloc ?_ _)); exact BK137.out)) : gb137 ≠ gb138)); have n6_ := Aside0.mk ((by rw [hg]; exact Nat.ne_of_gt (blk_lt (g := gb137) (o := .cells #[.int .i64 a0_0, .int .u8 a0_1, .bool a0_2] 37 (0, 0)) (by (with_reducible repeat (first | refine blk_drewN ?_ _ | refine blk_drew ?_ | refine blk_alloc ?_ _)); exact BK137.out)) : gb138 ≠ gb137)); clear BK137; clear HB; have BK137 := n0_; have HB := n1_; have BK138 := n2_; have GW138 := n3_; have GE138 := n4_; have NB137_138 := n5_; have NB138_137 := n6_; clear n0_ n1_ n2_ n3_ n4_ n5_ n6_; clear hb hbox hg; have hnb17 := NB137_138.out; have hnc17 := NB138_137.out; have hcz18_0 : w16.cell? ⟨gb137, 0, none⟩ = some (.int .i64 a0_0) := (blk_cell BK137.out 0).trans rfl; have hcz18_1 : w16.cell? ⟨gb137, 1, none⟩ = some (.int .u8 a0_1) := (blk_cell BK137.out 1).trans rfl; have hcz18_2 : w16.cell? ⟨gb137, 2, none⟩ = some (.bool a0_2) := (blk_cell BK137.out 2).trans rfl; have hfz18_0 := blk_frozen BK137.out 0; have hfz18_1 := blk_frozen BK137.out 1; have hfz18_2 := blk_frozen BK137.out 2; have hcz19_0 : w16.cell? ⟨gb138, 0, none⟩ = some (.int .i64 a1_0) := (blk_cell BK138.out 0).trans rfl; have hcz19_1 : w16.cell? ⟨gb138, 1, none⟩ = some (.int .u8 a1_1) := (blk_cell BK138.out 1).trans rfl; have hcz19_2 : w16.cell? ⟨gb138, 2, none⟩ = some (.bool a1_2) := (blk_cell BK138.out 2).trans rfl; have hfz19_0 := blk_frozen BK138.out 0; have hfz19_1 := blk_frozen BK138.out 1; have hfz19_2 := blk_frozen BK138.out 2))
   go_ret
   exact ⟨by first | rfl | (simp [errW_none, errW_some] <;> rfl) | (simp [*, errW_none, errW_some] <;> rfl), by repeat (first | (with_reducible first | exact HB.out | apply below_alloc | apply pw_below_drewN | apply below_drew1 | refine below_set ?_ GE137.out | refine below_set ?_ GE138.out) | exact HB.out)⟩

end Go.Proofs.Ytgchfibcaecjcaa.P
