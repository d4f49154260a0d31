/- Printed by a program for this claim: functions of the program as plain functions, and that the machine computes them. -/
import Derived.Test.YtgchfibcaecjcaaPx0
import Derived.Test.YtgchfibcaecjcaaPShort
import Derived.Test.YtgchfibcaecjcaaPx4
import Derived.Test.YtgchfibcaecjcaaPx8
import Derived.Test.YtgchfibcaecjcaaPx9
import Derived.Test.YtgchfibcaecjcaaPx12
namespace Go.Proofs.Ytgchfibcaecjcaa.P
open Go.RowKit Go.Proofs.YtgchfibcaecjcaaW.PrintWords Go.Proofs.YtgchfibcaecjcaaW.PrintLast Go.Proofs.YtgchfibcaecjcaaW.PrintMore
attribute [local go_sem] max2_int min2_int max_two min_two max_three min_three max_four min_four   -- for this text's walks alone
set_option linter.unusedVariables false
set_option linter.unusedSimpArgs false

/-! ### clepsydralaw20_JobsKnown: function 7 -/
mutual
def clepsydralaw20_JobsKnown.l0 : Nat → Int → Option (Bool)
 | 0, _ => none
 | k + 1, x1 => if x1 < 6 then (clepsydralaw20_JobsKnown.l1 k x1 0) else ((clepsydralaw20_JobsWhole.f k ([] : List (S39)) 0).bind fun t364 => (if t364 = true then ((clepsydralaw20_works.f k).bind fun t365 => (some t365)) else (some false)))
def clepsydralaw20_JobsKnown.l1 : Nat → Int → Int → Option (Bool)
 | 0, _, _ => none
 | k + 1, x1, x2 => if x2 < 6 then (clepsydralaw20_JobsKnown.l2 k x1 x2 0) else (clepsydralaw20_JobsKnown.l0 k ((x1 + 1) % 256))
def clepsydralaw20_JobsKnown.l2 : Nat → Int → Int → Int → Option (Bool)
 | 0, _, _, _ => none
 | k + 1, x1, x2, x3 => if x3 < 7 then ((clepsydralaw20_JobsMerge.f k x1 x2 x3).bind fun t369 => (if t369 = true then ((clepsydralaw20_JobsTypes.f k 1 x1 (wrap64 ((wrap64 (x3)) - 2)) x2 x3).bind fun t370 => (if t370 = true then ((clepsydralaw20_JobsWhole.f k (([(⟨(⟨1, x1⟩ : S35), false⟩ : S39), (⟨(⟨wrap64 (Int.tmod x3 3), x2⟩ : S35), true⟩ : S39), (⟨(⟨1, x3⟩ : S35), false⟩ : S39), (⟨(⟨(-1), x1⟩ : S35), false⟩ : S39)] : List (S39))) x1).bind fun t371 => (if t371 = true then (clepsydralaw20_JobsKnown.l2 k x1 x2 ((x3 + 1) % 256)) else (some false))) else (some false))) else (some false))) else (clepsydralaw20_JobsKnown.l1 k x1 ((x2 + 1) % 256))
end
def clepsydralaw20_JobsKnown.f (k : Nat)  : Option (Bool) := clepsydralaw20_JobsKnown.l0 k 0
theorem clepsydralaw20_JobsKnown.mono_l : ∀ k, (∀ y0, LeO (clepsydralaw20_JobsKnown.l0 k y0) (clepsydralaw20_JobsKnown.l0 (k + 1) y0)) ∧ (∀ y0 y1, LeO (clepsydralaw20_JobsKnown.l1 k y0 y1) (clepsydralaw20_JobsKnown.l1 (k + 1) y0 y1)) ∧ (∀ y0 y1 y2, LeO (clepsydralaw20_JobsKnown.l2 k y0 y1 y2) (clepsydralaw20_JobsKnown.l2 (k + 1) y0 y1 y2))
 | 0 => ⟨fun _ r h => by simp [clepsydralaw20_JobsKnown.l0] at h, fun _ _ r h => by simp [clepsydralaw20_JobsKnown.l1] at h, fun _ _ _ r h => by simp [clepsydralaw20_JobsKnown.l2] at h⟩
 | k + 1 => by
  obtain ⟨ih0, ih1, ih2⟩ := clepsydralaw20_JobsKnown.mono_l k
  refine ⟨?_, ?_, ?_⟩
  ·intro y0
   unfold clepsydralaw20_JobsKnown.l0
   repeat' first
   | (with_reducible exact ih0 _)
   | (with_reducible exact ih1 _ _)
   | (with_reducible exact ih2 _ _ _)
   | (with_reducible exact clepsydralaw20_JobsMerge.mono _ _ _ _)
   | (with_reducible exact clepsydralaw20_JobsTypes.mono _ _ _ _ _ _)
   | (with_reducible exact clepsydralaw20_JobsWhole.mono _ _ _)
   | (with_reducible exact clepsydralaw20_works.mono _)
   | (with_reducible exact LeO.refl _)
   | (with_reducible exact LeO.none _)
   | (with_reducible refine LeO.ite ?_ ?_)
   | (with_reducible refine LeO.bind ?_ (fun _ => ?_))
   | exact ih0 _
   | exact ih1 _ _
   | exact ih2 _ _ _
   | exact clepsydralaw20_JobsMerge.mono _ _ _ _
   | exact clepsydralaw20_JobsTypes.mono _ _ _ _ _ _
   | exact clepsydralaw20_JobsWhole.mono _ _ _
   | exact clepsydralaw20_works.mono _
   | exact LeO.none _
   | refine LeO.ite ?_ ?_
   | refine LeO.bind ?_ (fun _ => ?_)
  ·intro y0 y1
   unfold clepsydralaw20_JobsKnown.l1
   repeat' first
   | (with_reducible exact ih0 _)
   | (with_reducible exact ih1 _ _)
   | (with_reducible exact ih2 _ _ _)
   | (with_reducible exact clepsydralaw20_JobsMerge.mono _ _ _ _)
   | (with_reducible exact clepsydralaw20_JobsTypes.mono _ _ _ _ _ _)
   | (with_reducible exact clepsydralaw20_JobsWhole.mono _ _ _)
   | (with_reducible exact clepsydralaw20_works.mono _)
   | (with_reducible exact LeO.refl _)
   | (with_reducible exact LeO.none _)
   | (with_reducible refine LeO.ite ?_ ?_)
   | (with_reducible refine LeO.bind ?_ (fun _ => ?_))
   | exact ih0 _
   | exact ih1 _ _
   | exact ih2 _ _ _
   | exact clepsydralaw20_JobsMerge.mono _ _ _ _
   | exact clepsydralaw20_JobsTypes.mono _ _ _ _ _ _
   | exact clepsydralaw20_JobsWhole.mono _ _ _
   | exact clepsydralaw20_works.mono _
   | exact LeO.none _
   | refine LeO.ite ?_ ?_
   | refine LeO.bind ?_ (fun _ => ?_)
  ·intro y0 y1 y2
   unfold clepsydralaw20_JobsKnown.l2
   repeat' first
   | (with_reducible exact ih0 _)
   | (with_reducible exact ih1 _ _)
   | (with_reducible exact ih2 _ _ _)
   | (with_reducible exact clepsydralaw20_JobsMerge.mono _ _ _ _)
   | (with_reducible exact clepsydralaw20_JobsTypes.mono _ _ _ _ _ _)
   | (with_reducible exact clepsydralaw20_JobsWhole.mono _ _ _)
   | (with_reducible exact clepsydralaw20_works.mono _)
   | (with_reducible exact LeO.refl _)
   | (with_reducible exact LeO.none _)
   | (with_reducible refine LeO.ite ?_ ?_)
   | (with_reducible refine LeO.bind ?_ (fun _ => ?_))
   | exact ih0 _
   | exact ih1 _ _
   | exact ih2 _ _ _
   | exact clepsydralaw20_JobsMerge.mono _ _ _ _
   | exact clepsydralaw20_JobsTypes.mono _ _ _ _ _ _
   | exact clepsydralaw20_JobsWhole.mono _ _ _
   | exact clepsydralaw20_works.mono _
   | exact LeO.none _
   | refine LeO.ite ?_ ?_
   | refine LeO.bind ?_ (fun _ => ?_)
theorem clepsydralaw20_JobsKnown.mono : ∀ k, LeO (clepsydralaw20_JobsKnown.f k ) (clepsydralaw20_JobsKnown.f (k + 1) ) := by
 intro  k
 obtain ⟨ih0, ih1, ih2⟩ := clepsydralaw20_JobsKnown.mono_l k
 unfold clepsydralaw20_JobsKnown.f
 repeat' first
   | (with_reducible exact ih0 _)
   | (with_reducible exact ih1 _ _)
   | (with_reducible exact ih2 _ _ _)
   | (with_reducible exact clepsydralaw20_JobsMerge.mono _ _ _ _)
   | (with_reducible exact clepsydralaw20_JobsTypes.mono _ _ _ _ _ _)
   | (with_reducible exact clepsydralaw20_JobsWhole.mono _ _ _)
   | (with_reducible exact clepsydralaw20_works.mono _)
   | (with_reducible exact LeO.refl _)
   | (with_reducible exact LeO.none _)
   | (with_reducible refine LeO.ite ?_ ?_)
   | (with_reducible refine LeO.bind ?_ (fun _ => ?_))
   | exact ih0 _
   | exact ih1 _ _
   | exact ih2 _ _ _
   | exact clepsydralaw20_JobsMerge.mono _ _ _ _
   | exact clepsydralaw20_JobsTypes.mono _ _ _ _ _ _
   | exact clepsydralaw20_JobsWhole.mono _ _ _
   | exact clepsydralaw20_works.mono _
   | exact LeO.none _
   | refine LeO.ite ?_ ?_
   | refine LeO.bind ?_ (fun _ => ?_)
set_option maxHeartbeats 8000000 in
set_option maxRecDepth 100000 in
theorem clepsydralaw20_JobsKnown.calls (k : Nat)  (r : Bool) (w : World) (h : clepsydralaw20_JobsKnown.f k  = some r) :
  Calls Try.prog 7 #[] w fun e w' => e = .returned (.bool r) ∧ Below w.heap.size w w' := by
 have hu35 := Try.underlying35
 have hu39 := Try.underlying39
 have HB := Aside0.mk (Below.refl w.heap.size w)
 have H : (clepsydralaw20_JobsKnown.l0 k 0) = some r := h
 clear h
 have H' := Aside0.mk H
 clear H
 go_enter Try.func7, Try.ntmps7
 go_wp2
 go_loopg [1] k (fun kq v1 w' => ∃ (x1_1 : Int), v1 = .int .u8 x1_1 ∧ Aside0 (clepsydralaw20_JobsKnown.l0 kq x1_1 = some r) ∧ Aside0 (kq ≤ k) ∧ Aside0 (Below w.heap.size w w'))
 case atStart => exact ⟨(0), (by first | rfl | (simp; done) | (simp [*]; done)), H', ⟨Nat.le_refl _⟩, ⟨BD HB⟩⟩
 case round =>
  clear H'
  obtain ⟨x1_1, rfl, HA, HK1, HB⟩ := hrel
  cases gk with
  | zero => exact absurd HA.out (by simp [clepsydralaw20_JobsKnown.l0])
  | succ k1 =>
   have H := HA.out
   clear HA
   simp only [clepsydralaw20_JobsKnown.l0] at H
   by_cases c1 : x1_1 < 6
   ·rw [if_pos c1] at H
    have c1b0 : decide (x1_1 < 6) = true := decide_eq_true c1
    clear c1
    have H' := Aside0.mk H
    clear H
    go_wp2
    go_loopg [2] k1 (fun kq v2 w' => ∃ (x2_2 : Int), v2 = .int .u8 x2_2 ∧ Aside0 (clepsydralaw20_JobsKnown.l1 kq x1_1 x2_2 = some r) ∧ Aside0 (kq ≤ k1) ∧ Aside0 (Below w.heap.size w w'))
    case atStart => exact ⟨(0), (by first | rfl | (simp; done) | (simp [*]; done)), H', ⟨Nat.le_refl _⟩, ⟨BD HB⟩⟩
    case round =>
     clear H'
     try clear c1
     try clear c1b0
     obtain ⟨x2_2, rfl, HA, HK2, HB⟩ := hrel
     cases gk with
     | zero => exact absurd HA.out (by simp [clepsydralaw20_JobsKnown.l1])
     | succ k2 =>
      have H := HA.out
      clear HA
      simp only [clepsydralaw20_JobsKnown.l1] at H
      by_cases c2 : x2_2 < 6
      ·rw [if_pos c2] at H
       have c2b0 : decide (x2_2 < 6) = true := decide_eq_true c2
       clear c2
       have H' := Aside0.mk H
       clear H
       go_wp2
       go_loopg [3] k2 (fun kq v3 w' => ∃ (x3_3 : Int), v3 = .int .u8 x3_3 ∧ Aside0 (clepsydralaw20_JobsKnown.l2 kq x1_1 x2_2 x3_3 = some r) ∧ Aside0 (kq ≤ k2) ∧ Aside0 (Below w.heap.size w w'))
       case atStart => exact ⟨(0), (by first | rfl | (simp; done) | (simp [*]; done)), H', ⟨Nat.le_refl _⟩, ⟨BD HB⟩⟩
       case round =>
        clear H'
        try clear c1
        try clear c1b0
        try clear c2
        try clear c2b0
        try clear p2
        obtain ⟨x3_3, rfl, HA, HK3, HB⟩ := hrel
        cases gk with
        | zero => exact absurd HA.out (by simp [clepsydralaw20_JobsKnown.l2])
        | succ k3 =>
         have H := HA.out
         clear HA
         simp only [clepsydralaw20_JobsKnown.l2] at H
         by_cases c3 : x3_3 < 7
         ·rw [if_pos c3] at H
          have c3b0 : decide (x3_3 < 7) = true := decide_eq_true c3
          clear c3
          obtain ⟨y366, hy366⟩ : ∃ y_ : List (S39), y_ = (([(⟨(⟨1, x1_1⟩ : S35), false⟩ : S39), (⟨(⟨wrap64 (Int.tmod x3_3 3), x2_2⟩ : S35), true⟩ : S39), (⟨(⟨1, x3_3⟩ : S35), false⟩ : S39), (⟨(⟨(-1), x1_1⟩ : S35), false⟩ : S39)] : List (S39))) := ⟨_, rfl⟩
          replace H : ((clepsydralaw20_JobsMerge.f k3 x1_1 x2_2 x3_3).bind fun t369 => (if t369 = true then ((clepsydralaw20_JobsTypes.f k3 1 x1_1 (wrap64 ((wrap64 (x3_3)) - 2)) x2_2 x3_3).bind fun t370 => (if t370 = true then ((clepsydralaw20_JobsWhole.f k3 y366 x1_1).bind fun t371 => (if t371 = true then (clepsydralaw20_JobsKnown.l2 k3 x1_1 x2_2 ((x3_3 + 1) % 256)) else (some false))) else (some false))) else (some false))) = some r := by first | (rw [hy366]; with_reducible exact H) | (have H2_ := (Option.bind_some _ _).symm.trans H; rw [hy366]; with_reducible exact H2_) | (have H2_ := (Option.bind_some _ _).symm.trans H; with_reducible exact H2_) | with_reducible exact H | (rw [hy366]; exact H) | exact H
          have Ny366 := Aside0.mk hy366
          clear hy366
          replace H := Option.bind_eq_some_iff.mp H
          obtain ⟨t369, A40, H⟩ := H
          replace H : (if t369 = true then ((clepsydralaw20_JobsTypes.f k3 1 x1_1 (wrap64 ((wrap64 (x3_3)) - 2)) x2_2 x3_3).bind fun t370 => (if t370 = true then ((clepsydralaw20_JobsWhole.f k3 y366 x1_1).bind fun t371 => (if t371 = true then (clepsydralaw20_JobsKnown.l2 k3 x1_1 x2_2 ((x3_3 + 1) % 256)) else (some false))) else (some false))) else (some false)) = some r := H
          have A4 := Aside0.mk A40
          clear A40
          by_cases c5 : t369 = true
          ·subst c5
           have H1 : ((clepsydralaw20_JobsTypes.f k3 1 x1_1 (wrap64 ((wrap64 (x3_3)) - 2)) x2_2 x3_3).bind fun t370 => (if t370 = true then ((clepsydralaw20_JobsWhole.f k3 y366 x1_1).bind fun t371 => (if t371 = true then (clepsydralaw20_JobsKnown.l2 k3 x1_1 x2_2 ((x3_3 + 1) % 256)) else (some false))) else (some false))) = some r := by rw [if_pos rfl] at H; exact H
           clear H
           have H := H1
           clear H1
           replace H := Option.bind_eq_some_iff.mp H
           obtain ⟨t370, A60, H⟩ := H
           replace H : (if t370 = true then ((clepsydralaw20_JobsWhole.f k3 y366 x1_1).bind fun t371 => (if t371 = true then (clepsydralaw20_JobsKnown.l2 k3 x1_1 x2_2 ((x3_3 + 1) % 256)) else (some false))) else (some false)) = some r := H
           have A6 := Aside0.mk A60
           clear A60
           by_cases c7 : t370 = true
           ·subst c7
            have H1 : ((clepsydralaw20_JobsWhole.f k3 y366 x1_1).bind fun t371 => (if t371 = true then (clepsydralaw20_JobsKnown.l2 k3 x1_1 x2_2 ((x3_3 + 1) % 256)) else (some false))) = some r := by rw [if_pos rfl] at H; exact H
            clear H
            have H := H1
            clear H1
            replace H := Option.bind_eq_some_iff.mp H
            obtain ⟨t371, A80, H⟩ := H
            replace H : (if t371 = true then (clepsydralaw20_JobsKnown.l2 k3 x1_1 x2_2 ((x3_3 + 1) % 256)) else (some false)) = some r := H
            have A8 := Aside0.mk A80
            clear A80
            by_cases c9 : t371 = true
            ·subst c9
             have H1 : (clepsydralaw20_JobsKnown.l2 k3 x1_1 x2_2 ((x3_3 + 1) % 256)) = some r := by rw [if_pos rfl] at H; exact H
             clear H
             have H := H1
             clear H1
             have H' := Aside0.mk H
             clear H
             go_wp2_with (first | ((with_reducible refine gate_dst (N := 32) rfl ?_); refine Kd.R_lit k39 _ 39 ?hg (N := 32) ?hd (xs := ([(⟨(⟨1, x1_1⟩ : S35), false⟩ : S39), (⟨(⟨wrap64 (Int.tmod x3_3 3), x2_2⟩ : S35), true⟩ : S39), (⟨(⟨1, x3_3⟩ : S35), false⟩ : S39), (⟨(⟨(-1), x1_1⟩ : S35), false⟩ : S39)] : List (S39))) (inner := [.int .i64 1, .int .u8 x1_1, .bool false, .int .i64 (wrap64 (Int.tmod x3_3 3)), .int .u8 x2_2, .bool true, .int .i64 1, .int .u8 x3_3, .bool false, .int .i64 (-1), .int .u8 x1_1, .bool false]) (ok := fun _ => True) (okp := fun _ => True) ?hr ?hp (fun _ hk => hk) trivial (Below.refl _ _) (Nat.le_refl _) (by simp) ?_; (case hd => rfl); (case hg => rfl); (case hr => first | (go_simp; done) | (go_simp; rfl)); (case hp => exact (Reps.c3 (show Kd.M k39 _ _ _ (⟨(⟨1, x1_1⟩ : S35), false⟩ : S39) [.int .i64 1, .int .u8 x1_1, .bool false] from (k39_mkM _ _ _ (⟨(⟨1, x1_1⟩ : S35), false⟩ : S39) )) (Reps.c3 (show Kd.M k39 _ _ _ (⟨(⟨wrap64 (Int.tmod x3_3 3), x2_2⟩ : S35), true⟩ : S39) [.int .i64 (wrap64 (Int.tmod x3_3 3)), .int .u8 x2_2, .bool true] from (k39_mkM _ _ _ (⟨(⟨wrap64 (Int.tmod x3_3 3), x2_2⟩ : S35), true⟩ : S39) )) (Reps.c3 (show Kd.M k39 _ _ _ (⟨(⟨1, x3_3⟩ : S35), false⟩ : S39) [.int .i64 1, .int .u8 x3_3, .bool false] from (k39_mkM _ _ _ (⟨(⟨1, x3_3⟩ : S35), false⟩ : S39) )) (Reps.c3 (show Kd.M k39 _ _ _ (⟨(⟨(-1), x1_1⟩ : S35), false⟩ : S39) [.int .i64 (-1), .int .u8 x1_1, .bool false] from (k39_mkM _ _ _ (⟨(⟨(-1), x1_1⟩ : S35), false⟩ : S39) )) (Reps.none _ _)))))); intro v367 w10 ho11 hb hg_ hnew_; clear hg_ hnew_; (first | rw [← Ny366.out] at ho11 | (simp only [Int.reduceToNat] at ho11; rw [← Ny366.out] at ho11)); have n0_ := Aside0.mk (Kd.R_lower ho11 (below_size (BD HB))); have n1_ := BS HB hb; clear HB; have HO368 := n0_; have HB := n1_; clear n0_ n1_; clear hb ho11) | ((with_reducible refine gate_callee (f := 4) rfl ?_); refine goesL_ (some 36) rfl rfl Try.func4 (by kernel_rfl) rfl #[.int .u8 x1_1, .int .u8 x2_2, .int .u8 x3_3] rfl (by (try simp only [List.map_toArray, List.map_cons, List.map_nil]); first | done | rfl | (simp only [List.length_drop, List.length_take]; rfl)) ?_; (with_reducible refine (clepsydralaw20_JobsMerge.calls k3 x1_1 x2_2 x3_3 true _ A4.out).mono ?_); rintro e w12 ⟨rfl, hb⟩; refine ⟨_, rfl, ?_⟩; have n0_ := RB HO368 hb; have n1_ := BS HB hb; clear HO368; clear HB; have HO368 := n0_; have HB := n1_; clear n0_ n1_; (try clear hb); (try clear hb2); (try clear hk); (try clear hi)) | (go_at_call 6; (with_reducible refine (clepsydralaw20_JobsTypes.calls k3 1 x1_1 (wrap64 ((wrap64 (x3_3)) - 2)) x2_2 x3_3 true _ A6.out).mono ?_); rintro e w13 ⟨rfl, hb⟩; have n0_ := RB HO368 hb; have n1_ := BS HB hb; clear HO368; clear HB; have HO368 := n0_; have HB := n1_; clear n0_ n1_; (try clear hb); (try clear hb2); (try clear hk); (try clear hi); obtain ⟨Ao14, co14, eo14⟩ := Kd.R_slice HO368.out; subst eo14) | (go_at_call 3; (with_reducible refine (clepsydralaw20_JobsWhole.calls k3 _ _ y366 x1_1 true _ ?side1 ?side2 A8.out).mono ?_); (case side1 => exact CD ((Kd.R_reads' HO368.out).2.2)); (case side2 => exact (Kd.R_reads' HO368.out).2.1); rintro e w15 ⟨rfl, hb⟩; have n0_ := RB HO368 hb; have n1_ := BS HB hb; clear HO368; clear HB; have HO368 := n0_; have HB := n1_; clear n0_ n1_; (try clear hb); (try clear hb2); (try clear hk); (try clear hi)))
             go_roundg k3
             case measure => have := HK1.out; have := HK2.out; have := HK3.out; omega
             case rel => exact ⟨((x3_3 + 1) % 256), (by first | rfl | (simp; done) | (simp [*]; done)), H', ⟨by have := HK1.out; have := HK2.out; have := HK3.out; omega⟩, ⟨BD HB⟩⟩
            ·replace c9 := Bool.eq_false_iff.mpr c9
             subst c9
             have H1 : (some false) = some r := by rw [if_neg (show ¬ (false = true) by decide)] at H; exact H
             clear H
             have H := H1
             clear H1
             obtain rfl := Option.some.inj H
             go_wp2_with (first | ((with_reducible refine gate_dst (N := 32) rfl ?_); refine Kd.R_lit k39 _ 39 ?hg (N := 32) ?hd (xs := ([(⟨(⟨1, x1_1⟩ : S35), false⟩ : S39), (⟨(⟨wrap64 (Int.tmod x3_3 3), x2_2⟩ : S35), true⟩ : S39), (⟨(⟨1, x3_3⟩ : S35), false⟩ : S39), (⟨(⟨(-1), x1_1⟩ : S35), false⟩ : S39)] : List (S39))) (inner := [.int .i64 1, .int .u8 x1_1, .bool false, .int .i64 (wrap64 (Int.tmod x3_3 3)), .int .u8 x2_2, .bool true, .int .i64 1, .int .u8 x3_3, .bool false, .int .i64 (-1), .int .u8 x1_1, .bool false]) (ok := fun _ => True) (okp := fun _ => True) ?hr ?hp (fun _ hk => hk) trivial (Below.refl _ _) (Nat.le_refl _) (by simp) ?_; (case hd => rfl); (case hg => rfl); (case hr => first | (go_simp; done) | (go_simp; rfl)); (case hp => exact (Reps.c3 (show Kd.M k39 _ _ _ (⟨(⟨1, x1_1⟩ : S35), false⟩ : S39) [.int .i64 1, .int .u8 x1_1, .bool false] from (k39_mkM _ _ _ (⟨(⟨1, x1_1⟩ : S35), false⟩ : S39) )) (Reps.c3 (show Kd.M k39 _ _ _ (⟨(⟨wrap64 (Int.tmod x3_3 3), x2_2⟩ : S35), true⟩ : S39) [.int .i64 (wrap64 (Int.tmod x3_3 3)), .int .u8 x2_2, .bool true] from (k39_mkM _ _ _ (⟨(⟨wrap64 (Int.tmod x3_3 3), x2_2⟩ : S35), true⟩ : S39) )) (Reps.c3 (show Kd.M k39 _ _ _ (⟨(⟨1, x3_3⟩ : S35), false⟩ : S39) [.int .i64 1, .int .u8 x3_3, .bool false] from (k39_mkM _ _ _ (⟨(⟨1, x3_3⟩ : S35), false⟩ : S39) )) (Reps.c3 (show Kd.M k39 _ _ _ (⟨(⟨(-1), x1_1⟩ : S35), false⟩ : S39) [.int .i64 (-1), .int .u8 x1_1, .bool false] from (k39_mkM _ _ _ (⟨(⟨(-1), x1_1⟩ : S35), false⟩ : S39) )) (Reps.none _ _)))))); intro v367 w16 ho17 hb hg_ hnew_; clear hg_ hnew_; (first | rw [← Ny366.out] at ho17 | (simp only [Int.reduceToNat] at ho17; rw [← Ny366.out] at ho17)); have n0_ := Aside0.mk (Kd.R_lower ho17 (below_size (BD HB))); have n1_ := BS HB hb; clear HB; have HO368 := n0_; have HB := n1_; clear n0_ n1_; clear hb ho17) | ((with_reducible refine gate_callee (f := 4) rfl ?_); refine goesL_ (some 36) rfl rfl Try.func4 (by kernel_rfl) rfl #[.int .u8 x1_1, .int .u8 x2_2, .int .u8 x3_3] rfl (by (try simp only [List.map_toArray, List.map_cons, List.map_nil]); first | done | rfl | (simp only [List.length_drop, List.length_take]; rfl)) ?_; (with_reducible refine (clepsydralaw20_JobsMerge.calls k3 x1_1 x2_2 x3_3 true _ A4.out).mono ?_); rintro e w18 ⟨rfl, hb⟩; refine ⟨_, rfl, ?_⟩; have n0_ := RB HO368 hb; have n1_ := BS HB hb; clear HO368; clear HB; have HO368 := n0_; have HB := n1_; clear n0_ n1_; (try clear hb); (try clear hb2); (try clear hk); (try clear hi)) | (go_at_call 6; (with_reducible refine (clepsydralaw20_JobsTypes.calls k3 1 x1_1 (wrap64 ((wrap64 (x3_3)) - 2)) x2_2 x3_3 true _ A6.out).mono ?_); rintro e w19 ⟨rfl, hb⟩; have n0_ := RB HO368 hb; have n1_ := BS HB hb; clear HO368; clear HB; have HO368 := n0_; have HB := n1_; clear n0_ n1_; (try clear hb); (try clear hb2); (try clear hk); (try clear hi); obtain ⟨Ao20, co20, eo20⟩ := Kd.R_slice HO368.out; subst eo20) | (go_at_call 3; (with_reducible refine (clepsydralaw20_JobsWhole.calls k3 _ _ y366 x1_1 false _ ?side1 ?side2 A8.out).mono ?_); (case side1 => exact CD ((Kd.R_reads' HO368.out).2.2)); (case side2 => exact (Kd.R_reads' HO368.out).2.1); rintro e w21 ⟨rfl, hb⟩; have n0_ := RB HO368 hb; have n1_ := BS HB hb; clear HO368; clear HB; have HO368 := n0_; have HB := n1_; clear n0_ n1_; (try clear hb); (try clear hb2); (try clear hk); (try clear hi)))
             go_ret
             exact ⟨by first | rfl | (simp [errW_none, errW_some] <;> rfl) | (simp [*, errW_none, errW_some] <;> rfl), BD HB⟩
           ·replace c7 := Bool.eq_false_iff.mpr c7
            subst c7
            have H1 : (some false) = some r := by rw [if_neg (show ¬ (false = true) by decide)] at H; exact H
            clear H
            have H := H1
            clear H1
            obtain rfl := Option.some.inj H
            go_wp2_with (first | ((with_reducible refine gate_dst (N := 32) rfl ?_); refine Kd.R_lit k39 _ 39 ?hg (N := 32) ?hd (xs := ([(⟨(⟨1, x1_1⟩ : S35), false⟩ : S39), (⟨(⟨wrap64 (Int.tmod x3_3 3), x2_2⟩ : S35), true⟩ : S39), (⟨(⟨1, x3_3⟩ : S35), false⟩ : S39), (⟨(⟨(-1), x1_1⟩ : S35), false⟩ : S39)] : List (S39))) (inner := [.int .i64 1, .int .u8 x1_1, .bool false, .int .i64 (wrap64 (Int.tmod x3_3 3)), .int .u8 x2_2, .bool true, .int .i64 1, .int .u8 x3_3, .bool false, .int .i64 (-1), .int .u8 x1_1, .bool false]) (ok := fun _ => True) (okp := fun _ => True) ?hr ?hp (fun _ hk => hk) trivial (Below.refl _ _) (Nat.le_refl _) (by simp) ?_; (case hd => rfl); (case hg => rfl); (case hr => first | (go_simp; done) | (go_simp; rfl)); (case hp => exact (Reps.c3 (show Kd.M k39 _ _ _ (⟨(⟨1, x1_1⟩ : S35), false⟩ : S39) [.int .i64 1, .int .u8 x1_1, .bool false] from (k39_mkM _ _ _ (⟨(⟨1, x1_1⟩ : S35), false⟩ : S39) )) (Reps.c3 (show Kd.M k39 _ _ _ (⟨(⟨wrap64 (Int.tmod x3_3 3), x2_2⟩ : S35), true⟩ : S39) [.int .i64 (wrap64 (Int.tmod x3_3 3)), .int .u8 x2_2, .bool true] from (k39_mkM _ _ _ (⟨(⟨wrap64 (Int.tmod x3_3 3), x2_2⟩ : S35), true⟩ : S39) )) (Reps.c3 (show Kd.M k39 _ _ _ (⟨(⟨1, x3_3⟩ : S35), false⟩ : S39) [.int .i64 1, .int .u8 x3_3, .bool false] from (k39_mkM _ _ _ (⟨(⟨1, x3_3⟩ : S35), false⟩ : S39) )) (Reps.c3 (show Kd.M k39 _ _ _ (⟨(⟨(-1), x1_1⟩ : S35), false⟩ : S39) [.int .i64 (-1), .int .u8 x1_1, .bool false] from (k39_mkM _ _ _ (⟨(⟨(-1), x1_1⟩ : S35), false⟩ : S39) )) (Reps.none _ _)))))); intro v367 w22 ho23 hb hg_ hnew_; clear hg_ hnew_; (first | rw [← Ny366.out] at ho23 | (simp only [Int.reduceToNat] at ho23; rw [← Ny366.out] at ho23)); have n0_ := Aside0.mk (Kd.R_lower ho23 (below_size (BD HB))); have n1_ := BS HB hb; clear HB; have HO368 := n0_; have HB := n1_; clear n0_ n1_; clear hb ho23) | ((with_reducible refine gate_callee (f := 4) rfl ?_); refine goesL_ (some 36) rfl rfl Try.func4 (by kernel_rfl) rfl #[.int .u8 x1_1, .int .u8 x2_2, .int .u8 x3_3] rfl (by (try simp only [List.map_toArray, List.map_cons, List.map_nil]); first | done | rfl | (simp only [List.length_drop, List.length_take]; rfl)) ?_; (with_reducible refine (clepsydralaw20_JobsMerge.calls k3 x1_1 x2_2 x3_3 true _ A4.out).mono ?_); rintro e w24 ⟨rfl, hb⟩; refine ⟨_, rfl, ?_⟩; have n0_ := RB HO368 hb; have n1_ := BS HB hb; clear HO368; clear HB; have HO368 := n0_; have HB := n1_; clear n0_ n1_; (try clear hb); (try clear hb2); (try clear hk); (try clear hi)) | (go_at_call 6; (with_reducible refine (clepsydralaw20_JobsTypes.calls k3 1 x1_1 (wrap64 ((wrap64 (x3_3)) - 2)) x2_2 x3_3 false _ A6.out).mono ?_); rintro e w25 ⟨rfl, hb⟩; have n0_ := RB HO368 hb; have n1_ := BS HB hb; clear HO368; clear HB; have HO368 := n0_; have HB := n1_; clear n0_ n1_; (try clear hb); (try clear hb2); (try clear hk); (try clear hi)))
            go_ret
            exact ⟨by first | rfl | (simp [errW_none, errW_some] <;> rfl) | (simp [*, errW_none, errW_some] <;> rfl), BD HB⟩
          ·replace c5 := Bool.eq_false_iff.mpr c5
           subst c5
           have H1 : (some false) = some r := by rw [if_neg (show ¬ (false = true) by decide)] at H; exact H
           clear H
           have H := H1
           clear H1
           obtain rfl := Option.some.inj H
           go_wp2_with (first | ((with_reducible refine gate_dst (N := 32) rfl ?_); refine Kd.R_lit k39 _ 39 ?hg (N := 32) ?hd (xs := ([(⟨(⟨1, x1_1⟩ : S35), false⟩ : S39), (⟨(⟨wrap64 (Int.tmod x3_3 3), x2_2⟩ : S35), true⟩ : S39), (⟨(⟨1, x3_3⟩ : S35), false⟩ : S39), (⟨(⟨(-1), x1_1⟩ : S35), false⟩ : S39)] : List (S39))) (inner := [.int .i64 1, .int .u8 x1_1, .bool false, .int .i64 (wrap64 (Int.tmod x3_3 3)), .int .u8 x2_2, .bool true, .int .i64 1, .int .u8 x3_3, .bool false, .int .i64 (-1), .int .u8 x1_1, .bool false]) (ok := fun _ => True) (okp := fun _ => True) ?hr ?hp (fun _ hk => hk) trivial (Below.refl _ _) (Nat.le_refl _) (by simp) ?_; (case hd => rfl); (case hg => rfl); (case hr => first | (go_simp; done) | (go_simp; rfl)); (case hp => exact (Reps.c3 (show Kd.M k39 _ _ _ (⟨(⟨1, x1_1⟩ : S35), false⟩ : S39) [.int .i64 1, .int .u8 x1_1, .bool false] from (k39_mkM _ _ _ (⟨(⟨1, x1_1⟩ : S35), false⟩ : S39) )) (Reps.c3 (show Kd.M k39 _ _ _ (⟨(⟨wrap64 (Int.tmod x3_3 3), x2_2⟩ : S35), true⟩ : S39) [.int .i64 (wrap64 (Int.tmod x3_3 3)), .int .u8 x2_2, .bool true] from (k39_mkM _ _ _ (⟨(⟨wrap64 (Int.tmod x3_3 3), x2_2⟩ : S35), true⟩ : S39) )) (Reps.c3 (show Kd.M k39 _ _ _ (⟨(⟨1, x3_3⟩ : S35), false⟩ : S39) [.int .i64 1, .int .u8 x3_3, .bool false] from (k39_mkM _ _ _ (⟨(⟨1, x3_3⟩ : S35), false⟩ : S39) )) (Reps.c3 (show Kd.M k39 _ _ _ (⟨(⟨(-1), x1_1⟩ : S35), false⟩ : S39) [.int .i64 (-1), .int .u8 x1_1, .bool false] from (k39_mkM _ _ _ (⟨(⟨(-1), x1_1⟩ : S35), false⟩ : S39) )) (Reps.none _ _)))))); intro v367 w26 ho27 hb hg_ hnew_; clear hg_ hnew_; (first | rw [← Ny366.out] at ho27 | (simp only [Int.reduceToNat] at ho27; rw [← Ny366.out] at ho27)); have n0_ := Aside0.mk (Kd.R_lower ho27 (below_size (BD HB))); have n1_ := BS HB hb; clear HB; have HO368 := n0_; have HB := n1_; clear n0_ n1_; clear hb ho27) | ((with_reducible refine gate_callee (f := 4) rfl ?_); refine goesL_ (some 36) rfl rfl Try.func4 (by kernel_rfl) rfl #[.int .u8 x1_1, .int .u8 x2_2, .int .u8 x3_3] rfl (by (try simp only [List.map_toArray, List.map_cons, List.map_nil]); first | done | rfl | (simp only [List.length_drop, List.length_take]; rfl)) ?_; (with_reducible refine (clepsydralaw20_JobsMerge.calls k3 x1_1 x2_2 x3_3 false _ A4.out).mono ?_); rintro e w28 ⟨rfl, hb⟩; refine ⟨_, rfl, ?_⟩; have n0_ := RB HO368 hb; have n1_ := BS HB hb; clear HO368; clear HB; have HO368 := n0_; have HB := n1_; clear n0_ n1_; (try clear hb); (try clear hb2); (try clear hk); (try clear hi)))
           go_ret
           exact ⟨by first | rfl | (simp [errW_none, errW_some] <;> rfl) | (simp [*, errW_none, errW_some] <;> rfl), BD HB⟩
         ·rw [if_neg c3] at H
          have c3b0 : decide (x3_3 < 7) = false := decide_eq_false c3
          clear c3
          have H' := Aside0.mk H
          clear H
          go_wp2
          go_roundg k3
          case measure => have := HK1.out; have := HK2.out; have := HK3.out; omega
          case rel => exact ⟨((x2_2 + 1) % 256), (by first | rfl | (simp; done) | (simp [*]; done)), H', ⟨by have := HK1.out; have := HK2.out; have := HK3.out; omega⟩, ⟨BD HB⟩⟩
      ·rw [if_neg c2] at H
       have c2b0 : decide (x2_2 < 6) = false := decide_eq_false c2
       clear c2
       have H' := Aside0.mk H
       clear H
       go_wp2
       go_roundg k2
       case measure => have := HK1.out; have := HK2.out; omega
       case rel => exact ⟨((x1_1 + 1) % 256), (by first | rfl | (simp; done) | (simp [*]; done)), H', ⟨by have := HK1.out; have := HK2.out; omega⟩, ⟨BD HB⟩⟩
   ·rw [if_neg c1] at H
    have c1b0 : decide (x1_1 < 6) = false := decide_eq_false c1
    clear c1
    replace H := Option.bind_eq_some_iff.mp H
    obtain ⟨t364, A290, H⟩ := H
    replace H : (if t364 = true then ((clepsydralaw20_works.f k1).bind fun t365 => (some t365)) else (some false)) = some r := H
    have A29 := Aside0.mk A290
    clear A290
    by_cases c30 : t364 = true
    ·subst c30
     have H1 : ((clepsydralaw20_works.f k1).bind fun t365 => (some t365)) = some r := by rw [if_pos rfl] at H; exact H
     clear H
     have H := H1
     clear H1
     replace H := Option.bind_eq_some_iff.mp H
     obtain ⟨t365, A310, H⟩ := H
     replace H : (some t365) = some r := H
     have A31 := Aside0.mk A310
     clear A310
     obtain rfl := Option.some.inj H
     go_wp2_with (first | ((with_reducible refine gate_callee (f := 3) rfl ?_); refine goesL_ (some 56) rfl rfl Try.func3 (by kernel_rfl) rfl #[.slice none 0 0, .int .u8 0] rfl (by (try simp only [List.map_toArray, List.map_cons, List.map_nil]); first | done | rfl | (simp only [List.length_drop, List.length_take]; rfl)) ?_; (refine (clepsydralaw20_JobsWhole.calls k1 _ _ ([] : List (S39)) 0 true _ ?side1 ?side2 A29.out).mono ?_); (case side1 => exact Kd.C_nil _ _); (case side2 => exact Nat.le_refl _); rintro e w32 ⟨rfl, hb⟩; refine ⟨_, rfl, ?_⟩; have n0_ := BS HB hb; clear HB; have HB := n0_; clear n0_; (try clear hb); (try clear hb2); (try clear hk); (try clear hi)) | (go_at_call 8; (with_reducible refine (clepsydralaw20_works.calls k1  t365 _ A31.out).mono ?_); rintro e w33 ⟨rfl, hb⟩; have n0_ := BS HB hb; clear HB; have HB := n0_; clear n0_; (try clear hb); (try clear hb2); (try clear hk); (try clear hi)))
     go_ret
     exact ⟨by first | rfl | (simp [errW_none, errW_some] <;> rfl) | (simp [*, errW_none, errW_some] <;> rfl), BD HB⟩
    ·replace c30 := Bool.eq_false_iff.mpr c30
     subst c30
     have H1 : (some false) = some r := by rw [if_neg (show ¬ (false = true) by decide)] at H; exact H
     clear H
     have H := H1
     clear H1
     obtain rfl := Option.some.inj H
     go_wp2_with (first | ((with_reducible refine gate_callee (f := 3) rfl ?_); refine goesL_ (some 56) rfl rfl Try.func3 (by kernel_rfl) rfl #[.slice none 0 0, .int .u8 0] rfl (by (try simp only [List.map_toArray, List.map_cons, List.map_nil]); first | done | rfl | (simp only [List.length_drop, List.length_take]; rfl)) ?_; (refine (clepsydralaw20_JobsWhole.calls k1 _ _ ([] : List (S39)) 0 false _ ?side1 ?side2 A29.out).mono ?_); (case side1 => exact Kd.C_nil _ _); (case side2 => exact Nat.le_refl _); rintro e w34 ⟨rfl, hb⟩; refine ⟨_, rfl, ?_⟩; have n0_ := BS HB hb; clear HB; have HB := n0_; clear n0_; (try clear hb); (try clear hb2); (try clear hk); (try clear hi)))
     go_ret
     exact ⟨by first | rfl | (simp [errW_none, errW_some] <;> rfl) | (simp [*, errW_none, errW_some] <;> rfl), BD HB⟩

/-- THE ONE PURE STATEMENT of clepsydralaw20_JobsKnown: yours. -/
def clepsydralaw20_JobsKnown.Pure : Prop := ∃ k, clepsydralaw20_JobsKnown.f k  = some true
theorem clepsydralaw20_JobsKnown.walk (P : clepsydralaw20_JobsKnown.Pure)  (w : World)  :
  Calls Try.prog 7 #[] w fun e w' => e = .returned (.bool true) ∧ Below w.heap.size w w' := by
 obtain ⟨k, h⟩ := P  
 refine (clepsydralaw20_JobsKnown.calls k  true w h).mono ?_
 rintro e w' ⟨rfl, hd⟩
 exact ⟨rfl, hd⟩

end Go.Proofs.Ytgchfibcaecjcaa.P
