/- Printed by a program for this claim: functions of the program as plain functions, and that the machine computes them. -/
import Derived.Test.YtclgclcoblfddaaPx0
import Derived.Test.YtclgclcoblfddaaPShort
import Derived.Test.YtclgclcoblfddaaPx6
import Derived.Test.YtclgclcoblfddaaPx7
namespace Go.Proofs.Ytclgclcoblfddaa.P
open Go.RowKit Go.Proofs.YtclgclcoblfddaaW.PrintWords Go.Proofs.YtclgclcoblfddaaW.PrintLast Go.Proofs.YtclgclcoblfddaaW.PrintMore
attribute [local go_sem] Zeg Zee Zfg Zff Zdo Zdm Zef Zed
set_option linter.unusedVariables false
set_option linter.unusedSimpArgs false
theorem Zdq {p : Prop} (h : p := by kernel_rfl) : p := h
theorem t11_5 {p : Prop} (h : p := by first | rfl | (simp; done) | (simp [*]; done)) : p := h
theorem Zej {p : Prop} (h : p := by first | (with_reducible assumption) | assumption) : p := h
theorem t11_3 {p : Prop} (h : p := by first | exact Kd.R_ne HO_11.out BK277.out (by decide) | (intro h_; have h2_ := HO_11.out.1 _ h_.symm; simp at h2_)) : p := h
theorem t11_2 {p : Prop} (h : p := by (with_reducible repeat (first | apply Kd.Zcm | apply Kd.Zcl | apply Kd.Zbw)); exact Kd.Zbv HO_13.out (fun _ hk => ⟨hk.2, hk.1⟩)) : p := h
theorem t11_1 {p : Prop} (h : p := by repeat (first | (with_reducible first | exact HB.out | apply Zau | apply Zaj | apply Zal | refine Zai ?_ GE277.out) | exact HB.out)) : p := h
theorem t11_0 {p : Prop} (h : p := by repeat (first | (with_reducible first | exact HB.out | apply Zau | apply Zaj | apply Zal | refine Zai ?_ GE277.out | refine Zai ?_ GE278.out) | exact HB.out)) : p := h
def u11_0 : Array Bool := #[false, false, false, false, false, false, false, false]
def u11_1 : Array Bool := #[false, true, false, false, false, false, false, false]
def u11_2 : Array Bool := #[false, true, true, false, false, false, false, false]
def u11_3 : Array Bool := #[false, true, true, true, false, false, false, false]
def u11_4 : Array Bool := #[false, true, true, true, true, false, false, false]
def u11_5 : Array Bool := #[true, true, true, true, true, false, false, false]
def u11_6 : Array Bool := #[true, true, true, true, true, true, false, false]
def u11_7 : Array Bool := #[true, true, true, true, true, true, true, false]
def u11_8 : Array Bool := #[true, true, true, true, true, true, true, true]
def u11_9 : Array Bool := #[false, false, false, false, false, false, false, false, false, false, false, false, false, false, false]
def u11_10 : Array Bool := #[true, false, false, false, false, false, false, false, false, false, false, false, false, false, false]
def u11_11 : Array Bool := #[true, true, false, false, false, false, false, false, false, false, false, false, false, false, false]
def u11_12 : Array Bool := #[true, true, true, false, false, false, false, false, false, false, false, false, false, false, false]
def u11_13 : Array Bool := #[true, true, true, true, false, false, false, false, false, false, false, false, false, false, false]
def u11_14 : Array Bool := #[true, true, true, true, true, false, false, false, false, false, false, false, false, false, false]
def u11_15 : Array Bool := #[true, true, true, true, true, false, true, false, false, false, false, false, false, false, false]
def u11_16 : Array Bool := #[true, true, true, true, true, false, true, true, false, false, false, false, false, false, false]
def u11_17 : Array Bool := #[true, true, true, true, true, false, true, true, true, false, false, false, false, false, false]
def u11_18 : Array Bool := #[true, true, true, true, true, false, true, true, true, true, false, false, false, false, false]
def u11_19 : Array Bool := #[true, true, true, true, true, true, true, true, true, true, false, false, false, false, false]
def u11_20 : Array Bool := #[true, true, true, true, true, true, true, true, true, true, true, false, false, false, false]
def u11_21 : Array Bool := #[true, true, true, true, true, true, true, true, true, true, true, true, false, false, false]
def u11_22 : Array Bool := #[true, true, true, true, true, true, true, true, true, true, true, true, true, false, false]
def u11_23 : Array Bool := #[true, true, true, true, true, true, true, true, true, true, true, true, true, true, false]
def u11_24 : Array Bool := #[true, true, true, true, true, true, true, true, true, true, true, true, true, true, true]
mutual
def Zae.l0 : Nat → List Bool → List (S44) → Bool → List (S44) → Int → List (List Int) → List (List Int) → List (List Int) → List (List Int) → List (List Int) → List (List Int) → List (List Int) → Option ((List (S44)))
 | 0, _, _, _, _, _, _, _, _, _, _, _, _ => none
 | k + 1, x1, x3, x4, x11, x12, x278000, x278001, x278002, x278003, x278004, x278005, x278006 => if x12 < (x11.length : Int) then (if 0 ≤ x12 then ((Zag.f k x278000 x278001 x278002 x278003 x278004 x278005 x278006 x1 ((Zaf x11 x12).f0) ((Zaf x11 x12).f1) ((Zaf x11 x12).f2)).bind fun t283 => (Zae.l1 k x1 x3 x4 x11 x12 t283 0 x278000 x278001 x278002 x278003 x278004 x278005 x278006)) else (none)) else (some x11)
def Zae.l1 : Nat → List Bool → List (S44) → Bool → List (S44) → Int → List (S44) → Int → List (List Int) → List (List Int) → List (List Int) → List (List Int) → List (List Int) → List (List Int) → List (List Int) → Option ((List (S44)))
 | 0, _, _, _, _, _, _, _, _, _, _, _, _, _, _ => none
 | k + 1, x1, x3, x4, x11, x12, x13, x14, x278000, x278001, x278002, x278003, x278004, x278005, x278006 => if x14 < (x13.length : Int) then (if x4 = true then (if 0 ≤ x14 then (if (Zaf x13 x14).f2 = true then ((Zak.f k x11 ((Zaf x13 x14).f0) ((Zaf x13 x14).f1) ((Zaf x13 x14).f2)).bind fun t288 => (if t288 < 0 then ((Zak.f k x3 ((Zaf x13 x14).f0) ((Zaf x13 x14).f1) ((Zaf x13 x14).f2)).bind fun t290 => (if t290 < 0 then (if x11.length < 8796093022208 then (Zae.l1 k x1 x3 x4 (x11 ++ [(⟨(Zaf x13 x14).f0, (Zaf x13 x14).f1, false⟩ : S44)]) x12 x13 (wrap64 (x14 + 1)) x278000 x278001 x278002 x278003 x278004 x278005 x278006) else (none)) else (Zae.l1 k x1 x3 x4 x11 x12 x13 (wrap64 (x14 + 1)) x278000 x278001 x278002 x278003 x278004 x278005 x278006))) else (Zae.l1 k x1 x3 x4 x11 x12 x13 (wrap64 (x14 + 1)) x278000 x278001 x278002 x278003 x278004 x278005 x278006))) else (Zae.l1 k x1 x3 x4 x11 x12 x13 (wrap64 (x14 + 1)) x278000 x278001 x278002 x278003 x278004 x278005 x278006)) else (none)) else (if 0 ≤ x14 then ((Zak.f k x11 ((Zaf x13 x14).f0) ((Zaf x13 x14).f1) ((Zaf x13 x14).f2)).bind fun t297 => (if t297 < 0 then ((Zak.f k x3 ((Zaf x13 x14).f0) ((Zaf x13 x14).f1) ((Zaf x13 x14).f2)).bind fun t299 => (if t299 < 0 then (if x11.length < 8796093022208 then (Zae.l1 k x1 x3 x4 (x11 ++ [(⟨(Zaf x13 x14).f0, (Zaf x13 x14).f1, false⟩ : S44)]) x12 x13 (wrap64 (x14 + 1)) x278000 x278001 x278002 x278003 x278004 x278005 x278006) else (none)) else (Zae.l1 k x1 x3 x4 x11 x12 x13 (wrap64 (x14 + 1)) x278000 x278001 x278002 x278003 x278004 x278005 x278006))) else (Zae.l1 k x1 x3 x4 x11 x12 x13 (wrap64 (x14 + 1)) x278000 x278001 x278002 x278003 x278004 x278005 x278006))) else (none))) else (Zae.l0 k x1 x3 x4 x11 (wrap64 (x12 + 1)) x278000 x278001 x278002 x278003 x278004 x278005 x278006)
end
def Zae.f (k : Nat) (l0_0 : List (List Int)) (l0_1 : List (List Int)) (l0_2 : List (List Int)) (l0_3 : List (List Int)) (l0_4 : List (List Int)) (l0_5 : List (List Int)) (l0_6 : List (List Int)) (l1 : List Bool) (a2_0 : Int) (a2_1 : Int) (a2_2 : Bool) (l3 : List (S44)) (a4 : Bool) : Option ((List (S44))) := Zae.l0 k l1 l3 a4 (([(⟨a2_0, a2_1, a2_2⟩ : S44)] : List (S44))) 0 l0_0 l0_1 l0_2 l0_3 l0_4 l0_5 l0_6
def Zae.T5 : Bool × List (List Nat × List Nat) := (true, [([], []), ([], []), ([], []), ([], []), ([2, 3], [2, 3]), ([4], [4]), ([0, 1, 5], [0, 1, 5]), ([6, 6, 0, 1, 2, 3, 4, 5, 6], [6])])
def Zae.B5 : List Nat := [0, 0, 0, 0, 12, 28, 63, 127]
theorem Zae.tab5 : rtab .any (opsOf Try.f50 5) = Zae.T5 := by kernel_rfl
theorem Zae.bits5 : Zeo Zae.T5.2 Zae.B5 = true := by kernel_rfl
def Zae.T10 : Bool × List (List Nat × List Nat) := (true, [([], []), ([], []), ([], []), ([1, 2], [1, 2]), ([3], [3]), ([4], [4]), ([], []), ([], []), ([6, 7], [6, 7]), ([8], [8]), ([9], [9]), ([5, 10], [5, 10]), ([11], [11]), ([0, 12], [0, 12]), ([13, 13, 0, 1, 2, 3, 4, 5, 6, 7, 8, 9, 10, 11, 12, 13], [0, 13])])
def Zae.B10 : List Nat := [0, 0, 0, 6, 14, 30, 0, 0, 192, 448, 960, 2046, 4094, 8191, 16383]
theorem Zae.tab10 : rtab .any (opsOf Try.f50 10) = Zae.T10 := by kernel_rfl
theorem Zae.bits10 : Zeo Zae.T10.2 Zae.B10 = true := by kernel_rfl
set_option maxHeartbeats 8000000 in
set_option maxRecDepth 100000 in
theorem Zae.calls (k : Nat) (A0_0 : Option Addr) (c0_0 : Nat) (l0_0 : List (List Int)) (A0_1 : Option Addr) (c0_1 : Nat) (l0_1 : List (List Int)) (A0_2 : Option Addr) (c0_2 : Nat) (l0_2 : List (List Int)) (A0_3 : Option Addr) (c0_3 : Nat) (l0_3 : List (List Int)) (A0_4 : Option Addr) (c0_4 : Nat) (l0_4 : List (List Int)) (A0_5 : Option Addr) (c0_5 : Nat) (l0_5 : List (List Int)) (A0_6 : Option Addr) (c0_6 : Nat) (l0_6 : List (List Int)) (A1 : Option Addr) (c1 : Nat) (l1 : List Bool) (a2_0 : Int) (a2_1 : Int) (a2_2 : Bool) (A3 : Option Addr) (c3 : Nat) (l3 : List (S44)) (a4 : Bool) (r : List (S44)) (w : World) (hr0_0 : Kd.C (Kd.slice 3 (Kd.int .i64)) w A0_0 l0_0.length l0_0) (hc0_0 : l0_0.length ≤ c0_0) (hr0_1 : Kd.C (Kd.slice 3 (Kd.int .i64)) w A0_1 l0_1.length l0_1) (hc0_1 : l0_1.length ≤ c0_1) (hr0_2 : Kd.C (Kd.slice 3 (Kd.int .i64)) w A0_2 l0_2.length l0_2) (hc0_2 : l0_2.length ≤ c0_2) (hr0_3 : Kd.C (Kd.slice 3 (Kd.int .i64)) w A0_3 l0_3.length l0_3) (hc0_3 : l0_3.length ≤ c0_3) (hr0_4 : Kd.C (Kd.slice 3 (Kd.int .i64)) w A0_4 l0_4.length l0_4) (hc0_4 : l0_4.length ≤ c0_4) (hr0_5 : Kd.C (Kd.slice 3 (Kd.int .i64)) w A0_5 l0_5.length l0_5) (hc0_5 : l0_5.length ≤ c0_5) (hr0_6 : Kd.C (Kd.slice 3 (Kd.int .i64)) w A0_6 l0_6.length l0_6) (hc0_6 : l0_6.length ≤ c0_6) (hr1 : Kd.C Kd.bool w A1 l1.length l1) (hc1 : l1.length ≤ c1) (hr3 : Kd.C k44 w A3 l3.length l3) (hc3 : l3.length ≤ c3) (h : Zae.f k l0_0 l0_1 l0_2 l0_3 l0_4 l0_5 l0_6 l1 a2_0 a2_1 a2_2 l3 a4 = some r) :
  Calls Try.prog 50 #[.agg #[.slice A0_0 l0_0.length c0_0, .slice A0_1 l0_1.length c0_1, .slice A0_2 l0_2.length c0_2, .slice A0_3 l0_3.length c0_3, .slice A0_4 l0_4.length c0_4, .slice A0_5 l0_5.length c0_5, .slice A0_6 l0_6.length c0_6], .slice A1 l1.length c1, .agg #[.int .i64 a2_0, .int .u8 a2_1, .bool a2_2], .slice A3 l3.length c3, .bool a4] w fun e w' => ∃ v0_ : Value, e = .returned (v0_) ∧ Kd.R k44 44 w' w.heap.size (fun _ => True) v0_ r ∧ Below w.heap.size w w' := by
 have hu38 := Try.underlying38
 have hu44 := Try.underlying44
 have HR0_0 := Za.mk hr0_0
 have HC0_0 := Za.mk hc0_0
 clear hr0_0 hc0_0
 have HR0_1 := Za.mk hr0_1
 have HC0_1 := Za.mk hc0_1
 clear hr0_1 hc0_1
 have HR0_2 := Za.mk hr0_2
 have HC0_2 := Za.mk hc0_2
 clear hr0_2 hc0_2
 have HR0_3 := Za.mk hr0_3
 have HC0_3 := Za.mk hc0_3
 clear hr0_3 hc0_3
 have HR0_4 := Za.mk hr0_4
 have HC0_4 := Za.mk hc0_4
 clear hr0_4 hc0_4
 have HR0_5 := Za.mk hr0_5
 have HC0_5 := Za.mk hc0_5
 clear hr0_5 hc0_5
 have HR0_6 := Za.mk hr0_6
 have HC0_6 := Za.mk hc0_6
 clear hr0_6 hc0_6
 have HR1 := Za.mk hr1
 have HC1 := Za.mk hc1
 clear hr1 hc1
 have HR3 := Za.mk hr3
 have HC3 := Za.mk hc3
 clear hr3 hc3
 have HB := Za.mk (Below.refl w.heap.size w)
 have H : (Zae.l0 k l1 l3 a4 (([(⟨a2_0, a2_1, a2_2⟩ : S44)] : List (S44))) 0 l0_0 l0_1 l0_2 l0_3 l0_4 l0_5 l0_6) = some r := h
 clear h
 obtain ⟨y279, hy279⟩ : ∃ y_ : List (S44), y_ = (([(⟨a2_0, a2_1, a2_2⟩ : S44)] : List (S44))) := ⟨_, rfl⟩
 replace H : (Zae.l0 k l1 l3 a4 y279 0 l0_0 l0_1 l0_2 l0_3 l0_4 l0_5 l0_6) = some r := by first | (rw [hy279]; with_reducible exact H) | (have H2_ := (Option.bind_some _ _).symm.trans H; rw [hy279]; with_reducible exact H2_) | (have H2_ := (Option.bind_some _ _).symm.trans H; with_reducible exact H2_) | with_reducible exact H | (rw [hy279]; exact H) | exact H
 have Ny279 := Za.mk hy279
 clear hy279
 have H' := Za.mk H
 clear H
 go_enter Try.func50, Try.ntmps50
 go_wp2_with (first | ((with_reducible refine Zca (N := 5) rfl ?_); refine Zbu ?hg (N := 5) ?hd (cs := #[.slice A0_0 l0_0.length c0_0, .slice A0_1 l0_1.length c0_1, .slice A0_2 l0_2.length c0_2, .slice A0_3 l0_3.length c0_3, .slice A0_4 l0_4.length c0_4, .slice A0_5 l0_5.length c0_5, .slice A0_6 l0_6.length c0_6]) (t := 38) ?hr ?_; (case hd => rfl); (case hg => rfl); (case hr => first | (go_simp; done) | (go_simp; rfl)); intro gb277 hg w6 hbox hb; have n0_ := BS HB hb; have n1_ := Za.mk (hbox); have n2_ := Za.mk ((by rw [hg]; exact (Zat (BD HB)) : w.heap.size ≤ gb277)); have n3_ := Za.mk ((by rw [hg]; exact (Zat (BD HB)) : w.heap.size ≤ gb277)); clear HB; have HB := n0_; have BK277 := n1_; have GW277 := n2_; have GE277 := n3_; clear n0_ n1_ n2_ n3_; clear hb hbox hg) | ((with_reducible refine Zca (N := 7) rfl ?_); refine Zbu ?hg (N := 7) ?hd (cs := #[.int .i64 a2_0, .int .u8 a2_1, .bool a2_2]) (t := 44) ?hr ?_; (case hd => rfl); (case hg => rfl); (case hr => first | (go_simp; done) | (go_simp; rfl)); intro gb278 hg w7 hbox hb; have n0_ := Za.mk (Zam (KB BK277) hb); have n1_ := Za.mk (Zbb t11_1 hb); have n2_ := Za.mk (hbox); have n3_ := Za.mk ((by rw [hg]; exact (Zat t11_1) : w.heap.size ≤ gb278)); have n4_ := Za.mk ((by rw [hg]; exact (Zat t11_1) : w.heap.size ≤ gb278)); have n5_ := Za.mk ((by rw [hg]; exact Nat.ne_of_lt (Zcw (KB BK277)) : gb277 ≠ gb278)); have n6_ := Za.mk ((by rw [hg]; exact Nat.ne_of_gt (Zcw (KB BK277)) : gb278 ≠ gb277)); clear BK277; clear HB; have BK277 := n0_; have HB := n1_; have BK278 := n2_; have GW278 := n3_; have GE278 := n4_; have NB277_278 := n5_; have NB278_277 := n6_; clear n0_ n1_ n2_ n3_ n4_ n5_ n6_; clear hb hbox hg; have hnb8 := NB278_277.out; have hnc8 := NB277_278.out; obtain ⟨hcz9_0, hcz9_1, hcz9_2, hfz9_0, hfz9_1, hfz9_2⟩ := cz3 BK278) | ((with_reducible refine Zca (N := 16) rfl ?_); refine Kd.R_lit k44 _ 44 ?hg (N := 16) ?hd (xs := ([(⟨a2_0, a2_1, a2_2⟩ : S44)] : List (S44))) (inner := [.int .i64 a2_0, .int .u8 a2_1, .bool a2_2]) (ok := fun _ => True) (okp := fun _ => True) ?hr ?hp (fun _ hk => hk) trivial (Below.refl _ _) (Nat.le_refl _) (by simp) ?_; (case hd => rfl); (case hg => rfl); (case hr => first | (go_simp; done) | (go_simp; rfl)); (case hp => exact (Reps.c3 (show Kd.M k44 _ _ _ (⟨a2_0, a2_1, a2_2⟩ : S44) [.int .i64 a2_0, .int .u8 a2_1, .bool a2_2] from (k44_mkM _ _ _ (⟨a2_0, a2_1, a2_2⟩ : S44) )) (Reps.none _ _))); intro v280 w10 ho11 hb hg_ hnew_; clear hg_ hnew_; (first | rw [← Ny279.out] at ho11 | (simp only [Int.reduceToNat] at ho11; rw [← Ny279.out] at ho11)); have n0_ := Za.mk (Kd.Zdk (Kd.R_newB ho11 (g := gb278) (o := .cells #[.int .i64 a2_0, .int .u8 a2_1, .bool a2_2] 44 (0, 0)) (KB BK278)) (Zat t11_0)); have n1_ := Za.mk (Zam (KB BK277) hb); have n2_ := Za.mk (Zam (KB BK278) hb); have n3_ := Za.mk (Zbb t11_0 hb); clear BK277; clear BK278; clear HB; have HO281 := n0_; have BK277 := n1_; have BK278 := n2_; have HB := n3_; clear n0_ n1_ n2_ n3_; clear hb ho11))
 go_loopg [11, 12] k (fun kq v11 v12 w' => ∃ (x11_1 : List (S44)) (x12_1 : Int), v12 = .int .i64 x12_1 ∧ Za (Zae.l0 kq l1 l3 a4 x11_1 x12_1 l0_0 l0_1 l0_2 l0_3 l0_4 l0_5 l0_6 = some r) ∧ Za (kq ≤ k) ∧ Za (Kd.R k44 44 w' w.heap.size (fun k_ => k_ ≠ gb278) v11 x11_1) ∧ Za (w'.heap[gb277]? = some (.cells #[(.slice A0_0 l0_0.length c0_0), (.slice A0_1 l0_1.length c0_1), (.slice A0_2 l0_2.length c0_2), (.slice A0_3 l0_3.length c0_3), (.slice A0_4 l0_4.length c0_4), (.slice A0_5 l0_5.length c0_5), (.slice A0_6 l0_6.length c0_6)] 38 (0, 0))) ∧ Za (w'.heap[gb278]? = some (.cells #[.int .i64 a2_0, .int .u8 a2_1, .bool a2_2] 44 (0, 0))) ∧ Za (Below w.heap.size w w'))
 case atStart => exact ⟨(y279), (0), t11_5, H', ⟨Nat.le_refl _⟩, ⟨by (with_reducible repeat (first | apply Kd.Zcm | apply Kd.Zcl | apply Kd.Zbw)); exact Kd.Zbv HO281.out (fun _ hk => hk.2)⟩, ⟨by (with_reducible repeat (first | refine Zan ?_ _ | refine Zap ?_ | refine Zao ?_ _)); exact BK277.out⟩, ⟨by (with_reducible repeat (first | refine Zan ?_ _ | refine Zap ?_ | refine Zao ?_ _)); exact BK278.out⟩, ⟨by repeat (first | (with_reducible first | exact HB.out | apply Zau | apply Zaj | apply Zal | refine Zai ?_ GE277.out | refine Zai ?_ GE278.out) | exact HB.out)⟩⟩
 case round =>
  clear H'
  try clear c1
  try clear p2
  try clear c3
  try clear c5
  try clear c8
  try clear hcz9_0
  try clear hcz9_1
  try clear hcz9_2
  try clear hfz9_0
  try clear hfz9_1
  try clear hfz9_2
  obtain ⟨x11_1, x12_1, rfl, HA, HK1, HO_11, BK277, BK278, HB⟩ := hrel
  cases gk with
  | zero => exact absurd HA.out (by simp [Zae.l0])
  | succ k1 =>
   have H := HA.out
   clear HA
   simp only [Zae.l0] at H
   by_cases c12 : x12_1 < (x11_1.length : Int)
   case neg =>
    rw [if_neg c12] at H
    have c12b0 : decide (x12_1 < (x11_1.length : Int)) = false := decide_eq_false c12
    clear c12
    obtain rfl := Option.some.inj H
    obtain ⟨Ao62, co62, eo62⟩ := Kd.Zbp HO_11.out
    subst eo62
    go_wp2
    go_ret
    exact ⟨_, by first | rfl | (simp [Zbe, Zbd] <;> rfl) | (simp [*, Zbe, Zbd] <;> rfl), by (with_reducible repeat (first | apply Kd.Zcm | apply Kd.Zcl | apply Kd.Zbw)); exact Kd.Zbv HO_11.out (fun _ hk => trivial), by repeat (first | (with_reducible first | exact HB.out | apply Zau | apply Zaj | apply Zal | refine Zai ?_ GE277.out | refine Zai ?_ GE278.out) | exact HB.out)⟩
   rw [if_pos c12] at H
   have c12b0 : decide (x12_1 < (x11_1.length : Int)) = true := decide_eq_true c12
   clear c12
   by_cases c13 : 0 ≤ x12_1
   case neg =>
    rw [if_neg c13] at H
    exact absurd H (by simp)
   rw [if_pos c13] at H
   have c13b0 : decide (0 ≤ x12_1) = true := decide_eq_true c13
   clear c13
   replace H := Option.bind_eq_some_iff.mp H
   obtain ⟨t283, A140, H⟩ := H
   try dsimp only at H
   have A14 := Za.mk A140
   clear A140
   have H' := Za.mk H
   clear H
   obtain ⟨Ao15, co15, eo15⟩ := Kd.Zbp HO_11.out
   subst eo15
   try go_wp2
   have n0_ := Za.mk (Kd.Zbw HO_11.out)
   have n1_ := Za.mk (Zap BK277.out)
   have n2_ := Za.mk (Zap BK278.out)
   have n3_ := Za.mk (Zal HB.out)
   clear HO_11
   clear BK277
   clear BK278
   clear HB
   have HO_11 := n0_
   have BK277 := n1_
   have BK278 := n2_
   have HB := n3_
   clear n0_ n1_ n2_ n3_
   have p282 : 0 ≤ (x12_1 : Int) := of_decide_eq_true Zej
   have q282 : x12_1 < (x11_1.length : Int) := of_decide_eq_true Zej
   obtain ⟨ad282, e282, hx282_0, hx282_1, hx282_2⟩ := Zc (Kd.Zb HO_11.out).2.2 x12_1 p282 q282
   cases e282
   replace p282 := eq_true p282
   replace q282 := eq_true q282
   refine Zek (n := 8) (S := fun w' => w'.cell? ⟨gb277, 0, none⟩ = some (.slice A0_0 l0_0.length c0_0) ∧ w'.cell? ⟨gb277, 1, none⟩ = some (.slice A0_1 l0_1.length c0_1) ∧ w'.cell? ⟨gb277, 2, none⟩ = some (.slice A0_2 l0_2.length c0_2) ∧ w'.cell? ⟨gb277, 3, none⟩ = some (.slice A0_3 l0_3.length c0_3) ∧ w'.cell? ⟨gb277, 4, none⟩ = some (.slice A0_4 l0_4.length c0_4) ∧ w'.cell? ⟨gb277, 5, none⟩ = some (.slice A0_5 l0_5.length c0_5) ∧ w'.cell? ⟨gb277, 6, none⟩ = some (.slice A0_6 l0_6.length c0_6) ∧ w'.cell? (ad282.add ((x12_1).toNat * 3)) = some (.int .i64 ((Zaf x11_1 x12_1).f0)) ∧ w'.cell? ⟨(ad282.add ((x12_1).toNat * 3)).block, (ad282.add ((x12_1).toNat * 3)).off + 1, none⟩ = some (.int .u8 ((Zaf x11_1 x12_1).f1)) ∧ w'.cell? ⟨(ad282.add ((x12_1).toNat * 3)).block, (ad282.add ((x12_1).toNat * 3)).off + 2, none⟩ = some (.bool ((Zaf x11_1 x12_1).f2))) (ds := []) u11_0 Zdq rfl rfl ⟨(Zah BK277.out 0).trans rfl, (Zah BK277.out 1).trans rfl, (Zah BK277.out 2).trans rfl, (Zah BK277.out 3).trans rfl, (Zah BK277.out 4).trans rfl, (Zah BK277.out 5).trans rfl, (Zah BK277.out 6).trans rfl, hx282_0, hx282_1, hx282_2⟩ (fun hHeld => ?_); refine Zcp Zae.tab5 Zae.bits5 (fun HT_ HW_ => ?_)
   generalize wr.drew = w16 at HO_11 BK277 BK278 HB hx282_0 hx282_1 hx282_2 hHeld ⊢
   refine Zbc (i := 1) (N := some 24) (v := ?_) (a' := ?_) u11_1 rfl rfl (Zaw HT_.out Zdq) (fun _ _ _ h => h) (Or.inl ⟨by rfl, ?_⟩) ?_ ?_
   rotate_left
   ·intro w'
    go_simp
    with_reducible rfl
   rotate_left
   ·simp only [Act.put, s0_, s1_, s2_, Zax, Zay]
    rfl
   refine Zbc (i := 2) (N := some 25) (v := ?_) (a' := ?_) u11_2 rfl rfl (Zaw HT_.out Zdq) (fun _ _ _ h => h) (Or.inl ⟨by rfl, ?_⟩) ?_ ?_
   rotate_left
   ·intro w'
    go_simp
    with_reducible rfl
   rotate_left
   ·simp only [Act.put, s0_, s1_, s2_, Zax, Zay]
    rfl
   refine Zbc (i := 3) (N := some 26) (v := ?_) (a' := ?_) u11_3 rfl rfl (Zaw HT_.out Zdq) (fun _ _ _ h => h) (Or.inl ⟨by rfl, ?_⟩) ?_ ?_
   rotate_left
   ·intro w'
    go_simp
    with_reducible rfl
   rotate_left
   ·simp only [Act.put, s0_, s1_, s2_, Zax, Zay]
    rfl
   refine Zbc (i := 4) (N := some 27) (v := ?_) (a' := ?_) u11_4 rfl rfl (Zaw HT_.out Zdq) (fun _ _ _ h => h) (Or.inl ⟨by rfl, ?_⟩) ?_ ?_
   rotate_left
   ·intro w'
    go_simp
    with_reducible rfl
   rotate_left
   ·simp only [Act.put, s0_, s1_, s2_, Zax, Zay]
    rfl
   refine Zdh (i := 0) (N := some 23) (v := ?_) (a' := ?_) u11_5 rfl rfl (Zbt HT_.out HW_.out Zdq) (fun _ _ _ h => h) (Or.inl ⟨by rfl, ?_⟩) hHeld ?_ ?_
   rotate_left
   ·rintro w' ⟨s0, s1, s2, s3, s4, s5, s6, s7, s8, s9⟩
    go_simp
    with_reducible rfl
   rotate_left
   ·simp only [Act.put, s0_, s1_, s2_, Zax, Zay]
    rfl
   refine Zdh (i := 5) (N := some 28) (v := ?_) (a' := ?_) u11_6 rfl rfl (Zbt HT_.out HW_.out Zdq) (fun _ _ _ h => h) (Or.inl ⟨by rfl, ?_⟩) hHeld ?_ ?_
   rotate_left
   ·rintro w' ⟨s0, s1, s2, s3, s4, s5, s6, s7, s8, s9⟩
    go_simp
    with_reducible rfl
   rotate_left
   ·simp only [Act.put, s0_, s1_, s2_, Zax, Zay]
    rfl
   refine one_ (i := 6) (N := some 29) u11_7 rfl rfl (Zda HT_.out Zdq) (by decide) (fun K hK => ?_)
   refine goes_ Try.func25 Zdq rfl #[.agg #[.slice A0_0 l0_0.length c0_0, .slice A0_1 l0_1.length c0_1, .slice A0_2 l0_2.length c0_2, .slice A0_3 l0_3.length c0_3, .slice A0_4 l0_4.length c0_4, .slice A0_5 l0_5.length c0_5, .slice A0_6 l0_6.length c0_6], .slice A1 l1.length c1, .agg #[.int .i64 ((Zaf x11_1 x12_1).f0), .int .u8 ((Zaf x11_1 x12_1).f1), .bool ((Zaf x11_1 x12_1).f2)]] (by rfl) rfl rfl (by (try simp only [List.map_toArray, List.map_cons, List.map_nil]); first | done | rfl | (simp only [List.length_drop, List.length_take]; rfl)) ?_
   with_reducible refine (Zag.calls k1 _ _ l0_0 _ _ l0_1 _ _ l0_2 _ _ l0_3 _ _ l0_4 _ _ l0_5 _ _ l0_6 _ _ l1 ((Zaf x11_1 x12_1).f0) ((Zaf x11_1 x12_1).f1) ((Zaf x11_1 x12_1).f2) t283 _ ?side1 ?side2 ?side3 ?side4 ?side5 ?side6 ?side7 ?side8 ?side9 ?side10 ?side11 ?side12 ?side13 ?side14 ?side15 ?side16 A14.out).mono ?_
   (case side1 => exact CD ((Kd.Zav HR0_0.out HB.out)))
   (case side2 => exact HC0_0.out)
   (case side3 => exact CD ((Kd.Zav HR0_1.out HB.out)))
   (case side4 => exact HC0_1.out)
   (case side5 => exact CD ((Kd.Zav HR0_2.out HB.out)))
   (case side6 => exact HC0_2.out)
   (case side7 => exact CD ((Kd.Zav HR0_3.out HB.out)))
   (case side8 => exact HC0_3.out)
   (case side9 => exact CD ((Kd.Zav HR0_4.out HB.out)))
   (case side10 => exact HC0_4.out)
   (case side11 => exact CD ((Kd.Zav HR0_5.out HB.out)))
   (case side12 => exact HC0_5.out)
   (case side13 => exact CD ((Kd.Zav HR0_6.out HB.out)))
   (case side14 => exact HC0_6.out)
   (case side15 => exact CD ((Kd.Zav HR1.out HB.out)))
   (case side16 => exact HC1.out)
   rintro e w17 ⟨v284, rfl, ho0, hb⟩
   have HS7_ := (hb.cell (World.block_lt_of_cell? _ _ (hHeld.2.2.2.2.2.2.2.1))).trans (hHeld.2.2.2.2.2.2.2.1)
   have HS8_ := (hb.cell (World.block_lt_of_cell? _ _ (hHeld.2.2.2.2.2.2.2.2.1))).trans (hHeld.2.2.2.2.2.2.2.2.1)
   have HS9_ := (hb.cell (World.block_lt_of_cell? _ _ (hHeld.2.2.2.2.2.2.2.2.2))).trans (hHeld.2.2.2.2.2.2.2.2.2)
   refine ⟨_, rfl, ?_⟩
   have n0_ := RE HO_11 hb (Kd.Zbx ho0)
   have n1_ := Za.mk (Kd.Zdk (Kd.R_newB (Kd.Zec ho0 (Kd.R_lt (RD HO_11))) (g := gb278) (o := .cells #[.int .i64 a2_0, .int .u8 a2_1, .bool a2_2] 44 (0, 0)) (KB BK278)) (Zat t11_0))
   have n2_ := Za.mk (Zam (KB BK277) hb)
   have n3_ := Za.mk (Zam (KB BK278) hb)
   have n4_ := Za.mk (Zbb t11_0 hb)
   clear HO_11
   clear BK277
   clear BK278
   clear HB
   have HO_11 := n0_
   have HO285 := n1_
   have BK277 := n2_
   have BK278 := n3_
   have HB := n4_
   clear n0_ n1_ n2_ n3_ n4_
   (try clear hb)
   (try clear hb2)
   (try clear hk)
   (try clear hi)
   (try clear ho0)
   refine hK.out _ _ ⟨(Zah BK277.out 0).trans rfl, (Zah BK277.out 1).trans rfl, (Zah BK277.out 2).trans rfl, (Zah BK277.out 3).trans rfl, (Zah BK277.out 4).trans rfl, (Zah BK277.out 5).trans rfl, (Zah BK277.out 6).trans rfl, HS7_, HS8_, HS9_⟩ (fun hHeld => ?_)
   clear hK K
   refine Zem (a' := ?_) ?_ ?_
   rotate_left
   ·show Act.put _ (some 29) _ = _
    simp only [Act.put, s0_, s1_, s2_, Zax, Zay]
    rfl
   refine Zbc (i := 7) (N := some 13) (v := ?_) (a' := ?_) u11_8 rfl rfl (Zaw HT_.out Zdq) (fun _ _ _ h => h) (Or.inl ⟨by rfl, ?_⟩) ?_ ?_
   rotate_left
   ·intro w'
    go_simp
    with_reducible rfl
   rotate_left
   ·simp only [Act.put, s0_, s1_, s2_, Zax, Zay]
    rfl
   refine done_ (Zdj HT_.out Zdq) ?_
   try go_wp2
   go_loopg [11, 14] k1 (fun kq v11 v14 w' => ∃ (x11_2 : List (S44)) (x14_2 : Int), v14 = .int .i64 x14_2 ∧ Za (Zae.l1 kq l1 l3 a4 x11_2 x12_1 t283 x14_2 l0_0 l0_1 l0_2 l0_3 l0_4 l0_5 l0_6 = some r) ∧ Za (kq ≤ k1) ∧ Za (Kd.R k44 44 w' w.heap.size (fun k_ => some k_ ≠ (v284 : Value).ownBlock ∧ k_ ≠ gb278) v11 x11_2) ∧ Za (Kd.R k44 44 w' w.heap.size (fun k_ => some k_ ≠ (v11 : Value).ownBlock ∧ k_ ≠ gb278) v284 t283) ∧ Za (w'.heap[gb277]? = some (.cells #[(.slice A0_0 l0_0.length c0_0), (.slice A0_1 l0_1.length c0_1), (.slice A0_2 l0_2.length c0_2), (.slice A0_3 l0_3.length c0_3), (.slice A0_4 l0_4.length c0_4), (.slice A0_5 l0_5.length c0_5), (.slice A0_6 l0_6.length c0_6)] 38 (0, 0))) ∧ Za (w'.heap[gb278]? = some (.cells #[.int .i64 a2_0, .int .u8 a2_1, .bool a2_2] 44 (0, 0))) ∧ Za (Below w.heap.size w w'))
   case atStart => exact ⟨(x11_1), (0), t11_5, H', ⟨Nat.le_refl _⟩, ⟨by (with_reducible repeat (first | apply Kd.Zcm | apply Kd.Zcl | apply Kd.Zbw)); exact Kd.Zbv HO_11.out (fun _ hk => ⟨hk.2, hk.1⟩)⟩, ⟨by (with_reducible repeat (first | apply Kd.Zcm | apply Kd.Zcl | apply Kd.Zbw)); exact Kd.Zbv HO285.out (fun _ hk => ⟨hk.1.2, hk.2⟩)⟩, ⟨by (with_reducible repeat (first | refine Zan ?_ _ | refine Zap ?_ | refine Zao ?_ _)); exact BK277.out⟩, ⟨by (with_reducible repeat (first | refine Zan ?_ _ | refine Zap ?_ | refine Zao ?_ _)); exact BK278.out⟩, ⟨by repeat (first | (with_reducible first | exact HB.out | apply Zau | apply Zaj | apply Zal | refine Zai ?_ GE277.out | refine Zai ?_ GE278.out) | exact HB.out)⟩⟩
   case round =>
    clear H'
    try clear c1
    try clear c2
    try clear p2
    try clear q2
    try clear hx2
    try clear c3
    try clear c5
    try clear c8
    try clear c12
    try clear c12b0
    try clear c13
    try clear c13b0
    try clear hcz9_0
    try clear hcz9_1
    try clear hcz9_2
    try clear hfz9_0
    try clear hfz9_1
    try clear hfz9_2
    try clear hx282_0
    try clear hx282_1
    try clear hx282_2
    try clear p2
    try clear p282
    try clear q282
    obtain ⟨x11_2, x14_2, rfl, HA, HK2, HO_11, HO_13, BK277, BK278, HB⟩ := hrel
    cases gk with
    | zero => exact absurd HA.out (by simp [Zae.l1])
    | succ k2 =>
     have H := HA.out
     clear HA
     simp only [Zae.l1] at H
     by_cases c18 : x14_2 < (t283.length : Int)
     case neg =>
      rw [if_neg c18] at H
      have c18b0 : decide (x14_2 < (t283.length : Int)) = false := decide_eq_false c18
      clear c18
      have H' := Za.mk H
      clear H
      obtain ⟨Ao61, co61, eo61⟩ := Kd.Zbp HO_13.out
      subst eo61
      go_wp2
      go_roundg k2
      case measure => have := HK1.out; have := HK2.out; omega
      case rel => exact ⟨(x11_2), (wrap64 (x12_1 + 1)), t11_5, H', ⟨by have := HK1.out; have := HK2.out; omega⟩, ⟨by (with_reducible repeat (first | apply Kd.Zcm | apply Kd.Zcl | apply Kd.Zbw)); exact Kd.Zbv HO_11.out (fun _ hk => hk.2)⟩, ⟨by (with_reducible repeat (first | refine Zan ?_ _ | refine Zap ?_ | refine Zao ?_ _)); exact BK277.out⟩, ⟨by (with_reducible repeat (first | refine Zan ?_ _ | refine Zap ?_ | refine Zao ?_ _)); exact BK278.out⟩, ⟨by repeat (first | (with_reducible first | exact HB.out | apply Zau | apply Zaj | apply Zal | refine Zai ?_ GE277.out | refine Zai ?_ GE278.out) | exact HB.out)⟩⟩
     rw [if_pos c18] at H
     have c18b0 : decide (x14_2 < (t283.length : Int)) = true := decide_eq_true c18
     clear c18
     by_cases c19 : a4 = true
     case neg =>
      replace c19 := Bool.eq_false_iff.mpr c19
      subst c19
      have H1 : (if 0 ≤ x14_2 then ((Zak.f k2 x11_2 ((Zaf t283 x14_2).f0) ((Zaf t283 x14_2).f1) ((Zaf t283 x14_2).f2)).bind fun t297 => (if t297 < 0 then ((Zak.f k2 l3 ((Zaf t283 x14_2).f0) ((Zaf t283 x14_2).f1) ((Zaf t283 x14_2).f2)).bind fun t299 => (if t299 < 0 then (if x11_2.length < 8796093022208 then (Zae.l1 k2 l1 l3 false (x11_2 ++ [(⟨(Zaf t283 x14_2).f0, (Zaf t283 x14_2).f1, false⟩ : S44)]) x12_1 t283 (wrap64 (x14_2 + 1)) l0_0 l0_1 l0_2 l0_3 l0_4 l0_5 l0_6) else (none)) else (Zae.l1 k2 l1 l3 false x11_2 x12_1 t283 (wrap64 (x14_2 + 1)) l0_0 l0_1 l0_2 l0_3 l0_4 l0_5 l0_6))) else (Zae.l1 k2 l1 l3 false x11_2 x12_1 t283 (wrap64 (x14_2 + 1)) l0_0 l0_1 l0_2 l0_3 l0_4 l0_5 l0_6))) else (none)) = some r := by rw [if_neg (show ¬ (false = true) by decide)] at H; exact H
      clear H
      have H := H1
      clear H1
      by_cases c42 : 0 ≤ x14_2
      case neg =>
       rw [if_neg c42] at H
       exact absurd H (by simp)
      rw [if_pos c42] at H
      have c42b0 : decide (0 ≤ x14_2) = true := decide_eq_true c42
      clear c42
      replace H := Option.bind_eq_some_iff.mp H
      obtain ⟨t297, A430, H⟩ := H
      try dsimp only at H
      have A43 := Za.mk A430
      clear A430
      by_cases c44 : t297 < 0
      case neg =>
       rw [if_neg c44] at H
       have c44b0 : decide (t297 < 0) = false := decide_eq_false c44
       clear c44
       have H' := Za.mk H
       clear H
       obtain ⟨Ao58, co58, eo58⟩ := Kd.Zbp HO_13.out
       subst eo58
       have p296 : 0 ≤ (x14_2 : Int) := of_decide_eq_true Zej
       have q296 : x14_2 < (t283.length : Int) := of_decide_eq_true Zej
       obtain ⟨ad296, e296, hx296_0, hx296_1, hx296_2⟩ := Zc (Kd.Zb HO_13.out).2.2 x14_2 p296 q296
       cases e296
       replace p296 := eq_true p296
       replace q296 := eq_true q296
       obtain ⟨Ao59, co59, eo59⟩ := Kd.Zbp HO_11.out
       subst eo59
       go_wp2_with (first | (go_at_call 21; (with_reducible refine (Zak.calls k2 _ _ x11_2 ((Zaf t283 x14_2).f0) ((Zaf t283 x14_2).f1) ((Zaf t283 x14_2).f2) t297 _ ?side1 ?side2 A43.out).mono ?_); (case side1 => exact CD ((Kd.Zb HO_11.out).2.2)); (case side2 => exact (Kd.Zb HO_11.out).2.1); rintro e w60 ⟨rfl, hb⟩; have n0_ := RB HO_11 hb; have n1_ := RB HO_13 hb; have n2_ := Za.mk (Zam (KB BK277) hb); have n3_ := Za.mk (Zam (KB BK278) hb); have n4_ := Za.mk (Zbb t11_0 hb); clear HO_11; clear HO_13; clear BK277; clear BK278; clear HB; have HO_11 := n0_; have HO_13 := n1_; have BK277 := n2_; have BK278 := n3_; have HB := n4_; clear n0_ n1_ n2_ n3_ n4_; (try clear hb); (try clear hb2); (try clear hk); (try clear hi)))
       go_roundg k2
       case measure => have := HK1.out; have := HK2.out; omega
       case rel => exact ⟨(x11_2), (wrap64 (x14_2 + 1)), t11_5, H', ⟨by have := HK1.out; have := HK2.out; omega⟩, ⟨RD HO_11⟩, ⟨RD HO_13⟩, ⟨by (with_reducible repeat (first | refine Zan ?_ _ | refine Zap ?_ | refine Zao ?_ _)); exact BK277.out⟩, ⟨by (with_reducible repeat (first | refine Zan ?_ _ | refine Zap ?_ | refine Zao ?_ _)); exact BK278.out⟩, ⟨by repeat (first | (with_reducible first | exact HB.out | apply Zau | apply Zaj | apply Zal | refine Zai ?_ GE277.out | refine Zai ?_ GE278.out) | exact HB.out)⟩⟩
      rw [if_pos c44] at H
      have c44b0 : decide (t297 < 0) = true := decide_eq_true c44
      clear c44
      replace H := Option.bind_eq_some_iff.mp H
      obtain ⟨t299, A450, H⟩ := H
      try dsimp only at H
      have A45 := Za.mk A450
      clear A450
      by_cases c46 : t299 < 0
      case neg =>
       rw [if_neg c46] at H
       have c46b0 : decide (t299 < 0) = false := decide_eq_false c46
       clear c46
       have H' := Za.mk H
       clear H
       obtain ⟨Ao54, co54, eo54⟩ := Kd.Zbp HO_13.out
       subst eo54
       have p296 : 0 ≤ (x14_2 : Int) := of_decide_eq_true Zej
       have q296 : x14_2 < (t283.length : Int) := of_decide_eq_true Zej
       obtain ⟨ad296, e296, hx296_0, hx296_1, hx296_2⟩ := Zc (Kd.Zb HO_13.out).2.2 x14_2 p296 q296
       cases e296
       replace p296 := eq_true p296
       replace q296 := eq_true q296
       obtain ⟨Ao55, co55, eo55⟩ := Kd.Zbp HO_11.out
       subst eo55
       go_wp2_with (first | (go_at_call 21; (with_reducible refine (Zak.calls k2 _ _ x11_2 ((Zaf t283 x14_2).f0) ((Zaf t283 x14_2).f1) ((Zaf t283 x14_2).f2) t297 _ ?side1 ?side2 A43.out).mono ?_); (case side1 => exact CD ((Kd.Zb HO_11.out).2.2)); (case side2 => exact (Kd.Zb HO_11.out).2.1); rintro e w56 ⟨rfl, hb⟩; have n0_ := RB HO_11 hb; have n1_ := RB HO_13 hb; have n2_ := Za.mk (Zam (KB BK277) hb); have n3_ := Za.mk (Zam (KB BK278) hb); have n4_ := Za.mk (Zbb t11_0 hb); clear HO_11; clear HO_13; clear BK277; clear BK278; clear HB; have HO_11 := n0_; have HO_13 := n1_; have BK277 := n2_; have BK278 := n3_; have HB := n4_; clear n0_ n1_ n2_ n3_ n4_; (try clear hb); (try clear hb2); (try clear hk); (try clear hi); have p298 : 0 ≤ (x14_2 : Int) := of_decide_eq_true Zej; have q298 : x14_2 < (t283.length : Int) := of_decide_eq_true Zej; obtain ⟨ad298, e298, hx298_0, hx298_1, hx298_2⟩ := Zc (Kd.Zb HO_13.out).2.2 x14_2 p298 q298; obtain rfl : ad296 = ad298 := (by injection e298); replace p298 := eq_true p298; replace q298 := eq_true q298) | (go_at_call 21; (with_reducible refine (Zak.calls k2 _ _ l3 ((Zaf t283 x14_2).f0) ((Zaf t283 x14_2).f1) ((Zaf t283 x14_2).f2) t299 _ ?side1 ?side2 A45.out).mono ?_); (case side1 => exact CD ((Kd.Zav HR3.out HB.out))); (case side2 => exact HC3.out); rintro e w57 ⟨rfl, hb⟩; have n0_ := RB HO_11 hb; have n1_ := RB HO_13 hb; have n2_ := Za.mk (Zam (KB BK277) hb); have n3_ := Za.mk (Zam (KB BK278) hb); have n4_ := Za.mk (Zbb t11_0 hb); clear HO_11; clear HO_13; clear BK277; clear BK278; clear HB; have HO_11 := n0_; have HO_13 := n1_; have BK277 := n2_; have BK278 := n3_; have HB := n4_; clear n0_ n1_ n2_ n3_ n4_; (try clear hb); (try clear hb2); (try clear hk); (try clear hi)))
       go_roundg k2
       case measure => have := HK1.out; have := HK2.out; omega
       case rel => exact ⟨(x11_2), (wrap64 (x14_2 + 1)), t11_5, H', ⟨by have := HK1.out; have := HK2.out; omega⟩, ⟨RD HO_11⟩, ⟨RD HO_13⟩, ⟨by (with_reducible repeat (first | refine Zan ?_ _ | refine Zap ?_ | refine Zao ?_ _)); exact BK277.out⟩, ⟨by (with_reducible repeat (first | refine Zan ?_ _ | refine Zap ?_ | refine Zao ?_ _)); exact BK278.out⟩, ⟨by repeat (first | (with_reducible first | exact HB.out | apply Zau | apply Zaj | apply Zal | refine Zai ?_ GE277.out | refine Zai ?_ GE278.out) | exact HB.out)⟩⟩
      rw [if_pos c46] at H
      have c46b0 : decide (t299 < 0) = true := decide_eq_true c46
      clear c46
      by_cases c47 : x11_2.length < 8796093022208
      case neg =>
       rw [if_neg c47] at H
       exact absurd H (by simp)
      rw [if_pos c47] at H
      have LMc47 := Za.mk c47
      clear c47
      obtain ⟨y302, hy302⟩ : ∃ y_ : List (S44), y_ = (x11_2 ++ [(⟨(Zaf t283 x14_2).f0, (Zaf t283 x14_2).f1, false⟩ : S44)]) := ⟨_, rfl⟩
      replace H : (Zae.l1 k2 l1 l3 false y302 x12_1 t283 (wrap64 (x14_2 + 1)) l0_0 l0_1 l0_2 l0_3 l0_4 l0_5 l0_6) = some r := by first | (rw [hy302]; with_reducible exact H) | (have H2_ := (Option.bind_some _ _).symm.trans H; rw [hy302]; with_reducible exact H2_) | (have H2_ := (Option.bind_some _ _).symm.trans H; with_reducible exact H2_) | with_reducible exact H | (rw [hy302]; exact H) | exact H
      have Ny302 := Za.mk hy302
      clear hy302
      have H' := Za.mk H
      clear H
      obtain ⟨Ao48, co48, eo48⟩ := Kd.Zbp HO_13.out
      subst eo48
      have p296 : 0 ≤ (x14_2 : Int) := of_decide_eq_true Zej
      have q296 : x14_2 < (t283.length : Int) := of_decide_eq_true Zej
      obtain ⟨ad296, e296, hx296_0, hx296_1, hx296_2⟩ := Zc (Kd.Zb HO_13.out).2.2 x14_2 p296 q296
      cases e296
      replace p296 := eq_true p296
      replace q296 := eq_true q296
      obtain ⟨Ao49, co49, eo49⟩ := Kd.Zbp HO_11.out
      subst eo49
      try go_wp2_with (first | (go_at_call 21; (with_reducible refine (Zak.calls k2 _ _ x11_2 ((Zaf t283 x14_2).f0) ((Zaf t283 x14_2).f1) ((Zaf t283 x14_2).f2) t297 _ ?side1 ?side2 A43.out).mono ?_); (case side1 => exact CD ((Kd.Zb HO_11.out).2.2)); (case side2 => exact (Kd.Zb HO_11.out).2.1); rintro e w50 ⟨rfl, hb⟩; have n0_ := RB HO_11 hb; have n1_ := RB HO_13 hb; have n2_ := Za.mk (Zam (KB BK277) hb); have n3_ := Za.mk (Zam (KB BK278) hb); have n4_ := Za.mk (Zbb t11_0 hb); clear HO_11; clear HO_13; clear BK277; clear BK278; clear HB; have HO_11 := n0_; have HO_13 := n1_; have BK277 := n2_; have BK278 := n3_; have HB := n4_; clear n0_ n1_ n2_ n3_ n4_; (try clear hb); (try clear hb2); (try clear hk); (try clear hi); have p298 : 0 ≤ (x14_2 : Int) := of_decide_eq_true Zej; have q298 : x14_2 < (t283.length : Int) := of_decide_eq_true Zej; obtain ⟨ad298, e298, hx298_0, hx298_1, hx298_2⟩ := Zc (Kd.Zb HO_13.out).2.2 x14_2 p298 q298; obtain rfl : ad296 = ad298 := (by injection e298); replace p298 := eq_true p298; replace q298 := eq_true q298) | (go_at_call 21; (with_reducible refine (Zak.calls k2 _ _ l3 ((Zaf t283 x14_2).f0) ((Zaf t283 x14_2).f1) ((Zaf t283 x14_2).f2) t299 _ ?side1 ?side2 A45.out).mono ?_); (case side1 => exact CD ((Kd.Zav HR3.out HB.out))); (case side2 => exact HC3.out); rintro e w51 ⟨rfl, hb⟩; have n0_ := RB HO_11 hb; have n1_ := RB HO_13 hb; have n2_ := Za.mk (Zam (KB BK277) hb); have n3_ := Za.mk (Zam (KB BK278) hb); have n4_ := Za.mk (Zbb t11_0 hb); clear HO_11; clear HO_13; clear BK277; clear BK278; clear HB; have HO_11 := n0_; have HO_13 := n1_; have BK277 := n2_; have BK278 := n3_; have HB := n4_; clear n0_ n1_ n2_ n3_ n4_; (try clear hb); (try clear hb2); (try clear hk); (try clear hi)))
      have n0_ := Za.mk (Kd.Zbw HO_11.out)
      have n1_ := Za.mk (Kd.Zbw HO_13.out)
      have n2_ := Za.mk (Zap BK277.out)
      have n3_ := Za.mk (Zap BK278.out)
      have n4_ := Za.mk (Zal HB.out)
      clear HO_11
      clear HO_13
      clear BK277
      clear BK278
      clear HB
      have HO_11 := n0_
      have HO_13 := n1_
      have BK277 := n2_
      have BK278 := n3_
      have HB := n4_
      clear n0_ n1_ n2_ n3_ n4_
      have p300 : 0 ≤ (x14_2 : Int) := of_decide_eq_true Zej
      have q300 : x14_2 < (t283.length : Int) := of_decide_eq_true Zej
      obtain ⟨ad300, e300, hx300_0, hx300_1, hx300_2⟩ := Zc (Kd.Zb HO_13.out).2.2 x14_2 p300 q300
      obtain rfl : ad296 = ad300 := (by injection e300)
      replace p300 := eq_true p300
      replace q300 := eq_true q300
      have p301 : 0 ≤ (x14_2 : Int) := of_decide_eq_true Zej
      have q301 : x14_2 < (t283.length : Int) := of_decide_eq_true Zej
      obtain ⟨ad301, e301, hx301_0, hx301_1, hx301_2⟩ := Zc (Kd.Zb HO_13.out).2.2 x14_2 p301 q301
      obtain rfl : ad296 = ad301 := (by injection e301)
      replace p301 := eq_true p301
      replace q301 := eq_true q301
      refine Zek (n := 15) (S := fun w' => w'.cell? (ad296.add ((x14_2).toNat * 3)) = some (.int .i64 ((Zaf t283 x14_2).f0)) ∧ w'.cell? ⟨(ad296.add ((x14_2).toNat * 3)).block, (ad296.add ((x14_2).toNat * 3)).off + 1, none⟩ = some (.int .u8 ((Zaf t283 x14_2).f1)) ∧ w'.cell? ⟨(ad296.add ((x14_2).toNat * 3)).block, (ad296.add ((x14_2).toNat * 3)).off + 2, none⟩ = some (.bool ((Zaf t283 x14_2).f2)) ∧ w'.cell? (ad296.add ((x14_2).toNat * 3)) = some (.int .i64 ((Zaf t283 x14_2).f0)) ∧ w'.cell? ⟨(ad296.add ((x14_2).toNat * 3)).block, (ad296.add ((x14_2).toNat * 3)).off + 1, none⟩ = some (.int .u8 ((Zaf t283 x14_2).f1)) ∧ w'.cell? ⟨(ad296.add ((x14_2).toNat * 3)).block, (ad296.add ((x14_2).toNat * 3)).off + 2, none⟩ = some (.bool ((Zaf t283 x14_2).f2))) (ds := [12, 13]) u11_9 Zdq rfl rfl ⟨hx300_0, hx300_1, hx300_2, hx301_0, hx301_1, hx301_2⟩ (fun hHeld => ?_); refine Zcp Zae.tab10 Zae.bits10 (fun HT_ HW_ => ?_)
      generalize w51.drew = w52 at HO_11 HO_13 BK277 BK278 HB hx300_0 hx300_1 hx300_2 hx301_0 hx301_1 hx301_2 hHeld ⊢
      refine Zbc (i := 0) (N := some 63) (v := ?_) (a' := ?_) u11_10 rfl rfl (Zaw HT_.out Zdq) (fun _ _ _ h => h) (Or.inl ⟨by rfl, ?_⟩) ?_ ?_
      rotate_left
      ·intro w'
       go_simp
       with_reducible rfl
      rotate_left
      ·simp only [Act.put, s0_, s1_, s2_, Zax, Zay]
       rfl
      refine Zbc (i := 1) (N := some 64) (v := ?_) (a' := ?_) u11_11 rfl rfl (Zaw HT_.out Zdq) (fun _ _ _ h => h) (Or.inl ⟨by rfl, ?_⟩) ?_ ?_
      rotate_left
      ·intro w'
       go_simp
       with_reducible rfl
      rotate_left
      ·simp only [Act.put, s0_, s1_, s2_, Zax, Zay]
       rfl
      refine Zbc (i := 2) (N := some 65) (v := ?_) (a' := ?_) u11_12 rfl rfl (Zaw HT_.out Zdq) (fun _ _ _ h => h) (Or.inl ⟨by rfl, ?_⟩) ?_ ?_
      rotate_left
      ·intro w'
       go_simp
       with_reducible rfl
      rotate_left
      ·simp only [Act.put, s0_, s1_, s2_, Zax, Zay]
       rfl
      refine Zbc (i := 3) (N := some 66) (v := ?_) (a' := ?_) u11_13 rfl rfl (Zaw HT_.out Zdq) (fun _ _ _ h => h) (Or.inl ⟨by rfl, ?_⟩) ?_ ?_
      rotate_left
      ·intro w'
       go_simp
       with_reducible rfl
      rotate_left
      ·simp only [Act.put, s0_, s1_, s2_, Zax, Zay]
       rfl
      refine Zbc (i := 4) (N := some 67) (v := ?_) (a' := ?_) u11_14 rfl rfl (Zaw HT_.out Zdq) (fun _ _ _ h => h) (Or.inl ⟨by rfl, ?_⟩) ?_ ?_
      rotate_left
      ·intro w'
       go_simp
       with_reducible rfl
      rotate_left
      ·simp only [Act.put, s0_, s1_, s2_, Zax, Zay]
       rfl
      refine Zbc (i := 6) (N := some 69) (v := ?_) (a' := ?_) u11_15 rfl rfl (Zaw HT_.out Zdq) (fun _ _ _ h => h) (Or.inl ⟨by rfl, ?_⟩) ?_ ?_
      rotate_left
      ·intro w'
       go_simp
       with_reducible rfl
      rotate_left
      ·simp only [Act.put, s0_, s1_, s2_, Zax, Zay]
       rfl
      refine Zbc (i := 7) (N := some 70) (v := ?_) (a' := ?_) u11_16 rfl rfl (Zaw HT_.out Zdq) (fun _ _ _ h => h) (Or.inl ⟨by rfl, ?_⟩) ?_ ?_
      rotate_left
      ·intro w'
       go_simp
       with_reducible rfl
      rotate_left
      ·simp only [Act.put, s0_, s1_, s2_, Zax, Zay]
       rfl
      refine Zbc (i := 8) (N := some 71) (v := ?_) (a' := ?_) u11_17 rfl rfl (Zaw HT_.out Zdq) (fun _ _ _ h => h) (Or.inl ⟨by rfl, ?_⟩) ?_ ?_
      rotate_left
      ·intro w'
       go_simp
       with_reducible rfl
      rotate_left
      ·simp only [Act.put, s0_, s1_, s2_, Zax, Zay]
       rfl
      refine Zbc (i := 9) (N := some 72) (v := ?_) (a' := ?_) u11_18 rfl rfl (Zaw HT_.out Zdq) (fun _ _ _ h => h) (Or.inl ⟨by rfl, ?_⟩) ?_ ?_
      rotate_left
      ·intro w'
       go_simp
       with_reducible rfl
      rotate_left
      ·simp only [Act.put, s0_, s1_, s2_, Zax, Zay]
       rfl
      refine Zdh (i := 5) (N := some 68) (v := ?_) (a' := ?_) u11_19 rfl rfl (Zbt HT_.out HW_.out Zdq) (fun _ _ _ h => h) (Or.inl ⟨by rfl, ?_⟩) hHeld ?_ ?_
      rotate_left
      ·rintro w' ⟨s0, s1, s2, s3, s4, s5⟩
       go_simp
       with_reducible rfl
      rotate_left
      ·simp only [Act.put, s0_, s1_, s2_, Zax, Zay]
       rfl
      refine Zdh (i := 10) (N := some 73) (v := ?_) (a' := ?_) u11_20 rfl rfl (Zbt HT_.out HW_.out Zdq) (fun _ _ _ h => h) (Or.inl ⟨by rfl, ?_⟩) hHeld ?_ ?_
      rotate_left
      ·rintro w' ⟨s0, s1, s2, s3, s4, s5⟩
       go_simp
       with_reducible rfl
      rotate_left
      ·simp only [Act.put, s0_, s1_, s2_, Zax, Zay]
       rfl
      refine Zbc (i := 11) (N := some 74) (v := ?_) (a' := ?_) u11_21 rfl rfl (Zaw HT_.out Zdq) (fun _ _ _ h => h) (Or.inl ⟨by rfl, ?_⟩) ?_ ?_
      rotate_left
      ·intro w'
       go_simp
       with_reducible rfl
      rotate_left
      ·simp only [Act.put, s0_, s1_, s2_, Zax, Zay]
       rfl
      refine last_ (i := 12) (N := some 75) u11_22 rfl rfl (Zda HT_.out Zdq) (by decide) (fun K hK => ?_)
      refine value_ (w1 := ?_) (v := ?_) (by rfl) rfl ?_ ?_
      rotate_left 2
      ·go_simp
       constructor
       ·rfl
       ·rfl
      refine hK.out _ _ ?_
      clear hK K
      refine Zem (a' := ?_) ?_ ?_
      rotate_left
      ·show Act.put _ (some 75) _ = _
       simp only [Act.put, s0_, s1_, s2_, Zax, Zay]
       rfl
      refine last_ (i := 13) (N := some 76) u11_23 rfl rfl (Zda HT_.out Zdq) (by decide) (fun K hK => ?_)
      refine Kd.Zey k44 (w0 := w) w.heap.size (by rfl) (.tmp 63) (.tmp 75) 40 44 (.agg #[(.int .i64 0), (.int .u8 0), (.bool false)]) 16 rfl Try.underlying40 info44 rfl (by decide) (by omega) (.slice Ao49 x11_2.length co49) x11_2 (⟨(Zaf t283 x14_2).f0, (Zaf t283 x14_2).f1, false⟩ : S44) [.int .i64 ((Zaf t283 x14_2).f0), .int .u8 ((Zaf t283 x14_2).f1), .bool false] (fun k_ => some k_ ≠ (.slice (some ad296) t283.length co48 : Value).ownBlock ∧ k_ ≠ gb278) (fun _ => False) rfl rfl ?aP (fun _ hk => hk.elim) ?aF ?aO ?aB ?aS ?aL ?_
      (case aP => exact k44_mkM _ _ _ (⟨(Zaf t283 x14_2).f0, (Zaf t283 x14_2).f1, false⟩ : S44))
      (case aB => exact t11_0)
      (case aF => exact (fun k_ hk => ⟨Kd.fresh' (Kd.R_lt (RD HO_13)) k_ hk, Kd.freshB (g := gb278) (o := .cells #[.int .i64 a2_0, .int .u8 a2_1, .bool a2_2] 44 (0, 0)) (KB BK278) k_ hk⟩))
      (case aO => exact (RD HO_11))
      (case aS => exact (Zat t11_0))
      (case aL => have := LMc47.out; omega)
      intro v303 w53 ho hb hg hat
      rw [← Ny302.out] at ho
      have n0_ := Za.mk (Kd.Zfi (ok := (fun k_ => k_ ≠ gb278)) t11_2 hg hat)
      have n1_ := Za.mk (Zde (g := gb277) (o := .cells #[.slice A0_0 l0_0.length c0_0, .slice A0_1 l0_1.length c0_1, .slice A0_2 l0_2.length c0_2, .slice A0_3 l0_3.length c0_3, .slice A0_4 l0_4.length c0_4, .slice A0_5 l0_5.length c0_5, .slice A0_6 l0_6.length c0_6] 38 (0, 0)) (KB BK277) hg (t11_3))
      have n2_ := Za.mk (Zde (g := gb278) (o := .cells #[.int .i64 a2_0, .int .u8 a2_1, .bool a2_2] 44 (0, 0)) (KB BK278) hg (Kd.R_away HO_11.out (fun _ hk => hk.2)))
      have n3_ := Za.mk (hb)
      have n4_ := Za.mk (ho)
      clear HO_13
      clear BK277
      clear BK278
      clear HB
      clear HO_11
      have HO_13 := n0_
      have BK277 := n1_
      have BK278 := n2_
      have HB := n3_
      have HO304 := n4_
      clear n0_ n1_ n2_ n3_ n4_
      clear ho hb hg hat
      refine hK.out _ _ ?_
      clear hK K
      refine Zem (a' := ?_) ?_ ?_
      rotate_left
      ·show Act.put _ (some 76) _ = _
       simp only [Act.put, s0_, s1_, s2_, Zax, Zay]
       rfl
      refine Zbc (i := 14) (N := some 11) (v := ?_) (a' := ?_) u11_24 rfl rfl (Zaw HT_.out Zdq) (fun _ _ _ h => h) (Or.inl ⟨by rfl, ?_⟩) ?_ ?_
      rotate_left
      ·intro w'
       go_simp
       with_reducible rfl
      rotate_left
      ·simp only [Act.put, s0_, s1_, s2_, Zax, Zay]
       rfl
      refine done_ (Zdj HT_.out Zdq) ?_
      try go_wp2
      go_roundg k2
      case measure => have := HK1.out; have := HK2.out; omega
      case rel => exact ⟨(y302), (wrap64 (x14_2 + 1)), t11_5, H', ⟨by have := HK1.out; have := HK2.out; omega⟩, ⟨RD HO304⟩, ⟨by (with_reducible repeat (first | apply Kd.Zcm | apply Kd.Zcl | apply Kd.Zbw)); exact Kd.Zbv HO_13.out (fun _ hk => ⟨hk.2, hk.1⟩)⟩, ⟨by (with_reducible repeat (first | refine Zan ?_ _ | refine Zap ?_ | refine Zao ?_ _)); exact BK277.out⟩, ⟨by (with_reducible repeat (first | refine Zan ?_ _ | refine Zap ?_ | refine Zao ?_ _)); exact BK278.out⟩, ⟨by repeat (first | (with_reducible first | exact HB.out | apply Zau | apply Zaj | apply Zal | refine Zai ?_ GE277.out | refine Zai ?_ GE278.out) | exact HB.out)⟩⟩
     subst c19
     have H1 : (if 0 ≤ x14_2 then (if (Zaf t283 x14_2).f2 = true then ((Zak.f k2 x11_2 ((Zaf t283 x14_2).f0) ((Zaf t283 x14_2).f1) ((Zaf t283 x14_2).f2)).bind fun t288 => (if t288 < 0 then ((Zak.f k2 l3 ((Zaf t283 x14_2).f0) ((Zaf t283 x14_2).f1) ((Zaf t283 x14_2).f2)).bind fun t290 => (if t290 < 0 then (if x11_2.length < 8796093022208 then (Zae.l1 k2 l1 l3 true (x11_2 ++ [(⟨(Zaf t283 x14_2).f0, (Zaf t283 x14_2).f1, false⟩ : S44)]) x12_1 t283 (wrap64 (x14_2 + 1)) l0_0 l0_1 l0_2 l0_3 l0_4 l0_5 l0_6) else (none)) else (Zae.l1 k2 l1 l3 true x11_2 x12_1 t283 (wrap64 (x14_2 + 1)) l0_0 l0_1 l0_2 l0_3 l0_4 l0_5 l0_6))) else (Zae.l1 k2 l1 l3 true x11_2 x12_1 t283 (wrap64 (x14_2 + 1)) l0_0 l0_1 l0_2 l0_3 l0_4 l0_5 l0_6))) else (Zae.l1 k2 l1 l3 true x11_2 x12_1 t283 (wrap64 (x14_2 + 1)) l0_0 l0_1 l0_2 l0_3 l0_4 l0_5 l0_6)) else (none)) = some r := by rw [if_pos rfl] at H; exact H
     clear H
     have H := H1
     clear H1
     by_cases c20 : 0 ≤ x14_2
     case neg =>
      rw [if_neg c20] at H
      exact absurd H (by simp)
     rw [if_pos c20] at H
     have c20b0 : decide (0 ≤ x14_2) = true := decide_eq_true c20
     clear c20
     obtain ⟨bq21, hbq21⟩ : ∃ b_ : Bool, b_ = ((Zaf t283 x14_2).f2) := ⟨_, rfl⟩
     replace H : (if bq21 = true then ((Zak.f k2 x11_2 ((Zaf t283 x14_2).f0) ((Zaf t283 x14_2).f1) (bq21)).bind fun t288 => (if t288 < 0 then ((Zak.f k2 l3 ((Zaf t283 x14_2).f0) ((Zaf t283 x14_2).f1) (bq21)).bind fun t290 => (if t290 < 0 then (if x11_2.length < 8796093022208 then (Zae.l1 k2 l1 l3 true (x11_2 ++ [(⟨(Zaf t283 x14_2).f0, (Zaf t283 x14_2).f1, false⟩ : S44)]) x12_1 t283 (wrap64 (x14_2 + 1)) l0_0 l0_1 l0_2 l0_3 l0_4 l0_5 l0_6) else (none)) else (Zae.l1 k2 l1 l3 true x11_2 x12_1 t283 (wrap64 (x14_2 + 1)) l0_0 l0_1 l0_2 l0_3 l0_4 l0_5 l0_6))) else (Zae.l1 k2 l1 l3 true x11_2 x12_1 t283 (wrap64 (x14_2 + 1)) l0_0 l0_1 l0_2 l0_3 l0_4 l0_5 l0_6))) else (Zae.l1 k2 l1 l3 true x11_2 x12_1 t283 (wrap64 (x14_2 + 1)) l0_0 l0_1 l0_2 l0_3 l0_4 l0_5 l0_6)) = some r := by rw [← hbq21] at H; exact H
     have Nbq21 := Za.mk hbq21
     clear hbq21
     by_cases c22 : bq21 = true
     case neg =>
      replace c22 := Bool.eq_false_iff.mpr c22
      subst c22
      have H1 : (Zae.l1 k2 l1 l3 true x11_2 x12_1 t283 (wrap64 (x14_2 + 1)) l0_0 l0_1 l0_2 l0_3 l0_4 l0_5 l0_6) = some r := by rw [if_neg (show ¬ (false = true) by decide)] at H; exact H
      clear H
      have H := H1
      clear H1
      have H' := Za.mk H
      clear H
      obtain ⟨Ao41, co41, eo41⟩ := Kd.Zbp HO_13.out
      subst eo41
      have p286 : 0 ≤ (x14_2 : Int) := of_decide_eq_true Zej
      have q286 : x14_2 < (t283.length : Int) := of_decide_eq_true Zej
      obtain ⟨ad286, e286, hx286_0, hx286_1, hx286_2⟩ := Zc (Kd.Zb HO_13.out).2.2 x14_2 p286 q286
      (try rw [← Nbq21.out] at hx286_2)
      cases e286
      replace p286 := eq_true p286
      replace q286 := eq_true q286
      go_wp2
      go_roundg k2
      case measure => have := HK1.out; have := HK2.out; omega
      case rel => exact ⟨(x11_2), (wrap64 (x14_2 + 1)), t11_5, H', ⟨by have := HK1.out; have := HK2.out; omega⟩, ⟨RD HO_11⟩, ⟨RD HO_13⟩, ⟨by (with_reducible repeat (first | refine Zan ?_ _ | refine Zap ?_ | refine Zao ?_ _)); exact BK277.out⟩, ⟨by (with_reducible repeat (first | refine Zan ?_ _ | refine Zap ?_ | refine Zao ?_ _)); exact BK278.out⟩, ⟨by repeat (first | (with_reducible first | exact HB.out | apply Zau | apply Zaj | apply Zal | refine Zai ?_ GE277.out | refine Zai ?_ GE278.out) | exact HB.out)⟩⟩
     subst c22
     have H1 : ((Zak.f k2 x11_2 ((Zaf t283 x14_2).f0) ((Zaf t283 x14_2).f1) (true)).bind fun t288 => (if t288 < 0 then ((Zak.f k2 l3 ((Zaf t283 x14_2).f0) ((Zaf t283 x14_2).f1) (true)).bind fun t290 => (if t290 < 0 then (if x11_2.length < 8796093022208 then (Zae.l1 k2 l1 l3 true (x11_2 ++ [(⟨(Zaf t283 x14_2).f0, (Zaf t283 x14_2).f1, false⟩ : S44)]) x12_1 t283 (wrap64 (x14_2 + 1)) l0_0 l0_1 l0_2 l0_3 l0_4 l0_5 l0_6) else (none)) else (Zae.l1 k2 l1 l3 true x11_2 x12_1 t283 (wrap64 (x14_2 + 1)) l0_0 l0_1 l0_2 l0_3 l0_4 l0_5 l0_6))) else (Zae.l1 k2 l1 l3 true x11_2 x12_1 t283 (wrap64 (x14_2 + 1)) l0_0 l0_1 l0_2 l0_3 l0_4 l0_5 l0_6))) = some r := by rw [if_pos rfl] at H; exact H
     clear H
     have H := H1
     clear H1
     replace H := Option.bind_eq_some_iff.mp H
     obtain ⟨t288, A230, H⟩ := H
     try dsimp only at H
     have A23 := Za.mk A230
     clear A230
     by_cases c24 : t288 < 0
     case neg =>
      rw [if_neg c24] at H
      have c24b0 : decide (t288 < 0) = false := decide_eq_false c24
      clear c24
      have H' := Za.mk H
      clear H
      obtain ⟨Ao38, co38, eo38⟩ := Kd.Zbp HO_13.out
      subst eo38
      have p286 : 0 ≤ (x14_2 : Int) := of_decide_eq_true Zej
      have q286 : x14_2 < (t283.length : Int) := of_decide_eq_true Zej
      obtain ⟨ad286, e286, hx286_0, hx286_1, hx286_2⟩ := Zc (Kd.Zb HO_13.out).2.2 x14_2 p286 q286
      (try rw [← Nbq21.out] at hx286_2)
      cases e286
      replace p286 := eq_true p286
      replace q286 := eq_true q286
      have p287 : 0 ≤ (x14_2 : Int) := of_decide_eq_true Zej
      have q287 : x14_2 < (t283.length : Int) := of_decide_eq_true Zej
      obtain ⟨ad287, e287, hx287_0, hx287_1, hx287_2⟩ := Zc (Kd.Zb HO_13.out).2.2 x14_2 p287 q287
      (try rw [← Nbq21.out] at hx287_2)
      obtain rfl : ad286 = ad287 := (by injection e287)
      replace p287 := eq_true p287
      replace q287 := eq_true q287
      obtain ⟨Ao39, co39, eo39⟩ := Kd.Zbp HO_11.out
      subst eo39
      go_wp2_with (first | (go_at_call 21; (with_reducible refine (Zak.calls k2 _ _ x11_2 ((Zaf t283 x14_2).f0) ((Zaf t283 x14_2).f1) true t288 _ ?side1 ?side2 A23.out).mono ?_); (case side1 => exact CD ((Kd.Zb HO_11.out).2.2)); (case side2 => exact (Kd.Zb HO_11.out).2.1); rintro e w40 ⟨rfl, hb⟩; have n0_ := RB HO_11 hb; have n1_ := RB HO_13 hb; have n2_ := Za.mk (Zam (KB BK277) hb); have n3_ := Za.mk (Zam (KB BK278) hb); have n4_ := Za.mk (Zbb t11_0 hb); clear HO_11; clear HO_13; clear BK277; clear BK278; clear HB; have HO_11 := n0_; have HO_13 := n1_; have BK277 := n2_; have BK278 := n3_; have HB := n4_; clear n0_ n1_ n2_ n3_ n4_; (try clear hb); (try clear hb2); (try clear hk); (try clear hi)))
      go_roundg k2
      case measure => have := HK1.out; have := HK2.out; omega
      case rel => exact ⟨(x11_2), (wrap64 (x14_2 + 1)), t11_5, H', ⟨by have := HK1.out; have := HK2.out; omega⟩, ⟨RD HO_11⟩, ⟨RD HO_13⟩, ⟨by (with_reducible repeat (first | refine Zan ?_ _ | refine Zap ?_ | refine Zao ?_ _)); exact BK277.out⟩, ⟨by (with_reducible repeat (first | refine Zan ?_ _ | refine Zap ?_ | refine Zao ?_ _)); exact BK278.out⟩, ⟨by repeat (first | (with_reducible first | exact HB.out | apply Zau | apply Zaj | apply Zal | refine Zai ?_ GE277.out | refine Zai ?_ GE278.out) | exact HB.out)⟩⟩
     rw [if_pos c24] at H
     have c24b0 : decide (t288 < 0) = true := decide_eq_true c24
     clear c24
     replace H := Option.bind_eq_some_iff.mp H
     obtain ⟨t290, A250, H⟩ := H
     try dsimp only at H
     have A25 := Za.mk A250
     clear A250
     by_cases c26 : t290 < 0
     case neg =>
      rw [if_neg c26] at H
      have c26b0 : decide (t290 < 0) = false := decide_eq_false c26
      clear c26
      have H' := Za.mk H
      clear H
      obtain ⟨Ao34, co34, eo34⟩ := Kd.Zbp HO_13.out
      subst eo34
      have p286 : 0 ≤ (x14_2 : Int) := of_decide_eq_true Zej
      have q286 : x14_2 < (t283.length : Int) := of_decide_eq_true Zej
      obtain ⟨ad286, e286, hx286_0, hx286_1, hx286_2⟩ := Zc (Kd.Zb HO_13.out).2.2 x14_2 p286 q286
      (try rw [← Nbq21.out] at hx286_2)
      cases e286
      replace p286 := eq_true p286
      replace q286 := eq_true q286
      have p287 : 0 ≤ (x14_2 : Int) := of_decide_eq_true Zej
      have q287 : x14_2 < (t283.length : Int) := of_decide_eq_true Zej
      obtain ⟨ad287, e287, hx287_0, hx287_1, hx287_2⟩ := Zc (Kd.Zb HO_13.out).2.2 x14_2 p287 q287
      (try rw [← Nbq21.out] at hx287_2)
      obtain rfl : ad286 = ad287 := (by injection e287)
      replace p287 := eq_true p287
      replace q287 := eq_true q287
      obtain ⟨Ao35, co35, eo35⟩ := Kd.Zbp HO_11.out
      subst eo35
      go_wp2_with (first | (go_at_call 21; (with_reducible refine (Zak.calls k2 _ _ x11_2 ((Zaf t283 x14_2).f0) ((Zaf t283 x14_2).f1) true t288 _ ?side1 ?side2 A23.out).mono ?_); (case side1 => exact CD ((Kd.Zb HO_11.out).2.2)); (case side2 => exact (Kd.Zb HO_11.out).2.1); rintro e w36 ⟨rfl, hb⟩; have n0_ := RB HO_11 hb; have n1_ := RB HO_13 hb; have n2_ := Za.mk (Zam (KB BK277) hb); have n3_ := Za.mk (Zam (KB BK278) hb); have n4_ := Za.mk (Zbb t11_0 hb); clear HO_11; clear HO_13; clear BK277; clear BK278; clear HB; have HO_11 := n0_; have HO_13 := n1_; have BK277 := n2_; have BK278 := n3_; have HB := n4_; clear n0_ n1_ n2_ n3_ n4_; (try clear hb); (try clear hb2); (try clear hk); (try clear hi); have p289 : 0 ≤ (x14_2 : Int) := of_decide_eq_true Zej; have q289 : x14_2 < (t283.length : Int) := of_decide_eq_true Zej; obtain ⟨ad289, e289, hx289_0, hx289_1, hx289_2⟩ := Zc (Kd.Zb HO_13.out).2.2 x14_2 p289 q289; (try rw [← Nbq21.out] at hx289_2); obtain rfl : ad286 = ad289 := (by injection e289); replace p289 := eq_true p289; replace q289 := eq_true q289) | (go_at_call 21; (with_reducible refine (Zak.calls k2 _ _ l3 ((Zaf t283 x14_2).f0) ((Zaf t283 x14_2).f1) true t290 _ ?side1 ?side2 A25.out).mono ?_); (case side1 => exact CD ((Kd.Zav HR3.out HB.out))); (case side2 => exact HC3.out); rintro e w37 ⟨rfl, hb⟩; have n0_ := RB HO_11 hb; have n1_ := RB HO_13 hb; have n2_ := Za.mk (Zam (KB BK277) hb); have n3_ := Za.mk (Zam (KB BK278) hb); have n4_ := Za.mk (Zbb t11_0 hb); clear HO_11; clear HO_13; clear BK277; clear BK278; clear HB; have HO_11 := n0_; have HO_13 := n1_; have BK277 := n2_; have BK278 := n3_; have HB := n4_; clear n0_ n1_ n2_ n3_ n4_; (try clear hb); (try clear hb2); (try clear hk); (try clear hi)))
      go_roundg k2
      case measure => have := HK1.out; have := HK2.out; omega
      case rel => exact ⟨(x11_2), (wrap64 (x14_2 + 1)), t11_5, H', ⟨by have := HK1.out; have := HK2.out; omega⟩, ⟨RD HO_11⟩, ⟨RD HO_13⟩, ⟨by (with_reducible repeat (first | refine Zan ?_ _ | refine Zap ?_ | refine Zao ?_ _)); exact BK277.out⟩, ⟨by (with_reducible repeat (first | refine Zan ?_ _ | refine Zap ?_ | refine Zao ?_ _)); exact BK278.out⟩, ⟨by repeat (first | (with_reducible first | exact HB.out | apply Zau | apply Zaj | apply Zal | refine Zai ?_ GE277.out | refine Zai ?_ GE278.out) | exact HB.out)⟩⟩
     rw [if_pos c26] at H
     have c26b0 : decide (t290 < 0) = true := decide_eq_true c26
     clear c26
     by_cases c27 : x11_2.length < 8796093022208
     case neg =>
      rw [if_neg c27] at H
      exact absurd H (by simp)
     rw [if_pos c27] at H
     have LMc27 := Za.mk c27
     clear c27
     obtain ⟨y293, hy293⟩ : ∃ y_ : List (S44), y_ = (x11_2 ++ [(⟨(Zaf t283 x14_2).f0, (Zaf t283 x14_2).f1, false⟩ : S44)]) := ⟨_, rfl⟩
     replace H : (Zae.l1 k2 l1 l3 true y293 x12_1 t283 (wrap64 (x14_2 + 1)) l0_0 l0_1 l0_2 l0_3 l0_4 l0_5 l0_6) = some r := by first | (rw [hy293]; with_reducible exact H) | (have H2_ := (Option.bind_some _ _).symm.trans H; rw [hy293]; with_reducible exact H2_) | (have H2_ := (Option.bind_some _ _).symm.trans H; with_reducible exact H2_) | with_reducible exact H | (rw [hy293]; exact H) | exact H
     have Ny293 := Za.mk hy293
     clear hy293
     have H' := Za.mk H
     clear H
     obtain ⟨Ao28, co28, eo28⟩ := Kd.Zbp HO_13.out
     subst eo28
     have p286 : 0 ≤ (x14_2 : Int) := of_decide_eq_true Zej
     have q286 : x14_2 < (t283.length : Int) := of_decide_eq_true Zej
     obtain ⟨ad286, e286, hx286_0, hx286_1, hx286_2⟩ := Zc (Kd.Zb HO_13.out).2.2 x14_2 p286 q286
     (try rw [← Nbq21.out] at hx286_2)
     cases e286
     replace p286 := eq_true p286
     replace q286 := eq_true q286
     have p287 : 0 ≤ (x14_2 : Int) := of_decide_eq_true Zej
     have q287 : x14_2 < (t283.length : Int) := of_decide_eq_true Zej
     obtain ⟨ad287, e287, hx287_0, hx287_1, hx287_2⟩ := Zc (Kd.Zb HO_13.out).2.2 x14_2 p287 q287
     (try rw [← Nbq21.out] at hx287_2)
     obtain rfl : ad286 = ad287 := (by injection e287)
     replace p287 := eq_true p287
     replace q287 := eq_true q287
     obtain ⟨Ao29, co29, eo29⟩ := Kd.Zbp HO_11.out
     subst eo29
     try go_wp2_with (first | (go_at_call 21; (with_reducible refine (Zak.calls k2 _ _ x11_2 ((Zaf t283 x14_2).f0) ((Zaf t283 x14_2).f1) true t288 _ ?side1 ?side2 A23.out).mono ?_); (case side1 => exact CD ((Kd.Zb HO_11.out).2.2)); (case side2 => exact (Kd.Zb HO_11.out).2.1); rintro e w30 ⟨rfl, hb⟩; have n0_ := RB HO_11 hb; have n1_ := RB HO_13 hb; have n2_ := Za.mk (Zam (KB BK277) hb); have n3_ := Za.mk (Zam (KB BK278) hb); have n4_ := Za.mk (Zbb t11_0 hb); clear HO_11; clear HO_13; clear BK277; clear BK278; clear HB; have HO_11 := n0_; have HO_13 := n1_; have BK277 := n2_; have BK278 := n3_; have HB := n4_; clear n0_ n1_ n2_ n3_ n4_; (try clear hb); (try clear hb2); (try clear hk); (try clear hi); have p289 : 0 ≤ (x14_2 : Int) := of_decide_eq_true Zej; have q289 : x14_2 < (t283.length : Int) := of_decide_eq_true Zej; obtain ⟨ad289, e289, hx289_0, hx289_1, hx289_2⟩ := Zc (Kd.Zb HO_13.out).2.2 x14_2 p289 q289; (try rw [← Nbq21.out] at hx289_2); obtain rfl : ad286 = ad289 := (by injection e289); replace p289 := eq_true p289; replace q289 := eq_true q289) | (go_at_call 21; (with_reducible refine (Zak.calls k2 _ _ l3 ((Zaf t283 x14_2).f0) ((Zaf t283 x14_2).f1) true t290 _ ?side1 ?side2 A25.out).mono ?_); (case side1 => exact CD ((Kd.Zav HR3.out HB.out))); (case side2 => exact HC3.out); rintro e w31 ⟨rfl, hb⟩; have n0_ := RB HO_11 hb; have n1_ := RB HO_13 hb; have n2_ := Za.mk (Zam (KB BK277) hb); have n3_ := Za.mk (Zam (KB BK278) hb); have n4_ := Za.mk (Zbb t11_0 hb); clear HO_11; clear HO_13; clear BK277; clear BK278; clear HB; have HO_11 := n0_; have HO_13 := n1_; have BK277 := n2_; have BK278 := n3_; have HB := n4_; clear n0_ n1_ n2_ n3_ n4_; (try clear hb); (try clear hb2); (try clear hk); (try clear hi)))
     have n0_ := Za.mk (Kd.Zbw HO_11.out)
     have n1_ := Za.mk (Kd.Zbw HO_13.out)
     have n2_ := Za.mk (Zap BK277.out)
     have n3_ := Za.mk (Zap BK278.out)
     have n4_ := Za.mk (Zal HB.out)
     clear HO_11
     clear HO_13
     clear BK277
     clear BK278
     clear HB
     have HO_11 := n0_
     have HO_13 := n1_
     have BK277 := n2_
     have BK278 := n3_
     have HB := n4_
     clear n0_ n1_ n2_ n3_ n4_
     have p291 : 0 ≤ (x14_2 : Int) := of_decide_eq_true Zej
     have q291 : x14_2 < (t283.length : Int) := of_decide_eq_true Zej
     obtain ⟨ad291, e291, hx291_0, hx291_1, hx291_2⟩ := Zc (Kd.Zb HO_13.out).2.2 x14_2 p291 q291
     (try rw [← Nbq21.out] at hx291_2)
     obtain rfl : ad286 = ad291 := (by injection e291)
     replace p291 := eq_true p291
     replace q291 := eq_true q291
     have p292 : 0 ≤ (x14_2 : Int) := of_decide_eq_true Zej
     have q292 : x14_2 < (t283.length : Int) := of_decide_eq_true Zej
     obtain ⟨ad292, e292, hx292_0, hx292_1, hx292_2⟩ := Zc (Kd.Zb HO_13.out).2.2 x14_2 p292 q292
     (try rw [← Nbq21.out] at hx292_2)
     obtain rfl : ad286 = ad292 := (by injection e292)
     replace p292 := eq_true p292
     replace q292 := eq_true q292
     refine Zek (n := 15) (S := fun w' => w'.cell? (ad286.add ((x14_2).toNat * 3)) = some (.int .i64 ((Zaf t283 x14_2).f0)) ∧ w'.cell? ⟨(ad286.add ((x14_2).toNat * 3)).block, (ad286.add ((x14_2).toNat * 3)).off + 1, none⟩ = some (.int .u8 ((Zaf t283 x14_2).f1)) ∧ w'.cell? ⟨(ad286.add ((x14_2).toNat * 3)).block, (ad286.add ((x14_2).toNat * 3)).off + 2, none⟩ = some (.bool (true)) ∧ w'.cell? (ad286.add ((x14_2).toNat * 3)) = some (.int .i64 ((Zaf t283 x14_2).f0)) ∧ w'.cell? ⟨(ad286.add ((x14_2).toNat * 3)).block, (ad286.add ((x14_2).toNat * 3)).off + 1, none⟩ = some (.int .u8 ((Zaf t283 x14_2).f1)) ∧ w'.cell? ⟨(ad286.add ((x14_2).toNat * 3)).block, (ad286.add ((x14_2).toNat * 3)).off + 2, none⟩ = some (.bool (true))) (ds := [12, 13]) u11_9 Zdq rfl rfl ⟨hx291_0, hx291_1, hx291_2, hx292_0, hx292_1, hx292_2⟩ (fun hHeld => ?_); refine Zcp Zae.tab10 Zae.bits10 (fun HT_ HW_ => ?_)
     generalize w31.drew = w32 at HO_11 HO_13 BK277 BK278 HB hx291_0 hx291_1 hx291_2 hx292_0 hx292_1 hx292_2 hHeld ⊢
     refine Zbc (i := 0) (N := some 63) (v := ?_) (a' := ?_) u11_10 rfl rfl (Zaw HT_.out Zdq) (fun _ _ _ h => h) (Or.inl ⟨by rfl, ?_⟩) ?_ ?_
     rotate_left
     ·intro w'
      go_simp
      with_reducible rfl
     rotate_left
     ·simp only [Act.put, s0_, s1_, s2_, Zax, Zay]
      rfl
     refine Zbc (i := 1) (N := some 64) (v := ?_) (a' := ?_) u11_11 rfl rfl (Zaw HT_.out Zdq) (fun _ _ _ h => h) (Or.inl ⟨by rfl, ?_⟩) ?_ ?_
     rotate_left
     ·intro w'
      go_simp
      with_reducible rfl
     rotate_left
     ·simp only [Act.put, s0_, s1_, s2_, Zax, Zay]
      rfl
     refine Zbc (i := 2) (N := some 65) (v := ?_) (a' := ?_) u11_12 rfl rfl (Zaw HT_.out Zdq) (fun _ _ _ h => h) (Or.inl ⟨by rfl, ?_⟩) ?_ ?_
     rotate_left
     ·intro w'
      go_simp
      with_reducible rfl
     rotate_left
     ·simp only [Act.put, s0_, s1_, s2_, Zax, Zay]
      rfl
     refine Zbc (i := 3) (N := some 66) (v := ?_) (a' := ?_) u11_13 rfl rfl (Zaw HT_.out Zdq) (fun _ _ _ h => h) (Or.inl ⟨by rfl, ?_⟩) ?_ ?_
     rotate_left
     ·intro w'
      go_simp
      with_reducible rfl
     rotate_left
     ·simp only [Act.put, s0_, s1_, s2_, Zax, Zay]
      rfl
     refine Zbc (i := 4) (N := some 67) (v := ?_) (a' := ?_) u11_14 rfl rfl (Zaw HT_.out Zdq) (fun _ _ _ h => h) (Or.inl ⟨by rfl, ?_⟩) ?_ ?_
     rotate_left
     ·intro w'
      go_simp
      with_reducible rfl
     rotate_left
     ·simp only [Act.put, s0_, s1_, s2_, Zax, Zay]
      rfl
     refine Zbc (i := 6) (N := some 69) (v := ?_) (a' := ?_) u11_15 rfl rfl (Zaw HT_.out Zdq) (fun _ _ _ h => h) (Or.inl ⟨by rfl, ?_⟩) ?_ ?_
     rotate_left
     ·intro w'
      go_simp
      with_reducible rfl
     rotate_left
     ·simp only [Act.put, s0_, s1_, s2_, Zax, Zay]
      rfl
     refine Zbc (i := 7) (N := some 70) (v := ?_) (a' := ?_) u11_16 rfl rfl (Zaw HT_.out Zdq) (fun _ _ _ h => h) (Or.inl ⟨by rfl, ?_⟩) ?_ ?_
     rotate_left
     ·intro w'
      go_simp
      with_reducible rfl
     rotate_left
     ·simp only [Act.put, s0_, s1_, s2_, Zax, Zay]
      rfl
     refine Zbc (i := 8) (N := some 71) (v := ?_) (a' := ?_) u11_17 rfl rfl (Zaw HT_.out Zdq) (fun _ _ _ h => h) (Or.inl ⟨by rfl, ?_⟩) ?_ ?_
     rotate_left
     ·intro w'
      go_simp
      with_reducible rfl
     rotate_left
     ·simp only [Act.put, s0_, s1_, s2_, Zax, Zay]
      rfl
     refine Zbc (i := 9) (N := some 72) (v := ?_) (a' := ?_) u11_18 rfl rfl (Zaw HT_.out Zdq) (fun _ _ _ h => h) (Or.inl ⟨by rfl, ?_⟩) ?_ ?_
     rotate_left
     ·intro w'
      go_simp
      with_reducible rfl
     rotate_left
     ·simp only [Act.put, s0_, s1_, s2_, Zax, Zay]
      rfl
     refine Zdh (i := 5) (N := some 68) (v := ?_) (a' := ?_) u11_19 rfl rfl (Zbt HT_.out HW_.out Zdq) (fun _ _ _ h => h) (Or.inl ⟨by rfl, ?_⟩) hHeld ?_ ?_
     rotate_left
     ·rintro w' ⟨s0, s1, s2, s3, s4, s5⟩
      go_simp
      with_reducible rfl
     rotate_left
     ·simp only [Act.put, s0_, s1_, s2_, Zax, Zay]
      rfl
     refine Zdh (i := 10) (N := some 73) (v := ?_) (a' := ?_) u11_20 rfl rfl (Zbt HT_.out HW_.out Zdq) (fun _ _ _ h => h) (Or.inl ⟨by rfl, ?_⟩) hHeld ?_ ?_
     rotate_left
     ·rintro w' ⟨s0, s1, s2, s3, s4, s5⟩
      go_simp
      with_reducible rfl
     rotate_left
     ·simp only [Act.put, s0_, s1_, s2_, Zax, Zay]
      rfl
     refine Zbc (i := 11) (N := some 74) (v := ?_) (a' := ?_) u11_21 rfl rfl (Zaw HT_.out Zdq) (fun _ _ _ h => h) (Or.inl ⟨by rfl, ?_⟩) ?_ ?_
     rotate_left
     ·intro w'
      go_simp
      with_reducible rfl
     rotate_left
     ·simp only [Act.put, s0_, s1_, s2_, Zax, Zay]
      rfl
     refine last_ (i := 12) (N := some 75) u11_22 rfl rfl (Zda HT_.out Zdq) (by decide) (fun K hK => ?_)
     refine value_ (w1 := ?_) (v := ?_) (by rfl) rfl ?_ ?_
     rotate_left 2
     ·go_simp
      constructor
      ·rfl
      ·rfl
     refine hK.out _ _ ?_
     clear hK K
     refine Zem (a' := ?_) ?_ ?_
     rotate_left
     ·show Act.put _ (some 75) _ = _
      simp only [Act.put, s0_, s1_, s2_, Zax, Zay]
      rfl
     refine last_ (i := 13) (N := some 76) u11_23 rfl rfl (Zda HT_.out Zdq) (by decide) (fun K hK => ?_)
     refine Kd.Zey k44 (w0 := w) w.heap.size (by rfl) (.tmp 63) (.tmp 75) 40 44 (.agg #[(.int .i64 0), (.int .u8 0), (.bool false)]) 16 rfl Try.underlying40 info44 rfl (by decide) (by omega) (.slice Ao29 x11_2.length co29) x11_2 (⟨(Zaf t283 x14_2).f0, (Zaf t283 x14_2).f1, false⟩ : S44) [.int .i64 ((Zaf t283 x14_2).f0), .int .u8 ((Zaf t283 x14_2).f1), .bool false] (fun k_ => some k_ ≠ (.slice (some ad286) t283.length co28 : Value).ownBlock ∧ k_ ≠ gb278) (fun _ => False) rfl rfl ?aP (fun _ hk => hk.elim) ?aF ?aO ?aB ?aS ?aL ?_
     (case aP => exact k44_mkM _ _ _ (⟨(Zaf t283 x14_2).f0, (Zaf t283 x14_2).f1, false⟩ : S44))
     (case aB => exact t11_0)
     (case aF => exact (fun k_ hk => ⟨Kd.fresh' (Kd.R_lt (RD HO_13)) k_ hk, Kd.freshB (g := gb278) (o := .cells #[.int .i64 a2_0, .int .u8 a2_1, .bool a2_2] 44 (0, 0)) (KB BK278) k_ hk⟩))
     (case aO => exact (RD HO_11))
     (case aS => exact (Zat t11_0))
     (case aL => have := LMc27.out; omega)
     intro v294 w33 ho hb hg hat
     rw [← Ny293.out] at ho
     have n0_ := Za.mk (Kd.Zfi (ok := (fun k_ => k_ ≠ gb278)) t11_2 hg hat)
     have n1_ := Za.mk (Zde (g := gb277) (o := .cells #[.slice A0_0 l0_0.length c0_0, .slice A0_1 l0_1.length c0_1, .slice A0_2 l0_2.length c0_2, .slice A0_3 l0_3.length c0_3, .slice A0_4 l0_4.length c0_4, .slice A0_5 l0_5.length c0_5, .slice A0_6 l0_6.length c0_6] 38 (0, 0)) (KB BK277) hg (t11_3))
     have n2_ := Za.mk (Zde (g := gb278) (o := .cells #[.int .i64 a2_0, .int .u8 a2_1, .bool a2_2] 44 (0, 0)) (KB BK278) hg (Kd.R_away HO_11.out (fun _ hk => hk.2)))
     have n3_ := Za.mk (hb)
     have n4_ := Za.mk (ho)
     clear HO_13
     clear BK277
     clear BK278
     clear HB
     clear HO_11
     have HO_13 := n0_
     have BK277 := n1_
     have BK278 := n2_
     have HB := n3_
     have HO295 := n4_
     clear n0_ n1_ n2_ n3_ n4_
     clear ho hb hg hat
     refine hK.out _ _ ?_
     clear hK K
     refine Zem (a' := ?_) ?_ ?_
     rotate_left
     ·show Act.put _ (some 76) _ = _
      simp only [Act.put, s0_, s1_, s2_, Zax, Zay]
      rfl
     refine Zbc (i := 14) (N := some 11) (v := ?_) (a' := ?_) u11_24 rfl rfl (Zaw HT_.out Zdq) (fun _ _ _ h => h) (Or.inl ⟨by rfl, ?_⟩) ?_ ?_
     rotate_left
     ·intro w'
      go_simp
      with_reducible rfl
     rotate_left
     ·simp only [Act.put, s0_, s1_, s2_, Zax, Zay]
      rfl
     refine done_ (Zdj HT_.out Zdq) ?_
     try go_wp2
     go_roundg k2
     case measure => have := HK1.out; have := HK2.out; omega
     case rel => exact ⟨(y293), (wrap64 (x14_2 + 1)), t11_5, H', ⟨by have := HK1.out; have := HK2.out; omega⟩, ⟨RD HO295⟩, ⟨by (with_reducible repeat (first | apply Kd.Zcm | apply Kd.Zcl | apply Kd.Zbw)); exact Kd.Zbv HO_13.out (fun _ hk => ⟨hk.2, hk.1⟩)⟩, ⟨by (with_reducible repeat (first | refine Zan ?_ _ | refine Zap ?_ | refine Zao ?_ _)); exact BK277.out⟩, ⟨by (with_reducible repeat (first | refine Zan ?_ _ | refine Zap ?_ | refine Zao ?_ _)); exact BK278.out⟩, ⟨by repeat (first | (with_reducible first | exact HB.out | apply Zau | apply Zaj | apply Zal | refine Zai ?_ GE277.out | refine Zai ?_ GE278.out) | exact HB.out)⟩⟩
end Go.Proofs.Ytclgclcoblfddaa.P
