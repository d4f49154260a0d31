/- Printed by a program for this claim: functions of the program as plain functions, and that the machine computes them. -/
import Derived.Test.YtclgclcoblfddaaPx0
import Derived.Test.YtclgclcoblfddaaPShort
namespace Go.Proofs.Ytclgclcoblfddaa.P
open Go.RowKit Go.Proofs.YtclgclcoblfddaaW.PrintWords Go.Proofs.YtclgclcoblfddaaW.PrintLast Go.Proofs.YtclgclcoblfddaaW.PrintMore
attribute [local go_sem] Zeg Zee Zfg Zff Zdo Zdm Zef Zed
set_option linter.unusedVariables false
set_option linter.unusedSimpArgs false
theorem t8_0 {p : Prop} (h : p := by repeat (first | (with_reducible first | exact HB.out | apply Zau | apply Zaj | apply Zal | refine Zai ?_ GE204.out) | exact HB.out)) : p := h
def Zbs.f (a0_0 : Int) (a0_1 : Int) (a0_2 : Bool) (a1_0 : Int) (a1_1 : Int) (a1_2 : Bool) : Option (Bool) := if a0_0 < a1_0 then (some true) else (if a0_0 = a1_0 then (some (decide (a0_1 < a1_1))) else (some false))
set_option maxHeartbeats 8000000 in
set_option maxRecDepth 100000 in
theorem Zbs.calls (a0_0 : Int) (a0_1 : Int) (a0_2 : Bool) (a1_0 : Int) (a1_1 : Int) (a1_2 : Bool) (r : Bool) (w : World) (h : Zbs.f a0_0 a0_1 a0_2 a1_0 a1_1 a1_2 = some r) :
  Calls Try.prog 75 #[.agg #[.int .i64 a0_0, .int .u8 a0_1, .bool a0_2], .agg #[.int .i64 a1_0, .int .u8 a1_1, .bool a1_2]] w fun e w' => e = .returned (.bool r) ∧ Below w.heap.size w w' := by
 have hu44 := Try.underlying44
 have HB := Za.mk (Below.refl w.heap.size w)
 have H : (if a0_0 < a1_0 then (some true) else (if a0_0 = a1_0 then (some (decide (a0_1 < a1_1))) else (some false))) = some r := h
 clear h
 by_cases c3 : a0_0 < a1_0
 case neg =>
  rw [if_neg c3] at H
  have c3b0 : decide (a0_0 < a1_0) = false := decide_eq_false c3
  clear c3
  by_cases c9 : a0_0 = a1_0
  case neg =>
   rw [if_neg c9] at H
   have c9b0 : (a0_0 == a1_0) = false := beq_eq_false_iff_ne.mpr c9
   have c9b1 : (a0_0 != a1_0) = true := bne_iff_ne.mpr c9
   obtain rfl := Option.some.inj H
   go_enter Try.func75, Try.ntmps75
   go_wp2_with (first | ((with_reducible refine Zca (N := 2) rfl ?_); refine Zbu ?hg (N := 2) ?hd (cs := #[.int .i64 a0_0, .int .u8 a0_1, .bool a0_2]) (t := 44) ?hr ?_; (case hd => rfl); (case hg => rfl); (case hr => first | (go_simp; done) | (go_simp; rfl)); intro gb204 hg w15 hbox hb; have n0_ := BS HB hb; have n1_ := Za.mk (hbox); have n2_ := Za.mk ((by rw [hg]; exact (Zat (BD HB)) : w.heap.size ≤ gb204)); have n3_ := Za.mk ((by rw [hg]; exact (Zat (BD HB)) : w.heap.size ≤ gb204)); clear HB; have HB := n0_; have BK204 := n1_; have GW204 := n2_; have GE204 := n3_; clear n0_ n1_ n2_ n3_; clear hb hbox hg) | ((with_reducible refine Zca (N := 3) rfl ?_); refine Zbu ?hg (N := 3) ?hd (cs := #[.int .i64 a1_0, .int .u8 a1_1, .bool a1_2]) (t := 44) ?hr ?_; (case hd => rfl); (case hg => rfl); (case hr => first | (go_simp; done) | (go_simp; rfl)); intro gb205 hg w16 hbox hb; have n0_ := Za.mk (Zam (KB BK204) hb); have n1_ := Za.mk (Zbb t8_0 hb); have n2_ := Za.mk (hbox); have n3_ := Za.mk ((by rw [hg]; exact (Zat t8_0) : w.heap.size ≤ gb205)); have n4_ := Za.mk ((by rw [hg]; exact (Zat t8_0) : w.heap.size ≤ gb205)); have n5_ := Za.mk ((by rw [hg]; exact Nat.ne_of_lt (Zcw (KB BK204)) : gb204 ≠ gb205)); have n6_ := Za.mk ((by rw [hg]; exact Nat.ne_of_gt (Zcw (KB BK204)) : gb205 ≠ gb204)); clear BK204; clear HB; have BK204 := n0_; have HB := n1_; have BK205 := n2_; have GW205 := n3_; have GE205 := n4_; have NB204_205 := n5_; have NB205_204 := n6_; clear n0_ n1_ n2_ n3_ n4_ n5_ n6_; clear hb hbox hg; have hnb17 := NB204_205.out; have hnc17 := NB205_204.out; obtain ⟨hcz18_0, hcz18_1, hcz18_2, hfz18_0, hfz18_1, hfz18_2⟩ := cz3 BK204; obtain ⟨hcz19_0, hcz19_1, hcz19_2, hfz19_0, hfz19_1, hfz19_2⟩ := cz3 BK205))
   go_ret
   exact ⟨by first | rfl | (simp [Zbe, Zbd] <;> rfl) | (simp [*, Zbe, Zbd] <;> rfl), by repeat (first | (with_reducible first | exact HB.out | apply Zau | apply Zaj | apply Zal | refine Zai ?_ GE204.out | refine Zai ?_ GE205.out) | exact HB.out)⟩
  rw [if_pos c9] at H
  have c9b0 : (a0_0 == a1_0) = true := beq_iff_eq.mpr c9
  have c9b1 : (a0_0 != a1_0) = false := bne_eq_false_iff_eq.mpr c9
  clear c9
  obtain rfl := Option.some.inj H
  go_enter Try.func75, Try.ntmps75
  go_wp2_with (first | ((with_reducible refine Zca (N := 2) rfl ?_); refine Zbu ?hg (N := 2) ?hd (cs := #[.int .i64 a0_0, .int .u8 a0_1, .bool a0_2]) (t := 44) ?hr ?_; (case hd => rfl); (case hg => rfl); (case hr => first | (go_simp; done) | (go_simp; rfl)); intro gb204 hg w10 hbox hb; have n0_ := BS HB hb; have n1_ := Za.mk (hbox); have n2_ := Za.mk ((by rw [hg]; exact (Zat (BD HB)) : w.heap.size ≤ gb204)); have n3_ := Za.mk ((by rw [hg]; exact (Zat (BD HB)) : w.heap.size ≤ gb204)); clear HB; have HB := n0_; have BK204 := n1_; have GW204 := n2_; have GE204 := n3_; clear n0_ n1_ n2_ n3_; clear hb hbox hg) | ((with_reducible refine Zca (N := 3) rfl ?_); refine Zbu ?hg (N := 3) ?hd (cs := #[.int .i64 a1_0, .int .u8 a1_1, .bool a1_2]) (t := 44) ?hr ?_; (case hd => rfl); (case hg => rfl); (case hr => first | (go_simp; done) | (go_simp; rfl)); intro gb205 hg w11 hbox hb; have n0_ := Za.mk (Zam (KB BK204) hb); have n1_ := Za.mk (Zbb t8_0 hb); have n2_ := Za.mk (hbox); have n3_ := Za.mk ((by rw [hg]; exact (Zat t8_0) : w.heap.size ≤ gb205)); have n4_ := Za.mk ((by rw [hg]; exact (Zat t8_0) : w.heap.size ≤ gb205)); have n5_ := Za.mk ((by rw [hg]; exact Nat.ne_of_lt (Zcw (KB BK204)) : gb204 ≠ gb205)); have n6_ := Za.mk ((by rw [hg]; exact Nat.ne_of_gt (Zcw (KB BK204)) : gb205 ≠ gb204)); clear BK204; clear HB; have BK204 := n0_; have HB := n1_; have BK205 := n2_; have GW205 := n3_; have GE205 := n4_; have NB204_205 := n5_; have NB205_204 := n6_; clear n0_ n1_ n2_ n3_ n4_ n5_ n6_; clear hb hbox hg; have hnb12 := NB204_205.out; have hnc12 := NB205_204.out; obtain ⟨hcz13_0, hcz13_1, hcz13_2, hfz13_0, hfz13_1, hfz13_2⟩ := cz3 BK204; obtain ⟨hcz14_0, hcz14_1, hcz14_2, hfz14_0, hfz14_1, hfz14_2⟩ := cz3 BK205))
  go_ret
  exact ⟨by first | rfl | (simp [Zbe, Zbd] <;> rfl) | (simp [*, Zbe, Zbd] <;> rfl), by repeat (first | (with_reducible first | exact HB.out | apply Zau | apply Zaj | apply Zal | refine Zai ?_ GE204.out | refine Zai ?_ GE205.out) | exact HB.out)⟩
 rw [if_pos c3] at H
 have c3b0 : decide (a0_0 < a1_0) = true := decide_eq_true c3
 clear c3
 obtain rfl := Option.some.inj H
 go_enter Try.func75, Try.ntmps75
 go_wp2_with (first | ((with_reducible refine Zca (N := 2) rfl ?_); refine Zbu ?hg (N := 2) ?hd (cs := #[.int .i64 a0_0, .int .u8 a0_1, .bool a0_2]) (t := 44) ?hr ?_; (case hd => rfl); (case hg => rfl); (case hr => first | (go_simp; done) | (go_simp; rfl)); intro gb204 hg w4 hbox hb; have n0_ := BS HB hb; have n1_ := Za.mk (hbox); have n2_ := Za.mk ((by rw [hg]; exact (Zat (BD HB)) : w.heap.size ≤ gb204)); have n3_ := Za.mk ((by rw [hg]; exact (Zat (BD HB)) : w.heap.size ≤ gb204)); clear HB; have HB := n0_; have BK204 := n1_; have GW204 := n2_; have GE204 := n3_; clear n0_ n1_ n2_ n3_; clear hb hbox hg) | ((with_reducible refine Zca (N := 3) rfl ?_); refine Zbu ?hg (N := 3) ?hd (cs := #[.int .i64 a1_0, .int .u8 a1_1, .bool a1_2]) (t := 44) ?hr ?_; (case hd => rfl); (case hg => rfl); (case hr => first | (go_simp; done) | (go_simp; rfl)); intro gb205 hg w5 hbox hb; have n0_ := Za.mk (Zam (KB BK204) hb); have n1_ := Za.mk (Zbb t8_0 hb); have n2_ := Za.mk (hbox); have n3_ := Za.mk ((by rw [hg]; exact (Zat t8_0) : w.heap.size ≤ gb205)); have n4_ := Za.mk ((by rw [hg]; exact (Zat t8_0) : w.heap.size ≤ gb205)); have n5_ := Za.mk ((by rw [hg]; exact Nat.ne_of_lt (Zcw (KB BK204)) : gb204 ≠ gb205)); have n6_ := Za.mk ((by rw [hg]; exact Nat.ne_of_gt (Zcw (KB BK204)) : gb205 ≠ gb204)); clear BK204; clear HB; have BK204 := n0_; have HB := n1_; have BK205 := n2_; have GW205 := n3_; have GE205 := n4_; have NB204_205 := n5_; have NB205_204 := n6_; clear n0_ n1_ n2_ n3_ n4_ n5_ n6_; clear hb hbox hg; have hnb6 := NB204_205.out; have hnc6 := NB205_204.out; obtain ⟨hcz7_0, hcz7_1, hcz7_2, hfz7_0, hfz7_1, hfz7_2⟩ := cz3 BK204; obtain ⟨hcz8_0, hcz8_1, hcz8_2, hfz8_0, hfz8_1, hfz8_2⟩ := cz3 BK205))
 go_ret
 exact ⟨by first | rfl | (simp [Zbe, Zbd] <;> rfl) | (simp [*, Zbe, Zbd] <;> rfl), by repeat (first | (with_reducible first | exact HB.out | apply Zau | apply Zaj | apply Zal | refine Zai ?_ GE204.out | refine Zai ?_ GE205.out) | exact HB.out)⟩
end Go.Proofs.Ytclgclcoblfddaa.P
