/- Chapter 18: the law DelayAlike as a contract. -/
import Derived.Test.YtdhldigbaapboaaLawDelay4
namespace Go.Proofs.Ytdhldigbaapboaa
open Go.RowKit
set_option linter.unusedVariables false
set_option linter.unusedSimpArgs false

set_option maxRecDepth 100000 in
set_option maxHeartbeats 4000000 in
theorem law_alike_far (ks : List Int) (hk : ks.length = 16) (s : ByteArray) (r t d m c : Int) (hs : s.size ≤ 9223372036854775807) (h : 300 < s.size ∨ r < 1 ∨ d < 0 ∨ 1152921504606846976 < d) (w : World) :
    Calls Try.prog 5 #[.agg (nums8 ks).toArray, .string s, .int .i32 r, .int .u16 t, .int .i64 d, .int .u32 m, .int .u32 c] w fun e w' => e = .returned (.bool true) ∧ Ext w w' := by
  obtain ⟨k0, k1, k2, k3, k4, k5, k6, k7, k8, k9, k10, k11, k12, k13, k14, k15, rfl⟩ := vals16 ks hk
  clear hk
  simp only [nums8, List.map_cons, List.map_nil] at *
  by_cases e1 : 300 < s.size
  · clear h
    go_enter Try.func5, Try.ntmps5; go_wp2_with fail; refine (works_calls _).mono ?_; rintro e w1 ⟨rfl, x1⟩; go_wp2_with fail; go_ret; exact ⟨rfl, ((Ext.refl _).alloc _).trans x1⟩
  by_cases e2 : r < 1
  · clear h
    go_enter Try.func5, Try.ntmps5; go_wp2_with fail; refine (works_calls _).mono ?_; rintro e w1 ⟨rfl, x1⟩; go_wp2_with fail; go_ret; exact ⟨rfl, ((Ext.refl _).alloc _).trans x1⟩
  by_cases e3 : d < 0
  · clear h
    go_enter Try.func5, Try.ntmps5; go_wp2_with fail; refine (works_calls _).mono ?_; rintro e w1 ⟨rfl, x1⟩; go_wp2_with fail; go_ret; exact ⟨rfl, ((Ext.refl _).alloc _).trans x1⟩
  have e4 : 1152921504606846976 < d := by omega
  clear h
  go_enter Try.func5, Try.ntmps5; go_wp2_with fail; refine (works_calls _).mono ?_; rintro e w1 ⟨rfl, x1⟩; go_wp2_with fail; go_ret; exact ⟨rfl, ((Ext.refl _).alloc _).trans x1⟩

set_option maxRecDepth 100000 in
set_option maxHeartbeats 4000000 in
theorem law_alike_near (ks : List Int) (hk : ks.length = 16) (s : ByteArray) (r t d m c : Int) (hs : s.size ≤ 300) (r1 : 1 ≤ r) (r2 : r ≤ 2147483647) (t0 : 0 ≤ t) (t1 : t ≤ 65535) (d0 : 0 ≤ d) (d1 : d ≤ 1152921504606846976) (m0 : 0 ≤ m) (m1 : m ≤ 4294967295) (z0 : 0 ≤ c) (z1 : c ≤ 4294967295) (w : World) :
    Calls Try.prog 5 #[.agg (nums8 ks).toArray, .string s, .int .i32 r, .int .u16 t, .int .i64 d, .int .u32 m, .int .u32 c] w fun e w' => e = .returned (.bool true) ∧ Ext w w' := by
  obtain ⟨q, hq⟩ : ∃ q, r * (1 + t) = q := ⟨_, rfl⟩
  have hq1 : r ≤ q := by rw [← hq]; have := Int.mul_le_mul_of_nonneg_left (show 1 ≤ 1 + t by omega) (show 0 ≤ r by omega); omega
  have hq2 : q ≤ 140737488355328 := by
    rw [← hq]
    have h1 := Int.mul_le_mul_of_nonneg_right r2 (show 0 ≤ 1 + t by omega)
    have h2 := Int.mul_le_mul_of_nonneg_left (show 1 + t ≤ 65536 by omega) (show 0 ≤ (2147483647 : Int) by omega)
    omega
  obtain ⟨S, hS⟩ : ∃ S, sipSum ks (bytesOf s) = S := ⟨_, rfl⟩
  obtain ⟨a, ha⟩ : ∃ a, S % r = a := ⟨_, rfl⟩
  obtain ⟨b, hb⟩ : ∃ b, S % q = b := ⟨_, rfl⟩
  have ha0 : 0 ≤ a := by rw [← ha]; exact Int.emod_nonneg _ (by omega)
  have ha1 : a < r := by rw [← ha]; exact Int.emod_lt_of_pos _ (by omega)
  have hb0 : 0 ≤ b := by rw [← hb]; exact Int.emod_nonneg _ (by omega)
  have hb1 : b < q := by rw [← hb]; exact Int.emod_lt_of_pos _ (by omega)
  have hab : b % r = a := by rw [← hb, ← ha]; exact Int.emod_emod_of_dvd S ⟨1 + t, hq.symm⟩
  have A : ∀ W, Calls Try.prog 8 #[.agg (nums8 ks).toArray, .string s, .int .i64 r] W fun e w' => e = .returned (.int .i64 a) ∧ Ext W w' := fun W => by
    rw [← ha, ← hS]
    exact of_pos ks hk s (by omega) r r1 (by omega) W
  have B : ∀ W, Calls Try.prog 8 #[.agg (nums8 ks).toArray, .string s, .int .i64 q] W fun e w' => e = .returned (.int .i64 b) ∧ Ext W w' := fun W => by
    rw [← hb, ← hS]
    exact of_pos ks hk s (by omega) q (by omega) (by omega) W
  have C := Lib.hid fun W => around_yes d a c W d0 ha0 z0 (by omega)
  have D := Lib.hid fun W => around_yes (d + m) a c W (by omega) ha0 z0 (by omega)
  have hB0 : Blk (w.alloc (.cells (nums8 ks).toArray 23)) w.heap.size (nums8 ks) 23 := Blk.new _ _ _
  have HB := Lib.hid hB0
  have A' := Lib.hid A
  have B' := Lib.hid B
  have Hab := Lib.hid hab
  obtain ⟨k0, k1, k2, k3, k4, k5, k6, k7, k8, k9, k10, k11, k12, k13, k14, k15, rfl⟩ := vals16 ks hk
  clear hk A B hS hB0 ha hb hab
  have hs' : (s.size : Int) ≤ 300 := by omega
  simp only [nums8, List.map_cons, List.map_nil] at *
  go_enter Try.func5, Try.ntmps5
  go_wp2_with fail
  refine (A'.out _).mono ?_
  rintro e w1 ⟨rfl, x1⟩
  have hb := HB.out.ext x1
  replace x1 := ((Ext.refl _).alloc _).trans x1
  have c0 := hb.cell 0 rfl; have c1 := hb.cell 1 rfl; have c2 := hb.cell 2 rfl; have c3 := hb.cell 3 rfl; have c4 := hb.cell 4 rfl; have c5 := hb.cell 5 rfl; have c6 := hb.cell 6 rfl; have c7 := hb.cell 7 rfl; have c8 := hb.cell 8 rfl; have c9 := hb.cell 9 rfl; have c10 := hb.cell 10 rfl; have c11 := hb.cell 11 rfl; have c12 := hb.cell 12 rfl; have c13 := hb.cell 13 rfl; have c14 := hb.cell 14 rfl; have c15 := hb.cell 15 rfl
  clear HB hb A'
  go_wp2_with fail
  refine (B'.out _).mono ?_
  rintro e w2 ⟨rfl, x2⟩
  replace x1 := x1.trans x2
  clear c0 c1 c2 c3 c4 c5 c6 c7 c8 c9 c10 c11 c12 c13 c14 c15 B' x2
  go_wp2_with fail
  refine (C.out _).mono ?_
  rintro e w3 ⟨rfl, x3⟩
  replace x1 := x1.trans x3
  clear C x3
  go_wp2_with fail
  refine (D.out _).mono ?_
  rintro e w4 ⟨rfl, x4⟩
  have y0 : w4.cell? ⟨w3.heap.size, 0, none⟩ = some (.int .i64 (d + a)) := ((Blk.new w3 [.int .i64 (d + a), .int .i64 (d + a + c)] _).ext x4).cell 0 rfl
  have y1 : w4.cell? ⟨w3.heap.size, 1, none⟩ = some (.int .i64 (d + a + c)) := ((Blk.new w3 [.int .i64 (d + a), .int .i64 (d + a + c)] _).ext x4).cell 1 rfl
  replace x1 := (x1.alloc _).trans x4
  have hlt : w3.heap.size < w4.heap.size := by have := x4.size; simp at this; omega
  clear D x4
  have hab := Hab.out
  go_wp2_with fail
  refine (works_calls _).mono ?_
  rintro e w5 ⟨rfl, x5⟩
  go_wp2_with fail
  go_ret
  exact ⟨rfl, (x1.alloc _).trans x5⟩
end Go.Proofs.Ytdhldigbaapboaa
