/- Chapter 18: the laws DelayOf, DelayAround, DelayAlike as contracts. -/
import Derived.Test.YtdhldigbaapboaaLawDelay2
namespace Go.Proofs.Ytdhldigbaapboaa
open Go.RowKit
set_option linter.unusedVariables false
set_option linter.unusedSimpArgs false

set_option maxRecDepth 100000 in
set_option maxHeartbeats 2000000 in
theorem law_of_far (ks : List Int) (hk : ks.length = 16) (s : ByteArray) (r : Int) (hs : s.size ≤ 9223372036854775807) (h : 300 < s.size) (w : World) :
    Calls Try.prog 3 #[.agg (nums8 ks).toArray, .string s, .int .i64 r] w fun e w' => e = .returned (.bool true) ∧ Ext w w' := by
  obtain ⟨k0, k1, k2, k3, k4, k5, k6, k7, k8, k9, k10, k11, k12, k13, k14, k15, rfl⟩ := vals16 ks hk
  clear hk
  simp only [nums8, List.map_cons, List.map_nil] at *
  go_enter Try.func3, Try.ntmps3
  go_wp2_with fail
  refine (works_calls _).mono ?_
  rintro e w1 ⟨rfl, x1⟩
  go_wp2_with fail
  go_ret
  exact ⟨rfl, ((Ext.refl _).alloc _).trans x1⟩

set_option maxRecDepth 100000 in
set_option maxHeartbeats 2000000 in
theorem law_of_zero (ks : List Int) (hk : ks.length = 16) (s : ByteArray) (r : Int) (h : s.size ≤ 300) (hr : r < 1) (w : World) :
    Calls Try.prog 3 #[.agg (nums8 ks).toArray, .string s, .int .i64 r] w fun e w' => e = .returned (.bool true) ∧ Ext w w' := by
  have A := Lib.hid fun W => of_zero ks hk s r hr W
  obtain ⟨k0, k1, k2, k3, k4, k5, k6, k7, k8, k9, k10, k11, k12, k13, k14, k15, rfl⟩ := vals16 ks hk
  clear hk
  simp only [nums8, List.map_cons, List.map_nil] at *
  go_enter Try.func3, Try.ntmps3
  go_wp2_with fail
  refine (A.out _).mono ?_
  rintro e w1 ⟨rfl, x1⟩
  go_wp2_with fail
  refine (works_calls _).mono ?_
  rintro e w2 ⟨rfl, x2⟩
  go_wp2_with fail
  go_ret
  exact ⟨rfl, (((Ext.refl _).alloc _).trans x1).trans x2⟩

set_option maxRecDepth 100000 in
set_option maxHeartbeats 2000000 in
theorem law_of_pos (ks : List Int) (hk : ks.length = 16) (hkb : Bytes ks) (s : ByteArray) (r : Int) (h : s.size ≤ 300) (hr : 1 ≤ r) (hr2 : r ≤ 9223372036854775807) (w : World) :
    Calls Try.prog 3 #[.agg (nums8 ks).toArray, .string s, .int .i64 r] w fun e w' => e = .returned (.bool true) ∧ Ext w w' := by
  have hq := sipSum_range ks (bytesOf s)
  have hB0 : Blk (w.alloc (.cells (nums8 ks).toArray 23)) w.heap.size (nums8 ks) 23 := Blk.new _ _ _
  obtain ⟨S, hS⟩ : ∃ S, sipSum ks (bytesOf s) = S := ⟨_, rfl⟩
  have A : ∀ W, Calls Try.prog 8 #[.agg (nums8 ks).toArray, .string s, .int .i64 r] W fun e w' => e = .returned (.int .i64 (S % r)) ∧ Ext W w' := fun W => by
    rw [← hS]
    exact of_pos ks hk s (by omega) r hr hr2 W
  have R : ∀ (b cap : Nat) (W : World), s.size ≤ cap → RdA W b 0 (nums8 (bytesOf s)) → Calls Try.prog 9 #[.agg (nums8 ks).toArray, .slice (some ⟨b, 0, none⟩) s.size cap] W fun e w' => e = .returned (.int .u64 S) ∧ Ext W w' := fun b cap W hc hr => by
    rw [← hS]
    have := rsum_calls ks hk hkb (bytesOf s) (bytesOf_bytes s) (some ⟨b, 0, none⟩) cap W (.inr ⟨b, 0, rfl, hr⟩) (by rw [bytesOf_length]; omega) (by rw [bytesOf_length]; exact hc)
    rw [bytesOf_length] at this
    exact this
  have A' := Lib.hid A
  have R' := Lib.hid R
  rw [hS] at hq
  obtain ⟨hq0, hq1⟩ := hq
  have HB := Lib.hid hB0
  have hm0 : 0 ≤ S % r := Int.emod_nonneg _ (by omega)
  have hm1 : S % r < r := Int.emod_lt_of_pos _ (by omega)
  obtain ⟨k0, k1, k2, k3, k4, k5, k6, k7, k8, k9, k10, k11, k12, k13, k14, k15, rfl⟩ := vals16 ks hk
  clear hk A R hS hB0 hkb
  simp only [nums8, List.map_cons, List.map_nil] at *
  go_enter Try.func3, Try.ntmps3
  go_wp2_with fail
  refine (A'.out _).mono ?_
  rintro e w1 ⟨rfl, x1⟩
  have b1 := HB.out.ext x1
  have x1w : Ext w w1 := ((Ext.refl _).alloc _).trans x1
  have c0 := b1.cell 0 rfl
  have c1 := b1.cell 1 rfl
  have c2 := b1.cell 2 rfl
  have c3 := b1.cell 3 rfl
  have c4 := b1.cell 4 rfl
  have c5 := b1.cell 5 rfl
  have c6 := b1.cell 6 rfl
  have c7 := b1.cell 7 rfl
  have c8 := b1.cell 8 rfl
  have c9 := b1.cell 9 rfl
  have c10 := b1.cell 10 rfl
  have c11 := b1.cell 11 rfl
  have c12 := b1.cell 12 rfl
  have c13 := b1.cell 13 rfl
  have c14 := b1.cell 14 rfl
  have c15 := b1.cell 15 rfl
  clear HB b1 x1 A'
  go_wp2_with (refine wpList_bytes rfl (.tmp 34) 9 28 5 s rfl rfl Try.underlying9 Try.underlying28 Try.underlying5 ?_; intro cap W2 hcap hx2 hr2)
  clear c0 c1 c2 c3 c4 c5 c6 c7 c8 c9 c10 c11 c12 c13 c14 c15
  refine (R'.out _ _ _ hcap hr2).mono ?_
  rintro e w3 ⟨rfl, x3⟩
  go_wp2_with fail
  refine (works_calls _).mono ?_
  rintro e w4 ⟨rfl, x4⟩
  go_wp2_with fail
  go_ret
  exact ⟨rfl, ((x1w.trans hx2).trans x3).trans x4⟩
end Go.Proofs.Ytdhldigbaapboaa
