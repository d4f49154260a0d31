/- Chapter 18: the contracts of delay and of the law's helpers. -/
import Derived.Test.YtdhldigbaapboaaRef04Sum
import Derived.WalkLawsBesides
namespace Go.Proofs.Ytdhldigbaapboaa
open Go.RowKit
set_option linter.unusedVariables false
set_option linter.unusedSimpArgs false

theorem bits_range (op : BinOp) (x y : Int) : 0 ≤ bits op .u64 x y ∧ bits op .u64 x y ≤ 18446744073709551615 := by
  unfold bits
  rw [IntKind.wrap_u64]
  omega
theorem xor64_range (x y : Int) : 0 ≤ xor64 x y ∧ xor64 x y ≤ 18446744073709551615 := bits_range _ _ _
theorem sipSum_range (ks m : List Int) : 0 ≤ sipSum ks m ∧ sipSum ks m ≤ 18446744073709551615 := by
  unfold sipSum finish
  exact xor64_range _ _

/-- The hash of a string. -/
theorem HashAt.new {W : World} {g : Nat} {T : TypeId} (ks : List Int) (h : Blk W g ((initV ks).vals ++ nums8 [0, 0, 0, 0, 0, 0, 0, 0] ++ [.int .i64 0]) T) : HashAt W g T ks [] := by
  refine ⟨initV ks, [0, 0, 0, 0, 0, 0, 0, 0], rfl, rfl, h.congr ?_⟩
  rw [List.append_assoc]
  rfl

theorem HashAt.ext {W W' : World} {g : Nat} {T : TypeId} {ks m : List Int} (h : HashAt W g T ks m) (hx : Ext W W') : HashAt W' g T ks m := by
  obtain ⟨v, left, h1, h2, h3⟩ := h
  exact ⟨v, left, h1, h2, h3.ext hx⟩

set_option maxRecDepth 100000 in
set_option maxHeartbeats 1000000 in
theorem of_pos (ks : List Int) (hk : ks.length = 16) (s : ByteArray) (hs : s.size ≤ 1000000) (r : Int) (h1 : 1 ≤ r) (h2 : r ≤ 9223372036854775807) (w : World) :
    Calls Try.prog 8 #[.agg (nums8 ks).toArray, .string s, .int .i64 r] w fun e w' => e = .returned (.int .i64 (sipSum ks (bytesOf s) % r)) ∧ Ext w w' := by
  have CN : ∀ W, Calls Try.prog 11 #[.agg (nums8 ks).toArray] W fun e w' => ∃ g, e = .returned (.pointer (some ⟨g, 0, none⟩)) ∧ Ext W w' ∧ W.heap.size ≤ g ∧ HashAt w' g 54 ks [] := fun W => (new_calls ks hk W).mono (fun e w' ⟨g, h1, h2, h3, h4⟩ => ⟨g, h1, h2, h3, HashAt.new ks h4⟩)
  have CN' := Lib.hid CN
  obtain ⟨S, hS⟩ : ∃ S, sipSum ks (bytesOf s) = S := ⟨_, rfl⟩
  have hS1 : 0 ≤ S ∧ S ≤ 18446744073709551615 := by rw [← hS]; exact sipSum_range _ _
  have CS : ∀ (g : Nat) (W : World), HashAt W g 54 ks (bytesOf s) → Calls Try.prog 13 #[.pointer (some ⟨g, 0, none⟩)] W fun e w' => e = .returned (.int .u64 S) ∧ Ext W w' := fun g W h => by
    rw [← hS]
    exact hsum_calls ks (bytesOf s) g _ W h (by rw [bytesOf_length]; omega)
  have CS' := Lib.hid CS
  rw [hS]
  have CA : ∀ (g b cap : Nat) (W : World), HashAt W g 54 ks [] → RdA W b 0 (nums8 (bytesOf s)) → b ≠ g → Calls Try.prog 12 #[.pointer (some ⟨g, 0, none⟩), .slice (some ⟨b, 0, none⟩) s.size cap] W fun e w' => e = .returned (.tuple #[]) ∧ HashAt w' g 54 ks (bytesOf s) ∧ But g W w' := fun g b cap W h hr hne => by
    rw [← bytesOf_length]
    exact add_calls ks [] (bytesOf s) (some ⟨b, 0, none⟩) cap g _ W h (.inr ⟨b, 0, rfl, hr⟩) (fun a e => by cases e; exact hne) (by rw [bytesOf_length]; simp; omega)
  have CA' := Lib.hid CA
  clear CN CS CA hS
  obtain ⟨A, hA⟩ : ∃ A, (nums8 ks).toArray = A := ⟨_, rfl⟩
  have hl16 : ∃ k0 k1 k2 k3 k4 k5 k6 k7 k8 k9 k10 k11 k12 k13 k14 k15, ks = [k0, k1, k2, k3, k4, k5, k6, k7, k8, k9, k10, k11, k12, k13, k14, k15] := vals16 ks hk
  obtain ⟨k0, k1, k2, k3, k4, k5, k6, k7, k8, k9, k10, k11, k12, k13, k14, k15, rfl⟩ := hl16
  clear hA hk
  simp only [nums8, List.map_cons, List.map_nil] at *
  obtain ⟨hS0, hS1⟩ := hS1
  have hm0 : 0 ≤ S % r := Int.emod_nonneg _ (by omega)
  have hm1 : S % r < r := Int.emod_lt_of_pos _ (by omega)
  go_enter Try.func8, Try.ntmps8
  go_wp2_with fail
  refine (CN'.out _).mono ?_
  rintro e W1 ⟨g, rfl, hx1, hg, hb1⟩
  replace hx1 : Ext w W1 := ((Ext.refl w).alloc _).trans hx1
  have hgw : w.heap.size ≤ g := by simp at hg; omega
  clear hg CN'
  go_upto_region 4 with (fail)
  go_wp2_with (refine wpList_bytes rfl (.tmp 13) 9 28 5 s rfl rfl Try.underlying9 Try.underlying28 Try.underlying5 ?_; intro cap W2 hcap hx2 hr2)
  have hgl : g < W1.heap.size := by obtain ⟨_, _, _, _, hb⟩ := hb1; exact hb.lt
  have hb2 : HashAt W2 g _ _ [] := hb1.ext hx2
  refine (CA'.out g W1.heap.size cap W2 hb2 hr2 (by omega)).mono ?_
  rintro e W3 ⟨rfl, hb3, ho3⟩
  have hx3 : Ext w W3 := But.toNew (hx1.trans hx2) ho3 hgw
  clear hr2 hb2 hb1 ho3 hx2 CA' hcap hgl
  go_wp2_with fail
  refine (CS'.out g W3 hb3).mono ?_
  rintro e W4 ⟨rfl, hx4⟩
  clear CS'
  go_wp2_with fail
  go_ret
  exact ⟨rfl, hx3.trans hx4⟩

set_option maxRecDepth 100000 in
set_option maxHeartbeats 1000000 in
theorem of_zero (ks : List Int) (hk : ks.length = 16) (s : ByteArray) (r : Int) (h1 : r < 1) (w : World) :
    Calls Try.prog 8 #[.agg (nums8 ks).toArray, .string s, .int .i64 r] w fun e w' => e = .returned (.int .i64 0) ∧ Ext w w' := by
  obtain ⟨k0, k1, k2, k3, k4, k5, k6, k7, k8, k9, k10, k11, k12, k13, k14, k15, rfl⟩ := vals16 ks hk
  clear hk
  simp only [nums8, List.map_cons, List.map_nil] at *
  go_enter Try.func8, Try.ntmps8
  go_wp2_with fail
  go_ret
  exact ⟨rfl, (Ext.refl _).alloc _⟩
end Go.Proofs.Ytdhldigbaapboaa
