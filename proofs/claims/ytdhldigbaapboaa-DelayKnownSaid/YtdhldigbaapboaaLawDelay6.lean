/- Chapter 18: the three laws at any arguments; the closed law DelayKnown. -/
import Derived.Test.YtdhldigbaapboaaLawDelay5
import Derived.OpenShut
namespace Go.Proofs.Ytdhldigbaapboaa
open Go.RowKit
set_option linter.unusedVariables false
set_option linter.unusedSimpArgs false

theorem law_of_any (ks : List Int) (hk : ks.length = 16) (hb : Bytes ks) (s : ByteArray) (hs : s.size ≤ 9223372036854775807) (r : Int) (w2 : (Lit.int .i64 r).wf = true) (w : World) :
    Calls Try.prog 3 #[.agg (nums8 ks).toArray, .string s, .int .i64 r] w fun e w' => e = .returned (.bool true) ∧ Ext w w' := by
  have b2 := bounds_i64 w2
  by_cases h : 300 < s.size
  · exact law_of_far ks hk s r (by omega) h w
  · by_cases h2 : r < 1
    · exact law_of_zero ks hk s r (by omega) h2 w
    · exact law_of_pos ks hk hb s r (by omega) (by omega) (by omega) w

theorem law_around_any (d l c : Int) (w0 : (Lit.int .i64 d).wf = true) (w1 : (Lit.int .i64 l).wf = true) (w2 : (Lit.int .i64 c).wf = true) (w : World) :
    Calls Try.prog 4 #[.int .i64 d, .int .i64 l, .int .i64 c] w fun e w' => e = .returned (.bool true) ∧ Ext w w' := by
  have b0 := bounds_i64 w0
  have b1 := bounds_i64 w1
  have b2 := bounds_i64 w2
  by_cases h : d < 0 ∨ l < 0 ∨ c < 0 ∨ 9223372036854775807 < d + l ∨ 9223372036854775807 < d + l + c
  · exact law_around_no d l c w (by omega) (by omega) (by omega) (by omega) (by omega) (by omega) h
  · exact law_around_yes d l c w (by omega) (by omega) (by omega) (by omega)

theorem law_alike_any (ks : List Int) (hk : ks.length = 16) (s : ByteArray) (hs : s.size ≤ 9223372036854775807) (r t d m c : Int) (w2 : (Lit.int .i32 r).wf = true) (w3 : (Lit.int .u16 t).wf = true) (w4 : (Lit.int .i64 d).wf = true) (w5 : (Lit.int .u32 m).wf = true) (w6 : (Lit.int .u32 c).wf = true) (w : World) :
    Calls Try.prog 5 #[.agg (nums8 ks).toArray, .string s, .int .i32 r, .int .u16 t, .int .i64 d, .int .u32 m, .int .u32 c] w fun e w' => e = .returned (.bool true) ∧ Ext w w' := by
  have b2 := bounds_i32 w2
  have b3 := bounds_u16 w3
  have b4 := bounds_i64 w4
  have b5 := bounds_u32 w5
  have b6 := bounds_u32 w6
  by_cases h : 300 < s.size ∨ r < 1 ∨ d < 0 ∨ 1152921504606846976 < d
  · exact law_alike_far ks hk s r t d m c (by omega) h w
  · exact law_alike_near ks hk s r t d m c (by omega) (by omega) (by omega) (by omega) (by omega) (by omega) (by omega) (by omega) (by omega) (by omega) (by omega) w

def nine : List Int := [-9223372036854775808, -1, 0, 1, 2, 59, 60000000, 9223372036854775806, 9223372036854775807]
theorem nine_wf (i : Nat) (x : Int) (h : nine[i]? = some x) : (Lit.int .i64 x).wf = true := by
  have := List.mem_of_getElem? h
  simp only [nine, List.mem_cons, List.not_mem_nil, or_false] at this
  rcases this with rfl | rfl | rfl | rfl | rfl | rfl | rfl | rfl | rfl <;> decide

set_option maxRecDepth 100000 in
set_option maxHeartbeats 4000000 in
theorem law_known (w : World) : Calls Try.prog 6 #[] w fun e w' => e = .returned (.bool true) ∧ Ext w w' := by
  go_enter Try.func6, Try.ntmps6
  go_wp2_with fail
  refine wp_gen (fun W => Blk W w.heap.size (nine.map (Value.int .i64)) 2 ∧ Ext w W) ⟨(Blk.new w [.int .i64 (-9223372036854775808), .int .i64 (-1), .int .i64 0, .int .i64 1, .int .i64 2, .int .i64 59, .int .i64 60000000, .int .i64 9223372036854775806, .int .i64 9223372036854775807] _).congr rfl, (Ext.refl _).alloc _⟩ ?_
  rintro W0 ⟨hb0, hx0⟩
  go_loopw [4] (fun i W => ∃ n : Nat, n ≤ 9 ∧ i = .int .i64 n ∧ Blk W w.heap.size (nine.map (Value.int .i64)) 2 ∧ Ext w W) (fun i _ => 9 - (intOf i).toNat)
  case atStart => exact ⟨0, by omega, rfl, hb0, hx0⟩
  case round =>
    clear hb0 hx0
    obtain ⟨i, hi, rfl, hb1, hx1⟩ := hrel
    by_cases hi9 : i < 9
    · have hd9 : (i : Int) < 9 := by omega
      go_wp2_with fail
      obtain ⟨wo, hwo⟩ : ∃ wo, wo = wr := ⟨_, rfl⟩
      have Hwo := Lib.hid hwo
      clear hwo
      go_loopw [5] (fun k W => ∃ n : Nat, n ≤ 9 ∧ k = .int .i64 n ∧ Blk W w.heap.size (nine.map (Value.int .i64)) 2 ∧ Ext w W) (fun k _ => 9 - (intOf k).toNat)
      case atStart => exact ⟨0, by omega, rfl, hb1, hx1⟩
      case round =>
        clear hb1 hx1
        obtain ⟨k, hk, rfl, hb, hx⟩ := hrel
        by_cases hk9 : k < 9
        · obtain ⟨x, hx1⟩ : ∃ x, nine[i]? = some x := ⟨nine[i]'(by simpa [nine] using hi9), by simp⟩
          obtain ⟨y, hy1⟩ : ∃ x, nine[k]? = some x := ⟨nine[k]'(by simpa [nine] using hk9), by simp⟩
          obtain ⟨r, hr⟩ : ∃ r, (i + k) % 9 = r := ⟨_, rfl⟩
          have hr9 : r < 9 := by omega
          have hr9i : (r : Int) < 9 := by omega
          obtain ⟨z, hz1⟩ : ∃ x, nine[r]? = some x := ⟨nine[r]'(by simpa [nine] using hr9), by simp⟩
          have cx : (nine.map (Value.int .i64))[i]? = some (.int .i64 x) := by simp [hx1]
          have cy : (nine.map (Value.int .i64))[k]? = some (.int .i64 y) := by simp [hy1]
          have cz : (nine.map (Value.int .i64))[r]? = some (.int .i64 z) := by simp [hz1]
          have wx := nine_wf i x hx1
          have wy := nine_wf k y hy1
          have wz := nine_wf r z hz1
          have hkb : Bytes [(i : Int), k, 0, 0, 0, 0, 0, 0, 0, 0, 0, 0, 0, 0, 0, 0] := fun c hc => by
            simp only [List.mem_cons, List.not_mem_nil, or_false] at hc
            rcases hc with rfl | rfl | rfl | rfl | rfl | rfl | rfl | rfl | rfl | rfl | rfl | rfl | rfl | rfl | rfl | rfl <;> exact ⟨by omega, by omega⟩
          have D1 := Lib.hid fun W => law_of_any [(i : Int), k, 0, 0, 0, 0, 0, 0, 0, 0, 0, 0, 0, 0, 0, 0] rfl hkb ⟨#[97, 46, 116, 105, 109, 101, 114]⟩ (by decide) x wx W
          have D2 := Lib.hid fun W => law_around_any x y z wx wy wz W
          have D3 := Lib.hid fun (r t m c : Int) w2 w3 w5 w6 W => law_alike_any [(i : Int), k, 0, 0, 0, 0, 0, 0, 0, 0, 0, 0, 0, 0, 0, 0] rfl ⟨#[]⟩ (by decide) r t y m c w2 w3 wy w5 w6 W
          simp only [nums8, List.map_cons, List.map_nil] at D1 D3
          have ht : ((i : Int) + (k : Int)).tmod 9 = (r : Int) := by rw [← hr]; rfl
          have hir : (i : Int) + k ≤ 18 := by omega
          clear hx1 hy1 hz1 hkb hr wx wy wz
          have wk16 : (Lit.int .u16 (k : Int)).wf = true := by simp [Lit.wf, IntKind.min, IntKind.max, IntKind.signed, IntKind.bits]; omega
          have wk32 : (Lit.int .u32 (k : Int)).wf = true := by simp [Lit.wf, IntKind.min, IntKind.max, IntKind.signed, IntKind.bits]; omega
          have wi32 : (Lit.int .u32 (i : Int)).wf = true := by simp [Lit.wf, IntKind.min, IntKind.max, IntKind.signed, IntKind.bits]; omega
          have WK16 := Lib.hid wk16
          have WK32 := Lib.hid wk32
          have WI32 := Lib.hid wi32
          clear wk16 wk32 wi32
          go_wp2_with fail
          refine wp_gen (fun W => Blk W wr.heap.size [.int .u8 (i : Int), .int .u8 (k : Int), .int .u8 0, .int .u8 0, .int .u8 0, .int .u8 0, .int .u8 0, .int .u8 0, .int .u8 0, .int .u8 0, .int .u8 0, .int .u8 0, .int .u8 0, .int .u8 0, .int .u8 0, .int .u8 0] 23 ∧ Blk W w.heap.size (nine.map (Value.int .i64)) 2 ∧ Ext w W) ⟨Blk.new _ _ _, hb.alloc _, hx.alloc _⟩ ?_
          clear hb hx
          rintro W1 ⟨hK, hb, hx⟩
          have e0 : ∀ W', Ext W1 W' → W'.cell? ⟨wr.heap.size, 0, none⟩ = some (.int .u8 (i : Int)) := fun W' h => (hK.ext h).cell 0 rfl
          have e1 : ∀ W', Ext W1 W' → W'.cell? ⟨wr.heap.size, 1, none⟩ = some (.int .u8 (k : Int)) := fun W' h => (hK.ext h).cell 1 rfl
          have e2 : ∀ W', Ext W1 W' → W'.cell? ⟨wr.heap.size, 2, none⟩ = some (.int .u8 0) := fun W' h => (hK.ext h).cell 2 rfl
          have e3 : ∀ W', Ext W1 W' → W'.cell? ⟨wr.heap.size, 3, none⟩ = some (.int .u8 0) := fun W' h => (hK.ext h).cell 3 rfl
          have e4 : ∀ W', Ext W1 W' → W'.cell? ⟨wr.heap.size, 4, none⟩ = some (.int .u8 0) := fun W' h => (hK.ext h).cell 4 rfl
          have e5 : ∀ W', Ext W1 W' → W'.cell? ⟨wr.heap.size, 5, none⟩ = some (.int .u8 0) := fun W' h => (hK.ext h).cell 5 rfl
          have e6 : ∀ W', Ext W1 W' → W'.cell? ⟨wr.heap.size, 6, none⟩ = some (.int .u8 0) := fun W' h => (hK.ext h).cell 6 rfl
          have e7 : ∀ W', Ext W1 W' → W'.cell? ⟨wr.heap.size, 7, none⟩ = some (.int .u8 0) := fun W' h => (hK.ext h).cell 7 rfl
          have e8 : ∀ W', Ext W1 W' → W'.cell? ⟨wr.heap.size, 8, none⟩ = some (.int .u8 0) := fun W' h => (hK.ext h).cell 8 rfl
          have e9 : ∀ W', Ext W1 W' → W'.cell? ⟨wr.heap.size, 9, none⟩ = some (.int .u8 0) := fun W' h => (hK.ext h).cell 9 rfl
          have e10 : ∀ W', Ext W1 W' → W'.cell? ⟨wr.heap.size, 10, none⟩ = some (.int .u8 0) := fun W' h => (hK.ext h).cell 10 rfl
          have e11 : ∀ W', Ext W1 W' → W'.cell? ⟨wr.heap.size, 11, none⟩ = some (.int .u8 0) := fun W' h => (hK.ext h).cell 11 rfl
          have e12 : ∀ W', Ext W1 W' → W'.cell? ⟨wr.heap.size, 12, none⟩ = some (.int .u8 0) := fun W' h => (hK.ext h).cell 12 rfl
          have e13 : ∀ W', Ext W1 W' → W'.cell? ⟨wr.heap.size, 13, none⟩ = some (.int .u8 0) := fun W' h => (hK.ext h).cell 13 rfl
          have e14 : ∀ W', Ext W1 W' → W'.cell? ⟨wr.heap.size, 14, none⟩ = some (.int .u8 0) := fun W' h => (hK.ext h).cell 14 rfl
          have e15 : ∀ W', Ext W1 W' → W'.cell? ⟨wr.heap.size, 15, none⟩ = some (.int .u8 0) := fun W' h => (hK.ext h).cell 15 rfl
          have n0 : ∀ W', Ext W1 W' → W'.cell? ⟨w.heap.size, i, none⟩ = some (.int .i64 x) := fun W' h => (hb.ext h).cell i cx
          have n1 : ∀ W', Ext W1 W' → W'.cell? ⟨w.heap.size, k, none⟩ = some (.int .i64 y) := fun W' h => (hb.ext h).cell k cy
          have n2 : ∀ W', Ext W1 W' → W'.cell? ⟨w.heap.size, r, none⟩ = some (.int .i64 z) := fun W' h => (hb.ext h).cell r cz
          clear cx cy cz
          refine wp_region_ext (by kernel_rfl) (by kernel_rfl) ?_
          (repeat (apply quiet_onep; (case hw => rfl); (case h1 => intro W' hx; go_simp; (try go_bits); with_reducible rfl); (case hp => go_simp; first | done | with_reducible rfl)))
          (apply quiet_onep; (case hw => rfl); (case h1 => intro W' hx; go_simp; go_at_call 3; refine ((D1.out _)).mono ?_; rintro e w'' ⟨rfl, hx2⟩; exact ⟨rfl, hx.trans hx2⟩); (case hp => go_simp; first | done | with_reducible rfl))
          (repeat (apply quiet_onep; (case hw => rfl); (case h1 => intro W' hx; go_simp; (try go_bits); with_reducible rfl); (case hp => go_simp; first | done | with_reducible rfl)))
          (apply quiet_onep; (case hw => rfl); (case h1 => intro W' hx; go_simp; go_at_call 4; refine ((D2.out _)).mono ?_; rintro e w'' ⟨rfl, hx2⟩; exact ⟨rfl, hx.trans hx2⟩); (case hp => go_simp; first | done | with_reducible rfl))
          (repeat (apply quiet_onep; (case hw => rfl); (case h1 => intro W' hx; go_simp; (try go_bits); with_reducible rfl); (case hp => go_simp; first | done | with_reducible rfl)))
          (apply quiet_onep; (case hw => rfl); (case h1 => intro W' hx; go_simp; go_at_call 5; refine ((D3.out _ _ _ _ (wrap32_wf _) WK16.out WI32.out WK32.out _)).mono ?_; rintro e w'' ⟨rfl, hx2⟩; exact ⟨rfl, hx.trans hx2⟩); (case hp => go_simp; first | done | with_reducible rfl))
          (repeat (apply quiet_onep; (case hw => rfl); (case h1 => intro W' hx; go_simp; (try go_bits); with_reducible rfl); (case hp => go_simp; first | done | with_reducible rfl)))
          refine wpQuiet_nil ?_
          intro W2 hx2
          have hb2 := hb.ext hx2
          have hxx := hx.trans hx2
          clear e0 e1 e2 e3 e4 e5 e6 e7 e8 e9 e10 e11 e12 e13 e14 e15 n0 n1 n2 D1 D2 D3 hK hb hx hx2 ht
          go_wp2_with fail
          go_roundw
          case rel => first | exact ⟨k + 1, by omega, by go_num, hb2, hxx⟩ | ((repeat apply Exists.intro); exact ⟨⟨k + 1, by omega, by go_num, hb2, hxx⟩, rfl⟩)
          case measure => simp [intOf]; omega
        · go_wp2_with fail
          go_roundw
          case rel => first | exact ⟨i + 1, by omega, by go_num, hb, hx⟩ | ((repeat apply Exists.intro); exact ⟨⟨i + 1, by omega, by go_num, hb, hx⟩, rfl⟩)
          case measure => simp [intOf]; omega
    · go_wp2_with fail
      refine (works_calls _).mono ?_
      rintro e w2 ⟨rfl, x2⟩
      go_wp2_with fail
      go_ret
      exact ⟨rfl, hx1.trans x2⟩
end Go.Proofs.Ytdhldigbaapboaa
