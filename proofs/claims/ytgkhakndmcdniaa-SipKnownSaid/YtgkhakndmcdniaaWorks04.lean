/- Chapter 4: the law's helper 'works'. -/
import Derived.Test.YtgkhakndmcdniaaEqArr
import Derived.Test.YtgkhakndmcdniaaOwn
namespace Go.Proofs.Ytgkhakndmcdniaa
open Go.RowKit
set_option linter.unusedVariables false
set_option linter.unusedSimpArgs false

def upto (n : Nat) : List Int := (List.range n).map Int.ofNat
theorem keyOf_lit : keyOf (bytesOf ⟨#[48, 48, 48, 49, 48, 50, 48, 51, 48, 52, 48, 53, 48, 54, 48, 55, 48, 56, 48, 57, 48, 65, 48, 98, 48, 99, 48, 100, 48, 101, 48, 102, 10]⟩) = some (upto 16) := by decide +kernel
theorem keyOf_00 : keyOf (bytesOf ⟨#[48, 48]⟩) = none := by decide +kernel
theorem sum_lit : sipSum (upto 16) (upto 15) = 11613035633349379557 := by decide +kernel
theorem info8p : (Try.prog.info? 5).map (fun i => (i.zero, i.size, i.bytes)) = some (some (.int .u8 0), 1, 1) := by kernel_rfl

theorem upto_succ (n : Nat) : upto (n + 1) = upto n ++ [(n : Int)] := by simp [upto, List.range_succ]
theorem upto_length (n : Nat) : (upto n).length = n := by simp [upto]
theorem nums8_append (a b : List Int) : nums8 (a ++ b) = nums8 a ++ nums8 b := by simp [nums8]
theorem head_set (K : List Int) (i : Nat) (h : K = upto i ++ List.replicate (16 - i) 0) (hi : i < 16) : K.set i i = upto (i + 1) ++ List.replicate (16 - (i + 1)) 0 := by
  subst h
  obtain ⟨m, hm⟩ : ∃ m, 16 - i = m + 1 := ⟨15 - i, by omega⟩
  rw [List.set_append_right i _ (by rw [upto_length]; omega), upto_length, Nat.sub_self, hm, show 16 - (i + 1) = m by omega, upto_succ]
  simp [List.replicate_succ]

set_option maxRecDepth 100000 in
set_option maxHeartbeats 4000000 in
theorem works_calls (w : World) : Calls Try.prog 8 #[] w fun e w' => e = .returned (.bool true) ∧ Ext w w' := by
  obtain ⟨i0, hi, hz0, hz1, hz2⟩ := info_parts info8p
  go_enter Try.func8, Try.ntmps8
  go_wp2_with fail
  refine wp_gen (fun W => Blk W w.heap.size (nums8 zero16) 23 ∧ Ext w W) ⟨(Blk.new w (nums8 zero16) _).congr rfl, (Ext.refl _).alloc _⟩ ?_
  rintro W0 ⟨hb0, hx0⟩
  go_loopw [2, 3] (fun v i W => ∃ k K, k ≤ 16 ∧ i = .int .i64 (k : Nat) ∧ K = upto k ++ List.replicate (16 - k) 0 ∧ Blk W w.heap.size (nums8 K) 23 ∧ Ext w W ∧ w.heap.size < W.heap.size ∧ W.ownsRow (w.heap.size + 1) 5 1 v (min k 15) (nums8 (upto (min k 15)))) (fun v i _ => 16 - (intOf i).toNat)
  case atStart => exact ⟨0, _, by omega, rfl, rfl, hb0, hx0, hb0.lt, World.ownsRow_nil _ _ _ _⟩
  case round =>
    clear hb0 hx0
    obtain ⟨k, K, hk, rfl, hK, hb, hx, hsz, hown⟩ := hrel
    by_cases hlt : k < 16
    · have hlti : (k : Int) < 16 := by omega
      obtain ⟨x, hx1⟩ : ∃ x, K[k]? = some x := ⟨K[k]'(by rw [hK]; simp [upto_length]; omega), by simp⟩
      have c0 := hb.cell k (nums8_get hx1)
      have f0 := hb.frozen k
      clear hx1
      have HKK := Lib.hid (head_set K k hK hlt)
      clear hK
      go_upto_region 7 with (fail)
      refine wp_gen (fun W => Blk W w.heap.size (nums8 (K.set k k)) 23 ∧ Ext w W ∧ w.heap.size < W.heap.size ∧ W.ownsRow (w.heap.size + 1) 5 1 u2 (min k 15) (nums8 (upto (min k 15))))
        ⟨(hb.set k _).congr (nums8_set _ _ _), hx.setCell (Nat.le_refl _) _, by simpa using hsz, Owns.set hown _ _ (Nat.lt_succ_self _)⟩ ?_
      clear hb hx hsz hown c0 f0
      rintro W1 ⟨hb, hx, hsz, hown⟩
      by_cases h15 : k < 15
      · have h15i : (k : Int) < 15 := by omega
        rw [Nat.min_eq_left (by omega : k ≤ 15)] at hown
        have hc : (W1.alloc (.cells #[.int .u8 (k : Int)] 5)).cell? ⟨W1.heap.size, 0, none⟩ = some (.int .u8 (k : Int)) := (Blk.new W1 [.int .u8 (k : Int)] 5).cell 0 rfl
        have hm : k + 1 ≤ maxLen := by unfold maxLen; omega
        have HC := Lib.hid hc
        have HM := Lib.hid hm
        clear hc hm
        go_wp2_with (at_builtin; refine wpList_append1 rfl (.tmp 18) (.tmp 21) 24 rfl (w.heap.size + 1) 5 i0 (.int .u8 0) 1 Try.underlying24 hi hz0 hz1 hz2 rfl u2 k (nums8 (upto k)) rfl (hown.alloc _) W1.heap.size 1 (.int .u8 (k : Int)) rfl HC.out rfl HM.out (by omega) (by simp; omega) ?_; intro v2 W2 hown2 hg2)
        go_roundw
        case rel =>
          have hne : some w.heap.size ≠ u2.ownBlock := fun e => by have := Owns.notNil hown _ e.symm; omega
          refine ⟨k + 1, _, by omega, by go_num, HKK.out, Grown.blk hg2 (hb.alloc _) hne, Grown.toExt (hx.alloc _) hg2 (fun j hj => by have := Owns.notNil hown j hj; omega), ?_, ?_⟩
          · have := hg2.size
            simp at this
            omega
          · rw [Nat.min_eq_left (by omega : k + 1 ≤ 15), upto_succ, nums8_append]
            exact hown2
        case measure => simp [intOf]; omega
      · have h15i : ¬ (k : Int) < 15 := by omega
        go_wp2_with fail
        go_roundw
        case rel =>
          refine ⟨k + 1, _, by omega, by go_num, HKK.out, hb, hx, hsz, ?_⟩
          rw [Nat.min_eq_right (by omega : 15 ≤ k + 1)]
          rw [Nat.min_eq_right (by omega : 15 ≤ k)] at hown
          exact hown
        case measure => simp [intOf]; omega
    · obtain rfl : k = 16 := by omega
      have hK16 : K = upto 16 := by rw [hK]; rfl
      subst hK16
      rw [show min 16 15 = 15 from rfl] at hown
      obtain ⟨A, cap, rfl, hcap, hlen, hsh⟩ := Owns.shape hown
      have hrd : RdV wr A (nums8 (upto 15)) := by
        rcases hsh with ⟨h, rfl⟩ | ⟨g, rfl, _, h⟩
        · exact .inl h
        · exact .inr ⟨g, 0, rfl, fun j v e => by rw [Nat.zero_add]; exact h j v e⟩
      clear hsh hown hK
      have he := fun W => eqKey (upto 16) (upto 16) rfl rfl W
      rw [decide_eq_true rfl] at he
      have hg : Try.prog.eqGuardType Try.prog.depth 23 = false := by kernel_rfl
      have K1 := Lib.hid fun W => keyof_calls ⟨#[48, 48, 48, 49, 48, 50, 48, 51, 48, 52, 48, 53, 48, 54, 48, 55, 48, 56, 48, 57, 48, 65, 48, 98, 48, 99, 48, 100, 48, 101, 48, 102, 10]⟩ (by decide) W
      have K2 := Lib.hid fun W => keyof_calls ⟨#[48, 48]⟩ (by decide) W
      rw [keyOf_lit] at K1
      rw [keyOf_00] at K2
      simp only [Option.getD_some, Option.getD_none, Option.isSome_some, Option.isSome_none] at K1 K2
      have K3 := Lib.hid fun W hr => ssum_calls (upto 16) rfl (upto 15) A cap W hr (by decide)
      rw [sum_lit] at K3
      simp only [upto_length] at K3
      go_wp2_with fail
      refine (K1.out _).mono ?_
      rintro e W1 ⟨rfl, hx1⟩
      have hz1 : Blk (W1.alloc (.cells (nums8 zero16).toArray 23)) W1.heap.size (nums8 zero16) 23 := Blk.new _ _ _
      replace hb := hb.ext hx1
      replace hrd := hrd.ext hx1
      replace hx := hx.trans hx1
      clear hx1 hsz K1
      go_wp2_with (refine wpList_store_blk rfl 23 (.tmp 4) (.tmp 25) rfl W1.heap.size rfl (nums8 (upto 16)) rfl hz1 rowKey rfl rfl ?_; intro W2 hb4 ho2)
      have x12 : Ext W1 W2 := But.toNew ((Ext.refl _).alloc _) ho2 (Nat.le_refl _)
      refine (K2.out _).mono ?_
      rintro e W3 ⟨rfl, x23⟩
      replace hb4 := hb4.ext x23
      have x13 := x12.trans x23
      replace hb := hb.ext x13
      replace hrd := hrd.ext x13
      replace hx := hx.trans x13
      have hz3 : Blk (W3.alloc (.cells (nums8 zero16).toArray 23)) W3.heap.size (nums8 zero16) 23 := Blk.new _ _ _
      clear x12 x23 x13 hz1 ho2 K2
      go_upto_region 11 with (refine wpList_store_blk rfl 23 (.tmp 6) (.tmp 29) rfl W3.heap.size rfl (nums8 zero16) rfl hz3 rowKey rfl rfl ?_; intro W4 hb6 ho4)
      have x34 : Ext W3 W4 := But.toNew ((Ext.refl _).alloc _) ho4 (Nat.le_refl _)
      replace hb4 := hb4.ext x34
      replace hb := hb.ext x34
      replace hrd := hrd.ext x34
      replace hx := hx.trans x34
      clear x34 hz3 ho4
      obtain ⟨g4, hg4⟩ : ∃ g, W1.heap.size = g := ⟨_, rfl⟩
      rw [hg4] at hb4 ⊢
      clear hg4
      go_wp2_with (first | (refine wpList_load_blk rfl 23 (.tmp 1) rfl w.heap.size rfl (cs := nums8 (upto 16)) rowKey hb ?_) | (refine wpList_load_blk rfl 23 (.tmp 4) rfl g4 rfl (cs := nums8 (upto 16)) rowKey hb4 ?_))
      refine (K3.out _ hrd).mono ?_
      rintro e W5 ⟨rfl, x45⟩
      replace hb4 := hb4.ext x45
      replace hb := hb.ext x45
      replace hx := hx.trans x45
      clear x45 hrd K3
      go_wp2_with (first | (refine wpList_load_blk rfl 23 (.tmp 1) rfl w.heap.size rfl (cs := nums8 (upto 16)) rowKey hb ?_) | (refine wpList_load_blk rfl 23 (.tmp 4) rfl g4 rfl (cs := nums8 (upto 16)) rowKey hb4 ?_))
      go_ret
      exact ⟨rfl, hx⟩
end Go.Proofs.Ytgkhakndmcdniaa
