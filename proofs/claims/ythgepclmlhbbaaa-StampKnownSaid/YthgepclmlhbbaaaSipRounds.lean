/- The contracts of the functions of package sip and of its reference. -/
import Derived.Test.YthgepclmlhbbaaaChecked
import Derived.Test.YthgepclmlhbbaaaQuiet
import Derived.WalkKit
import Derived.Handy
import Derived.LoopN
import Derived.BigQuiet
import Derived.Deep.RegionWith
import Derived.StillTailTactics
namespace Go.Proofs.Ythgepclmlhbbaaa
open Go.RowKit
set_option linter.unusedVariables false
set_option linter.unusedSimpArgs false

def rot (k : Nat) (x : Int) : Int := bits .or .u64 (IntKind.u64.wrap (x * 2 ^ k)) (x / 2 ^ (64 - k))
def orNum (b0 b1 b2 b3 b4 b5 b6 b7 : Int) : Int :=
  bits .or .u64 (bits .or .u64 (bits .or .u64 (bits .or .u64 (bits .or .u64 (bits .or .u64 (bits .or .u64 (bits .or .u64 0 (IntKind.u64.wrap (IntKind.u64.wrap b0))) (IntKind.u64.wrap ((IntKind.u64.wrap b1) * 256))) (IntKind.u64.wrap ((IntKind.u64.wrap b2) * 65536))) (IntKind.u64.wrap ((IntKind.u64.wrap b3) * 16777216))) (IntKind.u64.wrap ((IntKind.u64.wrap b4) * 4294967296))) (IntKind.u64.wrap ((IntKind.u64.wrap b5) * 1099511627776))) (IntKind.u64.wrap ((IntKind.u64.wrap b6) * 281474976710656))) (IntKind.u64.wrap ((IntKind.u64.wrap b7) * 72057594037927936))

set_option maxHeartbeats 1000000 in
set_option maxRecDepth 100000 in
theorem number_calls (b0 b1 b2 b3 b4 b5 b6 b7 : Int) (w : World) :
    Calls Try.prog 31 #[.agg #[.int .u8 b0, .int .u8 b1, .int .u8 b2, .int .u8 b3, .int .u8 b4, .int .u8 b5, .int .u8 b6, .int .u8 b7]] w fun e w' => e = .returned (.int .u64 (orNum b0 b1 b2 b3 b4 b5 b6 b7)) ∧ Ext w w' := by
  have i0 : ∀ w, (Instr.index 61 (.agg #[.int .u8 b0, .int .u8 b1, .int .u8 b2, .int .u8 b3, .int .u8 b4, .int .u8 b5, .int .u8 b6, .int .u8 b7]) (.int .i64 0)).run Try.prog w = .ok (.int .u8 b0) w := fun _ => by kernel_rfl
  have i1 : ∀ w, (Instr.index 61 (.agg #[.int .u8 b0, .int .u8 b1, .int .u8 b2, .int .u8 b3, .int .u8 b4, .int .u8 b5, .int .u8 b6, .int .u8 b7]) (.int .i64 1)).run Try.prog w = .ok (.int .u8 b1) w := fun _ => by kernel_rfl
  have i2 : ∀ w, (Instr.index 61 (.agg #[.int .u8 b0, .int .u8 b1, .int .u8 b2, .int .u8 b3, .int .u8 b4, .int .u8 b5, .int .u8 b6, .int .u8 b7]) (.int .i64 2)).run Try.prog w = .ok (.int .u8 b2) w := fun _ => by kernel_rfl
  have i3 : ∀ w, (Instr.index 61 (.agg #[.int .u8 b0, .int .u8 b1, .int .u8 b2, .int .u8 b3, .int .u8 b4, .int .u8 b5, .int .u8 b6, .int .u8 b7]) (.int .i64 3)).run Try.prog w = .ok (.int .u8 b3) w := fun _ => by kernel_rfl
  have i4 : ∀ w, (Instr.index 61 (.agg #[.int .u8 b0, .int .u8 b1, .int .u8 b2, .int .u8 b3, .int .u8 b4, .int .u8 b5, .int .u8 b6, .int .u8 b7]) (.int .i64 4)).run Try.prog w = .ok (.int .u8 b4) w := fun _ => by kernel_rfl
  have i5 : ∀ w, (Instr.index 61 (.agg #[.int .u8 b0, .int .u8 b1, .int .u8 b2, .int .u8 b3, .int .u8 b4, .int .u8 b5, .int .u8 b6, .int .u8 b7]) (.int .i64 5)).run Try.prog w = .ok (.int .u8 b5) w := fun _ => by kernel_rfl
  have i6 : ∀ w, (Instr.index 61 (.agg #[.int .u8 b0, .int .u8 b1, .int .u8 b2, .int .u8 b3, .int .u8 b4, .int .u8 b5, .int .u8 b6, .int .u8 b7]) (.int .i64 6)).run Try.prog w = .ok (.int .u8 b6) w := fun _ => by kernel_rfl
  have i7 : ∀ w, (Instr.index 61 (.agg #[.int .u8 b0, .int .u8 b1, .int .u8 b2, .int .u8 b3, .int .u8 b4, .int .u8 b5, .int .u8 b6, .int .u8 b7]) (.int .i64 7)).run Try.prog w = .ok (.int .u8 b7) w := fun _ => by kernel_rfl
  go_enter Try.func31, Try.ntmps31
  go_wp2
  refine wp_loop_rounds 9 ?_
  iterate 9 (rw [rounds_succ]; go_wp2)
  go_ret
  exact ⟨rfl, (Ext.refl _).alloc _⟩

theorem rotl_calls (x n : Int) (w : World) (h : n = 13 ∨ n = 16 ∨ n = 17 ∨ n = 21 ∨ n = 32) :
    Calls Try.prog 39 #[.int .u64 x, .int .i64 n] w fun e w' => e = .returned (.int .u64 (rot n.toNat x)) ∧ w' = w := by
  have hb : bits .and .u64 13 63 = 13 := by decide
  have hb2 : bits .and .u64 16 63 = 16 := by decide
  have hb3 : bits .and .u64 17 63 = 17 := by decide
  have hb4 : bits .and .u64 21 63 = 21 := by decide
  have hb5 : bits .and .u64 32 63 = 32 := by decide
  rcases h with rfl | rfl | rfl | rfl | rfl <;> (go_enter Try.func39, Try.ntmps39; go_wp2; go_ret; exact ⟨rfl, rfl⟩)

theorem turn_calls (x n : Int) (w : World) (h : n = 13 ∨ n = 16 ∨ n = 17 ∨ n = 21 ∨ n = 32) :
    Calls Try.prog 34 #[.int .u64 x, .int .i64 n] w fun e w' => e = .returned (.int .u64 (rot n.toNat x)) ∧ ∃ q, w' = w.drewN q := by
  rcases h with rfl | rfl | rfl | rfl | rfl <;> (go_enter Try.func34, Try.ntmps34; go_wp2; go_quiet (fail); go_wp2; go_ret; exact ⟨rfl, nq, rfl⟩)

structure V4 where
  a : Int
  b : Int
  c : Int
  d : Int
def add64 (x y : Int) : Int := IntKind.u64.wrap (x + y)
def xor64 (x y : Int) : Int := bits .xor .u64 x y
def rnd (v : V4) : V4 :=
  let a1 := add64 v.a v.b
  let b1 := xor64 (rot 13 v.b) a1
  let a2 := rot 32 a1
  let c1 := add64 v.c v.d
  let d1 := xor64 (rot 16 v.d) c1
  let a3 := add64 a2 d1
  let d2 := xor64 (rot 21 d1) a3
  let c2 := add64 c1 b1
  let b2 := xor64 (rot 17 b1) c2
  let c3 := rot 32 c2
  ⟨a3, b2, c3, d2⟩
def rndN : Nat → V4 → V4
  | 0, v => v
  | n + 1, v => rnd (rndN n v)
def V4.vals (v : V4) : List Value := [.int .u64 v.a, .int .u64 v.b, .int .u64 v.c, .int .u64 v.d]


set_option maxRecDepth 100000 in
set_option maxHeartbeats 4000000 in
theorem rounds_calls (n : Nat) (hn : n ≤ 4) (v : V4) (g : Nat) (rest : List Value) (T : TypeId) (w : World) (h : Blk w g (v.vals ++ rest) T)  :
    Calls Try.prog 33 #[.pointer (some ⟨g, 0, none⟩), .int .i64 n] w fun e w' => e = .returned (.tuple #[]) ∧ Blk w' g ((rndN n v).vals ++ rest) T ∧ But g w w' := by
  go_enter Try.func33, Try.ntmps33
  go_wp2
  go_loopw [5] (fun i W => ∃ k : Nat, k ≤ n ∧ i = .int .i64 k ∧ Blk W g ((rndN k v).vals ++ rest) T ∧ But g w W) (fun i _ => n - (intOf i).toNat)
  case atStart => exact ⟨0, by omega, rfl, h, But.refl _ _⟩
  case round =>
    obtain ⟨k, hk, rfl, hb, ho⟩ := hrel
    obtain ⟨a, b, c, d, he⟩ : ∃ a b c d, rndN k v = ⟨a, b, c, d⟩ := ⟨_, _, _, _, rfl⟩
    have He : Hid (rndN k v = ⟨a, b, c, d⟩) := he
    rw [he] at hb
    clear he h
    replace hb : Blk wr g (.int .u64 a :: .int .u64 b :: .int .u64 c :: .int .u64 d :: rest) T := hb
    by_cases hlt : k < n
    · have c0 := hb.cell 0 rfl; have c1 := hb.cell 1 rfl; have c2 := hb.cell 2 rfl; have c3 := hb.cell 3 rfl; have f0 := hb.frozen 0; have f1 := hb.frozen 1; have f2 := hb.frozen 2; have f3 := hb.frozen 3
      go_wp2
      refine wp_region_drew_tail 9 (by kernel_rfl) (by kernel_rfl) ?_; simp only [List.take_succ_cons, List.take_zero, List.drop_succ_cons, List.drop_zero]; (repeat (quiet_step ((fail)))); refine wpQuiet_nil ?_; rintro _ ⟨nq, rfl⟩
      go_wp2
      refine wp_gen (fun W' => Blk W' g (.int .u64 (add64 a b) :: .int .u64 (b) :: .int .u64 (c) :: .int .u64 (d) :: rest) T ∧ But g w W') ⟨(hb |>.drewN _ |>.set 0 _).congr rfl, (ho |>.drewN _ |>.set 0 _)⟩ ?_; clear hb ho c0 c1 c2 c3 f0 f1 f2 f3; rintro W ⟨hb, ho⟩; have c0 := hb.cell 0 rfl; have c1 := hb.cell 1 rfl; have c2 := hb.cell 2 rfl; have c3 := hb.cell 3 rfl; have f0 := hb.frozen 0; have f1 := hb.frozen 1; have f2 := hb.frozen 2; have f3 := hb.frozen 3
      refine wp_region_drew_tail 11 (by kernel_rfl) (by kernel_rfl) ?_; simp only [List.take_succ_cons, List.take_zero, List.drop_succ_cons, List.drop_zero]; (repeat (quiet_step (((go_at_call 39; exact Calls.quiet_of_same (rotl_calls _ 13 _ (by decide))))))); refine wpQuiet_nil ?_; rintro _ ⟨nq, rfl⟩
      go_wp2_with (go_at_call 39; refine (rotl_calls _ 32 _ (by decide)).mono ?_; rintro e w' ⟨rfl, rfl⟩)
      refine wp_gen (fun W' => Blk W' g (.int .u64 (rot 32 (add64 a b)) :: .int .u64 (xor64 (rot 13 b) (add64 a b)) :: .int .u64 (c) :: .int .u64 (d) :: rest) T ∧ But g w W') ⟨(hb |>.drewN _ |>.set 1 _ |>.set 0 _).congr rfl, (ho |>.drewN _ |>.set 1 _ |>.set 0 _)⟩ ?_; clear hb ho c0 c1 c2 c3 f0 f1 f2 f3; rintro W ⟨hb, ho⟩; have c0 := hb.cell 0 rfl; have c1 := hb.cell 1 rfl; have c2 := hb.cell 2 rfl; have c3 := hb.cell 3 rfl; have f0 := hb.frozen 0; have f1 := hb.frozen 1; have f2 := hb.frozen 2; have f3 := hb.frozen 3
      refine wp_region_drew_tail 9 (by kernel_rfl) (by kernel_rfl) ?_; simp only [List.take_succ_cons, List.take_zero, List.drop_succ_cons, List.drop_zero]; (repeat (quiet_step ((fail)))); refine wpQuiet_nil ?_; rintro _ ⟨nq, rfl⟩
      go_wp2
      refine wp_gen (fun W' => Blk W' g (.int .u64 (rot 32 (add64 a b)) :: .int .u64 (xor64 (rot 13 b) (add64 a b)) :: .int .u64 (add64 c d) :: .int .u64 (d) :: rest) T ∧ But g w W') ⟨(hb |>.drewN _ |>.set 2 _).congr rfl, (ho |>.drewN _ |>.set 2 _)⟩ ?_; clear hb ho c0 c1 c2 c3 f0 f1 f2 f3; rintro W ⟨hb, ho⟩; have c0 := hb.cell 0 rfl; have c1 := hb.cell 1 rfl; have c2 := hb.cell 2 rfl; have c3 := hb.cell 3 rfl; have f0 := hb.frozen 0; have f1 := hb.frozen 1; have f2 := hb.frozen 2; have f3 := hb.frozen 3
      refine wp_region_drew_tail 11 (by kernel_rfl) (by kernel_rfl) ?_; simp only [List.take_succ_cons, List.take_zero, List.drop_succ_cons, List.drop_zero]; (repeat (quiet_step (((go_at_call 39; exact Calls.quiet_of_same (rotl_calls _ 16 _ (by decide))))))); refine wpQuiet_nil ?_; rintro _ ⟨nq, rfl⟩
      go_wp2
      refine wp_gen (fun W' => Blk W' g (.int .u64 (rot 32 (add64 a b)) :: .int .u64 (xor64 (rot 13 b) (add64 a b)) :: .int .u64 (add64 c d) :: .int .u64 (xor64 (rot 16 d) (add64 c d)) :: rest) T ∧ But g w W') ⟨(hb |>.drewN _ |>.set 3 _).congr rfl, (ho |>.drewN _ |>.set 3 _)⟩ ?_; clear hb ho c0 c1 c2 c3 f0 f1 f2 f3; rintro W ⟨hb, ho⟩; have c0 := hb.cell 0 rfl; have c1 := hb.cell 1 rfl; have c2 := hb.cell 2 rfl; have c3 := hb.cell 3 rfl; have f0 := hb.frozen 0; have f1 := hb.frozen 1; have f2 := hb.frozen 2; have f3 := hb.frozen 3
      obtain ⟨a2, ha2⟩ : ∃ x, rot 32 (add64 a b) = x := ⟨_, rfl⟩
      obtain ⟨b1, hb1⟩ : ∃ x, xor64 (rot 13 b) (add64 a b) = x := ⟨_, rfl⟩
      obtain ⟨e1, he1⟩ : ∃ x, add64 c d = x := ⟨_, rfl⟩
      obtain ⟨d1, hd1⟩ : ∃ x, xor64 (rot 16 d) (add64 c d) = x := ⟨_, rfl⟩
      rw [ha2, hb1, hd1, he1] at hb
      rw [ha2] at c0
      rw [hb1] at c1
      rw [he1] at c2
      rw [hd1] at c3
      have HH : Hid (rot 32 (add64 a b) = a2 ∧ xor64 (rot 13 b) (add64 a b) = b1 ∧ add64 c d = e1 ∧ xor64 (rot 16 d) (add64 c d) = d1) := ⟨ha2, hb1, he1, hd1⟩
      clear ha2 hb1 he1 hd1
      refine wp_region_drew_tail 9 (by kernel_rfl) (by kernel_rfl) ?_; simp only [List.take_succ_cons, List.take_zero, List.drop_succ_cons, List.drop_zero]; (repeat (quiet_step ((fail)))); refine wpQuiet_nil ?_; rintro _ ⟨nq, rfl⟩
      go_wp2
      refine wp_gen (fun W' => Blk W' g (.int .u64 (add64 a2 d1) :: .int .u64 (b1) :: .int .u64 (e1) :: .int .u64 (d1) :: rest) T ∧ But g w W') ⟨(hb |>.drewN _ |>.set 0 _).congr rfl, (ho |>.drewN _ |>.set 0 _)⟩ ?_; clear hb ho c0 c1 c2 c3 f0 f1 f2 f3; rintro W ⟨hb, ho⟩; have c0 := hb.cell 0 rfl; have c1 := hb.cell 1 rfl; have c2 := hb.cell 2 rfl; have c3 := hb.cell 3 rfl; have f0 := hb.frozen 0; have f1 := hb.frozen 1; have f2 := hb.frozen 2; have f3 := hb.frozen 3
      refine wp_region_drew_tail 11 (by kernel_rfl) (by kernel_rfl) ?_; simp only [List.take_succ_cons, List.take_zero, List.drop_succ_cons, List.drop_zero]; (repeat (quiet_step (((go_at_call 39; exact Calls.quiet_of_same (rotl_calls _ 21 _ (by decide))))))); refine wpQuiet_nil ?_; rintro _ ⟨nq, rfl⟩
      go_wp2
      refine wp_gen (fun W' => Blk W' g (.int .u64 (add64 a2 d1) :: .int .u64 (b1) :: .int .u64 (e1) :: .int .u64 (xor64 (rot 21 d1) (add64 a2 d1)) :: rest) T ∧ But g w W') ⟨(hb |>.drewN _ |>.set 3 _).congr rfl, (ho |>.drewN _ |>.set 3 _)⟩ ?_; clear hb ho c0 c1 c2 c3 f0 f1 f2 f3; rintro W ⟨hb, ho⟩; have c0 := hb.cell 0 rfl; have c1 := hb.cell 1 rfl; have c2 := hb.cell 2 rfl; have c3 := hb.cell 3 rfl; have f0 := hb.frozen 0; have f1 := hb.frozen 1; have f2 := hb.frozen 2; have f3 := hb.frozen 3
      refine wp_region_drew_tail 9 (by kernel_rfl) (by kernel_rfl) ?_; simp only [List.take_succ_cons, List.take_zero, List.drop_succ_cons, List.drop_zero]; (repeat (quiet_step ((fail)))); refine wpQuiet_nil ?_; rintro _ ⟨nq, rfl⟩
      go_wp2
      refine wp_gen (fun W' => Blk W' g (.int .u64 (add64 a2 d1) :: .int .u64 (b1) :: .int .u64 (add64 e1 b1) :: .int .u64 (xor64 (rot 21 d1) (add64 a2 d1)) :: rest) T ∧ But g w W') ⟨(hb |>.drewN _ |>.set 2 _).congr rfl, (ho |>.drewN _ |>.set 2 _)⟩ ?_; clear hb ho c0 c1 c2 c3 f0 f1 f2 f3; rintro W ⟨hb, ho⟩; have c0 := hb.cell 0 rfl; have c1 := hb.cell 1 rfl; have c2 := hb.cell 2 rfl; have c3 := hb.cell 3 rfl; have f0 := hb.frozen 0; have f1 := hb.frozen 1; have f2 := hb.frozen 2; have f3 := hb.frozen 3
      refine wp_region_drew_tail 11 (by kernel_rfl) (by kernel_rfl) ?_; simp only [List.take_succ_cons, List.take_zero, List.drop_succ_cons, List.drop_zero]; (repeat (quiet_step (((go_at_call 39; exact Calls.quiet_of_same (rotl_calls _ 17 _ (by decide))))))); refine wpQuiet_nil ?_; rintro _ ⟨nq, rfl⟩
      go_wp2_with (go_at_call 39; refine (rotl_calls _ 32 _ (by decide)).mono ?_; rintro e w' ⟨rfl, rfl⟩)
      go_roundw
      case rel =>
        refine ⟨k + 1, by omega, by go_num, ?_, (ho |>.drewN _ |>.set 1 _ |>.set 2 _)⟩
        obtain ⟨rfl, rfl, rfl, rfl⟩ := HH.out
        refine (hb |>.drewN _ |>.set 1 _ |>.set 2 _).congr ?_
        rw [rndN, He.out]
        rfl
      case measure => simp [intOf]; omega
    · go_wp2
      obtain rfl : k = n := by omega
      go_end0
      refine ⟨rfl, ?_, ho⟩
      rw [He.out]
      exact hb
end Go.Proofs.Ythgepclmlhbbaaa
