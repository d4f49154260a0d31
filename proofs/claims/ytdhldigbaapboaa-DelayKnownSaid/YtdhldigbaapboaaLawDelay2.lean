/- Chapter 18: usec.Add, delay.Around. -/
import Derived.Test.YtdhldigbaapboaaLawDelay
namespace Go.Proofs.Ytdhldigbaapboaa
open Go.RowKit
set_option linter.unusedVariables false
set_option linter.unusedSimpArgs false

theorem minus_calls (a : Int) (w : World) (h1 : -9223372036854775808 ≤ a) (h2 : a ≤ 9223372036854775807) :
    Calls Try.prog 23 #[.int .i64 a] w fun e w' => e = .returned (.int .u64 (if a < 0 then 1 else 0)) ∧ w' = w := by
  by_cases h : a < 0
  · have h3 : IntKind.u64.wrap a / 9223372036854775808 = 1 := by
      rw [IntKind.wrap_u64]
      omega
    rw [if_pos h]
    go_enter Try.func23, Try.ntmps23
    go_wp2
    go_ret
    exact ⟨rfl, rfl⟩
  · have h3 : a / 9223372036854775808 = 0 := by omega
    rw [if_neg h]
    go_enter Try.func23, Try.ntmps23
    go_wp2
    go_ret
    exact ⟨rfl, rfl⟩

theorem told_yes (a : Int) (w : World) : Calls Try.prog 22 #[.int .i64 a, .bool true] w fun e w' => e = .returned (.tuple #[.int .i64 a, .bool true]) ∧ w' = w := by
  go_enter Try.func22, Try.ntmps22
  go_wp2
  go_ret2
  exact ⟨rfl, rfl⟩
theorem told_no (a : Int) (w : World) : Calls Try.prog 22 #[.int .i64 a, .bool false] w fun e w' => e = .returned (.tuple #[.int .i64 0, .bool false]) ∧ w' = w := by
  go_enter Try.func22, Try.ntmps22
  go_wp2
  go_ret2
  exact ⟨rfl, rfl⟩

theorem add_yes (a b : Int) (w : World) (h1 : 0 ≤ a) (h2 : 0 ≤ b) (h3 : a + b ≤ 9223372036854775807) :
    Calls Try.prog 17 #[.int .i64 a, .int .i64 b] w fun e w' => e = .returned (.tuple #[.int .i64 (a + b), .bool true]) ∧ w' = w := by
  have ma := Lib.hid fun W => minus_calls a W (by omega) (by omega)
  have mb := Lib.hid fun W => minus_calls b W (by omega) (by omega)
  have mc := Lib.hid fun W => minus_calls (a + b) W (by omega) (by omega)
  rw [if_neg (show ¬ a < 0 by omega)] at ma
  rw [if_neg (show ¬ b < 0 by omega)] at mb
  rw [if_neg (show ¬ a + b < 0 by omega)] at mc
  go_enter Try.func17, Try.ntmps17
  go_wp2_with fail
  refine (ma.out _).mono ?_
  rintro e w' ⟨rfl, rfl⟩
  go_wp2_with fail
  refine (mb.out _).mono ?_
  rintro e w' ⟨rfl, rfl⟩
  go_wp2_with fail
  refine (mc.out _).mono ?_
  rintro e w' ⟨rfl, rfl⟩
  go_wp2_with fail
  refine (ma.out _).mono ?_
  rintro e w' ⟨rfl, rfl⟩
  go_wp2_with fail
  refine (told_yes _ _).mono ?_
  rintro e w' ⟨rfl, rfl⟩
  go_wp2_with fail
  go_ret2
  exact ⟨rfl, rfl⟩

theorem add_no (a b : Int) (w : World) (h1 : 0 ≤ a) (h2 : 0 ≤ b) (h3 : 9223372036854775807 < a + b) (h4 : a ≤ 9223372036854775807) (h5 : b ≤ 9223372036854775807) :
    Calls Try.prog 17 #[.int .i64 a, .int .i64 b] w fun e w' => e = .returned (.tuple #[.int .i64 0, .bool false]) ∧ w' = w := by
  obtain ⟨c, hc⟩ : ∃ c, wrap64 (a + b) = c := ⟨_, rfl⟩
  have hc1 : -9223372036854775808 ≤ c ∧ c < 0 := by subst hc; unfold wrap64; omega
  obtain ⟨hc1, hc2⟩ := hc1
  have ma := Lib.hid fun W => minus_calls a W (by omega) (by omega)
  have mb := Lib.hid fun W => minus_calls b W (by omega) (by omega)
  have mc := Lib.hid fun W => minus_calls c W (by omega) (by omega)
  rw [if_neg (show ¬ a < 0 by omega)] at ma
  rw [if_neg (show ¬ b < 0 by omega)] at mb
  rw [if_pos (show c < 0 by omega)] at mc
  go_enter Try.func17, Try.ntmps17
  go_wp2_with fail
  refine (ma.out _).mono ?_
  rintro e w' ⟨rfl, rfl⟩
  go_wp2_with fail
  refine (mb.out _).mono ?_
  rintro e w' ⟨rfl, rfl⟩
  go_wp2_with fail
  refine (mc.out _).mono ?_
  rintro e w' ⟨rfl, rfl⟩
  go_wp2_with fail
  refine (ma.out _).mono ?_
  rintro e w' ⟨rfl, rfl⟩
  go_wp2_with fail
  refine (told_no _ _).mono ?_
  rintro e w' ⟨rfl, rfl⟩
  go_wp2_with fail
  go_ret2
  exact ⟨rfl, rfl⟩

/-- Whether a window fits. -/
def fits (d l c : Int) : Bool := decide (0 ≤ d) && decide (0 ≤ l) && decide (0 ≤ c) && decide (d + l ≤ 9223372036854775807) && decide (d + l + c ≤ 9223372036854775807)

theorem around_yes (d l c : Int) (w : World) (h1 : 0 ≤ d) (h2 : 0 ≤ l) (h3 : 0 ≤ c) (h4 : d + l + c ≤ 9223372036854775807) :
    Calls Try.prog 10 #[.int .i64 d, .int .i64 l, .int .i64 c] w fun e w' => e = .returned (.tuple #[.agg #[.int .i64 (d + l), .int .i64 (d + l + c)], .bool true]) ∧ Ext w w' := by
  obtain ⟨m, hm⟩ : ∃ m, (if l < d then l else d) = m := ⟨_, rfl⟩
  have hm0 : 0 ≤ m := by rw [← hm]; split <;> omega
  obtain ⟨m2, hm2⟩ : ∃ m2, (if c < m then c else m) = m2 := ⟨_, rfl⟩
  have hm3 : 0 ≤ m2 := by rw [← hm2]; split <;> omega
  have A1 := Lib.hid fun W => add_yes d l W h1 h2 (by omega)
  have A2 := Lib.hid fun W => add_yes (d + l) c W (by omega) h3 h4
  go_enter Try.func10, Try.ntmps10
  go_wp2_with fail
  refine (A1.out _).mono ?_
  rintro e w' ⟨rfl, rfl⟩
  go_wp2_with fail
  refine (A2.out _).mono ?_
  rintro e w' ⟨rfl, rfl⟩
  go_wp2_with fail
  refine bodyPost_ret (v := .tuple #[.agg #[.int .i64 (d + l), .int .i64 (d + l + c)], .bool true]) ?_ rfl ⟨rfl, ?_⟩
  · simp [results, Try.results10, go_sem]
  · exact (Ext.refl _).alloc _

theorem around_no (d l c : Int) (w : World) (d1 : d ≤ 9223372036854775807) (l1 : l ≤ 9223372036854775807) (c1 : c ≤ 9223372036854775807) (h : d < 0 ∨ l < 0 ∨ c < 0 ∨ 9223372036854775807 < d + l ∨ 9223372036854775807 < d + l + c) :
    Calls Try.prog 10 #[.int .i64 d, .int .i64 l, .int .i64 c] w fun e w' => e = .returned (.tuple #[.agg #[.int .i64 0, .int .i64 0], .bool false]) ∧ Ext w w' := by
  obtain ⟨m, hm⟩ : ∃ m, (if l < d then l else d) = m := ⟨_, rfl⟩
  obtain ⟨m2, hm2⟩ : ∃ m2, (if c < m then c else m) = m2 := ⟨_, rfl⟩
  by_cases hn : d < 0 ∨ l < 0 ∨ c < 0
  · have hm3 : m2 < 0 := by
      rw [← hm2, ← hm]
      split <;> split at * <;> omega
    clear h hn
    go_enter Try.func10, Try.ntmps10
    go_wp2_with fail
    refine bodyPost_ret (v := .tuple #[.agg #[.int .i64 0, .int .i64 0], .bool false]) ?_ rfl ⟨rfl, ?_⟩
    · simp [results, Try.results10, go_sem]
    · exact (Ext.refl _).alloc _
  · have hm0 : 0 ≤ m := by rw [← hm]; split <;> omega
    have hm3 : 0 ≤ m2 := by rw [← hm2]; split <;> omega
    by_cases h4 : d + l ≤ 9223372036854775807
    · have A1 := Lib.hid fun W => add_yes d l W (by omega) (by omega) h4
      have A2 := Lib.hid fun W => add_no (d + l) c W (by omega) (by omega) (by omega) h4 c1
      clear h hn
      go_enter Try.func10, Try.ntmps10
      go_wp2_with fail
      refine (A1.out _).mono ?_
      rintro e w' ⟨rfl, rfl⟩
      go_wp2_with fail
      refine (A2.out _).mono ?_
      rintro e w' ⟨rfl, rfl⟩
      go_wp2_with fail
      refine bodyPost_ret (v := .tuple #[.agg #[.int .i64 0, .int .i64 0], .bool false]) ?_ rfl ⟨rfl, ?_⟩
      · simp [results, Try.results10, go_sem]
      · exact (Ext.refl _).alloc _
    · have A1 := Lib.hid fun W => add_no d l W (by omega) (by omega) (by omega) d1 l1
      have A2 := Lib.hid fun W => add_yes 0 c W (by omega) (by omega) (by omega)
      clear h hn
      go_enter Try.func10, Try.ntmps10
      go_wp2_with fail
      refine (A1.out _).mono ?_
      rintro e w' ⟨rfl, rfl⟩
      go_wp2_with fail
      refine (A2.out _).mono ?_
      rintro e w' ⟨rfl, rfl⟩
      go_wp2_with fail
      refine bodyPost_ret (v := .tuple #[.agg #[.int .i64 0, .int .i64 0], .bool false]) ?_ rfl ⟨rfl, ?_⟩
      · simp [results, Try.results10, go_sem]
      · exact (Ext.refl _).alloc _

theorem eqWin (a b c d : Int) (w : World) : Sem.run Try.prog (binOp .eql 31 (.agg #[.int .i64 a, .int .i64 b]) (.agg #[.int .i64 c, .int .i64 d])) w = .ok (.bool (a == c && b == d)) w := by
  have u3 := Try.underlying2
  have a3 := Try.isAgg2
  have z3 := Try.sizeOf2
  have hS : Try.prog.underlying 31 = some (.struct (Try.prog.fieldsOf 31)) := by kernel_rfl
  have hp : Try.prog.stoodInHeld 31 = false := by kernel_rfl
  rw [run_eql_struct, show (10000 : Nat) = 9999 + 1 from rfl, run_equalIn_agg w 9999 31 _ _ hS hp]
  simp only [Program.fieldsOf, Try.underlying31]
  go_simp
  by_cases h1 : a = c <;> by_cases h2 : b = d <;> simp [h1, h2]

set_option maxHeartbeats 1000000 in
theorem works_calls (w : World) : Calls Try.prog 7 #[] w fun e w' => e = .returned (.bool true) ∧ Ext w w' := by
  have A1 := Lib.hid fun W => around_yes 10 5 3 W (by omega) (by omega) (by omega) (by omega)
  have A2 := Lib.hid fun W => around_no 9223372036854775807 1 0 W (by omega) (by omega) (by omega) (by omega)
  have A3 := Lib.hid fun W => of_zero [1, 0, 0, 0, 0, 0, 0, 0, 0, 0, 0, 0, 0, 0, 0, 0] rfl ⟨#[120]⟩ 0 (by omega) W
  have A4 := Lib.hid fun W => of_pos [2, 0, 0, 0, 0, 0, 0, 0, 0, 0, 0, 0, 0, 0, 0, 0] rfl ⟨#[121]⟩ (by decide) 1 (by omega) (by omega) W
  rw [show ∀ S : Int, S % 1 = 0 by omega] at A4
  simp only [nums8, List.map_cons, List.map_nil] at A3 A4
  have he := eqWin
  have hg : Try.prog.eqGuardType Try.prog.depth 31 = false := by kernel_rfl
  go_enter Try.func7, Try.ntmps7
  go_wp2_with fail
  refine (A1.out _).mono ?_
  rintro e w1 ⟨rfl, x1⟩
  go_wp2_with fail
  refine (A2.out _).mono ?_
  rintro e w2 ⟨rfl, x2⟩
  go_wp2_with fail
  refine (A3.out _).mono ?_
  rintro e w3 ⟨rfl, x3⟩
  replace x3 := (x2.alloc _).trans x3
  have c0 : w3.cell? ⟨w1.heap.size, 0, none⟩ = some (.int .i64 15) := ((Blk.new w1 [.int .i64 15, .int .i64 18] _).ext x3).cell 0 rfl
  have c1 : w3.cell? ⟨w1.heap.size, 1, none⟩ = some (.int .i64 18) := ((Blk.new w1 [.int .i64 15, .int .i64 18] _).ext x3).cell 1 rfl
  go_wp2_with fail
  refine (A4.out _).mono ?_
  rintro e w4 ⟨rfl, x4⟩
  replace c0 := x4.cell c0
  replace c1 := x4.cell c1
  go_wp2_with fail
  go_ret
  exact ⟨rfl, ((x1.alloc _).trans x3).trans x4⟩
end Go.Proofs.Ytdhldigbaapboaa
