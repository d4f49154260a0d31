/- Chapter 18: the laws DelayAround, DelayAlike as contracts. -/
import Derived.Test.YtdhldigbaapboaaLawDelay3
namespace Go.Proofs.Ytdhldigbaapboaa
open Go.RowKit
set_option linter.unusedVariables false
set_option linter.unusedSimpArgs false

set_option maxRecDepth 100000 in
set_option maxHeartbeats 4000000 in
theorem law_around_no (d l c : Int) (w : World) (d0 : -9223372036854775808 ≤ d) (l0 : -9223372036854775808 ≤ l) (c0 : -9223372036854775808 ≤ c) (d1 : d ≤ 9223372036854775807) (l1 : l ≤ 9223372036854775807) (c1 : c ≤ 9223372036854775807) (h : d < 0 ∨ l < 0 ∨ c < 0 ∨ 9223372036854775807 < d + l ∨ 9223372036854775807 < d + l + c) :
    Calls Try.prog 4 #[.int .i64 d, .int .i64 l, .int .i64 c] w fun e w' => e = .returned (.bool true) ∧ Ext w w' := by
  have A := Lib.hid fun W => around_no d l c W d1 l1 c1 h
  have he := eqWin
  have hg : Try.prog.eqGuardType Try.prog.depth 31 = false := by kernel_rfl
  by_cases e1 : d < 0
  · clear h
    go_enter Try.func4, Try.ntmps4; go_wp2_with fail; refine (A.out _).mono ?_; rintro e w1 ⟨rfl, x1⟩; go_wp2_with fail; refine (works_calls _).mono ?_; rintro e w2 ⟨rfl, x2⟩; go_wp2_with fail; go_ret; exact ⟨rfl, (x1.alloc _).trans x2⟩
  by_cases e2 : l < 0
  · clear h
    go_enter Try.func4, Try.ntmps4; go_wp2_with fail; refine (A.out _).mono ?_; rintro e w1 ⟨rfl, x1⟩; go_wp2_with fail; refine (works_calls _).mono ?_; rintro e w2 ⟨rfl, x2⟩; go_wp2_with fail; go_ret; exact ⟨rfl, (x1.alloc _).trans x2⟩
  by_cases e3 : c < 0
  · clear h
    go_enter Try.func4, Try.ntmps4; go_wp2_with fail; refine (A.out _).mono ?_; rintro e w1 ⟨rfl, x1⟩; go_wp2_with fail; refine (works_calls _).mono ?_; rintro e w2 ⟨rfl, x2⟩; go_wp2_with fail; go_ret; exact ⟨rfl, (x1.alloc _).trans x2⟩
  by_cases e4 : 9223372036854775807 < d + l
  · have e5 : 9223372036854775807 - l < d := by omega
    clear h
    go_enter Try.func4, Try.ntmps4; go_wp2_with fail; refine (A.out _).mono ?_; rintro e w1 ⟨rfl, x1⟩; go_wp2_with fail; refine (works_calls _).mono ?_; rintro e w2 ⟨rfl, x2⟩; go_wp2_with fail; go_ret; exact ⟨rfl, (x1.alloc _).trans x2⟩
  have e5 : ¬ 9223372036854775807 - l < d := by omega
  have e6 : 9223372036854775807 - c < d + l := by omega
  clear h
  go_enter Try.func4, Try.ntmps4; go_wp2_with fail; refine (A.out _).mono ?_; rintro e w1 ⟨rfl, x1⟩; go_wp2_with fail; refine (works_calls _).mono ?_; rintro e w2 ⟨rfl, x2⟩; go_wp2_with fail; go_ret; exact ⟨rfl, (x1.alloc _).trans x2⟩

set_option maxRecDepth 100000 in
set_option maxHeartbeats 4000000 in
theorem law_around_yes (d l c : Int) (w : World) (h1 : 0 ≤ d) (h2 : 0 ≤ l) (h3 : 0 ≤ c) (h4 : d + l + c ≤ 9223372036854775807) :
    Calls Try.prog 4 #[.int .i64 d, .int .i64 l, .int .i64 c] w fun e w' => e = .returned (.bool true) ∧ Ext w w' := by
  have A := Lib.hid fun W => around_yes d l c W h1 h2 h3 h4
  go_enter Try.func4, Try.ntmps4
  go_wp2_with fail
  refine (A.out _).mono ?_
  rintro e w1 ⟨rfl, x1⟩
  go_wp2_with fail
  refine (works_calls _).mono ?_
  rintro e w2 ⟨rfl, x2⟩
  go_wp2_with fail
  go_ret
  exact ⟨rfl, (x1.alloc _).trans x2⟩
end Go.Proofs.Ytdhldigbaapboaa
