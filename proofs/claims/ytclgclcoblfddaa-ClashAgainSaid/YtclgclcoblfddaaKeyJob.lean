/- Jobs as keys of maps. -/
import Derived.Test.YtclgclcoblfddaaGMap
namespace Go.Proofs.Ytclgclcoblfddaa
open Go.RowKit
set_option linter.unusedVariables false

def encJ (p : Int × Int) : Value := .agg #[.int .i64 p.1, .int .u8 p.2]
theorem chk_int (e : Bool) (d : Nat) (T : TypeId) (k k' : IntKind) (u : Int) (W : World) (h : Try.prog.underlying T = some (.int k')) : (Instr.checkKey e (d + 1) T (.int k u)).run Try.prog W = .ok () W := by
  rw [Instr.checkKey]
  simp only [Sem.run_bind, run_underlying h, Result.andThen_ok]
  rfl
theorem chkJob (e : Bool) (p : Int × Int) (W : World) : (Instr.checkKey e 10000 32 (encJ p)).run Try.prog W = .ok () W := by
  have u3 := Try.underlying3
  have u5 := Try.underlying5
  have a3 := Try.isAgg3
  have a5 := Try.isAgg5
  have z3 := Try.sizeOf3
  have z5 := Try.sizeOf5
  obtain ⟨u, t⟩ := p
  rw [show (10000 : Nat) = 9998 + 1 + 1 from rfl, Instr.checkKey]
  simp only [Sem.run_bind, run_underlying Try.underlying32, Result.andThen_ok, encJ]
  rw [← Array.forIn_toList]
  simp only [List.forIn_cons, List.forIn_nil]
  go_simp
  simp only [chk_int _ _ _ _ _ _ _ u3, chk_int _ _ _ _ _ _ _ u5]
  rfl
theorem eqJob (x y : Int × Int) (W : World) : (Op.equal 32 (encJ x) (encJ y)).run Try.prog W = .ok (decide (x = y)) W := by
  have u3 := Try.underlying3
  have u5 := Try.underlying5
  have a3 := Try.isAgg3
  have a5 := Try.isAgg5
  have z3 := Try.sizeOf3
  have z5 := Try.sizeOf5
  have hS : Try.prog.underlying 32 = some (.struct (Try.prog.fieldsOf 32)) := by kernel_rfl
  have hp : Try.prog.stoodInHeld 32 = false := by kernel_rfl
  obtain ⟨u, t⟩ := x
  obtain ⟨v, s⟩ := y
  unfold Op.equal Op.maxDepth encJ
  rw [show (10000 : Nat) = 9999 + 1 from rfl, run_equalIn_struct W 9999 _ _ _ hS hp]
  simp only [Program.fieldsOf, Try.underlying32]
  go_simp
  by_cases h1 : u = v <;> by_cases h2 : t = s <;> simp [h1, h2]
theorem keyJob : KeyT 32 encJ where
  chk e x W := chkJob e x W
  eq x y W := eqJob x y W
  now := ⟨_, Try.underlying32, .inr fun x y => rfl⟩
  bits x := by obtain ⟨u, t⟩ := x; simp [Instr.sameBits, encJ]
end Go.Proofs.Ytclgclcoblfddaa
