/- Pairs of ints, '[2]int', as keys of maps. -/
import Derived.Test.YtdpfppibbnjemaaGMap
import Derived.Test.YtdpfppibbnjemaaGrow
import Derived.ChangeKeysEq
namespace Go.Proofs.Ytdpfppibbnjemaa
open Go.RowKit
set_option linter.unusedVariables false
set_option linter.unusedSimpArgs false
def encP (p : Int × Int) : Value := .agg #[.int .i64 p.1, .int .i64 p.2]
theorem equalIn_int (d : Nat) {e : TypeId} (he : Try.prog.underlying e = some (.int .i64)) (a b : Int) (w : World) : (Op.equalIn (d + 1) e (.int .i64 a) (.int .i64 b)).run Try.prog w = .ok (a == b) w := by
  simp [Op.equalIn, run_underlying he]
theorem chkP_int (e : Bool) (d : Nat) (T : TypeId) (k k' : IntKind) (u : Int) (W : World) (h : Try.prog.underlying T = some (.int k')) : (Instr.checkKey e (d + 1) T (.int k u)).run Try.prog W = .ok () W := by
  rw [Instr.checkKey]
  simp only [Sem.run_bind, run_underlying h, Result.andThen_ok]
  rfl
theorem chkPair (e : Bool) (p : Int × Int) (W : World) : (Instr.checkKey e 10000 113 (encP p)).run Try.prog W = .ok () W := by
  have u3 := Try.underlying3
  have z3 := Try.sizeOf3
  obtain ⟨i, hi, _, hsz, _⟩ := info_parts infoInt
  have hp : Try.prog.plainKey 3 = true := by kernel_rfl
  obtain ⟨a, b⟩ := p
  have p0 : ∀ W, (part 3 #[Value.int .i64 a, .int .i64 b] 0).run Try.prog W = .ok (.int .i64 a) W := fun W => run_part_plain W hp (by simp)
  have p1 : ∀ W, (part 3 #[Value.int .i64 a, .int .i64 b] 1).run Try.prog W = .ok (.int .i64 b) W := fun W => run_part_plain W hp (by simp)
  rw [show (10000 : Nat) = 9998 + 1 + 1 from rfl, Instr.checkKey]
  simp only [Sem.run_bind, run_underlying Try.underlying113, Result.andThen_ok, encP]
  simp only [Std.Legacy.Range.forIn_eq_forIn_range', Std.Legacy.Range.size, Nat.sub_zero, Nat.add_one_sub_one, Nat.div_one]
  rw [show List.range' 0 2 = [0, 1] from rfl]
  simp only [List.forIn_cons, List.forIn_nil, Sem.run_bind, z3, Result.andThen_ok, Nat.zero_mul, Nat.one_mul, p0, p1, chkP_int _ _ _ _ _ _ _ u3, Sem.run_pure]
theorem eqPair (x y : Int × Int) (W : World) : (Op.equal 113 (encP x) (encP y)).run Try.prog W = .ok (decide (x = y)) W := by
  have u3 := Try.underlying3
  obtain ⟨i, hi, _, hsz, _⟩ := info_parts infoInt
  have hp : Try.prog.plainKey 3 = true := by kernel_rfl
  have hc : Try.prog.cellsOf 3 = 1 := by kernel_rfl
  obtain ⟨a, b⟩ := x
  obtain ⟨c, d⟩ := y
  have p0 : ∀ (a b : Int) W, (part 3 #[Value.int .i64 a, .int .i64 b] 0).run Try.prog W = .ok (.int .i64 a) W := fun a b W => run_part_plain W hp (by simp)
  have p1 : ∀ (a b : Int) W, (part 3 #[Value.int .i64 a, .int .i64 b] 1).run Try.prog W = .ok (.int .i64 b) W := fun a b W => run_part_plain W hp (by simp)
  unfold Op.equal Op.maxDepth encP
  rw [show (10000 : Nat) = 9998 + 1 + 1 from rfl, run_equalIn_array W (9998 + 1) _ _ Try.underlying113 hi, hc, show List.range 2 = [0, 1] from rfl]
  by_cases h1 : a = c <;> by_cases h2 : b = d <;> simp [Op.eqItems, p0, p1, equalIn_int 9998 u3, h1, h2]
theorem keyPair : KeyT 113 encP where
  chk e x W := chkPair e x W
  eq x y W := eqPair x y W
  now := ⟨_, Try.underlying113, .inr fun x y => rfl⟩
  bits x := by obtain ⟨u, t⟩ := x; simp [Instr.sameBits, encP]
end Go.Proofs.Ytdpfppibbnjemaa
