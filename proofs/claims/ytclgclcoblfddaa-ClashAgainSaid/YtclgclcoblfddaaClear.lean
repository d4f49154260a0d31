/- Some cells of a block cleared. -/
import Derived.Test.YtclgclcoblfddaaTable
import Derived.Test.YtclgclcoblfddaaSetCells
import Derived.Lib.SliceRun
namespace Go.Proofs.Ytclgclcoblfddaa
open Go.RowKit
set_option linter.unusedVariables false
set_option linter.unusedSimpArgs false
theorem Blk.cellOf {W : World} {g : Nat} {cs : List Value} {T : TypeId} (h : Blk W g cs T) {i : Nat} (hi : i < cs.length) : W.cell? ⟨g, i, none⟩ = some cs[i] := h.cell i (List.getElem?_eq_getElem hi)
theorem grown_ext {a W W' : World} {r : Option Nat} (h : a.grownBy W r) (hx : Ext W W') : a.grownBy W' r := h.trans ⟨hx.os, hx.tape, hx.output, hx.size, fun k hk _ => hx.block k hk⟩
theorem grown_set {a W : World} {g : Nat} (h : a.grownBy W (some g)) (i : Nat) (u : Value) : a.grownBy (W.setCell ⟨g, i, none⟩ u) (some g) :=
  h.trans ⟨rfl, rfl, rfl, by simp [World.setCell], fun k _ hk => Below.heap_setCell _ _ _ _ (fun e => hk (by rw [e]))⟩
theorem run_clear_blk {w : World} {t e ty : TypeId} {z : Value} (ht : Try.prog.underlying t = some (.slice e)) (hz : ∀ w, (zeroValue e).run Try.prog w = .ok z w) (h1 : ∀ u ∈ z.cells.toList, u.oneCell' = true)
    {g off n c : Nat} {cs : List Value} {T : TypeId} (hn : 0 < n) (hb : Blk w g cs T) (hfit : off + n * z.cells.size ≤ cs.length) :
    ∃ w' cs', (Builtin.clear_ #[t] ty #[.slice (some ⟨g, off, none⟩) n c]).run Try.prog w = .ok (.tuple #[]) w' ∧ Blk w' g cs' T ∧ cs'.length = cs.length ∧ cs'.take off = cs.take off ∧ w.grownBy w' (some g) := by
  have hzl : (Builtin.zeroCells z.cells n).toList.length = n * z.cells.size := by simp [Builtin.zeroCells]
  have hmem : ∀ v ∈ (Builtin.zeroCells z.cells n).toList, v.oneCell' = true := by
    intro v hv
    unfold Builtin.zeroCells at hv
    simp only [Array.toList_map, Array.toList_range, List.mem_map, List.mem_range] at hv
    obtain ⟨i, hi, rfl⟩ := hv
    have hs : 0 < z.cells.size := by
      rcases Nat.eq_zero_or_pos z.cells.size with h | h
      · rw [h] at hi; simp at hi
      · exact h
    have hlt : i % z.cells.size < z.cells.size := Nat.mod_lt _ hs
    rw [getElem!_pos z.cells _ hlt]
    exact h1 _ (Array.getElem_mem_toList hlt)
  have hst := run_storeCells_cells (P := Try.prog) g off (Builtin.zeroCells z.cells n).toList 0 w (fun j hj => by
    rw [hzl] at hj
    rw [Nat.add_zero, hb.cellOf (by omega)]; rfl) (fun j hj => by have hb0 : w.heap[g]? = some (.cells cs.toArray T) := hb; simp [World.frozen?, hb0]) hmem
  simp only [Nat.add_zero] at hst
  obtain ⟨m, rfl⟩ : ∃ m, n = m + 1 := ⟨n - 1, by omega⟩
  have hbk := setCells_blk (Builtin.zeroCells z.cells (m + 1)).toList off w cs hb (by rw [hzl]; exact hfit)
  obtain ⟨s1, s2, s3, s4⟩ := setCells_same g (Builtin.zeroCells z.cells (m + 1)).toList off w
  refine ⟨_, _, by simp [Builtin.clear_, run_underlying ht, hz, hst], hbk, ?_, ?_, ⟨s1, s2, s3, by rw [s4]; exact Nat.le_refl _, fun k _ hk => setCells_far _ _ k (fun he => hk (by rw [he]))⟩⟩
  · simp only [List.length_append, List.length_take, List.length_drop, hzl]; omega
  · have hl : (cs.take off).length = off := by simp; omega
    rw [List.append_assoc, List.take_append_of_le_length (by omega), List.take_of_length_le (by omega)]
theorem wpList_clear {w : World} {ops : Array Oper} {rest : List Oper} {o : Oper} {a : Act} {Q : Exit → Act → World → Prop} (hg : o.guard = none) (s : Operand) (t : TypeId)
    (hop : o.op = Op.call { callee := Callee.builtin Builtin.clear, args := #[s], argTypes := #[t] }) {e : TypeId} {z : Value} (ht : Try.prog.underlying t = some (.slice e)) (hz : ∀ w, (zeroValue e).run Try.prog w = .ok z w) (h1 : ∀ u ∈ z.cells.toList, u.oneCell' = true)
    {g off n c : Nat} {cs : List Value} {T : TypeId} (hs : a.eval s = .slice (some ⟨g, off, none⟩) n c) (hn : 0 < n) (hb : Blk w g cs T) (hfit : off + n * z.cells.size ≤ cs.length)
    (hK : ∀ w' cs', Blk w' g cs' T → cs'.length = cs.length → cs'.take off = cs.take off → w.grownBy w' (some g) → wpList Try.prog ops Q rest (a.put o.dst (.tuple #[])) w') :
    wpList Try.prog ops Q (o :: rest) a w := by
  refine wpList_plain hg fun K' hK' => ?_
  obtain ⟨w', cs', hrun, r1, r2, r3, r4⟩ := run_clear_blk (ty := o.type) (c := c) ht hz h1 hn hb hfit
  unfold Oper.wp
  simp [execOp, hop, resolve, invoke, builtin, hs, hrun, Result.andThen]
  exact hK' _ _ (hK w' cs' r1 r2 r3 r4)
end Go.Proofs.Ytclgclcoblfddaa
