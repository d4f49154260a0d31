/- Small laws: cells beside a store, rows grown, make([][]int, n). -/
import Derived.Test.YtdpfppibbnjemaaTable
namespace Go.Proofs.Ytdpfppibbnjemaa
open Go.RowKit
set_option linter.unusedVariables false
set_option linter.unusedSimpArgs false
theorem cell_set_other {W : World} {a p : Addr} {v : Value} (h : p.block ≠ a.block) : (W.setCell a v).cell? p = W.cell? p := by
  unfold World.cell? World.setCell
  simp only
  rw [Array.getElem?_modify, if_neg (fun e => h e.symm)]
theorem Grown.after_alloc {W W1 : World} {o : Obj} {row : Option Nat} (h : (W.alloc o).grownBy W1 row) : W.grownBy W1 row :=
  have k := World.grownBy_alloc W o row
  ⟨h.os.trans k.os, h.tape.trans k.tape, h.output.trans k.output, Nat.le_trans k.size h.size, fun i hi hne => (h.block i (Nat.lt_of_lt_of_le hi k.size) hne).trans (k.block i hi hne)⟩
theorem Grown.after_ext {W W' W1 : World} {row : Option Nat} (k : Ext W W') (h : W'.grownBy W1 row) : W.grownBy W1 row :=
  ⟨h.os.trans k.os, h.tape.trans k.tape, h.output.trans k.output, Nat.le_trans k.size h.size, fun i hi hne => (h.block i (Nat.lt_of_lt_of_le hi k.size) hne).trans (k.block i hi)⟩
theorem But.grown' {g : Nat} {a b c : World} {row : Option Nat} (h : But g a b) (k : b.grownBy c row) (hr : ∀ j, row = some j → a.heap.size ≤ j) : But g a c :=
  ⟨k.os.trans h.os, k.tape.trans h.tape, k.output.trans h.output, Nat.le_trans h.size k.size, fun i hi hne => (k.block i (Nat.lt_of_lt_of_le hi h.size) (fun e => by have := hr i e.symm; omega)).trans (h.block i hi hne)⟩
theorem But.cell' {g q o : Nat} {a b : World} {v : Value} (h : But g a b) (hc : a.cell? ⟨q, o, none⟩ = some v) (hne : q ≠ g) : b.cell? ⟨q, o, none⟩ = some v := by
  have hlt := World.block_lt_of_cell? a _ hc
  have := h.block q hlt hne
  unfold World.cell? at hc ⊢
  simp only at hc ⊢
  rw [this]
  exact hc
theorem Grown.cell1 {W W1 : World} {B : Option Addr} {n c q j : Nat} {u : Value} (h : W.grownBy W1 (Value.slice B n c).ownBlock) (hc : W.cell? ⟨q, j, none⟩ = some u) (hq : ∀ a, B = some a → a.block ≠ q) : W1.cell? ⟨q, j, none⟩ = some u :=
  h.cell hc (by
    cases B with
    | none => simp [Value.ownBlock]
    | some ad =>
      intro e
      have : q = ad.block := by simpa [Value.ownBlock] using e
      exact hq ad rfl this.symm)
theorem infoInt : (Try.prog.info? 3).map (fun i => (i.zero, i.size, i.bytes)) = some (some (.int .i64 0), 1, 8) := by kernel_rfl
theorem infoRow : (Try.prog.info? 37).map (fun i => (i.zero, i.size, i.bytes)) = some (some (.slice none 0 0), 1, 24) := by kernel_rfl
theorem madeCells_one (v : Value) (n : Nat) (h : v.cells = #[v]) : madeCells v.cells n = (List.replicate n v).toArray := by
  rw [h]
  unfold madeCells
  apply Array.ext
  · simp
  · intro i h1 h2
    simp [Nat.mod_one]
/-- make([][]int, n). -/
theorem make_rows (n : Nat) (hn : n ≤ 1000000) (W : World) : (Instr.makeSlice 29 (.int .i64 n) (.int .i64 n)).run Try.prog W = .ok (.slice (some ⟨W.heap.size, 0, none⟩) n n) (W.alloc (.cells (List.replicate n (Value.slice none 0 0)).toArray 37)) := by
  obtain ⟨i, hi, hz, hsz, hby⟩ := info_parts infoRow
  rw [run_makeSlice W 29 37 i _ Try.underlying29 hi hz .i64 .i64 n n (by omega) (by omega) (by rw [hsz]; simp; omega) (by rw [hby]; omega) (by omega)]
  rw [hsz, Nat.mul_one, Int.toNat_natCast]
  rw [madeCells_one (.slice none 0 0) n rfl]

end Go.Proofs.Ytdpfppibbnjemaa
