/- Rows of one; tables of none; make([]bool, n). -/
import Derived.Test.YtclgclcoblfddaaOf
namespace Go.Proofs.Ytclgclcoblfddaa
open Go.RowKit Go.Maps Go.Lib
set_option linter.unusedVariables false
set_option linter.unusedSimpArgs false
theorem RdV.one {W : World} {b : Nat} {v0 : Value} {T : TypeId} (h : Blk W b [v0] T) : RdV W (some ⟨b, 0, none⟩) [v0] := Blk.rdv h
theorem RdJ.one {W : World} {b : Nat} {u t : Int} {T : TypeId} (h : Blk W b [.int .i64 u, .int .u8 t] T) : RdJ W (some ⟨b, 0, none⟩) [(u, t)] := .inr ⟨b, 0, rfl, fun j u t hj => by
  match j, hj with
  | 0, hj => cases hj; exact ⟨h.cell 0 rfl, h.cell 1 rfl⟩⟩
def tbNil : Tb := ⟨none, [], 0⟩
theorem tbNil_ok (W : World) : tbNil.ok W := ⟨⟨.inl rfl, fun r hr => by cases hr⟩, by decide, fun r hr => by cases hr⟩
theorem madeCells_one (v : Value) (n : Nat) (h : v.cells = #[v]) : madeCells v.cells n = (List.replicate n v).toArray := by
  rw [h]
  unfold madeCells
  apply Array.ext
  · simp
  · intro i h1 h2
    simp [Nat.mod_one]
theorem infoBool : (Try.prog.info? 4).map (fun i => (i.zero, i.size, i.bytes)) = some (some (.bool false), 1, 1) := by kernel_rfl
set_option maxRecDepth 100000 in
/-- make([]bool, n). -/
theorem make_bools (n : Nat) (hn : n ≤ 1000000) (W : World) : (Instr.makeSlice 25 (.int .i64 n) (.int .i64 n)).run Try.prog W = .ok (.slice (some ⟨W.heap.size, 0, none⟩) n n) (W.alloc (.cells (List.replicate n (Value.bool false)).toArray 4)) := by
  obtain ⟨i, hi, hz, hsz, hby⟩ := info_parts infoBool
  rw [run_makeSlice W 25 4 i _ Try.underlying25 hi hz .i64 .i64 n n (by omega) (by omega) (by rw [hsz]; simp; omega) (by rw [hby]; omega) (by omega)]
  rw [hsz, Nat.mul_one, Int.toNat_natCast]
  congr 3
  exact madeCells_one _ n rfl
end Go.Proofs.Ytclgclcoblfddaa
