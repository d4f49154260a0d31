/- A struct read by value out of cells that are known, wherever they lie. -/
import Derived.Test.YtdpfppibbnjemaaRowLaw
import Derived.Shelf.SlicesQ.Load
namespace Go.Proofs.Ytdpfppibbnjemaa
open Go.RowKit
set_option linter.unusedVariables false
section
variable {P : Program}
/-- The cells from an address on. -/
def Rng (w : World) (b off : Nat) (cs : List Value) : Prop := ∀ i v, cs[i]? = some v → w.cell? ⟨b, off + i, none⟩ = some v
theorem Rng.ext {w W : World} {b off : Nat} {cs : List Value} (h : Rng w b off cs) (hx : Ext w W) : Rng W b off cs := fun i v hv => hx.cell (h i v hv)
theorem Blk.rng {w : World} {g : Nat} {cs : List Value} {T : TypeId} (h : Blk w g cs T) (off : Nat) : Rng w g off (cs.drop off) := fun i v hv => h.cell (off + i) (by rw [List.getElem?_drop] at hv; exact hv)
theorem Rng.take {w : World} {b off : Nat} {cs : List Value} (h : Rng w b off cs) (n : Nat) : Rng w b off (cs.take n) := fun i v hv => h i v (by rw [List.getElem?_take] at hv; split at hv; exact hv; cases hv)
theorem run_loadVar_rng {w : World} {b off : Nat} {cs : List Value} {T : TypeId} (hT : isRowT P T cs.length) (hc : Rng w b off cs) : (loadVar T ⟨b, off, none⟩).run P w = .ok (.agg cs.toArray) w := by
  have hl : (loadCells ⟨b, off, none⟩ cs.length).run P w = .ok cs.toArray w :=
    run_loadCells_list (P := P) w ⟨b, off, none⟩ cs (fun j v hv => by
      have hadd : (⟨b, off, none⟩ : Addr).add j = ⟨b, off + j, none⟩ := by unfold Addr.add; split <;> simp_all
      rw [hadd]
      exact hc j v hv)
  obtain ⟨h1, h2⟩ := hT
  cases hq : P.info? T with
  | none => simp [hq] at h2
  | some i =>
    have hs : i.size = cs.length := by simpa [hq] using h2
    have hu : ∃ d, P.underlying T = some d := by
      cases hd : P.underlying T with
      | none => rw [hd] at h1; cases h1
      | some d => exact ⟨d, rfl⟩
    obtain ⟨d, hu⟩ := hu
    have hagg : (isAgg T).run P w = .ok true w := by
      unfold isAgg
      rw [Sem.run_bind, run_underlying hu w]
      rw [hu] at h1
      cases d <;> simp_all [Result.andThen]
    simp [loadVar, Sem.run_bind, hagg, sizeOf, typeInfo, hq, hs, hl]
theorem run_loadAt_rng {w : World} {b off : Nat} {cs : List Value} {T : TypeId} (hT : isRowT P T cs.length) (hc : Rng w b off cs) : (Instr.loadAt T (.pointer (some ⟨b, off, none⟩))).run P w = .ok (.agg cs.toArray) w := by
  simp only [Instr.loadAt, Instr.sureAddr, Sem.run_bind, Sem.run_pure, Result.andThen]
  exact run_loadVar_rng hT hc
theorem wpList_load_rng {w : World} {ops : Array Oper} {rest : List Oper} {o : Oper} {a : Act} {Q : Exit → Act → World → Prop} (hgd : o.guard = none) (T : TypeId) (x : Operand) (ho : o.op = .load T x)
    (b off : Nat) (hx : a.eval x = .pointer (some ⟨b, off, none⟩)) {cs : List Value} (hT : isRowT P T cs.length) (hc : Rng w b off cs)
    (h : wpList P ops Q rest (a.put o.dst (.agg cs.toArray)) w) : wpList P ops Q (o :: rest) a w :=
  wpList_plain hgd fun K hK => by
    unfold Oper.wp execOp
    simp only [ho, hx, Sem.run_bind, run_loadAt_rng hT hc, Result.andThen_ok]
    exact hK _ _ h
theorem exec_load_rng {W : World} {a : Act} {o : Oper} {T : TypeId} {x : Operand} (ho : o.op = .load T x) {b off : Nat} (hx : a.eval x = .pointer (some ⟨b, off, none⟩)) {cs : List Value} (hT : isRowT P T cs.length) (hc : Rng W b off cs) :
    (execOp a.eval o).run P W = .ok (.value (.agg cs.toArray)) W := by
  simp only [execOp, ho, hx, Sem.run_bind, run_loadAt_rng hT hc, Result.andThen]
  rfl
end
end Go.Proofs.Ytdpfppibbnjemaa
