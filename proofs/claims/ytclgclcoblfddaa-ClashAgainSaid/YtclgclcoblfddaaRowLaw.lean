/- Whole arrays and structs by value, out of and into a block known whole: no cell by itself. -/
import Derived.Test.YtclgclcoblfddaaQuiet
import Derived.Laws.Rows
import Derived.Laws.Tables
namespace Go.Proofs.Ytclgclcoblfddaa
open Go.RowKit
set_option linter.unusedVariables false
section
variable {P : Program}

def isRowT (P : Program) (T : TypeId) (n : Nat) : Prop := (match P.underlying T with | some (.struct _) => true | some (.array _ _) => true | _ => false) = true ∧ (P.info? T).map (·.size) = some n

theorem isRowT.parts {T : TypeId} {n : Nat} (h : isRowT P T n) : (∃ fs, P.underlying T = some (.struct fs)) ∨ ∃ n e, P.underlying T = some (.array n e) := by
  obtain ⟨h1, _⟩ := h
  cases hq : P.underlying T with
  | none => simp [hq] at h1
  | some d =>
    rw [hq] at h1
    cases d <;> simp_all

theorem run_loadVar_blk {w : World} {g : Nat} {cs : List Value} {T T' : TypeId} (hT : isRowT P T cs.length) (hb : Blk w g cs T') : (loadVar T ⟨g, 0, none⟩).run P w = .ok (.agg cs.toArray) w := by
  rcases hT.parts with ⟨fs, hu⟩ | ⟨n, e, hu⟩
  · exact run_loadVar_row w g T' T cs.toArray (0, 0) _ hb hu rfl (by simpa using hT.2)
  · exact run_loadVar_row w g T' T cs.toArray (0, 0) _ hb hu rfl (by simpa using hT.2)
theorem run_loadAt_blk {w : World} {g : Nat} {cs : List Value} {T T' : TypeId} (hT : isRowT P T cs.length) (hb : Blk w g cs T') : (Instr.loadAt T (.pointer (some ⟨g, 0, none⟩))).run P w = .ok (.agg cs.toArray) w := by
  simp only [Instr.loadAt, Instr.sureAddr, Sem.run_bind, Sem.run_pure, Result.andThen]
  exact run_loadVar_blk hT hb

/-- A whole row read. -/
theorem wpList_load_blk {w : World} {ops : Array Oper} {rest : List Oper} {o : Oper} {a : Act} {Q : Exit → Act → World → Prop} (hw : Region.wanted o (yielded ops a.tmps) = true) (T : TypeId) (x : Operand) (ho : o.op = .load T x)
    (g : Nat) (hx : a.eval x = .pointer (some ⟨g, 0, none⟩)) {cs : List Value} {T' : TypeId} (hT : isRowT P T cs.length) (hb : Blk w g cs T')
    (h : wpList P ops Q rest (a.put o.dst (.agg cs.toArray)) w) : wpList P ops Q (o :: rest) a w := by
  unfold wpList
  rw [if_pos hw]
  refine .inl ?_
  rcases hT.parts with ⟨fs, hu⟩ | ⟨n, e, hu⟩
  · exact wp_load_row T x ho g hx T' cs.toArray (0, 0) _ hb hu rfl (by simpa using hT.2) h
  · exact wp_load_row T x ho g hx T' cs.toArray (0, 0) _ hb hu rfl (by simpa using hT.2) h

theorem quietAt_load_blk {W : World} {C : World → Prop} {a : Act} {o : Oper} {T T' : TypeId} {x : Operand} (ho : o.op = .load T x) {g : Nat} {cs : List Value} (hx : a.eval x = .pointer (some ⟨g, 0, none⟩)) (hT : isRowT P T cs.length) (hb : Blk W g cs T') :
    Oper.quietAt P o a C W (.agg cs.toArray) := by
  refine quietAt_value ?_
  simp only [execOp, ho, hx, Sem.run_bind, run_loadAt_blk hT hb, Result.andThen]
  rfl

/-- A whole row written. -/
theorem wpList_store_blk {w : World} {ops : Array Oper} {rest : List Oper} {o : Oper} {a : Act} {Q : Exit → Act → World → Prop} (hgd : o.guard = none) (T : TypeId) (x y : Operand) (ho : o.op = .store T x y)
    (g : Nat) (hx : a.eval x = .pointer (some ⟨g, 0, none⟩)) (cs : List Value) (hy : a.eval y = .agg cs.toArray) {cs' : List Value} {T' : TypeId} (hb : Blk w g cs' T') (hT : isRowT P T cs.length) (hl : cs'.length = cs.length) (h1 : cs.all (·.oneCell') = true)
    (h : ∀ W, Blk W g cs T' → But g w W → wpList P ops Q rest (a.put o.dst undef) W) : wpList P ops Q (o :: rest) a w := by
  refine wpList_store_row hgd T x y ho g cs.toArray hx hy T' cs'.toArray hb (by simpa using hT.2) (by simpa using hl) (by simpa using h1) (h _ ?_ ?_)
  · exact setRow_heap w g _ _ T' _ hb
  · exact ⟨rfl, rfl, rfl, by simp [World.setRow], fun k hk hg => setRow_other w g k _ hg⟩
theorem results_cell_tmp {fn : Func} {p q : Tmp} {T : TypeId} (h : fn.results = #[.cell p T, .tmp q]) (tmps : Array Value) (w : World) {g : Nat} {cs : List Value} {T' : TypeId} {v : Value}
    (hp : tmps.getD p undef = .pointer (some ⟨g, 0, none⟩)) (hT : isRowT P T cs.length) (hb : Blk w g cs T') (hq : tmps.getD q undef = v) :
    (results fn tmps).run P w = .ok (.tuple #[.agg cs.toArray, v]) w := by
  have hp' : tmps[p]?.getD undef = .pointer (some ⟨g, 0, none⟩) := by simpa using hp
  have hq' : tmps[q]?.getD undef = v := by simpa using hq
  simp [results, h, hp', hq', asAddr, run_loadVar_blk hT hb]
end
end Go.Proofs.Ytclgclcoblfddaa
