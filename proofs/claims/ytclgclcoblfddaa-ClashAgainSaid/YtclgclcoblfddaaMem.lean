/- Rows of ints and of slices of ints in memory. -/
import Derived.Test.YtclgclcoblfddaaRowLaw
import Derived.Test.YtclgclcoblfddaaOwn
import Derived.Test.YtclgclcoblfddaaMix
import Derived.Lib.Hide
import Derived.IntWalk
import Derived.Test.YtclgclcoblfddaaProg
import Derived.WalkKit
import Derived.Handy
import Derived.LoopN
import Derived.BigQuiet
import Derived.Deep.RegionWith
import Derived.StillTailTactics
import Derived.Deep.LoopGhost
import Derived.Deep.QuietTactic
import Derived.Deep.CutBlock
import Derived.WalkSpells
namespace Go.Proofs.Ytclgclcoblfddaa
open Go.RowKit
set_option linter.unusedVariables false
set_option linter.unusedSimpArgs false

def ints (l : List Int) : List Value := l.map (Value.int .i64)
theorem ints_length (l : List Int) : (ints l).length = l.length := by simp [ints]
theorem ints_get (l : List Int) (i : Nat) : (ints l)[i]? = l[i]?.map (Value.int .i64) := by simp [ints]
theorem ints_append (a b : List Int) : ints (a ++ b) = ints a ++ ints b := by simp [ints]
def RdV (W : World) (A : Option Addr) (vs : List Value) : Prop := vs = [] ∨ ∃ b o, A = some ⟨b, o, none⟩ ∧ ∀ j v, vs[j]? = some v → W.cell? ⟨b, o + j, none⟩ = some v
theorem RdV.ext {W W' : World} {A : Option Addr} {vs : List Value} (h : RdV W A vs) (hx : Ext W W') : RdV W' A vs := by
  rcases h with h | ⟨b, o, rfl, h⟩
  · exact .inl h
  · exact .inr ⟨b, o, rfl, fun j v hv => hx.cell (h j v hv)⟩
theorem RdV.but {g : Nat} {W W' : World} {A : Option Addr} {vs : List Value} (h : RdV W A vs) (hx : But g W W') (hA : ∀ a, A = some a → a.block ≠ g) : RdV W' A vs := by
  rcases h with h | ⟨b, o, rfl, h⟩
  · exact .inl h
  · exact .inr ⟨b, o, rfl, fun j v hv => by
      have h1 := h j v hv
      have hlt := World.block_lt_of_cell? W _ h1
      have := hx.block b hlt (hA _ rfl)
      unfold World.cell? at h1 ⊢
      simp only at h1 ⊢
      rw [this]
      exact h1⟩
/-- A place that is read: its slice has an address. -/
theorem RdV.at {W : World} {A : Option Addr} {vs : List Value} (h : RdV W A vs) {i : Nat} (hi : i < vs.length) : ∃ b o, A = some ⟨b, o, none⟩ ∧ ∀ j v, vs[j]? = some v → W.cell? ⟨b, o + j, none⟩ = some v := by
  rcases h with h | h
  · rw [h] at hi; simp at hi
  · exact h
/-- A row of a table. -/
structure Row where
  A : Option Addr
  cap : Nat
  xs : List Int
def Row.val (r : Row) : Value := .slice r.A r.xs.length r.cap
/-- A table of rows of ints that reads so. -/
def RdR (W : World) (A : Option Addr) (rs : List Row) : Prop :=
  RdV W A (rs.map Row.val) ∧ ∀ r ∈ rs, RdV W r.A (ints r.xs)
theorem RdR.ext {W W' : World} {A : Option Addr} {rs : List Row} (h : RdR W A rs) (hx : Ext W W') : RdR W' A rs := ⟨h.1.ext hx, fun r hr => (h.2 r hr).ext hx⟩
theorem RdR.at {W : World} {A : Option Addr} {rs : List Row} (h : RdR W A rs) {i : Nat} (hi : i < rs.length) :
    ∃ b o B cap xs, A = some ⟨b, o, none⟩ ∧ rs[i]? = some ⟨B, cap, xs⟩ ∧ W.cell? ⟨b, o + i, none⟩ = some (.slice B xs.length cap) ∧ RdV W B (ints xs) := by
  obtain ⟨b, o, hA, hc⟩ := h.1.at (i := i) (by simpa using hi)
  have he : rs[i]? = some rs[i] := List.getElem?_eq_getElem hi
  generalize hr : rs[i] = r at he
  obtain ⟨B, cap, xs⟩ := r
  refine ⟨b, o, B, cap, xs, hA, he, hc i _ (by rw [List.getElem?_map, he]; rfl), ?_⟩
  exact h.2 ⟨B, cap, xs⟩ (List.mem_of_getElem? he)
def rows (rs : List Row) : List (List Int) := rs.map Row.xs
theorem rows_length (rs : List Row) : (rows rs).length = rs.length := by simp [rows]
theorem rows_get (rs : List Row) (i : Nat) : (rows rs)[i]? = rs[i]?.map Row.xs := by simp [rows]
theorem results_cell {P : Program} {fn : Func} {p : Tmp} {T : TypeId} (h : fn.results = #[.cell p T]) (tmps : Array Value) (w : World) {g : Nat} {cs : List Value} {T' : TypeId}
    (hp : tmps.getD p undef = .pointer (some ⟨g, 0, none⟩)) (hT : isRowT P T cs.length) (hb : Blk w g cs T') : (results fn tmps).run P w = .ok (.agg cs.toArray) w := by
  have hp' : tmps[p]?.getD undef = .pointer (some ⟨g, 0, none⟩) := by simpa using hp
  simp [results, h, hp', asAddr, run_loadVar_blk hT hb]

end Go.Proofs.Ytclgclcoblfddaa
