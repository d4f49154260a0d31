/- A map from int to int that a call owns, as a function. -/
import Derived.Test.YthlobpdcolgcoaaMem
import Derived.Maps.Own
import Derived.Maps.OwnOps
import Derived.Maps.OwnSet
import Derived.Maps.Views
namespace Go.Proofs.Ythlobpdcolgcoaa
open Go.RowKit Go.Maps
set_option linter.unusedVariables false
set_option linter.unusedSimpArgs false

theorem keyInt : Keyed Try.prog 3 := int_keyed Try.underlying3
theorem zeroInt (w : World) : (zeroValue 3).run Try.prog w = .ok (.int .i64 0) w := by kernel_rfl
def small (k : Int) : Prop := 0 ≤ k ∧ k < 4611686018427387904
theorem small.wf {k : Int} (h : small k) : (Lit.int .i64 k).wf = true := WalkArith.wf_i64 (n := k) (by unfold small at h; omega)
/-- Block b is a map of at most n entries that is f at all small keys. -/
def IMap (W : World) (b n : Nat) (f : Int → Option Int) : Prop :=
  ∃ D : DataW Unit, W.ownsMap Try.prog 3 (plainElem Try.prog 3) b n D ∧
    ∀ k, small k → D.atKey (.int .i64 k) (.lit (.int .i64 0)) = .lit (.int .i64 ((f k).getD 0)) ∧ Maps.has D (.int .i64 k) = (f k).isSome
theorem IMap.made (W : World) : IMap (W.alloc (.map #[] 0)) W.heap.size 0 fun _ => none :=
  ⟨.map [], World.ownsMap_made _ _ _ _, fun k hk => ⟨rfl, rfl⟩⟩
theorem IMap.kept {W W' : World} {b n : Nat} {f : Int → Option Int} {row : Option Nat} (h : IMap W b n f) (hg : W.grownBy W' row) (hne : some b ≠ row) : IMap W' b n f := by
  obtain ⟨D, h1, h2⟩ := h
  exact ⟨D, h1.kept hg hne, h2⟩
theorem IMap.ext {W W' : World} {b n : Nat} {f : Int → Option Int} (h : IMap W b n f) (hx : Ext W W') : IMap W' b n f := h.kept (Ext.grown hx) (by simp)
theorem IMap.mono {W : World} {b n m : Nat} {f : Int → Option Int} (h : IMap W b n f) (hm : n ≤ m) : IMap W b m f := by
  obtain ⟨D, h1, h2⟩ := h
  exact ⟨D, h1.mono hm, h2⟩
theorem IMap.congr {W : World} {b n : Nat} {f f' : Int → Option Int} (h : IMap W b n f) (e : ∀ k, small k → f k = f' k) : IMap W b n f' := by
  obtain ⟨D, h1, h2⟩ := h
  exact ⟨D, h1, fun k hk => by rw [← e k hk]; exact h2 k hk⟩
theorem IMap.lt {W : World} {b n : Nat} {f : Int → Option Int} (h : IMap W b n f) : b < W.heap.size := by
  obtain ⟨D, h1, h2⟩ := h
  exact h1.lt
theorem IMap.look {W : World} {b n : Nat} {f : Int → Option Int} (h : IMap W b n f) {k : Int} (hk : small k) :
    (Instr.lookup 66 (.map (some b)) (.int .i64 k) false).run Try.prog W = .ok (.int .i64 ((f k).getD 0)) W := by
  obtain ⟨D, h1, h2⟩ := h
  obtain ⟨c, hrun, hat, _⟩ := h1.lookup_int keyInt Try.underlying66 Try.underlying3 (zeroInt W) (keyOf_int_mk Try.underlying3 hk.wf)
  rw [(h2 k hk).1] at hat
  rw [hrun]
  have : c = (f k).getD 0 := by
    simp only [DataW.lit.injEq, Lit.int.injEq] at hat
    exact hat.2.symm
  rw [this]
theorem IMap.lookOk {W : World} {b n : Nat} {f : Int → Option Int} (h : IMap W b n f) {k : Int} (hk : small k) :
    (Instr.lookup 66 (.map (some b)) (.int .i64 k) true).run Try.prog W = .ok (.tuple #[.int .i64 ((f k).getD 0), .bool (f k).isSome]) W := by
  obtain ⟨D, h1, h2⟩ := h
  obtain ⟨v, ps, hrun, hv⟩ := h1.look_ok keyInt Try.underlying66 (zeroInt W) (plainElem_int Try.underlying3 (by decide)) (keyOf_int_mk Try.underlying3 hk.wf)
  rw [(h2 k hk).1] at hv
  obtain ⟨c, rfl, hc, _⟩ := plainElem_int_inv Try.underlying3 hv
  rw [hrun, (h2 k hk).2]
  have : c = (f k).getD 0 := by
    simp only [Prod.mk.injEq, DataW.lit.injEq, Lit.int.injEq] at hc
    exact hc.1.2.symm
  rw [this]
def upd (f : Int → Option Int) (k v : Int) : Int → Option Int := fun x => if x = k then some v else f x
theorem wpList_upd_int {w : World} {ops : Array Oper} {rest : List Oper} {o : Oper} {a : Act} {Q : Exit → Act → World → Prop}
    (hg : o.guard = none) (m x v : Operand) (hop : o.op = Op.mapUpdate 66 m x v) (b n : Nat) (f : Int → Option Int)
    (hm : a.eval m = .map (some b)) (hown : IMap w b n f) (hn : n < 1000000) (k c : Int) (hx : a.eval x = .int .i64 k) (hv : a.eval v = .int .i64 c) (hk : small k) (hc : small c)
    (hK : ∀ w', IMap w' b (n + 1) (upd f k c) → w.grownBy w' (some b) → wpList Try.prog ops Q rest (a.put o.dst undef) w') :
    wpList Try.prog ops Q (o :: rest) a w := by
  obtain ⟨D, h1, h2⟩ := hown
  refine wpList_mapUpdate_own w hg m x v 66 hop 3 3 keyInt Try.underlying66 (plainElem Try.prog 3) b n D hm h1 (by unfold maxLen; omega) _ _ (.int .i64 k) hx hv (keyOf_int_mk Try.underlying3 hk.wf)
    (.lit (.int .i64 c)) [] (plainElem_int Try.underlying3 hc.wf) (fun w' h3 h4 => hK w' ⟨_, h3, fun y hy => ?_⟩ h4)
  unfold upd
  by_cases e : y = k
  · subst e
    rw [if_pos rfl]
    exact ⟨atKey_put_same h1.isMap (by simp [WideAt.IsKeyLit]) _ _, has_put_same h1.isMap (by simp [WideAt.IsKeyLit]) _⟩
  · rw [if_neg e]
    have hne : (Lit.int .i64 y) ≠ Lit.int .i64 k := by
      intro h
      simp only [Lit.int.injEq] at h
      exact e h.2
    rw [atKey_put_other hne, has_put_other hne]
    exact h2 y hy
end Go.Proofs.Ythlobpdcolgcoaa
