/- What a call owns and grows: the kit's laws of append beside the class 'the world has grown'. -/
import Derived.Test.YtclgclcoblfddaaRowLaw
import Derived.OwnWalk
import Derived.Laws.AppendOwn
namespace Go.Proofs.Ytclgclcoblfddaa
open Go.RowKit
set_option linter.unusedVariables false

theorem Grown.toExt {w0 w w' : World} {row : Option Nat} (h : Ext w0 w) (hg : w.grownBy w' row) (hrow : ∀ k, row = some k → w0.heap.size ≤ k) : Ext w0 w' :=
  ⟨hg.os.trans h.os, hg.tape.trans h.tape, hg.output.trans h.output, Nat.le_trans h.size hg.size, fun i hi => (hg.block i (Nat.lt_of_lt_of_le hi h.size) (fun e => by have := hrow i e.symm; omega)).trans (h.block i hi)⟩
theorem Grown.blk {w w' : World} {row : Option Nat} (hg : w.grownBy w' row) {g : Nat} {cs : List Value} {T : TypeId} (hb : Blk w g cs T) (hne : some g ≠ row) : Blk w' g cs T := (hg.block g hb.lt hne).trans hb
theorem Grown.heap {w w' : World} {row : Option Nat} (hg : w.grownBy w' row) {g : Nat} {o : Obj} (hb : w.heap[g]? = some o) (hne : some g ≠ row) : w'.heap[g]? = some o := (hg.block g (Array.getElem?_eq_some_iff.1 hb).1 hne).trans hb
theorem Ext.grown {w w' : World} (h : Ext w w') : w.grownBy w' none := ⟨h.os, h.tape, h.output, h.size, fun k hk _ => h.block k hk⟩
theorem Owns.ext {w w' : World} {base : Nat} {e : TypeId} {size : Nat} {v : Value} {n : Nat} {xs : List Value} (h : w.ownsRow base e size v n xs) (hx : Ext w w') : w'.ownsRow base e size v n xs :=
  h.kept (Ext.grown hx) (by cases hv : v.ownBlock <;> simp)
theorem But.grown {w w' : World} {g : Nat} (h : But g w w') : w.grownBy w' (some g) := ⟨h.os, h.tape, h.output, h.size, fun k hk hne => h.block k hk (by intro e; exact hne (by rw [e]))⟩
theorem Owns.but {w w' : World} {base : Nat} {e : TypeId} {size : Nat} {v : Value} {n : Nat} {xs : List Value} {g : Nat} (h : w.ownsRow base e size v n xs) (hx : But g w w') (hg : g < base) : w'.ownsRow base e size v n xs :=
  h.kept (But.grown hx) (by
    cases hv : v.ownBlock with
    | none => exact .inl rfl
    | some k =>
      refine .inr (fun e => ?_)
      cases e
      have := (h.lt _ hv).1
      omega)
theorem Owns.set {w : World} {base : Nat} {e : TypeId} {size : Nat} {v : Value} {n : Nat} {xs : List Value} {g : Nat} (h : w.ownsRow base e size v n xs) (i : Nat) (u : Value) (hg : g < base) : (w.setCell ⟨g, i, none⟩ u).ownsRow base e size v n xs :=
  Owns.but h ((But.refl g w).set i u) hg
/-- A row that is owned reads as its cells (elements of one cell). -/
theorem Owns.shape {w : World} {base : Nat} {e : TypeId} {v : Value} {n : Nat} {xs : List Value} (h : w.ownsRow base e 1 v n xs) : ∃ A cap, v = .slice A n cap ∧ n ≤ cap ∧ xs.length = n ∧ (xs = [] ∧ A = none ∨ ∃ g, A = some ⟨g, 0, none⟩ ∧ base ≤ g ∧ ∀ j u, xs[j]? = some u → w.cell? ⟨g, j, none⟩ = some u) := by
  obtain ⟨hl, h⟩ := h
  rw [Nat.mul_one] at hl
  rcases h with ⟨rfl, rfl⟩ | ⟨g, cap, cur, rfl, hb, hg, hn, _, hs, ht⟩
  · exact ⟨none, 0, rfl, Nat.le_refl _, hl, .inl ⟨List.eq_nil_of_length_eq_zero hl, rfl⟩⟩
  · refine ⟨_, cap, rfl, hn, hl, .inr ⟨g, rfl, hb, fun j u hu => ?_⟩⟩
    rw [cell_of_row w g j cur e (0, 0) hg]
    rw [← ht, List.getElem?_take] at hu
    split at hu
    · simpa using hu
    · cases hu
/-- A row that is owned and not empty: its block. -/
theorem Owns.blk {w : World} {base : Nat} {e : TypeId} {v : Value} {n : Nat} {xs : List Value} (h : w.ownsRow base e 1 v n xs) (hn : 0 < n) : ∃ g cap rest, v = .slice (some ⟨g, 0, none⟩) n cap ∧ base ≤ g ∧ n ≤ cap ∧ xs.length = n ∧ Blk w g (xs ++ rest) e := by
  obtain ⟨hl, h⟩ := h
  rw [Nat.mul_one] at hl
  rcases h with ⟨rfl, rfl⟩ | ⟨g, cap, cur, rfl, hb, hg, hn', _, hs, ht⟩
  · omega
  · refine ⟨g, cap, cur.toList.drop n, rfl, hb, hn', hl, ?_⟩
    rw [Nat.mul_one] at ht
    rw [← ht, List.take_append_drop]
    exact hg
/-- 'append(out, x)', x of one cell in a block of its own. -/
theorem wpList_append1 {P : Program} {w : World} {ops : Array Oper} {rest : List Oper} {o : Oper} {a : Act} {Q : Exit → Act → World → Prop} (hgd : o.guard = none) (s x : Operand) (t : TypeId)
    (ho : o.op = .call { callee := .builtin .append, args := #[s, x], argTypes := #[t, t] })
    (base : Nat) (e : TypeId) (i : TypeInfo) (z : Value) (bytes : Nat) (ht : P.underlying t = some (.slice e)) (hi : P.info? e = some i) (hz : i.zero = some z)
    (hsize : i.size = 1) (hby : i.bytes = bytes) (hzs : z.cells.size = 1)
    (v : Value) (n : Nat) (xs : List Value) (hs : a.eval s = v) (hown : w.ownsRow base e 1 v n xs)
    (g c : Nat) (u : Value) (hx : a.eval x = .slice (some ⟨g, 0, none⟩) 1 c) (hc : w.cell? ⟨g, 0, none⟩ = some u) (h1 : u.oneCell' = true)
    (h63 : n + 1 ≤ maxLen) (hbytes : (n + 1) * bytes ≤ 140737488355328) (hbase : base ≤ w.heap.size)
    (h : ∀ v' w', w'.ownsRow base e 1 v' (n + 1) (xs ++ [u]) → w.grownBy w' v.ownBlock → wpList P ops Q rest (a.put o.dst v') w') : wpList P ops Q (o :: rest) a w := by
  refine wpList_append_own w hgd s x t ho base e i z 1 bytes ht hi hz hsize hby hzs (by decide) v n xs hs hown ⟨g, 0, none⟩ 1 c [u] hx rfl ?_ ?_ h63 hbytes hbase (fun v' w' h2 h3 _ => h v' w' h2 h3)
  · intro j y hj
    cases j with
    | zero =>
      cases hj
      exact hc
    | succ j => cases hj
  · intro y hy
    rw [List.mem_singleton.1 hy]
    exact h1
theorem Owns.notNil {w : World} {base : Nat} {e : TypeId} {size : Nat} {v : Value} {n : Nat} {xs : List Value} (h : w.ownsRow base e size v n xs) : ∀ k, v.ownBlock = some k → base ≤ k := fun k hk => (h.lt k hk).1
theorem Blk.newAt (W : World) (cs : List Value) (T : TypeId) (n : Nat) (h : n = W.heap.size) : Blk (W.alloc (.cells cs.toArray T)) n cs T := h ▸ Blk.new W cs T
end Go.Proofs.Ytclgclcoblfddaa
