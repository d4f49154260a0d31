/- Items in memory: rows of them read, and rows that a call owns. -/
import Derived.Test.YtclgclcoblfddaaTable
namespace Go.Proofs.Ytclgclcoblfddaa
open Go.RowKit Go.Lib
set_option linter.unusedVariables false
set_option linter.unusedSimpArgs false

structure It where
  u : Int
  t : Int
  m : Bool
/-- A slice of items that reads so. -/
def RdI (W : World) (A : Option Addr) (l : List It) : Prop := l = [] ∨ ∃ b o, A = some ⟨b, o, none⟩ ∧
  ∀ j u t m, l[j]? = some ⟨u, t, m⟩ → W.cell? ⟨b, o + j * 3, none⟩ = some (.int .i64 u) ∧ W.cell? ⟨b, o + j * 3 + 1, none⟩ = some (.int .u8 t) ∧ W.cell? ⟨b, o + j * 3 + 2, none⟩ = some (.bool m)
theorem RdI.ext {W W' : World} {A : Option Addr} {l : List It} (h : RdI W A l) (hx : Ext W W') : RdI W' A l := by
  rcases h with h | ⟨b, o, rfl, h⟩
  · exact .inl h
  · exact .inr ⟨b, o, rfl, fun j u t m e => ⟨hx.cell (h j u t m e).1, hx.cell (h j u t m e).2.1, hx.cell (h j u t m e).2.2⟩⟩
theorem RdI.at {W : World} {A : Option Addr} {l : List It} (h : RdI W A l) {i : Nat} (hi : i < l.length) :
    ∃ b o u t m, A = some ⟨b, o, none⟩ ∧ l[i]? = some ⟨u, t, m⟩ ∧ W.cell? ⟨b, o + i * 3, none⟩ = some (.int .i64 u) ∧ W.cell? ⟨b, o + i * 3 + 1, none⟩ = some (.int .u8 t) ∧ W.cell? ⟨b, o + i * 3 + 2, none⟩ = some (.bool m) := by
  rcases h with h | ⟨b, o, hA, hc⟩
  · rw [h] at hi; simp at hi
  · have he : l[i]? = some l[i] := List.getElem?_eq_getElem hi
    generalize l[i] = r at he
    obtain ⟨u, t, m⟩ := r
    exact ⟨b, o, u, t, m, hA, he, hc i u t m he⟩

theorem rowItem : isRowT Try.prog 34 3 := ⟨by kernel_rfl, by kernel_rfl⟩
def itCells (l : List It) : List Value := l.flatMap fun i => [.int .i64 i.u, .int .u8 i.t, .bool i.m]
theorem itCells_length (l : List It) : (itCells l).length = l.length * 3 := by
  induction l with
  | nil => rfl
  | cons a l ih => simp [itCells] at ih ⊢; omega
theorem itCells_get (l : List It) : ∀ (j : Nat) (u t : Int) (m : Bool), l[j]? = some ⟨u, t, m⟩ → (itCells l)[j * 3]? = some (.int .i64 u) ∧ (itCells l)[j * 3 + 1]? = some (.int .u8 t) ∧ (itCells l)[j * 3 + 2]? = some (.bool m) := by
  induction l with
  | nil => exact fun j u t m h => by cases h
  | cons a l ih =>
    intro j u t m h
    cases j with
    | zero => cases h; exact ⟨rfl, rfl, rfl⟩
    | succ j =>
      obtain ⟨h1, h2, h3⟩ := ih j u t m h
      refine ⟨?_, ?_, ?_⟩
      · rw [show (j + 1) * 3 = j * 3 + 3 by omega]; exact h1
      · rw [show (j + 1) * 3 + 1 = (j * 3 + 1) + 3 by omega]; exact h2
      · rw [show (j + 1) * 3 + 2 = (j * 3 + 2) + 3 by omega]; exact h3
theorem infoItem : (Try.prog.info? 34).map (fun i => (i.zero, i.size, i.bytes)) = some (some (.agg #[.int .i64 0, .int .u8 0, .bool false]), 3, 24) := by kernel_rfl
theorem OwnsI.rd {W : World} {base : Nat} {e : TypeId} {v : Value} {l : List It} (h : W.ownsRow base e 3 v l.length (itCells l)) : ∃ A cap, v = .slice A l.length cap ∧ l.length ≤ cap ∧ RdI W A l ∧ ∀ a, A = some a → base ≤ a.block := by
  obtain ⟨hl, hv⟩ := h
  rcases hv with ⟨rfl, h0⟩ | ⟨g, cap, cur, rfl, hb, hg, hn, hcap, hcs, htk⟩
  · exact ⟨none, 0, by rw [h0], by omega, .inl (List.eq_nil_of_length_eq_zero h0), fun a ha => by cases ha⟩
  · refine ⟨_, cap, rfl, hn, .inr ⟨g, 0, rfl, fun j u t m hj => ?_⟩, fun a ha => by cases ha; exact hb⟩
    have key : ∀ k x, (itCells l)[k]? = some x → W.cell? ⟨g, k, none⟩ = some x := fun k x hk => by
      rw [← htk, List.getElem?_take] at hk
      split at hk
      · simp only [World.cell?, hg]
        simpa using hk
      · cases hk
    obtain ⟨h1, h2, h3⟩ := itCells_get l j u t m hj
    rw [Nat.zero_add]
    exact ⟨key _ _ h1, key _ _ h2, key _ _ h3⟩
/-- append of one item. -/
theorem wpList_append_item {w : World} {ops : Array Oper} {rest : List Oper} {o : Oper} {a : Act} {Q : Exit → Act → World → Prop} (hgd : o.guard = none) (s x : Operand)
    (ho : o.op = .call { callee := .builtin .append, args := #[s, x], argTypes := #[28, 28] }) (base : Nat)
    (v : Value) (l : List It) (hs : a.eval s = v) (hown : w.ownsRow base 34 3 v l.length (itCells l))
    (g c : Nat) (i : It) (hx : a.eval x = .slice (some ⟨g, 0, none⟩) 1 c) (hc : Blk w g [.int .i64 i.u, .int .u8 i.t, .bool i.m] 34)
    (hbig : l.length ≤ 100000000) (hbase : base ≤ w.heap.size)
    (h : ∀ v' w', w'.ownsRow base 34 3 v' (l ++ [i]).length (itCells (l ++ [i])) → w.grownBy w' v.ownBlock → (∀ k, v'.ownBlock = some k → v.ownBlock = some k ∨ w.heap.size ≤ k) → wpList Try.prog ops Q rest (a.put o.dst v') w') : wpList Try.prog ops Q (o :: rest) a w := by
  obtain ⟨inf, hi, hz, hsz, hby⟩ := info_parts infoItem
  refine wpList_append_row hgd s x _ ho base _ inf _ 3 24 Try.underlying28 hi hz hsz hby rfl (by decide) v l.length (itCells l) hs hown ⟨g, 0, none⟩ 1 c [.int .i64 i.u, .int .u8 i.t, .bool i.m] hx rfl ?_ ?_ (by decide) (by unfold maxLen; omega) (by omega) hbase (fun v' w' h2 h3 h4 => h v' w' ?_ h3 h4)
  · intro j y hj
    have : (⟨g, 0, none⟩ : Addr).add j = ⟨g, j, none⟩ := by unfold Addr.add; split <;> simp_all
    rw [this]
    exact hc.cell j hj
  · intro y hy
    simp only [List.mem_cons, List.not_mem_nil, or_false] at hy
    rcases hy with rfl | rfl | rfl <;> rfl
  · have e : itCells (l ++ [i]) = itCells l ++ [.int .i64 i.u, .int .u8 i.t, .bool i.m] := by simp [itCells]
    rw [e, List.length_append]
    exact h2
end Go.Proofs.Ytclgclcoblfddaa
