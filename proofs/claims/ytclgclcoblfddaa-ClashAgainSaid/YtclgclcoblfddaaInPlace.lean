/- Rows of structs written in place: one element stored, some cleared. -/
import Derived.Test.YtclgclcoblfddaaIt
import Derived.Test.YtclgclcoblfddaaCollect
import Derived.Test.YtclgclcoblfddaaClear
namespace Go.Proofs.Ytclgclcoblfddaa
open Go.RowKit
set_option linter.unusedVariables false
set_option linter.unusedSimpArgs false
/-- Rows of elements of k cells. -/
def cellsK {α : Type} (en : α → List Value) (l : List α) : List Value := l.flatMap en
section
variable {α : Type} {en : α → List Value} {k : Nat} (hen : ∀ x, (en x).length = k)
include hen
theorem cellsK_length (l : List α) : (cellsK en l).length = l.length * k := by
  induction l with
  | nil => simp [cellsK]
  | cons a l ih =>
    have : cellsK en (a :: l) = en a ++ cellsK en l := rfl
    rw [this, List.length_append, ih, hen, List.length_cons, Nat.succ_mul]; omega
theorem cellsK_get (l : List α) {i : Nat} {x : α} (hi : l[i]? = some x) {j : Nat} {v : Value} (hj : (en x)[j]? = some v) : (cellsK en l)[i * k + j]? = some v := by
  induction l generalizing i with
  | nil => cases hi
  | cons a l ih =>
    have e : cellsK en (a :: l) = en a ++ cellsK en l := rfl
    rw [e]
    cases i with
    | zero =>
      cases hi
      rw [List.getElem?_append_left (by have := (List.getElem?_eq_some_iff.1 hj).1; omega)]
      simpa using hj
    | succ i =>
      rw [List.getElem?_append_right (by rw [hen, Nat.succ_mul]; omega), hen, show (i + 1) * k + j - k = i * k + j by rw [Nat.succ_mul]; omega]
      exact ih hi
theorem cellsK_take (l : List α) (m : Nat) : cellsK en (l.take m) = (cellsK en l).take (m * k) := by
  induction l generalizing m with
  | nil => simp [cellsK]
  | cons a l ih =>
    have e : ∀ l, cellsK en (a :: l) = en a ++ cellsK en l := fun _ => rfl
    cases m with
    | zero => simp [cellsK]
    | succ m =>
      rw [List.take_succ_cons, e, e, ih, List.take_append, hen, List.take_of_length_le (l := en a) (by rw [hen, Nat.succ_mul]; omega), show (m + 1) * k - k = m * k by rw [Nat.succ_mul]; omega]
end
theorem cellsJ_K : cellsJ = cellsK (fun p : Int × Int => [Value.int .i64 p.1, Value.int .u8 p.2]) := rfl
theorem itCells_K : itCells = cellsK (fun i : It => [Value.int .i64 i.u, Value.int .u8 i.t, Value.bool i.m]) := rfl
theorem set_two {l : List (Int × Int)} {rest : List Value} {i : Nat} (hi : i < l.length) (u t : Int) : ((cellsJ l ++ rest).set (i * 2) (.int .i64 u)).set (i * 2 + 1) (.int .u8 t) = cellsJ (l.set i (u, t)) ++ rest := by
  induction l generalizing i with
  | nil => simp at hi
  | cons a l ih =>
    have e : ∀ a l, cellsJ (a :: l) = .int .i64 a.1 :: .int .u8 a.2 :: cellsJ l := fun _ _ => rfl
    cases i with
    | zero => simp [e]
    | succ i =>
      have := ih (i := i) (by simpa using hi)
      rw [List.set_cons_succ, e, e, show (i + 1) * 2 = i * 2 + 1 + 1 by omega, show i * 2 + 1 + 1 + 1 = (i * 2 + 1) + 1 + 1 by omega]
      simp only [List.cons_append, List.set_cons_succ]
      rw [this]
theorem set_three {l : List It} {rest : List Value} {i : Nat} (hi : i < l.length) (x : It) : (((itCells l ++ rest).set (i * 3) (.int .i64 x.u)).set (i * 3 + 1) (.int .u8 x.t)).set (i * 3 + 2) (.bool x.m) = itCells (l.set i x) ++ rest := by
  induction l generalizing i with
  | nil => simp at hi
  | cons a l ih =>
    have e : ∀ a l, itCells (a :: l) = .int .i64 a.u :: .int .u8 a.t :: .bool a.m :: itCells l := fun _ _ => rfl
    cases i with
    | zero => simp [e]
    | succ i =>
      have := ih (i := i) (by simpa using hi)
      rw [List.set_cons_succ, e, e, show (i + 1) * 3 = i * 3 + 1 + 1 + 1 by omega, show i * 3 + 1 + 1 + 1 + 1 = (i * 3 + 1) + 1 + 1 + 1 by omega, show i * 3 + 1 + 1 + 1 + 2 = (i * 3 + 2) + 1 + 1 + 1 by omega]
      simp only [List.cons_append, List.set_cons_succ]
      rw [this]
/-- An owned row's block, whole. -/
theorem Owns.whole {w : World} {base : Nat} {e : TypeId} {k : Nat} {v : Value} {n : Nat} {xs : List Value} (h : w.ownsRow base e k v n xs) (hn : 0 < n) : ∃ g cap rest, v = .slice (some ⟨g, 0, none⟩) n cap ∧ base ≤ g ∧ g < w.heap.size ∧ n ≤ cap ∧ xs.length = n * k ∧ (xs ++ rest).length = cap * k ∧ Blk w g (xs ++ rest) e ∧ cap ≤ maxLen := by
  obtain ⟨h1, h2⟩ := h
  rcases h2 with ⟨_, h0⟩ | ⟨g, cap, cur, rfl, p1, p2, p3, p4, p5, p6⟩
  · omega
  · refine ⟨g, cap, cur.toList.drop (n * k), rfl, p1, (Array.getElem?_eq_some_iff.1 p2).1, p3, h1, ?_, ?_, p4⟩
    · rw [← p6, List.take_append_drop, Array.length_toList, p5]
    · unfold Blk
      rw [← p6, List.take_append_drop]
      exact p2
theorem Owns.ofBlk {w : World} {base : Nat} {e : TypeId} {k g n cap : Nat} {xs rest : List Value} (hb : Blk w g (xs ++ rest) e) (hg : base ≤ g) (hn : n ≤ cap) (hx : xs.length = n * k) (hl : (xs ++ rest).length = cap * k) (hcap : cap ≤ maxLen) : w.ownsRow base e k (.slice (some ⟨g, 0, none⟩) n cap) n xs :=
  ⟨hx, .inr ⟨g, cap, (xs ++ rest).toArray, rfl, hg, hb, hn, hcap, by simpa using hl, by rw [List.toList_toArray, ← hx]; simp⟩⟩
end Go.Proofs.Ytclgclcoblfddaa
