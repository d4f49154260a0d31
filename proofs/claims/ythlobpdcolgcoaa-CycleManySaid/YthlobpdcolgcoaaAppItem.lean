/- Rows of items that a call owns: append of one. -/
import Derived.Test.YthlobpdcolgcoaaItems
import Derived.Test.YthlobpdcolgcoaaTable
namespace Go.Proofs.Ythlobpdcolgcoaa
open Go.RowKit Go.Lib
set_option linter.unusedVariables false
set_option linter.unusedSimpArgs false

/-- Rows of items that a call owns, each in a block of its own, none in block q. -/
structure IR (W : World) (M q : Nat) (rs : List (Value × List It)) : Prop where
  own : ∀ (i : Nat) (v : Value) (l : List It), rs[i]? = some (v, l) → W.ownsRow M 30 3 v l.length (itCells l)
  off : ∀ (i : Nat) (v : Value) (l : List It), rs[i]? = some (v, l) → v.ownBlock ≠ some q
  apart : ∀ (i j : Nat) (v : Value) (l : List It) (v' : Value) (l' : List It) (k : Nat), i ≠ j → rs[i]? = some (v, l) → rs[j]? = some (v', l') → v.ownBlock = some k → v'.ownBlock ≠ some k
  low : M ≤ W.heap.size
theorem IR.nil3 (W : World) (M q : Nat) (hM : M ≤ W.heap.size) : IR W M q [(.slice none 0 0, []), (.slice none 0 0, []), (.slice none 0 0, [])] := by
  have key : ∀ (i : Nat) (v : Value) (l : List It), ([(.slice none 0 0, []), (.slice none 0 0, []), (.slice none 0 0, [])] : List (Value × List It))[i]? = some (v, l) → v = .slice none 0 0 ∧ l = [] := by
    intro i v l h
    match i, h with
    | 0, h => cases h; exact ⟨rfl, rfl⟩
    | 1, h => cases h; exact ⟨rfl, rfl⟩
    | 2, h => cases h; exact ⟨rfl, rfl⟩
  refine ⟨fun i v l hi => ?_, fun i v l hi => ?_, fun i j v l v' l' k _ hi _ hk => ?_, hM⟩
  · obtain ⟨rfl, rfl⟩ := key i v l hi
    exact World.ownsRow_nil _ _ _ _
  · obtain ⟨rfl, rfl⟩ := key i v l hi
    simp [Value.ownBlock]
  · obtain ⟨rfl, rfl⟩ := key i v l hi
    cases hk
theorem IR.ext {W W' : World} {M q : Nat} {rs : List (Value × List It)} (h : IR W M q rs) (hx : Ext W W') : IR W' M q rs :=
  ⟨fun i v l hi => Owns.ext (h.own i v l hi) hx, h.off, h.apart, Nat.le_trans h.low hx.size⟩
theorem IR.fresh {W : World} {M q : Nat} {rs : List (Value × List It)} (h : IR W M q rs) {q' : Nat} (hq : W.heap.size ≤ q') : IR W M q' rs :=
  ⟨h.own, fun i v l hi e => by have := ((h.own i v l hi).lt q' e).2; omega, h.apart, h.low⟩
theorem IR.set {W : World} {M q : Nat} {rs : List (Value × List It)} (h : IR W M q rs) (j : Nat) (u : Value) : IR (W.setCell ⟨q, j, none⟩ u) M q rs :=
  ⟨fun i v l hi => (h.own i v l hi).kept (But.grown ((But.refl q W).set j u)) (.inr (h.off i v l hi)), h.off, h.apart, by rw [World.size_setCell]; exact h.low⟩
theorem IR.step {W W1 : World} {M q : Nat} {rs : List (Value × List It)} (h : IR W M q rs) {i : Nat} {v v' : Value} {l l' : List It} (hi : rs[i]? = some (v, l)) (hq : q < W.heap.size)
    (hown : W1.ownsRow M 30 3 v' l'.length (itCells l')) (hg : W.grownBy W1 v.ownBlock) (hs : ∀ k, v'.ownBlock = some k → v.ownBlock = some k ∨ W.heap.size ≤ k) : IR W1 M q (rs.set i (v', l')) := by
  have hlt := (List.getElem?_eq_some_iff.1 hi).1
  have oldlt : ∀ (j : Nat) (u : Value) (ys : List It), rs[j]? = some (u, ys) → ∀ k, u.ownBlock = some k → k < W.heap.size := fun j u ys hj k hk => ((h.own j u ys hj).lt k hk).2
  refine ⟨fun j u ys hj => ?_, fun j u ys hj e => ?_, fun j1 j2 u1 y1 u2 y2 k hne hj1 hj2 hu1 hu2 => ?_, Nat.le_trans h.low hg.size⟩
  · by_cases hij : i = j
    · subst hij
      rw [List.getElem?_set_self hlt] at hj
      cases hj
      exact hown
    · rw [List.getElem?_set_ne hij] at hj
      refine (h.own j u ys hj).kept hg ?_
      cases hu : u.ownBlock with
      | none => exact .inl rfl
      | some k => exact .inr (fun e => h.apart i j v l u ys k hij hi hj e.symm hu)
  · by_cases hij : i = j
    · subst hij
      rw [List.getElem?_set_self hlt] at hj
      cases hj
      rcases hs q e with h1 | h1
      · exact h.off i v l hi h1
      · omega
    · rw [List.getElem?_set_ne hij] at hj
      exact h.off j u ys hj e
  · by_cases h1 : i = j1
    · subst h1
      rw [List.getElem?_set_self hlt] at hj1
      rw [List.getElem?_set_ne hne] at hj2
      cases hj1
      rcases hs k hu1 with h3 | h3
      · exact h.apart i j2 v l u2 y2 k hne hi hj2 h3 hu2
      · have := oldlt j2 u2 y2 hj2 k hu2; omega
    · rw [List.getElem?_set_ne h1] at hj1
      by_cases h2 : i = j2
      · subst h2
        rw [List.getElem?_set_self hlt] at hj2
        cases hj2
        rcases hs k hu2 with h3 | h3
        · exact h.apart i j1 v l u1 y1 k h1 hi hj1 h3 hu1
        · have := oldlt j1 u1 y1 hj1 k hu1; omega
      · rw [List.getElem?_set_ne h2] at hj2
        exact h.apart j1 j2 u1 y1 u2 y2 k hne hj1 hj2 hu1 hu2
end Go.Proofs.Ythlobpdcolgcoaa
