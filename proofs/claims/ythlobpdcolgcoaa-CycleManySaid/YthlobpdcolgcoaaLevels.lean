/- Plain: the search by breadth, level by level; a table turned about. -/
import Derived.Test.YthlobpdcolgcoaaGoes
namespace Go.Proofs.Ythlobpdcolgcoaa
open Go.RowKit
set_option linter.unusedVariables false
set_option linter.unusedSimpArgs false

theorem isD.down {tb : List (List Int)} {home : Int} : ∀ {d : Nat} {x : Int}, isD tb home d x → ∀ i, i ≤ d → ∃ y, isD tb home i y := by
  intro d
  induction d with
  | zero => exact fun {x} h i hi => ⟨x, (show 0 = i by omega) ▸ h⟩
  | succ d ih =>
    intro x h i hi
    rcases Nat.lt_or_ge d i with h1 | h1
    · have : i = d + 1 := by omega
      subst this
      exact ⟨x, h⟩
    · obtain ⟨j, _, hj, _⟩ := h.step
      exact ih hj i h1
theorem near_all {tb : List (List Int)} {home m : Int} (hm : 2 ≤ m) (h : ∀ x, dst tb home x ≠ some (m - 1)) : near tb home m = dst tb home := by
  funext x
  cases hx : dst tb home x with
  | none => unfold near; rw [hx]; rfl
  | some d =>
    rw [near_some]
    refine ⟨hx, ?_⟩
    rcases Int.lt_or_le d m with h1 | h1
    · exact h1
    · exfalso
      obtain ⟨e, rfl, he⟩ := dst_some.1 hx
      obtain ⟨y, hy⟩ := he.down (m - 2).toNat (by omega)
      have := dst_isD.2 hy
      rw [show (((m - 2).toNat : Nat) : Int) + 1 = m - 1 by omega] at this
      exact h y this
theorem near_next {tb : List (List Int)} {home m : Int} {more : List Int} (h : ∀ x, x ∈ more ↔ dst tb home x = some m) : updAll (near tb home m) more m = near tb home (m + 1) := by
  funext x
  unfold updAll
  by_cases hx : x ∈ more
  · rw [if_pos hx]
    exact (near_some.2 ⟨(h x).1 hx, by omega⟩).symm
  · rw [if_neg hx]
    cases hd : dst tb home x with
    | none => unfold near; rw [hd]; rfl
    | some d =>
      have hne : d ≠ m := fun e => hx ((h x).2 (e ▸ hd))
      rcases Int.lt_or_le d m with h1 | h1
      · rw [near_some.2 ⟨hd, h1⟩, near_some.2 ⟨hd, by omega⟩]
      · have e1 : near tb home m x = none := by
          cases hq : near tb home m x with
          | none => rfl
          | some q => obtain ⟨h2, h3⟩ := near_some.1 hq; rw [hd] at h2; cases h2; omega
        have e2 : near tb home (m + 1) x = none := by
          cases hq : near tb home (m + 1) x with
          | none => rfl
          | some q => obtain ⟨h2, h3⟩ := near_some.1 hq; rw [hd] at h2; cases h2; omega
        rw [e1, e2]
theorem near_two {tb : List (List Int)} {home : Int} {out : List Int} (h : ∀ x, x ∈ out ↔ dst tb home x = some 1) : updAll (fun _ => none) out 1 = near tb home 2 := by
  have e : (fun _ => none : Int → Option Int) = near tb home 1 := by
    funext x
    cases hq : near tb home 1 x with
    | none => rfl
    | some q => obtain ⟨h2, h3⟩ := near_some.1 hq; have := (dst_bound h2).1; omega
  rw [e]
  exact near_next h
theorem updAll_append (f : Int → Option Int) (a b : List Int) (n : Int) : updAll (updAll f a n) b n = updAll f (a ++ b) n := by
  funext x
  unfold updAll
  by_cases h1 : x ∈ b
  · simp [h1]
  · by_cases h2 : x ∈ a <;> simp [h1, h2]

/-- The edges into p met so far: of the rows before i, and of row i its first k. -/
def met (tb : List (List Int)) (i k : Nat) (p : Nat) (x : Int) : Prop := ∃ j : Nat, x = j ∧ ((j < i ∧ (p : Int) ∈ tb.getD j []) ∨ (j = i ∧ (p : Int) ∈ (tb.getD i []).take k))
theorem met_next {tb : List (List Int)} {i p : Nat} {x : Int} (k : Nat) (hk : (tb.getD i []).length ≤ k) : met tb i k p x ↔ met tb (i + 1) 0 p x := by
  unfold met
  rw [List.take_of_length_le hk]
  constructor
  · rintro ⟨j, rfl, (⟨h1, h2⟩ | ⟨rfl, h2⟩)⟩
    · exact ⟨j, rfl, .inl ⟨by omega, h2⟩⟩
    · exact ⟨j, rfl, .inl ⟨by omega, h2⟩⟩
  · rintro ⟨j, rfl, (⟨h1, h2⟩ | ⟨rfl, h2⟩)⟩
    · rcases (show j < i ∨ j = i by omega) with h3 | rfl
      · exact ⟨j, rfl, .inl ⟨h3, h2⟩⟩
      · exact ⟨j, rfl, .inr ⟨rfl, h2⟩⟩
    · simp at h2
theorem met_step {tb : List (List Int)} {i k : Nat} {y : Int} (hy : (tb.getD i [])[k]? = some y) (p : Nat) (x : Int) : met tb i (k + 1) p x ↔ met tb i k p x ∨ (y = p ∧ x = i) := by
  unfold met
  rw [List.take_add_one, hy]
  constructor
  · rintro ⟨j, rfl, (⟨h1, h2⟩ | ⟨rfl, h2⟩)⟩
    · exact .inl ⟨j, rfl, .inl ⟨h1, h2⟩⟩
    · rw [List.mem_append] at h2
      rcases h2 with h2 | h2
      · exact .inl ⟨j, rfl, .inr ⟨rfl, h2⟩⟩
      · simp at h2
        exact .inr ⟨h2.symm, rfl⟩
  · rintro (⟨j, rfl, (⟨h1, h2⟩ | ⟨rfl, h2⟩)⟩ | ⟨rfl, rfl⟩)
    · exact ⟨j, rfl, .inl ⟨h1, h2⟩⟩
    · exact ⟨j, rfl, .inr ⟨rfl, List.mem_append_left _ h2⟩⟩
    · exact ⟨i, rfl, .inr ⟨rfl, List.mem_append_right _ (by simp)⟩⟩
theorem met_all {tb : List (List Int)} {p : Nat} {x : Int} : met tb tb.length 0 p x ↔ (p : Int) ∈ rowOf tb x := by
  unfold met rowOf
  constructor
  · rintro ⟨j, rfl, (⟨h1, h2⟩ | ⟨rfl, h2⟩)⟩
    · rw [if_neg (by omega), Int.toNat_natCast]
      exact h2
    · simp at h2
  · intro h
    split at h
    · cases h
    · rename_i h0
      refine ⟨x.toNat, by omega, .inl ⟨?_, h⟩⟩
      rcases Nat.lt_or_ge x.toNat tb.length with h1 | h1
      · exact h1
      · rw [List.getD_eq_getElem?_getD, List.getElem?_eq_none h1] at h
        cases h

/-- The turned table while it is filled. -/
def BInv (W : World) (base g : Nat) (T e : TypeId) (tb : List (List Int)) (i k : Nat) : Prop :=
  ∃ rs : List (Value × List Int), rs.length = tb.length ∧ ORows W base g T e rs ∧ ∀ p : Nat, p < tb.length → ∃ v xs, rs[p]? = some (v, xs) ∧ xs.length ≤ i * 64 + k ∧ ∀ x, x ∈ xs ↔ met tb i k p x
theorem BInv.ext {W W' : World} {base g : Nat} {T e : TypeId} {tb : List (List Int)} {i k : Nat} (h : BInv W base g T e tb i k) (hx : Ext W W') : BInv W' base g T e tb i k := by
  obtain ⟨rs, h1, h2, h3⟩ := h
  exact ⟨rs, h1, h2.ext hx, h3⟩
theorem BInv.row {W : World} {base g : Nat} {T e : TypeId} {tb : List (List Int)} {i k : Nat} (h : BInv W base g T e tb i k) (hk : (tb.getD i []).length ≤ k) (hk2 : k ≤ 64) : BInv W base g T e tb (i + 1) 0 := by
  obtain ⟨rs, h1, h2, h3⟩ := h
  refine ⟨rs, h1, h2, fun p hp => ?_⟩
  obtain ⟨v, xs, h4, h5, h6⟩ := h3 p hp
  exact ⟨v, xs, h4, by omega, fun x => by rw [h6 x]; exact met_next k hk⟩
theorem BInv.new (W : World) (T e : TypeId) (tb : List (List Int)) (n : Nat) (hn : tb.length = n) (o : Obj) : BInv ((W.alloc (.cells (Array.replicate n (Value.slice none 0 0)) T)).alloc o) (W.heap.size + 2) W.heap.size T e tb 0 0 := by
  subst hn
  refine ⟨List.replicate tb.length (.slice none 0 0, []), by simp, ⟨?_, by omega, by simp, ?_, ?_⟩, ?_⟩
  · rw [List.map_replicate, ← List.toArray_replicate]
    exact (Blk.new _ _ _).alloc _
  · intro i v xs hi
    rw [List.getElem?_replicate] at hi
    split at hi <;> cases hi
    exact World.ownsRow_nil _ _ _ _
  · intro i j v xs v' xs' k _ hi _ hk
    rw [List.getElem?_replicate] at hi
    split at hi <;> cases hi
    cases hk
  · intro p hp
    refine ⟨.slice none 0 0, [], by rw [List.getElem?_replicate, if_pos hp], by simp, fun x => ?_⟩
    unfold met
    constructor
    · intro h; cases h
    · rintro ⟨j, rfl, (⟨h1, h2⟩ | ⟨rfl, h2⟩)⟩
      · omega
      · simp at h2
theorem BInv.at {W : World} {base g : Nat} {T e : TypeId} {tb : List (List Int)} {i k p : Nat} (h : BInv W base g T e tb i k) (hy : (tb.getD i [])[k]? = some (p : Int)) (hp : p < tb.length) (hi : i < 64) (hk : k < 64) :
    ∃ A c, ∃ xs : List Int, W.cell? ⟨g, p, none⟩ = some (.slice A xs.length c) ∧ W.ownsRow base e 1 (.slice A xs.length c) xs.length (ints xs) ∧ (∀ a, A = some a → base ≤ a.block) ∧ base ≤ W.heap.size ∧ xs.length ≤ 10000 ∧ W.frozen? ⟨g, p, none⟩ = false ∧
      ∀ W1 v', W1.ownsRow base e 1 v' (xs ++ [(i : Int)]).length (ints (xs ++ [(i : Int)])) → W.grownBy W1 (Value.slice A xs.length c).ownBlock →
        (∀ b, v'.ownBlock = some b → (Value.slice A xs.length c).ownBlock = some b ∨ W.heap.size ≤ b) →
        (∃ old, W1.cell? ⟨g, p, none⟩ = some old) ∧ W1.frozen? ⟨g, p, none⟩ = false ∧ W1.cell? ⟨g, p, none⟩ = some (.slice A xs.length c) ∧ BInv (W1.setCell ⟨g, p, none⟩ v') base g T e tb i (k + 1) := by
  obtain ⟨rs, h1, h2, h3⟩ := h
  obtain ⟨v, xs, hv, hl, hx⟩ := h3 p hp
  have hown := h2.own p v xs hv
  obtain ⟨A, c, rfl, hrd, hA⟩ := Owns.rd hown
  have hc : ∀ {W' : World}, Blk W' g (rs.map Prod.fst) T → W'.cell? ⟨g, p, none⟩ = some (.slice A xs.length c) := fun hb => hb.cell p (by rw [List.getElem?_map, hv]; rfl)
  refine ⟨A, c, xs, hc h2.blk, hown, hA, h2.low, by omega, h2.blk.frozen p, ?_⟩
  intro W1 v' ho hg hs
  have hst := h2.step hv ho hg hs
  have hne : some g ≠ (Value.slice A xs.length c).ownBlock := by
    intro e
    have := ((h2.own p _ _ hv).lt g e.symm).1
    have := h2.lt
    omega
  have hb1 := Grown.blk hg h2.blk hne
  refine ⟨⟨_, hc hb1⟩, hb1.frozen p, hc hb1, rs.set p (v', _), by simpa using h1, hst, fun q hq => ?_⟩
  by_cases hpq : p = q
  · subst hpq
    refine ⟨v', _, List.getElem?_set_self (List.getElem?_eq_some_iff.1 hv).1, by simp; omega, fun x => ?_⟩
    rw [met_step hy, List.mem_append, List.mem_singleton, hx x]
    simp
  · obtain ⟨u, ys, hu, hul, hux⟩ := h3 q hq
    refine ⟨u, ys, by rw [List.getElem?_set_ne hpq]; exact hu, by omega, fun x => ?_⟩
    rw [met_step hy, hux x]
    constructor
    · exact .inl
    · rintro (h | ⟨h, _⟩)
      · exact h
      · exact absurd (by omega) hpq
theorem BInv.done {W : World} {base g : Nat} {T e : TypeId} {tb : List (List Int)} (h : BInv W base g T e tb tb.length 0) : ∃ R : List Row, RdR W (some ⟨g, 0, none⟩) R ∧ R.length = tb.length ∧
    ∀ p : Nat, p < tb.length → ∃ xs, (rows R)[p]? = some xs ∧ xs.length ≤ tb.length * 64 ∧ ∀ x, x ∈ xs ↔ (p : Int) ∈ rowOf tb x := by
  obtain ⟨rs, h1, h2, h3⟩ := h
  obtain ⟨R, r1, r2, r3⟩ := h2.rd
  refine ⟨R, r1, by omega, fun p hp => ?_⟩
  obtain ⟨v, xs, hv, hl, hx⟩ := h3 p hp
  refine ⟨xs, by rw [r2, List.getElem?_map, hv]; rfl, by omega, fun x => ?_⟩
  rw [hx x]
  exact met_all
end Go.Proofs.Ythlobpdcolgcoaa
