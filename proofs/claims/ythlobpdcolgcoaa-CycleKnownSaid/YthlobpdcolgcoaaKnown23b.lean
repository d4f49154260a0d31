/- Chapter 23: the graphs that CycleKnown lets grow. -/
import Derived.Test.YthlobpdcolgcoaaKnown23
namespace Go.Proofs.Ythlobpdcolgcoaa
open Go.RowKit Go.Maps Go.Lib Go.Proofs.YthlobpdcolgcoaaW.PrintWords
set_option linter.unusedVariables false
set_option linter.unusedSimpArgs false

/-- In none of the blocks that are written. -/
def NN (q : Nat) (va vb vl : Value) (h : Nat) : Prop := h ≠ q ∧ va.ownBlock ≠ some h ∧ vb.ownBlock ≠ some h ∧ vl.ownBlock ≠ some h
def Apt (a b : Value) : Prop := ∀ k, a.ownBlock = some k → b.ownBlock ≠ some k
structure K2 (W : World) (q : Nat) (va vb vl : Value) (vsA vsB : List Value) (l : List It) : Prop where
  bq : Blk W q (csK va vb) 24
  oa : W.ownsRow (q + 1) 40 1 va vsA.length vsA
  ob : W.ownsRow (q + 1) 40 1 vb vsB.length vsB
  ol : W.ownsRow (q + 1) 30 3 vl l.length (itCells l)
  rows : ∀ v ∈ vsA ++ vsB, RowV W (NN q va vb vl) v
  ab : Apt va vb
  al : Apt va vl
  bl : Apt vb vl
/-- .. with so many of each. -/
def KX (W : World) (q i : Nat) (vl : Value) : Prop := ∃ (va vb : Value) (vsA vsB : List Value) (l : List It), vsA.length = i ∧ vsB.length = i ∧ l.length = i ∧ K2 W q va vb vl vsA vsB l
theorem K2.ext {W W' : World} {q : Nat} {va vb vl : Value} {vsA vsB : List Value} {l : List It} (h : K2 W q va vb vl vsA vsB l) (hx : Ext W W') : K2 W' q va vb vl vsA vsB l :=
  ⟨h.bq.ext hx, Owns.ext h.oa hx, Owns.ext h.ob hx, Owns.ext h.ol hx, fun v hv => (h.rows v hv).ext hx, h.ab, h.al, h.bl⟩
theorem K2.nil {W : World} {q : Nat} (h : Blk W q (csK (.slice none 0 0) (.slice none 0 0)) 24) : K2 W q (.slice none 0 0) (.slice none 0 0) (.slice none 0 0) [] [] [] :=
  ⟨h, World.ownsRow_nil _ _ _ _, World.ownsRow_nil _ _ _ _, World.ownsRow_nil _ _ _ _, (fun v hv => (by simp at hv)), (fun k h => (by cases h)), (fun k h => (by cases h)), (fun k h => (by cases h))⟩
theorem K2.fresh {W : World} {q : Nat} {va vb vl : Value} {vsA vsB : List Value} {l : List It} (h : K2 W q va vb vl vsA vsB l) {k : Nat} (hk : W.heap.size ≤ k) : NN q va vb vl k :=
  ⟨by have := h.bq.lt; omega, fun e => by have := (h.oa.lt k e).2; omega, fun e => by have := (h.ob.lt k e).2; omega, fun e => by have := (h.ol.lt k e).2; omega⟩
/-- The first table has a row more. -/
theorem K2.stepA {W W1 : World} {q : Nat} {va vb vl v' u : Value} {vsA vsB : List Value} {l : List It} (h : K2 W q va vb vl vsA vsB l) (o1 : W1.ownsRow (q + 1) 40 1 v' (vsA ++ [u]).length (vsA ++ [u])) (g : W.grownBy W1 va.ownBlock)
    (s : ∀ k, v'.ownBlock = some k → va.ownBlock = some k ∨ W.heap.size ≤ k) (hu : RowV W (NN q va vb vl) u) : K2 (W1.setCell ⟨q, 4, none⟩ v') q v' vb vl (vsA ++ [u]) vsB l := by
  have hq := h.bq.lt
  have hown : va.ownBlock ≠ some q := fun e => by have := (h.oa.lt q e).1; omega
  have heap1 : ∀ k, k < W.heap.size → va.ownBlock ≠ some k → W1.heap[k]? = W.heap[k]? := fun k hk hne => g.block k hk (fun e => hne e.symm)
  have heap2 : ∀ k, k < W.heap.size → k ≠ q → va.ownBlock ≠ some k → (W1.setCell ⟨q, 4, none⟩ v').heap[k]? = W.heap[k]? := fun k hk hkq hne =>
    (((But.refl q W1).set 4 v').block k (Nat.lt_of_lt_of_le hk g.size) hkq).trans (heap1 k hk hne)
  have keepRow : ∀ v, RowV W (NN q va vb vl) v → RowV (W1.setCell ⟨q, 4, none⟩ v') (NN q v' vb vl) v := fun v hv => hv.keep fun k hN hk => ⟨⟨hN.1, fun e => by
    rcases s k e with h1 | h1
    · exact hN.2.1 h1
    · omega, hN.2.2⟩, heap2 k hk hN.1 hN.2.1⟩
  have old : ∀ (x : Value) k, x.ownBlock = some k → Apt va x → k < W.heap.size → v'.ownBlock ≠ some k := fun x k hx ha hk e => by
    rcases s k e with h1 | h1
    · exact ha k h1 hx
    · omega
  refine ⟨?_, Owns.set o1 4 v' (by omega), Owns.set (h.ob.kept g ?_) 4 v' (by omega), Owns.set (h.ol.kept g ?_) 4 v' (by omega), fun v hv => ?_, ?_, ?_, h.bl⟩
  · have hb1 : Blk W1 q (csK va vb) 24 := (heap1 q hq hown).trans h.bq
    exact hb1.set 4 v'
  · cases e : vb.ownBlock with
    | none => exact .inl rfl
    | some k => exact .inr (fun e' => h.ab k e'.symm e)
  · cases e : vl.ownBlock with
    | none => exact .inl rfl
    | some k => exact .inr (fun e' => h.al k e'.symm e)
  · rcases List.mem_append.1 hv with hv | hv
    · rcases List.mem_append.1 hv with hv | hv
      · exact keepRow v (h.rows v (List.mem_append_left _ hv))
      · rw [List.mem_singleton.1 hv]; exact keepRow u hu
    · exact keepRow v (h.rows v (List.mem_append_right _ hv))
  · exact fun k hk hb => old vb k hb h.ab (h.ob.lt k hb).2 hk
  · exact fun k hk hb => old vl k hb h.al (h.ol.lt k hb).2 hk
/-- The second table has a row more. -/
theorem K2.stepB {W W1 : World} {q : Nat} {va vb vl v' u : Value} {vsA vsB : List Value} {l : List It} (h : K2 W q va vb vl vsA vsB l) (o1 : W1.ownsRow (q + 1) 40 1 v' (vsB ++ [u]).length (vsB ++ [u])) (g : W.grownBy W1 vb.ownBlock)
    (s : ∀ k, v'.ownBlock = some k → vb.ownBlock = some k ∨ W.heap.size ≤ k) (hu : RowV W (NN q va vb vl) u) : K2 (W1.setCell ⟨q, 5, none⟩ v') q va v' vl vsA (vsB ++ [u]) l := by
  have hq := h.bq.lt
  have hown : vb.ownBlock ≠ some q := fun e => by have := (h.ob.lt q e).1; omega
  have heap1 : ∀ k, k < W.heap.size → vb.ownBlock ≠ some k → W1.heap[k]? = W.heap[k]? := fun k hk hne => g.block k hk (fun e => hne e.symm)
  have heap2 : ∀ k, k < W.heap.size → k ≠ q → vb.ownBlock ≠ some k → (W1.setCell ⟨q, 5, none⟩ v').heap[k]? = W.heap[k]? := fun k hk hkq hne =>
    (((But.refl q W1).set 5 v').block k (Nat.lt_of_lt_of_le hk g.size) hkq).trans (heap1 k hk hne)
  have keepRow : ∀ v, RowV W (NN q va vb vl) v → RowV (W1.setCell ⟨q, 5, none⟩ v') (NN q va v' vl) v := fun v hv => hv.keep fun k hN hk => ⟨⟨hN.1, hN.2.1, fun e => by
    rcases s k e with h1 | h1
    · exact hN.2.2.1 h1
    · omega, hN.2.2.2⟩, heap2 k hk hN.1 hN.2.2.1⟩
  refine ⟨?_, Owns.set (h.oa.kept g ?_) 5 v' (by omega), Owns.set o1 5 v' (by omega), Owns.set (h.ol.kept g ?_) 5 v' (by omega), fun v hv => ?_, ?_, h.al, ?_⟩
  · have hb1 : Blk W1 q (csK va vb) 24 := (heap1 q hq hown).trans h.bq
    exact hb1.set 5 v'
  · cases e : va.ownBlock with
    | none => exact .inl rfl
    | some k => exact .inr (fun e' => h.ab k e e'.symm)
  · cases e : vl.ownBlock with
    | none => exact .inl rfl
    | some k => exact .inr (fun e' => h.bl k e'.symm e)
  · rcases List.mem_append.1 hv with hv | hv
    · exact keepRow v (h.rows v (List.mem_append_left _ hv))
    · rcases List.mem_append.1 hv with hv | hv
      · exact keepRow v (h.rows v (List.mem_append_right _ hv))
      · rw [List.mem_singleton.1 hv]; exact keepRow u hu
  · exact fun k hk hb => by
      rcases s k hb with h1 | h1
      · exact h.ab k hk h1
      · have := (h.oa.lt k hk).2; omega
  · exact fun k hk hb => by
      rcases s k hk with h1 | h1
      · exact h.bl k h1 hb
      · have := (h.ol.lt k hb).2; omega
/-- An item more. -/
theorem K2.stepL {W W1 : World} {q : Nat} {va vb vl v' : Value} {vsA vsB : List Value} {l l' : List It} (h : K2 W q va vb vl vsA vsB l) (o1 : W1.ownsRow (q + 1) 30 3 v' l'.length (itCells l')) (g : W.grownBy W1 vl.ownBlock)
    (s : ∀ k, v'.ownBlock = some k → vl.ownBlock = some k ∨ W.heap.size ≤ k) : K2 W1 q va vb v' vsA vsB l' := by
  have hq := h.bq.lt
  have hown : vl.ownBlock ≠ some q := fun e => by have := (h.ol.lt q e).1; omega
  have heap1 : ∀ k, k < W.heap.size → vl.ownBlock ≠ some k → W1.heap[k]? = W.heap[k]? := fun k hk hne => g.block k hk (fun e => hne e.symm)
  refine ⟨(heap1 q hq hown).trans h.bq, h.oa.kept g ?_, h.ob.kept g ?_, o1, fun v hv => (h.rows v hv).keep fun k hN hk => ⟨⟨hN.1, hN.2.1, hN.2.2.1, fun e => ?_⟩, heap1 k hk hN.2.2.2⟩, h.ab, ?_, ?_⟩
  · cases e : va.ownBlock with
    | none => exact .inl rfl
    | some k => exact .inr (fun e' => h.al k e e'.symm)
  · cases e : vb.ownBlock with
    | none => exact .inl rfl
    | some k => exact .inr (fun e' => h.bl k e e'.symm)
  · rcases s k e with h1 | h1
    · exact hN.2.2.2 h1
    · omega
  · exact fun k hk hb => by
      rcases s k hb with h1 | h1
      · exact h.al k hk h1
      · have := (h.oa.lt k hk).2; omega
  · exact fun k hk hb => by
      rcases s k hb with h1 | h1
      · exact h.bl k hk h1
      · have := (h.ob.lt k hk).2; omega
theorem grownBy_setCell'' (W : World) (g i : Nat) (v : Value) : W.grownBy (W.setCell ⟨g, i, none⟩ v) (some g) := But.grown ((But.refl g W).set i v)
theorem Owns.setOwn' {w : World} {base : Nat} {e : TypeId} {g n cap : Nat} {xs : List Value} (h : w.ownsRow base e 1 (.slice (some ⟨g, 0, none⟩) n cap) n xs) (i : Nat) (u : Value) :
    (w.setCell ⟨g, i, none⟩ u).ownsRow base e 1 (.slice (some ⟨g, 0, none⟩) n cap) n (xs.set i u) := by
  obtain ⟨hl, h⟩ := h
  rcases h with ⟨h, _⟩ | ⟨g', cap', cur, h1, h2, h3, h4, h5, h6, h7⟩
  · cases h
  · cases h1
    refine ⟨by simpa using hl, .inr ⟨g, cap, cur.setIfInBounds i u, rfl, h2, ?_, h4, h5, by simpa using h6, ?_⟩⟩
    · simp [World.setCell, Array.getElem?_modify, h3]
    · rw [← h7]
      simp [List.take_set]
/-- A place of the first table is emptied. -/
theorem K2.emptyA {W : World} {q g c : Nat} {vb vl : Value} {vsA vsB : List Value} {l : List It} (h : K2 W q (.slice (some ⟨g, 0, none⟩) vsA.length c) vb vl vsA vsB l) (i : Nat) :
    K2 (W.setCell ⟨g, i, none⟩ (.slice none 0 0)) q (.slice (some ⟨g, 0, none⟩) vsA.length c) vb vl (vsA.set i (.slice none 0 0)) vsB l := by
  have hg := (h.oa.lt g rfl)
  have hgrow : W.grownBy (W.setCell ⟨g, i, none⟩ (.slice none 0 0)) (some g) := grownBy_setCell'' W g i _
  have heap : ∀ k, k < W.heap.size → k ≠ g → (W.setCell ⟨g, i, none⟩ (.slice none 0 0)).heap[k]? = W.heap[k]? := fun k hk hne => hgrow.block k hk (fun e => hne (by cases e; rfl))
  refine ⟨(heap q h.bq.lt (by omega)).trans h.bq, by rw [List.length_set]; exact Owns.setOwn' h.oa i _, h.ob.kept hgrow ?_, h.ol.kept hgrow ?_, fun v hv => ?_, h.ab, h.al, h.bl⟩
  · cases e : vb.ownBlock with
    | none => exact .inl rfl
    | some k => exact .inr (fun e' => h.ab g rfl (by rw [e]; exact e'))
  · cases e : vl.ownBlock with
    | none => exact .inl rfl
    | some k => exact .inr (fun e' => h.al g rfl (by rw [e]; exact e'))
  · have keep : ∀ v, RowV W (NN q (.slice (some ⟨g, 0, none⟩) vsA.length c) vb vl) v → RowV (W.setCell ⟨g, i, none⟩ (.slice none 0 0)) (NN q (.slice (some ⟨g, 0, none⟩) vsA.length c) vb vl) v := fun v hv => hv.keep fun k hN hk => ⟨hN, heap k hk (fun e => hN.2.1 (by rw [e]; rfl))⟩
    rcases List.mem_append.1 hv with hv | hv
    · rcases List.mem_or_eq_of_mem_set hv with hv | rfl
      · exact keep v (h.rows v (List.mem_append_left _ hv))
      · exact RowV.nil _ _ _ _
    · exact keep v (h.rows v (List.mem_append_right _ hv))
theorem RdI.takeK {W : World} {A : Option Addr} {l : List It} (h : RdI W A l) (m : Nat) : RdI W A (l.take m) := by
  rcases h with h | ⟨b, o, e, hc⟩
  · exact .inl (by rw [h]; simp)
  · refine .inr ⟨b, o, e, fun j u t m' hj => hc j u t m' ?_⟩
    rw [List.getElem?_take] at hj
    split at hj
    · exact hj
    · cases hj
/-- What the laws are told. -/
theorem K2.tabs {W : World} {q : Nat} {va vb vl : Value} {vsA vsB : List Value} {l : List It} (h : K2 W q va vb vl vsA vsB l) (hA : vsA.length ≤ 100) (hB : vsB.length ≤ 100) : TabK W va ∧ TabK W vb := by
  obtain ⟨A1, c1, rfl, n1, l1, r1⟩ := Owns.shape h.oa
  obtain ⟨A2, c2, rfl, n2, l2, r2⟩ := Owns.shape h.ob
  have rd : ∀ (A : Option Addr) (vs : List Value), (vs = [] ∧ A = none ∨ ∃ g, A = some ⟨g, 0, none⟩ ∧ q + 1 ≤ g ∧ ∀ j u, vs[j]? = some u → W.cell? ⟨g, j, none⟩ = some u) → RdV W A vs := by
    rintro A vs (⟨h, _⟩ | ⟨g, rfl, _, hc⟩)
    · exact .inl h
    · exact .inr ⟨g, 0, rfl, fun j v hv => by rw [Nat.zero_add]; exact hc j v hv⟩
  exact ⟨tabK_of (rd _ _ r1) (fun v hv => h.rows v (List.mem_append_left _ hv)) hA n1, tabK_of (rd _ _ r2) (fun v hv => h.rows v (List.mem_append_right _ hv)) hB n2⟩
end Go.Proofs.Ythlobpdcolgcoaa
