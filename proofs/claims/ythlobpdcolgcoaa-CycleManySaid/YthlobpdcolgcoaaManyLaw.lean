/- Plain: what CycleMany asks of the ring and of the order. -/
import Derived.Test.YthlobpdcolgcoaaOrderLaw
import Derived.Test.YthlobpdcolgcoaaNextLaw
import Derived.Test.YthlobpdcolgcoaaAppItem
namespace Go.Proofs.Ythlobpdcolgcoaa
open Go.RowKit Go.Lib
set_option linter.unusedVariables false
set_option linter.unusedSimpArgs false

theorem next_ent (af be : List (List Int)) (l : List It) : Ent (nextL af be l) := by
  intro r hr x hx
  obtain ⟨a, _, rfl⟩ := List.mem_map.1 hr
  obtain ⟨j, hj, rfl⟩ := List.mem_map.1 hx
  have := List.mem_range.1 (List.mem_filter.1 hj).1
  rw [nextL_length]
  exact ⟨Int.natCast_nonneg _, by simpa using this⟩
/-- Each of the ring is ahead of the next, and none is below the first. -/
theorem many_ring {af be : List (List Int)} {l : List It} {i : Nat} (hi : i < (RingL (nextL af be l)).length) :
    ∃ p q z : Nat, ∃ a b : It, (RingL (nextL af be l))[i]? = some (p : Int) ∧ (RingL (nextL af be l))[(i + 1) % (RingL (nextL af be l)).length]? = some (q : Int) ∧ (RingL (nextL af be l))[0]? = some (z : Int) ∧ z ≤ p ∧ p < l.length ∧ q < l.length ∧ l[p]? = some a ∧ l[q]? = some b ∧ ahd af be a b = true := by
  have hne : RingL (nextL af be l) ≠ [] := by intro e; rw [e] at hi; simp at hi
  obtain ⟨k, hk, e, hr⟩ := RingL_one hne
  rw [e] at hi ⊢
  obtain ⟨x, y, h1, h2, h3⟩ := ring_step hr i hi
  obtain ⟨p, q, rfl, rfl, a, b, ha, hb, hab⟩ := mem_next.1 h3
  obtain ⟨_, h4, h5⟩ := ringL_goes hr
  have := h5 p (List.mem_of_getElem? h1)
  exact ⟨p, q, k, a, b, h1, h2, h4, by omega, (List.getElem?_eq_some_iff.1 ha).1, (List.getElem?_eq_some_iff.1 hb).1, ha, hb, hab⟩
theorem many_none {af be : List (List Int)} {l : List It} (h : RingL (nextL af be l) = []) : (OrderL (nextL af be l)).length = l.length := by
  rw [(order_whole (next_ent af be l) h).1, nextL_length]
theorem many_some {af be : List (List Int)} {l : List It} (h : RingL (nextL af be l) ≠ []) : OrderL (nextL af be l) = [] := order_none (next_ent af be l) h
theorem many_len (af be : List (List Int)) (l : List It) : (OrderL (nextL af be l)).length ≤ l.length := by
  by_cases h : RingL (nextL af be l) = []
  · rw [many_none h]; exact Nat.le_refl _
  · rw [many_some h]; simp
/-- Each of the order is one that is not told before, and all that are ahead of it are. -/
theorem many_order {af be : List (List Int)} {l : List It} {i : Nat} (hi : i < (OrderL (nextL af be l)).length) :
    ∃ p : Nat, ∃ a : It, (OrderL (nextL af be l))[i]? = some (p : Int) ∧ p < l.length ∧ l[p]? = some a ∧ (p : Int) ∉ (OrderL (nextL af be l)).take i ∧ ∀ (k : Nat) (b : It), l[k]? = some b → ahd af be b a = true → (k : Int) ∈ (OrderL (nextL af be l)).take i := by
  have h : RingL (nextL af be l) = [] := by
    by_cases h : RingL (nextL af be l) = []
    · exact h
    · rw [many_some h] at hi; simp at hi
  have ht := (order_whole (next_ent af be l) h).2
  obtain ⟨h1, h2, _, h3, h4⟩ := ht i _ (List.getElem?_eq_getElem hi)
  generalize he : (OrderL (nextL af be l))[i] = x at *
  obtain ⟨p, rfl⟩ : ∃ p : Nat, x = p := ⟨x.toNat, by omega⟩
  rw [nextL_length] at h2
  have hp : p < l.length := by omega
  refine ⟨p, l[p], by rw [List.getElem?_eq_getElem hi, he], hp, List.getElem?_eq_getElem hp, h3, fun k b hk hab => ?_⟩
  have hkl := (List.getElem?_eq_some_iff.1 hk).1
  rcases h4 k (by rw [nextL_length]; exact hkl) (mem_next.2 ⟨k, p, rfl, rfl, b, _, hk, List.getElem?_eq_getElem hp, hab⟩) with h5 | h5
  · cases h5
  · exact h5
theorem many_more (af be : List (List Int)) (l : List It) (z : It) : RingL (nextL af be l) = [] ∨ (RingL (nextL af be (l ++ [z])) ≠ [] ∧ (RingL (nextL af be (l ++ [z]))).length ≤ (RingL (nextL af be l)).length) := by
  by_cases h : RingL (nextL af be l) = []
  · exact .inl h
  · exact .inr (RingL_more (next_more z) h)
theorem many_rlen (af be : List (List Int)) (l : List It) : (RingL (nextL af be l)).length ≤ l.length := by
  by_cases h : RingL (nextL af be l) = []
  · rw [h]; simp
  · obtain ⟨k, hk, e, hr⟩ := RingL_one h
    rw [e]
    cases hd : dst (nextL af be l) k k with
    | none => exact absurd (ringL_nil.2 hd) hr
    | some n =>
      obtain ⟨d, rfl, hd'⟩ := dst_some.1 hd
      have := hd'.lt
      rw [nextL_length] at this
      rw [ringL_some hd, List.length_cons, ringFrom_length]
      omega
/-- All of it, of a ring r, an order o and a ring s of one item more. -/
structure ManyP (af be : List (List Int)) (l : List It) (r o s : List Int) : Prop where
  ring : ∀ i, i < r.length → ∃ p q z : Nat, ∃ a b : It, r[i]? = some (p : Int) ∧ r[(i + 1) % r.length]? = some (q : Int) ∧ r[0]? = some (z : Int) ∧ z ≤ p ∧ p < l.length ∧ q < l.length ∧ l[p]? = some a ∧ l[q]? = some b ∧ ahd af be a b = true
  none : r = [] → o.length = l.length
  some : r ≠ [] → o = [] ∧ 0 < l.length
  len : o.length ≤ l.length
  rlen : r.length ≤ l.length
  order : ∀ i, i < o.length → ∃ p : Nat, ∃ a : It, o[i]? = .some (p : Int) ∧ p < l.length ∧ l[p]? = .some a ∧ (p : Int) ∉ o.take i ∧ ∀ (k : Nat) (b : It), l[k]? = .some b → ahd af be b a = true → (k : Int) ∈ o.take i
  more : r = [] ∨ (s ≠ [] ∧ s.length ≤ r.length)
theorem many_p (af be : List (List Int)) (l : List It) (z : It) : ManyP af be l (RingL (nextL af be l)) (OrderL (nextL af be l)) (RingL (nextL af be (l ++ [z]))) :=
  ⟨fun i hi => many_ring hi, many_none, fun h => ⟨many_some h, by
    obtain ⟨p, q, z, a, b, _, _, _, _, h1, _⟩ := many_ring (i := 0) (List.length_pos_iff.2 h)
    omega⟩, many_len af be l, many_rlen af be l, fun i hi => many_order hi, many_more af be l z⟩
/-- Which have been seen. -/
def seenL (o : List Int) : List Value := (List.range 64).map fun (k : Nat) => .bool (decide ((k : Int) ∈ o))
theorem seenL_length (o : List Int) : (seenL o).length = 64 := by simp [seenL]
theorem seenL_get (o : List Int) {k : Nat} (hk : k < 64) : (seenL o)[k]? = some (.bool (decide ((k : Int) ∈ o))) := by simp [seenL, hk]
theorem seenL_nil : seenL [] = List.replicate 64 (.bool false) := by
  refine List.ext_getElem? fun i => ?_
  by_cases hi : i < 64
  · rw [seenL_get _ hi, List.getElem?_replicate, if_pos hi]; simp
  · rw [List.getElem?_eq_none (by rw [seenL_length]; omega), List.getElem?_replicate, if_neg hi]
theorem seenL_set (o : List Int) (p : Nat) (hp : p < 64) : (seenL o).set p (.bool true) = seenL (o ++ [(p : Int)]) := by
  refine List.ext_getElem? fun i => ?_
  rw [List.getElem?_set]
  by_cases hi : i < 64
  · by_cases hpi : p = i
    · subst hpi
      rw [if_pos rfl, if_pos (by rw [seenL_length]; exact hp), seenL_get _ hp]
      simp
    · rw [if_neg hpi, seenL_get _ hi, seenL_get _ hi]
      have : ((i : Int) ∈ o ++ [(p : Int)]) ↔ (i : Int) ∈ o := by
        simp only [List.mem_append, List.mem_singleton]
        constructor
        · rintro (h | h)
          · exact h
          · omega
        · exact .inl
      simp only [this]
  · rw [List.getElem?_eq_none (by rw [seenL_length]; omega)]
    split
    · omega
    · rw [List.getElem?_eq_none (by rw [seenL_length]; omega)]
theorem RdI.of1 {W : World} {g : Nat} {u t : Int} {m : Bool} {T : TypeId} (h : Blk W g [.int .i64 u, .int .u8 t, .bool m] T) : RdI W (some ⟨g, 0, none⟩) [⟨u, t, m⟩] := by
  refine .inr ⟨g, 0, rfl, fun j u' t' m' hj => ?_⟩
  cases j with
  | zero => cases hj; exact ⟨h.cell 0 rfl, h.cell 1 rfl, h.cell 2 rfl⟩
  | succ j => simp at hj
theorem itCells_append (a b : List It) : itCells (a ++ b) = itCells a ++ itCells b := by simp [itCells]
/-- append(v, l...) of items. -/
theorem wpList_append_its {w : World} {ops : Array Oper} {rest : List Oper} {o : Oper} {a : Act} {Q : Exit → Act → World → Prop} (hgd : o.guard = none) (s x : Operand)
    (ho : o.op = .call { callee := .builtin .append, args := #[s, x], argTypes := #[31, 31] }) (base : Nat)
    (v : Value) (l : List It) (hs : a.eval s = v) (hown : w.ownsRow base 30 3 v l.length (itCells l))
    (B : Option Addr) (c : Nat) (ys : List It) (hx : a.eval x = .slice B ys.length c) (hr : RdI w B ys)
    (hbig : l.length + ys.length ≤ 100000000) (hbase : base ≤ w.heap.size)
    (h : ∀ v' w', w'.ownsRow base 30 3 v' (l ++ ys).length (itCells (l ++ ys)) → w.grownBy w' v.ownBlock → (∀ k, v'.ownBlock = some k → v.ownBlock = some k ∨ w.heap.size ≤ k) → wpList Try.prog ops Q rest (a.put o.dst v') w') : wpList Try.prog ops Q (o :: rest) a w := by
  obtain ⟨inf, hi, hz, hsz, hby⟩ := info_parts infoItem
  by_cases h0 : ys = []
  · subst h0
    obtain ⟨A, cap, rfl, hn, _, _⟩ := OwnsI.rd hown
    refine wpList_plain hgd fun K hK => ?_
    unfold Oper.wp
    have hrun := run_append_zero (t := 31) (ty := o.type) Try.underlying31 hi A B l.length cap c hn w
    simp only [List.length_nil] at hx
    simp [execOp, ho, resolve, invoke, builtin, hs, hx, hrun, Result.andThen]
    exact hK _ _ (h _ w (by simpa using hown) ⟨rfl, rfl, rfl, Nat.le_refl _, fun _ _ _ => rfl⟩ (fun k hk => .inl hk))
  · rcases hr with hr | ⟨b, off, rfl, hc⟩
    · exact absurd hr h0
    · refine wpList_append_row hgd s x _ ho base _ inf _ 3 24 Try.underlying31 hi hz hsz hby rfl (by decide) v l.length (itCells l) hs hown ⟨b, off, none⟩ ys.length c (itCells ys) hx (by rw [itCells_length]) ?_ ?_ (List.length_pos_iff.2 h0) (by unfold maxLen; omega) (by omega) hbase (fun v' w' h2 h3 h4 => h v' w' ?_ h3 h4)
      · intro j y hj
        have : (⟨b, off, none⟩ : Addr).add j = ⟨b, off + j, none⟩ := by unfold Addr.add; split <;> simp_all
        rw [this]
        have hjl := (List.getElem?_eq_some_iff.1 hj).1
        rw [itCells_length] at hjl
        have hq : j / 3 < ys.length := by omega
        have hy : ys[j / 3]? = some ys[j / 3] := List.getElem?_eq_getElem hq
        generalize ys[j / 3] = z at hy
        obtain ⟨u, t, m⟩ := z
        obtain ⟨k1, k2, k3⟩ := itCells_get ys _ u t m hy
        obtain ⟨c1, c2, c3⟩ := hc _ u t m hy
        rcases (show j = j / 3 * 3 ∨ j = j / 3 * 3 + 1 ∨ j = j / 3 * 3 + 2 by omega) with e | e | e
        · rw [e] at hj ⊢; rw [k1] at hj; cases hj; exact c1
        · rw [e] at hj ⊢; rw [k2] at hj; cases hj; exact c2
        · rw [e] at hj ⊢; rw [k3] at hj; cases hj; exact c3
      · intro y hy
        obtain ⟨z, _, hz⟩ := List.mem_flatMap.1 hy
        simp only [List.mem_cons, List.not_mem_nil, or_false] at hz
        rcases hz with rfl | rfl | rfl <;> rfl
      · rw [itCells_append, List.length_append]
        exact h2
end Go.Proofs.Ythlobpdcolgcoaa
