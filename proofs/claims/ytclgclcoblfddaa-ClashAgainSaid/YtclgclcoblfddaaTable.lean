/- Rows that a call owns: append to one of them; a table of owned rows. -/
import Derived.Test.YtclgclcoblfddaaMem
import Derived.Deep.DeepAppendRoom
import Derived.ArgAppend
import Derived.Laws.MakeOwn
namespace Go.Proofs.Ytclgclcoblfddaa
open Go.RowKit
set_option linter.unusedVariables false
set_option linter.unusedSimpArgs false

section
variable {P : Program}
/-- append of m elements to an owned row: the row's own block, or a new one. -/
theorem wpList_append_row {w : World} {ops : Array Oper} {rest : List Oper} {o : Oper} {a : Act} {Q : Exit → Act → World → Prop} (hgd : o.guard = none) (s x : Operand) (t : TypeId)
    (ho : o.op = .call { callee := .builtin .append, args := #[s, x], argTypes := #[t, t] })
    (base : Nat) (e : TypeId) (i : TypeInfo) (z : Value) (size bytes : Nat) (ht : P.underlying t = some (.slice e)) (hi : P.info? e = some i) (hz : i.zero = some z)
    (hsize : i.size = size) (hby : i.bytes = bytes) (hzs : z.cells.size = size) (hsz : 0 < size)
    (v : Value) (n : Nat) (xs : List Value) (hs : a.eval s = v) (hown : w.ownsRow base e size v n xs)
    (ad : Addr) (m c : Nat) (news : List Value) (hx : a.eval x = .slice (some ad) m c) (hl : news.length = m * size) (hnews : ∀ j u, news[j]? = some u → w.cell? (ad.add j) = some u) (h1 : ∀ u ∈ news, u.oneCell' = true)
    (hm : 0 < m) (h63 : n + m ≤ maxLen) (hbytes : (n + m) * bytes ≤ 140737488355328) (hbase : base ≤ w.heap.size)
    (h : ∀ v' w', w'.ownsRow base e size v' (n + m) (xs ++ news) → w.grownBy w' v.ownBlock → (∀ k, v'.ownBlock = some k → v.ownBlock = some k ∨ w.heap.size ≤ k) → wpList P ops Q rest (a.put o.dst v') w') : wpList P ops Q (o :: rest) a w := by
  have hown' := hown
  obtain ⟨hxl, hv⟩ := hown
  rcases hv with ⟨rfl, rfl⟩ | ⟨g, cap, cur, rfl, hb, hg, hn, hcap, hcs, htk⟩
  · have hx0 : xs = [] := List.eq_nil_of_length_eq_zero (by simpa using hxl)
    subst hx0
    refine wpList_append_grows w hgd s x t ho e i z size bytes ht hi hz hsize hby hzs hsz none 0 0 [] hs (fun _ => ⟨rfl, rfl⟩) (by simp) (fun b hb => by cases hb) ad m c news hx hl hnews h1 (by omega) h63 hbytes (fun v' w' h2 h3 => ?_)
    refine h v' w' ?_ h3 (fun k hk => .inr (h2.lt k hk).1)
    obtain ⟨k1, k2⟩ := h2
    refine ⟨k1, ?_⟩
    rcases k2 with k2 | ⟨g, cap, cur, q1, q2, q3⟩
    · exact .inl k2
    · exact .inr ⟨g, cap, cur, q1, by omega, q3⟩
  · by_cases hroom : n + m ≤ cap
    · refine wpList_append_own_spare w hgd s x t ho base e i size ht hi hsize g n cap xs hs hown' ad m c news hx hl hnews h1 hroom (fun w' h2 h3 => ?_)
      exact h _ w' h2 h3 (fun k hk => .inl hk)
    · refine wpList_append_grows w hgd s x t ho e i z size bytes ht hi hz hsize hby hzs hsz (some ⟨g, 0, none⟩) n cap xs hs (fun e => by cases e) hxl (fun b hb => by cases hb; exact hown'.cells (g := g) rfl) ad m c news hx hl hnews h1 (by omega) h63 hbytes (fun v' w' h2 h3 => ?_)
      refine h v' w' ?_ ⟨h3.os, h3.tape, h3.output, h3.size, fun k hk _ => h3.block k hk (by simp)⟩ (fun k hk => .inr (h2.lt k hk).1)
      obtain ⟨k1, k2⟩ := h2
      refine ⟨k1, ?_⟩
      rcases k2 with k2 | ⟨g, cap, cur, q1, q2, q3⟩
      · exact .inl k2
      · exact .inr ⟨g, cap, cur, q1, by omega, q3⟩

theorem info_parts {e : TypeId} {z : Value} {n m : Nat} (h : (P.info? e).map (fun i => (i.zero, i.size, i.bytes)) = some (some z, n, m)) : ∃ i, P.info? e = some i ∧ i.zero = some z ∧ i.size = n ∧ i.bytes = m := by
  cases hi : P.info? e with
  | none => rw [hi] at h; cases h
  | some i => rw [hi] at h; simp only [Option.map_some, Option.some.injEq, Prod.mk.injEq] at h; exact ⟨i, rfl, h.1, h.2.1, h.2.2⟩

/-- append of one int. -/
theorem wpList_append_int {w : World} {ops : Array Oper} {rest : List Oper} {o : Oper} {a : Act} {Q : Exit → Act → World → Prop} (hgd : o.guard = none) (s x : Operand) (t e : TypeId)
    (ho : o.op = .call { callee := .builtin .append, args := #[s, x], argTypes := #[t, t] }) (ht : P.underlying t = some (.slice e))
    (hinf : (P.info? e).map (fun i => (i.zero, i.size, i.bytes)) = some (some (.int .i64 0), 1, 8)) (base : Nat)
    (v : Value) (xs : List Int) (hs : a.eval s = v) (hown : w.ownsRow base e 1 v xs.length (ints xs))
    (g c : Nat) (u : Int) (hx : a.eval x = .slice (some ⟨g, 0, none⟩) 1 c) (hc : w.cell? ⟨g, 0, none⟩ = some (.int .i64 u))
    (hbig : xs.length ≤ 1000000000) (hbase : base ≤ w.heap.size)
    (h : ∀ v' w', w'.ownsRow base e 1 v' (xs ++ [u]).length (ints (xs ++ [u])) → w.grownBy w' v.ownBlock → (∀ k, v'.ownBlock = some k → v.ownBlock = some k ∨ w.heap.size ≤ k) → wpList P ops Q rest (a.put o.dst v') w') : wpList P ops Q (o :: rest) a w := by
  obtain ⟨i, hi, hz, hsz, hby⟩ := info_parts hinf
  refine wpList_append_row hgd s x t ho base e i _ 1 8 ht hi hz hsz hby rfl (by decide) v xs.length (ints xs) hs hown ⟨g, 0, none⟩ 1 c [.int .i64 u] hx rfl ?_ ?_ (by decide) (by unfold maxLen; omega) (by omega) hbase (fun v' w' h2 h3 h4 => h v' w' ?_ h3 h4)
  · intro j y hj
    cases j with
    | zero => cases hj; exact hc
    | succ j => cases hj
  · intro y hy
    rw [List.mem_singleton.1 hy]
    rfl
  · rw [ints_append, List.length_append]
    exact h2
end

/-- An owned row of ints reads. -/
theorem Owns.rd {W : World} {base : Nat} {e : TypeId} {v : Value} {xs : List Int} (h : W.ownsRow base e 1 v xs.length (ints xs)) : ∃ A cap, v = .slice A xs.length cap ∧ RdV W A (ints xs) ∧ ∀ a, A = some a → base ≤ a.block := by
  obtain ⟨A, cap, rfl, hn, hl, hr⟩ := Owns.shape h
  rcases hr with ⟨h0, rfl⟩ | ⟨g, rfl, hg, hc⟩
  · exact ⟨none, cap, rfl, .inl h0, fun a ha => by cases ha⟩
  · exact ⟨some ⟨g, 0, none⟩, cap, rfl, .inr ⟨g, 0, rfl, fun j v hv => by rw [Nat.zero_add]; exact hc j v hv⟩, fun a ha => by cases ha; exact hg⟩

/-- A table of owned rows: block g holds the slices; each owns its row of ints from block 'base' on; no two lie in one row. -/
structure ORows (W : World) (base g : Nat) (T e : TypeId) (rs : List (Value × List Int)) : Prop where
  blk : Blk W g (rs.map Prod.fst) T
  lt : g < base
  low : base ≤ W.heap.size
  own : ∀ (i : Nat) (v : Value) (xs : List Int), rs[i]? = some (v, xs) → W.ownsRow base e 1 v xs.length (ints xs)
  apart : ∀ (i j : Nat) (v : Value) (xs : List Int) (v' : Value) (xs' : List Int) (k : Nat), i ≠ j → rs[i]? = some (v, xs) → rs[j]? = some (v', xs') → v.ownBlock = some k → v'.ownBlock ≠ some k

theorem ORows.ext {W W' : World} {base g : Nat} {T e : TypeId} {rs : List (Value × List Int)} (h : ORows W base g T e rs) (hx : Ext W W') : ORows W' base g T e rs :=
  ⟨h.blk.ext hx, h.lt, Nat.le_trans h.low hx.size, fun i v xs hi => Owns.ext (h.own i v xs hi) hx, h.apart⟩

/-- A row has grown, and the table's place is set. -/
theorem ORows.step {W W1 : World} {base g : Nat} {T e : TypeId} {rs : List (Value × List Int)} (h : ORows W base g T e rs) {i : Nat} {v v' : Value} {xs xs' : List Int} (hi : rs[i]? = some (v, xs))
    (hown : W1.ownsRow base e 1 v' xs'.length (ints xs')) (hg : W.grownBy W1 v.ownBlock) (hs : ∀ k, v'.ownBlock = some k → v.ownBlock = some k ∨ W.heap.size ≤ k) :
    ORows (W1.setCell ⟨g, i, none⟩ v') base g T e (rs.set i (v', xs')) := by
  have hne : some g ≠ v.ownBlock := by
    intro e
    have := ((h.own i v xs hi).lt g e.symm).1
    have := h.lt
    omega
  have hlt := (List.getElem?_eq_some_iff.1 hi).1
  refine ⟨?_, h.lt, ?_, ?_, ?_⟩
  · have := (Grown.blk hg h.blk hne).set i v'
    rw [List.map_set]
    exact this
  · rw [World.size_setCell]
    exact Nat.le_trans h.low hg.size
  · intro j u ys hj
    by_cases hij : i = j
    · subst hij
      rw [List.getElem?_set_self hlt] at hj
      cases hj
      exact Owns.set hown i v' h.lt
    · rw [List.getElem?_set_ne hij] at hj
      refine Owns.set ((h.own j u ys hj).kept hg ?_) i v' h.lt
      cases hu : u.ownBlock with
      | none => exact .inl rfl
      | some k => exact .inr (fun e => h.apart i j v xs u ys k hij hi hj e.symm hu)
  · intro j1 j2 u1 y1 u2 y2 k hne12 hj1 hj2 hu1 hu2
    have oldlt : ∀ (j : Nat) (u : Value) (ys : List Int), rs[j]? = some (u, ys) → ∀ k, u.ownBlock = some k → k < W.heap.size := fun j u ys hj k hk => ((h.own j u ys hj).lt k hk).2
    by_cases h1 : i = j1
    · subst h1
      rw [List.getElem?_set_self hlt] at hj1
      rw [List.getElem?_set_ne hne12] at hj2
      cases hj1
      rcases hs k hu1 with h3 | h3
      · exact h.apart i j2 v xs u2 y2 k hne12 hi hj2 h3 hu2
      · have := oldlt j2 u2 y2 hj2 k hu2
        omega
    · rw [List.getElem?_set_ne h1] at hj1
      by_cases h2 : i = j2
      · subst h2
        rw [List.getElem?_set_self hlt] at hj2
        cases hj2
        rcases hs k hu2 with h3 | h3
        · exact h.apart i j1 v xs u1 y1 k h1 hi hj1 h3 hu1
        · have := oldlt j1 u1 y1 hj1 k hu1
          omega
      · rw [List.getElem?_set_ne h2] at hj2
        exact h.apart j1 j2 u1 y1 u2 y2 k hne12 hj1 hj2 hu1 hu2

/-- An owned table reads. -/
theorem ORows.rd {W : World} {base g : Nat} {T e : TypeId} {rs : List (Value × List Int)} (h : ORows W base g T e rs) : ∃ R : List Row, RdR W (some ⟨g, 0, none⟩) R ∧ rows R = rs.map Prod.snd ∧ R.length = rs.length := by
  have key : ∀ l : List (Value × List Int), (∀ p ∈ l, ∃ i : Nat, rs[i]? = some p) → ∃ R : List Row, R.map Row.val = l.map Prod.fst ∧ rows R = l.map Prod.snd ∧ ∀ r ∈ R, RdV W r.A (ints r.xs) := by
    intro l
    induction l with
    | nil => exact fun _ => ⟨[], rfl, rfl, fun r hr => by cases hr⟩
    | cons p l ih =>
      intro hl
      obtain ⟨R, h1, h2, h3⟩ := ih fun q hq => hl q (List.mem_cons_of_mem _ hq)
      obtain ⟨i, hi⟩ := hl p (List.mem_cons_self)
      obtain ⟨v, xs⟩ := p
      obtain ⟨A, cap, rfl, hr, _⟩ := Owns.rd (h.own i v xs hi)
      refine ⟨⟨A, cap, xs⟩ :: R, by simp [h1, Row.val], by simp [rows] at h2 ⊢; exact h2, ?_⟩
      intro r hr'
      rcases List.mem_cons.1 hr' with rfl | h4
      · exact hr
      · exact h3 r h4
  obtain ⟨R, h1, h2, h3⟩ := key rs fun p hp => List.getElem?_of_mem hp
  refine ⟨R, ⟨?_, h3⟩, h2, ?_⟩
  · rw [h1]
    refine .inr ⟨g, 0, rfl, fun j v hv => ?_⟩
    rw [Nat.zero_add]
    exact h.blk.cell j hv
  · have := congrArg List.length h2
    simpa [rows] using this

theorem run_append_zero {P : Program} {t ty e : TypeId} (ht : P.underlying t = some (.slice e)) {i : TypeInfo} (hi : P.info? e = some i) (A B : Option Addr) (n c c2 : Nat) (hn : n ≤ c) (w : World) :
    (Builtin.append_ #[t, t] ty #[.slice A n c, .slice B 0 c2]).run P w = .ok (.slice A n c) w := by
  have hl : ∀ a : Addr, (loadCells a 0).run P w = .ok #[] w := fun a => by
    unfold loadCells loadCellsFrom
    rfl
  cases A <;> cases B <;> simp [Builtin.append_, run_underlying ht, sizeOf, typeInfo, hi, Builtin.lenOf, Builtin.firstCells, hn, Result.andThen, storeCells, hl]
/-- append(v, out...) of ints. -/
theorem wpList_append_ints {P : Program} {w : World} {ops : Array Oper} {rest : List Oper} {o : Oper} {a : Act} {Q : Exit → Act → World → Prop} (hgd : o.guard = none) (s x : Operand) (t e : TypeId)
    (ho : o.op = .call { callee := .builtin .append, args := #[s, x], argTypes := #[t, t] }) (ht : P.underlying t = some (.slice e))
    (hinf : (P.info? e).map (fun i => (i.zero, i.size, i.bytes)) = some (some (.int .i64 0), 1, 8)) (base : Nat)
    (v : Value) (xs : List Int) (hs : a.eval s = v) (hown : w.ownsRow base e 1 v xs.length (ints xs))
    (B : Option Addr) (c : Nat) (out : List Int) (hx : a.eval x = .slice B out.length c) (hr : RdV w B (ints out))
    (hbig : xs.length + out.length ≤ 1000000000) (hbase : base ≤ w.heap.size)
    (h : ∀ v' w', w'.ownsRow base e 1 v' (xs ++ out).length (ints (xs ++ out)) → w.grownBy w' v.ownBlock → (∀ k, v'.ownBlock = some k → v.ownBlock = some k ∨ w.heap.size ≤ k) → wpList P ops Q rest (a.put o.dst v') w') : wpList P ops Q (o :: rest) a w := by
  obtain ⟨i, hi, hz, hsz, hby⟩ := info_parts hinf
  by_cases h0 : out = []
  · subst h0
    obtain ⟨A, cap, rfl, hn, _, _⟩ := Owns.shape hown
    refine wpList_plain hgd fun K hK => ?_
    unfold Oper.wp
    have hrun := run_append_zero (t := t) (ty := o.type) ht hi A B xs.length cap c hn w
    simp only [List.length_nil] at hx
    simp [execOp, ho, resolve, invoke, builtin, hs, hx, hrun, Result.andThen]
    exact hK _ _ (h _ w (by simpa using hown) ⟨rfl, rfl, rfl, Nat.le_refl _, fun _ _ _ => rfl⟩ (fun k hk => .inl hk))
  · rcases hr with hr | ⟨b, off, rfl, hc⟩
    · exact absurd (List.map_eq_nil_iff.1 hr) h0
    · refine wpList_append_row hgd s x t ho base e i _ 1 8 ht hi hz hsz hby rfl (by decide) v xs.length (ints xs) hs hown ⟨b, off, none⟩ out.length c (ints out) hx (by rw [ints_length, Nat.mul_one]) ?_ ?_ (List.length_pos_iff.2 h0) (by unfold maxLen; omega) (by omega) hbase (fun v' w' h2 h3 h4 => h v' w' ?_ h3 h4)
      · intro j y hj
        have : (⟨b, off, none⟩ : Addr).add j = ⟨b, off + j, none⟩ := by unfold Addr.add; split <;> simp_all
        rw [this]
        exact hc j y hj
      · intro y hy
        obtain ⟨n, _, rfl⟩ := List.mem_map.1 hy
        rfl
      · rw [ints_append, List.length_append]
        exact h2
end Go.Proofs.Ytclgclcoblfddaa
