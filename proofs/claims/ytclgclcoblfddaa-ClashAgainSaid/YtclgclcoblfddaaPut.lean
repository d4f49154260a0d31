/- Chapter 21: the function that Pulls puts pulls by. -/
import Derived.Test.YtclgclcoblfddaaRowIt
import Derived.Test.YtclgclcoblfddaaIt
namespace Go.Proofs.Ytclgclcoblfddaa
open Go.RowKit Go.Shelf
set_option linter.unusedVariables false
set_option linter.unusedSimpArgs false
attribute [local go_sem] Oper.semAt_some

/-- append, inside a fence: the row's own block, or a new one. -/
theorem wpListIn_append_row {F : Fence} {n : Nat} {P : Program} (w : World) {ops : Array Oper} {rest : List Oper} {o : Oper} {a : Act} {Q : Exit → Act → World → Prop}
    (hg : o.guard = none) (s x : Operand) (t : TypeId) (hop : o.op = Op.call { callee := Callee.builtin Builtin.append, args := #[s, x], argTypes := #[t, t] })
    (base : Nat) (e : TypeId) (i : TypeInfo) (z : Value) (size bytes : Nat) (h1 : P.underlying t = some (.slice e)) (h2 : P.info? e = some i) (h3 : i.zero = some z) (h4 : i.size = size) (h5 : i.bytes = bytes) (h6 : z.cells.size = size) (h7 : 0 < size)
    (v : Value) (k : Nat) (xs : List Value) (hs : a.eval s = v) (hown : w.ownsRow base e size v k xs) (ad : Addr) (m c : Nat) (news : List Value) (hx : a.eval x = .slice (some ad) m c) (hn : news.length = m * size)
    (hc : ∀ j u, news[j]? = some u → w.cell? (ad.add j) = some u) (h1c : ∀ u ∈ news, u.oneCell' = true) (b1 : k + m ≤ maxLen) (b2 : (k + m) * bytes ≤ 140737488355328) (b3 : base ≤ w.heap.size)
    (hK : ∀ v' w', w'.ownsRow base e size v' (k + m) (xs ++ news) → w.grownBy w' v.ownBlock → (∀ j, v'.ownBlock = some j → v.ownBlock = some j ∨ w.heap.size ≤ j) → wpListIn F n P ops Q rest (a.put o.dst v') w') :
    wpListIn F n P ops Q (o :: rest) a w := by
  obtain ⟨v', w', hrun, r1, r2, r3⟩ : ∃ v' w', (Builtin.append_ #[t, t] o.type #[v, .slice (some ad) m c]).run P w = .ok v' w' ∧ w'.ownsRow base e size v' (k + m) (xs ++ news) ∧ w.grownBy w' v.ownBlock ∧ (∀ j, v'.ownBlock = some j → v.ownBlock = some j ∨ w.heap.size ≤ j) := by
    have lift : ∀ {v' : Value} {w' : World} {l : List Value}, w'.ownsRow w.heap.size e size v' (k + m) l → w'.ownsRow base e size v' (k + m) l := fun {v' w' l} h => by
      obtain ⟨q1, q2⟩ := h
      refine ⟨q1, q2.imp_right ?_⟩
      rintro ⟨g, cap, cur, p1, p2, p3⟩
      exact ⟨g, cap, cur, p1, by omega, p3⟩
    rcases hown.2 with ⟨rfl, rfl⟩ | ⟨g, cap, cur, rfl, hb, hgc, hnc, hcap, hcs, htk⟩
    · obtain rfl : xs = [] := List.eq_nil_of_length_eq_zero (by simpa using hown.1)
      obtain ⟨v', w', hrun, r1, r2, _⟩ := run_append_own (P := P) w w.heap.size t o.type e i z size bytes h1 h2 h3 h4 h5 h6 h7 (.slice none 0 0) 0 [] (World.ownsRow_nil w _ e size) ad m c news hn hc h1c b1 b2 (Nat.le_refl _)
      exact ⟨v', w', hrun, lift r1, r2, fun j hj => .inr (r1.lt j hj).1⟩
    · by_cases hroom : k + m ≤ cap
      · obtain ⟨w', hrun, r1, r2⟩ := run_append_own_spare (P := P) w base t o.type e i size h1 h2 h4 g k cap xs hown ad m c news hn hc h1c hroom
        exact ⟨_, w', hrun, r1, r2, fun j hj => .inl hj⟩
      · obtain ⟨v', w', hrun, r1, r2⟩ := run_append_arg_grows (P := P) w t o.type e i z size bytes h1 h2 h3 h4 h5 h6 h7 ⟨g, 0, none⟩ k cap xs hown.1 (hown.cells (g := g) rfl) ad m c news hn hc (by omega) b1 b2
        exact ⟨v', w', hrun, lift r1, ⟨r2.os, r2.tape, r2.output, r2.size, fun j hj _ => r2.block j hj (by simp)⟩, fun j hj => .inr (r1.lt j hj).1⟩
  refine wpListIn_plain hg fun K hK' => ?_
  unfold Oper.wpIn
  refine ⟨?_, ?_⟩
  · simp [Oper.about, hop, resolve, Target.leads, Sem.run_pure]
  · rw [Oper.semAt_plain F _ _ (by rw [hop]; intro c hc'; cases hc')]
    simp [execOp, hop, resolve, invoke, builtin, hs, hx, hrun, Result.andThen]
    exact hK' _ _ (hK v' w' r1 r2 r3)
/-- Pulls of one row. -/
def pl1 (on : List Bool) (t : Int) (m only : Bool) (n : Int) : List It := if on.getD n.toNat false || !only then [⟨n, t, m⟩] else []
def plRow (on : List Bool) (u t : Int) (m only : Bool) (tb : List (List Int)) : List It := (rowU tb u on.length).flatMap (pl1 on t m only)
def plPut (on : List Bool) (u t : Int) (m only : Bool) (tbs : List (List (List Int))) : List It := tbs.flatMap (plRow on u t m only)
/-- A table, as a slice tells it. -/
structure Tb where
  A : Option Addr
  rs : List Row
  c : Nat
def Tb.v (b : Tb) : Value := .slice b.A b.rs.length b.c
def Tb.l (b : Tb) : List (List Int) := rows b.rs
/-- .. in a world, and not great. -/
def Tb.ok (W : World) (b : Tb) : Prop := RdR W b.A b.rs ∧ b.rs.length ≤ 1000 ∧ ∀ r ∈ b.rs, r.xs.length ≤ 1000
def marks (ds : List Nat) : List Deferred := ds.map fun D => { target := .collected D, args := #[] }
/-- The rounds' blocks for deferred calls: none was called. -/
def Marked (B : Nat) (ds : List Nat) (W : World) : Prop := ds.Nodup ∧ ∀ D ∈ ds, B ≤ D ∧ W.heap[D]? = some (.deferred (some []))
theorem leaves_marks {F : Fence} {n : Nat} {P : Program} {fn : Func} {tmps : Array Value} {R : Ending → World → Prop} (B : Nat) (Φ : World → Prop) (hΦ : ∀ W D, B ≤ D → W.heap[D]? = some (.deferred (some [])) → Φ W → Φ (W.putObj D (.deferred none)))
    (hR : ∀ W, Φ W → LeavesIn F n P fn tmps R [] .returning W) : ∀ (ds : List Nat) (W : World), Marked B ds W → Φ W → LeavesInM F n P fn tmps R (marks ds) .returning W
  | [], W, _, h => hR W h
  | D :: ds, W, ⟨hnd, hm⟩, h => by
    obtain ⟨h1, h2⟩ := List.nodup_cons.1 hnd
    obtain ⟨k1, k2⟩ := hm D List.mem_cons_self
    refine ⟨by simp, .inl ⟨D, _, rfl, run_takeDeferred k2, ?_⟩⟩
    exact leaves_marks B Φ hΦ hR ds _ ⟨h2, fun E hE => ⟨(hm E (List.mem_cons_of_mem _ hE)).1, (World.putObj_heap_other (fun e => h1 (by rw [← e]; exact hE))).trans (hm E (List.mem_cons_of_mem _ hE)).2⟩⟩ (hΦ W D k1 k2 h)
theorem KpS.refl (keep : Nat → Prop) (W : World) : KpS keep W W := fun _ _ => rfl
theorem KpS.grown {keep : Nat → Prop} {A B C : World} {row : Option Nat} (h : KpS keep A B) (hg : B.grownBy C row) (hk : ∀ k, keep k → k < B.heap.size ∧ some k ≠ row) : KpS keep A C := fun k h1 => (hg.block k (hk k h1).1 (hk k h1).2).trans (h k h1)
theorem KpS.boxed {keep : Nat → Prop} {A B : World} (h : KpS keep A B) {b : Nat} (hb : keep b) {t : TypeId} {v : Value} (hv : Boxed A b t v) : Boxed B b t v := (h b hb).trans hv
theorem row_calls (A : Option Addr) (n c : Nat) (u many : Int) (w : World) : Calls Try.prog 53 #[.slice A n c, .int .i64 u, .int .i64 many] w fun e w' => e = .returned (.func (.func 76) #[] #[.pointer (some ⟨w.heap.size + 1, 0, none⟩), .pointer (some ⟨w.heap.size, 0, none⟩), .pointer (some ⟨w.heap.size + 1 + 1, 0, none⟩)]) ∧
    w' = ((w.alloc (.cells #[.slice A n c] 22)).alloc (.cells #[.int .i64 u] 3)).alloc (.cells #[.int .i64 many] 3) := by
  go_enter Try.func53, Try.ntmps53
  go_wp2_with fail
  go_ret
  exact ⟨by simp, rfl⟩
theorem infoPull : (Try.prog.info? 55).map (fun i => (i.zero, i.size, i.bytes)) = some (some (.agg #[.int .i64 0, .int .u8 0, .bool false]), 3, 24) := by kernel_rfl
/-- What is kept: all but the variable and its row. -/
def kp0 (w : World) (bo : Nat) (v0 : Value) (k : Nat) : Prop := k < w.heap.size ∧ k ≠ bo ∧ v0.ownBlock ≠ some k
/-- The variable holds l, in its old row or a new one. -/
structure PI (base bo : Nat) (v0 : Value) (w1 : World) (l : List It) (W : World) : Prop where
  box : ∃ v, Boxed W bo 53 v ∧ W.ownsRow base 55 3 v l.length (itCells l) ∧ ∀ k, v.ownBlock = some k → v0.ownBlock = some k ∨ w1.heap.size ≤ k
  bel : Below base w1 W
  kp : KpS (kp0 w1 bo v0) w1 W
  sz : w1.heap.size ≤ W.heap.size
theorem PI.own {base bo B : Nat} {v0 : Value} {w1 : World} {f : List Int → List It} (hB : w1.heap.size ≤ B) (hb : base ≤ w1.heap.size) : OwnFrom B (fun pre W => PI base bo v0 w1 (f pre) W) := by
  intro s X Y row h hg hr
  refine ⟨?_, h.bel.grown hg (Nat.le_trans hb h.sz) (fun k e => by have := (hr k e).1; omega), h.kp.grown hg (fun k hk => ⟨by have := hk.1; have := h.sz; omega, fun e => by have := (hr k e.symm).1; have := hk.1; omega⟩), Nat.le_trans h.sz hg.size⟩
  exact (Own.from (holdsRow_own base bo 53 55 3 (fun s : List Int => (f s).length) (fun s => itCells (f s)) (fun _ v => ∀ k, v.ownBlock = some k → v0.ownBlock = some k ∨ w1.heap.size ≤ k)) B) s X Y row h.box hg hr
theorem PI.alloc {base bo : Nat} {v0 : Value} {w1 W : World} {l : List It} (h : PI base bo v0 w1 l W) (hb : base ≤ w1.heap.size) (o : Obj) : PI base bo v0 w1 l (W.alloc o) :=
  (PI.own (f := fun _ => l) (Nat.le_refl _) hb) ([] : List Int) _ _ none h (World.grownBy_alloc W o none) (fun _ e => by cases e)
theorem PI.putObj {base bo D : Nat} {v0 : Value} {w1 W : World} {l : List It} (h : PI base bo v0 w1 l W) (hb : base ≤ w1.heap.size) (hD : w1.heap.size ≤ D) {o : Obj} (hl : W.heap[D]? = some o) (ho : o.isCells = false) (o' : Obj) : PI base bo v0 w1 l (W.putObj D o') :=
  (PI.own (f := fun _ => l) (Nat.le_refl _) hb).putObj (s := ([] : List Int)) o' h hD hl ho
theorem Boxed.keep {W W' : World} {B : Nat} {t : TypeId} {v : Value} (h : Boxed W B t v) (hx : Ext W W') : Boxed W' B t v := (hx.block B h.lt).trans h
theorem World.cell?_lt {W : World} {p : Addr} {v : Value} (h : W.cell? p = some v) : p.block < W.heap.size := by
  unfold World.cell? at h
  rcases Nat.lt_or_ge p.block W.heap.size with h1 | h1
  · exact h1
  · rw [Array.getElem?_eq_none h1] at h; simp at h
theorem PI.back {base bo : Nat} {v0 : Value} {w w1 W : World} {l : List It} (hx : Ext w w1) (hb : base ≤ w.heap.size) (h : PI base bo v0 w1 l W) : PI base bo v0 w l W := by
  obtain ⟨v, h1, h2, h3⟩ := h.box
  have hs := hx.size
  exact ⟨⟨v, h1, h2, fun k hk => (h3 k hk).imp_right (fun h => by omega)⟩, (hx.mono hb).trans h.bel, fun k hk => (h.kp k ⟨by have := hk.1; omega, hk.2⟩).trans (hx.block k hk.1), by have := h.sz; omega⟩
theorem PI.trans {base bo : Nat} {v0 v4 : Value} {w1 W4 W : World} {l : List It} (h : PI base bo v4 W4 l W) (hv : ∀ k, v4.ownBlock = some k → v0.ownBlock = some k ∨ w1.heap.size ≤ k) (hb : Below base w1 W4) (hk : KpS (kp0 w1 bo v0) w1 W4) (hs : w1.heap.size ≤ W4.heap.size) : PI base bo v0 w1 l W := by
  obtain ⟨v, h1, h2, h3⟩ := h.box
  refine ⟨⟨v, h1, h2, fun k e => ?_⟩, hb.trans h.bel, fun k hk0 => (h.kp k ⟨by have := hk0.1; omega, hk0.2.1, fun e => ?_⟩).trans (hk k hk0), by have := h.sz; omega⟩
  · rcases h3 k e with h4 | h4
    · exact hv k h4
    · exact .inr (by omega)
  · rcases hv k e with h4 | h4
    · exact hk0.2.2 h4
    · have := hk0.1; omega
/-- A pull more. -/
theorem PI.step {base bo B B1 : Nat} {v0 : Value} {w1 W w2 : World} {l : List It} {ds : List Nat} {y : It} {tmp : Obj} {v v' : Value} (h : PI base bo v0 w1 l W) (hbw1 : base ≤ w1.heap.size) (hbase : base ≤ bo) (hM : Marked B ds W) (hB1 : w1.heap.size ≤ B1)
    (hv : Boxed W bo 53 v) (hrow : W.ownsRow base 55 3 v l.length (itCells l)) (hvo : ∀ k, v.ownBlock = some k → v0.ownBlock = some k ∨ w1.heap.size ≤ k)
    (hown' : w2.ownsRow base 55 3 v' (l.length + 1) (itCells l ++ [.int .i64 y.u, .int .u8 y.t, .bool y.m])) (hgrow : (W.alloc tmp).grownBy w2 v.ownBlock) (hsb : ∀ k, v'.ownBlock = some k → v.ownBlock = some k ∨ (W.alloc tmp).heap.size ≤ k) :
    KeepsFrom B1 W (w2.setCell ⟨bo, 0, none⟩ v') ∧ KpS (kp0 w1 bo v0) W (w2.setCell ⟨bo, 0, none⟩ v') ∧ PI base bo v0 w1 (l ++ [y]) (w2.setCell ⟨bo, 0, none⟩ v') ∧ Marked B ds (w2.setCell ⟨bo, 0, none⟩ v') := by
  have hbl : base ≤ W.heap.size := Nat.le_trans hbw1 h.sz
  obtain ⟨hv1, hv2, hr2, hk2, hb2⟩ := hv.appended (by decide) hrow hbl hbase hown' hgrow
  have hkp : KpS (kp0 w1 bo v0) W (w2.setCell ⟨bo, 0, none⟩ v') := fun k hk => by
    have hks : k < W.heap.size := Nat.lt_of_lt_of_le hk.1 h.sz
    have h1 := (grownBy_setCell' w2 bo v').block k (by have := hgrow.size; simp at this; omega) (fun e => hk.2.1 (by cases e; rfl))
    have h2 := hgrow.block k (by simp; omega) (fun e => by
      rcases hvo k e.symm with h3 | h3
      · exact hk.2.2 h3
      · have := hk.1; omega)
    have h3 := (World.grownBy_alloc W tmp none).block k hks (by simp)
    exact h1.trans (h2.trans h3)
  have hz : W.heap.size ≤ (w2.setCell ⟨bo, 0, none⟩ v').heap.size := hk2.size
  refine ⟨hk2.from _, hkp, ⟨⟨v', hv2, ?_, fun k hk => ?_⟩, h.bel.trans hb2, h.kp.trans hkp, Nat.le_trans h.sz hz⟩, hM.1, fun D hD => ⟨(hM.2 D hD).1, hk2.same D _ (hM.2 D hD).2 rfl⟩⟩
  · have e1 : itCells (l ++ [y]) = itCells l ++ [.int .i64 y.u, .int .u8 y.t, .bool y.m] := by simp [itCells]
    rw [e1, List.length_append]; exact hr2
  · rcases hsb k hk with h3 | h3
    · exact hvo k h3
    · refine .inr ?_
      have := h.sz
      simp at h3; omega
theorem okB_bounds {u many x : Int} (h : okB u many x = true) : 0 ≤ x ∧ x < many := by
  unfold okB at h
  simp only [Bool.and_eq_true, decide_eq_true_eq] at h
  exact ⟨h.1.1, h.1.2⟩
theorem rowU_length (tb : List (List Int)) (u many : Int) (n : Nat) (h : ∀ r ∈ tb, r.length ≤ n) : (rowU tb u many).length ≤ n := by
  unfold rowU
  refine Nat.le_trans (List.length_filter_le _ _) ?_
  rw [List.getD_eq_getElem?_getD]
  cases e : tb[u.toNat]? with
  | none => simp
  | some r => exact h r (List.mem_of_getElem? e)
theorem pl1_length (on : List Bool) (t : Int) (m only : Bool) (n : Int) : (pl1 on t m only n).length ≤ 1 := by
  unfold pl1; split <;> simp
theorem pls_length (on : List Bool) (t : Int) (m only : Bool) : ∀ l : List Int, (l.flatMap (pl1 on t m only)).length ≤ l.length
  | [] => Nat.le_refl _
  | x :: l => by
    have := pls_length on t m only l
    have := pl1_length on t m only x
    simp only [List.flatMap_cons, List.length_append, List.length_cons]
    omega
theorem plPut_length (on : List Bool) (u t : Int) (m only : Bool) (n : Nat) : ∀ tbs : List (List (List Int)), (∀ tb ∈ tbs, ∀ r ∈ tb, r.length ≤ n) → (plPut on u t m only tbs).length ≤ tbs.length * n
  | [], _ => Nat.zero_le _
  | tb :: tbs, h => by
    have h1 := plPut_length on u t m only n tbs fun x hx => h x (List.mem_cons_of_mem _ hx)
    have h2 := pls_length on t m only (rowU tb u on.length)
    have h3 := rowU_length tb u on.length n (h tb List.mem_cons_self)
    unfold plPut at h1 ⊢
    unfold plRow at h1 ⊢
    simp only [List.flatMap_cons, List.length_append, List.length_cons, Nat.succ_mul]
    omega
theorem Marked.own {β : Type} {B C : Nat} {ds : List Nat} (h : ∀ D ∈ ds, D < C) : OwnFrom C (fun (_ : β) W => Marked B ds W) := by
  intro s X Y row ⟨h1, h2⟩ hg hr
  exact ⟨h1, fun D hD => ⟨(h2 D hD).1, (hg.block D (Array.getElem?_eq_some_iff.1 (h2 D hD).2).1 (fun e => by have := (hr D e.symm).1; have := h D hD; omega)).trans (h2 D hD).2⟩⟩

set_option maxRecDepth 100000 in
set_option maxHeartbeats 4000000 in
theorem put_calls (n : Nat) (hn : 3 ≤ n) (base bj bon bo u con c3 : Nat) (t : Int) (m only : Bool) (on : List Bool) (Aon A3 : Option Addr) (tbs : List Tb) (l0 : List It) (v0 : Value) (wr0 w : World)
    (hj : w.cell? ⟨bj, 0, none⟩ = some (.int .i64 u)) (hon : Boxed w bon 25 (.slice Aon on.length con)) (hob : RdV w Aon (on.map .bool)) (hol : on.length ≤ 1000)
    (hbo : Boxed w bo 53 v0) (how : w.ownsRow base 55 3 v0 l0.length (itCells l0)) (hbase : base ≤ bo) (hrows : RdV w A3 (tbs.map Tb.v)) (htb : ∀ tb ∈ tbs, tb.ok wr0) (hold : Below wr0.heap.size wr0 w) (hwb : wr0.heap.size ≤ base)
    (d1 : bj ≠ bo) (d2 : bon ≠ bo) (d3 : v0.ownBlock ≠ some bj) (d4 : v0.ownBlock ≠ some bon) (hbj : bj < w.heap.size)
    (d5 : ∀ a, Aon = some a → a.block ≠ bo ∧ v0.ownBlock ≠ some a.block) (d6 : ∀ a, A3 = some a → a.block ≠ bo ∧ v0.ownBlock ≠ some a.block) (hl0 : l0.length ≤ 100000) (htl : tbs.length ≤ 10) :
    CallsIn Fence.wide n Try.prog 52 #[.int .u8 t, .bool m, .bool only, .slice A3 tbs.length c3, .pointer (some ⟨bj, 0, none⟩), .pointer (some ⟨bon, 0, none⟩), .pointer (some ⟨bo, 0, none⟩)] w
      fun e w' => (∃ v, e = .returned v) ∧ PI base bo v0 w (l0 ++ plPut on u t m only (tbs.map Tb.l)) w' := by
  refine callsIn_of_wp_marks Try.func52 rfl trivial ?_ rfl
  simp only [Try.ntmps52, List.size_toArray, List.length_cons, List.length_nil, Nat.reduceAdd, Nat.reduceSub, Array.replicate_succ, Array.replicate_zero, List.push_toArray, List.append_toArray, List.nil_append, List.cons_append]
  have hbw : base ≤ w.heap.size := by have := hbo.lt; omega
  gi_wp2
  obtain ⟨w1, hw1⟩ : ∃ w1, ((w.alloc (.cells #[.int .u8 t] 5)).alloc (.cells #[.bool m] 4)).alloc (.cells #[.bool only] 4) = w1 := ⟨_, rfl⟩
  have x1 : Ext w w1 := by rw [← hw1]; exact (((Ext.refl w).alloc _).alloc _).alloc _
  have b7 : Boxed w1 w.heap.size 5 (.int .u8 t) := by rw [← hw1]; exact ((Boxed.new w _ _).alloc _).alloc _
  have b8 : Boxed w1 (w.heap.size + 1) 4 (.bool m) := by rw [← hw1]; have := (Boxed.new (w.alloc (.cells #[.int .u8 t] 5)) 4 (.bool m)).alloc (.cells #[.bool only] 4); rwa [World.size_alloc] at this
  have b9 : Boxed w1 (w.heap.size + 1 + 1) 4 (.bool only) := by rw [← hw1]; have := Boxed.new ((w.alloc (.cells #[.int .u8 t] 5)).alloc (.cells #[.bool m] 4)) 4 (.bool only); rwa [World.size_alloc, World.size_alloc] at this
  have hs1 : w.heap.size + 3 ≤ w1.heap.size := by rw [← hw1]; simp
  have hbw1 : base ≤ w1.heap.size := by omega
  have P0 : PI base bo v0 w1 l0 w1 := ⟨⟨v0, Boxed.keep hbo x1, Owns.ext how x1, fun k h => .inl h⟩, Below.refl _ _, KpS.refl _ _, Nat.le_refl _⟩
  rw [hw1]
  have kj : kp0 w1 bo v0 bj := ⟨by omega, d1, d3⟩
  have kon : kp0 w1 bo v0 bon := ⟨by have := hon.lt; omega, d2, d4⟩
  have hbol := hbo.lt
  have hvl : ∀ k, v0.ownBlock = some k → k < w.heap.size := fun k hk => (how.lt k hk).2
  have k7 : kp0 w1 bo v0 w.heap.size := ⟨by omega, by omega, fun e => by have := hvl _ e; omega⟩
  have k8 : kp0 w1 bo v0 (w.heap.size + 1) := ⟨by omega, by omega, fun e => by have := hvl _ e; omega⟩
  have k9 : kp0 w1 bo v0 (w.heap.size + 1 + 1) := ⟨by omega, by omega, fun e => by have := hvl _ e; omega⟩
  replace hj : w1.cell? ⟨bj, 0, none⟩ = some (.int .i64 u) := x1.cell hj
  replace hon := Boxed.keep hon x1
  have kRow : ∀ (A : Option Addr) (vs : List Value), RdV w A vs → (∀ a, A = some a → a.block ≠ bo ∧ v0.ownBlock ≠ some a.block) → ∀ W, KpS (kp0 w1 bo v0) w1 W → RdV W A vs := by
    intro A vs hr hd W hk
    rcases hr with hr | ⟨b, o, e, hc⟩
    · exact .inl hr
    · refine .inr ⟨b, o, e, fun j v hv => ?_⟩
      have h1 := hc j v hv
      have hlt := World.cell?_lt h1
      have h2 := x1.cell h1
      rw [← h2]
      exact hk.cell ⟨by have h9 : b < w.heap.size := hlt; show b < w1.heap.size; omega, (hd _ e).1, (hd _ e).2⟩ _
  have hold1 : Old wr0.heap.size wr0 w1 := fun k hk => (x1.block k (by omega)).trans (hold.block k hk)
  have hwr0 : wr0.heap.size ≤ w.heap.size := by omega
  refine wpIn_loop (fun a' W => ∃ (i : Nat) (ds : List Nat) (x12 x13 x17 x18 x19 x20 x21 x22 x23 x24 x25 x26 x27 x28 x29 x30 x31 x32 x33 x34 x35 x36 x37 x38 x39 x40 x41 x42 x43 : Value), i ≤ tbs.length ∧ a' = { tmps := #[.int .u8 t, .bool m, .bool only, .slice A3 tbs.length c3, .pointer (some ⟨bj, 0, none⟩), .pointer (some ⟨bon, 0, none⟩), .pointer (some ⟨bo, 0, none⟩), .pointer (some ⟨w.heap.size, 0, none⟩), .pointer (some ⟨w.heap.size + 1, 0, none⟩), .pointer (some ⟨w.heap.size + 1 + 1, 0, none⟩), undef, undef, x12, x13, .slice A3 tbs.length c3, .int .i64 tbs.length, .int .i64 i, x17, x18, x19, x20, x21, x22, x23, x24, x25, x26, x27, x28, x29, x30, x31, x32, x33, x34, x35, x36, x37, x38, x39, x40, x41, x42, x43], defers := marks ds } ∧ Marked w1.heap.size ds W ∧ PI base bo v0 w1 (l0 ++ plPut on u t m only ((tbs.take i).map Tb.l)) W)
    (fun a' _ => tbs.length - (RowKit.intOf (a'.tmps.getD 16 undef)).toNat) ?start ?round
  case start =>
    exact ⟨0, [], _, _, _, _, _, _, _, _, _, _, _, _, _, _, _, _, _, _, _, _, _, _, _, _, _, _, _, _, _, Nat.zero_le _, rfl, ⟨List.nodup_nil, fun D hD => by cases hD⟩, by simpa [plPut] using P0⟩
  case round =>
    rintro a' W ⟨i, ds, x12, x13, x17, x18, x19, x20, x21, x22, x23, x24, x25, x26, x27, x28, x29, x30, x31, x32, x33, x34, x35, x36, x37, x38, x39, x40, x41, x42, x43, hi, rfl, hmk, hP⟩
    by_cases hil : i < tbs.length
    case neg =>
      have hili : ¬ (i : Int) < tbs.length := by omega
      obtain rfl : i = tbs.length := by omega
      rw [List.take_length] at hP
      gi_wp2
      refine leaves_marks w1.heap.size (PI base bo v0 w1 (l0 ++ plPut on u t m only (tbs.map Tb.l))) (fun W D hD hd h => h.putObj hbw1 hD hd rfl _) (fun W h => ?_) ds W hmk hP
      exact ⟨_, results_none rfl _ _ _, ⟨_, rfl⟩, h.back x1 hbw⟩
    case pos =>
      have hili : (i : Int) < tbs.length := by omega
      obtain ⟨tb, htbi⟩ : ∃ tb, tbs[i]? = some tb := ⟨_, List.getElem?_eq_getElem hil⟩
      have htk : (tbs.take (i + 1)).map Tb.l = (tbs.take i).map Tb.l ++ [tb.l] := by rw [List.take_add_one, htbi]; simp
      have hacc : l0 ++ plPut on u t m only ((tbs.take (i + 1)).map Tb.l) = (l0 ++ plPut on u t m only ((tbs.take i).map Tb.l)) ++ plRow on u t m only tb.l := by
        rw [htk]; simp [plPut]
      obtain ⟨b3, o3, e3, hc3⟩ : ∃ b o, A3 = some ⟨b, o, none⟩ ∧ W.cell? ⟨b, o + i, none⟩ = some tb.v := by
        rcases kRow A3 _ hrows d6 W hP.kp with hr | ⟨b, o, e, hc⟩
        · rw [List.map_eq_nil_iff.1 hr] at hil; simp at hil
        · exact ⟨b, o, e, hc i _ (by rw [List.getElem?_map, htbi]; rfl)⟩
      have HACC := Lib.hid hacc
      have HTB := Lib.hid htbi
      clear hacc htk htbi
      subst e3
      have cj : W.cell? ⟨bj, 0, none⟩ = some (.int .i64 u) := (hP.kp.cell kj 0).trans hj
      have con' := (hP.kp.boxed kon hon).cell
      obtain ⟨A, rs, c⟩ := tb
      gi_wp2
      refine ⟨trivial, fun _ => by omega, ?_⟩
      refine (callsIn_wide.2 (row_calls _ _ _ _ _ _)).mono ?_
      rintro e W4 ⟨rfl, hW4⟩
      have htb' := htb _ (List.mem_of_getElem? HTB.out)
      obtain ⟨Hr, hHr⟩ : ∃ Hr, W.heap.size = Hr := ⟨_, rfl⟩
      have x4 : Ext W W4 := by rw [hW4]; exact (((Ext.refl W).alloc _).alloc _).alloc _
      have q2 : Boxed W4 Hr 22 (.slice A rs.length c) := by rw [hW4, ← hHr]; exact ((Boxed.new W _ _).alloc _).alloc _
      have q1 : Boxed W4 (Hr + 1) 3 (.int .i64 u) := by rw [hW4, ← hHr]; have := (Boxed.new (W.alloc (.cells #[.slice A rs.length c] 22)) 3 (.int .i64 u)).alloc (.cells #[.int .i64 on.length] 3); rwa [World.size_alloc] at this
      have q3 : Boxed W4 (Hr + 1 + 1) 3 (.int .i64 on.length) := by rw [hW4, ← hHr]; have := Boxed.new ((W.alloc (.cells #[.slice A rs.length c] 22)).alloc (.cells #[.int .i64 u] 3)) 3 (.int .i64 on.length); rwa [World.size_alloc, World.size_alloc] at this
      have hs4 : Hr + 3 ≤ W4.heap.size := by rw [hW4, ← hHr]; simp
      have hP4 : PI base bo v0 w1 (l0 ++ plPut on u t m only ((tbs.take i).map Tb.l)) W4 := by rw [hW4]; exact ((hP.alloc hbw1 _).alloc hbw1 _).alloc hbw1 _
      have hmk4 : Marked w1.heap.size ds W4 := ⟨hmk.1, fun D hD => ⟨(hmk.2 D hD).1, (x4.block D (Array.getElem?_eq_some_iff.1 (hmk.2 D hD).2).1).trans (hmk.2 D hD).2⟩⟩
      have hml4 : ∀ D ∈ ds, D < W4.heap.size := fun D hD => (Array.getElem?_eq_some_iff.1 (hmk4.2 D hD).2).1
      have hs14 := hP4.sz
      rw [hHr]
      have hsW : w1.heap.size ≤ Hr := by rw [← hHr]; exact hP.sz
      obtain ⟨v4, bv4, ov4, cv4⟩ := hP.box
      have lv4 : ∀ k, v4.ownBlock = some k → k < Hr := fun k hk => by rw [← hHr]; exact (ov4.lt k hk).2
      have lb4 : bo < Hr := by rw [← hHr]; exact bv4.lt
      replace bv4 := Boxed.keep bv4 x4
      replace ov4 := Owns.ext ov4 x4
      clear hW4 hP hmk x4 cj con' hHr hc3
      have hPI0 : PI base bo v4 W4 (l0 ++ plPut on u t m only ((tbs.take i).map Tb.l)) W4 := ⟨⟨v4, bv4, ov4, fun k h => .inl h⟩, Below.refl _ _, KpS.refl _ _, Nat.le_refl _⟩
      have hold4 : Old wr0.heap.size wr0 W4 := fun k hk => (hP4.kp k ⟨by omega, by omega, fun e => by have := (how.lt k e).1; omega⟩).trans (hold1 k hk)
      have hacl : (l0 ++ plPut on u t m only ((tbs.take i).map Tb.l)).length ≤ 110000 := by
        have := plPut_length on u t m only 1000 ((tbs.take i).map Tb.l) (by
          intro tb htm r hr
          obtain ⟨tb', h1, rfl⟩ := List.mem_map.1 htm
          obtain ⟨r', h2, rfl⟩ := List.mem_map.1 hr
          exact (htb tb' (List.mem_of_mem_take h1)).2.2 r' h2)
        rw [List.length_append]
        rw [List.length_map, List.length_take] at this
        have h9 : min i tbs.length ≤ 10 := by omega
        have := Nat.mul_le_mul_right 1000 h9
        omega
      have hrl : (rowU (rows rs) u on.length).length ≤ 1000 := rowU_length _ _ _ _ (fun r hr => by obtain ⟨r', h1, rfl⟩ := List.mem_map.1 hr; exact htb'.2.2 r' h1)
      obtain ⟨acc, hac⟩ : ∃ acc, l0 ++ plPut on u t m only ((tbs.take i).map Tb.l) = acc := ⟨_, rfl⟩
      rw [hac] at hPI0 hacl hP4
      have HACC2 := Lib.hid (HACC.out.trans (congrArg (· ++ plRow on u t m only (Tb.l ⟨A, rs, c⟩)) hac))
      clear HACC hac
      gi_wp2
      refine wpIn_rangeFunc_ownH (F := Fence.wide) (n := n) rfl (by omega) (gf := 76) (lb := #[.pointer (some ⟨Hr + 1, 0, none⟩), .pointer (some ⟨Hr, 0, none⟩), .pointer (some ⟨Hr + 1 + 1, 0, none⟩)]) rfl trivial (enters_of Try.func76 (by kernel_rfl) rfl)
        (row_seq Fence.wide (n - 1) trivial rfl (by omega) (kp0 W4 bo v4) (Hr + 1) Hr (Hr + 1 + 1) c u on.length A rs wr0 W4 q1.cell q2.cell q3.cell ⟨by omega, by omega, fun e => by have := lv4 _ e; omega⟩ ⟨by omega, by omega, fun e => by have := lv4 _ e; omega⟩ ⟨by omega, by omega, fun e => by have := lv4 _ e; omega⟩
          htb'.1 (fun k hk => ⟨by omega, by omega, fun e => by have := (ov4.lt k e).1; omega⟩) hold4 (fun k hk => hk.1) (fun r hr => by have := htb'.2.2 r hr; omega) (by have := htb'.2.1; simp only at this; omega)) (fun h k => KpS.trans h k)
        (fun W l' o o' hl' ho hc _ => fun k hk => World.putObj_heap_other (by have := hk.1; omega)) (Below.refl _ W4) (fun _ => rfl)
        (fun pre W' => PI base bo v4 W4 (acc ++ (pre.map (·.1)).flatMap (pl1 on t m only)) W' ∧ Marked w1.heap.size ds W') (fun _ _ _ => False)
        (OwnFrom.and (fun s X Y row h hg hr => PI.own (f := fun p => acc ++ p.flatMap (pl1 on t m only)) (Nat.le_refl _) (by omega) (s.map (·.1)) X Y row h hg hr) (Marked.own hml4))
        (fun _ _ _ _ _ hs _ _ => hs) ⟨by simpa using hPI0, hmk4⟩
        (fun x a' W => a' = { tmps := #[.int .u8 t, .bool m, .bool only, .slice (some ⟨b3, o3, none⟩) tbs.length c3, .pointer (some ⟨bj, 0, none⟩), .pointer (some ⟨bon, 0, none⟩), .pointer (some ⟨bo, 0, none⟩), .pointer (some ⟨w.heap.size, 0, none⟩), .pointer (some ⟨w.heap.size + 1, 0, none⟩), .pointer (some ⟨w.heap.size + 1 + 1, 0, none⟩), undef, undef, (.slice A rs.length c), .int .i64 x.1, .slice (some ⟨b3, o3, none⟩) tbs.length c3, .int .i64 tbs.length, .int .i64 i, .bool true, .pointer (some ⟨b3, o3 + i, none⟩), .slice A rs.length c, .slice A rs.length c, .pointer (some ⟨bj, 0, none⟩), .int .i64 u, .slice Aon on.length con, .int .i64 on.length, .func (.func 76) #[] #[.pointer (some ⟨Hr + 1, 0, none⟩), .pointer (some ⟨Hr, 0, none⟩), .pointer (some ⟨Hr + 1 + 1, 0, none⟩)], .int .i64 x.1, x27, x28, x29, x30, x31, x32, x33, x34, x35, x36, x37, x38, x39, x40, x41, x42, x43], defers := [] })
        (fun x a' _ _ _ _ hs _ _ => hs)
        ?assign ?body ?done ?stop
      case assign =>
        rintro l' pre x W K hI hK
        gi_wp2
        exact hK _ _ (KeepsFrom.refl _ _) (KpS.refl _ _) hI rfl
      case body =>
        rintro l' pre ⟨x, hx⟩ a' W hl' ⟨rec, hrec⟩ ⟨hPI, hM⟩ rfl hlt
        obtain ⟨h0x, hxm⟩ := okB_bounds hx
        obtain ⟨p, rfl⟩ : ∃ p : Nat, x = p := ⟨x.toNat, by omega⟩
        have hpl : p < on.length := by omega
        have hpli : (p : Int) < on.length := hxm
        have hT := hPI.trans cv4 hP4.bel hP4.kp hP4.sz
        have e5 := (hT.kp.boxed kon hon).cell
        have e7 := (hT.kp.boxed k7 b7).cell
        have e8 := (hT.kp.boxed k8 b8).cell
        have e9 := (hT.kp.boxed k9 b9).cell
        obtain ⟨b, hb⟩ : ∃ b, on[p]? = some b := ⟨_, List.getElem?_eq_getElem hpl⟩
        obtain ⟨bA, oA, rfl, ecell⟩ : ∃ bA oA, Aon = some ⟨bA, oA, none⟩ ∧ W.cell? ⟨bA, oA + p, none⟩ = some (.bool b) := by
          rcases kRow Aon _ hob d5 W hT.kp with hr | ⟨b', o', e, hc⟩
          · rw [List.map_eq_nil_iff.1 hr] at hpl; simp at hpl
          · exact ⟨b', o', e, hc p _ (by rw [List.getElem?_map, hb]; rfl)⟩
        obtain ⟨v, hv, hrw, hvo⟩ := hPI.box
        have hc := hv.cell
        obtain ⟨i0, hi0, hz0, hz1, hz2⟩ := info_parts infoPull
        have hWs := hPI.sz
        have hsnoc : acc ++ ((pre ++ [(⟨(p : Int), hx⟩ : OkE u on.length)]).map (·.1)).flatMap (pl1 on t m only) = (acc ++ (pre.map (·.1)).flatMap (pl1 on t m only)) ++ pl1 on t m only p := by simp
        have hpf := pls_length on t m only (pre.map (·.1))
        rw [List.length_map] at hpf
        have hll : (acc ++ (pre.map (·.1)).flatMap (pl1 on t m only)).length ≤ 112000 := by rw [List.length_append]; omega
        have HS := Lib.hid hsnoc
        clear hpf hsnoc hT
        generalize acc ++ (pre.map (·.1)).flatMap (pl1 on t m only) = ll at *
        have hcell : ∀ (j : Nat) (y : Value), [Value.int .i64 p, Value.int .u8 t, Value.bool m][j]? = some y → (W.alloc (.cells #[.int .i64 p, .int .u8 t, .bool m] 55)).cell? ((⟨W.heap.size, 0, none⟩ : Addr).add j) = some y := by
          intro j y hj
          rw [show (⟨W.heap.size, 0, none⟩ : Addr).add j = ⟨W.heap.size, j, none⟩ by unfold Addr.add; split <;> simp_all]
          exact (Blk.newAt W [.int .i64 p, .int .u8 t, .bool m] 55 W.heap.size rfl).cell j hj
        have hbo4 : base ≤ W.heap.size := by omega
        have hg : on.getD (p : Int).toNat false = b := by rw [Int.toNat_natCast, List.getD_eq_getElem?_getD, hb]; rfl
        have hyes : (b || !only) = true → pl1 on t m only p = [⟨p, t, m⟩] := fun h => by unfold pl1; rw [hg, if_pos h]
        have hno : (b || !only) = false → pl1 on t m only p = [] := fun h => by unfold pl1; rw [hg, if_neg (by rw [h]; simp)]
        have HY := Lib.hid hyes
        have HN := Lib.hid hno
        clear hyes hno hg hb
        have hfin := fun (v' : Value) (w2 : World) tmp h1 h2 h3 => PI.step (B1 := W4.heap.size) (y := ⟨p, t, m⟩) (tmp := tmp) (v' := v') (w2 := w2) hPI (by omega) hbase hM (Nat.le_refl _) hv hrw hvo h1 h2 h3
        have HF := Lib.hid hfin
        clear hfin
        cases b
        · cases only
          · gi_wp2_with (gi_at_builtin; refine wpListIn_append_row _ rfl _ _ 53 rfl base 55 i0 _ 3 24 Try.underlying53 hi0 hz0 hz1 hz2 rfl (by decide) _ _ _ rfl (hrw.alloc _) ⟨W.heap.size, 0, none⟩ 1 1 [.int .i64 p, .int .u8 t, .bool m] rfl rfl hcell (by simp [Value.oneCell']) (by unfold maxLen; omega) (by omega) (by simp; omega) ?_; intro v' w2 hown' hgrow hsb; obtain ⟨g', cap', rfl⟩ := ownsRow_succ hown'; obtain ⟨hv1, _, _, _, _⟩ := hv.appended (by decide) hrw (by omega) hbase hown' hgrow; have hc1 := hv1.cell; have hf1 := hv1.frozen)
            obtain ⟨r1, r2, r3, r4⟩ := HF.out _ _ _ hown' hgrow hsb
            refine ⟨r1, r2, ?_, r4⟩
            have hfin := HS.out
            rw [HY.out rfl] at hfin
            exact hfin ▸ r3
          · gi_wp2
            refine ⟨KeepsFrom.refl _ _, KpS.refl _ _, ?_, hM⟩
            have hfin := HS.out
            rw [HN.out rfl, List.append_nil] at hfin
            exact hfin ▸ hPI
        · cases only
          all_goals
            gi_wp2_with (gi_at_builtin; refine wpListIn_append_row _ rfl _ _ 53 rfl base 55 i0 _ 3 24 Try.underlying53 hi0 hz0 hz1 hz2 rfl (by decide) _ _ _ rfl (hrw.alloc _) ⟨W.heap.size, 0, none⟩ 1 1 [.int .i64 p, .int .u8 t, .bool m] rfl rfl hcell (by simp [Value.oneCell']) (by unfold maxLen; omega) (by omega) (by simp; omega) ?_; intro v' w2 hown' hgrow hsb; obtain ⟨g', cap', rfl⟩ := ownsRow_succ hown'; obtain ⟨hv1, _, _, _, _⟩ := hv.appended (by decide) hrw (by omega) hbase hown' hgrow; have hc1 := hv1.cell; have hf1 := hv1.frozen)
            obtain ⟨r1, r2, r3, r4⟩ := HF.out _ _ _ hown' hgrow hsb
            refine ⟨r1, r2, ?_, r4⟩
            have hfin := HS.out
            rw [HY.out rfl] at hfin
            exact hfin ▸ r3
      case done =>
        rintro D xs W hD hS ⟨hPI, hM⟩ hK
        have hT := hPI.trans cv4 hP4.bel hP4.kp hP4.sz
        rw [hS] at hT
        have hT2 : PI base bo v0 w1 (l0 ++ plPut on u t m only ((tbs.take (i + 1)).map Tb.l)) W := by rw [HACC2.out]; exact hT
        have hM2 : Marked w1.heap.size (D :: ds) W := ⟨List.nodup_cons.2 ⟨fun h => by have := hml4 D h; omega, hM.1⟩, fun E hE => by
          rcases List.mem_cons.1 hE with rfl | hE
          · exact ⟨by omega, hK⟩
          · exact hM.2 E hE⟩
        gi_wp2
        refine ⟨⟨i + 1, D :: ds, _, _, _, _, _, _, _, _, _, _, _, _, _, _, _, _, _, _, _, _, _, _, _, _, _, _, _, _, _, by omega, rfl, hM2, hT2⟩, ?_⟩
        show tbs.length - (RowKit.intOf (.int .i64 ((i : Int) + 1))).toNat < tbs.length - (RowKit.intOf (.int .i64 i)).toNat
        simp only [RowKit.intOf]
        omega
      case stop =>
        rintro D c pre W _ _ h _
        exact h.elim
end Go.Proofs.Ytclgclcoblfddaa
