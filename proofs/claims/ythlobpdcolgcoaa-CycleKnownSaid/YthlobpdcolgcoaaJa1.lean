/- Several texts of this claim, joined. -/
import Derived.StillTail
import Derived.Deep.Quiet
import Derived.Deep.QuietTactic
import Derived.Below
import Derived.Laws.Rows
import Derived.Laws.Tables
import Derived.OwnWalk
import Derived.Laws.AppendOwn
import Derived.OrdersHeld
import Derived.Lib.Hide
import Derived.IntWalk
import Derived.Test.YthlobpdcolgcoaaProg
import Derived.WalkKit
import Derived.Handy
import Derived.LoopN
import Derived.BigQuiet
import Derived.Deep.RegionWith
import Derived.StillTailTactics
import Derived.Deep.LoopGhost
import Derived.Deep.CutBlock
import Derived.WalkSpells
import Derived.Maps.Own
import Derived.Maps.OwnOps
import Derived.Maps.OwnSet
import Derived.Maps.Views
import Derived.Deep.DeepAppendRoom
import Derived.ArgAppend
import Derived.Laws.MakeOwn
import Derived.Lib.BufferMore
/- Regions that draw their order: whose head only reads and calls what leaves old memory alone, and whose tail is forced: one walk of the text's order serves every order. -/
namespace Go.Proofs.Ythlobpdcolgcoaa
open Go.RowKit
section
variable {P : Program} {ops : Array Oper} {md : Region.Mode} {C : World → Prop}

/-- The world has grown: what lay there lies there still. -/
def Ext (w W : World) : Prop := Below w.heap.size w W
theorem Ext.refl (w : World) : Ext w w := Below.refl _ _
theorem Ext.trans {a b c : World} (h : Ext a b) (k : Ext b c) : Ext a c := Below.trans h (k.mono h.size)
theorem Ext.drew {a b : World} (h : Ext a b) : Ext a b.drew := ⟨h.os, h.tape, h.output, h.size, h.block⟩
theorem Ext.drewN {a b : World} (h : Ext a b) (n : Nat) : Ext a (b.drewN n) := ⟨h.os, h.tape, h.output, h.size, h.block⟩
theorem Ext.alloc {a b : World} (h : Ext a b) (o : Obj) : Ext a (b.alloc o) := Below.alloc h h.size o
theorem Ext.setCell {a b : World} (h : Ext a b) {p : Addr} (hp : a.heap.size ≤ p.block) (u : Value) : Ext a (b.setCell p u) := Below.setCell h hp u
theorem Ext.cell {w W : World} (h : Ext w W) {p : Addr} {v : Value} (hc : w.cell? p = some v) : W.cell? p = some v := (Below.cell h (World.block_lt_of_cell? w p hc)).trans hc
theorem Ext.heap {w W : World} (h : Ext w W) {b : Nat} {o : Obj} (hc : w.heap[b]? = some o) : W.heap[b]? = some o := (h.block b (Array.getElem?_eq_some_iff.1 hc).1).trans hc

def wpAnyL' (P : Program) (md : Region.Mode) (ops : Array Oper) (C : World → Prop) (n : Nat) (L : Array Bool → Act → Prop) : Nat → Array Bool → Act → Prop
  | 0, listed, a => L listed a
  | f + 1, listed, a =>
    Region.ready md ops listed ≠ [] ∧ ∀ i ∈ Region.ready md ops listed, i < n ∧ qOp P ops C i (wpAnyL' P md ops C n L f (listed.setIfInBounds i true)) a

theorem wpAny_of_head' {n g : Nat} {L : Array Bool → Act → Prop} {Q' : Exit → Act → World → Prop} (hL : ∀ listed a w, C w → L listed a → wpAny P md ops Q' g listed a w) :
    ∀ (f : Nat) (listed : Array Bool) (a : Act) (w : World), C w → wpAnyL' P md ops C n L f listed a → wpAny P md ops Q' (f + g) listed a w
  | 0, listed, a, w, hw, h => by rw [Nat.zero_add]; exact hL _ _ _ hw h
  | f + 1, listed, a, w, hw, h => by
    rw [show f + 1 + g = (f + g) + 1 by omega]
    exact ⟨fun h0 => absurd h0 h.1, fun i hi => wpOp_of_qOp hw (fun a' w' hw' h' => wpAny_of_head' hL f _ a' w' hw' h') (h.2 i hi).2⟩

theorem wpAnyL'_first {n i : Nat} {oi : Oper} {v : Value} {L : Array Bool → Act → Prop} (hi : ops[i]? = some oi) (hsel : ∀ (j : Nat) (o : Oper) cs b, ops[j]? = some o → o.op ≠ .select cs b)
    (hs : Region.sinkB md ops n = true) (hc : Region.chainB md ops n = true) (hn : n < ops.size) (hin : i < n)
    (hdone : ∀ listed a, L listed a → ∀ j ∈ Region.ready md ops listed, n ≤ j) :
    ∀ (f : Nat) (listed : Array Bool) (a : Act), HeadInv md ops n listed →
      (∀ j oj, ops[j]? = some oj → j ≠ i → listed.getD j true = false → (∀ e ∈ oj.after, Region.binds md e = true → e.on ≠ i) → oi.apart ops oj = true) →
      i ∈ Region.ready md ops listed → YieldsIn P ops C oi v a →
      wpAnyL' P md ops C n L f (listed.setIfInBounds i true) (a.put oi.dst v) → wpAnyL' P md ops C n L (f + 1) listed a := by
  intro f
  induction f with
  | zero =>
    intro listed a inv _ hr hy H
    have hun := (mem_ready.1 hr).1
    refine ⟨fun h => (by rw [h] at hr; cases hr), fun j hj => ?_⟩
    have hjn : j < n := by
      rcases Nat.lt_or_ge j n with h | h
      · exact h
      · exact absurd hj (tail_waits hs hc hn inv _ i rfl hin hun j h)
    refine ⟨hjn, ?_⟩
    by_cases hji : j = i
    · subst hji; exact hy.qOp hi H
    · have := hdone _ _ H j (ready_mono hj hji)
      omega
  | succ f ih =>
    intro listed a inv hfree hr hy H
    have hun := (mem_ready.1 hr).1
    refine ⟨fun h => (by rw [h] at hr; cases hr), fun j hj => ?_⟩
    have hjn : j < n := by
      rcases Nat.lt_or_ge j n with h | h
      · exact h
      · exact absurd hj (tail_waits hs hc hn inv _ i rfl hin hun j h)
    refine ⟨hjn, ?_⟩
    by_cases hji : j = i
    · subst hji; exact hy.qOp hi H
    · have h1 := (H.2 j (ready_mono hj hji)).2
      obtain ⟨hjun, oj, hoj, hall⟩ := mem_ready.1 hj
      have hnot : ∀ e ∈ oj.after, Region.binds md e = true → e.on ≠ i := fun e he hb heq => by
        have h1 := hall e he hb
        rw [heq, getD_both hun] at h1
        cases h1
      have h2 := qOp_put hoj (hfree j oj hoj hji hjun hnot) (fun cs b => hsel i oi cs b hi) (fun cs b => hsel j oj cs b hoj) hy h1
      have hfree' : ∀ k ok, ops[k]? = some ok → k ≠ i → (listed.setIfInBounds j true).getD k true = false →
          (∀ e ∈ ok.after, Region.binds md e = true → e.on ≠ i) → oi.apart ops ok = true := fun k ok hk hki hun hno => by
        refine hfree k ok hk hki ?_ hno
        by_cases hjk : j = k
        · subst hjk; exact hjun
        · rw [getD_set_ne true hjk] at hun; exact hun
      refine qOp_mono (fun a' h3 => ih (listed.setIfInBounds j true) a' (inv.set hj hjn) hfree' (ready_mono hr (Ne.symm hji)) h3.1 ?_) h2
      rw [Array.setIfInBounds_comm _ _ hji]
      exact h3.2

theorem wpAnyL'_lex {n g : Nat} {Lq : Act → Prop} (hsel : Region.noSelect ops = true) (hs : Region.sinkB md ops n = true) (hc : Region.chainB md ops n = true) (hn : n < ops.size) :
    ∀ (l : List Oper) (k : Nat) (listed : Array Bool) (a : Act), (∀ j, j < l.length → l[j]? = ops[k + j]?) → k + l.length = n → HeadInv md ops n listed →
    Region.lexHead md ops g l.length k listed = true → wpQuiet P ops C Lq l a →
    wpAnyL' P md ops C n (fun listed' a' => Region.seqB md ops g n listed' = true ∧ Lq a') l.length listed a
  | [], k, listed, a, _, hk, _, hB, h => by
    have : k = n := by simpa using hk
    subst this
    exact ⟨by simpa [Region.lexHead] using hB, h⟩
  | o :: l, k, listed, a, hl, hk, inv, hB, h => by
    have h0 : ops[k]? = some o := by simpa using (hl 0 (by simp)).symm
    simp only [List.length_cons, Region.lexHead, Bool.and_eq_true] at hB
    obtain ⟨⟨hr, hf⟩, hB'⟩ := hB
    have hkn : k < n := by simp only [List.length_cons] at hk; omega
    have hr' : k ∈ Region.ready md ops listed := by simpa using hr
    have hst : qOp P ops C k (wpQuiet P ops C Lq l) a := by unfold qOp; simp only [h0]; exact h
    obtain ⟨v, hy, hK⟩ := yieldsIn_of_qOp h0 hst
    exact wpAnyL'_first h0 (Region.noSelect_spec hsel) hs hc hn hkn (fun listed' a' hL => seqB_ready hL.1) l.length listed a inv (Region.free_spec h0 hf) hr' hy
      (wpAnyL'_lex hsel hs hc hn l (k + 1) _ _ (fun j hj => by have := hl (j + 1) (by simp; omega); simpa [Nat.add_assoc, Nat.add_comm 1 j] using this) (by simp only [List.length_cons] at hk; omega) (inv.set hr' hkn) hB' hK)

/-- ONE WALK OF THE TEXT's ORDER: the head is quiet in the class, the tail forced. -/
theorem wp_region_quiet_tail {id : Nat} {Q : Exit → Act → World → Prop} {a : Act} {w : World} {l : List Oper} (n : Nat) (hm : P.follows .mixedOrders = true) (hB : Region.lexTailB .any l.toArray n = true) (hC : C { w with drawn := w.drawn + 1 })
    (h : wpQuiet P l.toArray C (fun a' => ∀ w', C w' → wpList P l.toArray Q (l.drop n) a' w') (l.take n) a) : (Code.region id l.toArray true).wp P Q a w := by
  simp only [Region.lexTailB, Bool.and_eq_true, decide_eq_true_eq] at hB
  obtain ⟨⟨⟨⟨hsel, hn⟩, hs⟩, hc⟩, hlex⟩ := hB
  have hn' : n < l.length := by simpa using hn
  have htl : (l.take n).length = n := by simp; omega
  have hdl : (l.drop n).length = l.toArray.size - n := by simp
  have inv0 : HeadInv .any l.toArray n (Array.replicate l.toArray.size false) :=
    ⟨by simp, fun j oj _ hl => (by rw [getD_replicate_false] at hl; cases hl), fun t _ ht => getD_in (by simpa using ht) (getD_replicate_false _ _)⟩
  have h1 := wpAnyL'_lex (P := P) (C := C) (md := .any) (g := l.toArray.size - n) hsel hs hc hn (l.take n) 0 (Array.replicate l.toArray.size false) a
    (fun j hj => by rw [htl] at hj; simp [hj]) (by rw [htl]; omega) inv0 (by rw [htl]; exact hlex) h
  rw [htl] at h1
  refine wp_region_any hm ?_
  have hsz : l.toArray.size = n + (l.toArray.size - n) := by have := hn'; simp; omega
  have h2 := wpAny_of_head' (P := P) (md := .any) (C := C) (n := n) (g := l.toArray.size - n) (Q' := Q) (L := fun listed' a' => Region.seqB .any l.toArray (l.toArray.size - n) n listed' = true ∧ ∀ w', C w' → wpList P l.toArray Q (l.drop n) a' w')
    (fun listed a' w' hw' hL => by
      have := wpAny_of_seq (P := P) (md := .any) (ops := l.toArray) (Q' := Q) (l.drop n) n listed a' w' (fun j => by simp) (by rw [hdl]; exact hL.1) (hL.2 w' hw')
      rw [hdl] at this
      exact this) n (Array.replicate l.toArray.size false) a _ hC h1
  rw [← hsz] at h2
  exact h2

/-- The same at the class 'the world has grown'. -/
theorem wp_region_ext_tail {id : Nat} {Q : Exit → Act → World → Prop} {a : Act} {w : World} {l : List Oper} (n : Nat) (hm : P.follows .mixedOrders = true) (hB : Region.lexTailB .any l.toArray n = true)
    (h : wpQuiet P l.toArray (Ext w) (fun a' => ∀ w', Ext w w' → wpList P l.toArray Q (l.drop n) a' w') (l.take n) a) : (Code.region id l.toArray true).wp P Q a w :=
  wp_region_quiet_tail (C := Ext w) n hm hB ((Ext.refl w).drew) h
theorem wp_region_ext {id : Nat} {Q : Exit → Act → World → Prop} {a : Act} {w : World} {l : List Oper} (hm : P.follows .mixedOrders = true) (hB : Region.lexB .any l.toArray = true)
    (h : wpQuiet P l.toArray (Ext w) (fun a' => ∀ w', Ext w w' → Q .normal a' w') l a) : (Code.region id l.toArray true).wp P Q a w :=
  wp_region_quiet (C := Ext w) hm hB ((Ext.refl w).drew) (by simpa using h)

/-- The same at the class 'some draws later'. -/
theorem wp_region_drew_tail {id : Nat} {Q : Exit → Act → World → Prop} {a : Act} {w : World} {l : List Oper} (n : Nat) (hm : P.follows .mixedOrders = true) (hB : Region.lexTailB .any l.toArray n = true)
    (h : wpQuiet P l.toArray (fun w' => ∃ n, w' = w.drewN n) (fun a' => ∀ w', (∃ n, w' = w.drewN n) → wpList P l.toArray Q (l.drop n) a' w') (l.take n) a) : (Code.region id l.toArray true).wp P Q a w :=
  wp_region_quiet_tail (C := fun w' => ∃ n, w' = w.drewN n) n hm hB ⟨1, rfl⟩ h

/-- One operation that yields x in every world of the class. -/
theorem quiet_one {Q : Act → Prop} {a : Act} {o : Oper} {rest : List Oper} (x : Value) (hw : Region.wanted o (yielded ops a.tmps) = true) (h1 : ∀ W, C W → Oper.quietAt P o a C W x)
    (h : wpQuiet P ops C Q rest (a.put o.dst x)) : wpQuiet P ops C Q (o :: rest) a := by
  unfold wpQuiet
  rw [if_pos hw]
  exact ⟨x, h1, h⟩
/-- The same, the frame behind it written out. -/
theorem quiet_onep {Q : Act → Prop} {a : Act} {o : Oper} {rest : List Oper} (x : Value) (a' : Act) (hw : Region.wanted o (yielded ops a.tmps) = true) (h1 : ∀ W, C W → Oper.quietAt P o a C W x)
    (hp : a.put o.dst x = a') (h : wpQuiet P ops C Q rest a') : wpQuiet P ops C Q (o :: rest) a :=
  quiet_one x hw h1 (hp ▸ h)
theorem quiet_not {Q : Act → Prop} {a : Act} {o : Oper} {rest : List Oper} (hw : Region.wanted o (yielded ops a.tmps) = false)
    (h : wpQuiet P ops C Q rest (a.put o.dst undef)) : wpQuiet P ops C Q (o :: rest) a := by
  unfold wpQuiet
  rw [hw]
  exact h
theorem quietAt_value {a : Act} {o : Oper} {W : World} {x : Value} (h : (execOp a.eval o).run P W = .ok (.value x) W) : Oper.quietAt P o a C W x := by
  unfold Oper.quietAt
  rw [h]
  exact ⟨rfl, rfl⟩
theorem quietAt_call {a : Act} {o : Oper} {W : World} {x : Value} {f : FuncId} {args : Array Value} (h : (execOp a.eval o).run P W = .ok (.enter f args) W) (hc : Calls P f args W fun e w' => e = .returned x ∧ C w') : Oper.quietAt P o a C W x := by
  unfold Oper.quietAt
  rw [h]
  exact ⟨rfl, hc⟩

/-- A block known whole. -/
def Blk (W : World) (g : Nat) (cs : List Value) (T : TypeId) : Prop := W.heap[g]? = some (.cells cs.toArray T (0, 0))
theorem Blk.cell {W : World} {g : Nat} {cs : List Value} {T : TypeId} (h : Blk W g cs T) (i : Nat) {v : Value} (hi : cs[i]? = some v) : W.cell? ⟨g, i, none⟩ = some v := by
  unfold Blk at h
  simp [World.cell?, h, hi]
theorem Blk.frozen {W : World} {g : Nat} {cs : List Value} {T : TypeId} (h : Blk W g cs T) (i : Nat) : W.frozen? ⟨g, i, none⟩ = false := by
  unfold Blk at h
  simp [World.frozen?, h]
theorem Blk.set {W : World} {g : Nat} {cs : List Value} {T : TypeId} (h : Blk W g cs T) (i : Nat) (v : Value) : Blk (W.setCell ⟨g, i, none⟩ v) g (cs.set i v) T := by
  unfold Blk at *
  simp [World.setCell, Array.getElem?_modify, h]
theorem Blk.other {W : World} {g : Nat} {cs : List Value} {T : TypeId} (h : Blk W g cs T) {a : Addr} (ha : g ≠ a.block) (v : Value) : Blk (W.setCell a v) g cs T := by
  unfold Blk at *
  rw [Below.heap_setCell _ _ _ _ ha]
  exact h
theorem Blk.drew {W : World} {g : Nat} {cs : List Value} {T : TypeId} (h : Blk W g cs T) : Blk W.drew g cs T := h
theorem Blk.drewN {W : World} {g : Nat} {cs : List Value} {T : TypeId} (h : Blk W g cs T) (n : Nat) : Blk (W.drewN n) g cs T := h
theorem Blk.lt {W : World} {g : Nat} {cs : List Value} {T : TypeId} (h : Blk W g cs T) : g < W.heap.size := (Array.getElem?_eq_some_iff.1 h).1
theorem Blk.alloc {W : World} {g : Nat} {cs : List Value} {T : TypeId} (h : Blk W g cs T) (o : Obj) : Blk (W.alloc o) g cs T := by
  unfold Blk at *
  rw [Below.heap_alloc _ _ _ (Array.getElem?_eq_some_iff.1 h).1]
  exact h
theorem Blk.ext {W W' : World} {g : Nat} {cs : List Value} {T : TypeId} (h : Blk W g cs T) (hx : Ext W W') : Blk W' g cs T := hx.heap h
theorem Blk.congr {W : World} {g : Nat} {cs cs' : List Value} {T : TypeId} (h : Blk W g cs T) (e : cs = cs') : Blk W g cs' T := e ▸ h
theorem Blk.new (W : World) (cs : List Value) (T : TypeId) : Blk (W.alloc (.cells cs.toArray T)) W.heap.size cs T := by
  unfold Blk World.alloc
  simp

/-- But for block g all that lay there lies there still. -/
structure But (g : Nat) (w w' : World) : Prop where
  os : w'.os = w.os
  tape : w'.tape = w.tape
  output : w'.output = w.output
  size : w.heap.size ≤ w'.heap.size
  block : ∀ k, k < w.heap.size → k ≠ g → w'.heap[k]? = w.heap[k]?
theorem But.refl (g : Nat) (w : World) : But g w w := ⟨rfl, rfl, rfl, Nat.le_refl _, fun _ _ _ => rfl⟩
theorem But.trans {g : Nat} {a b c : World} (h : But g a b) (k : But g b c) : But g a c :=
  ⟨k.os.trans h.os, k.tape.trans h.tape, k.output.trans h.output, Nat.le_trans h.size k.size, fun i hi hg => (k.block i (Nat.lt_of_lt_of_le hi h.size) hg).trans (h.block i hi hg)⟩
theorem But.drew {g : Nat} {a b : World} (h : But g a b) : But g a b.drew := ⟨h.os, h.tape, h.output, h.size, h.block⟩
theorem But.drewN {g : Nat} {a b : World} (h : But g a b) (n : Nat) : But g a (b.drewN n) := ⟨h.os, h.tape, h.output, h.size, h.block⟩
theorem But.set {g : Nat} {a b : World} (h : But g a b) (i : Nat) (v : Value) : But g a (b.setCell ⟨g, i, none⟩ v) :=
  ⟨h.os, h.tape, h.output, by simp [World.setCell]; exact h.size, fun k hk hg => (Below.heap_setCell _ _ _ _ hg).trans (h.block k hk hg)⟩
theorem But.setNew {g : Nat} {a b : World} (h : But g a b) {p : Addr} (hp : a.heap.size ≤ p.block) (v : Value) : But g a (b.setCell p v) :=
  ⟨h.os, h.tape, h.output, by simp [World.setCell]; exact h.size, fun k hk hg => (Below.heap_setCell _ _ _ _ (by omega)).trans (h.block k hk hg)⟩
theorem But.alloc {g : Nat} {a b : World} (h : But g a b) (o : Obj) : But g a (b.alloc o) :=
  ⟨h.os, h.tape, h.output, by have := h.size; simp; omega, fun k hk hg => (Below.heap_alloc _ _ _ (Nat.lt_of_lt_of_le hk h.size)).trans (h.block k hk hg)⟩
theorem But.ext {g : Nat} {a b c : World} (h : But g a b) (k : Ext b c) : But g a c :=
  ⟨k.os.trans h.os, k.tape.trans h.tape, k.output.trans h.output, Nat.le_trans h.size k.size, fun i hi hg => (k.block i (Nat.lt_of_lt_of_le hi h.size)).trans (h.block i hi hg)⟩
/-- What was changed is new: nothing old was. -/
theorem But.toExt {g : Nat} {a b c : World} (h : Ext a b) (k : But g b c) (hg : a.heap.size ≤ g) : Ext a c :=
  ⟨k.os.trans h.os, k.tape.trans h.tape, k.output.trans h.output, Nat.le_trans h.size k.size, fun i hi => (k.block i (Nat.lt_of_lt_of_le hi h.size) (by omega)).trans (h.block i hi)⟩
theorem But.blk {g g' : Nat} {a b : World} (h : But g a b) {cs : List Value} {T : TypeId} (hb : Blk a g' cs T) (hne : g' ≠ g) : Blk b g' cs T := (h.block g' hb.lt hne).trans hb

/-- The world under a name of its own, with what is to be known of it. -/
theorem wp_gen {c : Code} {Q : Exit → Act → World → Prop} {a : Act} {w : World} (R : World → Prop) (hR : R w) (h : ∀ w', R w' → Code.wp P c Q a w') : Code.wp P c Q a w := h w hR
theorem wpList_gen {l : List Oper} {Q : Exit → Act → World → Prop} {a : Act} {w : World} (R : World → Prop) (hR : R w) (h : ∀ w', R w' → wpList P ops Q l a w') : wpList P ops Q l a w := h w hR
end
end Go.Proofs.Ythlobpdcolgcoaa
/- Whole arrays and structs by value, out of and into a block known whole: no cell by itself. -/
namespace Go.Proofs.Ythlobpdcolgcoaa
open Go.RowKit
set_option linter.unusedVariables false
section
variable {P : Program}

def isRowT (P : Program) (T : TypeId) (n : Nat) : Prop := (match P.underlying T with | some (.struct _) => true | some (.array _ _) => true | _ => false) = true ∧ (P.info? T).map (·.size) = some n

theorem isRowT.parts {T : TypeId} {n : Nat} (h : isRowT P T n) : (∃ fs, P.underlying T = some (.struct fs)) ∨ ∃ n e, P.underlying T = some (.array n e) := by
  obtain ⟨h1, _⟩ := h
  cases hq : P.underlying T with
  | none => simp [hq] at h1
  | some d =>
    rw [hq] at h1
    cases d <;> simp_all

theorem run_loadVar_blk {w : World} {g : Nat} {cs : List Value} {T T' : TypeId} (hT : isRowT P T cs.length) (hb : Blk w g cs T') : (loadVar T ⟨g, 0, none⟩).run P w = .ok (.agg cs.toArray) w := by
  rcases hT.parts with ⟨fs, hu⟩ | ⟨n, e, hu⟩
  · exact run_loadVar_row w g T' T cs.toArray (0, 0) _ hb hu rfl (by simpa using hT.2)
  · exact run_loadVar_row w g T' T cs.toArray (0, 0) _ hb hu rfl (by simpa using hT.2)
theorem run_loadAt_blk {w : World} {g : Nat} {cs : List Value} {T T' : TypeId} (hT : isRowT P T cs.length) (hb : Blk w g cs T') : (Instr.loadAt T (.pointer (some ⟨g, 0, none⟩))).run P w = .ok (.agg cs.toArray) w := by
  simp only [Instr.loadAt, Instr.sureAddr, Sem.run_bind, Sem.run_pure, Result.andThen]
  exact run_loadVar_blk hT hb

/-- A whole row read. -/
theorem wpList_load_blk {w : World} {ops : Array Oper} {rest : List Oper} {o : Oper} {a : Act} {Q : Exit → Act → World → Prop} (hw : Region.wanted o (yielded ops a.tmps) = true) (T : TypeId) (x : Operand) (ho : o.op = .load T x)
    (g : Nat) (hx : a.eval x = .pointer (some ⟨g, 0, none⟩)) {cs : List Value} {T' : TypeId} (hT : isRowT P T cs.length) (hb : Blk w g cs T')
    (h : wpList P ops Q rest (a.put o.dst (.agg cs.toArray)) w) : wpList P ops Q (o :: rest) a w := by
  unfold wpList
  rw [if_pos hw]
  refine .inl ?_
  rcases hT.parts with ⟨fs, hu⟩ | ⟨n, e, hu⟩
  · exact wp_load_row T x ho g hx T' cs.toArray (0, 0) _ hb hu rfl (by simpa using hT.2) h
  · exact wp_load_row T x ho g hx T' cs.toArray (0, 0) _ hb hu rfl (by simpa using hT.2) h

theorem quietAt_load_blk {W : World} {C : World → Prop} {a : Act} {o : Oper} {T T' : TypeId} {x : Operand} (ho : o.op = .load T x) {g : Nat} {cs : List Value} (hx : a.eval x = .pointer (some ⟨g, 0, none⟩)) (hT : isRowT P T cs.length) (hb : Blk W g cs T') :
    Oper.quietAt P o a C W (.agg cs.toArray) := by
  refine quietAt_value ?_
  simp only [execOp, ho, hx, Sem.run_bind, run_loadAt_blk hT hb, Result.andThen]
  rfl

/-- A whole row written. -/
theorem wpList_store_blk {w : World} {ops : Array Oper} {rest : List Oper} {o : Oper} {a : Act} {Q : Exit → Act → World → Prop} (hgd : o.guard = none) (T : TypeId) (x y : Operand) (ho : o.op = .store T x y)
    (g : Nat) (hx : a.eval x = .pointer (some ⟨g, 0, none⟩)) (cs : List Value) (hy : a.eval y = .agg cs.toArray) {cs' : List Value} {T' : TypeId} (hb : Blk w g cs' T') (hT : isRowT P T cs.length) (hl : cs'.length = cs.length) (h1 : cs.all (·.oneCell') = true)
    (h : ∀ W, Blk W g cs T' → But g w W → wpList P ops Q rest (a.put o.dst undef) W) : wpList P ops Q (o :: rest) a w := by
  refine wpList_store_row hgd T x y ho g cs.toArray hx hy T' cs'.toArray hb (by simpa using hT.2) (by simpa using hl) (by simpa using h1) (h _ ?_ ?_)
  · exact setRow_heap w g _ _ T' _ hb
  · exact ⟨rfl, rfl, rfl, by simp [World.setRow], fun k hk hg => setRow_other w g k _ hg⟩
theorem results_cell_tmp {fn : Func} {p q : Tmp} {T : TypeId} (h : fn.results = #[.cell p T, .tmp q]) (tmps : Array Value) (w : World) {g : Nat} {cs : List Value} {T' : TypeId} {v : Value}
    (hp : tmps.getD p undef = .pointer (some ⟨g, 0, none⟩)) (hT : isRowT P T cs.length) (hb : Blk w g cs T') (hq : tmps.getD q undef = v) :
    (results fn tmps).run P w = .ok (.tuple #[.agg cs.toArray, v]) w := by
  have hp' : tmps[p]?.getD undef = .pointer (some ⟨g, 0, none⟩) := by simpa using hp
  have hq' : tmps[q]?.getD undef = v := by simpa using hq
  simp [results, h, hp', hq', asAddr, run_loadVar_blk hT hb]
end
end Go.Proofs.Ythlobpdcolgcoaa
/- What a call owns and grows: the kit's laws of append beside the class 'the world has grown'. -/
namespace Go.Proofs.Ythlobpdcolgcoaa
open Go.RowKit
set_option linter.unusedVariables false

theorem Grown.toExt {w0 w w' : World} {row : Option Nat} (h : Ext w0 w) (hg : w.grownBy w' row) (hrow : ∀ k, row = some k → w0.heap.size ≤ k) : Ext w0 w' :=
  ⟨hg.os.trans h.os, hg.tape.trans h.tape, hg.output.trans h.output, Nat.le_trans h.size hg.size, fun i hi => (hg.block i (Nat.lt_of_lt_of_le hi h.size) (fun e => by have := hrow i e.symm; omega)).trans (h.block i hi)⟩
theorem Grown.blk {w w' : World} {row : Option Nat} (hg : w.grownBy w' row) {g : Nat} {cs : List Value} {T : TypeId} (hb : Blk w g cs T) (hne : some g ≠ row) : Blk w' g cs T := (hg.block g hb.lt hne).trans hb
theorem Grown.heap {w w' : World} {row : Option Nat} (hg : w.grownBy w' row) {g : Nat} {o : Obj} (hb : w.heap[g]? = some o) (hne : some g ≠ row) : w'.heap[g]? = some o := (hg.block g (Array.getElem?_eq_some_iff.1 hb).1 hne).trans hb
theorem Ext.grown {w w' : World} (h : Ext w w') : w.grownBy w' none := ⟨h.os, h.tape, h.output, h.size, fun k hk _ => h.block k hk⟩
theorem Owns.ext {w w' : World} {base : Nat} {e : TypeId} {size : Nat} {v : Value} {n : Nat} {xs : List Value} (h : w.ownsRow base e size v n xs) (hx : Ext w w') : w'.ownsRow base e size v n xs :=
  h.kept (Ext.grown hx) (by cases hv : v.ownBlock <;> simp)
theorem But.grown {w w' : World} {g : Nat} (h : But g w w') : w.grownBy w' (some g) := ⟨h.os, h.tape, h.output, h.size, fun k hk hne => h.block k hk (by intro e; exact hne (by rw [e]))⟩
theorem Owns.but {w w' : World} {base : Nat} {e : TypeId} {size : Nat} {v : Value} {n : Nat} {xs : List Value} {g : Nat} (h : w.ownsRow base e size v n xs) (hx : But g w w') (hg : g < base) : w'.ownsRow base e size v n xs :=
  h.kept (But.grown hx) (by
    cases hv : v.ownBlock with
    | none => exact .inl rfl
    | some k =>
      refine .inr (fun e => ?_)
      cases e
      have := (h.lt _ hv).1
      omega)
theorem Owns.set {w : World} {base : Nat} {e : TypeId} {size : Nat} {v : Value} {n : Nat} {xs : List Value} {g : Nat} (h : w.ownsRow base e size v n xs) (i : Nat) (u : Value) (hg : g < base) : (w.setCell ⟨g, i, none⟩ u).ownsRow base e size v n xs :=
  Owns.but h ((But.refl g w).set i u) hg
/-- A row that is owned reads as its cells (elements of one cell). -/
theorem Owns.shape {w : World} {base : Nat} {e : TypeId} {v : Value} {n : Nat} {xs : List Value} (h : w.ownsRow base e 1 v n xs) : ∃ A cap, v = .slice A n cap ∧ n ≤ cap ∧ xs.length = n ∧ (xs = [] ∧ A = none ∨ ∃ g, A = some ⟨g, 0, none⟩ ∧ base ≤ g ∧ ∀ j u, xs[j]? = some u → w.cell? ⟨g, j, none⟩ = some u) := by
  obtain ⟨hl, h⟩ := h
  rw [Nat.mul_one] at hl
  rcases h with ⟨rfl, rfl⟩ | ⟨g, cap, cur, rfl, hb, hg, hn, _, hs, ht⟩
  · exact ⟨none, 0, rfl, Nat.le_refl _, hl, .inl ⟨List.eq_nil_of_length_eq_zero hl, rfl⟩⟩
  · refine ⟨_, cap, rfl, hn, hl, .inr ⟨g, rfl, hb, fun j u hu => ?_⟩⟩
    rw [cell_of_row w g j cur e (0, 0) hg]
    rw [← ht, List.getElem?_take] at hu
    split at hu
    · simpa using hu
    · cases hu
/-- A row that is owned and not empty: its block. -/
theorem Owns.blk {w : World} {base : Nat} {e : TypeId} {v : Value} {n : Nat} {xs : List Value} (h : w.ownsRow base e 1 v n xs) (hn : 0 < n) : ∃ g cap rest, v = .slice (some ⟨g, 0, none⟩) n cap ∧ base ≤ g ∧ n ≤ cap ∧ xs.length = n ∧ Blk w g (xs ++ rest) e := by
  obtain ⟨hl, h⟩ := h
  rw [Nat.mul_one] at hl
  rcases h with ⟨rfl, rfl⟩ | ⟨g, cap, cur, rfl, hb, hg, hn', _, hs, ht⟩
  · omega
  · refine ⟨g, cap, cur.toList.drop n, rfl, hb, hn', hl, ?_⟩
    rw [Nat.mul_one] at ht
    rw [← ht, List.take_append_drop]
    exact hg
/-- 'append(out, x)', x of one cell in a block of its own. -/
theorem wpList_append1 {P : Program} {w : World} {ops : Array Oper} {rest : List Oper} {o : Oper} {a : Act} {Q : Exit → Act → World → Prop} (hgd : o.guard = none) (s x : Operand) (t : TypeId)
    (ho : o.op = .call { callee := .builtin .append, args := #[s, x], argTypes := #[t, t] })
    (base : Nat) (e : TypeId) (i : TypeInfo) (z : Value) (bytes : Nat) (ht : P.underlying t = some (.slice e)) (hi : P.info? e = some i) (hz : i.zero = some z)
    (hsize : i.size = 1) (hby : i.bytes = bytes) (hzs : z.cells.size = 1)
    (v : Value) (n : Nat) (xs : List Value) (hs : a.eval s = v) (hown : w.ownsRow base e 1 v n xs)
    (g c : Nat) (u : Value) (hx : a.eval x = .slice (some ⟨g, 0, none⟩) 1 c) (hc : w.cell? ⟨g, 0, none⟩ = some u) (h1 : u.oneCell' = true)
    (h63 : n + 1 ≤ maxLen) (hbytes : (n + 1) * bytes ≤ 140737488355328) (hbase : base ≤ w.heap.size)
    (h : ∀ v' w', w'.ownsRow base e 1 v' (n + 1) (xs ++ [u]) → w.grownBy w' v.ownBlock → wpList P ops Q rest (a.put o.dst v') w') : wpList P ops Q (o :: rest) a w := by
  refine wpList_append_own w hgd s x t ho base e i z 1 bytes ht hi hz hsize hby hzs (by decide) v n xs hs hown ⟨g, 0, none⟩ 1 c [u] hx rfl ?_ ?_ h63 hbytes hbase (fun v' w' h2 h3 _ => h v' w' h2 h3)
  · intro j y hj
    cases j with
    | zero =>
      cases hj
      exact hc
    | succ j => cases hj
  · intro y hy
    rw [List.mem_singleton.1 hy]
    exact h1
theorem Owns.notNil {w : World} {base : Nat} {e : TypeId} {size : Nat} {v : Value} {n : Nat} {xs : List Value} (h : w.ownsRow base e size v n xs) : ∀ k, v.ownBlock = some k → base ≤ k := fun k hk => (h.lt k hk).1
theorem Blk.newAt (W : World) (cs : List Value) (T : TypeId) (n : Nat) (h : n = W.heap.size) : Blk (W.alloc (.cells cs.toArray T)) n cs T := h ▸ Blk.new W cs T
end Go.Proofs.Ythlobpdcolgcoaa
/- Regions that draw their order: what only reads is taken first, the rest follows in the one order that is left; what the reads see must stay only till all of them are taken. -/
namespace Go.Proofs.Ythlobpdcolgcoaa
open Go.RowKit
set_option linter.unusedVariables false
section
variable {P : Program} {ops : Array Oper} {md : Region.Mode} {S : World → Prop} {Q : Exit → Act → World → Prop}

/-- No panic. -/
def QF (Q : Exit → Act → World → Prop) : Exit → Act → World → Prop
  | .panic _, _, _ => False
  | e, a, w => Q e a w
def Q0 (Q : Exit → Act → World → Prop) : Exit → Act → World → Prop := Exit.then (fun a w => Q .normal a w) (QF Q)
theorem Q0_le (e : Exit) (a : Act) (w : World) (h : Q0 Q e a w) : Q e a w := by
  cases e <;> first | exact h | exact h.elim

def wpAnyT (P : Program) (md : Region.Mode) (ops : Array Oper) (Q : Exit → Act → World → Prop) (S : World → Prop) (n : Nat) : Nat → Array Bool → Act → World → Prop
  | 0, listed, a, w => Region.ready md ops listed = [] ∧ Q .normal a w
  | fuel + 1, listed, a, w =>
    (Region.ready md ops listed = [] → Q .normal a w) ∧
    ∀ i ∈ Region.ready md ops listed, wpOp P ops Q i (fun a' w' => (i < n → S w') ∧ wpAnyT P md ops Q S n fuel (listed.setIfInBounds i true) a' w') a w
theorem wpAny_of_T {n : Nat} : ∀ (fuel : Nat) (listed : Array Bool) (a : Act) (w : World), wpAnyT P md ops Q S n fuel listed a w → wpAny P md ops Q fuel listed a w
  | 0, _, _, _, h => h
  | fuel + 1, _, _, _, h => ⟨h.1, fun i hi => wpOp_mono (fun a' w' h' => wpAny_of_T fuel _ a' w' h'.2) (h.2 i hi)⟩

theorem wpAnyT_first {n i : Nat} {oi : Oper} {v : Value} (hi : ops[i]? = some oi) (hsel : ∀ (j : Nat) (o : Oper) cs b, ops[j]? = some o → o.op ≠ .select cs b)
    (hQ : ∀ c a w, Q (.panic c) (a.put oi.dst v) w → Q (.panic c) a w)
    (hwt : ∀ listed, HeadInv md ops n listed → ∀ i, i < n → listed.getD i true = false → ∀ j ∈ Region.ready md ops listed, j < n) (hin : i < n) :
    ∀ (fuel : Nat) (listed : Array Bool) (a : Act) (w : World), HeadInv md ops n listed →
      (∀ j oj, ops[j]? = some oj → j ≠ i → listed.getD j true = false → (∀ e ∈ oj.after, Region.binds md e = true → e.on ≠ i) → oi.apart ops oj = true) →
      i ∈ Region.ready md ops listed → YieldsIf P ops S oi v a → S w →
      wpAnyT P md ops Q S n fuel (listed.setIfInBounds i true) (a.put oi.dst v) w → wpAnyT P md ops Q S n (fuel + 1) listed a w := by
  intro fuel
  induction fuel with
  | zero =>
    intro listed a w inv _ hr hy hS H
    refine ⟨fun h => (by rw [h] at hr; cases hr), fun j hj => ?_⟩
    by_cases hji : j = i
    · subst hji; exact hy.wpOp hi hS ⟨fun _ => hS, H⟩
    · have := ready_mono hj hji
      rw [H.1] at this
      cases this
  | succ fuel ih =>
    intro listed a w inv hfree hr hy hS H
    have hun := (mem_ready.1 hr).1
    refine ⟨fun h => (by rw [h] at hr; cases hr), fun j hj => ?_⟩
    have hjn : j < n := hwt listed inv i hin hun j hj
    by_cases hji : j = i
    · subst hji; exact hy.wpOp hi hS ⟨fun _ => hS, H⟩
    · have h1 := H.2 j (ready_mono hj hji)
      obtain ⟨hjun, oj, hoj, hall⟩ := mem_ready.1 hj
      have hnot : ∀ e ∈ oj.after, Region.binds md e = true → e.on ≠ i := fun e he hb heq => by
        have h1 := hall e he hb
        rw [heq, getD_both hun] at h1
        cases h1
      have h2 := wpOp_putIf hoj (hfree j oj hoj hji hjun hnot) (fun cs b => hsel i oi cs b hi) (fun cs b => hsel j oj cs b hoj) hQ hy h1
      have hfree' : ∀ k ok, ops[k]? = some ok → k ≠ i → (listed.setIfInBounds j true).getD k true = false →
          (∀ e ∈ ok.after, Region.binds md e = true → e.on ≠ i) → oi.apart ops ok = true := fun k ok hk hki hun hno => by
        refine hfree k ok hk hki ?_ hno
        by_cases hjk : j = k
        · subst hjk; exact hjun
        · rw [getD_set_ne true hjk] at hun; exact hun
      refine wpOp_mono (fun a' w' h3 => ?_) h2
      obtain ⟨h3, h4, h5⟩ := h3
      have hS' := h4 hjn
      refine ⟨fun _ => hS', ih (listed.setIfInBounds j true) a' w' (inv.set hj hjn) hfree' (ready_mono hr (Ne.symm hji)) h3 hS' ?_⟩
      rw [Array.setIfInBounds_comm _ _ hji]
      exact h5

def mixB (md : Region.Mode) (ops : Array Oper) (n : Nat) : List (Nat × Bool) → Array Bool → Bool
  | [], listed => (Region.ready md ops listed).isEmpty
  | (i, true) :: r, listed => (Region.ready md ops listed).contains i && Region.free md ops listed i && decide (i < n) && mixB md ops n r (listed.setIfInBounds i true)
  | (i, false) :: r, listed => decide (Region.ready md ops listed = [i]) && (decide (i < n) || r.all fun s => !s.2) && mixB md ops n r (listed.setIfInBounds i true)
def mixTopB (ops : Array Oper) (n : Nat) (st : List (Nat × Bool)) : Bool :=
  Region.noSelect ops && decide (n < ops.size) && Region.sinkB .any ops n && Region.chainB .any ops n && decide (st.length = ops.size) && mixB .any ops n st (Array.replicate ops.size false)
def wpMix (P : Program) (ops : Array Oper) (Q : Exit → Act → World → Prop) (S : World → Prop) (n : Nat) : List (Nat × Bool) → Act → World → Prop
  | [], a, w => Q .normal a w
  | (i, true) :: r, a, w => ∃ o v, ops[i]? = some o ∧ YieldsIf P ops S o v a ∧ wpMix P ops Q S n r (a.put o.dst v) w
  | (i, false) :: r, a, w => wpOp P ops Q i (fun a' w' => (i < n → S w') ∧ wpMix P ops Q S n r a' w') a w

theorem wpAnyT_false {n : Nat} : ∀ (st : List (Nat × Bool)) (listed : Array Bool) (a : Act) (w : World), (st.all fun s => !s.2) = true → mixB md ops n st listed = true → wpMix P ops Q S n st a w → wpAnyT P md ops Q S n st.length listed a w
  | [], listed, a, w, _, hB, h => ⟨by simpa [mixB] using hB, h⟩
  | (i, true) :: r, listed, a, w, hf, _, _ => by simp at hf
  | (i, false) :: r, listed, a, w, hf, hB, h => by
    simp only [mixB, Bool.and_eq_true, decide_eq_true_eq] at hB
    refine ⟨fun h0 => by rw [h0] at hB; exact absurd hB.1.1 (by simp), fun j hj => ?_⟩
    rw [hB.1.1] at hj
    have : j = i := by simpa using hj
    subst this
    exact wpOp_mono (fun a' w' h' => ⟨h'.1, wpAnyT_false r _ a' w' (by simpa using hf) hB.2 h'.2⟩) h

theorem wpAnyT_mix {n : Nat} (hsel : Region.noSelect ops = true) (hQ : ∀ c a d v w, Q (.panic c) (a.put d v) w → Q (.panic c) a w)
    (hwt : ∀ listed, HeadInv md ops n listed → ∀ i, i < n → listed.getD i true = false → ∀ j ∈ Region.ready md ops listed, j < n) :
    ∀ (st : List (Nat × Bool)) (listed : Array Bool) (a : Act) (w : World), HeadInv md ops n listed → S w → mixB md ops n st listed = true → wpMix P ops Q S n st a w → wpAnyT P md ops Q S n st.length listed a w
  | [], listed, a, w, _, _, hB, h => ⟨by simpa [mixB] using hB, h⟩
  | (i, true) :: r, listed, a, w, inv, hS, hB, h => by
    simp only [mixB, Bool.and_eq_true, decide_eq_true_eq] at hB
    obtain ⟨⟨⟨hr, hf⟩, hin⟩, hB'⟩ := hB
    obtain ⟨o, v, ho, hy, hk⟩ := h
    have hr' : i ∈ Region.ready md ops listed := by simpa using hr
    exact wpAnyT_first ho (Region.noSelect_spec hsel) (fun c a w => hQ c a o.dst v w) hwt hin r.length listed a w inv (Region.free_spec ho hf) hr' hy hS
      (wpAnyT_mix hsel hQ hwt r _ _ _ (inv.set hr' hin) hS hB' hk)
  | (i, false) :: r, listed, a, w, inv, hS, hB, h => by
    have hB0 := hB
    simp only [mixB, Bool.and_eq_true, decide_eq_true_eq] at hB
    refine ⟨fun h0 => by rw [h0] at hB; exact absurd hB.1.1 (by simp), fun j hj => ?_⟩
    have hj' := hj
    rw [hB.1.1] at hj
    have : j = i := by simpa using hj
    subst this
    refine wpOp_mono (fun a' w' h' => ⟨h'.1, ?_⟩) h
    by_cases hin : j < n
    · exact wpAnyT_mix hsel hQ hwt r _ a' w' (inv.set hj' hin) (h'.1 hin) hB.2 h'.2
    · have hall : (r.all fun s => !s.2) = true := by
        have := hB.1.2
        simpa [hin] using this
      exact wpAnyT_false r _ a' w' hall hB.2 h'.2

theorem wp_region_mix {id : Nat} {a : Act} {w : World} {l : List Oper} (S : World → Prop) (n : Nat) (st : List (Nat × Bool)) (hm : P.follows .mixedOrders = true) (hB : mixTopB l.toArray n st = true) (hS : S { w with drawn := w.drawn + 1 })
    (h : wpMix P l.toArray (Q0 Q) S n st a { w with drawn := w.drawn + 1 }) : (Code.region id l.toArray true).wp P Q a w := by
  simp only [mixTopB, Bool.and_eq_true, decide_eq_true_eq] at hB
  obtain ⟨⟨⟨⟨⟨hsel, hn⟩, hs⟩, hc⟩, hlen⟩, hB⟩ := hB
  refine Code.wp_mono Q0_le (wp_region_any hm ?_)
  have inv0 : HeadInv .any l.toArray n (Array.replicate l.toArray.size false) :=
    ⟨by simp, fun j oj _ hl => (by rw [getD_replicate_false] at hl; cases hl), fun t _ ht => getD_in (by simpa using ht) (getD_replicate_false _ _)⟩
  have h1 := wpAnyT_mix (P := P) (md := .any) (Q := Q0 Q) (S := S) hsel (fun c a d v w h => h) (fun listed inv i hin hun j hj => by
    rcases Nat.lt_or_ge j n with h | h
    · exact h
    · exact absurd hj (tail_waits hs hc hn inv _ i rfl hin hun j h)) st (Array.replicate l.toArray.size false) a _ inv0 hS hB h
  rw [hlen] at h1
  exact wpAny_of_T _ _ _ _ h1

def mixAllB (ops : Array Oper) (st : List (Nat × Bool)) : Bool :=
  Region.noSelect ops && decide (st.length = ops.size) && mixB .any ops ops.size st (Array.replicate ops.size false)
/-- The same where every operation keeps what the reads see. -/
theorem wp_region_mixAll {id : Nat} {a : Act} {w : World} {l : List Oper} (S : World → Prop) (st : List (Nat × Bool)) (hm : P.follows .mixedOrders = true) (hB : mixAllB l.toArray st = true) (hS : S { w with drawn := w.drawn + 1 })
    (h : wpMix P l.toArray (Q0 Q) S l.toArray.size st a { w with drawn := w.drawn + 1 }) : (Code.region id l.toArray true).wp P Q a w := by
  simp only [mixAllB, Bool.and_eq_true, decide_eq_true_eq] at hB
  obtain ⟨⟨hsel, hlen⟩, hB⟩ := hB
  refine Code.wp_mono Q0_le (wp_region_any hm ?_)
  have inv0 : HeadInv .any l.toArray l.toArray.size (Array.replicate l.toArray.size false) :=
    ⟨by simp, fun j oj _ hl => (by rw [getD_replicate_false] at hl; cases hl), fun t _ ht => getD_in (by simpa using ht) (getD_replicate_false _ _)⟩
  have h1 := wpAnyT_mix (P := P) (md := .any) (Q := Q0 Q) (S := S) hsel (fun c a d v w h => h) (fun listed inv i hin hun j hj => by
    obtain ⟨_, oj, hoj, _⟩ := mem_ready.1 hj
    exact (Array.getElem?_eq_some_iff.1 hoj).1) st (Array.replicate l.toArray.size false) a _ inv0 hS hB h
  rw [hlen] at h1
  exact wpAny_of_T _ _ _ _ h1
theorem mix_nil {n : Nat} {a : Act} {w : World} (h : Q .normal a w) : wpMix P ops Q S n [] a w := h

theorem mix_read {l : List Oper} {n i : Nat} {r : List (Nat × Bool)} {a : Act} {w : World} {o : Oper} (x : Value) (a' : Act) (ho : l[i]? = some o) (hw : Region.wanted o (yielded l.toArray a.tmps) = true) (h1 : ∀ W, S W → (execOp a.eval o).run P W = .ok (.value x) W)
    (hp : a.put o.dst x = a') (h : wpMix P l.toArray Q S n r a' w) : wpMix P l.toArray Q S n ((i, true) :: r) a w := ⟨o, x, by simpa using ho, .inl ⟨hw, h1⟩, hp ▸ h⟩
theorem mix_skip {l : List Oper} {n i : Nat} {r : List (Nat × Bool)} {a : Act} {w : World} {o : Oper} (a' : Act) (ho : l[i]? = some o) (hw : Region.wanted o (yielded l.toArray a.tmps) = false)
    (hp : a.put o.dst undef = a') (h : wpMix P l.toArray Q S n r a' w) : wpMix P l.toArray Q S n ((i, true) :: r) a w := ⟨o, undef, by simpa using ho, .inr ⟨hw, rfl⟩, hp ▸ h⟩
theorem wpList_cons_wpOp {i : Nat} {o : Oper} {rest : List Oper} {a : Act} {w : World} (ho : ops[i]? = some o) (h : wpList P ops Q (o :: rest) a w) : wpOp P ops Q i (wpList P ops Q rest) a w := by
  unfold wpOp
  rw [ho]
  exact h
/-- The end in its one order. -/
theorem mix_tail {n : Nat} : ∀ (st : List (Nat × Bool)) (l : List Oper) (a : Act) (w : World), (st.all fun s => !s.2 && decide (n ≤ s.1)) = true → (st.map fun s => ops[s.1]?) = l.map some → wpList P ops Q l a w → wpMix P ops Q S n st a w
  | [], l, a, w, _, hl, h => by
    cases l with
    | nil => exact h
    | cons o l => simp at hl
  | (i, true) :: r, l, a, w, hf, _, _ => by simp at hf
  | (i, false) :: r, l, a, w, hf, hl, h => by
    cases l with
    | nil => simp at hl
    | cons o l =>
      simp only [List.map_cons, List.cons.injEq] at hl
      simp only [List.all_cons, Bool.and_eq_true, decide_eq_true_eq, Bool.not_eq_true'] at hf
      exact wpOp_mono (fun a' w' h' => ⟨fun hi => absurd hi (by omega), mix_tail r l a' w' hf.2 hl.2 h'⟩) (wpList_cons_wpOp hl.1 h)
theorem wpOp_of_list {i : Nat} {o : Oper} {K : Act → World → Prop} {a : Act} {w : World} (ho : ops[i]? = some o) (h : wpList P ops (Exit.then K Q) [o] a w) : wpOp P ops Q i K a w := by
  unfold wpOp
  rw [ho]
  unfold wpList at h
  simp only at h ⊢
  split
  · rename_i hw
    rw [if_pos hw] at h
    rcases h with h | ⟨h1, h2⟩
    · left
      unfold Oper.wp at *
      generalize (execOp a.eval o).run P w = r at *
      cases r with
      | ok nx w' => cases nx <;> exact h
      | halt x w' => cases x <;> exact h
    · right
      exact ⟨h1, h2⟩
  · rename_i hw
    rw [if_neg hw] at h
    exact h
/-- One operation that is not only a read, ahead of a read's end. -/
theorem mix_loud {l : List Oper} {n i : Nat} {r : List (Nat × Bool)} {a : Act} {w : World} {o : Oper} (ho : l[i]? = some o)
    (h : ∀ K : Act → World → Prop, (∀ a' w', (S w' ∧ wpMix P l.toArray Q S n r a' w') → K a' w') → wpList P l.toArray (Exit.then K Q) [o] a w) : wpMix P l.toArray Q S n ((i, false) :: r) a w :=
  wpOp_mono (fun a' w' h' => ⟨fun _ => h'.1, h'.2⟩) (wpOp_of_list (by simpa using ho) (h _ fun _ _ h => h))
/-- The end in its one order: the operations from number k on. -/
theorem mix_end {n : Nat} {l : List Oper} {st : List (Nat × Bool)} {a : Act} {w : World} (k : Nat) (hst : decide (st = (List.range' k (l.length - k)).map fun i => (i, false)) = true) (hk : decide (n ≤ k) = true) (h : wpList P l.toArray Q (l.drop k) a w) : wpMix P l.toArray Q S n st a w := by
  have hst := of_decide_eq_true hst
  have hk := of_decide_eq_true hk
  subst hst
  refine mix_tail _ (l.drop k) a w ?_ ?_ h
  · simp [List.all_map, List.all_eq_true]
    intro x hx _
    omega
  · rw [List.map_map]
    refine List.ext_getElem? fun j => ?_
    simp only [List.getElem?_map, List.getElem?_drop]
    by_cases hj : j < l.length - k
    · rw [List.getElem?_eq_getElem (show j < (List.range' k (l.length - k)).length by simpa using hj), List.getElem_range', List.getElem?_eq_getElem (show k + j < l.length by omega)]
      simp
    · rw [List.getElem?_eq_none (show (List.range' k (l.length - k)).length ≤ j by simpa using hj), List.getElem?_eq_none (show l.length ≤ k + j by omega)]
      rfl
end
end Go.Proofs.Ythlobpdcolgcoaa
/- Rows of ints and of slices of ints in memory. -/
namespace Go.Proofs.Ythlobpdcolgcoaa
open Go.RowKit
set_option linter.unusedVariables false
set_option linter.unusedSimpArgs false

def ints (l : List Int) : List Value := l.map (Value.int .i64)
theorem ints_length (l : List Int) : (ints l).length = l.length := by simp [ints]
theorem ints_get (l : List Int) (i : Nat) : (ints l)[i]? = l[i]?.map (Value.int .i64) := by simp [ints]
theorem ints_append (a b : List Int) : ints (a ++ b) = ints a ++ ints b := by simp [ints]
def RdV (W : World) (A : Option Addr) (vs : List Value) : Prop := vs = [] ∨ ∃ b o, A = some ⟨b, o, none⟩ ∧ ∀ j v, vs[j]? = some v → W.cell? ⟨b, o + j, none⟩ = some v
theorem RdV.ext {W W' : World} {A : Option Addr} {vs : List Value} (h : RdV W A vs) (hx : Ext W W') : RdV W' A vs := by
  rcases h with h | ⟨b, o, rfl, h⟩
  · exact .inl h
  · exact .inr ⟨b, o, rfl, fun j v hv => hx.cell (h j v hv)⟩
theorem RdV.but {g : Nat} {W W' : World} {A : Option Addr} {vs : List Value} (h : RdV W A vs) (hx : But g W W') (hA : ∀ a, A = some a → a.block ≠ g) : RdV W' A vs := by
  rcases h with h | ⟨b, o, rfl, h⟩
  · exact .inl h
  · exact .inr ⟨b, o, rfl, fun j v hv => by
      have h1 := h j v hv
      have hlt := World.block_lt_of_cell? W _ h1
      have := hx.block b hlt (hA _ rfl)
      unfold World.cell? at h1 ⊢
      simp only at h1 ⊢
      rw [this]
      exact h1⟩
/-- A place that is read: its slice has an address. -/
theorem RdV.at {W : World} {A : Option Addr} {vs : List Value} (h : RdV W A vs) {i : Nat} (hi : i < vs.length) : ∃ b o, A = some ⟨b, o, none⟩ ∧ ∀ j v, vs[j]? = some v → W.cell? ⟨b, o + j, none⟩ = some v := by
  rcases h with h | h
  · rw [h] at hi; simp at hi
  · exact h
/-- A row of a table. -/
structure Row where
  A : Option Addr
  cap : Nat
  xs : List Int
def Row.val (r : Row) : Value := .slice r.A r.xs.length r.cap
/-- A table of rows of ints that reads so. -/
def RdR (W : World) (A : Option Addr) (rs : List Row) : Prop :=
  RdV W A (rs.map Row.val) ∧ ∀ r ∈ rs, RdV W r.A (ints r.xs)
theorem RdR.ext {W W' : World} {A : Option Addr} {rs : List Row} (h : RdR W A rs) (hx : Ext W W') : RdR W' A rs := ⟨h.1.ext hx, fun r hr => (h.2 r hr).ext hx⟩
theorem RdR.at {W : World} {A : Option Addr} {rs : List Row} (h : RdR W A rs) {i : Nat} (hi : i < rs.length) :
    ∃ b o B cap xs, A = some ⟨b, o, none⟩ ∧ rs[i]? = some ⟨B, cap, xs⟩ ∧ W.cell? ⟨b, o + i, none⟩ = some (.slice B xs.length cap) ∧ RdV W B (ints xs) := by
  obtain ⟨b, o, hA, hc⟩ := h.1.at (i := i) (by simpa using hi)
  have he : rs[i]? = some rs[i] := List.getElem?_eq_getElem hi
  generalize hr : rs[i] = r at he
  obtain ⟨B, cap, xs⟩ := r
  refine ⟨b, o, B, cap, xs, hA, he, hc i _ (by rw [List.getElem?_map, he]; rfl), ?_⟩
  exact h.2 ⟨B, cap, xs⟩ (List.mem_of_getElem? he)
def rows (rs : List Row) : List (List Int) := rs.map Row.xs
theorem rows_length (rs : List Row) : (rows rs).length = rs.length := by simp [rows]
theorem rows_get (rs : List Row) (i : Nat) : (rows rs)[i]? = rs[i]?.map Row.xs := by simp [rows]
theorem results_cell {P : Program} {fn : Func} {p : Tmp} {T : TypeId} (h : fn.results = #[.cell p T]) (tmps : Array Value) (w : World) {g : Nat} {cs : List Value} {T' : TypeId}
    (hp : tmps.getD p undef = .pointer (some ⟨g, 0, none⟩)) (hT : isRowT P T cs.length) (hb : Blk w g cs T') : (results fn tmps).run P w = .ok (.agg cs.toArray) w := by
  have hp' : tmps[p]?.getD undef = .pointer (some ⟨g, 0, none⟩) := by simpa using hp
  simp [results, h, hp', asAddr, run_loadVar_blk hT hb]

end Go.Proofs.Ythlobpdcolgcoaa
/- A map from int to int that a call owns, as a function. -/
namespace Go.Proofs.Ythlobpdcolgcoaa
open Go.RowKit Go.Maps
set_option linter.unusedVariables false
set_option linter.unusedSimpArgs false

theorem keyInt : Keyed Try.prog 3 := int_keyed Try.underlying3
theorem zeroInt (w : World) : (zeroValue 3).run Try.prog w = .ok (.int .i64 0) w := by kernel_rfl
def small (k : Int) : Prop := 0 ≤ k ∧ k < 4611686018427387904
theorem small.wf {k : Int} (h : small k) : (Lit.int .i64 k).wf = true := WalkArith.wf_i64 (n := k) (by unfold small at h; omega)
/-- Block b is a map of at most n entries that is f at all small keys. -/
def IMap (W : World) (b n : Nat) (f : Int → Option Int) : Prop :=
  ∃ D : DataW Unit, W.ownsMap Try.prog 3 (plainElem Try.prog 3) b n D ∧
    ∀ k, small k → D.atKey (.int .i64 k) (.lit (.int .i64 0)) = .lit (.int .i64 ((f k).getD 0)) ∧ Maps.has D (.int .i64 k) = (f k).isSome
theorem IMap.made (W : World) : IMap (W.alloc (.map #[] 0)) W.heap.size 0 fun _ => none :=
  ⟨.map [], World.ownsMap_made _ _ _ _, fun k hk => ⟨rfl, rfl⟩⟩
theorem IMap.kept {W W' : World} {b n : Nat} {f : Int → Option Int} {row : Option Nat} (h : IMap W b n f) (hg : W.grownBy W' row) (hne : some b ≠ row) : IMap W' b n f := by
  obtain ⟨D, h1, h2⟩ := h
  exact ⟨D, h1.kept hg hne, h2⟩
theorem IMap.ext {W W' : World} {b n : Nat} {f : Int → Option Int} (h : IMap W b n f) (hx : Ext W W') : IMap W' b n f := h.kept (Ext.grown hx) (by simp)
theorem IMap.mono {W : World} {b n m : Nat} {f : Int → Option Int} (h : IMap W b n f) (hm : n ≤ m) : IMap W b m f := by
  obtain ⟨D, h1, h2⟩ := h
  exact ⟨D, h1.mono hm, h2⟩
theorem IMap.congr {W : World} {b n : Nat} {f f' : Int → Option Int} (h : IMap W b n f) (e : ∀ k, small k → f k = f' k) : IMap W b n f' := by
  obtain ⟨D, h1, h2⟩ := h
  exact ⟨D, h1, fun k hk => by rw [← e k hk]; exact h2 k hk⟩
theorem IMap.lt {W : World} {b n : Nat} {f : Int → Option Int} (h : IMap W b n f) : b < W.heap.size := by
  obtain ⟨D, h1, h2⟩ := h
  exact h1.lt
theorem IMap.look {W : World} {b n : Nat} {f : Int → Option Int} (h : IMap W b n f) {k : Int} (hk : small k) :
    (Instr.lookup 66 (.map (some b)) (.int .i64 k) false).run Try.prog W = .ok (.int .i64 ((f k).getD 0)) W := by
  obtain ⟨D, h1, h2⟩ := h
  obtain ⟨c, hrun, hat, _⟩ := h1.lookup_int keyInt Try.underlying66 Try.underlying3 (zeroInt W) (keyOf_int_mk Try.underlying3 hk.wf)
  rw [(h2 k hk).1] at hat
  rw [hrun]
  have : c = (f k).getD 0 := by
    simp only [DataW.lit.injEq, Lit.int.injEq] at hat
    exact hat.2.symm
  rw [this]
theorem IMap.lookOk {W : World} {b n : Nat} {f : Int → Option Int} (h : IMap W b n f) {k : Int} (hk : small k) :
    (Instr.lookup 66 (.map (some b)) (.int .i64 k) true).run Try.prog W = .ok (.tuple #[.int .i64 ((f k).getD 0), .bool (f k).isSome]) W := by
  obtain ⟨D, h1, h2⟩ := h
  obtain ⟨v, ps, hrun, hv⟩ := h1.look_ok keyInt Try.underlying66 (zeroInt W) (plainElem_int Try.underlying3 (by decide)) (keyOf_int_mk Try.underlying3 hk.wf)
  rw [(h2 k hk).1] at hv
  obtain ⟨c, rfl, hc, _⟩ := plainElem_int_inv Try.underlying3 hv
  rw [hrun, (h2 k hk).2]
  have : c = (f k).getD 0 := by
    simp only [Prod.mk.injEq, DataW.lit.injEq, Lit.int.injEq] at hc
    exact hc.1.2.symm
  rw [this]
def upd (f : Int → Option Int) (k v : Int) : Int → Option Int := fun x => if x = k then some v else f x
theorem wpList_upd_int {w : World} {ops : Array Oper} {rest : List Oper} {o : Oper} {a : Act} {Q : Exit → Act → World → Prop}
    (hg : o.guard = none) (m x v : Operand) (hop : o.op = Op.mapUpdate 66 m x v) (b n : Nat) (f : Int → Option Int)
    (hm : a.eval m = .map (some b)) (hown : IMap w b n f) (hn : n < 1000000) (k c : Int) (hx : a.eval x = .int .i64 k) (hv : a.eval v = .int .i64 c) (hk : small k) (hc : small c)
    (hK : ∀ w', IMap w' b (n + 1) (upd f k c) → w.grownBy w' (some b) → wpList Try.prog ops Q rest (a.put o.dst undef) w') :
    wpList Try.prog ops Q (o :: rest) a w := by
  obtain ⟨D, h1, h2⟩ := hown
  refine wpList_mapUpdate_own w hg m x v 66 hop 3 3 keyInt Try.underlying66 (plainElem Try.prog 3) b n D hm h1 (by unfold maxLen; omega) _ _ (.int .i64 k) hx hv (keyOf_int_mk Try.underlying3 hk.wf)
    (.lit (.int .i64 c)) [] (plainElem_int Try.underlying3 hc.wf) (fun w' h3 h4 => hK w' ⟨_, h3, fun y hy => ?_⟩ h4)
  unfold upd
  by_cases e : y = k
  · subst e
    rw [if_pos rfl]
    exact ⟨atKey_put_same h1.isMap (by simp [WideAt.IsKeyLit]) _ _, has_put_same h1.isMap (by simp [WideAt.IsKeyLit]) _⟩
  · rw [if_neg e]
    have hne : (Lit.int .i64 y) ≠ Lit.int .i64 k := by
      intro h
      simp only [Lit.int.injEq] at h
      exact e h.2
    rw [atKey_put_other hne, has_put_other hne]
    exact h2 y hy
end Go.Proofs.Ythlobpdcolgcoaa
/- Chapter 23: is a place in a unit's row: both 'has', and who stands ahead of whom. -/
namespace Go.Proofs.Ythlobpdcolgcoaa
open Go.RowKit Go.Lib
set_option linter.unusedVariables false
set_option linter.unusedSimpArgs false

def idx (l : List Int) (n : Int) : Int := if n ∈ l then (l.idxOf n : Int) else -1
theorem idx_at {l : List Int} {n : Int} {k : Nat} (hk : l[k]? = some n) (hno : ∀ j, j < k → l[j]? ≠ some n) : idx l n = k := by
  have hm : n ∈ l := List.mem_of_getElem? hk
  have hlt : k < l.length := (List.getElem?_eq_some_iff.1 hk).1
  unfold idx
  rw [if_pos hm]
  have : l.idxOf n = k := by
    unfold List.idxOf
    rw [List.findIdx_eq hlt]
    refine ⟨by simpa using (List.getElem?_eq_some_iff.1 hk).2, fun j hj => ?_⟩
    have h1 := hno j hj
    rw [List.getElem?_eq_getElem (by omega)] at h1
    simpa using fun e => h1 (by rw [e])
  rw [this]
theorem idx_no {l : List Int} {n : Int} (hno : ∀ j, j < l.length → l[j]? ≠ some n) : idx l n = -1 := by
  unfold idx
  rw [if_neg]
  intro hm
  obtain ⟨i, hi⟩ := List.getElem?_of_mem hm
  exact hno i (List.getElem?_eq_some_iff.1 hi).1 hi
theorem idx_mem {l : List Int} {n : Int} : decide (0 ≤ idx l n) = l.contains n := by
  unfold idx
  split
  · rename_i h
    rw [decide_eq_true (by omega), List.contains_iff_mem.2 h]
  · rename_i h
    have : l.contains n = false := by rw [← Bool.not_eq_true]; exact fun e => h (List.contains_iff_mem.1 e)
    rw [this]; rfl

theorem index_calls (xs : List Int) (n : Int) (A : Option Addr) (cap : Nat) (w : World) (hr : RdV w A (ints xs)) (hlen : xs.length ≤ 9223372036854775807) :
    Calls Try.prog 27 #[.slice A xs.length cap, .int .i64 n] w fun e w' => e = .returned (.int .i64 (idx xs n)) ∧ w' = w := by
  go_enter Try.func27, Try.ntmps27
  go_wp2_with fail
  go_loop [8] (fun i => ∃ k : Nat, k ≤ xs.length ∧ i = .int .i64 k ∧ ∀ j, j < k → xs[j]? ≠ some n) (fun i => xs.length - (RowKit.intOf i).toNat)
  case atStart => exact ⟨0, by omega, rfl, fun j hj => absurd hj (by omega)⟩
  case round =>
    obtain ⟨k, hk, rfl, hno⟩ := hrel
    by_cases hlt : k < xs.length
    · have hlti : (k : Int) < xs.length := by omega
      obtain ⟨b, o, rfl, hc⟩ := hr.at (i := k) (by rw [ints_length]; exact hlt)
      obtain ⟨x, hx⟩ : ∃ x, xs[k]? = some x := ⟨_, List.getElem?_eq_getElem hlt⟩
      have hcell := hc k (.int .i64 x) (by rw [ints_get, hx]; rfl)
      by_cases he : n = x
      · subst he
        have Hok : Hid (idx xs n = k) := Lib.hid (idx_at hx hno)
        go_wp2_with fail
        go_ret
        exact ⟨by rw [Hok.out]; rfl, rfl⟩
      · have hb : (n == x) = false := by simpa using he
        have HN := Lib.hid hno
        clear hno
        go_wp2_with fail
        go_round
        case rel => exact ⟨k + 1, by omega, by go_num, fun j hj => by
          rcases (show j < k ∨ j = k by omega) with h | rfl
          · exact HN.out j h
          · rw [hx]; intro e; cases e; exact he rfl⟩
        case measure => simp [RowKit.intOf]; omega
    · obtain rfl : k = xs.length := by omega
      have Hok : Hid (idx xs n = -1) := Lib.hid (idx_no hno)
      clear hno
      go_wp2_with fail
      go_ret
      exact ⟨by rw [Hok.out]; rfl, rfl⟩

theorem contains_calls (xs : List Int) (n : Int) (A : Option Addr) (cap : Nat) (w : World) (hr : RdV w A (ints xs)) (hlen : xs.length ≤ 9223372036854775807) :
    Calls Try.prog 38 #[.slice A xs.length cap, .int .i64 n] w fun e w' => e = .returned (.bool (xs.contains n)) ∧ w' = w := by
  have HC := Lib.hid (index_calls xs n A cap w hr hlen)
  rw [← idx_mem]
  generalize idx xs n = q at *
  go_enter Try.func38, Try.ntmps38
  go_wp2_with fail
  refine HC.out.mono ?_
  rintro e W1 ⟨rfl, rfl⟩
  go_wp2_with fail
  go_ret
  exact ⟨rfl, rfl⟩

/-- Is a place in a unit's row? -/
def hasB (l : List (List Int)) (u n : Int) : Bool := decide (0 ≤ u) && ((l[u.toNat]?).getD []).contains n

theorem has_calls (rs : List Row) (u n : Int) (A : Option Addr) (cap : Nat) (w : World) (hr : RdR w A rs) (hlen : ∀ r ∈ rs, r.xs.length ≤ 9223372036854775807) :
    Calls Try.prog 32 #[.slice A rs.length cap, .int .i64 u, .int .i64 n] w fun e w' => e = .returned (.bool (hasB (rows rs) u n)) ∧ w' = w := by
  by_cases h0 : 0 ≤ u
  · obtain ⟨k, rfl⟩ : ∃ k : Nat, u = k := ⟨u.toNat, by omega⟩
    by_cases h1 : k < rs.length
    · have h1i : (k : Int) < rs.length := by omega
      obtain ⟨b, o, B, c, xs, rfl, he, hcell, hrd⟩ := hr.at h1
      have HC := Lib.hid (contains_calls xs n B c w hrd (hlen _ (List.mem_of_getElem? he)))
      have : hasB (rows rs) k n = xs.contains n := by
        unfold hasB
        rw [decide_eq_true h0, rows_get, Int.toNat_natCast, he]
        rfl
      rw [this]
      clear this
      generalize xs.contains n = q at *
      go_enter Try.func32, Try.ntmps32
      go_wp2_with fail
      refine HC.out.mono ?_
      rintro e W1 ⟨rfl, rfl⟩
      go_wp2_with fail
      go_ret
      exact ⟨rfl, rfl⟩
    · have h1i : ¬ (k : Int) < rs.length := by omega
      have : hasB (rows rs) k n = false := by
        unfold hasB
        rw [rows_get, Int.toNat_natCast, List.getElem?_eq_none (by omega)]
        simp
      rw [this]
      go_enter Try.func32, Try.ntmps32
      go_wp2_with fail
      go_ret
      exact ⟨rfl, rfl⟩
  · have : hasB (rows rs) u n = false := by
      unfold hasB
      rw [decide_eq_false h0]
      rfl
    rw [this]
    go_enter Try.func32, Try.ntmps32
    go_wp2_with fail
    go_ret
    exact ⟨rfl, rfl⟩

theorem contains_at {l : List Int} {n : Int} {k : Nat} (hk : l[k]? = some n) : l.contains n = true := List.contains_iff_mem.2 (List.mem_of_getElem? hk)
theorem contains_no {l : List Int} {n : Int} (hno : ∀ j, j < l.length → l[j]? ≠ some n) : l.contains n = false := by
  rw [← Bool.not_eq_true]
  intro e
  obtain ⟨i, hi⟩ := List.getElem?_of_mem (List.contains_iff_mem.1 e)
  exact hno i (List.getElem?_eq_some_iff.1 hi).1 hi

theorem rhas_calls (rs : List Row) (u n : Int) (A : Option Addr) (cap : Nat) (w : World) (hr : RdR w A rs) (hlen : ∀ r ∈ rs, r.xs.length ≤ 9223372036854775807) :
    Calls Try.prog 33 #[.slice A rs.length cap, .int .i64 u, .int .i64 n] w fun e w' => e = .returned (.bool (hasB (rows rs) u n)) ∧ w' = w := by
  by_cases h0 : 0 ≤ u
  · obtain ⟨k, rfl⟩ : ∃ k : Nat, u = k := ⟨u.toNat, by omega⟩
    have h0' : ¬ (k : Int) < 0 := by omega
    by_cases h1 : k < rs.length
    · have h1i : (k : Int) < rs.length := by omega
      have h1j : ¬ (rs.length : Int) ≤ k := by omega
      obtain ⟨b, o, B, c, xs, rfl, he, hcell, hrd⟩ := hr.at h1
      have hl := hlen _ (List.mem_of_getElem? he)
      have : hasB (rows rs) k n = xs.contains n := by
        unfold hasB
        rw [decide_eq_true h0, rows_get, Int.toNat_natCast, he]
        rfl
      rw [this]
      obtain ⟨q, hq⟩ : ∃ q, xs.contains n = q := ⟨_, rfl⟩
      have HQ := Lib.hid hq
      rw [hq]
      simp only at hl
      clear hq
      clear this he hlen hr
      go_enter Try.func33, Try.ntmps33
      go_wp2_with fail
      go_loop [7] (fun i => ∃ j : Nat, j ≤ xs.length ∧ i = .int .i64 j ∧ ∀ p, p < j → xs[p]? ≠ some n) (fun i => xs.length - (RowKit.intOf i).toNat)
      case atStart => exact ⟨0, by omega, rfl, fun j hj => absurd hj (by omega)⟩
      case round =>
        obtain ⟨j, hj, rfl, hno⟩ := hrel
        by_cases hlt : j < xs.length
        · have hlti : (j : Int) < xs.length := by omega
          obtain ⟨b2, o2, rfl, hc⟩ := hrd.at (i := j) (by rw [ints_length]; exact hlt)
          obtain ⟨x, hx⟩ : ∃ x, xs[j]? = some x := ⟨_, List.getElem?_eq_getElem hlt⟩
          have hcell2 := hc j (.int .i64 x) (by rw [ints_get, hx]; rfl)
          by_cases hxn : x = n
          · subst hxn
            have Hok : Hid (xs.contains x = true) := Lib.hid (contains_at hx)
            clear hno
            go_wp2_with fail
            go_ret
            exact ⟨by rw [← HQ.out, Hok.out]; rfl, rfl⟩
          · have hb : (x == n) = false := by simpa using hxn
            have HN := Lib.hid hno
            clear hno
            go_wp2_with fail
            go_round
            case rel => exact ⟨j + 1, by omega, by go_num, fun p hp => by
              rcases (show p < j ∨ p = j by omega) with h | rfl
              · exact HN.out p h
              · rw [hx]; intro e; cases e; exact hxn rfl⟩
            case measure => simp [RowKit.intOf]; omega
        · obtain rfl : j = xs.length := by omega
          have Hok : Hid (xs.contains n = false) := Lib.hid (contains_no hno)
          clear hno
          go_wp2_with fail
          go_ret
          exact ⟨by rw [← HQ.out, Hok.out]; rfl, rfl⟩
    · have h1i : (rs.length : Int) ≤ k := by omega
      have : hasB (rows rs) k n = false := by
        unfold hasB
        rw [rows_get, Int.toNat_natCast, List.getElem?_eq_none (by omega)]
        simp
      rw [this]
      go_enter Try.func33, Try.ntmps33
      go_wp2_with fail
      go_ret
      exact ⟨rfl, rfl⟩
  · have : hasB (rows rs) u n = false := by
      unfold hasB
      rw [decide_eq_false h0]
      rfl
    rw [this]
    have h0' : u < 0 := by omega
    go_enter Try.func33, Try.ntmps33
    go_wp2_with fail
    go_ret
    exact ⟨rfl, rfl⟩
end Go.Proofs.Ythlobpdcolgcoaa
/- Chapter 23: which job comes ahead: the package's and the document's. -/
namespace Go.Proofs.Ythlobpdcolgcoaa
open Go.RowKit Go.Lib
set_option linter.unusedVariables false
set_option linter.unusedSimpArgs false

def upB (af be : List (List Int)) (a b : Int) : Bool := hasB af b a || hasB be a b
def aheadB (af be : List (List Int)) (u t v s : Int) : Bool :=
  if u = v then false else if t = 2 then (if s = 2 then upB af be v u else upB af be u v || upB af be v u) else if s = 2 then false else upB af be u v

/-- A graph by value: two of its rows read so. -/
def GR (W : World) (cs : List Value) (af be : List (List Int)) : Prop :=
  ∃ A1 c1 rs1 A2 c2 rs2, cs.length = 10 ∧ cs[4]? = some (.slice A1 (rs1 : List Row).length c1) ∧ cs[5]? = some (.slice A2 (rs2 : List Row).length c2) ∧ RdR W A1 rs1 ∧ RdR W A2 rs2 ∧ rows rs1 = af ∧ rows rs2 = be ∧
    (∀ r ∈ rs1, r.xs.length ≤ 9223372036854775807) ∧ (∀ r ∈ rs2, r.xs.length ≤ 9223372036854775807) ∧ rs1.length ≤ 9223372036854775807 ∧ rs2.length ≤ 9223372036854775807
theorem GR.ext {W W' : World} {cs : List Value} {af be : List (List Int)} (h : GR W cs af be) (hx : Ext W W') : GR W' cs af be := by
  obtain ⟨A1, c1, rs1, A2, c2, rs2, h0, h1, h2, h3, h4, r⟩ := h
  exact ⟨A1, c1, rs1, A2, c2, rs2, h0, h1, h2, h3.ext hx, h4.ext hx, r⟩

theorem gahead_calls (cs : List Value) (af be : List (List Int)) (a b : Int) (w : World) (h : GR w cs af be) :
    Calls Try.prog 22 #[.agg cs.toArray, .int .i64 a, .int .i64 b] w fun e w' => e = .returned (.bool (upB af be a b)) ∧ Ext w w' := by
  obtain ⟨A1, c1, rs1, A2, c2, rs2, h0, h1, h2, h3, h4, rfl, rfl, h5, h6, h7, h8⟩ := h
  have hb : Blk (w.alloc (.cells cs.toArray 24)) w.heap.size cs 24 := Blk.new _ _ _
  have e4 := hb.cell 4 h1
  have e5 := hb.cell 5 h2
  have hx : Ext w (w.alloc (.cells cs.toArray 24)) := (Ext.refl w).alloc _
  have C1 := Lib.hid (has_calls rs1 b a A1 c1 _ (h3.ext hx) h5)
  have C2 := Lib.hid (has_calls rs2 a b A2 c2 _ (h4.ext hx) h6)
  clear h0 h1 h2 h3 h4 h5 h6 h7 h8
  unfold upB
  generalize hasB (rows rs1) b a = p at *
  generalize hasB (rows rs2) a b = q at *
  cases p
  · go_enter Try.func22, Try.ntmps22
    go_wp2_with fail
    refine C1.out.mono ?_
    rintro e W1 ⟨rfl, rfl⟩
    go_wp2_with fail
    refine C2.out.mono ?_
    rintro e W1 ⟨rfl, rfl⟩
    go_wp2_with fail
    go_ret
    exact ⟨rfl, hx⟩
  · go_enter Try.func22, Try.ntmps22
    go_wp2_with fail
    refine C1.out.mono ?_
    rintro e W1 ⟨rfl, rfl⟩
    go_wp2_with fail
    go_ret
    exact ⟨rfl, hx⟩

theorem runits_calls (A1 : Option Addr) (c1 : Nat) (rs1 : List Row) (A2 : Option Addr) (c2 : Nat) (rs2 : List Row) (a b : Int) (w : World) (h3 : RdR w A1 rs1) (h4 : RdR w A2 rs2)
    (h5 : ∀ r ∈ rs1, r.xs.length ≤ 9223372036854775807) (h6 : ∀ r ∈ rs2, r.xs.length ≤ 9223372036854775807) :
    Calls Try.prog 23 #[.agg #[.slice A1 rs1.length c1, .slice A2 rs2.length c2], .int .i64 a, .int .i64 b] w fun e w' => e = .returned (.bool (upB (rows rs1) (rows rs2) a b)) ∧ Ext w w' := by
  have hx : Ext w (w.alloc (.cells #[.slice A1 rs1.length c1, .slice A2 rs2.length c2] 38)) := (Ext.refl w).alloc _
  have C1 := Lib.hid (rhas_calls rs1 b a A1 c1 _ (h3.ext hx) h5)
  have C2 := Lib.hid (rhas_calls rs2 a b A2 c2 _ (h4.ext hx) h6)
  clear h3 h4 h5 h6
  unfold upB
  generalize hasB (rows rs1) b a = p at *
  generalize hasB (rows rs2) a b = q at *
  cases p
  · go_enter Try.func23, Try.ntmps23
    go_wp2_with fail
    refine C1.out.mono ?_
    rintro e W1 ⟨rfl, rfl⟩
    go_wp2_with fail
    refine C2.out.mono ?_
    rintro e W1 ⟨rfl, rfl⟩
    go_wp2_with fail
    go_ret
    exact ⟨rfl, hx⟩
  · go_enter Try.func23, Try.ntmps23
    go_wp2_with fail
    refine C1.out.mono ?_
    rintro e W1 ⟨rfl, rfl⟩
    go_wp2_with fail
    go_ret
    exact ⟨rfl, hx⟩

theorem rowG (n : Nat) (h : n = 10) : isRowT Try.prog 24 n := h ▸ ⟨by kernel_rfl, by kernel_rfl⟩

theorem ahead_calls (cs : List Value) (af be : List (List Int)) (u t v s : Int) (w : World) (h : GR w cs af be) :
    Calls Try.prog 11 #[.agg cs.toArray, .agg #[.int .i64 u, .int .u8 t], .agg #[.int .i64 v, .int .u8 s]] w fun e w' => e = .returned (.bool (aheadB af be u t v s)) ∧ Ext w w' := by
  have hl : cs.length = 10 := by obtain ⟨_, _, _, _, _, _, h0, _⟩ := h; exact h0
  have HT := Lib.hid (rowG cs.length hl)
  have C := Lib.hid fun (a b : Int) W hW => gahead_calls cs af be a b W hW
  unfold aheadB
  obtain ⟨p, hp⟩ : ∃ p, upB af be u v = p := ⟨_, rfl⟩
  obtain ⟨q, hq⟩ : ∃ q, upB af be v u = q := ⟨_, rfl⟩
  have C1 := Lib.hid fun W hW => hp ▸ C.out u v W hW
  have C2 := Lib.hid fun W hW => hq ▸ C.out v u W hW
  rw [hp, hq]
  clear C hp hq hl
  obtain ⟨t2, ht2⟩ : ∃ x, (t == 2) = x := ⟨_, rfl⟩
  obtain ⟨s2, hs2⟩ : ∃ x, (s == 2) = x := ⟨_, rfl⟩
  obtain ⟨uv, huv⟩ : ∃ x, (u == v) = x := ⟨_, rfl⟩
  have E : (if u = v then false else if t = 2 then (if s = 2 then q else p || q) else if s = 2 then false else p) = (if uv then false else if t2 then (if s2 then q else p || q) else if s2 then false else p) := by
    rw [← ht2, ← hs2, ← huv]
    simp
  rw [E]
  clear E
  go_enter Try.func11, Try.ntmps11
  go_upto_region 1 with (fail)
  refine wp_gen (fun W => Blk W w.heap.size cs 24 ∧ W.cell? ⟨w.heap.size + 1, 0, none⟩ = some (.int .i64 u) ∧ W.cell? ⟨w.heap.size + 1, 1, none⟩ = some (.int .u8 t) ∧ W.cell? ⟨w.heap.size + 1 + 1, 0, none⟩ = some (.int .i64 v) ∧ W.cell? ⟨w.heap.size + 1 + 1, 1, none⟩ = some (.int .u8 s) ∧ GR W cs af be ∧ Ext w W)
    ⟨((Blk.new w cs _).alloc _).alloc _, by go_simp, by go_simp, by go_simp, by go_simp, h.ext ((((Ext.refl w).alloc _).alloc _).alloc _), (((Ext.refl w).alloc _).alloc _).alloc _⟩ ?_
  obtain ⟨G, hG⟩ : ∃ G, w.heap.size = G := ⟨_, rfl⟩
  rw [hG]
  clear hG h
  rintro W0 ⟨hb, f1, f2, f3, f4, h, hx0⟩
  have e1 : ∀ W', Ext W0 W' → W'.cell? ⟨G + 1, 0, none⟩ = some (.int .i64 u) := fun W' h => h.cell f1
  have e2 : ∀ W', Ext W0 W' → W'.cell? ⟨G + 1 + 1, 0, none⟩ = some (.int .i64 v) := fun W' h => h.cell f3
  refine wp_region_ext (by kernel_rfl) (by kernel_rfl) ?_
  (apply quiet_onep; (case hw => rfl); (case h1 => intro W' hx; exact quietAt_load_blk (T := 24) (x := .tmp 3) rfl rfl HT.out (Blk.ext hb hx)); (case hp => go_simp; first | done | with_reducible rfl))
  iterate 4 (apply quiet_onep; (case hw => rfl); (case h1 => intro W' hx; go_simp; (try go_bits); with_reducible rfl); (case hp => go_simp; first | done | with_reducible rfl))
  (apply quiet_onep; (case hw => rfl); (case h1 => intro W' hx; go_simp; go_at_call 22; refine ((C1.out _ (h.ext hx))).mono ?_; rintro e w'' ⟨rfl, hx2⟩; exact ⟨rfl, hx.trans hx2⟩); (case hp => go_simp; first | done | with_reducible rfl))
  (apply quiet_onep; (case hw => rfl); (case h1 => intro W' hx; exact quietAt_load_blk (T := 24) (x := .tmp 3) rfl rfl HT.out (Blk.ext hb hx)); (case hp => go_simp; first | done | with_reducible rfl))
  iterate 4 (apply quiet_onep; (case hw => rfl); (case h1 => intro W' hx; go_simp; (try go_bits); with_reducible rfl); (case hp => go_simp; first | done | with_reducible rfl))
  (apply quiet_onep; (case hw => rfl); (case h1 => intro W' hx; go_simp; go_at_call 22; refine ((C2.out _ (h.ext hx))).mono ?_; rintro e w'' ⟨rfl, hx2⟩; exact ⟨rfl, hx.trans hx2⟩); (case hp => go_simp; first | done | with_reducible rfl))
  iterate 2 (apply quiet_onep; (case hw => rfl); (case h1 => intro W' hx; go_simp; (try go_bits); with_reducible rfl); (case hp => go_simp; first | done | with_reducible rfl))
  refine wpQuiet_nil ?_
  intro W1 hx1
  have g1 := e1 W1 hx1
  have g2 := hx1.cell f2
  have g3 := e2 W1 hx1
  have g4 := hx1.cell f4
  have hx2 := hx0.trans hx1
  clear e1 e2 f1 f2 f3 f4 hb h HT C1 C2 hx1 hx0
  go_upto_region 2 with (fail)
  refine wp_region_mixAll (fun W => W = W1.drew) [(0, true), (1, true), (2, true), (3, true), (4, true), (5, true), (6, false), (7, false)] (by kernel_rfl) (by kernel_rfl) (rfl) ?_
  iterate 6 (apply mix_read; (case ho => rfl); (case hw => rfl); (case h1 => intro W' hx; subst hx; go_simp; (try go_bits); with_reducible rfl); (case hp => go_simp; first | done | with_reducible rfl))
  iterate 2 (refine mix_loud rfl ?_; intro KY hKY; go_wp2_with fail; refine ⟨rfl, ?_⟩)
  refine mix_nil ?_; unfold Q0
  cases uv
  · cases t2
    · cases s2
      · go_wp2_with fail
        go_ret
        exact ⟨rfl, hx2.drew⟩
      · go_wp2_with fail
        go_ret
        exact ⟨rfl, hx2.drew⟩
    · cases s2
      · cases p
        · go_wp2_with fail
          go_ret
          exact ⟨rfl, hx2.drew⟩
        · go_wp2_with fail
          go_ret
          exact ⟨rfl, hx2.drew⟩
      · go_wp2_with fail
        go_ret
        exact ⟨rfl, hx2.drew⟩
  · go_wp2_with fail
    go_ret
    exact ⟨rfl, hx2.drew⟩
end Go.Proofs.Ythlobpdcolgcoaa
/- Rows that a call owns: append to one of them; a table of owned rows. -/
namespace Go.Proofs.Ythlobpdcolgcoaa
open Go.RowKit
set_option linter.unusedVariables false
set_option linter.unusedSimpArgs false

section
variable {P : Program}
/-- append of m elements to an owned row: the row's own block, or a new one. -/
theorem wpList_append_row {w : World} {ops : Array Oper} {rest : List Oper} {o : Oper} {a : Act} {Q : Exit → Act → World → Prop} (hgd : o.guard = none) (s x : Operand) (t : TypeId)
    (ho : o.op = .call { callee := .builtin .append, args := #[s, x], argTypes := #[t, t] })
    (base : Nat) (e : TypeId) (i : TypeInfo) (z : Value) (size bytes : Nat) (ht : P.underlying t = some (.slice e)) (hi : P.info? e = some i) (hz : i.zero = some z)
    (hsize : i.size = size) (hby : i.bytes = bytes) (hzs : z.cells.size = size) (hsz : 0 < size)
    (v : Value) (n : Nat) (xs : List Value) (hs : a.eval s = v) (hown : w.ownsRow base e size v n xs)
    (ad : Addr) (m c : Nat) (news : List Value) (hx : a.eval x = .slice (some ad) m c) (hl : news.length = m * size) (hnews : ∀ j u, news[j]? = some u → w.cell? (ad.add j) = some u) (h1 : ∀ u ∈ news, u.oneCell' = true)
    (hm : 0 < m) (h63 : n + m ≤ maxLen) (hbytes : (n + m) * bytes ≤ 140737488355328) (hbase : base ≤ w.heap.size)
    (h : ∀ v' w', w'.ownsRow base e size v' (n + m) (xs ++ news) → w.grownBy w' v.ownBlock → (∀ k, v'.ownBlock = some k → v.ownBlock = some k ∨ w.heap.size ≤ k) → wpList P ops Q rest (a.put o.dst v') w') : wpList P ops Q (o :: rest) a w := by
  have hown' := hown
  obtain ⟨hxl, hv⟩ := hown
  rcases hv with ⟨rfl, rfl⟩ | ⟨g, cap, cur, rfl, hb, hg, hn, hcap, hcs, htk⟩
  · have hx0 : xs = [] := List.eq_nil_of_length_eq_zero (by simpa using hxl)
    subst hx0
    refine wpList_append_grows w hgd s x t ho e i z size bytes ht hi hz hsize hby hzs hsz none 0 0 [] hs (fun _ => ⟨rfl, rfl⟩) (by simp) (fun b hb => by cases hb) ad m c news hx hl hnews h1 (by omega) h63 hbytes (fun v' w' h2 h3 => ?_)
    refine h v' w' ?_ h3 (fun k hk => .inr (h2.lt k hk).1)
    obtain ⟨k1, k2⟩ := h2
    refine ⟨k1, ?_⟩
    rcases k2 with k2 | ⟨g, cap, cur, q1, q2, q3⟩
    · exact .inl k2
    · exact .inr ⟨g, cap, cur, q1, by omega, q3⟩
  · by_cases hroom : n + m ≤ cap
    · refine wpList_append_own_spare w hgd s x t ho base e i size ht hi hsize g n cap xs hs hown' ad m c news hx hl hnews h1 hroom (fun w' h2 h3 => ?_)
      exact h _ w' h2 h3 (fun k hk => .inl hk)
    · refine wpList_append_grows w hgd s x t ho e i z size bytes ht hi hz hsize hby hzs hsz (some ⟨g, 0, none⟩) n cap xs hs (fun e => by cases e) hxl (fun b hb => by cases hb; exact hown'.cells (g := g) rfl) ad m c news hx hl hnews h1 (by omega) h63 hbytes (fun v' w' h2 h3 => ?_)
      refine h v' w' ?_ ⟨h3.os, h3.tape, h3.output, h3.size, fun k hk _ => h3.block k hk (by simp)⟩ (fun k hk => .inr (h2.lt k hk).1)
      obtain ⟨k1, k2⟩ := h2
      refine ⟨k1, ?_⟩
      rcases k2 with k2 | ⟨g, cap, cur, q1, q2, q3⟩
      · exact .inl k2
      · exact .inr ⟨g, cap, cur, q1, by omega, q3⟩

theorem info_parts {e : TypeId} {z : Value} {n m : Nat} (h : (P.info? e).map (fun i => (i.zero, i.size, i.bytes)) = some (some z, n, m)) : ∃ i, P.info? e = some i ∧ i.zero = some z ∧ i.size = n ∧ i.bytes = m := by
  cases hi : P.info? e with
  | none => rw [hi] at h; cases h
  | some i => rw [hi] at h; simp only [Option.map_some, Option.some.injEq, Prod.mk.injEq] at h; exact ⟨i, rfl, h.1, h.2.1, h.2.2⟩

/-- append of one int. -/
theorem wpList_append_int {w : World} {ops : Array Oper} {rest : List Oper} {o : Oper} {a : Act} {Q : Exit → Act → World → Prop} (hgd : o.guard = none) (s x : Operand) (t e : TypeId)
    (ho : o.op = .call { callee := .builtin .append, args := #[s, x], argTypes := #[t, t] }) (ht : P.underlying t = some (.slice e))
    (hinf : (P.info? e).map (fun i => (i.zero, i.size, i.bytes)) = some (some (.int .i64 0), 1, 8)) (base : Nat)
    (v : Value) (xs : List Int) (hs : a.eval s = v) (hown : w.ownsRow base e 1 v xs.length (ints xs))
    (g c : Nat) (u : Int) (hx : a.eval x = .slice (some ⟨g, 0, none⟩) 1 c) (hc : w.cell? ⟨g, 0, none⟩ = some (.int .i64 u))
    (hbig : xs.length ≤ 1000000000) (hbase : base ≤ w.heap.size)
    (h : ∀ v' w', w'.ownsRow base e 1 v' (xs ++ [u]).length (ints (xs ++ [u])) → w.grownBy w' v.ownBlock → (∀ k, v'.ownBlock = some k → v.ownBlock = some k ∨ w.heap.size ≤ k) → wpList P ops Q rest (a.put o.dst v') w') : wpList P ops Q (o :: rest) a w := by
  obtain ⟨i, hi, hz, hsz, hby⟩ := info_parts hinf
  refine wpList_append_row hgd s x t ho base e i _ 1 8 ht hi hz hsz hby rfl (by decide) v xs.length (ints xs) hs hown ⟨g, 0, none⟩ 1 c [.int .i64 u] hx rfl ?_ ?_ (by decide) (by unfold maxLen; omega) (by omega) hbase (fun v' w' h2 h3 h4 => h v' w' ?_ h3 h4)
  · intro j y hj
    cases j with
    | zero => cases hj; exact hc
    | succ j => cases hj
  · intro y hy
    rw [List.mem_singleton.1 hy]
    rfl
  · rw [ints_append, List.length_append]
    exact h2
end

/-- An owned row of ints reads. -/
theorem Owns.rd {W : World} {base : Nat} {e : TypeId} {v : Value} {xs : List Int} (h : W.ownsRow base e 1 v xs.length (ints xs)) : ∃ A cap, v = .slice A xs.length cap ∧ RdV W A (ints xs) ∧ ∀ a, A = some a → base ≤ a.block := by
  obtain ⟨A, cap, rfl, hn, hl, hr⟩ := Owns.shape h
  rcases hr with ⟨h0, rfl⟩ | ⟨g, rfl, hg, hc⟩
  · exact ⟨none, cap, rfl, .inl h0, fun a ha => by cases ha⟩
  · exact ⟨some ⟨g, 0, none⟩, cap, rfl, .inr ⟨g, 0, rfl, fun j v hv => by rw [Nat.zero_add]; exact hc j v hv⟩, fun a ha => by cases ha; exact hg⟩

/-- A table of owned rows: block g holds the slices; each owns its row of ints from block 'base' on; no two lie in one row. -/
structure ORows (W : World) (base g : Nat) (T e : TypeId) (rs : List (Value × List Int)) : Prop where
  blk : Blk W g (rs.map Prod.fst) T
  lt : g < base
  low : base ≤ W.heap.size
  own : ∀ (i : Nat) (v : Value) (xs : List Int), rs[i]? = some (v, xs) → W.ownsRow base e 1 v xs.length (ints xs)
  apart : ∀ (i j : Nat) (v : Value) (xs : List Int) (v' : Value) (xs' : List Int) (k : Nat), i ≠ j → rs[i]? = some (v, xs) → rs[j]? = some (v', xs') → v.ownBlock = some k → v'.ownBlock ≠ some k

theorem ORows.ext {W W' : World} {base g : Nat} {T e : TypeId} {rs : List (Value × List Int)} (h : ORows W base g T e rs) (hx : Ext W W') : ORows W' base g T e rs :=
  ⟨h.blk.ext hx, h.lt, Nat.le_trans h.low hx.size, fun i v xs hi => Owns.ext (h.own i v xs hi) hx, h.apart⟩

/-- A row has grown, and the table's place is set. -/
theorem ORows.step {W W1 : World} {base g : Nat} {T e : TypeId} {rs : List (Value × List Int)} (h : ORows W base g T e rs) {i : Nat} {v v' : Value} {xs xs' : List Int} (hi : rs[i]? = some (v, xs))
    (hown : W1.ownsRow base e 1 v' xs'.length (ints xs')) (hg : W.grownBy W1 v.ownBlock) (hs : ∀ k, v'.ownBlock = some k → v.ownBlock = some k ∨ W.heap.size ≤ k) :
    ORows (W1.setCell ⟨g, i, none⟩ v') base g T e (rs.set i (v', xs')) := by
  have hne : some g ≠ v.ownBlock := by
    intro e
    have := ((h.own i v xs hi).lt g e.symm).1
    have := h.lt
    omega
  have hlt := (List.getElem?_eq_some_iff.1 hi).1
  refine ⟨?_, h.lt, ?_, ?_, ?_⟩
  · have := (Grown.blk hg h.blk hne).set i v'
    rw [List.map_set]
    exact this
  · rw [World.size_setCell]
    exact Nat.le_trans h.low hg.size
  · intro j u ys hj
    by_cases hij : i = j
    · subst hij
      rw [List.getElem?_set_self hlt] at hj
      cases hj
      exact Owns.set hown i v' h.lt
    · rw [List.getElem?_set_ne hij] at hj
      refine Owns.set ((h.own j u ys hj).kept hg ?_) i v' h.lt
      cases hu : u.ownBlock with
      | none => exact .inl rfl
      | some k => exact .inr (fun e => h.apart i j v xs u ys k hij hi hj e.symm hu)
  · intro j1 j2 u1 y1 u2 y2 k hne12 hj1 hj2 hu1 hu2
    have oldlt : ∀ (j : Nat) (u : Value) (ys : List Int), rs[j]? = some (u, ys) → ∀ k, u.ownBlock = some k → k < W.heap.size := fun j u ys hj k hk => ((h.own j u ys hj).lt k hk).2
    by_cases h1 : i = j1
    · subst h1
      rw [List.getElem?_set_self hlt] at hj1
      rw [List.getElem?_set_ne hne12] at hj2
      cases hj1
      rcases hs k hu1 with h3 | h3
      · exact h.apart i j2 v xs u2 y2 k hne12 hi hj2 h3 hu2
      · have := oldlt j2 u2 y2 hj2 k hu2
        omega
    · rw [List.getElem?_set_ne h1] at hj1
      by_cases h2 : i = j2
      · subst h2
        rw [List.getElem?_set_self hlt] at hj2
        cases hj2
        rcases hs k hu2 with h3 | h3
        · exact h.apart i j1 v xs u1 y1 k h1 hi hj1 h3 hu1
        · have := oldlt j1 u1 y1 hj1 k hu1
          omega
      · rw [List.getElem?_set_ne h2] at hj2
        exact h.apart j1 j2 u1 y1 u2 y2 k hne12 hj1 hj2 hu1 hu2

/-- An owned table reads. -/
theorem ORows.rd {W : World} {base g : Nat} {T e : TypeId} {rs : List (Value × List Int)} (h : ORows W base g T e rs) : ∃ R : List Row, RdR W (some ⟨g, 0, none⟩) R ∧ rows R = rs.map Prod.snd ∧ R.length = rs.length := by
  have key : ∀ l : List (Value × List Int), (∀ p ∈ l, ∃ i : Nat, rs[i]? = some p) → ∃ R : List Row, R.map Row.val = l.map Prod.fst ∧ rows R = l.map Prod.snd ∧ ∀ r ∈ R, RdV W r.A (ints r.xs) := by
    intro l
    induction l with
    | nil => exact fun _ => ⟨[], rfl, rfl, fun r hr => by cases hr⟩
    | cons p l ih =>
      intro hl
      obtain ⟨R, h1, h2, h3⟩ := ih fun q hq => hl q (List.mem_cons_of_mem _ hq)
      obtain ⟨i, hi⟩ := hl p (List.mem_cons_self)
      obtain ⟨v, xs⟩ := p
      obtain ⟨A, cap, rfl, hr, _⟩ := Owns.rd (h.own i v xs hi)
      refine ⟨⟨A, cap, xs⟩ :: R, by simp [h1, Row.val], by simp [rows] at h2 ⊢; exact h2, ?_⟩
      intro r hr'
      rcases List.mem_cons.1 hr' with rfl | h4
      · exact hr
      · exact h3 r h4
  obtain ⟨R, h1, h2, h3⟩ := key rs fun p hp => List.getElem?_of_mem hp
  refine ⟨R, ⟨?_, h3⟩, h2, ?_⟩
  · rw [h1]
    refine .inr ⟨g, 0, rfl, fun j v hv => ?_⟩
    rw [Nat.zero_add]
    exact h.blk.cell j hv
  · have := congrArg List.length h2
    simpa [rows] using this

theorem run_append_zero {P : Program} {t ty e : TypeId} (ht : P.underlying t = some (.slice e)) {i : TypeInfo} (hi : P.info? e = some i) (A B : Option Addr) (n c c2 : Nat) (hn : n ≤ c) (w : World) :
    (Builtin.append_ #[t, t] ty #[.slice A n c, .slice B 0 c2]).run P w = .ok (.slice A n c) w := by
  have hl : ∀ a : Addr, (loadCells a 0).run P w = .ok #[] w := fun a => by
    unfold loadCells loadCellsFrom
    rfl
  cases A <;> cases B <;> simp [Builtin.append_, run_underlying ht, sizeOf, typeInfo, hi, Builtin.lenOf, Builtin.firstCells, hn, Result.andThen, storeCells, hl]
/-- append(v, out...) of ints. -/
theorem wpList_append_ints {P : Program} {w : World} {ops : Array Oper} {rest : List Oper} {o : Oper} {a : Act} {Q : Exit → Act → World → Prop} (hgd : o.guard = none) (s x : Operand) (t e : TypeId)
    (ho : o.op = .call { callee := .builtin .append, args := #[s, x], argTypes := #[t, t] }) (ht : P.underlying t = some (.slice e))
    (hinf : (P.info? e).map (fun i => (i.zero, i.size, i.bytes)) = some (some (.int .i64 0), 1, 8)) (base : Nat)
    (v : Value) (xs : List Int) (hs : a.eval s = v) (hown : w.ownsRow base e 1 v xs.length (ints xs))
    (B : Option Addr) (c : Nat) (out : List Int) (hx : a.eval x = .slice B out.length c) (hr : RdV w B (ints out))
    (hbig : xs.length + out.length ≤ 1000000000) (hbase : base ≤ w.heap.size)
    (h : ∀ v' w', w'.ownsRow base e 1 v' (xs ++ out).length (ints (xs ++ out)) → w.grownBy w' v.ownBlock → (∀ k, v'.ownBlock = some k → v.ownBlock = some k ∨ w.heap.size ≤ k) → wpList P ops Q rest (a.put o.dst v') w') : wpList P ops Q (o :: rest) a w := by
  obtain ⟨i, hi, hz, hsz, hby⟩ := info_parts hinf
  by_cases h0 : out = []
  · subst h0
    obtain ⟨A, cap, rfl, hn, _, _⟩ := Owns.shape hown
    refine wpList_plain hgd fun K hK => ?_
    unfold Oper.wp
    have hrun := run_append_zero (t := t) (ty := o.type) ht hi A B xs.length cap c hn w
    simp only [List.length_nil] at hx
    simp [execOp, ho, resolve, invoke, builtin, hs, hx, hrun, Result.andThen]
    exact hK _ _ (h _ w (by simpa using hown) ⟨rfl, rfl, rfl, Nat.le_refl _, fun _ _ _ => rfl⟩ (fun k hk => .inl hk))
  · rcases hr with hr | ⟨b, off, rfl, hc⟩
    · exact absurd (List.map_eq_nil_iff.1 hr) h0
    · refine wpList_append_row hgd s x t ho base e i _ 1 8 ht hi hz hsz hby rfl (by decide) v xs.length (ints xs) hs hown ⟨b, off, none⟩ out.length c (ints out) hx (by rw [ints_length, Nat.mul_one]) ?_ ?_ (List.length_pos_iff.2 h0) (by unfold maxLen; omega) (by omega) hbase (fun v' w' h2 h3 h4 => h v' w' ?_ h3 h4)
      · intro j y hj
        have : (⟨b, off, none⟩ : Addr).add j = ⟨b, off + j, none⟩ := by unfold Addr.add; split <;> simp_all
        rw [this]
        exact hc j y hj
      · intro y hy
        obtain ⟨n, _, rfl⟩ := List.mem_map.1 hy
        rfl
      · rw [ints_append, List.length_append]
        exact h2
end Go.Proofs.Ythlobpdcolgcoaa
/- Items in memory: rows of them read, and rows that a call owns. -/
namespace Go.Proofs.Ythlobpdcolgcoaa
open Go.RowKit Go.Lib
set_option linter.unusedVariables false
set_option linter.unusedSimpArgs false

structure It where
  u : Int
  t : Int
  m : Bool
/-- A slice of items that reads so. -/
def RdI (W : World) (A : Option Addr) (l : List It) : Prop := l = [] ∨ ∃ b o, A = some ⟨b, o, none⟩ ∧
  ∀ j u t m, l[j]? = some ⟨u, t, m⟩ → W.cell? ⟨b, o + j * 3, none⟩ = some (.int .i64 u) ∧ W.cell? ⟨b, o + j * 3 + 1, none⟩ = some (.int .u8 t) ∧ W.cell? ⟨b, o + j * 3 + 2, none⟩ = some (.bool m)
theorem RdI.ext {W W' : World} {A : Option Addr} {l : List It} (h : RdI W A l) (hx : Ext W W') : RdI W' A l := by
  rcases h with h | ⟨b, o, rfl, h⟩
  · exact .inl h
  · exact .inr ⟨b, o, rfl, fun j u t m e => ⟨hx.cell (h j u t m e).1, hx.cell (h j u t m e).2.1, hx.cell (h j u t m e).2.2⟩⟩
theorem RdI.at {W : World} {A : Option Addr} {l : List It} (h : RdI W A l) {i : Nat} (hi : i < l.length) :
    ∃ b o u t m, A = some ⟨b, o, none⟩ ∧ l[i]? = some ⟨u, t, m⟩ ∧ W.cell? ⟨b, o + i * 3, none⟩ = some (.int .i64 u) ∧ W.cell? ⟨b, o + i * 3 + 1, none⟩ = some (.int .u8 t) ∧ W.cell? ⟨b, o + i * 3 + 2, none⟩ = some (.bool m) := by
  rcases h with h | ⟨b, o, hA, hc⟩
  · rw [h] at hi; simp at hi
  · have he : l[i]? = some l[i] := List.getElem?_eq_getElem hi
    generalize l[i] = r at he
    obtain ⟨u, t, m⟩ := r
    exact ⟨b, o, u, t, m, hA, he, hc i u t m he⟩

theorem rowItem : isRowT Try.prog 30 3 := ⟨by kernel_rfl, by kernel_rfl⟩
def itCells (l : List It) : List Value := l.flatMap fun i => [.int .i64 i.u, .int .u8 i.t, .bool i.m]
theorem itCells_length (l : List It) : (itCells l).length = l.length * 3 := by
  induction l with
  | nil => rfl
  | cons a l ih => simp [itCells] at ih ⊢; omega
theorem itCells_get (l : List It) : ∀ (j : Nat) (u t : Int) (m : Bool), l[j]? = some ⟨u, t, m⟩ → (itCells l)[j * 3]? = some (.int .i64 u) ∧ (itCells l)[j * 3 + 1]? = some (.int .u8 t) ∧ (itCells l)[j * 3 + 2]? = some (.bool m) := by
  induction l with
  | nil => exact fun j u t m h => by cases h
  | cons a l ih =>
    intro j u t m h
    cases j with
    | zero => cases h; exact ⟨rfl, rfl, rfl⟩
    | succ j =>
      obtain ⟨h1, h2, h3⟩ := ih j u t m h
      refine ⟨?_, ?_, ?_⟩
      · rw [show (j + 1) * 3 = j * 3 + 3 by omega]; exact h1
      · rw [show (j + 1) * 3 + 1 = (j * 3 + 1) + 3 by omega]; exact h2
      · rw [show (j + 1) * 3 + 2 = (j * 3 + 2) + 3 by omega]; exact h3
theorem infoItem : (Try.prog.info? 30).map (fun i => (i.zero, i.size, i.bytes)) = some (some (.agg #[.int .i64 0, .int .u8 0, .bool false]), 3, 24) := by kernel_rfl
theorem OwnsI.rd {W : World} {base : Nat} {e : TypeId} {v : Value} {l : List It} (h : W.ownsRow base e 3 v l.length (itCells l)) : ∃ A cap, v = .slice A l.length cap ∧ l.length ≤ cap ∧ RdI W A l ∧ ∀ a, A = some a → base ≤ a.block := by
  obtain ⟨hl, hv⟩ := h
  rcases hv with ⟨rfl, h0⟩ | ⟨g, cap, cur, rfl, hb, hg, hn, hcap, hcs, htk⟩
  · exact ⟨none, 0, by rw [h0], by omega, .inl (List.eq_nil_of_length_eq_zero h0), fun a ha => by cases ha⟩
  · refine ⟨_, cap, rfl, hn, .inr ⟨g, 0, rfl, fun j u t m hj => ?_⟩, fun a ha => by cases ha; exact hb⟩
    have key : ∀ k x, (itCells l)[k]? = some x → W.cell? ⟨g, k, none⟩ = some x := fun k x hk => by
      rw [← htk, List.getElem?_take] at hk
      split at hk
      · simp only [World.cell?, hg]
        simpa using hk
      · cases hk
    obtain ⟨h1, h2, h3⟩ := itCells_get l j u t m hj
    rw [Nat.zero_add]
    exact ⟨key _ _ h1, key _ _ h2, key _ _ h3⟩
/-- append of one item. -/
theorem wpList_append_item {w : World} {ops : Array Oper} {rest : List Oper} {o : Oper} {a : Act} {Q : Exit → Act → World → Prop} (hgd : o.guard = none) (s x : Operand)
    (ho : o.op = .call { callee := .builtin .append, args := #[s, x], argTypes := #[31, 31] }) (base : Nat)
    (v : Value) (l : List It) (hs : a.eval s = v) (hown : w.ownsRow base 30 3 v l.length (itCells l))
    (g c : Nat) (i : It) (hx : a.eval x = .slice (some ⟨g, 0, none⟩) 1 c) (hc : Blk w g [.int .i64 i.u, .int .u8 i.t, .bool i.m] 30)
    (hbig : l.length ≤ 100000000) (hbase : base ≤ w.heap.size)
    (h : ∀ v' w', w'.ownsRow base 30 3 v' (l ++ [i]).length (itCells (l ++ [i])) → w.grownBy w' v.ownBlock → (∀ k, v'.ownBlock = some k → v.ownBlock = some k ∨ w.heap.size ≤ k) → wpList Try.prog ops Q rest (a.put o.dst v') w') : wpList Try.prog ops Q (o :: rest) a w := by
  obtain ⟨inf, hi, hz, hsz, hby⟩ := info_parts infoItem
  refine wpList_append_row hgd s x _ ho base _ inf _ 3 24 Try.underlying31 hi hz hsz hby rfl (by decide) v l.length (itCells l) hs hown ⟨g, 0, none⟩ 1 c [.int .i64 i.u, .int .u8 i.t, .bool i.m] hx rfl ?_ ?_ (by decide) (by unfold maxLen; omega) (by omega) hbase (fun v' w' h2 h3 h4 => h v' w' ?_ h3 h4)
  · intro j y hj
    have : (⟨g, 0, none⟩ : Addr).add j = ⟨g, j, none⟩ := by unfold Addr.add; split <;> simp_all
    rw [this]
    exact hc.cell j hj
  · intro y hy
    simp only [List.mem_cons, List.not_mem_nil, or_false] at hy
    rcases hy with rfl | rfl | rfl <;> rfl
  · have e : itCells (l ++ [i]) = itCells l ++ [.int .i64 i.u, .int .u8 i.t, .bool i.m] := by simp [itCells]
    rw [e, List.length_append]
    exact h2
end Go.Proofs.Ythlobpdcolgcoaa
/- Chapter 23: items in memory; the law's guards; the document's Ahead. -/
namespace Go.Proofs.Ythlobpdcolgcoaa
open Go.RowKit Go.Lib
set_option linter.unusedVariables false
set_option linter.unusedSimpArgs false

def unitB (n1 n2 : Nat) (x : It) : Bool := decide (0 ≤ x.u) && decide (x.u < n1) && decide (x.u < n2)
theorem units_calls (cs : List Value) (af be : List (List Int)) (l : List It) (A : Option Addr) (cap : Nat) (w : World) (h : GR w cs af be) (hr : RdI w A l) (hlen : l.length ≤ 9223372036854775807) :
    Calls Try.prog 9 #[.agg cs.toArray, .slice A l.length cap] w fun e w' => e = .returned (.bool (l.all (unitB af.length be.length))) ∧ Ext w w' := by
  obtain ⟨A1, c1, rs1, A2, c2, rs2, h0, h1, h2, h3, h4, rfl, rfl, h5, h6, h7, h8⟩ := h
  have hb : Blk (w.alloc (.cells cs.toArray 24)) w.heap.size cs 24 := Blk.new _ _ _
  have e4 := hb.cell 4 h1
  have e5 := hb.cell 5 h2
  have hx : Ext w (w.alloc (.cells cs.toArray 24)) := (Ext.refl w).alloc _
  have hr2 := hr.ext hx
  rw [rows_length, rows_length]
  generalize rs1.length = n1 at *
  generalize rs2.length = n2 at *
  clear h0 h1 h2 h3 h4 h5 h6 hr hb
  go_enter Try.func9, Try.ntmps9
  go_wp2_with fail
  refine wp_gen (fun W => Ext w W ∧ RdI W A l ∧ W.cell? ⟨w.heap.size, 4, none⟩ = some (.slice A1 n1 c1) ∧ W.cell? ⟨w.heap.size, 5, none⟩ = some (.slice A2 n2 c2)) ⟨hx, hr2, e4, e5⟩ ?_
  clear e4 e5 hr2 hx
  obtain ⟨G, hG⟩ : ∃ G, w.heap.size = G := ⟨_, rfl⟩
  rw [hG]
  clear hG
  rintro W0 ⟨hx, hr, e4, e5⟩
  go_loopw [5] (fun i W => ∃ j : Nat, j ≤ l.length ∧ i = .int .i64 j ∧ (l.take j).all (unitB n1 n2) = true ∧ Ext w W ∧ RdI W A l ∧ W.cell? ⟨G, 4, none⟩ = some (.slice A1 n1 c1) ∧ W.cell? ⟨G, 5, none⟩ = some (.slice A2 n2 c2)) (fun i _ => l.length - (RowKit.intOf i).toNat)
  case atStart => exact ⟨0, by omega, rfl, by simp, hx, hr, e4, e5⟩
  case round =>
    clear hx hr e4 e5
    obtain ⟨j, hj, rfl, hall, hx, hr, e4, e5⟩ := hrel
    by_cases hlt : j < l.length
    · have hlti : (j : Int) < l.length := by omega
      obtain ⟨b, o, u, t, m, rfl, he, f1, f2, f3⟩ := hr.at hlt
      have HA := Lib.hid hall
      clear hall
      by_cases a1 : u < 0
      · go_upto_region 4 with (fail)
        refine wp_region_mixAll (fun W => W = wr.drew) [(0, true), (1, true), (2, true), (3, true), (4, true), (5, true), (6, true), (7, true), (8, true), (9, true), (10, true), (11, true), (12, true), (13, true), (14, true), (15, true), (16, true), (17, true), (18, true), (19, true), (20, true), (21, true), (22, true), (23, true), (24, true), (25, true), (26, true), (27, true), (28, true), (29, true), (30, true)] (by kernel_rfl) (by kernel_rfl) (rfl) ?_
        repeat (first | (apply mix_read; (case ho => rfl); (case hw => rfl); (case h1 => intro W' hx; subst hx; go_simp; (try go_bits); with_reducible rfl); (case hp => go_simp; first | done | with_reducible rfl)) | (apply mix_skip; (case ho => rfl); (case hw => rfl); (case hp => go_simp; first | done | with_reducible rfl)))
        refine mix_nil ?_; unfold Q0
        go_wp2_with fail
        go_ret
        have : l.all (unitB n1 n2) = false := by
          rw [← Bool.not_eq_true]
          intro hh
          have := List.all_eq_true.1 hh _ (List.mem_of_getElem? he)
          simp [unitB] at this
          omega
        exact ⟨by rw [this]; rfl, hx.drew⟩
      · by_cases a2 : (n1 : Int) ≤ u
        · go_upto_region 4 with (fail)
          refine wp_region_mixAll (fun W => W = wr.drew) [(0, true), (1, true), (2, true), (3, true), (4, true), (5, true), (6, true), (7, true), (8, true), (9, true), (10, true), (11, true), (12, true), (13, true), (14, true), (15, true), (16, true), (17, true), (18, true), (19, true), (20, true), (21, true), (22, true), (23, true), (24, true), (25, true), (26, true), (27, true), (28, true), (29, true), (30, true)] (by kernel_rfl) (by kernel_rfl) (rfl) ?_
          repeat (first | (apply mix_read; (case ho => rfl); (case hw => rfl); (case h1 => intro W' hx; subst hx; go_simp; (try go_bits); with_reducible rfl); (case hp => go_simp; first | done | with_reducible rfl)) | (apply mix_skip; (case ho => rfl); (case hw => rfl); (case hp => go_simp; first | done | with_reducible rfl)))
          refine mix_nil ?_; unfold Q0
          go_wp2_with fail
          go_ret
          have : l.all (unitB n1 n2) = false := by
            rw [← Bool.not_eq_true]
            intro hh
            have := List.all_eq_true.1 hh _ (List.mem_of_getElem? he)
            simp [unitB] at this
            omega
          exact ⟨by rw [this]; rfl, hx.drew⟩
        · by_cases a3 : (n2 : Int) ≤ u
          · go_upto_region 4 with (fail)
            refine wp_region_mixAll (fun W => W = wr.drew) [(0, true), (1, true), (2, true), (3, true), (4, true), (5, true), (6, true), (7, true), (8, true), (9, true), (10, true), (11, true), (12, true), (13, true), (14, true), (15, true), (16, true), (17, true), (18, true), (19, true), (20, true), (21, true), (22, true), (23, true), (24, true), (25, true), (26, true), (27, true), (28, true), (29, true), (30, true)] (by kernel_rfl) (by kernel_rfl) (rfl) ?_
            repeat (first | (apply mix_read; (case ho => rfl); (case hw => rfl); (case h1 => intro W' hx; subst hx; go_simp; (try go_bits); with_reducible rfl); (case hp => go_simp; first | done | with_reducible rfl)) | (apply mix_skip; (case ho => rfl); (case hw => rfl); (case hp => go_simp; first | done | with_reducible rfl)))
            refine mix_nil ?_; unfold Q0
            go_wp2_with fail
            go_ret
            have : l.all (unitB n1 n2) = false := by
              rw [← Bool.not_eq_true]
              intro hh
              have := List.all_eq_true.1 hh _ (List.mem_of_getElem? he)
              simp [unitB] at this
              omega
            exact ⟨by rw [this]; rfl, hx.drew⟩
          · go_upto_region 4 with (fail)
            refine wp_region_mixAll (fun W => W = wr.drew) [(0, true), (1, true), (2, true), (3, true), (4, true), (5, true), (6, true), (7, true), (8, true), (9, true), (10, true), (11, true), (12, true), (13, true), (14, true), (15, true), (16, true), (17, true), (18, true), (19, true), (20, true), (21, true), (22, true), (23, true), (24, true), (25, true), (26, true), (27, true), (28, true), (29, true), (30, true)] (by kernel_rfl) (by kernel_rfl) (rfl) ?_
            repeat (first | (apply mix_read; (case ho => rfl); (case hw => rfl); (case h1 => intro W' hx; subst hx; go_simp; (try go_bits); with_reducible rfl); (case hp => go_simp; first | done | with_reducible rfl)) | (apply mix_skip; (case ho => rfl); (case hw => rfl); (case hp => go_simp; first | done | with_reducible rfl)))
            refine mix_nil ?_; unfold Q0
            go_wp2_with fail
            go_roundw
            case rel => exact ⟨j + 1, by omega, by go_num, by
              rw [List.take_add_one, he, List.all_append, HA.out]
              simp [unitB]
              omega, hx.drew, hr.ext ((Ext.refl _).drew), ((Ext.refl wr).drew).cell e4, ((Ext.refl wr).drew).cell e5⟩
            case measure => simp [RowKit.intOf]; omega
    · obtain rfl : j = l.length := by omega
      rw [List.take_of_length_le (Nat.le_refl _)] at hall
      have HA := Lib.hid hall
      clear hall
      go_wp2_with fail
      go_ret
      exact ⟨by rw [HA.out]; rfl, hx⟩
end Go.Proofs.Ythlobpdcolgcoaa
/- Chapter 23: few; two rows the same; the document's Ahead. -/
namespace Go.Proofs.Ythlobpdcolgcoaa
open Go.RowKit Go.Lib
set_option linter.unusedVariables false
set_option linter.unusedSimpArgs false

def shortB (n : Nat) (l : List (List Int)) : Bool := l.all fun r => decide (r.length ≤ n)
def fewB (af be : List (List Int)) : Bool := shortB 100 af && shortB 100 be && (decide (af.length ≤ 100) && decide (be.length ≤ 100))
theorem rows_short {rs : List Row} {i : Nat} {B : Option Addr} {c : Nat} {xs : List Int} (he : rs[i]? = some ⟨B, c, xs⟩) (h : ¬ xs.length ≤ 100) : shortB 100 (rows rs) = false := by
  rw [← Bool.not_eq_true]
  intro e
  have := List.all_eq_true.1 e xs (List.mem_of_getElem? (i := i) (by rw [rows_get, he]; rfl))
  simp only [decide_eq_true_eq] at this
  exact h this
theorem rows_step {rs : List Row} {i : Nat} {B : Option Addr} {c : Nat} {xs : List Int} (he : rs[i]? = some ⟨B, c, xs⟩) (h : xs.length ≤ 100) (hall : shortB 100 ((rows rs).take i) = true) : shortB 100 ((rows rs).take (i + 1)) = true := by
  unfold shortB at *
  rw [List.take_add_one, rows_get, he, List.all_append, hall]
  simpa using h

set_option maxHeartbeats 1000000 in
theorem few_calls (cs : List Value) (af be : List (List Int)) (w : World) (h : GR w cs af be) :
    Calls Try.prog 8 #[.agg cs.toArray] w fun e w' => e = .returned (.bool (fewB af be)) ∧ Ext w w' := by
  obtain ⟨A1, c1, rs1, A2, c2, rs2, h0, h1, h2, h3, h4, rfl, rfl, h5, h6, h7, h8⟩ := h
  have hb : Blk (w.alloc (.cells cs.toArray 24)) w.heap.size cs 24 := Blk.new _ _ _
  have e4 := hb.cell 4 h1
  have e5 := hb.cell 5 h2
  have hx : Ext w (w.alloc (.cells cs.toArray 24)) := (Ext.refl w).alloc _
  have h3' := h3.ext hx
  have h4' := h4.ext hx
  obtain ⟨q, hq⟩ : ∃ q, fewB (rows rs1) (rows rs2) = q := ⟨_, rfl⟩
  have HQ := Lib.hid hq
  rw [hq]
  clear hq
  go_enter Try.func8, Try.ntmps8
  go_wp2_with fail
  refine wp_gen (fun W => Ext w W ∧ RdR W A1 rs1 ∧ RdR W A2 rs2 ∧ W.cell? ⟨w.heap.size, 4, none⟩ = some (.slice A1 rs1.length c1) ∧ W.cell? ⟨w.heap.size, 5, none⟩ = some (.slice A2 rs2.length c2)) ⟨hx, h3', h4', e4, e5⟩ ?_
  clear e4 e5 h3' h4' hx hb h3 h4 h1 h2 h0
  obtain ⟨G, hG⟩ : ∃ G, w.heap.size = G := ⟨_, rfl⟩
  rw [hG]
  clear hG
  rintro W0 ⟨hx, hr1, hr2, e4, e5⟩
  go_loop [3] (fun i => ∃ j : Nat, j ≤ rs1.length ∧ i = .int .i64 j ∧ shortB 100 ((rows rs1).take j) = true) (fun i => rs1.length - (RowKit.intOf i).toNat)
  case atStart => exact ⟨0, by omega, rfl, rfl⟩
  case round =>
    obtain ⟨j, hj, rfl, hall⟩ := hrel
    by_cases hlt : j < rs1.length
    · have hlti : (j : Int) < rs1.length := by omega
      obtain ⟨b, o, B, c, xs, rfl, he, hcell, hrd⟩ := hr1.at hlt
      by_cases hs : xs.length ≤ 100
      · have hsi : ¬ 100 < (xs.length : Int) := by omega
        have HA := Lib.hid (rows_step he hs hall)
        clear hall
        go_wp2_with fail
        go_round
        case rel => exact ⟨j + 1, by omega, by go_num, HA.out⟩
        case measure => simp [RowKit.intOf]; omega
      · have hsi : 100 < (xs.length : Int) := by omega
        have HA := Lib.hid (rows_short he hs)
        clear hall
        go_wp2_with fail
        go_ret
        exact ⟨by rw [← HQ.out, fewB, HA.out]; rfl, hx⟩
    · obtain rfl : j = rs1.length := by omega
      rw [← rows_length, List.take_of_length_le (Nat.le_refl _)] at hall
      have H1 := Lib.hid hall
      clear hall
      go_wp2_with fail
      go_loop [4] (fun i => ∃ j : Nat, j ≤ rs2.length ∧ i = .int .i64 j ∧ shortB 100 ((rows rs2).take j) = true) (fun i => rs2.length - (RowKit.intOf i).toNat)
      case atStart => exact ⟨0, by omega, rfl, rfl⟩
      case round =>
        obtain ⟨j, hj, rfl, hall⟩ := hrel
        by_cases hlt : j < rs2.length
        · have hlti : (j : Int) < rs2.length := by omega
          obtain ⟨b, o, B, c, xs, rfl, he, hcell, hrd⟩ := hr2.at hlt
          by_cases hs : xs.length ≤ 100
          · have hsi : ¬ 100 < (xs.length : Int) := by omega
            have HA := Lib.hid (rows_step he hs hall)
            clear hall
            go_wp2_with fail
            go_round
            case rel => exact ⟨j + 1, by omega, by go_num, HA.out⟩
            case measure => simp [RowKit.intOf]; omega
          · have hsi : 100 < (xs.length : Int) := by omega
            have HA := Lib.hid (rows_short he hs)
            clear hall
            go_wp2_with fail
            go_ret
            exact ⟨by rw [← HQ.out, fewB, HA.out, Bool.and_false]; rfl, hx⟩
        · obtain rfl : j = rs2.length := by omega
          rw [← rows_length, List.take_of_length_le (Nat.le_refl _)] at hall
          have H2 := Lib.hid hall
          clear hall
          have hq := HQ.out
          rw [fewB, H1.out, H2.out, Bool.and_self, Bool.true_and, rows_length, rows_length] at hq
          by_cases l1 : (rs1.length : Int) ≤ 100
          · by_cases l2 : (rs2.length : Int) ≤ 100
            · rw [decide_eq_true (by omega : rs1.length ≤ 100), decide_eq_true (by omega : rs2.length ≤ 100)] at hq
              have HQ2 := Lib.hid hq
              clear hq
              go_wp2_with fail
              go_ret
              exact ⟨by rw [← HQ2.out]; rfl, hx⟩
            · rw [decide_eq_false (by omega : ¬ rs2.length ≤ 100), Bool.and_false] at hq
              have HQ2 := Lib.hid hq
              clear hq
              go_wp2_with fail
              go_ret
              exact ⟨by rw [← HQ2.out]; rfl, hx⟩
          · rw [decide_eq_false (by omega : ¬ rs1.length ≤ 100), Bool.false_and] at hq
            have HQ2 := Lib.hid hq
            clear hq
            go_wp2_with fail
            go_ret
            exact ⟨by rw [← HQ2.out]; rfl, hx⟩

theorem same_calls (xs ys : List Int) (A B : Option Addr) (c d : Nat) (w : World) (h1 : RdV w A (ints xs)) (h2 : RdV w B (ints ys)) (hl : xs.length ≤ 9223372036854775807) (hl2 : ys.length ≤ 9223372036854775807) :
    Calls Try.prog 18 #[.slice A xs.length c, .slice B ys.length d] w fun e w' => e = .returned (.bool (decide (xs = ys))) ∧ Ext w w' := by
  by_cases hlen : xs.length = ys.length
  · have HL := Lib.hid hlen
    obtain ⟨q, hq⟩ : ∃ q, decide (xs = ys) = q := ⟨_, rfl⟩
    have HQ := Lib.hid hq
    rw [hq]
    clear hq
    rw [← hlen]
    clear hlen
    go_enter Try.func18, Try.ntmps18
    go_wp2_with fail
    go_loopw [5] (fun i W => ∃ j : Nat, j ≤ xs.length ∧ i = .int .i64 j ∧ xs.take j = ys.take j ∧ Ext w W ∧ RdV W A (ints xs) ∧ RdV W B (ints ys)) (fun i _ => xs.length - (RowKit.intOf i).toNat)
    case atStart => exact ⟨0, by omega, rfl, by simp, Ext.refl w, h1, h2⟩
    case round =>
      clear h1 h2
      obtain ⟨j, hj, rfl, heq, hx, h1, h2⟩ := hrel
      have HE := Lib.hid heq
      clear heq
      by_cases hlt : j < xs.length
      · have hlti : (j : Int) < xs.length := by omega
        obtain ⟨b1, o1, rfl, k1⟩ := h1.at (i := j) (by rw [ints_length]; exact hlt)
        obtain ⟨b2, o2, rfl, k2⟩ := h2.at (i := j) (by rw [ints_length, ← HL.out]; exact hlt)
        obtain ⟨x, hx1⟩ : ∃ x, xs[j]? = some x := ⟨_, List.getElem?_eq_getElem hlt⟩
        obtain ⟨y, hy1⟩ : ∃ y, ys[j]? = some y := ⟨_, List.getElem?_eq_getElem (by rw [← HL.out]; exact hlt)⟩
        have f1 := k1 j (.int .i64 x) (by rw [ints_get, hx1]; rfl)
        have f2 := k2 j (.int .i64 y) (by rw [ints_get, hy1]; rfl)
        by_cases hxy : x = y
        · subst hxy
          go_upto_region 6 with (fail)
          refine wp_region_mixAll (fun W => W = wr.drew) [(0, true), (1, true), (2, true), (3, true), (4, true), (5, true), (6, true), (7, true), (8, true)] (by kernel_rfl) (by kernel_rfl) (rfl) ?_
          repeat (apply mix_read; (case ho => rfl); (case hw => rfl); (case h1 => intro W' hx; subst hx; go_simp; (try go_bits); with_reducible rfl); (case hp => go_simp; first | done | with_reducible rfl))
          refine mix_nil ?_; unfold Q0
          go_wp2_with fail
          go_roundw
          case rel => exact ⟨j + 1, by omega, by go_num, by rw [List.take_add_one, List.take_add_one, HE.out, hx1, hy1], hx.drew, h1.ext (Ext.refl _).drew, h2.ext (Ext.refl _).drew⟩
          case measure => simp [RowKit.intOf]; omega
        · have hb : (x == y) = false := by simpa using hxy
          go_upto_region 6 with (fail)
          refine wp_region_mixAll (fun W => W = wr.drew) [(0, true), (1, true), (2, true), (3, true), (4, true), (5, true), (6, true), (7, true), (8, true)] (by kernel_rfl) (by kernel_rfl) (rfl) ?_
          repeat (apply mix_read; (case ho => rfl); (case hw => rfl); (case h1 => intro W' hx; subst hx; go_simp; (try go_bits); with_reducible rfl); (case hp => go_simp; first | done | with_reducible rfl))
          refine mix_nil ?_; unfold Q0
          go_wp2_with fail
          go_ret
          exact ⟨by rw [← HQ.out, decide_eq_false (by rintro rfl; rw [hx1] at hy1; cases hy1; exact hxy rfl)]; rfl, hx.drew⟩
      · obtain rfl : j = xs.length := by omega
        go_wp2_with fail
        go_ret
        exact ⟨by
          have he := HE.out
          rw [List.take_of_length_le (Nat.le_refl _), HL.out, List.take_of_length_le (Nat.le_refl _)] at he
          rw [← HQ.out, decide_eq_true he]; rfl, hx⟩
  · have hli : ¬ (xs.length : Int) = ys.length := by omega
    have hbi : ((xs.length : Int) == ys.length) = false := by simpa using hli
    rw [decide_eq_false (by rintro rfl; exact hlen rfl)]
    go_enter Try.func18, Try.ntmps18
    go_wp2_with fail
    go_ret
    exact ⟨rfl, Ext.refl w⟩
end Go.Proofs.Ythlobpdcolgcoaa
/- Chapter 23: the document's graph and Ahead. -/
namespace Go.Proofs.Ythlobpdcolgcoaa
open Go.RowKit Go.Lib
set_option linter.unusedVariables false
set_option linter.unusedSimpArgs false

/-- The document's graph, by value. -/
def RG (W : World) (gv : Value) (af be : List (List Int)) : Prop :=
  ∃ A1 c1 rs1 A2 c2 rs2, gv = .agg #[.slice A1 (rs1 : List Row).length c1, .slice A2 (rs2 : List Row).length c2] ∧ RdR W A1 rs1 ∧ RdR W A2 rs2 ∧ rows rs1 = af ∧ rows rs2 = be ∧
    (∀ r ∈ rs1, r.xs.length ≤ 9223372036854775807) ∧ (∀ r ∈ rs2, r.xs.length ≤ 9223372036854775807)
theorem RG.ext {W W' : World} {gv : Value} {af be : List (List Int)} (h : RG W gv af be) (hx : Ext W W') : RG W' gv af be := by
  obtain ⟨A1, c1, rs1, A2, c2, rs2, h2, h3, h4, r⟩ := h
  exact ⟨A1, c1, rs1, A2, c2, rs2, h2, h3.ext hx, h4.ext hx, r⟩

theorem rowR : isRowT Try.prog 38 2 := ⟨by kernel_rfl, by kernel_rfl⟩

theorem plain_calls (cs : List Value) (af be : List (List Int)) (w : World) (h : GR w cs af be) :
    Calls Try.prog 13 #[.agg cs.toArray] w fun e w' => ∃ gv, e = .returned gv ∧ RG w' gv af be ∧ Ext w w' := by
  obtain ⟨A1, c1, rs1, A2, c2, rs2, h0, h1, h2, h3, h4, rfl, rfl, h5, h6, h7, h8⟩ := h
  have hb : Blk (w.alloc (.cells cs.toArray 24)) w.heap.size cs 24 := Blk.new _ _ _
  have e4 := hb.cell 4 h1
  have e5 := hb.cell 5 h2
  have hx : Ext w (w.alloc (.cells cs.toArray 24)) := (Ext.refl w).alloc _
  have H3 := Lib.hid fun W hW => h3.ext (W' := W) hW
  have H4 := Lib.hid fun W hW => h4.ext (W' := W) hW
  clear h3 h4 h0 h1 h2
  go_enter Try.func13, Try.ntmps13
  go_upto_region 1 with (fail)
  refine wp_gen (fun W => Ext w W ∧ Blk W (w.heap.size + 1) [.slice none 0 0, .slice none 0 0] 38 ∧ W.cell? ⟨w.heap.size, 4, none⟩ = some (.slice A1 rs1.length c1) ∧ W.cell? ⟨w.heap.size, 5, none⟩ = some (.slice A2 rs2.length c2))
    ⟨hx.alloc _, by have := Blk.new (w.alloc (.cells cs.toArray 24)) [.slice none 0 0, .slice none 0 0] 38; simpa using this, ((Ext.refl _).alloc _).cell e4, ((Ext.refl _).alloc _).cell e5⟩ ?_
  clear e4 e5 hx hb
  obtain ⟨G, hG⟩ : ∃ G, w.heap.size = G := ⟨_, rfl⟩
  have hG1 : w.heap.size ≤ G + 1 := by omega
  rw [hG]
  clear hG
  rintro W0 ⟨hx, hb, e4, e5⟩
  have d0 := hb.cell 0 rfl
  have d1 := hb.cell 1 rfl
  have z0 := hb.frozen 0
  have z1 := hb.frozen 1
  go_wp2_with fail
  have hb2 : Blk ((W0.setCell ⟨G + 1, 0, none⟩ (.slice A1 rs1.length c1)).setCell ⟨G + 1, 1, none⟩ (.slice A2 rs2.length c2)) (G + 1) [.slice A1 rs1.length c1, .slice A2 rs2.length c2] 38 := (hb.set 0 _).set 1 _
  have hx2 : Ext w ((W0.setCell ⟨G + 1, 0, none⟩ (.slice A1 rs1.length c1)).setCell ⟨G + 1, 1, none⟩ (.slice A2 rs2.length c2)) := (hx.setCell (by simp only; omega) _).setCell (by simp only; omega) _
  exact bodyPost_ret (v := .agg #[.slice A1 rs1.length c1, .slice A2 rs2.length c2]) (results_cell Try.results13 _ _ rfl rowR hb2) rfl
    ⟨_, rfl, ⟨A1, c1, rs1, A2, c2, rs2, rfl, H3.out _ hx2, H4.out _ hx2, rfl, rfl, h5, h6⟩, hx2⟩

set_option maxHeartbeats 1000000 in
theorem rahead_calls (gv : Value) (af be : List (List Int)) (u t v s : Int) (m n : Bool) (w : World) (h : RG w gv af be) :
    Calls Try.prog 12 #[gv, .agg #[.int .i64 u, .int .u8 t, .bool m], .agg #[.int .i64 v, .int .u8 s, .bool n]] w fun e w' => e = .returned (.bool (aheadB af be u t v s)) ∧ Ext w w' := by
  obtain ⟨A1, c1, rs1, A2, c2, rs2, rfl, h3, h4, rfl, rfl, h5, h6⟩ := h
  have C := Lib.hid fun (a b : Int) W (hW : Ext w W) => runits_calls A1 c1 rs1 A2 c2 rs2 a b W (h3.ext hW) (h4.ext hW) h5 h6
  unfold aheadB
  obtain ⟨p, hp⟩ : ∃ p, upB (rows rs1) (rows rs2) u v = p := ⟨_, rfl⟩
  obtain ⟨q, hq⟩ : ∃ q, upB (rows rs1) (rows rs2) v u = q := ⟨_, rfl⟩
  have C1 := Lib.hid fun W hW => hp ▸ C.out u v W hW
  have C2 := Lib.hid fun W hW => hq ▸ C.out v u W hW
  rw [hp, hq]
  clear C hp hq h3 h4 h5 h6
  generalize (Value.slice A1 rs1.length c1) = X1 at *
  generalize (Value.slice A2 rs2.length c2) = X2 at *
  obtain ⟨r, hr⟩ : ∃ r, (if u = v then false else if t = 2 then (if s = 2 then q else p || q) else if s = 2 then false else p) = r := ⟨_, rfl⟩
  rw [hr]
  have HR := Lib.hid hr
  clear hr
  go_enter Try.func12, Try.ntmps12
  go_upto_region 1 with (fail)
  refine wp_gen (fun W => Blk W w.heap.size [X1, X2] 38 ∧ Blk W (w.heap.size + 1) [.int .i64 u, .int .u8 t, .bool m] 34 ∧ Blk W (w.heap.size + 1 + 1) [.int .i64 v, .int .u8 s, .bool n] 34 ∧ Ext w W)
    ⟨((Blk.new w [X1, X2] _).alloc _).alloc _, by
      have := (Blk.new (w.alloc (.cells #[X1, X2] 38)) [.int .i64 u, .int .u8 t, .bool m] 34).alloc (.cells #[.int .i64 v, .int .u8 s, .bool n] 34)
      simpa using this, by
      have := (Blk.new ((w.alloc (.cells #[X1, X2] 38)).alloc (.cells #[.int .i64 u, .int .u8 t, .bool m] 34)) [.int .i64 v, .int .u8 s, .bool n] 34)
      simpa using this, (((Ext.refl w).alloc _).alloc _).alloc _⟩ ?_
  obtain ⟨G, hG⟩ : ∃ G, w.heap.size = G := ⟨_, rfl⟩
  rw [hG]
  clear hG
  rintro W0 ⟨hb, hb1, hb2, hx⟩
  have f1 := hb1.cell 0 rfl
  have f2 := hb1.cell 1 rfl
  have f3 := hb2.cell 0 rfl
  have f4 := hb2.cell 1 rfl
  by_cases huv : u = v
  case neg =>
    have huv2 : (u == v) = false := by simpa using huv
    by_cases ht : t = 2
    case neg =>
      have ht2 : (t == 2) = false := by simpa using ht
      have ht3 : (t != 2) = true := by simpa using ht
      by_cases hs : s = 2
      case neg =>
        have hs2 : (s == 2) = false := by simpa using hs
        have hs3 : (s != 2) = true := by simpa using hs
        go_wp2_with (refine wpList_load_blk rfl 38 (.tmp 3) rfl G rfl (cs := [X1, X2]) rowR hb ?_)
        refine (C1.out _ hx).mono ?_
        rintro e W1 ⟨rfl, hx1⟩
        go_wp2_with fail
        go_ret
        exact ⟨by rw [← HR.out]; simp [*], hx.trans hx1⟩
      case pos =>
        subst hs
        go_wp2_with (refine wpList_load_blk rfl 38 (.tmp 3) rfl G rfl (cs := [X1, X2]) rowR hb ?_)
        go_ret
        exact ⟨by rw [← HR.out]; simp [*], hx⟩
    case pos =>
      subst ht
      by_cases hs : s = 2
      case neg =>
        have hs2 : (s == 2) = false := by simpa using hs
        have hs3 : (s != 2) = true := by simpa using hs
        cases p
        · go_wp2_with (refine wpList_load_blk rfl 38 (.tmp 3) rfl G rfl (cs := [X1, X2]) rowR hb ?_)
          refine (C1.out _ hx).mono ?_
          rintro e W1 ⟨rfl, hx1⟩
          have k1 := hx1.cell f1
          have k3 := hx1.cell f3
          go_wp2_with (refine wpList_load_blk rfl 38 (.tmp 3) rfl G rfl (cs := [X1, X2]) rowR (hb.ext hx1) ?_)
          refine (C2.out _ (hx.trans hx1)).mono ?_
          rintro e W2 ⟨rfl, hx2⟩
          go_wp2_with fail
          go_ret
          exact ⟨by rw [← HR.out]; simp [*], (hx.trans hx1).trans hx2⟩
        · go_wp2_with (refine wpList_load_blk rfl 38 (.tmp 3) rfl G rfl (cs := [X1, X2]) rowR hb ?_)
          refine (C1.out _ hx).mono ?_
          rintro e W1 ⟨rfl, hx1⟩
          go_wp2_with fail
          go_ret
          exact ⟨by rw [← HR.out]; simp [*], hx.trans hx1⟩
      case pos =>
        subst hs
        go_wp2_with (refine wpList_load_blk rfl 38 (.tmp 3) rfl G rfl (cs := [X1, X2]) rowR hb ?_)
        refine (C2.out _ hx).mono ?_
        rintro e W1 ⟨rfl, hx1⟩
        go_wp2_with fail
        go_ret
        exact ⟨by rw [← HR.out]; simp [*], hx.trans hx1⟩
  case pos =>
    subst huv
    go_wp2_with (refine wpList_load_blk rfl 38 (.tmp 3) rfl G rfl (cs := [X1, X2]) rowR hb ?_)
    go_ret
    exact ⟨by rw [← HR.out]; simp [*], hx⟩
end Go.Proofs.Ythlobpdcolgcoaa
/- Chapter 23: of each item those that it comes ahead of. -/
namespace Go.Proofs.Ythlobpdcolgcoaa
open Go.RowKit Go.Lib
set_option linter.unusedVariables false
set_option linter.unusedSimpArgs false

def ahd (af be : List (List Int)) (a b : It) : Bool := aheadB af be a.u a.t b.u b.t
def dIt : It := ⟨0, 0, false⟩
def rowTo (af be : List (List Int)) (l : List It) (a : It) (k : Nat) : List Int := ((List.range k).filter fun j => ahd af be a (l.getD j dIt)).map Int.ofNat
def nextL (af be : List (List Int)) (l : List It) : List (List Int) := l.map fun a => rowTo af be l a l.length
theorem rowTo_succ (af be : List (List Int)) (l : List It) (a : It) (k : Nat) : rowTo af be l a (k + 1) = rowTo af be l a k ++ (if ahd af be a (l.getD k dIt) then [(k : Int)] else []) := by
  unfold rowTo
  rw [List.range_succ, List.filter_append, List.map_append]
  congr 1
  rw [List.filter_cons]
  by_cases h : ahd af be a (l.getD k dIt) = true
  · rw [if_pos h, if_pos h]; rfl
  · rw [if_neg h, if_neg h]; rfl
theorem rowTo_length (af be : List (List Int)) (l : List It) (a : It) (k : Nat) : (rowTo af be l a k).length ≤ k := by
  unfold rowTo
  rw [List.length_map]
  exact Nat.le_trans (List.length_filter_le _ _) (by simp)

/-- The table while it is filled: rows before i whole, row i up to k. -/
def NInv (W : World) (base g : Nat) (T e : TypeId) (af be : List (List Int)) (l : List It) (q i k : Nat) : Prop :=
  ∃ rs : List (Value × List Int), rs.length = l.length ∧ ORows W base g T e rs ∧ (∀ (p : Nat) v xs, rs[p]? = some (v, xs) → v.ownBlock ≠ some q) ∧
    ∀ (p : Nat) x, l[p]? = some x → ∃ v, rs[p]? = some (v, rowTo af be l x (if p < i then l.length else if p = i then k else 0))
theorem NInv.ext {W W' : World} {base g : Nat} {T e : TypeId} {af be : List (List Int)} {l : List It} {q i k : Nat} (h : NInv W base g T e af be l q i k) (hx : Ext W W') : NInv W' base g T e af be l q i k := by
  obtain ⟨rs, h1, h2, h3⟩ := h
  exact ⟨rs, h1, h2.ext hx, h3⟩
theorem NInv.fresh {W : World} {base g : Nat} {T e : TypeId} {af be : List (List Int)} {l : List It} {q i k : Nat} (h : NInv W base g T e af be l q i k) {q' : Nat} (hq : W.heap.size ≤ q') : NInv W base g T e af be l q' i k := by
  obtain ⟨rs, h1, h2, h3, h4⟩ := h
  refine ⟨rs, h1, h2, fun p v xs hp e => ?_, h4⟩
  have := ((h2.own p v xs hp).lt q' e).2
  omega
theorem cell_set_other {W : World} {a p : Addr} {v : Value} (h : p.block ≠ a.block) : (W.setCell a v).cell? p = W.cell? p := by
  unfold World.cell? World.setCell
  simp only
  rw [Array.getElem?_modify, if_neg (fun e => h e.symm)]
theorem Grown.after_alloc {W W1 : World} {o : Obj} {row : Option Nat} (h : (W.alloc o).grownBy W1 row) : W.grownBy W1 row :=
  have k := World.grownBy_alloc W o row
  ⟨h.os.trans k.os, h.tape.trans k.tape, h.output.trans k.output, Nat.le_trans k.size h.size, fun i hi hne => (h.block i (Nat.lt_of_lt_of_le hi k.size) hne).trans (k.block i hi hne)⟩
theorem Grown.cell1 {W W1 : World} {B : Option Addr} {n c q j : Nat} {u : Value} (h : W.grownBy W1 (Value.slice B n c).ownBlock) (hc : W.cell? ⟨q, j, none⟩ = some u) (hq : ∀ a, B = some a → a.block ≠ q) : W1.cell? ⟨q, j, none⟩ = some u :=
  h.cell hc (by
    cases B with
    | none => simp [Value.ownBlock]
    | some ad =>
      intro e
      have : q = ad.block := by simpa [Value.ownBlock] using e
      exact hq ad rfl this.symm)
theorem NInv.low {W : World} {base g : Nat} {T e : TypeId} {af be : List (List Int)} {l : List It} {q i k : Nat} (h : NInv W base g T e af be l q i k) : base ≤ W.heap.size := by
  obtain ⟨rs, h1, h2, _⟩ := h
  exact h2.low
theorem NInv.row {W : World} {base g : Nat} {T e : TypeId} {af be : List (List Int)} {l : List It} {q i : Nat} (h : NInv W base g T e af be l q i l.length) : NInv W base g T e af be l q (i + 1) 0 := by
  obtain ⟨rs, h1, h2, h3, h4⟩ := h
  refine ⟨rs, h1, h2, h3, fun p x hp => ?_⟩
  obtain ⟨v, hv⟩ := h4 p x hp
  refine ⟨v, ?_⟩
  rw [hv]
  congr 3
  rcases Nat.lt_trichotomy p i with h5 | h5 | h5
  · rw [if_pos h5, if_pos (by omega)]
  · rw [if_neg (by omega), if_pos h5, if_pos (by omega)]
  · rw [if_neg (by omega), if_neg (by omega), if_neg (by omega)]
    split <;> rfl
theorem NInv.no {W : World} {base g : Nat} {T e : TypeId} {af be : List (List Int)} {l : List It} {q i k : Nat} (h : NInv W base g T e af be l q i k) {a : It} (hi : l[i]? = some a) (hk : ahd af be a (l.getD k dIt) = false) : NInv W base g T e af be l q i (k + 1) := by
  obtain ⟨rs, h1, h2, h3, h4⟩ := h
  refine ⟨rs, h1, h2, h3, fun p x hp => ?_⟩
  obtain ⟨v, hv⟩ := h4 p x hp
  refine ⟨v, ?_⟩
  rw [hv]
  rcases Nat.lt_trichotomy p i with h5 | h5 | h5
  · rw [if_pos h5, if_pos h5]
  · subst h5
    rw [hi] at hp
    cases hp
    rw [if_neg (by omega), if_pos rfl, if_neg (by omega), if_pos rfl, rowTo_succ, hk]
    simp
  · rw [if_neg (by omega), if_neg (by omega), if_neg (by omega), if_neg (by omega)]
theorem NInv.at {W : World} {base g : Nat} {T e : TypeId} {af be : List (List Int)} {l : List It} {q i k : Nat} (h : NInv W base g T e af be l q i k) {a : It} (hi : l[i]? = some a) (hk : ahd af be a (l.getD k dIt) = true) :
    ∃ A c, W.cell? ⟨g, i, none⟩ = some (.slice A (rowTo af be l a k).length c) ∧ W.ownsRow base e 1 (.slice A (rowTo af be l a k).length c) (rowTo af be l a k).length (ints (rowTo af be l a k)) ∧ (∀ a, A = some a → a.block ≠ q ∧ base ≤ a.block) ∧ base ≤ W.heap.size ∧
      ∀ W1 v', W1.ownsRow base e 1 v' (rowTo af be l a k ++ [(k : Int)]).length (ints (rowTo af be l a k ++ [(k : Int)])) → W.grownBy W1 (Value.slice A (rowTo af be l a k).length c).ownBlock →
        (∀ b, v'.ownBlock = some b → (Value.slice A (rowTo af be l a k).length c).ownBlock = some b ∨ W.heap.size ≤ b) → q < W.heap.size →
        (∃ old, W1.cell? ⟨g, i, none⟩ = some old) ∧ W1.frozen? ⟨g, i, none⟩ = false ∧ NInv (W1.setCell ⟨g, i, none⟩ v') base g T e af be l q i (k + 1) := by
  obtain ⟨rs, h1, h2, h3, h4⟩ := h
  obtain ⟨v, hv⟩ := h4 i a hi
  rw [if_neg (by omega), if_pos rfl] at hv
  have hown := h2.own i v _ hv
  obtain ⟨A, c, rfl, hrd, hA⟩ := Owns.rd hown
  refine ⟨A, c, ?_, hown, ?_, h2.low, ?_⟩
  · refine h2.blk.cell i ?_
    rw [List.getElem?_map, hv]
    rfl
  · intro ad had
    refine ⟨fun e => ?_, hA ad had⟩
    subst had
    exact h3 i _ _ hv (by simp [Value.ownBlock, e])
  · intro W1 v' ho hg hs hq
    have hst := h2.step hv ho hg hs
    have hne : some g ≠ (Value.slice A (rowTo af be l a k).length c).ownBlock := by
      intro e
      have := ((h2.own i _ _ hv).lt g e.symm).1
      have := h2.lt
      omega
    have hb1 := Grown.blk hg h2.blk hne
    refine ⟨⟨_, hb1.cell i (by rw [List.getElem?_map, hv]; rfl)⟩, hb1.frozen i, rs.set i (v', _), by simpa using h1, hst, ?_, ?_⟩
    · intro p u ys hp e
      by_cases hpi : i = p
      · subst hpi
        rw [List.getElem?_set_self (List.getElem?_eq_some_iff.1 hv).1] at hp
        cases hp
        rcases hs q e with h5 | h5
        · exact h3 i _ _ hv h5
        · omega
      · rw [List.getElem?_set_ne hpi] at hp
        exact h3 p u ys hp e
    · intro p x hp
      rcases Nat.lt_trichotomy p i with h5 | h5 | h5
      · obtain ⟨u, hu⟩ := h4 p x hp
        rw [if_pos h5] at hu ⊢
        exact ⟨u, by rw [List.getElem?_set_ne (by omega)]; exact hu⟩
      · subst h5
        rw [hi] at hp
        cases hp
        refine ⟨v', ?_⟩
        rw [List.getElem?_set_self (List.getElem?_eq_some_iff.1 hv).1, if_neg (by omega), if_pos rfl, rowTo_succ, if_pos hk]
      · obtain ⟨u, hu⟩ := h4 p x hp
        rw [if_neg (by omega), if_neg (by omega)] at hu ⊢
        exact ⟨u, by rw [List.getElem?_set_ne (by omega)]; exact hu⟩
/-- Done. -/
theorem NInv.done {W : World} {base g : Nat} {T e : TypeId} {af be : List (List Int)} {l : List It} {q : Nat} (h : NInv W base g T e af be l q l.length 0) : ∃ R : List Row, RdR W (some ⟨g, 0, none⟩) R ∧ rows R = nextL af be l ∧ R.length = l.length := by
  obtain ⟨rs, h1, h2, _, h4⟩ := h
  obtain ⟨R, r1, r2, r3⟩ := h2.rd
  refine ⟨R, r1, ?_, by omega⟩
  rw [r2]
  refine List.ext_getElem? fun p => ?_
  unfold nextL
  rw [List.getElem?_map, List.getElem?_map]
  cases hp : l[p]? with
  | none =>
    have : rs[p]? = none := by
      rw [List.getElem?_eq_none_iff] at hp ⊢
      omega
    rw [this]
    rfl
  | some x =>
    obtain ⟨v, hv⟩ := h4 p x hp
    rw [hv, if_pos (List.getElem?_eq_some_iff.1 hp).1]
    rfl
/-- The new table. -/
theorem NInv.new (W : World) (T e : TypeId) (af be : List (List Int)) (l : List It) (q : Nat) : NInv (W.alloc (.cells (List.replicate l.length (Value.slice none 0 0)).toArray T)) (W.heap.size + 1) W.heap.size T e af be l q 0 0 := by
  refine ⟨List.replicate l.length (.slice none 0 0, []), by simp, ⟨?_, by omega, by simp, ?_, ?_⟩, ?_, ?_⟩
  · rw [List.map_replicate]
    exact Blk.new _ _ _
  · intro i v xs hi
    rw [List.getElem?_replicate] at hi
    split at hi <;> cases hi
    exact World.ownsRow_nil _ _ _ _
  · intro i j v xs v' xs' k _ hi _ hk
    rw [List.getElem?_replicate] at hi
    split at hi <;> cases hi
    cases hk
  · intro i v xs hi hk
    rw [List.getElem?_replicate] at hi
    split at hi <;> cases hi
    cases hk
  · intro p x hp
    refine ⟨.slice none 0 0, ?_⟩
    rw [List.getElem?_replicate, if_pos (List.getElem?_eq_some_iff.1 hp).1]
    have : rowTo af be l x (if p < 0 then l.length else if p = 0 then 0 else 0) = [] := by
      rw [if_neg (by omega)]
      split <;> rfl
    rw [this]

theorem infoInt : (Try.prog.info? 3).map (fun i => (i.zero, i.size, i.bytes)) = some (some (.int .i64 0), 1, 8) := by kernel_rfl
theorem infoRow : (Try.prog.info? 40).map (fun i => (i.zero, i.size, i.bytes)) = some (some (.slice none 0 0), 1, 24) := by kernel_rfl
theorem madeCells_one (v : Value) (n : Nat) (h : v.cells = #[v]) : madeCells v.cells n = (List.replicate n v).toArray := by
  rw [h]
  unfold madeCells
  apply Array.ext
  · simp
  · intro i h1 h2
    simp [Nat.mod_one]
/-- make([][]int, n). -/
theorem make_rows (n : Nat) (hn : n ≤ 1000000) (W : World) : (Instr.makeSlice 22 (.int .i64 n) (.int .i64 n)).run Try.prog W = .ok (.slice (some ⟨W.heap.size, 0, none⟩) n n) (W.alloc (.cells (List.replicate n (Value.slice none 0 0)).toArray 40)) := by
  obtain ⟨i, hi, hz, hsz, hby⟩ := info_parts infoRow
  rw [run_makeSlice W 22 40 i _ Try.underlying22 hi hz .i64 .i64 n n (by omega) (by omega) (by rw [hsz]; simp; omega) (by rw [hby]; omega) (by omega)]
  rw [hsz, Nat.mul_one, Int.toNat_natCast]
  congr 3
  exact madeCells_one _ n rfl

theorem next_calls (cs : List Value) (af be : List (List Int)) (l : List It) (A : Option Addr) (cap : Nat) (w : World) (h : GR w cs af be) (hr : RdI w A l) (hlen : l.length ≤ 64) :
    Calls Try.prog 24 #[.agg cs.toArray, .slice A l.length cap] w fun e w' => ∃ B c R, e = .returned (.slice B (R : List Row).length c) ∧ RdR w' B R ∧ rows R = nextL af be l ∧ R.length = l.length ∧ Ext w w' := by
  have hl : cs.length = 10 := by obtain ⟨_, _, _, _, _, _, h0, _⟩ := h; exact h0
  have HT := Lib.hid (rowG cs.length hl)
  have HM := make_rows l.length (by omega)
  have C := Lib.hid fun (x y : It) W hW => ahead_calls cs af be x.u x.t y.u y.t W hW
  clear hl
  go_enter Try.func24, Try.ntmps24
  go_upto_region 1 with (fail)
  refine wp_gen (fun W => Blk W w.heap.size cs 24 ∧ GR W cs af be ∧ RdI W A l ∧ Ext w W) ⟨Blk.new w cs _, h.ext ((Ext.refl w).alloc _), hr.ext ((Ext.refl w).alloc _), (Ext.refl w).alloc _⟩ ?_
  obtain ⟨G, hG⟩ : ∃ G, w.heap.size = G := ⟨_, rfl⟩
  rw [hG]
  clear hG h hr
  rintro W0 ⟨hb, h, hr, hx0⟩
  go_upto_region 3 with (fail)
  refine wp_gen (fun W => NInv W (W0.heap.size + 1) W0.heap.size 40 3 af be l 0 0 0 ∧ Ext W0 W) ⟨NInv.new W0 _ _ af be l 0, (Ext.refl _).alloc _⟩ ?_
  obtain ⟨g, hg⟩ : ∃ g, W0.heap.size = g := ⟨_, rfl⟩
  rw [hg]
  rintro W1 ⟨hn, hx1⟩
  go_loopw [15] (fun i W => ∃ j : Nat, j ≤ l.length ∧ i = .int .i64 j ∧ (∃ q, NInv W (g + 1) g 40 3 af be l q j 0) ∧ Ext W0 W) (fun i _ => l.length - (RowKit.intOf i).toNat)
  case atStart => exact ⟨0, by omega, rfl, ⟨_, hn⟩, hx1⟩
  case round =>
    clear hn hx1
    obtain ⟨i, hi, rfl, ⟨q0, hn⟩, hx⟩ := hrel
    by_cases hlt : i < l.length
    · have hlti : (i : Int) < l.length := by omega
      have hrr := hr.ext hx
      obtain ⟨b, o, u, t, m, rfl, he, f1, f2, f3⟩ := hrr.at hlt
      clear HM
      go_upto_region 6 with (fail)
      refine wp_gen (fun W => Ext W0 W ∧ NInv W (g + 1) g 40 3 af be l wr.heap.size i 0 ∧ W.cell? ⟨wr.heap.size, 0, none⟩ = some (.int .i64 u) ∧ W.cell? ⟨wr.heap.size, 1, none⟩ = some (.int .u8 t) ∧ wr.heap.size < W.heap.size)
        ⟨hx.alloc _, (hn.fresh (Nat.le_refl _)).ext ((Ext.refl _).alloc _), by go_simp, by go_simp, by simp⟩ ?_
      have hgq := hn.low
      clear hn hx f1 f2 f3 hrr
      obtain ⟨q, hq⟩ : ∃ q, wr.heap.size = q := ⟨_, rfl⟩
      rw [hq] at hgq ⊢
      clear hq
      rintro W2 ⟨hx, hn, e0, e1, hq⟩
      go_loopw [22] (fun i' W => ∃ k : Nat, k ≤ l.length ∧ i' = .int .i64 k ∧ NInv W (g + 1) g 40 3 af be l q i k ∧ W.cell? ⟨q, 0, none⟩ = some (.int .i64 u) ∧ W.cell? ⟨q, 1, none⟩ = some (.int .u8 t) ∧ q < W.heap.size ∧ Ext W0 W) (fun i' _ => l.length - (RowKit.intOf i').toNat)
      case atStart => exact ⟨0, by omega, rfl, hn, e0, e1, hq, hx⟩
      case round =>
        clear hn hx e0 e1 hq
        obtain ⟨k, hk, rfl, hn, e0, e1, hq, hx⟩ := hrel
        by_cases hkt : k < l.length
        · have hkti : (k : Int) < l.length := by omega
          have hrr := hr.ext hx
          obtain ⟨b', o', u', t', m', hbo, hek, f1, f2, f3⟩ := hrr.at hkt
          cases hbo
          go_upto_region 8 with (fail)
          refine wp_gen (fun W => Ext W0 W ∧ NInv W (g + 1) g 40 3 af be l q i k ∧ W.cell? ⟨q, 0, none⟩ = some (.int .i64 u) ∧ W.cell? ⟨q, 1, none⟩ = some (.int .u8 t) ∧ q < W.heap.size ∧ W.cell? ⟨wr.heap.size, 0, none⟩ = some (.int .i64 u') ∧ W.cell? ⟨wr.heap.size, 1, none⟩ = some (.int .u8 t'))
            ⟨hx.alloc _, hn.ext ((Ext.refl _).alloc _), ((Ext.refl _).alloc _).cell e0, ((Ext.refl _).alloc _).cell e1, by rw [World.size_alloc]; omega, by go_simp, by go_simp⟩ ?_
          clear hn hx f1 f2 f3 hrr e0 e1 hq
          obtain ⟨q2, hq2⟩ : ∃ q, wr.heap.size = q := ⟨_, rfl⟩
          rw [hq2]
          clear hq2
          rintro W3 ⟨hx, hn, e0, e1, hq, d0, d1⟩
          have CC := C.out ⟨u, t, m⟩ ⟨u', t', m'⟩ W3 (h.ext hx)
          have hah : aheadB af be u t u' t' = ahd af be ⟨u, t, m⟩ (l.getD k dIt) := by
            rw [List.getD_eq_getElem?_getD, hek]
            rfl
          dsimp only at CC
          rw [hah] at CC
          obtain ⟨p, hp⟩ : ∃ p, ahd af be ⟨u, t, m⟩ (l.getD k dIt) = p := ⟨_, rfl⟩
          rw [hp] at CC
          have HB := Lib.hid (hb.ext hx)
          have HC := Lib.hid CC
          clear CC hah
          cases p
          · have HP := Lib.hid hp
            clear hp
            go_wp2_with (refine wpList_load_blk rfl 24 (.tmp 2) rfl G rfl HT.out HB.out ?_)
            refine HC.out.mono ?_
            rintro e W4 ⟨rfl, hx4⟩
            go_wp2_with fail
            go_roundw
            case rel => exact ⟨k + 1, by omega, by go_num, (hn.ext hx4).no he HP.out, hx4.cell e0, hx4.cell e1, Nat.lt_of_lt_of_le hq hx4.size, hx.trans hx4⟩
            case measure => simp [RowKit.intOf]; omega
          · go_wp2_with (refine wpList_load_blk rfl 24 (.tmp 2) rfl G rfl HT.out HB.out ?_)
            refine HC.out.mono ?_
            rintro e W4 ⟨rfl, hx4⟩
            obtain ⟨B, c, hcell, hown, hBq, hlow, hback⟩ := (hn.ext hx4).at he hp
            have e0' := hx4.cell e0
            have e1' := hx4.cell e1
            have hq4 := Nat.lt_of_lt_of_le hq hx4.size
            have hxx := hx.trans hx4
            have hrl := rowTo_length af be l ⟨u, t, m⟩ k
            clear hn hx hx4 e0 e1 hq d0 d1 HC HB hp
            go_wp2_with (refine wpList_append_int rfl (.tmp 38) (.tmp 40) 40 3 rfl Try.underlying40 infoInt (g + 1) (.slice B (rowTo af be l ⟨u, t, m⟩ k).length c) (rowTo af be l ⟨u, t, m⟩ k) rfl (hown.alloc _) W4.heap.size 1 k rfl (by go_simp) (by omega) (by rw [World.size_alloc]; omega) ?_; intro v' W5 o5 g5 s5; obtain ⟨B5, c5, rfl, _, _⟩ := Owns.rd o5; obtain ⟨⟨old, ho⟩, hfz, hn5⟩ := hback W5 _ o5 (Grown.after_alloc g5) (fun b hb => (s5 b hb).imp_right fun h => Nat.le_trans (by rw [World.size_alloc]; omega) h) hq4; have Z0 := Grown.cell1 g5 (((Ext.refl W4).alloc _).cell e0') (fun a ha => (hBq a ha).1); have Z1 := Grown.cell1 g5 (((Ext.refl W4).alloc _).cell e1') (fun a ha => (hBq a ha).1); have hq5 : q < W5.heap.size := Nat.lt_of_lt_of_le hq4 (Nat.le_trans (by rw [World.size_alloc]; omega) g5.size); have hx5 : Ext W0 W5 := Grown.toExt (hxx.alloc _) g5 (fun j hj => by rw [hg]; cases B with | none => cases hj | some ad => cases hj; have := (hBq ad rfl).2; omega))
            go_roundw
            case rel => exact ⟨k + 1, by omega, by go_num, by rw [List.length_append] at hn5; exact hn5, by rw [cell_set_other (by simp; omega)]; exact Z0, by rw [cell_set_other (by simp; omega)]; exact Z1, by rw [World.size_setCell]; exact hq5, hx5.setCell (by simp; omega) _⟩
            case measure => simp [RowKit.intOf]; omega
        · obtain rfl : k = l.length := by omega
          go_wp2_with fail
          go_roundw
          case rel => exact ⟨i + 1, by omega, by go_num, ⟨q, hn.row⟩, hx⟩
          case measure => simp [RowKit.intOf]; omega
    · obtain rfl : i = l.length := by omega
      clear HM
      go_wp2_with fail
      obtain ⟨R, r1, r2, r3⟩ := hn.done
      go_ret
      refine ⟨_, l.length, R, ?_, r1, r2, r3, hx0.trans hx⟩
      rw [r3]
      rfl
end Go.Proofs.Ythlobpdcolgcoaa
/- Plain: how many steps it is from a place tt another one, in a table of rows. -/
namespace Go.Proofs.Ythlobpdcolgcoaa
set_option linter.unusedVariables false
set_option linter.unusedSimpArgs false

def rowOf (tt : List (List Int)) (x : Int) : List Int := if x < 0 then [] else tt.getD x.toNat []
/-- A walk of d + 1 steps from x tt home, through places that are not below home. -/
def wk (tt : List (List Int)) (home : Int) : Nat → Int → Bool
  | 0, x => decide (home ≤ x) && (rowOf tt x).contains home
  | d + 1, x => decide (home ≤ x) && (rowOf tt x).any (wk tt home d)
def dst (tt : List (List Int)) (home x : Int) : Option Int := ((List.range tt.length).find? (fun d : Nat => wk tt home d x)).map (fun d : Nat => (d : Int) + 1)
def isD (tt : List (List Int)) (home : Int) (d : Nat) (x : Int) : Prop := wk tt home d x = true ∧ ∀ i, i < d → wk tt home i x = false

theorem row_some {tt : List (List Int)} {x y : Int} (h : y ∈ rowOf tt x) : 0 ≤ x ∧ x < tt.length := by
  unfold rowOf at h
  split at h
  · cases h
  · refine ⟨by omega, ?_⟩
    rcases Nat.lt_or_ge x.toNat tt.length with h1 | h1
    · omega
    · rw [List.getD_eq_getElem?_getD, List.getElem?_eq_none h1] at h
      cases h
theorem wk_home {tt : List (List Int)} {home : Int} {d : Nat} {x : Int} (h : wk tt home d x = true) : home ≤ x := by
  cases d <;> · simp only [wk, Bool.and_eq_true, decide_eq_true_eq] at h; exact h.1
theorem wk_row {tt : List (List Int)} {home : Int} {d : Nat} {x : Int} (h : wk tt home d x = true) : 0 ≤ x ∧ x < tt.length := by
  cases d with
  | zero =>
    simp only [wk, Bool.and_eq_true] at h
    exact row_some (List.contains_iff_mem.1 h.2)
  | succ d =>
    simp only [wk, Bool.and_eq_true] at h
    obtain ⟨j, hj, _⟩ := List.any_eq_true.1 h.2
    exact row_some hj
theorem wk_zero {tt : List (List Int)} {home x : Int} : wk tt home 0 x = true ↔ home ≤ x ∧ home ∈ rowOf tt x := by
  simp [wk]
theorem wk_succ {tt : List (List Int)} {home x : Int} {d : Nat} : wk tt home (d + 1) x = true ↔ home ≤ x ∧ ∃ j ∈ rowOf tt x, wk tt home d j = true := by
  simp [wk]
theorem isD.uniq {tt : List (List Int)} {home : Int} {d e : Nat} {x : Int} (h : isD tt home d x) (k : isD tt home e x) : d = e := by
  rcases Nat.lt_trichotomy d e with h1 | h1 | h1
  · have := k.2 d h1
    rw [h.1] at this
    cases this
  · exact h1
  · have := h.2 e h1
    rw [k.1] at this
    cases this
theorem wk_isD {tt : List (List Int)} {home x : Int} : ∀ {d : Nat}, wk tt home d x = true → ∃ e, e ≤ d ∧ isD tt home e x := by
  intro d
  induction d using Nat.strongRecOn with
  | _ d ih =>
    intro h
    by_cases hc : ∃ i, i < d ∧ wk tt home i x = true
    · obtain ⟨i, hi, hw⟩ := hc
      obtain ⟨e, he, h2⟩ := ih i hi hw
      exact ⟨e, by omega, h2⟩
    · refine ⟨d, Nat.le_refl _, h, fun i hi => ?_⟩
      rw [← Bool.not_eq_true]
      exact fun hw => hc ⟨i, hi, hw⟩
/-- One step nearer. -/
theorem isD.step {tt : List (List Int)} {home x : Int} {d : Nat} (h : isD tt home (d + 1) x) : ∃ j ∈ rowOf tt x, isD tt home d j ∧ j ≠ home := by
  obtain ⟨hh, j, hj, hw⟩ := wk_succ.1 h.1
  refine ⟨j, hj, ⟨hw, fun i hi => ?_⟩, ?_⟩
  · rw [← Bool.not_eq_true]
    intro hwi
    have := h.2 (i + 1) (by omega)
    rw [wk_succ.2 ⟨hh, j, hj, hwi⟩] at this
    cases this
  · rintro rfl
    have := h.2 0 (by omega)
    rw [wk_zero.2 ⟨hh, hj⟩] at this
    cases this
/-- One step further. -/
theorem isD.back {tt : List (List Int)} {home x j : Int} {d : Nat} (hx : home ≤ x) (hj : j ∈ rowOf tt x) (h : isD tt home d j) (hn : ∀ e, e ≤ d → ¬ isD tt home e x) : isD tt home (d + 1) x := by
  refine ⟨wk_succ.2 ⟨hx, j, hj, h.1⟩, fun i hi => ?_⟩
  rw [← Bool.not_eq_true]
  intro hw
  obtain ⟨e, he, h2⟩ := wk_isD hw
  exact hn e (by omega) h2

theorem nodup_le : ∀ (n : Nat) (l : List Int), l.Nodup → (∀ x ∈ l, 0 ≤ x ∧ x < (n : Int)) → l.length ≤ n := by
  intro n
  induction n with
  | zero =>
    intro l _ h
    cases l with
    | nil => simp
    | cons x l => have := h x (List.mem_cons_self); omega
  | succ n ih =>
    intro l hn h
    have h1 := ih (l.filter fun x => x != (n : Int)) (hn.filter _) (fun x hx => by
      have := List.mem_filter.1 hx
      have h2 := h x this.1
      have h3 : x ≠ n := by simpa using this.2
      omega)
    have h2 : l.length ≤ (l.filter fun x => x != (n : Int)).length + 1 := by
      clear ih h h1
      induction l with
      | nil => simp
      | cons x l ih =>
        rw [List.nodup_cons] at hn
        by_cases hx : x = n
        · subst hx
          have : l.filter (fun x => x != (n : Int)) = l := List.filter_eq_self.2 fun y hy => by
            have : y ≠ n := fun e => hn.1 (e ▸ hy)
            simpa using this
          rw [List.filter_cons, if_neg (by simp), this]
          simp
        · rw [List.filter_cons, if_pos (by simpa using hx)]
          have := ih hn.2
          simp only [List.length_cons]
          omega
    omega
theorem isD.chain {tt : List (List Int)} {home : Int} : ∀ {d : Nat} {x : Int}, isD tt home d x → ∃ l : List Int, l.length = d + 1 ∧ l.Nodup ∧ ∀ y ∈ l, (0 ≤ y ∧ y < (tt.length : Int)) ∧ ∃ i, i ≤ d ∧ isD tt home i y := by
  intro d
  induction d with
  | zero => exact fun {x} h => ⟨[x], rfl, by simp, fun y hy => by rw [List.mem_singleton.1 hy]; exact ⟨wk_row h.1, 0, Nat.le_refl _, h⟩⟩
  | succ d ih =>
    intro x h
    obtain ⟨j, _, hj, _⟩ := h.step
    obtain ⟨l, h1, h2, h3⟩ := ih hj
    refine ⟨x :: l, by simp [h1], List.nodup_cons.2 ⟨fun hx => ?_, h2⟩, fun y hy => ?_⟩
    · obtain ⟨_, i, hi, h4⟩ := h3 x hx
      have := h.uniq h4
      omega
    · rcases List.mem_cons.1 hy with rfl | hy
      · exact ⟨wk_row h.1, d + 1, Nat.le_refl _, h⟩
      · obtain ⟨h4, i, hi, h5⟩ := h3 y hy
        exact ⟨h4, i, by omega, h5⟩
theorem isD.lt {tt : List (List Int)} {home : Int} {d : Nat} {x : Int} (h : isD tt home d x) : d < tt.length := by
  obtain ⟨l, h1, h2, h3⟩ := h.chain
  have := nodup_le tt.length l h2 fun y hy => (h3 y hy).1
  omega
theorem dst_some {tt : List (List Int)} {home x : Int} {n : Int} : dst tt home x = some n ↔ ∃ d : Nat, n = (d : Int) + 1 ∧ isD tt home d x := by
  unfold dst
  rw [Option.map_eq_some_iff]
  constructor
  · rintro ⟨d, hd, rfl⟩
    rw [List.find?_range_eq_some] at hd
    exact ⟨d, rfl, hd.1, fun i hi => by simpa using hd.2.2 i hi⟩
  · rintro ⟨d, rfl, hd⟩
    refine ⟨d, ?_, rfl⟩
    rw [List.find?_range_eq_some]
    exact ⟨hd.1, by simpa using hd.lt, fun i hi => by rw [hd.2 i hi]; rfl⟩
theorem dst_isD {tt : List (List Int)} {home x : Int} {d : Nat} : dst tt home x = some ((d : Int) + 1) ↔ isD tt home d x := by
  rw [dst_some]
  constructor
  · rintro ⟨e, he, h⟩
    have : e = d := by omega
    exact this ▸ h
  · exact fun h => ⟨d, rfl, h⟩
theorem dst_none {tt : List (List Int)} {home x : Int} (h : dst tt home x = none) (d : Nat) : wk tt home d x = false := by
  rw [← Bool.not_eq_true]
  intro hw
  obtain ⟨e, _, he⟩ := wk_isD hw
  rw [dst_isD.2 he] at h
  cases h
theorem dst_bound {tt : List (List Int)} {home x n : Int} (h : dst tt home x = some n) : 1 ≤ n ∧ n ≤ tt.length ∧ home ≤ x ∧ 0 ≤ x ∧ x < tt.length := by
  obtain ⟨d, rfl, hd⟩ := dst_some.1 h
  have := hd.lt
  have h1 := wk_home hd.1
  have h2 := wk_row hd.1
  omega

/-- What is known when the places nearer than n are. -/
def near (tt : List (List Int)) (home n x : Int) : Option Int := (dst tt home x).filter fun d => decide (d < n)
theorem near_some {tt : List (List Int)} {home n x d : Int} : near tt home n x = some d ↔ dst tt home x = some d ∧ d < n := by
  unfold near
  rw [Option.filter_eq_some_iff]
  simp
/-- The first ring of places. -/
theorem level_one {tt : List (List Int)} {home x : Int} : dst tt home x = some 1 ↔ home ≤ x ∧ home ∈ rowOf tt x := by
  have := @dst_isD tt home x 0
  simp only [Int.natCast_zero, Int.zero_add] at this
  rw [this, ← wk_zero]
  exact ⟨fun h => h.1, fun h => ⟨h, fun i hi => absurd hi (by omega)⟩⟩
/-- The next ring of places. -/
theorem level_next {tt : List (List Int)} {home n x : Int} (hn : 2 ≤ n) : dst tt home x = some n ↔ near tt home n x = none ∧ home ≤ x ∧ ∃ j ∈ rowOf tt x, dst tt home j = some (n - 1) ∧ j ≠ home := by
  obtain ⟨d, rfl⟩ : ∃ d : Nat, n = (d : Int) + 1 + 1 := ⟨(n - 2).toNat, by omega⟩
  have e : (d : Int) + 1 + 1 - 1 = (d : Int) + 1 := by omega
  rw [e]
  have e2 : (d : Int) + 1 + 1 = ((d + 1 : Nat) : Int) + 1 := by simp
  rw [e2, dst_isD]
  constructor
  · intro h
    obtain ⟨j, hj, h1, h2⟩ := h.step
    refine ⟨?_, wk_home h.1, j, hj, dst_isD.2 h1, h2⟩
    cases hq : near tt home (((d + 1 : Nat) : Int) + 1) x with
    | none => rfl
    | some m =>
      obtain ⟨h3, h4⟩ := near_some.1 hq
      rw [dst_isD.2 h] at h3
      cases h3
      omega
  · rintro ⟨h1, h2, j, hj, h3, _⟩
    refine isD.back h2 hj (dst_isD.1 h3) fun e he hD => ?_
    have := near_some.2 ⟨dst_isD.2 hD, (by omega : (e : Int) + 1 < ((d + 1 : Nat) : Int) + 1)⟩
    rw [h1] at this
    cases this
end Go.Proofs.Ythlobpdcolgcoaa
/- Chapter 23: the closure of far: one step of the search. -/
namespace Go.Proofs.Ythlobpdcolgcoaa
open Go.RowKit Go.Maps Go.Lib
set_option linter.unusedVariables false
set_option linter.unusedSimpArgs false

theorem IMap.noCell {W : World} {b n : Nat} {f : Int → Option Int} (h : IMap W b n f) (o : Nat) : W.cell? ⟨b, o, none⟩ = none := by
  obtain ⟨D, ⟨es, clock, hb, _⟩, _⟩ := h
  simp [World.cell?, hb]
theorem IMap.cell {W W' : World} {b n : Nat} {f : Int → Option Int} (h : IMap W b n f) (hg : W.grownBy W' (some b)) {g o : Nat} {v : Value} (hc : W.cell? ⟨g, o, none⟩ = some v) : W'.cell? ⟨g, o, none⟩ = some v :=
  hg.cell hc (by
    intro e
    simp only [Option.some.injEq] at e
    subst e
    rw [h.noCell] at hc
    cases hc)
theorem IMap.rdv {W W' : World} {b n : Nat} {f : Int → Option Int} (h : IMap W b n f) (hg : W.grownBy W' (some b)) {A : Option Addr} {vs : List Value} (hr : RdV W A vs) : RdV W' A vs := by
  rcases hr with hr | ⟨g, o, rfl, hr⟩
  · exact .inl hr
  · exact .inr ⟨g, o, rfl, fun j v hv => h.cell hg (hr j v hv)⟩
theorem IMap.rdr {W W' : World} {b n : Nat} {f : Int → Option Int} (h : IMap W b n f) (hg : W.grownBy W' (some b)) {A : Option Addr} {rs : List Row} (hr : RdR W A rs) : RdR W' A rs :=
  ⟨h.rdv hg hr.1, fun r hr' => h.rdv hg (hr.2 r hr')⟩
theorem IMap.notRow {W : World} {b n : Nat} {f : Int → Option Int} (h : IMap W b n f) {base : Nat} {e : TypeId} {v : Value} {m : Nat} {xs : List Value} (ho : W.ownsRow base e 1 v m xs) : v.ownBlock = none ∨ v.ownBlock ≠ some b := by
  rcases ho.2 with ⟨rfl, _⟩ | ⟨g, cap, cur, rfl, _, hg, _⟩
  · exact .inl rfl
  · refine .inr fun e => ?_
    simp only [Value.ownBlock, Option.some.injEq] at e
    subst e
    obtain ⟨D, ⟨es, clock, hb, _⟩, _⟩ := h
    rw [hg] at hb
    cases hb
theorem Grown.weak {w W : World} {row : Option Nat} (h : w.grownBy W none) : w.grownBy W row := ⟨h.os, h.tape, h.output, h.size, fun i hi _ => h.block i hi (by simp)⟩
theorem Grown.own {w W W1 : World} {row row' : Option Nat} (h : w.grownBy W row) (k : W.grownBy W1 row') (hr : ∀ j, row' = some j → w.heap.size ≤ j) : w.grownBy W1 row :=
  ⟨k.os.trans h.os, k.tape.trans h.tape, k.output.trans h.output, Nat.le_trans h.size k.size, fun i hi hne => (k.block i (Nat.lt_of_lt_of_le hi h.size) (fun e => by have := hr i e.symm; omega)).trans (h.block i hi hne)⟩
theorem Grown.trans' {w W W1 : World} {row : Option Nat} (h : w.grownBy W row) (k : W.grownBy W1 row) : w.grownBy W1 row :=
  ⟨k.os.trans h.os, k.tape.trans h.tape, k.output.trans h.output, Nat.le_trans h.size k.size, fun i hi hne => (k.block i (Nat.lt_of_lt_of_le hi h.size) hne).trans (h.block i hi hne)⟩
def updAll (f : Int → Option Int) (out : List Int) (n : Int) : Int → Option Int := fun x => if x ∈ out then some n else f x
theorem updAll_snoc (f : Int → Option Int) (out : List Int) (n x : Int) : upd (updAll f out n) x n = updAll f (out ++ [x]) n := by
  funext y
  unfold upd updAll
  by_cases h : y = x
  · subst h
    simp
  · simp [h]

set_option maxHeartbeats 1000000 in
theorem goes_calls (rs : List Row) (A : Option Addr) (cap qb qs qh mb cnt : Nat) (home k n : Int) (f : Int → Option Int) (w : World) (xs : List Int)
    (hb : w.cell? ⟨qb, 0, none⟩ = some (.slice A rs.length cap)) (hs : w.cell? ⟨qs, 0, none⟩ = some (.map (some mb))) (hh : w.cell? ⟨qh, 0, none⟩ = some (.int .i64 home))
    (hr : RdR w A rs) (hm : IMap w mb cnt f) (hk0 : 0 ≤ k) (hk : (rows rs)[k.toNat]? = some xs) (hxs : ∀ x ∈ xs, small x) (hn : small n) (hl : xs.length ≤ 100000) (hc : cnt ≤ 100000) :
    Calls Try.prog 39 #[.int .i64 k, .int .i64 n, .pointer (some ⟨qb, 0, none⟩), .pointer (some ⟨qs, 0, none⟩), .pointer (some ⟨qh, 0, none⟩)] w fun e w' =>
      ∃ B c out, e = .returned (.slice B (out : List Int).length c) ∧ RdV w' B (ints out) ∧ IMap w' mb (cnt + out.length) (updAll f out n) ∧ (∀ x, x ∈ out ↔ x ∈ xs ∧ home ≤ x ∧ f x = none) ∧ out.Nodup ∧ w.grownBy w' (some mb) := by
  obtain ⟨kk, rfl⟩ : ∃ kk : Nat, k = kk := ⟨k.toNat, by omega⟩
  rw [Int.toNat_natCast] at hk
  have hklt : kk < rs.length := by
    have := (List.getElem?_eq_some_iff.1 hk).1
    rwa [rows_length] at this
  have hki : (kk : Int) < rs.length := by omega
  obtain ⟨b, o, B0, c0, ys, rfl, he, hcell, hrd⟩ := hr.at hklt
  have hys : ys = xs := by
    rw [rows_get, he] at hk
    simpa using hk
  subst hys
  clear hk he hr
  go_enter Try.func39, Try.ntmps39
  go_wp2_with fail
  go_loopw [18, 8] (fun i v W => ∃ (j : Nat) (out : List Int), j ≤ ys.length ∧ i = .int .i64 j ∧ W.ownsRow w.heap.size 3 1 v out.length (ints out) ∧ IMap W mb (cnt + out.length) (updAll f out n) ∧
      (∀ x, x ∈ out ↔ x ∈ ys.take j ∧ home ≤ x ∧ f x = none) ∧ out.Nodup ∧ out.length ≤ j ∧ w.grownBy W (some mb)) (fun i _ _ => ys.length - (RowKit.intOf i).toNat)
  case atStart => exact ⟨0, [], by omega, rfl, World.ownsRow_nil _ _ _ _, by
    have : updAll f [] n = f := by funext x; simp [updAll]
    rw [this]
    exact hm, by simp, by simp, by simp, ⟨rfl, rfl, rfl, Nat.le_refl _, fun _ _ _ => rfl⟩⟩
  case round =>
    obtain ⟨j, out, hj, rfl, hown, hM, hout, hnd, hol, hgr⟩ := hrel
    obtain ⟨B, c, rfl, _, hBase⟩ := Owns.rd hown
    have c1 := hm.cell hgr hs
    have c2 := hm.cell hgr hh
    have hrd1 := hm.rdv hgr hrd
    have hO := Lib.hid hout
    clear hout
    have hMr : ∀ B' : Option Addr, B' = B → ∀ ad, B' = some ad → ad.block ≠ mb := fun B' e ad had e2 => by
      subst e
      rcases hM.notRow hown with h | h
      · rw [had] at h; cases h
      · rw [had] at h; exact h (by simp [Value.ownBlock, e2])
    by_cases hlt : j < ys.length
    · have hlti : (j : Int) < ys.length := by omega
      obtain ⟨b2, o2, rfl, hcc⟩ := hrd1.at (i := j) (by rw [ints_length]; exact hlt)
      obtain ⟨x, hx⟩ : ∃ x, ys[j]? = some x := ⟨_, List.getElem?_eq_getElem hlt⟩
      have c3 := hcc j (.int .i64 x) (by rw [ints_get, hx]; rfl)
      have hsx : small x := hxs x (List.mem_of_getElem? hx)
      have hlook := hM.lookOk hsx
      have HT : Hid (ys.take (j + 1) = ys.take j ++ [x]) := Lib.hid (by rw [List.take_add_one, hx]; rfl)
      obtain ⟨y, hy⟩ : ∃ y, updAll f out n x = y := ⟨_, rfl⟩
      rw [hy] at hlook
      obtain ⟨z, hz⟩ : ∃ z, y.getD 0 = z := ⟨_, rfl⟩
      rw [hz] at hlook
      have HY := Lib.hid hy
      clear hy hz
      have stay : ¬ (home ≤ x ∧ f x = none ∧ x ∉ out) → ∀ u, u ∈ out ↔ u ∈ ys.take (j + 1) ∧ home ≤ u ∧ f u = none := fun hno u => by
        rw [HT.out, List.mem_append, List.mem_singleton, hO.out u]
        constructor
        · exact fun h => ⟨.inl h.1, h.2⟩
        · rintro ⟨h1 | h1, h2⟩
          · exact ⟨h1, h2⟩
          · subst h1
            by_cases h3 : u ∈ out
            · exact (hO.out u).1 h3
            · exact absurd ⟨h2.1, h2.2, h3⟩ hno
      have ST := Lib.hid stay
      clear stay
      by_cases hge : home ≤ x
      · cases y with
        | none =>
          have hnew : x ∉ out ∧ f x = none := by
            have := HY.out
            unfold updAll at this
            split at this
            · cases this
            · exact ⟨by assumption, this⟩
          have HN := Lib.hid hnew
          clear hnew
          go_wp2_with (first
            | (at_mapUpdate; refine wpList_upd_int rfl _ _ _ rfl mb (cnt + out.length) (updAll f out n) rfl hM (by omega) x n rfl rfl hsx hn ?_; intro W1 m1 g1; have c3' := hM.cell g1 c3; have c1' := hM.cell g1 c1; have hown1 := hown.kept g1 (hM.notRow hown); clear hM hrd1 c1 c2 c3 hlook hcc)
            | (refine wpList_append_int rfl (.tmp 38) (.tmp 40) 40 3 rfl Try.underlying40 infoInt w.heap.size (.slice B out.length c) out rfl (hown1.alloc _) W1.heap.size 1 x rfl (by go_simp) (by omega) (Nat.le_trans hgr.size (Nat.le_trans g1.size (by rw [World.size_alloc]; omega))) ?_; intro v' W2 o2' g2 s2))
          go_roundw
          case rel =>
            refine ⟨j + 1, out ++ [x], by omega, by go_num, o2', ?_, fun u => ?_, ?_, by simp; omega, ?_⟩
            · rw [updAll_snoc] at m1
              rw [List.length_append, List.length_singleton, ← Nat.add_assoc]
              exact (m1.ext ((Ext.refl W1).alloc _)).kept g2 (by
                cases B with
                | none => simp [Value.ownBlock]
                | some ad =>
                  have := hMr (some ad) rfl
                  intro e
                  exact this ad rfl (by simpa [Value.ownBlock] using e.symm))
            · rw [HT.out, List.mem_append, List.mem_singleton, List.mem_append, List.mem_singleton, hO.out u]
              constructor
              · rintro (h | rfl)
                · exact ⟨.inl h.1, h.2⟩
                · exact ⟨.inr rfl, hge, HN.out.2⟩
              · rintro ⟨h1 | h1, h2⟩
                · exact .inl ⟨h1, h2⟩
                · exact .inr h1
            · rw [List.nodup_append]
              refine ⟨hnd, by simp, fun a ha b hb => ?_⟩
              rw [List.mem_singleton.1 hb]
              rintro rfl
              exact HN.out.1 ha
            · refine Grown.own (Grown.trans' (Grown.trans' hgr g1) (World.grownBy_alloc _ _ _)) g2 fun i hi => ?_
              cases B with
              | none => cases hi
              | some ad => cases hi; exact hBase ad rfl
          case measure => simp [RowKit.intOf]; omega
        | some y =>
          have HS := Lib.hid (ST.out (by
            rintro ⟨_, h1, h2⟩
            have := HY.out
            unfold updAll at this
            rw [if_neg h2, h1] at this
            cases this))
          go_wp2_with fail
          go_roundw
          case rel => exact ⟨j + 1, out, by omega, by go_num, hown, hM, HS.out, hnd, by omega, hgr⟩
          case measure => simp [RowKit.intOf]; omega
      · have HS := Lib.hid (ST.out (fun h => hge h.1))
        go_wp2_with fail
        go_roundw
        case rel => exact ⟨j + 1, out, by omega, by go_num, hown, hM, HS.out, hnd, by omega, hgr⟩
        case measure => simp [RowKit.intOf]; omega
    · obtain rfl : j = ys.length := by omega
      clear hrd1 c1 c2
      go_wp2_with fail
      go_ret
      obtain ⟨A', c', hv, hrd', _⟩ := Owns.rd hown
      cases hv
      exact ⟨_, _, out, rfl, hrd', hM, fun x => by rw [hO.out x, List.take_of_length_le (Nat.le_refl _)], hnd, hgr⟩
end Go.Proofs.Ythlobpdcolgcoaa
/- Plain: the search by breadth, level by level; a table turned about. -/
namespace Go.Proofs.Ythlobpdcolgcoaa
open Go.RowKit
set_option linter.unusedVariables false
set_option linter.unusedSimpArgs false

theorem isD.down {tb : List (List Int)} {home : Int} : ∀ {d : Nat} {x : Int}, isD tb home d x → ∀ i, i ≤ d → ∃ y, isD tb home i y := by
  intro d
  induction d with
  | zero => exact fun {x} h i hi => ⟨x, (show 0 = i by omega) ▸ h⟩
  | succ d ih =>
    intro x h i hi
    rcases Nat.lt_or_ge d i with h1 | h1
    · have : i = d + 1 := by omega
      subst this
      exact ⟨x, h⟩
    · obtain ⟨j, _, hj, _⟩ := h.step
      exact ih hj i h1
theorem near_all {tb : List (List Int)} {home m : Int} (hm : 2 ≤ m) (h : ∀ x, dst tb home x ≠ some (m - 1)) : near tb home m = dst tb home := by
  funext x
  cases hx : dst tb home x with
  | none => unfold near; rw [hx]; rfl
  | some d =>
    rw [near_some]
    refine ⟨hx, ?_⟩
    rcases Int.lt_or_le d m with h1 | h1
    · exact h1
    · exfalso
      obtain ⟨e, rfl, he⟩ := dst_some.1 hx
      obtain ⟨y, hy⟩ := he.down (m - 2).toNat (by omega)
      have := dst_isD.2 hy
      rw [show (((m - 2).toNat : Nat) : Int) + 1 = m - 1 by omega] at this
      exact h y this
theorem near_next {tb : List (List Int)} {home m : Int} {more : List Int} (h : ∀ x, x ∈ more ↔ dst tb home x = some m) : updAll (near tb home m) more m = near tb home (m + 1) := by
  funext x
  unfold updAll
  by_cases hx : x ∈ more
  · rw [if_pos hx]
    exact (near_some.2 ⟨(h x).1 hx, by omega⟩).symm
  · rw [if_neg hx]
    cases hd : dst tb home x with
    | none => unfold near; rw [hd]; rfl
    | some d =>
      have hne : d ≠ m := fun e => hx ((h x).2 (e ▸ hd))
      rcases Int.lt_or_le d m with h1 | h1
      · rw [near_some.2 ⟨hd, h1⟩, near_some.2 ⟨hd, by omega⟩]
      · have e1 : near tb home m x = none := by
          cases hq : near tb home m x with
          | none => rfl
          | some q => obtain ⟨h2, h3⟩ := near_some.1 hq; rw [hd] at h2; cases h2; omega
        have e2 : near tb home (m + 1) x = none := by
          cases hq : near tb home (m + 1) x with
          | none => rfl
          | some q => obtain ⟨h2, h3⟩ := near_some.1 hq; rw [hd] at h2; cases h2; omega
        rw [e1, e2]
theorem near_two {tb : List (List Int)} {home : Int} {out : List Int} (h : ∀ x, x ∈ out ↔ dst tb home x = some 1) : updAll (fun _ => none) out 1 = near tb home 2 := by
  have e : (fun _ => none : Int → Option Int) = near tb home 1 := by
    funext x
    cases hq : near tb home 1 x with
    | none => rfl
    | some q => obtain ⟨h2, h3⟩ := near_some.1 hq; have := (dst_bound h2).1; omega
  rw [e]
  exact near_next h
theorem updAll_append (f : Int → Option Int) (a b : List Int) (n : Int) : updAll (updAll f a n) b n = updAll f (a ++ b) n := by
  funext x
  unfold updAll
  by_cases h1 : x ∈ b
  · simp [h1]
  · by_cases h2 : x ∈ a <;> simp [h1, h2]

/-- The edges into p met so far: of the rows before i, and of row i its first k. -/
def met (tb : List (List Int)) (i k : Nat) (p : Nat) (x : Int) : Prop := ∃ j : Nat, x = j ∧ ((j < i ∧ (p : Int) ∈ tb.getD j []) ∨ (j = i ∧ (p : Int) ∈ (tb.getD i []).take k))
theorem met_next {tb : List (List Int)} {i p : Nat} {x : Int} (k : Nat) (hk : (tb.getD i []).length ≤ k) : met tb i k p x ↔ met tb (i + 1) 0 p x := by
  unfold met
  rw [List.take_of_length_le hk]
  constructor
  · rintro ⟨j, rfl, (⟨h1, h2⟩ | ⟨rfl, h2⟩)⟩
    · exact ⟨j, rfl, .inl ⟨by omega, h2⟩⟩
    · exact ⟨j, rfl, .inl ⟨by omega, h2⟩⟩
  · rintro ⟨j, rfl, (⟨h1, h2⟩ | ⟨rfl, h2⟩)⟩
    · rcases (show j < i ∨ j = i by omega) with h3 | rfl
      · exact ⟨j, rfl, .inl ⟨h3, h2⟩⟩
      · exact ⟨j, rfl, .inr ⟨rfl, h2⟩⟩
    · simp at h2
theorem met_step {tb : List (List Int)} {i k : Nat} {y : Int} (hy : (tb.getD i [])[k]? = some y) (p : Nat) (x : Int) : met tb i (k + 1) p x ↔ met tb i k p x ∨ (y = p ∧ x = i) := by
  unfold met
  rw [List.take_add_one, hy]
  constructor
  · rintro ⟨j, rfl, (⟨h1, h2⟩ | ⟨rfl, h2⟩)⟩
    · exact .inl ⟨j, rfl, .inl ⟨h1, h2⟩⟩
    · rw [List.mem_append] at h2
      rcases h2 with h2 | h2
      · exact .inl ⟨j, rfl, .inr ⟨rfl, h2⟩⟩
      · simp at h2
        exact .inr ⟨h2.symm, rfl⟩
  · rintro (⟨j, rfl, (⟨h1, h2⟩ | ⟨rfl, h2⟩)⟩ | ⟨rfl, rfl⟩)
    · exact ⟨j, rfl, .inl ⟨h1, h2⟩⟩
    · exact ⟨j, rfl, .inr ⟨rfl, List.mem_append_left _ h2⟩⟩
    · exact ⟨i, rfl, .inr ⟨rfl, List.mem_append_right _ (by simp)⟩⟩
theorem met_all {tb : List (List Int)} {p : Nat} {x : Int} : met tb tb.length 0 p x ↔ (p : Int) ∈ rowOf tb x := by
  unfold met rowOf
  constructor
  · rintro ⟨j, rfl, (⟨h1, h2⟩ | ⟨rfl, h2⟩)⟩
    · rw [if_neg (by omega), Int.toNat_natCast]
      exact h2
    · simp at h2
  · intro h
    split at h
    · cases h
    · rename_i h0
      refine ⟨x.toNat, by omega, .inl ⟨?_, h⟩⟩
      rcases Nat.lt_or_ge x.toNat tb.length with h1 | h1
      · exact h1
      · rw [List.getD_eq_getElem?_getD, List.getElem?_eq_none h1] at h
        cases h

/-- The turned table while it is filled. -/
def BInv (W : World) (base g : Nat) (T e : TypeId) (tb : List (List Int)) (i k : Nat) : Prop :=
  ∃ rs : List (Value × List Int), rs.length = tb.length ∧ ORows W base g T e rs ∧ ∀ p : Nat, p < tb.length → ∃ v xs, rs[p]? = some (v, xs) ∧ xs.length ≤ i * 64 + k ∧ ∀ x, x ∈ xs ↔ met tb i k p x
theorem BInv.ext {W W' : World} {base g : Nat} {T e : TypeId} {tb : List (List Int)} {i k : Nat} (h : BInv W base g T e tb i k) (hx : Ext W W') : BInv W' base g T e tb i k := by
  obtain ⟨rs, h1, h2, h3⟩ := h
  exact ⟨rs, h1, h2.ext hx, h3⟩
theorem BInv.row {W : World} {base g : Nat} {T e : TypeId} {tb : List (List Int)} {i k : Nat} (h : BInv W base g T e tb i k) (hk : (tb.getD i []).length ≤ k) (hk2 : k ≤ 64) : BInv W base g T e tb (i + 1) 0 := by
  obtain ⟨rs, h1, h2, h3⟩ := h
  refine ⟨rs, h1, h2, fun p hp => ?_⟩
  obtain ⟨v, xs, h4, h5, h6⟩ := h3 p hp
  exact ⟨v, xs, h4, by omega, fun x => by rw [h6 x]; exact met_next k hk⟩
theorem BInv.new (W : World) (T e : TypeId) (tb : List (List Int)) (n : Nat) (hn : tb.length = n) (o : Obj) : BInv ((W.alloc (.cells (Array.replicate n (Value.slice none 0 0)) T)).alloc o) (W.heap.size + 2) W.heap.size T e tb 0 0 := by
  subst hn
  refine ⟨List.replicate tb.length (.slice none 0 0, []), by simp, ⟨?_, by omega, by simp, ?_, ?_⟩, ?_⟩
  · rw [List.map_replicate, ← List.toArray_replicate]
    exact (Blk.new _ _ _).alloc _
  · intro i v xs hi
    rw [List.getElem?_replicate] at hi
    split at hi <;> cases hi
    exact World.ownsRow_nil _ _ _ _
  · intro i j v xs v' xs' k _ hi _ hk
    rw [List.getElem?_replicate] at hi
    split at hi <;> cases hi
    cases hk
  · intro p hp
    refine ⟨.slice none 0 0, [], by rw [List.getElem?_replicate, if_pos hp], by simp, fun x => ?_⟩
    unfold met
    constructor
    · intro h; cases h
    · rintro ⟨j, rfl, (⟨h1, h2⟩ | ⟨rfl, h2⟩)⟩
      · omega
      · simp at h2
theorem BInv.at {W : World} {base g : Nat} {T e : TypeId} {tb : List (List Int)} {i k p : Nat} (h : BInv W base g T e tb i k) (hy : (tb.getD i [])[k]? = some (p : Int)) (hp : p < tb.length) (hi : i < 64) (hk : k < 64) :
    ∃ A c, ∃ xs : List Int, W.cell? ⟨g, p, none⟩ = some (.slice A xs.length c) ∧ W.ownsRow base e 1 (.slice A xs.length c) xs.length (ints xs) ∧ (∀ a, A = some a → base ≤ a.block) ∧ base ≤ W.heap.size ∧ xs.length ≤ 10000 ∧ W.frozen? ⟨g, p, none⟩ = false ∧
      ∀ W1 v', W1.ownsRow base e 1 v' (xs ++ [(i : Int)]).length (ints (xs ++ [(i : Int)])) → W.grownBy W1 (Value.slice A xs.length c).ownBlock →
        (∀ b, v'.ownBlock = some b → (Value.slice A xs.length c).ownBlock = some b ∨ W.heap.size ≤ b) →
        (∃ old, W1.cell? ⟨g, p, none⟩ = some old) ∧ W1.frozen? ⟨g, p, none⟩ = false ∧ W1.cell? ⟨g, p, none⟩ = some (.slice A xs.length c) ∧ BInv (W1.setCell ⟨g, p, none⟩ v') base g T e tb i (k + 1) := by
  obtain ⟨rs, h1, h2, h3⟩ := h
  obtain ⟨v, xs, hv, hl, hx⟩ := h3 p hp
  have hown := h2.own p v xs hv
  obtain ⟨A, c, rfl, hrd, hA⟩ := Owns.rd hown
  have hc : ∀ {W' : World}, Blk W' g (rs.map Prod.fst) T → W'.cell? ⟨g, p, none⟩ = some (.slice A xs.length c) := fun hb => hb.cell p (by rw [List.getElem?_map, hv]; rfl)
  refine ⟨A, c, xs, hc h2.blk, hown, hA, h2.low, by omega, h2.blk.frozen p, ?_⟩
  intro W1 v' ho hg hs
  have hst := h2.step hv ho hg hs
  have hne : some g ≠ (Value.slice A xs.length c).ownBlock := by
    intro e
    have := ((h2.own p _ _ hv).lt g e.symm).1
    have := h2.lt
    omega
  have hb1 := Grown.blk hg h2.blk hne
  refine ⟨⟨_, hc hb1⟩, hb1.frozen p, hc hb1, rs.set p (v', _), by simpa using h1, hst, fun q hq => ?_⟩
  by_cases hpq : p = q
  · subst hpq
    refine ⟨v', _, List.getElem?_set_self (List.getElem?_eq_some_iff.1 hv).1, by simp; omega, fun x => ?_⟩
    rw [met_step hy, List.mem_append, List.mem_singleton, hx x]
    simp
  · obtain ⟨u, ys, hu, hul, hux⟩ := h3 q hq
    refine ⟨u, ys, by rw [List.getElem?_set_ne hpq]; exact hu, by omega, fun x => ?_⟩
    rw [met_step hy, hux x]
    constructor
    · exact .inl
    · rintro (h | ⟨h, _⟩)
      · exact h
      · exact absurd (by omega) hpq
theorem BInv.done {W : World} {base g : Nat} {T e : TypeId} {tb : List (List Int)} (h : BInv W base g T e tb tb.length 0) : ∃ R : List Row, RdR W (some ⟨g, 0, none⟩) R ∧ R.length = tb.length ∧
    ∀ p : Nat, p < tb.length → ∃ xs, (rows R)[p]? = some xs ∧ xs.length ≤ tb.length * 64 ∧ ∀ x, x ∈ xs ↔ (p : Int) ∈ rowOf tb x := by
  obtain ⟨rs, h1, h2, h3⟩ := h
  obtain ⟨R, r1, r2, r3⟩ := h2.rd
  refine ⟨R, r1, by omega, fun p hp => ?_⟩
  obtain ⟨v, xs, hv, hl, hx⟩ := h3 p hp
  refine ⟨xs, by rw [r2, List.getElem?_map, hv]; rfl, by omega, fun x => ?_⟩
  rw [hx x]
  exact met_all
end Go.Proofs.Ythlobpdcolgcoaa
/- Chapter 23: far. -/
namespace Go.Proofs.Ythlobpdcolgcoaa
open Go.RowKit Go.Maps Go.Lib
set_option linter.unusedVariables false
set_option linter.unusedSimpArgs false

theorem But.grown' {g : Nat} {a b c : World} {row : Option Nat} (h : But g a b) (k : b.grownBy c row) (hr : ∀ j, row = some j → a.heap.size ≤ j) : But g a c :=
  ⟨k.os.trans h.os, k.tape.trans h.tape, k.output.trans h.output, Nat.le_trans h.size k.size, fun i hi hne => (k.block i (Nat.lt_of_lt_of_le hi h.size) (fun e => by have := hr i e.symm; omega)).trans (h.block i hi hne)⟩
theorem But.cell' {g q o : Nat} {a b : World} {v : Value} (h : But g a b) (hc : a.cell? ⟨q, o, none⟩ = some v) (hne : q ≠ g) : b.cell? ⟨q, o, none⟩ = some v := by
  have hlt := World.block_lt_of_cell? a _ hc
  have := h.block q hlt hne
  unfold World.cell? at hc ⊢
  simp only at hc ⊢
  rw [this]
  exact hc
theorem Grown.after_ext {W W' W1 : World} {row : Option Nat} (k : Ext W W') (h : W'.grownBy W1 row) : W.grownBy W1 row :=
  ⟨h.os.trans k.os, h.tape.trans k.tape, h.output.trans k.output, Nat.le_trans k.size h.size, fun i hi hne => (h.block i (Nat.lt_of_lt_of_le hi k.size) hne).trans (k.block i hi)⟩
theorem getD_row {rs : List Row} {i : Nat} {B : Option Addr} {c : Nat} {xs : List Int} (h : rs[i]? = some ⟨B, c, xs⟩) : (rows rs).getD i [] = xs := by
  rw [List.getD_eq_getElem?_getD, rows_get, h]
  rfl

theorem far_goes (rs R : List Row) (tb : List (List Int)) (htl : tb.length = rs.length)
    (hRx : ∀ p : Nat, p < tb.length → ∃ xs, (rows R)[p]? = some xs ∧ xs.length ≤ tb.length * 64 ∧ ∀ x, x ∈ xs ↔ (p : Int) ∈ rowOf tb x) (hlen : rs.length ≤ 64)
    (A : Option Addr) (cap qb qs qh mb : Nat) (home : Int) (W2 W : World) (k n : Int) (f : Int → Option Int) (cnt : Nat) (hM2 : IMap W2 mb 0 fun _ => none)
    (hb : W2.cell? ⟨qb, 0, none⟩ = some (.slice A R.length cap)) (hs : W2.cell? ⟨qs, 0, none⟩ = some (.map (some mb))) (hh : W2.cell? ⟨qh, 0, none⟩ = some (.int .i64 home)) (hr : RdR W2 A R) (hRl : R.length = rs.length)
    (hg : W2.grownBy W (some mb)) (hm : IMap W mb cnt f) (hk0 : 0 ≤ k) (hk : k < tb.length) (hn : small n) (hc : cnt ≤ 100000) :
    Calls Try.prog 39 #[.int .i64 k, .int .i64 n, .pointer (some ⟨qb, 0, none⟩), .pointer (some ⟨qs, 0, none⟩), .pointer (some ⟨qh, 0, none⟩)] W fun e w' =>
      ∃ B c out, e = .returned (.slice B (out : List Int).length c) ∧ RdV w' B (ints out) ∧ IMap w' mb (cnt + out.length) (updAll f out n) ∧ (∀ x, x ∈ out ↔ k ∈ rowOf tb x ∧ home ≤ x ∧ f x = none) ∧ out.Nodup ∧ W.grownBy w' (some mb) := by
  obtain ⟨kk, rfl⟩ : ∃ kk : Nat, k = kk := ⟨k.toNat, by omega⟩
  obtain ⟨xs, h1, h2, h3⟩ := hRx kk (by omega)
  refine (goes_calls R A cap qb qs qh mb cnt home kk n f W xs (hM2.cell hg hb) (hM2.cell hg hs) (hM2.cell hg hh) (hM2.rdr hg hr) hm hk0 (by rw [Int.toNat_natCast]; exact h1) (fun x hx => ?_) hn (by omega) hc).mono ?_
  · have := row_some ((h3 x).1 hx)
    exact ⟨this.1, by omega⟩
  · rintro e w' ⟨B, c, out, r1, r2, r3, r4, r5, r6⟩
    exact ⟨B, c, out, r1, r2, r3, fun x => by rw [r4 x, h3 x], r5, r6⟩

/-- What the search knows when the places nearer than m are there. -/
def LS (tb : List (List Int)) (home : Int) (mb : Nat) (W2 W : World) (m : Int) (todo : List Int) : Prop :=
  ∃ L : List Int, IMap W mb L.length (near tb home m) ∧ L.Nodup ∧ (∀ x, x ∈ L ↔ near tb home m x ≠ none) ∧ (∀ x, x ∈ todo ↔ dst tb home x = some (m - 1)) ∧ todo.Nodup ∧ W2.grownBy W (some mb)
theorem LS.start {tb : List (List Int)} {home : Int} {mb : Nat} {W2 W : World} {out : List Int} (hm : IMap W mb (0 + out.length) (updAll (fun _ => none) out 1))
    (ho : ∀ x, x ∈ out ↔ home ∈ rowOf tb x ∧ home ≤ x ∧ True) (hn : out.Nodup) (hg : W2.grownBy W (some mb)) : LS tb home mb W2 W 2 out := by
  have h1 : ∀ x, x ∈ out ↔ dst tb home x = some 1 := fun x => by
    rw [ho x, level_one]
    constructor
    · exact fun h => ⟨h.2.1, h.1⟩
    · exact fun h => ⟨h.2, h.1, trivial⟩
  rw [Nat.zero_add, near_two h1] at hm
  refine ⟨out, hm, hn, fun x => ?_, h1, hn, hg⟩
  rw [← near_two h1]
  unfold updAll
  by_cases h : x ∈ out <;> simp [h]
/-- .. and while a level is gone through: of the places of the level before it, P are done. -/
def LM (tb : List (List Int)) (home : Int) (m : Int) (P more : List Int) : Prop :=
  ∀ x, x ∈ more ↔ near tb home m x = none ∧ home ≤ x ∧ ∃ j ∈ P, j ≠ home ∧ j ∈ rowOf tb x
theorem LM.step {tb : List (List Int)} {home m : Int} {P more out : List Int} {j : Int} (h : LM tb home m P more) (hj : j ≠ home) (ho : ∀ x, x ∈ out ↔ j ∈ rowOf tb x ∧ home ≤ x ∧ updAll (near tb home m) more m x = none) : LM tb home m (P ++ [j]) (more ++ out) := by
  intro x
  have hu : updAll (near tb home m) more m x = none ↔ near tb home m x = none ∧ x ∉ more := by
    unfold updAll
    by_cases h : x ∈ more <;> simp [h]
  rw [List.mem_append, ho x, hu, h x]
  constructor
  · rintro (⟨h1, h2, i, h3, h4⟩ | ⟨h1, h2, h3, h4⟩)
    · exact ⟨h1, h2, i, List.mem_append_left _ h3, h4⟩
    · exact ⟨h3, h2, j, by simp, hj, h1⟩
  · rintro ⟨h1, h2, i, h3, h4⟩
    by_cases h5 : ∃ i ∈ P, i ≠ home ∧ i ∈ rowOf tb x
    · obtain ⟨i, h5⟩ := h5
      exact .inl ⟨h1, h2, i, h5⟩
    · rw [List.mem_append, List.mem_singleton] at h3
      rcases h3 with h3 | rfl
      · exact absurd ⟨i, h3, h4⟩ h5
      · exact .inr ⟨h4.2, h2, h1, fun h6 => h5 (h6.2.2)⟩
theorem LM.skip {tb : List (List Int)} {home m : Int} {P more : List Int} (h : LM tb home m P more) : LM tb home m (P ++ [home]) more := by
  intro x
  rw [h x]
  constructor
  · rintro ⟨h1, h2, i, h3, h4⟩
    exact ⟨h1, h2, i, List.mem_append_left _ h3, h4⟩
  · rintro ⟨h1, h2, i, h3, h4⟩
    rw [List.mem_append, List.mem_singleton] at h3
    rcases h3 with h3 | rfl
    · exact ⟨h1, h2, i, h3, h4⟩
    · exact absurd rfl h4.1
theorem LM.row {tb : List (List Int)} {home m : Int} {P more : List Int} (h : LM tb home m P more) (hn : more.Nodup) : more.length ≤ tb.length :=
  nodup_le tb.length more hn fun x hx => by
    obtain ⟨_, _, j, _, _, hj⟩ := (h x).1 hx
    exact row_some hj
theorem near_row {tb : List (List Int)} {home m : Int} {L : List Int} (hn : L.Nodup) (h : ∀ x, x ∈ L ↔ near tb home m x ≠ none) : L.length ≤ tb.length :=
  nodup_le tb.length L hn fun x hx => by
    have := (h x).1 hx
    cases hq : near tb home m x with
    | none => exact absurd hq this
    | some q => have := dst_bound (near_some.1 hq).1; omega
/-- The level is done. -/
theorem LM.done {tb : List (List Int)} {home m : Int} {mb : Nat} {W2 W : World} {L todo more : List Int} (hm : 2 ≤ m) (h : LM tb home m todo more) (hM : IMap W mb (L.length + more.length) (updAll (near tb home m) more m))
    (hLn : L.Nodup) (hL : ∀ x, x ∈ L ↔ near tb home m x ≠ none) (ht : ∀ x, x ∈ todo ↔ dst tb home x = some (m - 1)) (hmn : more.Nodup) (hg : W2.grownBy W (some mb)) : LS tb home mb W2 W (m + 1) more := by
  have h1 : ∀ x, x ∈ more ↔ dst tb home x = some m := fun x => by
    rw [h x, level_next hm]
    constructor
    · rintro ⟨a, b, j, hj, c, d⟩
      exact ⟨a, b, j, d, (ht j).1 hj, c⟩
    · rintro ⟨a, b, j, d, hj, c⟩
      exact ⟨a, b, j, (ht j).2 hj, c, d⟩
  rw [near_next h1] at hM
  refine ⟨L ++ more, by rw [List.length_append]; exact hM, ?_, fun x => ?_, fun x => by rw [h1 x, Int.add_sub_cancel], hmn, hg⟩
  · rw [List.nodup_append]
    refine ⟨hLn, hmn, fun a ha b hb => ?_⟩
    rintro rfl
    exact (hL a).1 ha ((h a).1 hb).1
  · rw [← near_next h1, List.mem_append, hL x]
    unfold updAll
    by_cases hx : x ∈ more <;> simp [hx]

set_option maxHeartbeats 2000000 in
theorem far_calls (rs : List Row) (A : Option Addr) (cap home : Nat) (w : World) (hr : RdR w A rs) (hlen : rs.length ≤ 64) (hrow : ∀ r ∈ rs, r.xs.length ≤ 64) (hent : ∀ r ∈ rs, ∀ x ∈ r.xs, 0 ≤ x ∧ x < rs.length) (hh : home < rs.length) :
    Calls Try.prog 34 #[.slice A rs.length cap, .int .i64 home] w fun e w' => ∃ mb cnt, e = .returned (.map (some mb)) ∧ IMap w' mb cnt (dst (rows rs) home) ∧ Ext w w' := by
  have HM := make_rows rs.length (by omega)
  obtain ⟨tb, htb⟩ : ∃ tb, rows rs = tb := ⟨_, rfl⟩
  have htl : tb.length = rs.length := by rw [← htb, rows_length]
  go_enter Try.func34, Try.ntmps34
  go_upto_region 1 with (fail)
  refine wp_gen (fun W => W.cell? ⟨w.heap.size, 0, none⟩ = some (.int .i64 home) ∧ RdR W A rs ∧ Ext w W ∧ w.heap.size < W.heap.size) ⟨by go_simp, hr.ext ((Ext.refl w).alloc _), (Ext.refl w).alloc _, by simp⟩ ?_
  obtain ⟨H, hH⟩ : ∃ H, w.heap.size = H := ⟨_, rfl⟩
  rw [hH]
  rintro W0 ⟨eh, hr0, hx0, hHs⟩
  go_upto_region 3 with (fail)
  refine wp_gen (fun W => BInv W (W0.heap.size + 2) W0.heap.size 40 3 tb 0 0 ∧ W.cell? ⟨H, 0, none⟩ = some (.int .i64 home) ∧ W.cell? ⟨W0.heap.size + 1, 0, none⟩ = some (.slice (some ⟨W0.heap.size, 0, none⟩) rs.length rs.length) ∧ W.heap.size = W0.heap.size + 2 ∧ Ext w W)
    ⟨BInv.new W0 _ _ tb _ htl _, (((Ext.refl W0).alloc _).alloc _).cell eh, by go_simp, by simp, (hx0.alloc _).alloc _⟩ ?_
  have hgw : w.heap.size ≤ W0.heap.size := hx0.size
  obtain ⟨g, hg⟩ : ∃ g, W0.heap.size = g := ⟨_, rfl⟩
  rw [hg] at hgw hHs ⊢
  clear eh hx0 hr0 hg
  rintro W1 ⟨hB, eh, eb, hsz, hx1⟩
  clear HM
  go_loopw [22] (fun i W => ∃ j : Nat, j ≤ rs.length ∧ i = .int .i64 j ∧ BInv W (g + 2) g 40 3 tb j 0 ∧ But g W1 W) (fun i _ => rs.length - (RowKit.intOf i).toNat)
  case atStart => exact ⟨0, by omega, rfl, hB, But.refl _ _⟩
  case round =>
    clear hB
    obtain ⟨i, hi, rfl, hB, hbut⟩ := hrel
    have hxw : Ext w wr := But.toExt hx1 hbut hgw
    by_cases hlt : i < rs.length
    · have hlti : (i : Int) < rs.length := by omega
      have hrr := hr.ext hxw
      obtain ⟨b, o, B, c, xs, hA, he, hcell, hrd⟩ := hrr.at hlt
      subst hA
      have hxl := hrow _ (List.mem_of_getElem? he)
      have hxe := hent _ (List.mem_of_getElem? he)
      have hrd0 := hr.2 _ (List.mem_of_getElem? he)
      simp only at hxl hxe hrd0
      have hgd : tb.getD i [] = xs := by rw [← htb]; exact getD_row he
      clear hrr hrd
      go_upto_region 6 with (fail)
      go_loopw [29] (fun i' W => ∃ k : Nat, k ≤ xs.length ∧ i' = .int .i64 k ∧ BInv W (g + 2) g 40 3 tb i k ∧ But g W1 W) (fun i' _ => xs.length - (RowKit.intOf i').toNat)
      case atStart => exact ⟨0, by omega, rfl, hB, hbut⟩
      case round =>
        clear hB hbut hxw hcell
        obtain ⟨k, hk, rfl, hB, hbut⟩ := hrel
        have hxw : Ext w wr := But.toExt hx1 hbut hgw
        by_cases hkt : k < xs.length
        · have hkti : (k : Int) < xs.length := by omega
          obtain ⟨b2, o2, hB2, hcc⟩ := (hrd0.ext hxw).at (i := k) (by rw [ints_length]; exact hkt)
          subst hB2
          obtain ⟨x, hx⟩ : ∃ x, xs[k]? = some x := ⟨_, List.getElem?_eq_getElem hkt⟩
          have c3 := hcc k (.int .i64 x) (by rw [ints_get, hx]; rfl)
          obtain ⟨hx0, hxn⟩ := hxe x (List.mem_of_getElem? hx)
          obtain ⟨p, rfl⟩ : ∃ p : Nat, x = p := ⟨x.toNat, by omega⟩
          obtain ⟨A5, c5, ys, hcell, hown, hbase, hlow, hyl, hfz, hback⟩ := hB.at (p := p) (by rw [hgd]; exact hx) (by omega) (by omega) (by omega)
          have e5 := hbut.cell' eb (by omega)
          go_upto_region 8 with (fail)
          refine wp_region_mix (fun W => W.cell? ⟨g + 1, 0, none⟩ = some (.slice (some ⟨g, 0, none⟩) rs.length rs.length) ∧ W.cell? ⟨g, p, none⟩ = some (.slice A5 ys.length c5)) 9 [(0, true), (1, true), (2, true), (3, true), (4, true), (5, true), (6, true), (7, false), (8, false), (9, false), (10, false)] (by kernel_rfl) (by kernel_rfl) (⟨e5, hcell⟩) ?_
          repeat (apply mix_read; (case ho => rfl); (case hw => rfl); (case h1 => intro W' hx; obtain ⟨q1, q2⟩ := hx; go_simp; (try go_bits); with_reducible rfl); (case hp => go_simp; first | done | with_reducible rfl))
          refine mix_loud rfl ?_; intro KY hKY
          go_wp2_with fail
          refine ⟨⟨((Ext.refl wr).drew.alloc _).cell e5, ((Ext.refl wr).drew.alloc _).cell hcell⟩, ?_⟩
          refine mix_loud rfl ?_; intro KY hKY
          refine wpList_append_int rfl (.tmp 38) (.tmp 40) 40 3 rfl Try.underlying40 infoInt (g + 2) (.slice A5 ys.length c5) ys rfl (Owns.ext hown (((Ext.refl wr).alloc _).drew)) wr.heap.size 1 i rfl ((Blk.new wr [.int .i64 i] 3).cell 0 rfl) (by omega) (Nat.le_trans hlow (((Ext.refl wr).alloc _).drew).size) ?_
          intro v' W5 o5' g5 s5
          obtain ⟨⟨old, ho⟩, hfz5, hc5, hB5⟩ := hback W5 v' o5' (Grown.after_ext (((Ext.refl wr).alloc _).drew) g5) (fun b hb => (s5 b hb).imp_right fun h => Nat.le_trans (((Ext.refl wr).alloc _).drew).size h)
          have hq5 := Grown.cell1 g5 ((((Ext.refl wr).alloc _).drew).cell e5) (fun a ha e => by have := hbase a ha; omega)
          have hbut5 : But g W1 W5 := But.grown' (But.ext hbut (((Ext.refl wr).alloc _).drew)) g5 (fun j hj => by
            rw [hsz]
            cases A5 with
            | none => cases hj
            | some ad => cases hj; exact hbase ad rfl)
          obtain ⟨B5, cc5, rfl, _, _⟩ := Owns.rd o5'
          go_wp2_with fail
          refine ⟨⟨hq5, hc5⟩, ?_⟩
          refine mix_end 9 (by kernel_rfl) (by kernel_rfl) ?_; simp only [List.take_succ_cons, List.take_zero, List.drop_succ_cons, List.drop_zero]; unfold Q0
          go_wp2_with fail
          go_roundw
          case rel => exact ⟨k + 1, by omega, by go_num, by rw [List.length_append] at hB5; exact hB5, hbut5.set _ _⟩
          case measure => simp [RowKit.intOf]; omega
        · obtain rfl : k = xs.length := by omega
          go_wp2_with fail
          go_roundw
          case rel => exact ⟨i + 1, by omega, by go_num, hB.row (by rw [hgd]; exact Nat.le_refl _) (by omega), hbut⟩
          case measure => simp [RowKit.intOf]; omega
    · obtain rfl : i = rs.length := by omega
      rw [← htl] at hB
      obtain ⟨R, hR, hRl, hRx⟩ := hB.done
      have e5 := hbut.cell' eb (by omega)
      have e6 := hbut.cell' eh (by omega)
      rw [htl] at hRl
      clear hB hbut hrow hr hent
      have hmm := @run_makeMap Try.prog
      go_upto_region 13 with (fail)
      refine wp_gen (fun W => IMap W wr.heap.size 0 (fun _ => none) ∧ W.cell? ⟨wr.heap.size + 1, 0, none⟩ = some (.map (some wr.heap.size)) ∧ W.cell? ⟨g + 1, 0, none⟩ = some (.slice (some ⟨g, 0, none⟩) R.length rs.length) ∧ W.cell? ⟨H, 0, none⟩ = some (.int .i64 home) ∧ RdR W (some ⟨g, 0, none⟩) R ∧ Ext w W)
        ⟨(IMap.made wr).ext ((Ext.refl _).alloc _), by go_simp, by rw [hRl]; exact (((Ext.refl wr).alloc _).alloc _).cell e5, (((Ext.refl wr).alloc _).alloc _).cell e6, hR.ext (((Ext.refl wr).alloc _).alloc _), (hxw.alloc _).alloc _⟩ ?_
      clear hR e5 e6 hmm
      obtain ⟨mb, hmb⟩ : ∃ mb, wr.heap.size = mb := ⟨_, rfl⟩
      have hwm : w.heap.size ≤ mb := hmb ▸ hxw.size
      rw [hmb]
      clear hmb hxw
      rintro W2 ⟨hM2, es2, eb2, eh2, hR2, hx2⟩
      have GO := Lib.hid fun (W : World) (k n : Int) (f : Int → Option Int) (cnt : Nat) (hg : W2.grownBy W (some mb)) (hm : IMap W mb cnt f) (hk0 : 0 ≤ k) (hk : k < tb.length) (hn : small n) (hc : cnt ≤ 100000) =>
        far_goes rs R tb htl hRx hlen (some ⟨g, 0, none⟩) rs.length (g + 1) (mb + 1) H mb home W2 W k n f cnt hM2 eb2 es2 eh2 hR2 hRl hg hm hk0 hk hn hc
      have G1 := GO.out W2 home 1 _ 0 ⟨rfl, rfl, rfl, Nat.le_refl _, fun _ _ _ => rfl⟩ hM2 (by omega) (by omega) ⟨by omega, by omega⟩ (by omega)
      go_wp2_with fail
      refine G1.mono ?_
      rintro e W3 ⟨B3, c3, out3, rfl, hro3, hm3, hout3, hnd3, hgr3⟩
      have hLS := LS.start hm3 hout3 hnd3 hgr3
      clear hm3 hout3 hnd3 hgr3 G1
      go_wp2_with fail
      have HH := Lib.hid (show (0 : Int) ≤ home ∧ (home : Int) < tb.length by omega)
      go_loopw [12, 13] (fun v nv W => ∃ (m : Nat) (todo : List Int) (B : Option Addr) (c : Nat), v = .slice B todo.length c ∧ nv = .int .i64 m ∧ 2 ≤ m ∧ m ≤ 66 ∧ RdV W B (ints todo) ∧ LS tb home mb W2 W m todo) (fun _ nv _ => 100 - (RowKit.intOf nv).toNat)
      case atStart => exact ⟨2, out3, B3, c3, rfl, rfl, by omega, by omega, hro3, hLS⟩
      case round =>
        clear hLS hro3
        obtain ⟨m, todo, B, c, rfl, rfl, hm2, hm66, hrt, hLS⟩ := hrel
        cases todo with
        | nil =>
          obtain ⟨L, hM, hLn, hL, ht, htn, hgr⟩ := hLS
          have es := hM2.cell hgr es2
          rw [near_all (by omega) (fun x hx => by have := (ht x).2 hx; cases this)] at hM
          have HM := Lib.hid hM
          clear hM hL ht
          go_wp2_with fail
          go_ret
          exact ⟨mb, _, rfl, by rw [htb]; exact HM.out, Grown.toExt hx2 hgr (fun j hj => by cases hj; exact hwm)⟩
        | cons t0 ts =>
          obtain ⟨todo, htd⟩ : ∃ l, t0 :: ts = l := ⟨_, rfl⟩
          have hpos : 0 < todo.length := by rw [← htd]; simp
          rw [htd] at hrt hLS ⊢
          clear htd
          have hposi : (0 : Int) < todo.length := by omega
          go_upto_region 18 with (fail)
          obtain ⟨L, hML, hLn, hL, htd, htn, hgr⟩ := hLS
          have hLl := near_row hLn hL
          have hmt : m ≤ 65 := by
            obtain ⟨x, hx⟩ : ∃ x, x ∈ todo := ⟨todo[0], List.getElem_mem hpos⟩
            have := dst_bound ((htd x).1 hx)
            omega
          have htodo : todo.length ≤ 64 := by
            have := nodup_le tb.length todo htn fun x hx => by have := dst_bound ((htd x).1 hx); omega
            omega
          rename World => Wr
          go_loopw [57, 14] (fun i v W => ∃ (q : Nat) (more : List Int), q ≤ todo.length ∧ i = .int .i64 q ∧ W.ownsRow Wr.heap.size 3 1 v more.length (ints more) ∧ IMap W mb (L.length + more.length) (updAll (near tb home m) more m) ∧ LM tb home m (todo.take q) more ∧ more.Nodup ∧ Wr.grownBy W (some mb)) (fun i _ _ => todo.length - (RowKit.intOf i).toNat)
          case atStart => exact ⟨0, [], by omega, rfl, World.ownsRow_nil _ _ _ _, by
            have : updAll (near tb home m) [] m = near tb home m := by funext x; simp [updAll]
            rw [this]
            exact hML, fun x => by simp, by simp, ⟨rfl, rfl, rfl, Nat.le_refl _, fun _ _ _ => rfl⟩⟩
          case round =>
            obtain ⟨q, more, hq, rfl, hown, hMM, hLM, hmn, hgr4⟩ := hrel
            obtain ⟨B4, c4, rfl, _, hbase4⟩ := Owns.rd hown
            have hml := hLM.row hmn
            have hgr2 := Grown.trans' hgr hgr4
            have c1 := hM2.cell hgr2 eh2
            have HLM := Lib.hid hLM
            clear hLM
            by_cases hqt : q < todo.length
            · have hqti : (q : Int) < todo.length := by omega
              have hrt4 := hML.rdv hgr4 hrt
              obtain ⟨b5, o5, rfl, hcc⟩ := hrt4.at (i := q) (by rw [ints_length]; exact hqt)
              obtain ⟨j, hj⟩ : ∃ j, todo[q]? = some j := ⟨_, List.getElem?_eq_getElem hqt⟩
              have c3 := hcc q (.int .i64 j) (by rw [ints_get, hj]; rfl)
              have hjd := dst_bound ((htd j).1 (List.mem_of_getElem? hj))
              have HT : Hid (todo.take (q + 1) = todo.take q ++ [j]) := Lib.hid (by rw [List.take_add_one, hj]; rfl)
              by_cases hjh : j = home
              · subst hjh
                have HN := Lib.hid (show LM tb home m (todo.take (q + 1)) more by rw [HT.out]; exact HLM.out.skip)
                clear hML hrt4 hcc HT
                go_wp2_with fail
                go_roundw
                case rel => exact ⟨q + 1, more, by omega, by go_num, hown, hMM, HN.out, hmn, hgr4⟩
                case measure => simp [RowKit.intOf]; omega
              · have hjb : (j == (home : Int)) = false := by simpa using hjh
                have G2 := Lib.hid (GO.out wr j m _ (L.length + more.length) hgr2 hMM (by omega) (by omega) ⟨by omega, by omega⟩ (by omega))
                have hlo : Wr.heap.size ≤ wr.heap.size := hgr4.size
                go_wp2_with fail
                refine G2.out.mono ?_
                rintro e W5 ⟨B6, c6, out, rfl, hro6, hm6, hout6, hnd6, hgr6⟩
                have hown6 := hown.kept hgr6 (hMM.notRow hown)
                have hM1 : ∀ ad, B4 = some ad → ad.block ≠ mb := fun ad had e2 => by
                  rcases hm6.notRow hown6 with h | h
                  · rw [had] at h; cases h
                  · rw [had] at h; exact h (by simp [Value.ownBlock, e2])
                have hout7 : ∀ x, x ∈ out ↔ j ∈ rowOf tb x ∧ (home : Int) ≤ x ∧ updAll (near tb home m) more m x = none := hout6
                have HS := Lib.hid (show LM tb home m (todo.take (q + 1)) (more ++ out) by rw [HT.out]; exact HLM.out.step hjh hout7)
                have hnd7 : (more ++ out).Nodup := by
                  rw [List.nodup_append]
                  refine ⟨hmn, hnd6, fun a ha b hb => ?_⟩
                  rintro rfl
                  have := ((hout7 a).1 hb).2.2
                  unfold updAll at this
                  rw [if_pos ha] at this
                  cases this
                have hml7 := HS.out.row hnd7
                rw [List.length_append] at hml7
                rw [updAll_append] at hm6
                have hlo6 := Nat.le_trans hlo hgr6.size
                have hgr7 := Grown.trans' hgr4 hgr6
                clear hML hrt4 hcc HT hout6 hout7 hgr2 G2 c3 c1 hMM
                go_wp2_with (refine wpList_append_ints rfl (.tmp 64) (.tmp 68) 40 3 rfl Try.underlying40 infoInt Wr.heap.size (.slice B4 more.length c4) more rfl hown6 B6 c6 out rfl hro6 (by omega) hlo6 ?_; intro v' W6 o6 g6 s6)
                go_roundw
                case rel =>
                  refine ⟨q + 1, more ++ out, by omega, by go_num, o6, ?_, HS.out, hnd7, ?_⟩
                  · rw [List.length_append, ← Nat.add_assoc]
                    exact hm6.kept g6 (by
                      cases B4 with
                      | none => simp [Value.ownBlock]
                      | some ad =>
                        intro e
                        exact hM1 ad rfl (by simpa [Value.ownBlock] using e.symm))
                  · refine Grown.own hgr7 g6 fun i hi => ?_
                    cases B4 with
                    | none => cases hi
                    | some ad => cases hi; exact hbase4 ad rfl
                case measure => simp [RowKit.intOf]; omega
            · obtain rfl : q = todo.length := by omega
              have HL2 := HLM.out
              rw [List.take_of_length_le (Nat.le_refl _)] at HL2
              have HD := Lib.hid (HL2.done (by omega) hMM hLn hL htd hmn hgr2)
              obtain ⟨A9, c9, hv9, hrd9, _⟩ := Owns.rd hown
              cases hv9
              clear HLM HL2 hML hrt
              go_wp2_with fail
              go_roundw
              case rel => exact ⟨m + 1, more, _, _, rfl, by go_num, by omega, by omega, hrd9, HD.out⟩
              case measure => simp [RowKit.intOf]; omega
end Go.Proofs.Ythlobpdcolgcoaa
/- Chapter 23: ring. -/
namespace Go.Proofs.Ythlobpdcolgcoaa
open Go.RowKit Go.Maps Go.Lib
set_option linter.unusedVariables false
set_option linter.unusedSimpArgs false

def hit (tb : List (List Int)) (home n k : Int) : Bool := decide (home < k) && decide (dst tb home k = some n)
def nextOn (tb : List (List Int)) (home at' n : Int) : Int := ((rowOf tb at').find? (hit tb home n)).getD at'
def ringFrom (tb : List (List Int)) (home : Int) : Nat → Int → List Int
  | 0, _ => []
  | n + 1, at' => nextOn tb home at' (n + 1) :: ringFrom tb home n (nextOn tb home at' (n + 1))
def ringL (tb : List (List Int)) (home : Int) : List Int :=
  match dst tb home home with
  | none => []
  | some n => home :: ringFrom tb home (n - 1).toNat home
theorem ringFrom_length (tb : List (List Int)) (home : Int) : ∀ (n : Nat) (x : Int), (ringFrom tb home n x).length = n := by
  intro n
  induction n with
  | zero => exact fun x => rfl
  | succ n ih => exact fun x => by simp [ringFrom, ih]
theorem find_at {l : List Int} {p : Int → Bool} {q : Nat} {k : Int} (hk : l[q]? = some k) (hp : p k = true) (hno : ∀ j, j < q → ∀ x, l[j]? = some x → p x = false) : l.find? p = some k := by
  rw [List.find?_eq_some_iff_getElem]
  obtain ⟨hq, rfl⟩ := List.getElem?_eq_some_iff.1 hk
  exact ⟨hp, q, hq, rfl, fun j hj => by rw [hno j hj _ (List.getElem?_eq_getElem (by omega))]; rfl⟩
theorem find_no {l : List Int} {p : Int → Bool} (hno : ∀ j, j < l.length → ∀ x, l[j]? = some x → p x = false) : l.find? p = none := by
  rw [List.find?_eq_none]
  intro x hx
  obtain ⟨i, hi⟩ := List.getElem?_of_mem hx
  rw [hno i (List.getElem?_eq_some_iff.1 hi).1 x hi]
  simp
theorem hit_eq {tb : List (List Int)} {home n k : Int} (hn : 1 ≤ n) (h : home < k) : (((dst tb home k).getD 0) == n) = hit tb home n k := by
  unfold hit
  rw [decide_eq_true h, Bool.true_and]
  cases hd : dst tb home k with
  | none =>
    simp
    omega
  | some d =>
    rw [Bool.eq_iff_iff]
    simp

/-- A row of ints that reads so, and is owned from base on. -/
def RdO (base : Nat) (W : World) (B : Option Addr) (c : Nat) (xs : List Int) : Prop := RdV W B (ints xs) ∧ W.ownsRow base 3 1 (.slice B xs.length c) xs.length (ints xs)
theorem RdO.ext {base : Nat} {W W' : World} {B : Option Addr} {c : Nat} {xs : List Int} (h : RdO base W B c xs) (hx : Ext W W') : RdO base W' B c xs := ⟨h.1.ext hx, Owns.ext h.2 hx⟩
theorem RdO.nil (base : Nat) (W : World) : RdO base W none 0 [] := ⟨.inl rfl, World.ownsRow_nil _ _ _ _⟩
theorem Owns.lower {w : World} {base base' : Nat} {e : TypeId} {size : Nat} {v : Value} {n : Nat} {xs : List Value} (h : w.ownsRow base e size v n xs) (hb : base' ≤ base) : w.ownsRow base' e size v n xs := by
  obtain ⟨h1, h2⟩ := h
  refine ⟨h1, ?_⟩
  rcases h2 with h2 | ⟨g, cap, cur, rfl, hg, r⟩
  · exact .inl h2
  · exact .inr ⟨g, cap, cur, rfl, Nat.le_trans hb hg, r⟩
theorem RdO.lower {base base' : Nat} {W : World} {B : Option Addr} {c : Nat} {xs : List Int} (h : RdO base W B c xs) (hb : base' ≤ base) : RdO base' W B c xs := ⟨h.1, Owns.lower h.2 hb⟩

set_option maxHeartbeats 2000000 in
theorem ring_calls (rs : List Row) (A : Option Addr) (cap home : Nat) (w : World) (hr : RdR w A rs) (hlen : rs.length ≤ 64) (hrow : ∀ r ∈ rs, r.xs.length ≤ 64) (hent : ∀ r ∈ rs, ∀ x ∈ r.xs, 0 ≤ x ∧ x < rs.length) (hh : home < rs.length) :
    Calls Try.prog 26 #[.slice A rs.length cap, .int .i64 home] w fun e w' => ∃ B c, e = .returned (.slice B (ringL (rows rs) home).length c) ∧ RdO w.heap.size w' B c (ringL (rows rs) home) ∧ Ext w w' := by
  have HF := Lib.hid (far_calls rs A cap home w hr hlen hrow hent hh)
  obtain ⟨tb, htb⟩ : ∃ tb, rows rs = tb := ⟨_, rfl⟩
  have htl : tb.length = rs.length := by rw [← htb, rows_length]
  rw [htb] at HF ⊢
  go_enter Try.func26, Try.ntmps26
  go_wp2_with fail
  refine HF.out.mono ?_
  rintro e W1 ⟨mb, cnt, rfl, hM, hx1⟩
  clear HF
  have hlook := hM.lookOk (k := (home : Int)) ⟨by omega, by omega⟩
  cases hd : dst tb home home with
  | none =>
    rw [hd] at hlook
    have HR := Lib.hid (show ringL tb home = [] by unfold ringL; rw [hd])
    clear hd hM
    go_wp2_with fail
    go_ret
    exact ⟨none, 0, by rw [HR.out]; rfl, by rw [HR.out]; exact RdO.nil _ _, hx1⟩
  | some n =>
    rw [hd] at hlook
    have hb := dst_bound hd
    obtain ⟨m, rfl⟩ : ∃ m : Nat, n = (m : Int) + 1 := ⟨(n - 1).toNat, by omega⟩
    have HR := Lib.hid (show ringL tb home = (home : Int) :: ringFrom tb home m home by unfold ringL; rw [hd]; simp)
    have hm : m + 1 ≤ 64 := by omega
    clear hd hb
    go_upto_region 7 with (fail)
    have ho1 : (W1.alloc (.cells #[.int .i64 home] 3)).ownsRow W1.heap.size 3 1 (.slice (some ⟨W1.heap.size, 0, none⟩) 1 1) [(home : Int)].length (ints [(home : Int)]) :=
      ⟨rfl, .inr ⟨W1.heap.size, 1, #[.int .i64 home], rfl, Nat.le_refl _, heap_alloc_new _ _, by simp, by simp [maxLen], rfl, rfl⟩⟩
    go_loopw [6, 8, 9] (fun nv v xv W => ∃ (k : Nat) (pre : List Int) (x : Int), k ≤ m ∧ nv = .int .i64 ((k : Int) + 1) ∧ xv = .int .i64 x ∧ W.ownsRow W1.heap.size 3 1 v pre.length (ints pre) ∧ pre.length + k = m + 1 ∧
      pre ++ ringFrom tb home k x = (home : Int) :: ringFrom tb home m home ∧ 0 ≤ x ∧ x < rs.length ∧ Ext W1 W) (fun nv _ _ _ => (RowKit.intOf nv).toNat)
    case atStart => exact ⟨m, [(home : Int)], home, Nat.le_refl _, rfl, rfl, ho1, by simp; omega, rfl, by omega, by omega, (Ext.refl W1).alloc _⟩
    case round =>
      clear ho1 hlook
      obtain ⟨k, pre, x, hk, rfl, rfl, hown, hpl, hpre, hx0, hxn, hx⟩ := hrel
      obtain ⟨B, c, rfl, hrdo, hbase⟩ := Owns.rd hown
      cases k with
      | zero =>
        have HP := Lib.hid (show ringL tb home = pre by rw [HR.out, ← hpre]; simp [ringFrom])
        clear hpre
        go_wp2_with fail
        go_ret
        exact ⟨B, c, by rw [HP.out]; rfl, by rw [HP.out]; exact ⟨hrdo, Owns.lower hown hx1.size⟩, hx1.trans hx⟩
      | succ j =>
        obtain ⟨p, rfl⟩ : ∃ p : Nat, x = p := ⟨x.toNat, by omega⟩
        have hpn : p < rs.length := by omega
        obtain ⟨b, o, B2, c2, xs, hA, he, hcell, hrd⟩ := (hr.ext (hx1.trans hx)).at hpn
        subst hA
        have hxl := hrow _ (List.mem_of_getElem? he)
        have hxe := hent _ (List.mem_of_getElem? he)
        simp only at hxl hxe
        have hro : rowOf tb (p : Int) = xs := by
          unfold rowOf
          rw [if_neg (by omega), Int.toNat_natCast, ← htb]
          exact getD_row he
        have HPRE := Lib.hid hpre
        clear hpre
        have hj1 : ((j + 1 : Nat) : Int) + 1 = (j : Int) + 2 := by omega
        rw [hj1]
        have hM3 := hM.ext hx
        go_upto_region 10 with (fail)
        rename World => Wr
        go_loop [35, 9] (fun i v => ∃ q : Nat, q ≤ xs.length ∧ i = .int .i64 q ∧ v = .int .i64 p ∧ ∀ i, i < q → ∀ y, xs[i]? = some y → hit tb home (j + 1) y = false) (fun i _ => xs.length - (RowKit.intOf i).toNat)
        case atStart => exact ⟨0, by omega, rfl, rfl, fun i hi => absurd hi (by omega)⟩
        case round =>
          obtain ⟨q, hq, rfl, rfl, hno⟩ := hrel
          have HN := Lib.hid hno
          clear hno
          by_cases hqt : q < xs.length
          · have hqti : (q : Int) < xs.length := by omega
            obtain ⟨b5, o5, hB5, hcc⟩ := hrd.at (i := q) (by rw [ints_length]; exact hqt)
            subst hB5
            obtain ⟨y, hy⟩ : ∃ y, xs[q]? = some y := ⟨_, List.getElem?_eq_getElem hqt⟩
            have c3 := hcc q (.int .i64 y) (by rw [ints_get, hy]; rfl)
            obtain ⟨hy0, hyn⟩ := hxe y (List.mem_of_getElem? hy)
            by_cases hgt : (home : Int) < y
            · have hlook := hM3.look (k := y) ⟨by omega, by omega⟩
              obtain ⟨z, hz⟩ : ∃ z, (dst tb home y).getD 0 = z := ⟨_, rfl⟩
              rw [hz] at hlook
              obtain ⟨t, ht⟩ : ∃ t, (z == (j : Int) + 1) = t := ⟨_, rfl⟩
              have HH := Lib.hid (show hit tb home ((j : Int) + 1) y = t by rw [← hit_eq (by omega) hgt, hz, ht])
              have hj2 : (j : Int) + 2 - 1 = (j : Int) + 1 := by omega
              cases t
              · clear hcell hrdo hx hown
                go_wp2_with fail
                go_roundw
                case rel => exact ⟨q + 1, by omega, by go_num, rfl, fun i hi u hu => by
                  rcases (show i < q ∨ i = q by omega) with h | rfl
                  · exact HN.out i h u hu
                  · rw [hy] at hu; cases hu; exact HH.out⟩
                case measure => (first | (simp [RowKit.intOf]; done) | (simp [RowKit.intOf]; omega))
              · have HX := Lib.hid (show nextOn tb home p ((j : Int) + 1) = y by
                  unfold nextOn
                  rw [hro, find_at hy HH.out HN.out]
                  rfl)
                clear hcell
                go_wp2_with (refine wpList_append_int rfl (.tmp 52) (.tmp 54) 40 3 rfl Try.underlying40 infoInt W1.heap.size (.slice B pre.length c) pre rfl (hown.alloc _) Wr.heap.size 1 y rfl ((Blk.new Wr [.int .i64 y] 3).cell 0 rfl) (by omega) (by rw [World.size_alloc]; exact Nat.le_succ_of_le hx.size) ?_; intro v' W6 o6 g6 s6)
                go_roundw
                case rel =>
                  refine ⟨j, pre ++ [y], y, by omega, rfl, rfl, o6, by simp; omega, ?_, hy0, hyn, Grown.toExt (hx.alloc _) g6 (fun i hi => by
                    cases B with
                    | none => cases hi
                    | some ad => cases hi; exact hbase ad rfl)⟩
                  rw [← HPRE.out, ringFrom, HX.out, List.append_assoc]
                  rfl
                case measure => (first | (simp [RowKit.intOf]; done) | (simp [RowKit.intOf]; omega))
            · have HH := Lib.hid (show hit tb home ((j : Int) + 1) y = false by unfold hit; rw [decide_eq_false hgt]; rfl)
              clear hcell hrdo hx hown
              go_wp2_with fail
              go_roundw
              case rel => exact ⟨q + 1, by omega, by go_num, rfl, fun i hi u hu => by
                rcases (show i < q ∨ i = q by omega) with h | rfl
                · exact HN.out i h u hu
                · rw [hy] at hu; cases hu; exact HH.out⟩
              case measure => (first | (simp [RowKit.intOf]; done) | (simp [RowKit.intOf]; omega))
          · obtain rfl : q = xs.length := by omega
            have HX := Lib.hid (show nextOn tb home p ((j : Int) + 1) = p by
              unfold nextOn
              rw [hro, find_no HN.out]
              rfl)
            have hj2 : (j : Int) + 2 - 1 = (j : Int) + 1 := by omega
            clear hcell
            go_wp2_with (refine wpList_append_int rfl (.tmp 52) (.tmp 54) 40 3 rfl Try.underlying40 infoInt W1.heap.size (.slice B pre.length c) pre rfl (hown.alloc _) Wr.heap.size 1 p rfl ((Blk.new Wr [.int .i64 p] 3).cell 0 rfl) (by omega) (by rw [World.size_alloc]; exact Nat.le_succ_of_le hx.size) ?_; intro v' W6 o6 g6 s6)
            go_roundw
            case rel =>
              refine ⟨j, pre ++ [(p : Int)], p, by omega, rfl, rfl, o6, by simp; omega, ?_, hx0, hxn, Grown.toExt (hx.alloc _) g6 (fun i hi => by
                cases B with
                | none => cases hi
                | some ad => cases hi; exact hbase ad rfl)⟩
              rw [← HPRE.out, ringFrom, HX.out, List.append_assoc]
              rfl
            case measure => (first | (simp [RowKit.intOf]; done) | (simp [RowKit.intOf]; omega))
end Go.Proofs.Ythlobpdcolgcoaa
/- Chapter 23: few and Ring. -/
namespace Go.Proofs.Ythlobpdcolgcoaa
open Go.RowKit Go.Maps Go.Lib
set_option linter.unusedVariables false
set_option linter.unusedSimpArgs false

theorem run_slice_full {P : Program} {t e : TypeId} {k : Nat} (ht : P.underlying t = some (.slice e)) (hs : (P.info? e).map (·.size) = some k) (A : Option Addr) (len cap : Nat) (kh : IntKind) (h : Nat) (h2 : h ≤ cap) (w : World) :
    (Instr.sliceAt t (.slice A len cap) none (some (.int kh h)) none).run P w = .ok (.slice A h cap) w := by
  have he : P.elem t = e := by simp [Program.elem, ht]
  have ht' : P.underlying t = some (.slice (P.elem t)) := by rw [he]; exact ht
  have hz : (sizeOf (P.elem t)).run P w = .ok k w := by
    rw [he]
    cases hq : P.info? e with
    | none => simp [hq] at hs
    | some i => simp [hq] at hs; simp [sizeOf, typeInfo, hq, hs]
  rw [run_sliceAt_slice w t _ _ _ _ ht', run_slice_h w t A len cap ht' kh h (by omega) (by omega), hz]
  have : A.map (fun x => x.add 0) = A := by cases A <;> simp [Addr.add]
  simp [Result.andThen, sliced, this]
theorem wpList_slice_full {P : Program} {w : World} {ops : Array Oper} {rest : List Oper} {o : Oper} {a : Act} {Q : Exit → Act → World → Prop} (hw : Region.wanted o (yielded ops a.tmps) = true) (t : TypeId) (x hi : Operand) (ho : o.op = .slice t x none (some hi) none)
    {e : TypeId} {k : Nat} (ht : P.underlying t = some (.slice e)) (hs : (P.info? e).map (·.size) = some k) (A : Option Addr) (len cap : Nat) (hx : a.eval x = .slice A len cap) (kh : IntKind) (h : Nat) (hh : a.eval hi = .int kh h) (h2 : h ≤ cap)
    (hk : wpList P ops Q rest (a.put o.dst (.slice A h cap)) w) : wpList P ops Q (o :: rest) a w := by
  unfold wpList
  rw [if_pos hw]
  refine .inl ?_
  unfold Oper.wp
  simp only [execOp, ho, hx, hh, Option.map_some, Option.map_none, Sem.run_bind, run_slice_full ht hs A len cap kh h h2 w, Result.andThen]
  exact hk
theorem fewl_calls (n cap : Nat) (A : Option Addr) (w : World) (hn : n ≤ 64) (hc : n ≤ cap) :
    Calls Try.prog 25 #[.slice A n cap] w fun e w' => e = .returned (.slice A n cap) ∧ w' = w := by
  have hmin : min (n : Int) 64 = n := by omega
  go_enter Try.func25, Try.ntmps25
  go_wp2_with (refine wpList_slice_full (k := 3) rfl 31 (.tmp 3) (.tmp 6) rfl Try.underlying31 (by kernel_rfl) A n cap rfl .i64 n (by first | rfl | simpa using hmin) hc ?_)
  go_ret
  exact ⟨rfl, rfl⟩

theorem read_load_blk {P : Program} {W : World} {a : Act} {o : Oper} {T T' : TypeId} {x : Operand} (ho : o.op = .load T x) {g : Nat} {cs : List Value} (hx : a.eval x = .pointer (some ⟨g, 0, none⟩)) (hT : isRowT P T cs.length) (hb : Blk W g cs T') :
    (execOp a.eval o).run P W = .ok (.value (.agg cs.toArray)) W := by
  simp only [execOp, ho, hx, Sem.run_bind, run_loadAt_blk hT hb, Result.andThen]
  rfl
def stepBest (best r : List Int) : List Int := if r ≠ [] ∧ (best = [] ∨ r.length < best.length) then r else best
def bestTo (tb : List (List Int)) : Nat → List Int
  | 0 => []
  | h + 1 => stepBest (bestTo tb h) (ringL tb h)
def RingL (tb : List (List Int)) : List Int := bestTo tb tb.length
theorem nextL_length (af be : List (List Int)) (l : List It) : (nextL af be l).length = l.length := by simp [nextL]
theorem rows_of {rs : List Row} {af be : List (List Int)} {l : List It} (h : rows rs = nextL af be l) (hl : rs.length = l.length) (hlen : l.length ≤ 64) :
    (∀ r ∈ rs, r.xs.length ≤ 64) ∧ ∀ r ∈ rs, ∀ x ∈ r.xs, 0 ≤ x ∧ x < rs.length := by
  have key : ∀ r ∈ rs, ∃ a, r.xs = rowTo af be l a l.length := by
    intro r hr
    have : r.xs ∈ rows rs := List.mem_map.2 ⟨r, hr, rfl⟩
    rw [h] at this
    obtain ⟨a, _, ha⟩ := List.mem_map.1 this
    exact ⟨a, ha.symm⟩
  refine ⟨fun r hr => ?_, fun r hr x hx => ?_⟩
  · obtain ⟨a, ha⟩ := key r hr
    rw [ha]
    exact Nat.le_trans (rowTo_length _ _ _ _ _) hlen
  · obtain ⟨a, ha⟩ := key r hr
    rw [ha] at hx
    obtain ⟨j, hj, rfl⟩ := List.mem_map.1 hx
    have := List.mem_range.1 (List.mem_filter.1 hj).1
    rw [hl]
    exact ⟨Int.natCast_nonneg _, by simpa using this⟩

theorem nil_eql (A : Option Addr) (n c : Nat) (W : World) : (binOp .eql 40 (.slice A n c) (.slice none 0 0)).run Try.prog W = .ok (.bool A.isNone) W := by
  cases A with
  | none => exact Lib.run_eql_slice_nil_nil W n c Try.underlying40
  | some a => exact Lib.run_eql_slice_some_nil W a n c Try.underlying40
set_option maxRecDepth 100000 in
set_option maxHeartbeats 2000000 in
theorem Ring_calls (cs : List Value) (af be : List (List Int)) (l : List It) (A : Option Addr) (cap : Nat) (w : World) (h : GR w cs af be) (hr : RdI w A l) (hlen : l.length ≤ 64) (hcap : l.length ≤ cap) :
    Calls Try.prog 14 #[.agg cs.toArray, .slice A l.length cap] w fun e w' => ∃ B c, e = .returned (.slice B (RingL (nextL af be l)).length c) ∧ RdO w.heap.size w' B c (RingL (nextL af be l)) ∧ Ext w w' := by
  have hl : cs.length = 10 := by obtain ⟨_, _, _, _, _, _, h0, _⟩ := h; exact h0
  have HT := Lib.hid (rowG cs.length hl)
  have HF := Lib.hid fun W => fewl_calls l.length cap A W hlen hcap
  have HN := Lib.hid fun W hW => next_calls cs af be l A cap W (h.ext hW) (hr.ext (W' := W) hW) hlen
  have hrl0 := nextL_length af be l
  have hro := fun rs hrows hrl => rows_of (rs := rs) (af := af) (be := be) (l := l) hrows hrl hlen
  obtain ⟨tb, htb⟩ : ∃ tb, nextL af be l = tb := ⟨_, rfl⟩
  rw [htb] at HN hrl0 hro ⊢
  go_enter Try.func14, Try.ntmps14
  go_upto_region 1 with (fail)
  refine wp_gen (fun W => Blk W w.heap.size cs 24 ∧ Ext w W) ⟨Blk.new w cs _, (Ext.refl w).alloc _⟩ ?_
  obtain ⟨G, hG⟩ : ∃ G, w.heap.size = G := ⟨_, rfl⟩
  rw [hG]
  clear hG h hr
  rintro W0 ⟨hb, hx0⟩
  refine wp_region_mix (fun W => Blk W G cs 24) 3 [(0, true), (1, true), (2, false), (3, false), (4, false)] (by kernel_rfl) (by kernel_rfl) (hb.drew) ?_
  (apply mix_read; (case ho => rfl); (case hw => rfl); (case h1 => intro W' hx; exact read_load_blk rfl rfl (HT.out) hx); (case hp => go_simp; first | done | with_reducible rfl))
  (apply mix_read; (case ho => rfl); (case hw => rfl); (case h1 => intro W' hx; (try dsimp only at hx); go_simp; (try go_bits); with_reducible rfl); (case hp => go_simp; first | done | with_reducible rfl))
  refine mix_loud rfl ?_; intro KY hKY
  go_wp2_with fail
  refine (HF.out _).mono ?_
  rintro e W1 ⟨rfl, rfl⟩
  go_wp2_with fail
  refine ⟨hb.drew, ?_⟩
  refine mix_end 3 (by kernel_rfl) (by kernel_rfl) ?_; simp only [List.take_succ_cons, List.take_zero, List.drop_succ_cons, List.drop_zero]; unfold Q0
  go_wp2_with fail
  refine (HN.out _ hx0.drew).mono ?_
  rintro e W1 ⟨B, c, rs, rfl, hR, hrows, hrl, hx1⟩
  go_wp2_with fail
  obtain ⟨hrow, hent⟩ := hro rs hrows hrl
  have hxw : Ext w W1 := hx0.drew.trans hx1
  have HG := Lib.hid fun (home : Nat) W hW (hh : home < l.length) => by
    have := ring_calls rs B c home W (hR.ext (W' := W) hW) (by omega) hrow hent (by omega)
    rw [hrl, hrows] at this
    exact this
  clear HN HF HT hb
  go_upto_region 4 with (fail)
  go_loopw [15, 6] (fun i v W => ∃ (k : Nat) (B' : Option Addr) (c' : Nat), k ≤ l.length ∧ i = .int .i64 k ∧ v = .slice B' (bestTo tb k).length c' ∧ RdO w.heap.size W B' c' (bestTo tb k) ∧ (bestTo tb k = [] → B' = none ∧ c' = 0) ∧ Ext W1 W) (fun i _ _ => l.length - (RowKit.intOf i).toNat)
  case atStart => exact ⟨0, none, 0, by omega, rfl, rfl, RdO.nil _ _, fun _ => ⟨rfl, rfl⟩, Ext.refl _⟩
  case round =>
    obtain ⟨k, B', c', hk, rfl, rfl, hrd, hnil, hx⟩ := hrel
    by_cases hlt : k < l.length
    · have hlti : (k : Int) < l.length := by omega
      have G1 := Lib.hid (HG.out k wr hx hlt)
      obtain ⟨best, hbest⟩ : ∃ b, bestTo tb k = b := ⟨_, rfl⟩
      have HB := Lib.hid (show bestTo tb (k + 1) = stepBest best (ringL tb k) by rw [bestTo, hbest])
      rw [hbest] at hrd hnil ⊢
      obtain ⟨r, hrr⟩ : ∃ r, ringL tb k = r := ⟨_, rfl⟩
      rw [hrr] at G1 HB
      clear hbest hrr
      go_wp2_with fail
      refine G1.out.mono ?_
      rintro e W2 ⟨B2, c2, rfl, hrd2, hx2⟩
      have hxx := hx.trans hx2
      have hrdd := hrd.ext hx2
      have hrd2 := hrd2.lower (Nat.le_trans hxw.size hx.size)
      clear hrd hx hx2 G1
      by_cases hr0 : r = []
      · subst hr0
        have HS := Lib.hid (show stepBest best [] = best by simp [stepBest])
        go_wp2_with fail
        go_roundw
        case rel => exact ⟨k + 1, B', c', by omega, by go_num, by rw [HB.out, HS.out], by rw [HB.out, HS.out]; exact hrdd, by rw [HB.out, HS.out]; exact hnil, hxx⟩
        case measure => simp [RowKit.intOf]; omega
      · have hrl0 : 0 < r.length := List.length_pos_iff.2 hr0
        have hrli : (0 : Int) < r.length := by omega
        by_cases hb0 : best = []
        · obtain ⟨rfl, rfl⟩ := hnil hb0
          subst hb0
          have HS := Lib.hid (show stepBest [] r = r by simp [stepBest, hr0])
          clear hnil
          have hcmp := nil_eql none 0 0
          rw [Option.isNone_none] at hcmp
          go_wp2_with fail
          go_roundw
          case rel => exact ⟨k + 1, B2, c2, by omega, by go_num, by rw [HB.out, HS.out], by rw [HB.out, HS.out]; exact hrd2, by rw [HB.out, HS.out]; exact fun h => absurd h hr0, hxx⟩
          case measure => simp [RowKit.intOf]; omega
        · obtain ⟨b9, o9, rfl, _⟩ := hrdd.1.at (i := 0) (by rw [ints_length]; exact List.length_pos_iff.2 hb0)
          by_cases hless : r.length < best.length
          · have hlessi : (r.length : Int) < best.length := by omega
            have HS := Lib.hid (show stepBest best r = r by simp [stepBest, hr0, hless])
            clear hnil
            have hcmp := nil_eql (some ⟨b9, o9, none⟩) best.length c'
            rw [Option.isNone_some] at hcmp
            go_wp2_with fail
            go_roundw
            case rel => exact ⟨k + 1, B2, c2, by omega, by go_num, by rw [HB.out, HS.out], by rw [HB.out, HS.out]; exact hrd2, by rw [HB.out, HS.out]; exact fun h => absurd h hr0, hxx⟩
            case measure => simp [RowKit.intOf]; omega
          · have hlessi : ¬ (r.length : Int) < best.length := by omega
            have HS := Lib.hid (show stepBest best r = best by simp [stepBest, hb0, hless])
            clear hnil
            have hcmp := nil_eql (some ⟨b9, o9, none⟩) best.length c'
            rw [Option.isNone_some] at hcmp
            go_wp2_with fail
            go_roundw
            case rel => exact ⟨k + 1, _, c', by omega, by go_num, by rw [HB.out, HS.out], by rw [HB.out, HS.out]; exact hrdd, by rw [HB.out, HS.out]; exact fun h => absurd h hb0, hxx⟩
            case measure => simp [RowKit.intOf]; omega
    · obtain rfl : k = l.length := by omega
      have HR := Lib.hid (show RingL tb = bestTo tb l.length by unfold RingL; rw [hrl0])
      go_wp2_with fail
      go_ret
      exact ⟨B', c', by rw [HR.out]; rfl, by rw [HR.out]; exact hrd, hxw.trans hx⟩
end Go.Proofs.Ythlobpdcolgcoaa
/- Chapter 23: Order. -/
namespace Go.Proofs.Ythlobpdcolgcoaa
open Go.RowKit Go.Maps Go.Lib
set_option linter.unusedVariables false
set_option linter.unusedSimpArgs false

def bump (ws : List Int) (k : Nat) (d : Int) : List Int := ws.set k (ws.getD k 0 + d)
def bumpAll (ws row : List Int) (d : Int) : List Int := row.foldl (fun ws k => bump ws k.toNat d) ws
def degTo (tb : List (List Int)) : Nat → List Int
  | 0 => List.replicate tb.length 0
  | i + 1 => bumpAll (degTo tb i) (tb.getD i []) 1
def ordS (tb : List (List Int)) : Nat → List Int → Option (List Int)
  | 0, _ => some []
  | j + 1, ws => if idx ws 0 < 0 then none else (ordS tb j (bumpAll (ws.set (idx ws 0).toNat (-1)) (rowOf tb (idx ws 0)) (-1))).map (idx ws 0 :: ·)
def OrderL (tb : List (List Int)) : List Int := (ordS tb tb.length (degTo tb tb.length)).getD []
/-- n numbers, none far from nought. -/
def Bd (n c : Nat) (ws : List Int) : Prop := ws.length = n ∧ ∀ (i : Nat) v, ws[i]? = some v → -(c : Int) ≤ v ∧ v ≤ c
theorem Bd.set {n c : Nat} {ws : List Int} (h : Bd n c ws) (k : Nat) (v : Int) (c' : Nat) (hc : c ≤ c') (hv : -(c' : Int) ≤ v ∧ v ≤ c') : Bd n c' (ws.set k v) := by
  refine ⟨by simpa using h.1, fun i u hu => ?_⟩
  by_cases hik : k = i
  · subst hik
    rcases Nat.lt_or_ge k ws.length with h1 | h1
    · rw [List.getElem?_set_self h1] at hu
      cases hu
      exact hv
    · rw [List.getElem?_eq_none (by simpa using h1)] at hu
      cases hu
  · rw [List.getElem?_set_ne hik] at hu
    have := h.2 i u hu
    omega
theorem Bd.mono {n c c' : Nat} {ws : List Int} (h : Bd n c ws) (hc : c ≤ c') : Bd n c' ws := ⟨h.1, fun i v hv => by have := h.2 i v hv; omega⟩
theorem Bd.at {n c : Nat} {ws : List Int} (h : Bd n c ws) {k : Nat} (hk : k < n) : ∃ v, ws[k]? = some v ∧ ws.getD k 0 = v ∧ -(c : Int) ≤ v ∧ v ≤ c := by
  have hk' : k < ws.length := by rw [h.1]; exact hk
  exact ⟨ws[k], List.getElem?_eq_getElem hk', by rw [List.getD_eq_getElem?_getD, List.getElem?_eq_getElem hk']; rfl, h.2 k _ (List.getElem?_eq_getElem hk')⟩
theorem bumpAll_step {ws row : List Int} {k : Nat} {p : Nat} (d : Int) (h : row[k]? = some (p : Int)) : bumpAll ws (row.take (k + 1)) d = bump (bumpAll ws (row.take k) d) p d := by
  unfold bumpAll
  rw [List.take_add_one, h, List.foldl_append]
  rfl
theorem ints_set (ws : List Int) (k : Nat) (v : Int) : (ints ws).set k (.int .i64 v) = ints (ws.set k v) := by simp [ints]
theorem make_ints (n : Nat) (hn : n ≤ 1000000) (W : World) : (Instr.makeSlice 40 (.int .i64 n) (.int .i64 n)).run Try.prog W = .ok (.slice (some ⟨W.heap.size, 0, none⟩) n n) (W.alloc (.cells (List.replicate n (Value.int .i64 0)).toArray 3)) := by
  obtain ⟨i, hi, hz, hsz, hby⟩ := info_parts infoInt
  rw [run_makeSlice W 40 3 i _ Try.underlying40 hi hz .i64 .i64 n n (by omega) (by omega) (by rw [hsz]; simp; omega) (by rw [hby]; omega) (by omega)]
  rw [hsz, Nat.mul_one, Int.toNat_natCast]
  congr 3
  exact madeCells_one _ n rfl
theorem Blk.rdv {W : World} {g : Nat} {vs : List Value} {T : TypeId} (h : Blk W g vs T) : RdV W (some ⟨g, 0, none⟩) vs := .inr ⟨g, 0, rfl, fun j v hv => by rw [Nat.zero_add]; exact h.cell j hv⟩
theorem idx_range {ws : List Int} {n : Int} (h : ¬ idx ws n < 0) : (idx ws n).toNat < ws.length := by
  unfold idx at *
  split
  · rename_i hm
    rw [Int.toNat_natCast]
    exact List.idxOf_lt_length_of_mem hm
  · rename_i hm
    rw [if_neg hm] at h
    omega

set_option maxRecDepth 100000 in
set_option maxHeartbeats 2000000 in
theorem Order_calls (cs : List Value) (af be : List (List Int)) (l : List It) (A : Option Addr) (cap : Nat) (w : World) (h : GR w cs af be) (hr : RdI w A l) (hlen : l.length ≤ 64) (hcap : l.length ≤ cap) :
    Calls Try.prog 15 #[.agg cs.toArray, .slice A l.length cap] w fun e w' => ∃ B c, e = .returned (.slice B (OrderL (nextL af be l)).length c) ∧ RdO w.heap.size w' B c (OrderL (nextL af be l)) ∧ Ext w w' := by
  have hl : cs.length = 10 := by obtain ⟨_, _, _, _, _, _, h0, _⟩ := h; exact h0
  have HT := Lib.hid (rowG cs.length hl)
  have HF := Lib.hid fun W => fewl_calls l.length cap A W hlen hcap
  have HN := Lib.hid fun W hW => next_calls cs af be l A cap W (h.ext hW) (hr.ext (W' := W) hW) hlen
  have hrl0 := nextL_length af be l
  have hro := fun rs hrows hrl => rows_of (rs := rs) (af := af) (be := be) (l := l) hrows hrl hlen
  obtain ⟨tb, htb⟩ : ∃ tb, nextL af be l = tb := ⟨_, rfl⟩
  rw [htb] at HN hrl0 hro ⊢
  obtain ⟨n, hn⟩ : ∃ n, l.length = n := ⟨_, rfl⟩
  rw [hn] at HF HN hro hlen hcap hrl0 ⊢
  go_enter Try.func15, Try.ntmps15
  go_upto_region 1 with (fail)
  refine wp_gen (fun W => Blk W w.heap.size cs 24 ∧ Ext w W) ⟨Blk.new w cs _, (Ext.refl w).alloc _⟩ ?_
  obtain ⟨G, hG⟩ : ∃ G, w.heap.size = G := ⟨_, rfl⟩
  rw [hG]
  clear hG h hr
  rintro W0 ⟨hb, hx0⟩
  refine wp_region_mix (fun W => Blk W G cs 24) 3 [(0, true), (1, true), (2, false), (3, false), (4, false)] (by kernel_rfl) (by kernel_rfl) (hb.drew) ?_
  (apply mix_read; (case ho => rfl); (case hw => rfl); (case h1 => intro W' hx; exact read_load_blk rfl rfl (HT.out) hx); (case hp => go_simp; first | done | with_reducible rfl))
  (apply mix_read; (case ho => rfl); (case hw => rfl); (case h1 => intro W' hx; (try dsimp only at hx); go_simp; (try go_bits); with_reducible rfl); (case hp => go_simp; first | done | with_reducible rfl))
  refine mix_loud rfl ?_; intro KY hKY
  go_wp2_with fail
  refine (HF.out _).mono ?_
  rintro e W1 ⟨rfl, rfl⟩
  go_wp2_with fail
  refine ⟨hb.drew, ?_⟩
  refine mix_end 3 (by kernel_rfl) (by kernel_rfl) ?_; simp only [List.take_succ_cons, List.take_zero, List.drop_succ_cons, List.drop_zero]; unfold Q0
  go_wp2_with fail
  refine (HN.out _ hx0.drew).mono ?_
  rintro e W1 ⟨B, c, rs, rfl, hR, hrows, hrl, hx1⟩
  go_wp2_with fail
  obtain ⟨hrow, hent⟩ := hro rs hrows hrl
  have hxw : Ext w W1 := hx0.drew.trans hx1
  clear HN HF HT hb hx1 hx0 hro hn
  have hmk := make_ints n (by omega) W1
  have HR0 := Lib.hid hrow
  have HE0 := Lib.hid hent
  clear hrow hent
  go_upto_region 4 with (fail)
  rw [hmk]
  go_upto_region 4 with (fail)
  refine wp_gen (fun W => Blk W W1.heap.size (ints (degTo tb 0)) 3 ∧ Ext W1 W) ⟨by
    have := Blk.new W1 (List.replicate n (Value.int .i64 0)) 3
    rw [show ints (degTo tb 0) = List.replicate n (Value.int .i64 0) by simp [ints, degTo, hrl0]]
    first | exact this | simpa using this, (Ext.refl _).alloc _⟩ ?_
  clear hmk
  obtain ⟨g, hg⟩ : ∃ g, W1.heap.size = g := ⟨_, rfl⟩
  rw [hg]
  rintro W2 ⟨hb0, hx2⟩
  have hd0 : Bd n 0 (degTo tb 0) := ⟨by simp [degTo, hrl0], fun i v hv => by
    simp only [degTo, List.getElem?_replicate] at hv
    split at hv <;> cases hv
    omega⟩
  go_loopw [24] (fun i W => ∃ k : Nat, k ≤ n ∧ i = .int .i64 k ∧ Blk W g (ints (degTo tb k)) 3 ∧ Bd n (k * 64) (degTo tb k) ∧ Ext W1 W) (fun i _ => n - (RowKit.intOf i).toNat)
  case atStart => exact ⟨0, by omega, rfl, hb0, by simpa using hd0, hx2⟩
  case round =>
    clear hb0 hd0 hx2
    obtain ⟨k, hk, rfl, hb, hd, hx⟩ := hrel
    by_cases hlt : k < n
    · have hlti : (k : Int) < n := by omega
      obtain ⟨b, o, B2, c2, xs, hA, he, hcell, hrd⟩ := (hR.ext hx).at (i := k) (by omega)
      subst hA
      have hxl := HR0.out _ (List.mem_of_getElem? he)
      have hxe := HE0.out _ (List.mem_of_getElem? he)
      have hrd0 := hR.2 _ (List.mem_of_getElem? he)
      simp only at hxl hxe hrd0
      have hgd : tb.getD k [] = xs := by rw [← hrows]; exact getD_row he
      have HD := Lib.hid (show degTo tb (k + 1) = bumpAll (degTo tb k) xs 1 by rw [degTo, hgd])
      obtain ⟨ws, hws⟩ : ∃ ws, degTo tb k = ws := ⟨_, rfl⟩
      rw [hws] at hb hd HD
      clear hws hgd
      go_upto_region 7 with (fail)
      go_loopw [30] (fun i' W => ∃ j : Nat, j ≤ xs.length ∧ i' = .int .i64 j ∧ Blk W g (ints (bumpAll ws (xs.take j) 1)) 3 ∧ Bd n (k * 64 + j) (bumpAll ws (xs.take j) 1) ∧ Ext W1 W) (fun i' _ => xs.length - (RowKit.intOf i').toNat)
      case atStart => exact ⟨0, by omega, rfl, hb, hd, hx⟩
      case round =>
        clear hb hd hx hrd hcell
        obtain ⟨j, hj, rfl, hb, hd, hx⟩ := hrel
        by_cases hjt : j < xs.length
        · have hjti : (j : Int) < xs.length := by omega
          obtain ⟨b5, o5, hB5, hcc⟩ := (hrd0.ext hx).at (i := j) (by rw [ints_length]; exact hjt)
          subst hB5
          obtain ⟨y, hy⟩ : ∃ y, xs[j]? = some y := ⟨_, List.getElem?_eq_getElem hjt⟩
          have c3 := hcc j (.int .i64 y) (by rw [ints_get, hy]; rfl)
          obtain ⟨hy0, hyn⟩ := hxe y (List.mem_of_getElem? hy)
          obtain ⟨p, rfl⟩ : ∃ p : Nat, y = p := ⟨y.toNat, by omega⟩
          have HS := Lib.hid (bumpAll_step (ws := ws) 1 hy)
          obtain ⟨us, hus⟩ : ∃ us, bumpAll ws (xs.take j) 1 = us := ⟨_, rfl⟩
          rw [hus] at hb hd HS
          clear hus
          obtain ⟨v, hv1, hv2, hv3, hv4⟩ := hd.at (k := p) (by omega)
          have c4 := hb.cell p (show (ints us)[p]? = some (.int .i64 v) by rw [ints_get, hv1]; rfl)
          have z4 := hb.frozen p
          have hpn : (p : Int) < n := by omega
          have HB := Lib.hid (show Blk (wr.setCell ⟨g, p, none⟩ (.int .i64 (v + 1))) g (ints (bumpAll ws (xs.take (j + 1)) 1)) 3 by
            have := hb.set p (.int .i64 (v + 1))
            rw [ints_set] at this
            rw [HS.out, bump, hv2]
            exact this)
          have HBd := Lib.hid (show Bd n (k * 64 + (j + 1)) (bumpAll ws (xs.take (j + 1)) 1) by
            rw [HS.out, bump, hv2]
            exact hd.set p (v + 1) _ (by omega) (by omega))
          clear hb hd
          go_wp2_with fail
          go_roundw
          case rel => exact ⟨j + 1, by omega, by go_num, HB.out, HBd.out, hx.setCell (by simp; omega) _⟩
          case measure => simp [RowKit.intOf]; omega
        · obtain rfl : j = xs.length := by omega
          rw [List.take_of_length_le (Nat.le_refl _), ← HD.out] at hb hd
          clear HD
          go_wp2_with fail
          go_roundw
          case rel => exact ⟨k + 1, by omega, by go_num, hb, hd.mono (by omega), hx⟩
          case measure => simp [RowKit.intOf]; omega
    · obtain rfl : n = k := by omega
      go_upto_region 14 with (fail)
      rename World => W3
      have hg3 : g < W3.heap.size := hb.lt
      have hw3 : w.heap.size ≤ W3.heap.size := Nat.le_trans hxw.size hx.size
      obtain ⟨R0, hR0⟩ : ∃ R, ordS tb n (degTo tb n) = R := ⟨_, rfl⟩
      have HO := Lib.hid (show OrderL tb = R0.getD [] by unfold OrderL; rw [hrl0, hR0])
      obtain ⟨w0, hw0⟩ : ∃ w0, degTo tb n = w0 := ⟨_, rfl⟩
      rw [hw0] at hb hd hR0
      clear hw0
      go_loopw [44, 11] (fun i v W => ∃ (j : Nat) (out ws : List Int), j ≤ n ∧ i = .int .i64 j ∧ out.length = j ∧ W.ownsRow W3.heap.size 3 1 v out.length (ints out) ∧ Blk W g (ints ws) 3 ∧ Bd n (5000 + j * 65) ws ∧ (ordS tb (n - j) ws).map (out ++ ·) = R0 ∧ Ext W1 W ∧ W3.heap.size ≤ W.heap.size) (fun i _ _ => n - (RowKit.intOf i).toNat)
      case atStart => exact ⟨0, [], w0, by omega, rfl, rfl, World.ownsRow_nil _ _ _ _, hb, hd.mono (by omega), by rw [← hR0, Nat.sub_zero]; simp, hx, Nat.le_refl _⟩
      case round =>
        clear hb hd hx
        obtain ⟨j, out, ws, hj, rfl, hol, hown, hb, hd, hord, hx, hsz⟩ := hrel
        obtain ⟨B4, c4, rfl, hrdo, hbase⟩ := Owns.rd hown
        have HOL := Lib.hid hol
        clear hol
        by_cases hjt : j < n
        · have hjti : (j : Int) < n := by omega
          obtain ⟨m, hm⟩ : ∃ m, n - j = m + 1 := ⟨n - j - 1, by omega⟩
          rw [hm, ordS] at hord
          have HI := Lib.hid (index_calls ws 0 (some ⟨g, 0, none⟩) n wr hb.rdv (by rw [hd.1]; omega))
          have hwl := hd.1
          rw [hwl] at HI
          obtain ⟨a, ha⟩ : ∃ a, idx ws 0 = a := ⟨_, rfl⟩
          by_cases hneg : a < 0
          · rw [ha, if_pos hneg] at hord
            have HR := Lib.hid (show OrderL tb = [] by rw [HO.out, ← hord]; rfl)
            rw [ha] at HI
            go_wp2_with fail
            refine HI.out.mono ?_
            rintro e W5 ⟨rfl, rfl⟩
            go_wp2_with fail
            go_ret
            exact ⟨none, 0, by rw [HR.out]; rfl, by rw [HR.out]; exact RdO.nil _ _, hxw.trans hx⟩
          · rw [ha, if_neg hneg] at hord
            have har := idx_range (ha ▸ hneg)
            rw [ha, hwl] at har
            rw [ha] at HI
            obtain ⟨p, rfl⟩ : ∃ p : Nat, a = p := ⟨a.toNat, by omega⟩
            rw [Int.toNat_natCast] at har hord
            have hpn : (p : Int) < n := by omega
            have HORD := Lib.hid hord
            clear hord ha hneg
            go_wp2_with fail
            refine HI.out.mono ?_
            rintro e W5 ⟨rfl, h5⟩
            obtain rfl : wr = W5 := h5.symm
            obtain ⟨v, hv1, hv2, hv3, hv4⟩ := hd.at (k := p) (by omega)
            have c4' := hb.cell p (show (ints ws)[p]? = some (.int .i64 v) by rw [ints_get, hv1]; rfl)
            have z4 := hb.frozen p
            obtain ⟨b, o, B2, c2, xs, hA, he, hcell1, hrd⟩ := hR.at (i := p) (by omega)
            subst hA
            have hcell := hx.cell hcell1
            have h9 := World.block_lt_of_cell? W1 _ hcell1
            simp only at h9
            have hxl := HR0.out _ (List.mem_of_getElem? he)
            have hxe := HE0.out _ (List.mem_of_getElem? he)
            have hrd0 := hR.2 _ (List.mem_of_getElem? he)
            simp only at hxl hxe hrd0
            have hro : rowOf tb (p : Int) = xs := by
              unfold rowOf
              rw [if_neg (by omega), Int.toNat_natCast, ← hrows]
              exact getD_row he
            have hb1 : Blk (wr.setCell ⟨g, p, none⟩ (.int .i64 (-1))) g (ints (ws.set p (-1))) 3 := by
              have := hb.set p (.int .i64 (-1))
              rwa [ints_set] at this
            have hd1 : Bd n (5000 + j * 65) (ws.set p (-1)) := hd.set p (-1) _ (Nat.le_refl _) (by omega)
            have hx1 : Ext W1 (wr.setCell ⟨g, p, none⟩ (.int .i64 (-1))) := hx.setCell (by simp; omega) _
            have hown1 : (wr.setCell ⟨g, p, none⟩ (.int .i64 (-1))).ownsRow W3.heap.size 3 1 (.slice B4 out.length c4) out.length (ints out) := Owns.set hown p _ hg3
            go_upto_region 19 with (fail)
            refine wp_gen (fun W => Blk W g (ints (ws.set p (-1))) 3 ∧ Ext W1 W ∧ W.ownsRow W3.heap.size 3 1 (.slice B4 out.length c4) out.length (ints out) ∧ W3.heap.size ≤ W.heap.size ∧ W.cell? ⟨b, o + p, none⟩ = some (.slice B2 xs.length c2)) ⟨hb1, hx1, hown1, by rw [World.size_setCell]; exact hsz, by
              rw [cell_set_other (by simp; omega)]
              exact hcell⟩ ?_
            clear hb hd hx hown hb1 hx1 hown1 hsz hcell hcell1 h9 hrd z4 c4' hv1 hv2 hv3 hv4 HI hrdo
            rintro W6 ⟨hb, hx, hown, hsz, hcell⟩
            obtain ⟨ws1, hws1⟩ : ∃ ws1, ws.set p (-1) = ws1 := ⟨_, rfl⟩
            rw [hws1] at hb hd1 HORD
            clear hws1
            rename Bd n (5000 + j * 65) ws1 => hd
            go_upto_region 20 with (fail)
            go_loopw [58] (fun i' W => ∃ q : Nat, q ≤ xs.length ∧ i' = .int .i64 q ∧ Blk W g (ints (bumpAll ws1 (xs.take q) (-1))) 3 ∧ Bd n (5000 + j * 65 + q) (bumpAll ws1 (xs.take q) (-1)) ∧ Ext W1 W ∧ W.ownsRow W3.heap.size 3 1 (.slice B4 out.length c4) out.length (ints out) ∧ W3.heap.size ≤ W.heap.size) (fun i' _ => xs.length - (RowKit.intOf i').toNat)
            case atStart => exact ⟨0, by omega, rfl, hb, hd, hx, hown, hsz⟩
            case round =>
              clear hb hd hx hown hsz hcell
              obtain ⟨q, hq, rfl, hb, hd, hx, hown, hsz⟩ := hrel
              by_cases hqt : q < xs.length
              · have hqti : (q : Int) < xs.length := by omega
                obtain ⟨b5, o5, hB5, hcc⟩ := (hrd0.ext hx).at (i := q) (by rw [ints_length]; exact hqt)
                subst hB5
                obtain ⟨y, hy⟩ : ∃ y, xs[q]? = some y := ⟨_, List.getElem?_eq_getElem hqt⟩
                have c3 := hcc q (.int .i64 y) (by rw [ints_get, hy]; rfl)
                obtain ⟨hy0, hyn⟩ := hxe y (List.mem_of_getElem? hy)
                obtain ⟨r, rfl⟩ : ∃ r : Nat, y = r := ⟨y.toNat, by omega⟩
                have HS := Lib.hid (bumpAll_step (ws := ws1) (-1) hy)
                obtain ⟨us, hus⟩ : ∃ us, bumpAll ws1 (xs.take q) (-1) = us := ⟨_, rfl⟩
                rw [hus] at hb hd HS
                clear hus
                obtain ⟨v, hv1, hv2, hv3, hv4⟩ := hd.at (k := r) (by omega)
                have c4 := hb.cell r (show (ints us)[r]? = some (.int .i64 v) by rw [ints_get, hv1]; rfl)
                have z4 := hb.frozen r
                have hrn : (r : Int) < n := by omega
                have HB := Lib.hid (show Blk (wr.setCell ⟨g, r, none⟩ (.int .i64 (v - 1))) g (ints (bumpAll ws1 (xs.take (q + 1)) (-1))) 3 by
                  have := hb.set r (.int .i64 (v - 1))
                  rw [ints_set] at this
                  rw [HS.out, bump, hv2]
                  exact this)
                have HBd := Lib.hid (show Bd n (5000 + j * 65 + (q + 1)) (bumpAll ws1 (xs.take (q + 1)) (-1)) by
                  rw [HS.out, bump, hv2]
                  exact hd.set r (v + -1) _ (by omega) (by omega))
                have HOW := Lib.hid (Owns.set hown r (.int .i64 (v - 1)) hg3)
                clear hb hd hown
                go_wp2_with fail
                go_roundw
                case rel => exact ⟨q + 1, by omega, by go_num, HB.out, HBd.out, hx.setCell (by simp; omega) _, HOW.out, by rw [World.size_setCell]; exact hsz⟩
                case measure => simp [RowKit.intOf]; omega
              · obtain rfl : q = xs.length := by omega
                rw [List.take_of_length_le (Nat.le_refl _)] at hb hd
                rename World => W7
                have hxs : bumpAll ws1 xs (-1) = bumpAll ws1 (rowOf tb p) (-1) := by rw [hro]
                go_wp2_with (refine wpList_append_int rfl (.tmp 69) (.tmp 71) 40 3 rfl Try.underlying40 infoInt W3.heap.size (.slice B4 out.length c4) out rfl (hown.alloc _) W7.heap.size 1 p rfl ((Blk.new W7 [.int .i64 p] 3).cell 0 rfl) (by rw [HOL.out]; omega) (by rw [World.size_alloc]; exact Nat.le_succ_of_le hsz) ?_; intro v' W8 o8 g8 s8)
                go_roundw
                case rel =>
                  refine ⟨j + 1, out ++ [(p : Int)], bumpAll ws1 xs (-1), by omega, by go_num, by rw [List.length_append, HOL.out]; rfl, o8, Grown.blk g8 (hb.alloc _) ?_, hd.mono (by omega), ?_, ?_, ?_⟩
                  · cases B4 with
                    | none => simp [Value.ownBlock]
                    | some ad =>
                      have := hbase ad rfl
                      intro e
                      simp only [Value.ownBlock, Option.some.injEq] at e
                      omega
                  · rw [← HORD.out, show n - (j + 1) = m by omega, hro, Option.map_map]
                    congr 1
                    funext u
                    simp
                  · refine Grown.toExt (hx.alloc _) g8 (fun i hi => ?_)
                    cases B4 with
                    | none => cases hi
                    | some ad =>
                      cases hi
                      have := hbase ad rfl
                      omega
                  · exact Nat.le_trans hsz (Nat.le_trans (by rw [World.size_alloc]; omega) g8.size)
                case measure => simp [RowKit.intOf]; omega
        · obtain rfl : n = j := by omega
          rw [Nat.sub_self, ordS] at hord
          have HR := Lib.hid (show OrderL tb = out by rw [HO.out, ← hord]; simp)
          clear hord
          go_wp2_with fail
          go_ret
          exact ⟨B4, c4, by rw [HR.out]; rfl, by rw [HR.out]; exact ⟨hrdo, Owns.lower hown (by first | exact hw3 | (have := hxw.size; omega))⟩, hxw.trans hx⟩
end Go.Proofs.Ythlobpdcolgcoaa
/- Chapter 23: works: the chapter's examples. -/
namespace Go.Proofs.Ythlobpdcolgcoaa
open Go.RowKit Go.Maps Go.Lib
set_option linter.unusedVariables false
set_option linter.unusedSimpArgs false

def gAf : List (List Int) := [[2], [0], [1]]
def gBe : List (List Int) := [[], [], []]
theorem ringEx : RingL (nextL gAf gBe [⟨0, 1, false⟩, ⟨1, 1, false⟩, ⟨2, 1, false⟩]) = [0, 1, 2] := by decide +kernel
theorem orderA : OrderL (nextL gAf gBe [⟨0, 1, false⟩, ⟨1, 1, false⟩]) = [0, 1] := by decide +kernel
theorem orderB : OrderL (nextL gAf gBe [⟨0, 2, false⟩, ⟨1, 2, false⟩]) = [1, 0] := by decide +kernel

theorem RdI.of2 {W : World} {b : Nat} {u0 t0 u1 t1 : Int} {m0 m1 : Bool} {T : TypeId} (h : Blk W b [.int .i64 u0, .int .u8 t0, .bool m0, .int .i64 u1, .int .u8 t1, .bool m1] T) : RdI W (some ⟨b, 0, none⟩) [⟨u0, t0, m0⟩, ⟨u1, t1, m1⟩] :=
  .inr ⟨b, 0, rfl, fun j u t m hj => by
    match j, hj with
    | 0, hj => cases hj; exact ⟨h.cell 0 rfl, h.cell 1 rfl, h.cell 2 rfl⟩
    | 1, hj => cases hj; exact ⟨h.cell 3 rfl, h.cell 4 rfl, h.cell 5 rfl⟩⟩
theorem RdI.of3 {W : World} {b : Nat} {u0 t0 u1 t1 u2 t2 : Int} {m0 m1 m2 : Bool} {T : TypeId} (h : Blk W b [.int .i64 u0, .int .u8 t0, .bool m0, .int .i64 u1, .int .u8 t1, .bool m1, .int .i64 u2, .int .u8 t2, .bool m2] T) : RdI W (some ⟨b, 0, none⟩) [⟨u0, t0, m0⟩, ⟨u1, t1, m1⟩, ⟨u2, t2, m2⟩] :=
  .inr ⟨b, 0, rfl, fun j u t m hj => by
    match j, hj with
    | 0, hj => cases hj; exact ⟨h.cell 0 rfl, h.cell 1 rfl, h.cell 2 rfl⟩
    | 1, hj => cases hj; exact ⟨h.cell 3 rfl, h.cell 4 rfl, h.cell 5 rfl⟩
    | 2, hj => cases hj; exact ⟨h.cell 6 rfl, h.cell 7 rfl, h.cell 8 rfl⟩⟩
theorem RdV.of1 {W : World} {b : Nat} {v0 : Value} (h0 : W.cell? ⟨b, 0, none⟩ = some v0) : RdV W (some ⟨b, 0, none⟩) [v0] := .inr ⟨b, 0, rfl, fun j v hv => by
  match j, hv with
  | 0, hv => cases hv; exact h0⟩
theorem RdV.of3 {W : World} {b : Nat} {v0 v1 v2 : Value} (h0 : W.cell? ⟨b, 0, none⟩ = some v0) (h1 : W.cell? ⟨b, 1, none⟩ = some v1) (h2 : W.cell? ⟨b, 2, none⟩ = some v2) : RdV W (some ⟨b, 0, none⟩) [v0, v1, v2] := .inr ⟨b, 0, rfl, fun j v hv => by
  match j, hv with
  | 0, hv => cases hv; exact h0
  | 1, hv => cases hv; exact h1
  | 2, hv => cases hv; exact h2⟩
theorem one_calls (u t : Int) (w : World) : Calls Try.prog 21 #[.int .i64 u, .int .u8 t] w fun e w' => e = .returned (.agg #[.int .i64 u, .int .u8 t, .bool false]) ∧ Ext w w' := by
  go_enter Try.func21, Try.ntmps21
  go_upto_region 1 with (fail)
  refine wp_gen (fun W => Ext w W ∧ Blk W w.heap.size [.int .i64 0, .int .u8 0, .bool false] 30) ⟨(Ext.refl w).alloc _, Blk.new w [.int .i64 0, .int .u8 0, .bool false] _⟩ ?_
  rintro W0 ⟨hx, hb⟩
  have d0 := hb.cell 0 rfl
  have d1 := hb.cell 1 rfl
  have d2 := hb.cell 2 rfl
  have z0 := hb.frozen 0
  have z1 := hb.frozen 1
  have z2 := hb.frozen 2
  have hb2 := ((hb.set 0 (.int .i64 u)).set 1 (.int .u8 t)).set 2 (.bool false)
  have hx2 := ((hx.setCell (p := ⟨w.heap.size, 0, none⟩) (by simp) (.int .i64 u)).setCell (p := ⟨w.heap.size, 1, none⟩) (by simp) (.int .u8 t)).setCell (p := ⟨w.heap.size, 2, none⟩) (by simp) (.bool false)
  have HB := Lib.hid hb2
  have HX := Lib.hid hx2
  clear hb2 hx2 hb hx
  go_wp2_with fail
  exact bodyPost_ret (v := .agg #[.int .i64 u, .int .u8 t, .bool false]) (results_cell Try.results21 _ _ rfl rowItem HB.out) rfl ⟨rfl, HX.out⟩

set_option maxRecDepth 100000 in
set_option maxHeartbeats 2000000 in
theorem works_calls (w : World) : Calls Try.prog 10 #[] w fun e w' => e = .returned (.bool true) ∧ Ext w w' := by
  go_enter Try.func10, Try.ntmps10
  go_upto_region 2 with (fail)
  refine wp_gen (fun W => ∃ cs, Blk W (w.heap.size + 1 + 1 + 1 + 1 + 1 + 1 + 1 + 1) cs 24 ∧ GR W cs gAf gBe ∧ Ext w W)
    ⟨[.slice none 0 0, .slice none 0 0, .slice none 0 0, .slice none 0 0, .slice (some ⟨w.heap.size + 1 + 1 + 1, 0, none⟩) 3 3, .slice (some ⟨w.heap.size + 1 + 1 + 1 + 1 + 1 + 1 + 1, 0, none⟩) 3 3, .slice none 0 0, .slice none 0 0, .slice none 0 0, .slice none 0 0],
      Blk.newAt _ _ _ _ (by simp), ⟨_, 3, [⟨some ⟨w.heap.size, 0, none⟩, 1, [2]⟩, ⟨some ⟨w.heap.size + 1, 0, none⟩, 1, [0]⟩, ⟨some ⟨w.heap.size + 1 + 1, 0, none⟩, 1, [1]⟩], _, 3, [⟨some ⟨w.heap.size + 1 + 1 + 1 + 1, 0, none⟩, 0, []⟩, ⟨some ⟨w.heap.size + 1 + 1 + 1 + 1 + 1, 0, none⟩, 0, []⟩, ⟨some ⟨w.heap.size + 1 + 1 + 1 + 1 + 1 + 1, 0, none⟩, 0, []⟩],
        rfl, rfl, rfl, ⟨RdV.of3 (by first | (go_simp; done) | (go_simp; rfl)) (by first | (go_simp; done) | (go_simp; rfl)) (by first | (go_simp; done) | (go_simp; rfl)), fun r hr => ?_⟩, ⟨RdV.of3 (by first | (go_simp; done) | (go_simp; rfl)) (by first | (go_simp; done) | (go_simp; rfl)) (by first | (go_simp; done) | (go_simp; rfl)), fun r hr => ?_⟩, rfl, rfl, ?_, ?_, by simp, by simp⟩, ?_⟩ ?_
  · rcases List.mem_cons.1 hr with rfl | hr
    · exact RdV.of1 (by go_simp)
    rcases List.mem_cons.1 hr with rfl | hr
    · exact RdV.of1 (by go_simp)
    rcases List.mem_cons.1 hr with rfl | hr
    · exact RdV.of1 (by go_simp)
    cases hr
  · rcases List.mem_cons.1 hr with rfl | hr
    · exact .inl rfl
    rcases List.mem_cons.1 hr with rfl | hr
    · exact .inl rfl
    rcases List.mem_cons.1 hr with rfl | hr
    · exact .inl rfl
    cases hr
  · intro r hr
    simp only [List.mem_cons, List.not_mem_nil, or_false] at hr
    rcases hr with rfl | rfl | rfl <;> simp
  · intro r hr
    simp only [List.mem_cons, List.not_mem_nil, or_false] at hr
    rcases hr with rfl | rfl | rfl <;> simp
  · exact (((((((((Ext.refl w).alloc _).alloc _).alloc _).alloc _).alloc _).alloc _).alloc _).alloc _).alloc _
  generalize w.heap.size + 1 + 1 + 1 + 1 + 1 + 1 + 1 + 1 = G
  rintro W1 ⟨cs, hb, hg, hx⟩
  have hl : cs.length = 10 := by obtain ⟨_, _, _, _, _, _, h0, _⟩ := hg; exact h0
  have HT := Lib.hid (rowG cs.length hl)
  clear hl
  refine wp_region_mix (fun W => Blk W G cs 24) 5 [(0, true), (1, false), (2, false), (3, false), (4, false), (5, false), (6, false)] (by kernel_rfl) (by kernel_rfl) (hb.drew) ?_
  (apply mix_read; (case ho => rfl); (case hw => rfl); (case h1 => intro W' hx; exact read_load_blk rfl rfl (HT.out) hx); (case hp => go_simp; first | done | with_reducible rfl))
  refine mix_loud rfl ?_; intro KY hKY; go_wp2_with fail; refine (one_calls 0 1 _).mono ?_; rintro e W2 ⟨rfl, x2⟩; go_wp2_with fail; refine ⟨Blk.ext hb.drew x2, ?_⟩
  refine mix_loud rfl ?_; intro KY hKY; go_wp2_with fail; refine (one_calls 1 1 _).mono ?_; rintro e W3 ⟨rfl, x3⟩; go_wp2_with fail; refine ⟨Blk.ext (hb.drew.ext x2) x3, ?_⟩
  refine mix_loud rfl ?_; intro KY hKY; go_wp2_with fail; refine (one_calls 2 1 _).mono ?_; rintro e W4 ⟨rfl, x4⟩; go_wp2_with fail; refine ⟨Blk.ext ((hb.drew.ext x2).ext x3) x4, ?_⟩
  refine mix_loud rfl ?_; intro KY hKY
  go_wp2_with fail
  have xa := ((((Ext.refl W1).drew).trans x2).trans x3).trans x4
  refine ⟨(hb.ext xa).alloc _, ?_⟩
  refine mix_end 5 (by kernel_rfl) (by kernel_rfl) ?_; simp only [List.take_succ_cons, List.take_zero, List.drop_succ_cons, List.drop_zero]; unfold Q0
  have C := Lib.hid (Ring_calls cs gAf gBe [⟨0, 1, false⟩, ⟨1, 1, false⟩, ⟨2, 1, false⟩] (some ⟨W4.heap.size, 0, none⟩) 3 _ ((hg.ext xa).ext ((Ext.refl W4).alloc _)) (RdI.of3 (Blk.new W4 [.int .i64 0, .int .u8 1, .bool false, .int .i64 1, .int .u8 1, .bool false, .int .i64 2, .int .u8 1, .bool false] 30)) (by decide) (by decide))
  rw [ringEx] at C
  go_wp2_with fail
  refine C.out.mono ?_
  rintro e W5 ⟨B1, c1, rfl, ⟨r1, _⟩, x5⟩
  have xb := (xa.alloc _).trans x5
  clear x5
  clear x2 x3 x4 xa C
  go_upto_region 3 with (fail)
  have hb5 := hb.ext xb
  refine wp_region_mix (fun W => Blk W G cs 24) 4 [(0, true), (1, false), (2, false), (3, false), (4, false), (5, false)] (by kernel_rfl) (by kernel_rfl) (hb5.drew) ?_
  (apply mix_read; (case ho => rfl); (case hw => rfl); (case h1 => intro W' hx; exact read_load_blk rfl rfl (HT.out) hx); (case hp => go_simp; first | done | with_reducible rfl))
  refine mix_loud rfl ?_; intro KY hKY; go_wp2_with fail; refine (one_calls 0 1 _).mono ?_; rintro e W2 ⟨rfl, x2⟩; go_wp2_with fail; refine ⟨Blk.ext hb5.drew x2, ?_⟩
  refine mix_loud rfl ?_; intro KY hKY; go_wp2_with fail; refine (one_calls 1 1 _).mono ?_; rintro e W3 ⟨rfl, x3⟩; go_wp2_with fail; refine ⟨Blk.ext (hb5.drew.ext x2) x3, ?_⟩
  refine mix_loud rfl ?_; intro KY hKY
  go_wp2_with fail
  have xa := ((Ext.drew xb).trans x2).trans x3
  refine ⟨(hb.ext xa).alloc _, ?_⟩
  refine mix_end 4 (by kernel_rfl) (by kernel_rfl) ?_; simp only [List.take_succ_cons, List.take_zero, List.drop_succ_cons, List.drop_zero]; unfold Q0
  have C := Lib.hid (Order_calls cs gAf gBe [⟨0, 1, false⟩, ⟨1, 1, false⟩] (some ⟨W3.heap.size, 0, none⟩) 2 _ ((hg.ext xa).ext ((Ext.refl W3).alloc _)) (RdI.of2 (Blk.new W3 [.int .i64 0, .int .u8 1, .bool false, .int .i64 1, .int .u8 1, .bool false] 30)) (by decide) (by decide))
  rw [orderA] at C
  go_wp2_with fail
  refine C.out.mono ?_
  rintro e W6 ⟨B2, c2, rfl, ⟨r2, _⟩, x5⟩
  have xc := (xa.alloc _).trans x5
  clear C xa
  have y2 : Ext W5 W6 := ((((Ext.refl W5).drew).trans x2).trans x3 |>.alloc _).trans x5
  clear x2 x3 x5
  go_upto_region 4 with (fail)
  have hb6 := hb.ext xc
  refine wp_region_mix (fun W => Blk W G cs 24) 4 [(0, true), (1, false), (2, false), (3, false), (4, false), (5, false)] (by kernel_rfl) (by kernel_rfl) (hb6.drew) ?_
  (apply mix_read; (case ho => rfl); (case hw => rfl); (case h1 => intro W' hx; exact read_load_blk rfl rfl (HT.out) hx); (case hp => go_simp; first | done | with_reducible rfl))
  refine mix_loud rfl ?_; intro KY hKY; go_wp2_with fail; refine (one_calls 0 2 _).mono ?_; rintro e W2 ⟨rfl, x2⟩; go_wp2_with fail; refine ⟨Blk.ext hb6.drew x2, ?_⟩
  refine mix_loud rfl ?_; intro KY hKY; go_wp2_with fail; refine (one_calls 1 2 _).mono ?_; rintro e W3 ⟨rfl, x3⟩; go_wp2_with fail; refine ⟨Blk.ext (hb6.drew.ext x2) x3, ?_⟩
  refine mix_loud rfl ?_; intro KY hKY
  go_wp2_with fail
  have xa := ((Ext.drew xc).trans x2).trans x3
  refine ⟨(hb.ext xa).alloc _, ?_⟩
  refine mix_end 4 (by kernel_rfl) (by kernel_rfl) ?_; simp only [List.take_succ_cons, List.take_zero, List.drop_succ_cons, List.drop_zero]; unfold Q0
  have C := Lib.hid (Order_calls cs gAf gBe [⟨0, 2, false⟩, ⟨1, 2, false⟩] (some ⟨W3.heap.size, 0, none⟩) 2 _ ((hg.ext xa).ext ((Ext.refl W3).alloc _)) (RdI.of2 (Blk.new W3 [.int .i64 0, .int .u8 2, .bool false, .int .i64 1, .int .u8 2, .bool false] 30)) (by decide) (by decide))
  rw [orderB] at C
  go_wp2_with fail
  refine C.out.mono ?_
  rintro e W7 ⟨B3, c3, rfl, ⟨r3, _⟩, x5⟩
  have xd := (xa.alloc _).trans x5
  clear C xa
  have y3 : Ext W6 W7 := ((((Ext.refl W6).drew).trans x2).trans x3 |>.alloc _).trans x5
  clear x2 x3 x5 hb5 hb6 HT
  have q1 := (r1.ext y2).ext y3
  have q2 := r2.ext y3
  have xw := hx.trans xd
  have S1 := Lib.hid (same_calls [0, 1, 2] [0, 1, 2] B1 (some ⟨W7.heap.size, 0, none⟩) c1 3 _ (q1.ext ((Ext.refl W7).alloc (.cells #[.int .i64 0, .int .i64 1, .int .i64 2] 3))) (RdV.of3 ((Blk.new W7 [.int .i64 0, .int .i64 1, .int .i64 2] 3).cell 0 rfl) ((Blk.new W7 [.int .i64 0, .int .i64 1, .int .i64 2] 3).cell 1 rfl) ((Blk.new W7 [.int .i64 0, .int .i64 1, .int .i64 2] 3).cell 2 rfl)) (by decide) (by decide))
  go_wp2_with fail
  refine S1.out.mono ?_
  rintro e W8 ⟨rfl, z8⟩
  have w8 := (xw.alloc _).trans z8
  have q22 := (q2.ext ((Ext.refl W7).alloc _)).ext z8
  have q33 := (r3.ext ((Ext.refl W7).alloc _)).ext z8
  clear S1 z8
  have S2 := Lib.hid (same_calls [0, 1] [0, 1] B2 (some ⟨W8.heap.size, 0, none⟩) c2 2 _ (q22.ext ((Ext.refl W8).alloc (.cells #[.int .i64 0, .int .i64 1] 3))) (Blk.rdv (Blk.new W8 [.int .i64 0, .int .i64 1] 3)) (by decide) (by decide))
  go_wp2_with fail
  refine S2.out.mono ?_
  rintro e W9 ⟨rfl, z9⟩
  have w9 := (w8.alloc _).trans z9
  have q333 := (q33.ext ((Ext.refl W8).alloc _)).ext z9
  clear S2 z9
  have S3 := Lib.hid (same_calls [1, 0] [1, 0] B3 (some ⟨W9.heap.size, 0, none⟩) c3 2 _ (q333.ext ((Ext.refl W9).alloc (.cells #[.int .i64 1, .int .i64 0] 3))) (Blk.rdv (Blk.new W9 [.int .i64 1, .int .i64 0] 3)) (by decide) (by decide))
  go_wp2_with fail
  refine S3.out.mono ?_
  rintro e W10 ⟨rfl, z10⟩
  have w10 := (w9.alloc _).trans z10
  clear S3
  go_wp2_with fail
  go_ret
  exact ⟨rfl, w10⟩
end Go.Proofs.Ythlobpdcolgcoaa
