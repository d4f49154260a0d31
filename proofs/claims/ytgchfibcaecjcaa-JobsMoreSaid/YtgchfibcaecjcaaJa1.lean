/- Several texts of this claim, joined. -/
import Derived.StillTail
import Derived.Deep.Quiet
import Derived.Deep.QuietTactic
import Derived.Below
import Derived.Laws.Rows
import Derived.Laws.Tables
import Derived.OwnWalk
import Derived.Laws.AppendOwn
import Derived.OrdersHeld
import Derived.Lib.Hide
import Derived.IntWalk
import Derived.Test.YtgchfibcaecjcaaProg
import Derived.WalkKit
import Derived.Handy
import Derived.LoopN
import Derived.BigQuiet
import Derived.Deep.RegionWith
import Derived.StillTailTactics
import Derived.Deep.LoopGhost
import Derived.Deep.CutBlock
import Derived.WalkSpells
import Derived.Deep.DeepAppendRoom
import Derived.ArgAppend
import Derived.Laws.MakeOwn
import Derived.Maps.RangeRun
import Derived.Laws.IdiomRangeMap
import Derived.MapKept
import Derived.Laws.StructEq
import Derived.Maps.Own
import Derived.RangeFuncBox
import Derived.RangeFuncNested
import Derived.RangeFuncBound
import Derived.RangeFuncCalls
import Derived.RangeFuncLeaves
import Derived.Shelf.Abstract
import Derived.Shelf.RegionOpen
import Derived.OwnWalkIn
import Derived.TacticsInMore
import Derived.LoopNIn
import Derived.LoopIn
import Derived.Maps.AppendAt
import Derived.Maps.OwnIn
import Derived.Sort.MapsRangeIn
import Derived.Shelf.SlGeneric
import Derived.Shelf.SlSortCmp.NoneTotal
import Derived.Ground.SlsfProg
/- Regions that draw their order: whose head only reads and calls what leaves old memory alone, and whose tail is forced: one walk of the text's order serves every order. -/
namespace Go.Proofs.Ytgchfibcaecjcaa
open Go.RowKit
section
variable {P : Program} {ops : Array Oper} {md : Region.Mode} {C : World → Prop}

/-- The world has grown: what lay there lies there still. -/
def Ext (w W : World) : Prop := Below w.heap.size w W
theorem Ext.refl (w : World) : Ext w w := Below.refl _ _
theorem Ext.trans {a b c : World} (h : Ext a b) (k : Ext b c) : Ext a c := Below.trans h (k.mono h.size)
theorem Ext.drew {a b : World} (h : Ext a b) : Ext a b.drew := ⟨h.os, h.tape, h.output, h.size, h.block⟩
theorem Ext.drewN {a b : World} (h : Ext a b) (n : Nat) : Ext a (b.drewN n) := ⟨h.os, h.tape, h.output, h.size, h.block⟩
theorem Ext.alloc {a b : World} (h : Ext a b) (o : Obj) : Ext a (b.alloc o) := Below.alloc h h.size o
theorem Ext.setCell {a b : World} (h : Ext a b) {p : Addr} (hp : a.heap.size ≤ p.block) (u : Value) : Ext a (b.setCell p u) := Below.setCell h hp u
theorem Ext.cell {w W : World} (h : Ext w W) {p : Addr} {v : Value} (hc : w.cell? p = some v) : W.cell? p = some v := (Below.cell h (World.block_lt_of_cell? w p hc)).trans hc
theorem Ext.heap {w W : World} (h : Ext w W) {b : Nat} {o : Obj} (hc : w.heap[b]? = some o) : W.heap[b]? = some o := (h.block b (Array.getElem?_eq_some_iff.1 hc).1).trans hc

def wpAnyL' (P : Program) (md : Region.Mode) (ops : Array Oper) (C : World → Prop) (n : Nat) (L : Array Bool → Act → Prop) : Nat → Array Bool → Act → Prop
  | 0, listed, a => L listed a
  | f + 1, listed, a =>
    Region.ready md ops listed ≠ [] ∧ ∀ i ∈ Region.ready md ops listed, i < n ∧ qOp P ops C i (wpAnyL' P md ops C n L f (listed.setIfInBounds i true)) a

theorem wpAny_of_head' {n g : Nat} {L : Array Bool → Act → Prop} {Q' : Exit → Act → World → Prop} (hL : ∀ listed a w, C w → L listed a → wpAny P md ops Q' g listed a w) :
    ∀ (f : Nat) (listed : Array Bool) (a : Act) (w : World), C w → wpAnyL' P md ops C n L f listed a → wpAny P md ops Q' (f + g) listed a w
  | 0, listed, a, w, hw, h => by rw [Nat.zero_add]; exact hL _ _ _ hw h
  | f + 1, listed, a, w, hw, h => by
    rw [show f + 1 + g = (f + g) + 1 by omega]
    exact ⟨fun h0 => absurd h0 h.1, fun i hi => wpOp_of_qOp hw (fun a' w' hw' h' => wpAny_of_head' hL f _ a' w' hw' h') (h.2 i hi).2⟩

theorem wpAnyL'_first {n i : Nat} {oi : Oper} {v : Value} {L : Array Bool → Act → Prop} (hi : ops[i]? = some oi) (hsel : ∀ (j : Nat) (o : Oper) cs b, ops[j]? = some o → o.op ≠ .select cs b)
    (hs : Region.sinkB md ops n = true) (hc : Region.chainB md ops n = true) (hn : n < ops.size) (hin : i < n)
    (hdone : ∀ listed a, L listed a → ∀ j ∈ Region.ready md ops listed, n ≤ j) :
    ∀ (f : Nat) (listed : Array Bool) (a : Act), HeadInv md ops n listed →
      (∀ j oj, ops[j]? = some oj → j ≠ i → listed.getD j true = false → (∀ e ∈ oj.after, Region.binds md e = true → e.on ≠ i) → oi.apart ops oj = true) →
      i ∈ Region.ready md ops listed → YieldsIn P ops C oi v a →
      wpAnyL' P md ops C n L f (listed.setIfInBounds i true) (a.put oi.dst v) → wpAnyL' P md ops C n L (f + 1) listed a := by
  intro f
  induction f with
  | zero =>
    intro listed a inv _ hr hy H
    have hun := (mem_ready.1 hr).1
    refine ⟨fun h => (by rw [h] at hr; cases hr), fun j hj => ?_⟩
    have hjn : j < n := by
      rcases Nat.lt_or_ge j n with h | h
      · exact h
      · exact absurd hj (tail_waits hs hc hn inv _ i rfl hin hun j h)
    refine ⟨hjn, ?_⟩
    by_cases hji : j = i
    · subst hji; exact hy.qOp hi H
    · have := hdone _ _ H j (ready_mono hj hji)
      omega
  | succ f ih =>
    intro listed a inv hfree hr hy H
    have hun := (mem_ready.1 hr).1
    refine ⟨fun h => (by rw [h] at hr; cases hr), fun j hj => ?_⟩
    have hjn : j < n := by
      rcases Nat.lt_or_ge j n with h | h
      · exact h
      · exact absurd hj (tail_waits hs hc hn inv _ i rfl hin hun j h)
    refine ⟨hjn, ?_⟩
    by_cases hji : j = i
    · subst hji; exact hy.qOp hi H
    · have h1 := (H.2 j (ready_mono hj hji)).2
      obtain ⟨hjun, oj, hoj, hall⟩ := mem_ready.1 hj
      have hnot : ∀ e ∈ oj.after, Region.binds md e = true → e.on ≠ i := fun e he hb heq => by
        have h1 := hall e he hb
        rw [heq, getD_both hun] at h1
        cases h1
      have h2 := qOp_put hoj (hfree j oj hoj hji hjun hnot) (fun cs b => hsel i oi cs b hi) (fun cs b => hsel j oj cs b hoj) hy h1
      have hfree' : ∀ k ok, ops[k]? = some ok → k ≠ i → (listed.setIfInBounds j true).getD k true = false →
          (∀ e ∈ ok.after, Region.binds md e = true → e.on ≠ i) → oi.apart ops ok = true := fun k ok hk hki hun hno => by
        refine hfree k ok hk hki ?_ hno
        by_cases hjk : j = k
        · subst hjk; exact hjun
        · rw [getD_set_ne true hjk] at hun; exact hun
      refine qOp_mono (fun a' h3 => ih (listed.setIfInBounds j true) a' (inv.set hj hjn) hfree' (ready_mono hr (Ne.symm hji)) h3.1 ?_) h2
      rw [Array.setIfInBounds_comm _ _ hji]
      exact h3.2

theorem wpAnyL'_lex {n g : Nat} {Lq : Act → Prop} (hsel : Region.noSelect ops = true) (hs : Region.sinkB md ops n = true) (hc : Region.chainB md ops n = true) (hn : n < ops.size) :
    ∀ (l : List Oper) (k : Nat) (listed : Array Bool) (a : Act), (∀ j, j < l.length → l[j]? = ops[k + j]?) → k + l.length = n → HeadInv md ops n listed →
    Region.lexHead md ops g l.length k listed = true → wpQuiet P ops C Lq l a →
    wpAnyL' P md ops C n (fun listed' a' => Region.seqB md ops g n listed' = true ∧ Lq a') l.length listed a
  | [], k, listed, a, _, hk, _, hB, h => by
    have : k = n := by simpa using hk
    subst this
    exact ⟨by simpa [Region.lexHead] using hB, h⟩
  | o :: l, k, listed, a, hl, hk, inv, hB, h => by
    have h0 : ops[k]? = some o := by simpa using (hl 0 (by simp)).symm
    simp only [List.length_cons, Region.lexHead, Bool.and_eq_true] at hB
    obtain ⟨⟨hr, hf⟩, hB'⟩ := hB
    have hkn : k < n := by simp only [List.length_cons] at hk; omega
    have hr' : k ∈ Region.ready md ops listed := by simpa using hr
    have hst : qOp P ops C k (wpQuiet P ops C Lq l) a := by unfold qOp; simp only [h0]; exact h
    obtain ⟨v, hy, hK⟩ := yieldsIn_of_qOp h0 hst
    exact wpAnyL'_first h0 (Region.noSelect_spec hsel) hs hc hn hkn (fun listed' a' hL => seqB_ready hL.1) l.length listed a inv (Region.free_spec h0 hf) hr' hy
      (wpAnyL'_lex hsel hs hc hn l (k + 1) _ _ (fun j hj => by have := hl (j + 1) (by simp; omega); simpa [Nat.add_assoc, Nat.add_comm 1 j] using this) (by simp only [List.length_cons] at hk; omega) (inv.set hr' hkn) hB' hK)

/-- ONE WALK OF THE TEXT's ORDER: the head is quiet in the class, the tail forced. -/
theorem wp_region_quiet_tail {id : Nat} {Q : Exit → Act → World → Prop} {a : Act} {w : World} {l : List Oper} (n : Nat) (hm : P.follows .mixedOrders = true) (hB : Region.lexTailB .any l.toArray n = true) (hC : C { w with drawn := w.drawn + 1 })
    (h : wpQuiet P l.toArray C (fun a' => ∀ w', C w' → wpList P l.toArray Q (l.drop n) a' w') (l.take n) a) : (Code.region id l.toArray true).wp P Q a w := by
  simp only [Region.lexTailB, Bool.and_eq_true, decide_eq_true_eq] at hB
  obtain ⟨⟨⟨⟨hsel, hn⟩, hs⟩, hc⟩, hlex⟩ := hB
  have hn' : n < l.length := by simpa using hn
  have htl : (l.take n).length = n := by simp; omega
  have hdl : (l.drop n).length = l.toArray.size - n := by simp
  have inv0 : HeadInv .any l.toArray n (Array.replicate l.toArray.size false) :=
    ⟨by simp, fun j oj _ hl => (by rw [getD_replicate_false] at hl; cases hl), fun t _ ht => getD_in (by simpa using ht) (getD_replicate_false _ _)⟩
  have h1 := wpAnyL'_lex (P := P) (C := C) (md := .any) (g := l.toArray.size - n) hsel hs hc hn (l.take n) 0 (Array.replicate l.toArray.size false) a
    (fun j hj => by rw [htl] at hj; simp [hj]) (by rw [htl]; omega) inv0 (by rw [htl]; exact hlex) h
  rw [htl] at h1
  refine wp_region_any hm ?_
  have hsz : l.toArray.size = n + (l.toArray.size - n) := by have := hn'; simp; omega
  have h2 := wpAny_of_head' (P := P) (md := .any) (C := C) (n := n) (g := l.toArray.size - n) (Q' := Q) (L := fun listed' a' => Region.seqB .any l.toArray (l.toArray.size - n) n listed' = true ∧ ∀ w', C w' → wpList P l.toArray Q (l.drop n) a' w')
    (fun listed a' w' hw' hL => by
      have := wpAny_of_seq (P := P) (md := .any) (ops := l.toArray) (Q' := Q) (l.drop n) n listed a' w' (fun j => by simp) (by rw [hdl]; exact hL.1) (hL.2 w' hw')
      rw [hdl] at this
      exact this) n (Array.replicate l.toArray.size false) a _ hC h1
  rw [← hsz] at h2
  exact h2

/-- The same at the class 'the world has grown'. -/
theorem wp_region_ext_tail {id : Nat} {Q : Exit → Act → World → Prop} {a : Act} {w : World} {l : List Oper} (n : Nat) (hm : P.follows .mixedOrders = true) (hB : Region.lexTailB .any l.toArray n = true)
    (h : wpQuiet P l.toArray (Ext w) (fun a' => ∀ w', Ext w w' → wpList P l.toArray Q (l.drop n) a' w') (l.take n) a) : (Code.region id l.toArray true).wp P Q a w :=
  wp_region_quiet_tail (C := Ext w) n hm hB ((Ext.refl w).drew) h
theorem wp_region_ext {id : Nat} {Q : Exit → Act → World → Prop} {a : Act} {w : World} {l : List Oper} (hm : P.follows .mixedOrders = true) (hB : Region.lexB .any l.toArray = true)
    (h : wpQuiet P l.toArray (Ext w) (fun a' => ∀ w', Ext w w' → Q .normal a' w') l a) : (Code.region id l.toArray true).wp P Q a w :=
  wp_region_quiet (C := Ext w) hm hB ((Ext.refl w).drew) (by simpa using h)

/-- The same at the class 'some draws later'. -/
theorem wp_region_drew_tail {id : Nat} {Q : Exit → Act → World → Prop} {a : Act} {w : World} {l : List Oper} (n : Nat) (hm : P.follows .mixedOrders = true) (hB : Region.lexTailB .any l.toArray n = true)
    (h : wpQuiet P l.toArray (fun w' => ∃ n, w' = w.drewN n) (fun a' => ∀ w', (∃ n, w' = w.drewN n) → wpList P l.toArray Q (l.drop n) a' w') (l.take n) a) : (Code.region id l.toArray true).wp P Q a w :=
  wp_region_quiet_tail (C := fun w' => ∃ n, w' = w.drewN n) n hm hB ⟨1, rfl⟩ h

/-- One operation that yields x in every world of the class. -/
theorem quiet_one {Q : Act → Prop} {a : Act} {o : Oper} {rest : List Oper} (x : Value) (hw : Region.wanted o (yielded ops a.tmps) = true) (h1 : ∀ W, C W → Oper.quietAt P o a C W x)
    (h : wpQuiet P ops C Q rest (a.put o.dst x)) : wpQuiet P ops C Q (o :: rest) a := by
  unfold wpQuiet
  rw [if_pos hw]
  exact ⟨x, h1, h⟩
/-- The same, the frame behind it written out. -/
theorem quiet_onep {Q : Act → Prop} {a : Act} {o : Oper} {rest : List Oper} (x : Value) (a' : Act) (hw : Region.wanted o (yielded ops a.tmps) = true) (h1 : ∀ W, C W → Oper.quietAt P o a C W x)
    (hp : a.put o.dst x = a') (h : wpQuiet P ops C Q rest a') : wpQuiet P ops C Q (o :: rest) a :=
  quiet_one x hw h1 (hp ▸ h)
theorem quiet_not {Q : Act → Prop} {a : Act} {o : Oper} {rest : List Oper} (hw : Region.wanted o (yielded ops a.tmps) = false)
    (h : wpQuiet P ops C Q rest (a.put o.dst undef)) : wpQuiet P ops C Q (o :: rest) a := by
  unfold wpQuiet
  rw [hw]
  exact h
theorem quietAt_value {a : Act} {o : Oper} {W : World} {x : Value} (h : (execOp a.eval o).run P W = .ok (.value x) W) : Oper.quietAt P o a C W x := by
  unfold Oper.quietAt
  rw [h]
  exact ⟨rfl, rfl⟩
theorem quietAt_call {a : Act} {o : Oper} {W : World} {x : Value} {f : FuncId} {args : Array Value} (h : (execOp a.eval o).run P W = .ok (.enter f args) W) (hc : Calls P f args W fun e w' => e = .returned x ∧ C w') : Oper.quietAt P o a C W x := by
  unfold Oper.quietAt
  rw [h]
  exact ⟨rfl, hc⟩

/-- A block known whole. -/
def Blk (W : World) (g : Nat) (cs : List Value) (T : TypeId) : Prop := W.heap[g]? = some (.cells cs.toArray T (0, 0))
theorem Blk.cell {W : World} {g : Nat} {cs : List Value} {T : TypeId} (h : Blk W g cs T) (i : Nat) {v : Value} (hi : cs[i]? = some v) : W.cell? ⟨g, i, none⟩ = some v := by
  unfold Blk at h
  simp [World.cell?, h, hi]
theorem Blk.frozen {W : World} {g : Nat} {cs : List Value} {T : TypeId} (h : Blk W g cs T) (i : Nat) : W.frozen? ⟨g, i, none⟩ = false := by
  unfold Blk at h
  simp [World.frozen?, h]
theorem Blk.set {W : World} {g : Nat} {cs : List Value} {T : TypeId} (h : Blk W g cs T) (i : Nat) (v : Value) : Blk (W.setCell ⟨g, i, none⟩ v) g (cs.set i v) T := by
  unfold Blk at *
  simp [World.setCell, Array.getElem?_modify, h]
theorem Blk.other {W : World} {g : Nat} {cs : List Value} {T : TypeId} (h : Blk W g cs T) {a : Addr} (ha : g ≠ a.block) (v : Value) : Blk (W.setCell a v) g cs T := by
  unfold Blk at *
  rw [Below.heap_setCell _ _ _ _ ha]
  exact h
theorem Blk.drew {W : World} {g : Nat} {cs : List Value} {T : TypeId} (h : Blk W g cs T) : Blk W.drew g cs T := h
theorem Blk.drewN {W : World} {g : Nat} {cs : List Value} {T : TypeId} (h : Blk W g cs T) (n : Nat) : Blk (W.drewN n) g cs T := h
theorem Blk.lt {W : World} {g : Nat} {cs : List Value} {T : TypeId} (h : Blk W g cs T) : g < W.heap.size := (Array.getElem?_eq_some_iff.1 h).1
theorem Blk.alloc {W : World} {g : Nat} {cs : List Value} {T : TypeId} (h : Blk W g cs T) (o : Obj) : Blk (W.alloc o) g cs T := by
  unfold Blk at *
  rw [Below.heap_alloc _ _ _ (Array.getElem?_eq_some_iff.1 h).1]
  exact h
theorem Blk.ext {W W' : World} {g : Nat} {cs : List Value} {T : TypeId} (h : Blk W g cs T) (hx : Ext W W') : Blk W' g cs T := hx.heap h
theorem Blk.congr {W : World} {g : Nat} {cs cs' : List Value} {T : TypeId} (h : Blk W g cs T) (e : cs = cs') : Blk W g cs' T := e ▸ h
theorem Blk.new (W : World) (cs : List Value) (T : TypeId) : Blk (W.alloc (.cells cs.toArray T)) W.heap.size cs T := by
  unfold Blk World.alloc
  simp

/-- But for block g all that lay there lies there still. -/
structure But (g : Nat) (w w' : World) : Prop where
  os : w'.os = w.os
  tape : w'.tape = w.tape
  output : w'.output = w.output
  size : w.heap.size ≤ w'.heap.size
  block : ∀ k, k < w.heap.size → k ≠ g → w'.heap[k]? = w.heap[k]?
theorem But.refl (g : Nat) (w : World) : But g w w := ⟨rfl, rfl, rfl, Nat.le_refl _, fun _ _ _ => rfl⟩
theorem But.trans {g : Nat} {a b c : World} (h : But g a b) (k : But g b c) : But g a c :=
  ⟨k.os.trans h.os, k.tape.trans h.tape, k.output.trans h.output, Nat.le_trans h.size k.size, fun i hi hg => (k.block i (Nat.lt_of_lt_of_le hi h.size) hg).trans (h.block i hi hg)⟩
theorem But.drew {g : Nat} {a b : World} (h : But g a b) : But g a b.drew := ⟨h.os, h.tape, h.output, h.size, h.block⟩
theorem But.drewN {g : Nat} {a b : World} (h : But g a b) (n : Nat) : But g a (b.drewN n) := ⟨h.os, h.tape, h.output, h.size, h.block⟩
theorem But.set {g : Nat} {a b : World} (h : But g a b) (i : Nat) (v : Value) : But g a (b.setCell ⟨g, i, none⟩ v) :=
  ⟨h.os, h.tape, h.output, by simp [World.setCell]; exact h.size, fun k hk hg => (Below.heap_setCell _ _ _ _ hg).trans (h.block k hk hg)⟩
theorem But.setNew {g : Nat} {a b : World} (h : But g a b) {p : Addr} (hp : a.heap.size ≤ p.block) (v : Value) : But g a (b.setCell p v) :=
  ⟨h.os, h.tape, h.output, by simp [World.setCell]; exact h.size, fun k hk hg => (Below.heap_setCell _ _ _ _ (by omega)).trans (h.block k hk hg)⟩
theorem But.alloc {g : Nat} {a b : World} (h : But g a b) (o : Obj) : But g a (b.alloc o) :=
  ⟨h.os, h.tape, h.output, by have := h.size; simp; omega, fun k hk hg => (Below.heap_alloc _ _ _ (Nat.lt_of_lt_of_le hk h.size)).trans (h.block k hk hg)⟩
theorem But.ext {g : Nat} {a b c : World} (h : But g a b) (k : Ext b c) : But g a c :=
  ⟨k.os.trans h.os, k.tape.trans h.tape, k.output.trans h.output, Nat.le_trans h.size k.size, fun i hi hg => (k.block i (Nat.lt_of_lt_of_le hi h.size)).trans (h.block i hi hg)⟩
/-- What was changed is new: nothing old was. -/
theorem But.toExt {g : Nat} {a b c : World} (h : Ext a b) (k : But g b c) (hg : a.heap.size ≤ g) : Ext a c :=
  ⟨k.os.trans h.os, k.tape.trans h.tape, k.output.trans h.output, Nat.le_trans h.size k.size, fun i hi => (k.block i (Nat.lt_of_lt_of_le hi h.size) (by omega)).trans (h.block i hi)⟩
theorem But.blk {g g' : Nat} {a b : World} (h : But g a b) {cs : List Value} {T : TypeId} (hb : Blk a g' cs T) (hne : g' ≠ g) : Blk b g' cs T := (h.block g' hb.lt hne).trans hb

/-- The world under a name of its own, with what is to be known of it. -/
theorem wp_gen {c : Code} {Q : Exit → Act → World → Prop} {a : Act} {w : World} (R : World → Prop) (hR : R w) (h : ∀ w', R w' → Code.wp P c Q a w') : Code.wp P c Q a w := h w hR
theorem wpList_gen {l : List Oper} {Q : Exit → Act → World → Prop} {a : Act} {w : World} (R : World → Prop) (hR : R w) (h : ∀ w', R w' → wpList P ops Q l a w') : wpList P ops Q l a w := h w hR
end
end Go.Proofs.Ytgchfibcaecjcaa
/- Whole arrays and structs by value, out of and into a block known whole: no cell by itself. -/
namespace Go.Proofs.Ytgchfibcaecjcaa
open Go.RowKit
set_option linter.unusedVariables false
section
variable {P : Program}

def isRowT (P : Program) (T : TypeId) (n : Nat) : Prop := (match P.underlying T with | some (.struct _) => true | some (.array _ _) => true | _ => false) = true ∧ (P.info? T).map (·.size) = some n

theorem isRowT.parts {T : TypeId} {n : Nat} (h : isRowT P T n) : (∃ fs, P.underlying T = some (.struct fs)) ∨ ∃ n e, P.underlying T = some (.array n e) := by
  obtain ⟨h1, _⟩ := h
  cases hq : P.underlying T with
  | none => simp [hq] at h1
  | some d =>
    rw [hq] at h1
    cases d <;> simp_all

theorem run_loadVar_blk {w : World} {g : Nat} {cs : List Value} {T T' : TypeId} (hT : isRowT P T cs.length) (hb : Blk w g cs T') : (loadVar T ⟨g, 0, none⟩).run P w = .ok (.agg cs.toArray) w := by
  rcases hT.parts with ⟨fs, hu⟩ | ⟨n, e, hu⟩
  · exact run_loadVar_row w g T' T cs.toArray (0, 0) _ hb hu rfl (by simpa using hT.2)
  · exact run_loadVar_row w g T' T cs.toArray (0, 0) _ hb hu rfl (by simpa using hT.2)
theorem run_loadAt_blk {w : World} {g : Nat} {cs : List Value} {T T' : TypeId} (hT : isRowT P T cs.length) (hb : Blk w g cs T') : (Instr.loadAt T (.pointer (some ⟨g, 0, none⟩))).run P w = .ok (.agg cs.toArray) w := by
  simp only [Instr.loadAt, Instr.sureAddr, Sem.run_bind, Sem.run_pure, Result.andThen]
  exact run_loadVar_blk hT hb

/-- A whole row read. -/
theorem wpList_load_blk {w : World} {ops : Array Oper} {rest : List Oper} {o : Oper} {a : Act} {Q : Exit → Act → World → Prop} (hw : Region.wanted o (yielded ops a.tmps) = true) (T : TypeId) (x : Operand) (ho : o.op = .load T x)
    (g : Nat) (hx : a.eval x = .pointer (some ⟨g, 0, none⟩)) {cs : List Value} {T' : TypeId} (hT : isRowT P T cs.length) (hb : Blk w g cs T')
    (h : wpList P ops Q rest (a.put o.dst (.agg cs.toArray)) w) : wpList P ops Q (o :: rest) a w := by
  unfold wpList
  rw [if_pos hw]
  refine .inl ?_
  rcases hT.parts with ⟨fs, hu⟩ | ⟨n, e, hu⟩
  · exact wp_load_row T x ho g hx T' cs.toArray (0, 0) _ hb hu rfl (by simpa using hT.2) h
  · exact wp_load_row T x ho g hx T' cs.toArray (0, 0) _ hb hu rfl (by simpa using hT.2) h

theorem quietAt_load_blk {W : World} {C : World → Prop} {a : Act} {o : Oper} {T T' : TypeId} {x : Operand} (ho : o.op = .load T x) {g : Nat} {cs : List Value} (hx : a.eval x = .pointer (some ⟨g, 0, none⟩)) (hT : isRowT P T cs.length) (hb : Blk W g cs T') :
    Oper.quietAt P o a C W (.agg cs.toArray) := by
  refine quietAt_value ?_
  simp only [execOp, ho, hx, Sem.run_bind, run_loadAt_blk hT hb, Result.andThen]
  rfl

/-- A whole row written. -/
theorem wpList_store_blk {w : World} {ops : Array Oper} {rest : List Oper} {o : Oper} {a : Act} {Q : Exit → Act → World → Prop} (hgd : o.guard = none) (T : TypeId) (x y : Operand) (ho : o.op = .store T x y)
    (g : Nat) (hx : a.eval x = .pointer (some ⟨g, 0, none⟩)) (cs : List Value) (hy : a.eval y = .agg cs.toArray) {cs' : List Value} {T' : TypeId} (hb : Blk w g cs' T') (hT : isRowT P T cs.length) (hl : cs'.length = cs.length) (h1 : cs.all (·.oneCell') = true)
    (h : ∀ W, Blk W g cs T' → But g w W → wpList P ops Q rest (a.put o.dst undef) W) : wpList P ops Q (o :: rest) a w := by
  refine wpList_store_row hgd T x y ho g cs.toArray hx hy T' cs'.toArray hb (by simpa using hT.2) (by simpa using hl) (by simpa using h1) (h _ ?_ ?_)
  · exact setRow_heap w g _ _ T' _ hb
  · exact ⟨rfl, rfl, rfl, by simp [World.setRow], fun k hk hg => setRow_other w g k _ hg⟩
theorem results_cell_tmp {fn : Func} {p q : Tmp} {T : TypeId} (h : fn.results = #[.cell p T, .tmp q]) (tmps : Array Value) (w : World) {g : Nat} {cs : List Value} {T' : TypeId} {v : Value}
    (hp : tmps.getD p undef = .pointer (some ⟨g, 0, none⟩)) (hT : isRowT P T cs.length) (hb : Blk w g cs T') (hq : tmps.getD q undef = v) :
    (results fn tmps).run P w = .ok (.tuple #[.agg cs.toArray, v]) w := by
  have hp' : tmps[p]?.getD undef = .pointer (some ⟨g, 0, none⟩) := by simpa using hp
  have hq' : tmps[q]?.getD undef = v := by simpa using hq
  simp [results, h, hp', hq', asAddr, run_loadVar_blk hT hb]
end
end Go.Proofs.Ytgchfibcaecjcaa
/- What a call owns and grows: the kit's laws of append beside the class 'the world has grown'. -/
namespace Go.Proofs.Ytgchfibcaecjcaa
open Go.RowKit
set_option linter.unusedVariables false

theorem Grown.toExt {w0 w w' : World} {row : Option Nat} (h : Ext w0 w) (hg : w.grownBy w' row) (hrow : ∀ k, row = some k → w0.heap.size ≤ k) : Ext w0 w' :=
  ⟨hg.os.trans h.os, hg.tape.trans h.tape, hg.output.trans h.output, Nat.le_trans h.size hg.size, fun i hi => (hg.block i (Nat.lt_of_lt_of_le hi h.size) (fun e => by have := hrow i e.symm; omega)).trans (h.block i hi)⟩
theorem Grown.blk {w w' : World} {row : Option Nat} (hg : w.grownBy w' row) {g : Nat} {cs : List Value} {T : TypeId} (hb : Blk w g cs T) (hne : some g ≠ row) : Blk w' g cs T := (hg.block g hb.lt hne).trans hb
theorem Grown.heap {w w' : World} {row : Option Nat} (hg : w.grownBy w' row) {g : Nat} {o : Obj} (hb : w.heap[g]? = some o) (hne : some g ≠ row) : w'.heap[g]? = some o := (hg.block g (Array.getElem?_eq_some_iff.1 hb).1 hne).trans hb
theorem Ext.grown {w w' : World} (h : Ext w w') : w.grownBy w' none := ⟨h.os, h.tape, h.output, h.size, fun k hk _ => h.block k hk⟩
theorem Owns.ext {w w' : World} {base : Nat} {e : TypeId} {size : Nat} {v : Value} {n : Nat} {xs : List Value} (h : w.ownsRow base e size v n xs) (hx : Ext w w') : w'.ownsRow base e size v n xs :=
  h.kept (Ext.grown hx) (by cases hv : v.ownBlock <;> simp)
theorem But.grown {w w' : World} {g : Nat} (h : But g w w') : w.grownBy w' (some g) := ⟨h.os, h.tape, h.output, h.size, fun k hk hne => h.block k hk (by intro e; exact hne (by rw [e]))⟩
theorem Owns.but {w w' : World} {base : Nat} {e : TypeId} {size : Nat} {v : Value} {n : Nat} {xs : List Value} {g : Nat} (h : w.ownsRow base e size v n xs) (hx : But g w w') (hg : g < base) : w'.ownsRow base e size v n xs :=
  h.kept (But.grown hx) (by
    cases hv : v.ownBlock with
    | none => exact .inl rfl
    | some k =>
      refine .inr (fun e => ?_)
      cases e
      have := (h.lt _ hv).1
      omega)
theorem Owns.set {w : World} {base : Nat} {e : TypeId} {size : Nat} {v : Value} {n : Nat} {xs : List Value} {g : Nat} (h : w.ownsRow base e size v n xs) (i : Nat) (u : Value) (hg : g < base) : (w.setCell ⟨g, i, none⟩ u).ownsRow base e size v n xs :=
  Owns.but h ((But.refl g w).set i u) hg
/-- A row that is owned reads as its cells (elements of one cell). -/
theorem Owns.shape {w : World} {base : Nat} {e : TypeId} {v : Value} {n : Nat} {xs : List Value} (h : w.ownsRow base e 1 v n xs) : ∃ A cap, v = .slice A n cap ∧ n ≤ cap ∧ xs.length = n ∧ (xs = [] ∧ A = none ∨ ∃ g, A = some ⟨g, 0, none⟩ ∧ base ≤ g ∧ ∀ j u, xs[j]? = some u → w.cell? ⟨g, j, none⟩ = some u) := by
  obtain ⟨hl, h⟩ := h
  rw [Nat.mul_one] at hl
  rcases h with ⟨rfl, rfl⟩ | ⟨g, cap, cur, rfl, hb, hg, hn, _, hs, ht⟩
  · exact ⟨none, 0, rfl, Nat.le_refl _, hl, .inl ⟨List.eq_nil_of_length_eq_zero hl, rfl⟩⟩
  · refine ⟨_, cap, rfl, hn, hl, .inr ⟨g, rfl, hb, fun j u hu => ?_⟩⟩
    rw [cell_of_row w g j cur e (0, 0) hg]
    rw [← ht, List.getElem?_take] at hu
    split at hu
    · simpa using hu
    · cases hu
/-- A row that is owned and not empty: its block. -/
theorem Owns.blk {w : World} {base : Nat} {e : TypeId} {v : Value} {n : Nat} {xs : List Value} (h : w.ownsRow base e 1 v n xs) (hn : 0 < n) : ∃ g cap rest, v = .slice (some ⟨g, 0, none⟩) n cap ∧ base ≤ g ∧ n ≤ cap ∧ xs.length = n ∧ Blk w g (xs ++ rest) e := by
  obtain ⟨hl, h⟩ := h
  rw [Nat.mul_one] at hl
  rcases h with ⟨rfl, rfl⟩ | ⟨g, cap, cur, rfl, hb, hg, hn', _, hs, ht⟩
  · omega
  · refine ⟨g, cap, cur.toList.drop n, rfl, hb, hn', hl, ?_⟩
    rw [Nat.mul_one] at ht
    rw [← ht, List.take_append_drop]
    exact hg
/-- 'append(out, x)', x of one cell in a block of its own. -/
theorem wpList_append1 {P : Program} {w : World} {ops : Array Oper} {rest : List Oper} {o : Oper} {a : Act} {Q : Exit → Act → World → Prop} (hgd : o.guard = none) (s x : Operand) (t : TypeId)
    (ho : o.op = .call { callee := .builtin .append, args := #[s, x], argTypes := #[t, t] })
    (base : Nat) (e : TypeId) (i : TypeInfo) (z : Value) (bytes : Nat) (ht : P.underlying t = some (.slice e)) (hi : P.info? e = some i) (hz : i.zero = some z)
    (hsize : i.size = 1) (hby : i.bytes = bytes) (hzs : z.cells.size = 1)
    (v : Value) (n : Nat) (xs : List Value) (hs : a.eval s = v) (hown : w.ownsRow base e 1 v n xs)
    (g c : Nat) (u : Value) (hx : a.eval x = .slice (some ⟨g, 0, none⟩) 1 c) (hc : w.cell? ⟨g, 0, none⟩ = some u) (h1 : u.oneCell' = true)
    (h63 : n + 1 ≤ maxLen) (hbytes : (n + 1) * bytes ≤ 140737488355328) (hbase : base ≤ w.heap.size)
    (h : ∀ v' w', w'.ownsRow base e 1 v' (n + 1) (xs ++ [u]) → w.grownBy w' v.ownBlock → wpList P ops Q rest (a.put o.dst v') w') : wpList P ops Q (o :: rest) a w := by
  refine wpList_append_own w hgd s x t ho base e i z 1 bytes ht hi hz hsize hby hzs (by decide) v n xs hs hown ⟨g, 0, none⟩ 1 c [u] hx rfl ?_ ?_ h63 hbytes hbase (fun v' w' h2 h3 _ => h v' w' h2 h3)
  · intro j y hj
    cases j with
    | zero =>
      cases hj
      exact hc
    | succ j => cases hj
  · intro y hy
    rw [List.mem_singleton.1 hy]
    exact h1
theorem Owns.notNil {w : World} {base : Nat} {e : TypeId} {size : Nat} {v : Value} {n : Nat} {xs : List Value} (h : w.ownsRow base e size v n xs) : ∀ k, v.ownBlock = some k → base ≤ k := fun k hk => (h.lt k hk).1
theorem Blk.newAt (W : World) (cs : List Value) (T : TypeId) (n : Nat) (h : n = W.heap.size) : Blk (W.alloc (.cells cs.toArray T)) n cs T := h ▸ Blk.new W cs T
end Go.Proofs.Ytgchfibcaecjcaa
/- Regions that draw their order: what only reads is taken first, the rest follows in the one order that is left; what the reads see must stay only till all of them are taken. -/
namespace Go.Proofs.Ytgchfibcaecjcaa
open Go.RowKit
set_option linter.unusedVariables false
section
variable {P : Program} {ops : Array Oper} {md : Region.Mode} {S : World → Prop} {Q : Exit → Act → World → Prop}

/-- No panic. -/
def QF (Q : Exit → Act → World → Prop) : Exit → Act → World → Prop
  | .panic _, _, _ => False
  | e, a, w => Q e a w
def Q0 (Q : Exit → Act → World → Prop) : Exit → Act → World → Prop := Exit.then (fun a w => Q .normal a w) (QF Q)
theorem Q0_le (e : Exit) (a : Act) (w : World) (h : Q0 Q e a w) : Q e a w := by
  cases e <;> first | exact h | exact h.elim

def wpAnyT (P : Program) (md : Region.Mode) (ops : Array Oper) (Q : Exit → Act → World → Prop) (S : World → Prop) (n : Nat) : Nat → Array Bool → Act → World → Prop
  | 0, listed, a, w => Region.ready md ops listed = [] ∧ Q .normal a w
  | fuel + 1, listed, a, w =>
    (Region.ready md ops listed = [] → Q .normal a w) ∧
    ∀ i ∈ Region.ready md ops listed, wpOp P ops Q i (fun a' w' => (i < n → S w') ∧ wpAnyT P md ops Q S n fuel (listed.setIfInBounds i true) a' w') a w
theorem wpAny_of_T {n : Nat} : ∀ (fuel : Nat) (listed : Array Bool) (a : Act) (w : World), wpAnyT P md ops Q S n fuel listed a w → wpAny P md ops Q fuel listed a w
  | 0, _, _, _, h => h
  | fuel + 1, _, _, _, h => ⟨h.1, fun i hi => wpOp_mono (fun a' w' h' => wpAny_of_T fuel _ a' w' h'.2) (h.2 i hi)⟩

theorem wpAnyT_first {n i : Nat} {oi : Oper} {v : Value} (hi : ops[i]? = some oi) (hsel : ∀ (j : Nat) (o : Oper) cs b, ops[j]? = some o → o.op ≠ .select cs b)
    (hQ : ∀ c a w, Q (.panic c) (a.put oi.dst v) w → Q (.panic c) a w)
    (hwt : ∀ listed, HeadInv md ops n listed → ∀ i, i < n → listed.getD i true = false → ∀ j ∈ Region.ready md ops listed, j < n) (hin : i < n) :
    ∀ (fuel : Nat) (listed : Array Bool) (a : Act) (w : World), HeadInv md ops n listed →
      (∀ j oj, ops[j]? = some oj → j ≠ i → listed.getD j true = false → (∀ e ∈ oj.after, Region.binds md e = true → e.on ≠ i) → oi.apart ops oj = true) →
      i ∈ Region.ready md ops listed → YieldsIf P ops S oi v a → S w →
      wpAnyT P md ops Q S n fuel (listed.setIfInBounds i true) (a.put oi.dst v) w → wpAnyT P md ops Q S n (fuel + 1) listed a w := by
  intro fuel
  induction fuel with
  | zero =>
    intro listed a w inv _ hr hy hS H
    refine ⟨fun h => (by rw [h] at hr; cases hr), fun j hj => ?_⟩
    by_cases hji : j = i
    · subst hji; exact hy.wpOp hi hS ⟨fun _ => hS, H⟩
    · have := ready_mono hj hji
      rw [H.1] at this
      cases this
  | succ fuel ih =>
    intro listed a w inv hfree hr hy hS H
    have hun := (mem_ready.1 hr).1
    refine ⟨fun h => (by rw [h] at hr; cases hr), fun j hj => ?_⟩
    have hjn : j < n := hwt listed inv i hin hun j hj
    by_cases hji : j = i
    · subst hji; exact hy.wpOp hi hS ⟨fun _ => hS, H⟩
    · have h1 := H.2 j (ready_mono hj hji)
      obtain ⟨hjun, oj, hoj, hall⟩ := mem_ready.1 hj
      have hnot : ∀ e ∈ oj.after, Region.binds md e = true → e.on ≠ i := fun e he hb heq => by
        have h1 := hall e he hb
        rw [heq, getD_both hun] at h1
        cases h1
      have h2 := wpOp_putIf hoj (hfree j oj hoj hji hjun hnot) (fun cs b => hsel i oi cs b hi) (fun cs b => hsel j oj cs b hoj) hQ hy h1
      have hfree' : ∀ k ok, ops[k]? = some ok → k ≠ i → (listed.setIfInBounds j true).getD k true = false →
          (∀ e ∈ ok.after, Region.binds md e = true → e.on ≠ i) → oi.apart ops ok = true := fun k ok hk hki hun hno => by
        refine hfree k ok hk hki ?_ hno
        by_cases hjk : j = k
        · subst hjk; exact hjun
        · rw [getD_set_ne true hjk] at hun; exact hun
      refine wpOp_mono (fun a' w' h3 => ?_) h2
      obtain ⟨h3, h4, h5⟩ := h3
      have hS' := h4 hjn
      refine ⟨fun _ => hS', ih (listed.setIfInBounds j true) a' w' (inv.set hj hjn) hfree' (ready_mono hr (Ne.symm hji)) h3 hS' ?_⟩
      rw [Array.setIfInBounds_comm _ _ hji]
      exact h5

def mixB (md : Region.Mode) (ops : Array Oper) (n : Nat) : List (Nat × Bool) → Array Bool → Bool
  | [], listed => (Region.ready md ops listed).isEmpty
  | (i, true) :: r, listed => (Region.ready md ops listed).contains i && Region.free md ops listed i && decide (i < n) && mixB md ops n r (listed.setIfInBounds i true)
  | (i, false) :: r, listed => decide (Region.ready md ops listed = [i]) && (decide (i < n) || r.all fun s => !s.2) && mixB md ops n r (listed.setIfInBounds i true)
def mixTopB (ops : Array Oper) (n : Nat) (st : List (Nat × Bool)) : Bool :=
  Region.noSelect ops && decide (n < ops.size) && Region.sinkB .any ops n && Region.chainB .any ops n && decide (st.length = ops.size) && mixB .any ops n st (Array.replicate ops.size false)
def wpMix (P : Program) (ops : Array Oper) (Q : Exit → Act → World → Prop) (S : World → Prop) (n : Nat) : List (Nat × Bool) → Act → World → Prop
  | [], a, w => Q .normal a w
  | (i, true) :: r, a, w => ∃ o v, ops[i]? = some o ∧ YieldsIf P ops S o v a ∧ wpMix P ops Q S n r (a.put o.dst v) w
  | (i, false) :: r, a, w => wpOp P ops Q i (fun a' w' => (i < n → S w') ∧ wpMix P ops Q S n r a' w') a w

theorem wpAnyT_false {n : Nat} : ∀ (st : List (Nat × Bool)) (listed : Array Bool) (a : Act) (w : World), (st.all fun s => !s.2) = true → mixB md ops n st listed = true → wpMix P ops Q S n st a w → wpAnyT P md ops Q S n st.length listed a w
  | [], listed, a, w, _, hB, h => ⟨by simpa [mixB] using hB, h⟩
  | (i, true) :: r, listed, a, w, hf, _, _ => by simp at hf
  | (i, false) :: r, listed, a, w, hf, hB, h => by
    simp only [mixB, Bool.and_eq_true, decide_eq_true_eq] at hB
    refine ⟨fun h0 => by rw [h0] at hB; exact absurd hB.1.1 (by simp), fun j hj => ?_⟩
    rw [hB.1.1] at hj
    have : j = i := by simpa using hj
    subst this
    exact wpOp_mono (fun a' w' h' => ⟨h'.1, wpAnyT_false r _ a' w' (by simpa using hf) hB.2 h'.2⟩) h

theorem wpAnyT_mix {n : Nat} (hsel : Region.noSelect ops = true) (hQ : ∀ c a d v w, Q (.panic c) (a.put d v) w → Q (.panic c) a w)
    (hwt : ∀ listed, HeadInv md ops n listed → ∀ i, i < n → listed.getD i true = false → ∀ j ∈ Region.ready md ops listed, j < n) :
    ∀ (st : List (Nat × Bool)) (listed : Array Bool) (a : Act) (w : World), HeadInv md ops n listed → S w → mixB md ops n st listed = true → wpMix P ops Q S n st a w → wpAnyT P md ops Q S n st.length listed a w
  | [], listed, a, w, _, _, hB, h => ⟨by simpa [mixB] using hB, h⟩
  | (i, true) :: r, listed, a, w, inv, hS, hB, h => by
    simp only [mixB, Bool.and_eq_true, decide_eq_true_eq] at hB
    obtain ⟨⟨⟨hr, hf⟩, hin⟩, hB'⟩ := hB
    obtain ⟨o, v, ho, hy, hk⟩ := h
    have hr' : i ∈ Region.ready md ops listed := by simpa using hr
    exact wpAnyT_first ho (Region.noSelect_spec hsel) (fun c a w => hQ c a o.dst v w) hwt hin r.length listed a w inv (Region.free_spec ho hf) hr' hy hS
      (wpAnyT_mix hsel hQ hwt r _ _ _ (inv.set hr' hin) hS hB' hk)
  | (i, false) :: r, listed, a, w, inv, hS, hB, h => by
    have hB0 := hB
    simp only [mixB, Bool.and_eq_true, decide_eq_true_eq] at hB
    refine ⟨fun h0 => by rw [h0] at hB; exact absurd hB.1.1 (by simp), fun j hj => ?_⟩
    have hj' := hj
    rw [hB.1.1] at hj
    have : j = i := by simpa using hj
    subst this
    refine wpOp_mono (fun a' w' h' => ⟨h'.1, ?_⟩) h
    by_cases hin : j < n
    · exact wpAnyT_mix hsel hQ hwt r _ a' w' (inv.set hj' hin) (h'.1 hin) hB.2 h'.2
    · have hall : (r.all fun s => !s.2) = true := by
        have := hB.1.2
        simpa [hin] using this
      exact wpAnyT_false r _ a' w' hall hB.2 h'.2

theorem wp_region_mix {id : Nat} {a : Act} {w : World} {l : List Oper} (S : World → Prop) (n : Nat) (st : List (Nat × Bool)) (hm : P.follows .mixedOrders = true) (hB : mixTopB l.toArray n st = true) (hS : S { w with drawn := w.drawn + 1 })
    (h : wpMix P l.toArray (Q0 Q) S n st a { w with drawn := w.drawn + 1 }) : (Code.region id l.toArray true).wp P Q a w := by
  simp only [mixTopB, Bool.and_eq_true, decide_eq_true_eq] at hB
  obtain ⟨⟨⟨⟨⟨hsel, hn⟩, hs⟩, hc⟩, hlen⟩, hB⟩ := hB
  refine Code.wp_mono Q0_le (wp_region_any hm ?_)
  have inv0 : HeadInv .any l.toArray n (Array.replicate l.toArray.size false) :=
    ⟨by simp, fun j oj _ hl => (by rw [getD_replicate_false] at hl; cases hl), fun t _ ht => getD_in (by simpa using ht) (getD_replicate_false _ _)⟩
  have h1 := wpAnyT_mix (P := P) (md := .any) (Q := Q0 Q) (S := S) hsel (fun c a d v w h => h) (fun listed inv i hin hun j hj => by
    rcases Nat.lt_or_ge j n with h | h
    · exact h
    · exact absurd hj (tail_waits hs hc hn inv _ i rfl hin hun j h)) st (Array.replicate l.toArray.size false) a _ inv0 hS hB h
  rw [hlen] at h1
  exact wpAny_of_T _ _ _ _ h1

def mixAllB (ops : Array Oper) (st : List (Nat × Bool)) : Bool :=
  Region.noSelect ops && decide (st.length = ops.size) && mixB .any ops ops.size st (Array.replicate ops.size false)
/-- The same where every operation keeps what the reads see. -/
theorem wp_region_mixAll {id : Nat} {a : Act} {w : World} {l : List Oper} (S : World → Prop) (st : List (Nat × Bool)) (hm : P.follows .mixedOrders = true) (hB : mixAllB l.toArray st = true) (hS : S { w with drawn := w.drawn + 1 })
    (h : wpMix P l.toArray (Q0 Q) S l.toArray.size st a { w with drawn := w.drawn + 1 }) : (Code.region id l.toArray true).wp P Q a w := by
  simp only [mixAllB, Bool.and_eq_true, decide_eq_true_eq] at hB
  obtain ⟨⟨hsel, hlen⟩, hB⟩ := hB
  refine Code.wp_mono Q0_le (wp_region_any hm ?_)
  have inv0 : HeadInv .any l.toArray l.toArray.size (Array.replicate l.toArray.size false) :=
    ⟨by simp, fun j oj _ hl => (by rw [getD_replicate_false] at hl; cases hl), fun t _ ht => getD_in (by simpa using ht) (getD_replicate_false _ _)⟩
  have h1 := wpAnyT_mix (P := P) (md := .any) (Q := Q0 Q) (S := S) hsel (fun c a d v w h => h) (fun listed inv i hin hun j hj => by
    obtain ⟨_, oj, hoj, _⟩ := mem_ready.1 hj
    exact (Array.getElem?_eq_some_iff.1 hoj).1) st (Array.replicate l.toArray.size false) a _ inv0 hS hB h
  rw [hlen] at h1
  exact wpAny_of_T _ _ _ _ h1
theorem mix_nil {n : Nat} {a : Act} {w : World} (h : Q .normal a w) : wpMix P ops Q S n [] a w := h

theorem mix_read {l : List Oper} {n i : Nat} {r : List (Nat × Bool)} {a : Act} {w : World} {o : Oper} (x : Value) (a' : Act) (ho : l[i]? = some o) (hw : Region.wanted o (yielded l.toArray a.tmps) = true) (h1 : ∀ W, S W → (execOp a.eval o).run P W = .ok (.value x) W)
    (hp : a.put o.dst x = a') (h : wpMix P l.toArray Q S n r a' w) : wpMix P l.toArray Q S n ((i, true) :: r) a w := ⟨o, x, by simpa using ho, .inl ⟨hw, h1⟩, hp ▸ h⟩
theorem mix_skip {l : List Oper} {n i : Nat} {r : List (Nat × Bool)} {a : Act} {w : World} {o : Oper} (a' : Act) (ho : l[i]? = some o) (hw : Region.wanted o (yielded l.toArray a.tmps) = false)
    (hp : a.put o.dst undef = a') (h : wpMix P l.toArray Q S n r a' w) : wpMix P l.toArray Q S n ((i, true) :: r) a w := ⟨o, undef, by simpa using ho, .inr ⟨hw, rfl⟩, hp ▸ h⟩
theorem wpList_cons_wpOp {i : Nat} {o : Oper} {rest : List Oper} {a : Act} {w : World} (ho : ops[i]? = some o) (h : wpList P ops Q (o :: rest) a w) : wpOp P ops Q i (wpList P ops Q rest) a w := by
  unfold wpOp
  rw [ho]
  exact h
/-- The end in its one order. -/
theorem mix_tail {n : Nat} : ∀ (st : List (Nat × Bool)) (l : List Oper) (a : Act) (w : World), (st.all fun s => !s.2 && decide (n ≤ s.1)) = true → (st.map fun s => ops[s.1]?) = l.map some → wpList P ops Q l a w → wpMix P ops Q S n st a w
  | [], l, a, w, _, hl, h => by
    cases l with
    | nil => exact h
    | cons o l => simp at hl
  | (i, true) :: r, l, a, w, hf, _, _ => by simp at hf
  | (i, false) :: r, l, a, w, hf, hl, h => by
    cases l with
    | nil => simp at hl
    | cons o l =>
      simp only [List.map_cons, List.cons.injEq] at hl
      simp only [List.all_cons, Bool.and_eq_true, decide_eq_true_eq, Bool.not_eq_true'] at hf
      exact wpOp_mono (fun a' w' h' => ⟨fun hi => absurd hi (by omega), mix_tail r l a' w' hf.2 hl.2 h'⟩) (wpList_cons_wpOp hl.1 h)
theorem wpOp_of_list {i : Nat} {o : Oper} {K : Act → World → Prop} {a : Act} {w : World} (ho : ops[i]? = some o) (h : wpList P ops (Exit.then K Q) [o] a w) : wpOp P ops Q i K a w := by
  unfold wpOp
  rw [ho]
  unfold wpList at h
  simp only at h ⊢
  split
  · rename_i hw
    rw [if_pos hw] at h
    rcases h with h | ⟨h1, h2⟩
    · left
      unfold Oper.wp at *
      generalize (execOp a.eval o).run P w = r at *
      cases r with
      | ok nx w' => cases nx <;> exact h
      | halt x w' => cases x <;> exact h
    · right
      exact ⟨h1, h2⟩
  · rename_i hw
    rw [if_neg hw] at h
    exact h
/-- One operation that is not only a read, ahead of a read's end. -/
theorem mix_loud {l : List Oper} {n i : Nat} {r : List (Nat × Bool)} {a : Act} {w : World} {o : Oper} (ho : l[i]? = some o)
    (h : ∀ K : Act → World → Prop, (∀ a' w', (S w' ∧ wpMix P l.toArray Q S n r a' w') → K a' w') → wpList P l.toArray (Exit.then K Q) [o] a w) : wpMix P l.toArray Q S n ((i, false) :: r) a w :=
  wpOp_mono (fun a' w' h' => ⟨fun _ => h'.1, h'.2⟩) (wpOp_of_list (by simpa using ho) (h _ fun _ _ h => h))
/-- The end in its one order: the operations from number k on. -/
theorem mix_end {n : Nat} {l : List Oper} {st : List (Nat × Bool)} {a : Act} {w : World} (k : Nat) (hst : decide (st = (List.range' k (l.length - k)).map fun i => (i, false)) = true) (hk : decide (n ≤ k) = true) (h : wpList P l.toArray Q (l.drop k) a w) : wpMix P l.toArray Q S n st a w := by
  have hst := of_decide_eq_true hst
  have hk := of_decide_eq_true hk
  subst hst
  refine mix_tail _ (l.drop k) a w ?_ ?_ h
  · simp [List.all_map, List.all_eq_true]
    intro x hx _
    omega
  · rw [List.map_map]
    refine List.ext_getElem? fun j => ?_
    simp only [List.getElem?_map, List.getElem?_drop]
    by_cases hj : j < l.length - k
    · rw [List.getElem?_eq_getElem (show j < (List.range' k (l.length - k)).length by simpa using hj), List.getElem_range', List.getElem?_eq_getElem (show k + j < l.length by omega)]
      simp
    · rw [List.getElem?_eq_none (show (List.range' k (l.length - k)).length ≤ j by simpa using hj), List.getElem?_eq_none (show l.length ≤ k + j by omega)]
      rfl
end
end Go.Proofs.Ytgchfibcaecjcaa
/- Rows of ints and of slices of ints in memory. -/
namespace Go.Proofs.Ytgchfibcaecjcaa
open Go.RowKit
set_option linter.unusedVariables false
set_option linter.unusedSimpArgs false

def ints (l : List Int) : List Value := l.map (Value.int .i64)
theorem ints_length (l : List Int) : (ints l).length = l.length := by simp [ints]
theorem ints_get (l : List Int) (i : Nat) : (ints l)[i]? = l[i]?.map (Value.int .i64) := by simp [ints]
theorem ints_append (a b : List Int) : ints (a ++ b) = ints a ++ ints b := by simp [ints]
def RdV (W : World) (A : Option Addr) (vs : List Value) : Prop := vs = [] ∨ ∃ b o, A = some ⟨b, o, none⟩ ∧ ∀ j v, vs[j]? = some v → W.cell? ⟨b, o + j, none⟩ = some v
theorem RdV.ext {W W' : World} {A : Option Addr} {vs : List Value} (h : RdV W A vs) (hx : Ext W W') : RdV W' A vs := by
  rcases h with h | ⟨b, o, rfl, h⟩
  · exact .inl h
  · exact .inr ⟨b, o, rfl, fun j v hv => hx.cell (h j v hv)⟩
theorem RdV.but {g : Nat} {W W' : World} {A : Option Addr} {vs : List Value} (h : RdV W A vs) (hx : But g W W') (hA : ∀ a, A = some a → a.block ≠ g) : RdV W' A vs := by
  rcases h with h | ⟨b, o, rfl, h⟩
  · exact .inl h
  · exact .inr ⟨b, o, rfl, fun j v hv => by
      have h1 := h j v hv
      have hlt := World.block_lt_of_cell? W _ h1
      have := hx.block b hlt (hA _ rfl)
      unfold World.cell? at h1 ⊢
      simp only at h1 ⊢
      rw [this]
      exact h1⟩
/-- A place that is read: its slice has an address. -/
theorem RdV.at {W : World} {A : Option Addr} {vs : List Value} (h : RdV W A vs) {i : Nat} (hi : i < vs.length) : ∃ b o, A = some ⟨b, o, none⟩ ∧ ∀ j v, vs[j]? = some v → W.cell? ⟨b, o + j, none⟩ = some v := by
  rcases h with h | h
  · rw [h] at hi; simp at hi
  · exact h
/-- A row of a table. -/
structure Row where
  A : Option Addr
  cap : Nat
  xs : List Int
def Row.val (r : Row) : Value := .slice r.A r.xs.length r.cap
/-- A table of rows of ints that reads so. -/
def RdR (W : World) (A : Option Addr) (rs : List Row) : Prop :=
  RdV W A (rs.map Row.val) ∧ ∀ r ∈ rs, RdV W r.A (ints r.xs)
theorem RdR.ext {W W' : World} {A : Option Addr} {rs : List Row} (h : RdR W A rs) (hx : Ext W W') : RdR W' A rs := ⟨h.1.ext hx, fun r hr => (h.2 r hr).ext hx⟩
theorem RdR.at {W : World} {A : Option Addr} {rs : List Row} (h : RdR W A rs) {i : Nat} (hi : i < rs.length) :
    ∃ b o B cap xs, A = some ⟨b, o, none⟩ ∧ rs[i]? = some ⟨B, cap, xs⟩ ∧ W.cell? ⟨b, o + i, none⟩ = some (.slice B xs.length cap) ∧ RdV W B (ints xs) := by
  obtain ⟨b, o, hA, hc⟩ := h.1.at (i := i) (by simpa using hi)
  have he : rs[i]? = some rs[i] := List.getElem?_eq_getElem hi
  generalize hr : rs[i] = r at he
  obtain ⟨B, cap, xs⟩ := r
  refine ⟨b, o, B, cap, xs, hA, he, hc i _ (by rw [List.getElem?_map, he]; rfl), ?_⟩
  exact h.2 ⟨B, cap, xs⟩ (List.mem_of_getElem? he)
def rows (rs : List Row) : List (List Int) := rs.map Row.xs
theorem rows_length (rs : List Row) : (rows rs).length = rs.length := by simp [rows]
theorem rows_get (rs : List Row) (i : Nat) : (rows rs)[i]? = rs[i]?.map Row.xs := by simp [rows]
theorem results_cell {P : Program} {fn : Func} {p : Tmp} {T : TypeId} (h : fn.results = #[.cell p T]) (tmps : Array Value) (w : World) {g : Nat} {cs : List Value} {T' : TypeId}
    (hp : tmps.getD p undef = .pointer (some ⟨g, 0, none⟩)) (hT : isRowT P T cs.length) (hb : Blk w g cs T') : (results fn tmps).run P w = .ok (.agg cs.toArray) w := by
  have hp' : tmps[p]?.getD undef = .pointer (some ⟨g, 0, none⟩) := by simpa using hp
  simp [results, h, hp', asAddr, run_loadVar_blk hT hb]

end Go.Proofs.Ytgchfibcaecjcaa
/- Rows that a call owns: append to one of them; a table of owned rows. -/
namespace Go.Proofs.Ytgchfibcaecjcaa
open Go.RowKit
set_option linter.unusedVariables false
set_option linter.unusedSimpArgs false

section
variable {P : Program}
/-- append of m elements to an owned row: the row's own block, or a new one. -/
theorem wpList_append_row {w : World} {ops : Array Oper} {rest : List Oper} {o : Oper} {a : Act} {Q : Exit → Act → World → Prop} (hgd : o.guard = none) (s x : Operand) (t : TypeId)
    (ho : o.op = .call { callee := .builtin .append, args := #[s, x], argTypes := #[t, t] })
    (base : Nat) (e : TypeId) (i : TypeInfo) (z : Value) (size bytes : Nat) (ht : P.underlying t = some (.slice e)) (hi : P.info? e = some i) (hz : i.zero = some z)
    (hsize : i.size = size) (hby : i.bytes = bytes) (hzs : z.cells.size = size) (hsz : 0 < size)
    (v : Value) (n : Nat) (xs : List Value) (hs : a.eval s = v) (hown : w.ownsRow base e size v n xs)
    (ad : Addr) (m c : Nat) (news : List Value) (hx : a.eval x = .slice (some ad) m c) (hl : news.length = m * size) (hnews : ∀ j u, news[j]? = some u → w.cell? (ad.add j) = some u) (h1 : ∀ u ∈ news, u.oneCell' = true)
    (hm : 0 < m) (h63 : n + m ≤ maxLen) (hbytes : (n + m) * bytes ≤ 140737488355328) (hbase : base ≤ w.heap.size)
    (h : ∀ v' w', w'.ownsRow base e size v' (n + m) (xs ++ news) → w.grownBy w' v.ownBlock → (∀ k, v'.ownBlock = some k → v.ownBlock = some k ∨ w.heap.size ≤ k) → wpList P ops Q rest (a.put o.dst v') w') : wpList P ops Q (o :: rest) a w := by
  have hown' := hown
  obtain ⟨hxl, hv⟩ := hown
  rcases hv with ⟨rfl, rfl⟩ | ⟨g, cap, cur, rfl, hb, hg, hn, hcap, hcs, htk⟩
  · have hx0 : xs = [] := List.eq_nil_of_length_eq_zero (by simpa using hxl)
    subst hx0
    refine wpList_append_grows w hgd s x t ho e i z size bytes ht hi hz hsize hby hzs hsz none 0 0 [] hs (fun _ => ⟨rfl, rfl⟩) (by simp) (fun b hb => by cases hb) ad m c news hx hl hnews h1 (by omega) h63 hbytes (fun v' w' h2 h3 => ?_)
    refine h v' w' ?_ h3 (fun k hk => .inr (h2.lt k hk).1)
    obtain ⟨k1, k2⟩ := h2
    refine ⟨k1, ?_⟩
    rcases k2 with k2 | ⟨g, cap, cur, q1, q2, q3⟩
    · exact .inl k2
    · exact .inr ⟨g, cap, cur, q1, by omega, q3⟩
  · by_cases hroom : n + m ≤ cap
    · refine wpList_append_own_spare w hgd s x t ho base e i size ht hi hsize g n cap xs hs hown' ad m c news hx hl hnews h1 hroom (fun w' h2 h3 => ?_)
      exact h _ w' h2 h3 (fun k hk => .inl hk)
    · refine wpList_append_grows w hgd s x t ho e i z size bytes ht hi hz hsize hby hzs hsz (some ⟨g, 0, none⟩) n cap xs hs (fun e => by cases e) hxl (fun b hb => by cases hb; exact hown'.cells (g := g) rfl) ad m c news hx hl hnews h1 (by omega) h63 hbytes (fun v' w' h2 h3 => ?_)
      refine h v' w' ?_ ⟨h3.os, h3.tape, h3.output, h3.size, fun k hk _ => h3.block k hk (by simp)⟩ (fun k hk => .inr (h2.lt k hk).1)
      obtain ⟨k1, k2⟩ := h2
      refine ⟨k1, ?_⟩
      rcases k2 with k2 | ⟨g, cap, cur, q1, q2, q3⟩
      · exact .inl k2
      · exact .inr ⟨g, cap, cur, q1, by omega, q3⟩

theorem info_parts {e : TypeId} {z : Value} {n m : Nat} (h : (P.info? e).map (fun i => (i.zero, i.size, i.bytes)) = some (some z, n, m)) : ∃ i, P.info? e = some i ∧ i.zero = some z ∧ i.size = n ∧ i.bytes = m := by
  cases hi : P.info? e with
  | none => rw [hi] at h; cases h
  | some i => rw [hi] at h; simp only [Option.map_some, Option.some.injEq, Prod.mk.injEq] at h; exact ⟨i, rfl, h.1, h.2.1, h.2.2⟩

/-- append of one int. -/
theorem wpList_append_int {w : World} {ops : Array Oper} {rest : List Oper} {o : Oper} {a : Act} {Q : Exit → Act → World → Prop} (hgd : o.guard = none) (s x : Operand) (t e : TypeId)
    (ho : o.op = .call { callee := .builtin .append, args := #[s, x], argTypes := #[t, t] }) (ht : P.underlying t = some (.slice e))
    (hinf : (P.info? e).map (fun i => (i.zero, i.size, i.bytes)) = some (some (.int .i64 0), 1, 8)) (base : Nat)
    (v : Value) (xs : List Int) (hs : a.eval s = v) (hown : w.ownsRow base e 1 v xs.length (ints xs))
    (g c : Nat) (u : Int) (hx : a.eval x = .slice (some ⟨g, 0, none⟩) 1 c) (hc : w.cell? ⟨g, 0, none⟩ = some (.int .i64 u))
    (hbig : xs.length ≤ 1000000000) (hbase : base ≤ w.heap.size)
    (h : ∀ v' w', w'.ownsRow base e 1 v' (xs ++ [u]).length (ints (xs ++ [u])) → w.grownBy w' v.ownBlock → (∀ k, v'.ownBlock = some k → v.ownBlock = some k ∨ w.heap.size ≤ k) → wpList P ops Q rest (a.put o.dst v') w') : wpList P ops Q (o :: rest) a w := by
  obtain ⟨i, hi, hz, hsz, hby⟩ := info_parts hinf
  refine wpList_append_row hgd s x t ho base e i _ 1 8 ht hi hz hsz hby rfl (by decide) v xs.length (ints xs) hs hown ⟨g, 0, none⟩ 1 c [.int .i64 u] hx rfl ?_ ?_ (by decide) (by unfold maxLen; omega) (by omega) hbase (fun v' w' h2 h3 h4 => h v' w' ?_ h3 h4)
  · intro j y hj
    cases j with
    | zero => cases hj; exact hc
    | succ j => cases hj
  · intro y hy
    rw [List.mem_singleton.1 hy]
    rfl
  · rw [ints_append, List.length_append]
    exact h2
end

/-- An owned row of ints reads. -/
theorem Owns.rd {W : World} {base : Nat} {e : TypeId} {v : Value} {xs : List Int} (h : W.ownsRow base e 1 v xs.length (ints xs)) : ∃ A cap, v = .slice A xs.length cap ∧ RdV W A (ints xs) ∧ ∀ a, A = some a → base ≤ a.block := by
  obtain ⟨A, cap, rfl, hn, hl, hr⟩ := Owns.shape h
  rcases hr with ⟨h0, rfl⟩ | ⟨g, rfl, hg, hc⟩
  · exact ⟨none, cap, rfl, .inl h0, fun a ha => by cases ha⟩
  · exact ⟨some ⟨g, 0, none⟩, cap, rfl, .inr ⟨g, 0, rfl, fun j v hv => by rw [Nat.zero_add]; exact hc j v hv⟩, fun a ha => by cases ha; exact hg⟩

/-- A table of owned rows: block g holds the slices; each owns its row of ints from block 'base' on; no two lie in one row. -/
structure ORows (W : World) (base g : Nat) (T e : TypeId) (rs : List (Value × List Int)) : Prop where
  blk : Blk W g (rs.map Prod.fst) T
  lt : g < base
  low : base ≤ W.heap.size
  own : ∀ (i : Nat) (v : Value) (xs : List Int), rs[i]? = some (v, xs) → W.ownsRow base e 1 v xs.length (ints xs)
  apart : ∀ (i j : Nat) (v : Value) (xs : List Int) (v' : Value) (xs' : List Int) (k : Nat), i ≠ j → rs[i]? = some (v, xs) → rs[j]? = some (v', xs') → v.ownBlock = some k → v'.ownBlock ≠ some k

theorem ORows.ext {W W' : World} {base g : Nat} {T e : TypeId} {rs : List (Value × List Int)} (h : ORows W base g T e rs) (hx : Ext W W') : ORows W' base g T e rs :=
  ⟨h.blk.ext hx, h.lt, Nat.le_trans h.low hx.size, fun i v xs hi => Owns.ext (h.own i v xs hi) hx, h.apart⟩

/-- A row has grown, and the table's place is set. -/
theorem ORows.step {W W1 : World} {base g : Nat} {T e : TypeId} {rs : List (Value × List Int)} (h : ORows W base g T e rs) {i : Nat} {v v' : Value} {xs xs' : List Int} (hi : rs[i]? = some (v, xs))
    (hown : W1.ownsRow base e 1 v' xs'.length (ints xs')) (hg : W.grownBy W1 v.ownBlock) (hs : ∀ k, v'.ownBlock = some k → v.ownBlock = some k ∨ W.heap.size ≤ k) :
    ORows (W1.setCell ⟨g, i, none⟩ v') base g T e (rs.set i (v', xs')) := by
  have hne : some g ≠ v.ownBlock := by
    intro e
    have := ((h.own i v xs hi).lt g e.symm).1
    have := h.lt
    omega
  have hlt := (List.getElem?_eq_some_iff.1 hi).1
  refine ⟨?_, h.lt, ?_, ?_, ?_⟩
  · have := (Grown.blk hg h.blk hne).set i v'
    rw [List.map_set]
    exact this
  · rw [World.size_setCell]
    exact Nat.le_trans h.low hg.size
  · intro j u ys hj
    by_cases hij : i = j
    · subst hij
      rw [List.getElem?_set_self hlt] at hj
      cases hj
      exact Owns.set hown i v' h.lt
    · rw [List.getElem?_set_ne hij] at hj
      refine Owns.set ((h.own j u ys hj).kept hg ?_) i v' h.lt
      cases hu : u.ownBlock with
      | none => exact .inl rfl
      | some k => exact .inr (fun e => h.apart i j v xs u ys k hij hi hj e.symm hu)
  · intro j1 j2 u1 y1 u2 y2 k hne12 hj1 hj2 hu1 hu2
    have oldlt : ∀ (j : Nat) (u : Value) (ys : List Int), rs[j]? = some (u, ys) → ∀ k, u.ownBlock = some k → k < W.heap.size := fun j u ys hj k hk => ((h.own j u ys hj).lt k hk).2
    by_cases h1 : i = j1
    · subst h1
      rw [List.getElem?_set_self hlt] at hj1
      rw [List.getElem?_set_ne hne12] at hj2
      cases hj1
      rcases hs k hu1 with h3 | h3
      · exact h.apart i j2 v xs u2 y2 k hne12 hi hj2 h3 hu2
      · have := oldlt j2 u2 y2 hj2 k hu2
        omega
    · rw [List.getElem?_set_ne h1] at hj1
      by_cases h2 : i = j2
      · subst h2
        rw [List.getElem?_set_self hlt] at hj2
        cases hj2
        rcases hs k hu2 with h3 | h3
        · exact h.apart i j1 v xs u1 y1 k h1 hi hj1 h3 hu1
        · have := oldlt j1 u1 y1 hj1 k hu1
          omega
      · rw [List.getElem?_set_ne h2] at hj2
        exact h.apart j1 j2 u1 y1 u2 y2 k hne12 hj1 hj2 hu1 hu2

/-- An owned table reads. -/
theorem ORows.rd {W : World} {base g : Nat} {T e : TypeId} {rs : List (Value × List Int)} (h : ORows W base g T e rs) : ∃ R : List Row, RdR W (some ⟨g, 0, none⟩) R ∧ rows R = rs.map Prod.snd ∧ R.length = rs.length := by
  have key : ∀ l : List (Value × List Int), (∀ p ∈ l, ∃ i : Nat, rs[i]? = some p) → ∃ R : List Row, R.map Row.val = l.map Prod.fst ∧ rows R = l.map Prod.snd ∧ ∀ r ∈ R, RdV W r.A (ints r.xs) := by
    intro l
    induction l with
    | nil => exact fun _ => ⟨[], rfl, rfl, fun r hr => by cases hr⟩
    | cons p l ih =>
      intro hl
      obtain ⟨R, h1, h2, h3⟩ := ih fun q hq => hl q (List.mem_cons_of_mem _ hq)
      obtain ⟨i, hi⟩ := hl p (List.mem_cons_self)
      obtain ⟨v, xs⟩ := p
      obtain ⟨A, cap, rfl, hr, _⟩ := Owns.rd (h.own i v xs hi)
      refine ⟨⟨A, cap, xs⟩ :: R, by simp [h1, Row.val], by simp [rows] at h2 ⊢; exact h2, ?_⟩
      intro r hr'
      rcases List.mem_cons.1 hr' with rfl | h4
      · exact hr
      · exact h3 r h4
  obtain ⟨R, h1, h2, h3⟩ := key rs fun p hp => List.getElem?_of_mem hp
  refine ⟨R, ⟨?_, h3⟩, h2, ?_⟩
  · rw [h1]
    refine .inr ⟨g, 0, rfl, fun j v hv => ?_⟩
    rw [Nat.zero_add]
    exact h.blk.cell j hv
  · have := congrArg List.length h2
    simpa [rows] using this

theorem run_append_zero {P : Program} {t ty e : TypeId} (ht : P.underlying t = some (.slice e)) {i : TypeInfo} (hi : P.info? e = some i) (A B : Option Addr) (n c c2 : Nat) (hn : n ≤ c) (w : World) :
    (Builtin.append_ #[t, t] ty #[.slice A n c, .slice B 0 c2]).run P w = .ok (.slice A n c) w := by
  have hl : ∀ a : Addr, (loadCells a 0).run P w = .ok #[] w := fun a => by
    unfold loadCells loadCellsFrom
    rfl
  cases A <;> cases B <;> simp [Builtin.append_, run_underlying ht, sizeOf, typeInfo, hi, Builtin.lenOf, Builtin.firstCells, hn, Result.andThen, storeCells, hl]
/-- append(v, out...) of ints. -/
theorem wpList_append_ints {P : Program} {w : World} {ops : Array Oper} {rest : List Oper} {o : Oper} {a : Act} {Q : Exit → Act → World → Prop} (hgd : o.guard = none) (s x : Operand) (t e : TypeId)
    (ho : o.op = .call { callee := .builtin .append, args := #[s, x], argTypes := #[t, t] }) (ht : P.underlying t = some (.slice e))
    (hinf : (P.info? e).map (fun i => (i.zero, i.size, i.bytes)) = some (some (.int .i64 0), 1, 8)) (base : Nat)
    (v : Value) (xs : List Int) (hs : a.eval s = v) (hown : w.ownsRow base e 1 v xs.length (ints xs))
    (B : Option Addr) (c : Nat) (out : List Int) (hx : a.eval x = .slice B out.length c) (hr : RdV w B (ints out))
    (hbig : xs.length + out.length ≤ 1000000000) (hbase : base ≤ w.heap.size)
    (h : ∀ v' w', w'.ownsRow base e 1 v' (xs ++ out).length (ints (xs ++ out)) → w.grownBy w' v.ownBlock → (∀ k, v'.ownBlock = some k → v.ownBlock = some k ∨ w.heap.size ≤ k) → wpList P ops Q rest (a.put o.dst v') w') : wpList P ops Q (o :: rest) a w := by
  obtain ⟨i, hi, hz, hsz, hby⟩ := info_parts hinf
  by_cases h0 : out = []
  · subst h0
    obtain ⟨A, cap, rfl, hn, _, _⟩ := Owns.shape hown
    refine wpList_plain hgd fun K hK => ?_
    unfold Oper.wp
    have hrun := run_append_zero (t := t) (ty := o.type) ht hi A B xs.length cap c hn w
    simp only [List.length_nil] at hx
    simp [execOp, ho, resolve, invoke, builtin, hs, hx, hrun, Result.andThen]
    exact hK _ _ (h _ w (by simpa using hown) ⟨rfl, rfl, rfl, Nat.le_refl _, fun _ _ _ => rfl⟩ (fun k hk => .inl hk))
  · rcases hr with hr | ⟨b, off, rfl, hc⟩
    · exact absurd (List.map_eq_nil_iff.1 hr) h0
    · refine wpList_append_row hgd s x t ho base e i _ 1 8 ht hi hz hsz hby rfl (by decide) v xs.length (ints xs) hs hown ⟨b, off, none⟩ out.length c (ints out) hx (by rw [ints_length, Nat.mul_one]) ?_ ?_ (List.length_pos_iff.2 h0) (by unfold maxLen; omega) (by omega) hbase (fun v' w' h2 h3 h4 => h v' w' ?_ h3 h4)
      · intro j y hj
        have : (⟨b, off, none⟩ : Addr).add j = ⟨b, off + j, none⟩ := by unfold Addr.add; split <;> simp_all
        rw [this]
        exact hc j y hj
      · intro y hy
        obtain ⟨n, _, rfl⟩ := List.mem_map.1 hy
        rfl
      · rw [ints_append, List.length_append]
        exact h2
end Go.Proofs.Ytgchfibcaecjcaa
/- Items in memory: rows of them read, and rows that a call owns. -/
namespace Go.Proofs.Ytgchfibcaecjcaa
open Go.RowKit Go.Lib
set_option linter.unusedVariables false
set_option linter.unusedSimpArgs false

structure It where
  u : Int
  t : Int
  m : Bool
/-- A slice of items that reads so. -/
def RdI (W : World) (A : Option Addr) (l : List It) : Prop := l = [] ∨ ∃ b o, A = some ⟨b, o, none⟩ ∧
  ∀ j u t m, l[j]? = some ⟨u, t, m⟩ → W.cell? ⟨b, o + j * 3, none⟩ = some (.int .i64 u) ∧ W.cell? ⟨b, o + j * 3 + 1, none⟩ = some (.int .u8 t) ∧ W.cell? ⟨b, o + j * 3 + 2, none⟩ = some (.bool m)
theorem RdI.ext {W W' : World} {A : Option Addr} {l : List It} (h : RdI W A l) (hx : Ext W W') : RdI W' A l := by
  rcases h with h | ⟨b, o, rfl, h⟩
  · exact .inl h
  · exact .inr ⟨b, o, rfl, fun j u t m e => ⟨hx.cell (h j u t m e).1, hx.cell (h j u t m e).2.1, hx.cell (h j u t m e).2.2⟩⟩
theorem RdI.at {W : World} {A : Option Addr} {l : List It} (h : RdI W A l) {i : Nat} (hi : i < l.length) :
    ∃ b o u t m, A = some ⟨b, o, none⟩ ∧ l[i]? = some ⟨u, t, m⟩ ∧ W.cell? ⟨b, o + i * 3, none⟩ = some (.int .i64 u) ∧ W.cell? ⟨b, o + i * 3 + 1, none⟩ = some (.int .u8 t) ∧ W.cell? ⟨b, o + i * 3 + 2, none⟩ = some (.bool m) := by
  rcases h with h | ⟨b, o, hA, hc⟩
  · rw [h] at hi; simp at hi
  · have he : l[i]? = some l[i] := List.getElem?_eq_getElem hi
    generalize l[i] = r at he
    obtain ⟨u, t, m⟩ := r
    exact ⟨b, o, u, t, m, hA, he, hc i u t m he⟩

theorem rowItem : isRowT Try.prog 39 3 := ⟨by kernel_rfl, by kernel_rfl⟩
def itCells (l : List It) : List Value := l.flatMap fun i => [.int .i64 i.u, .int .u8 i.t, .bool i.m]
theorem itCells_length (l : List It) : (itCells l).length = l.length * 3 := by
  induction l with
  | nil => rfl
  | cons a l ih => simp [itCells] at ih ⊢; omega
theorem itCells_get (l : List It) : ∀ (j : Nat) (u t : Int) (m : Bool), l[j]? = some ⟨u, t, m⟩ → (itCells l)[j * 3]? = some (.int .i64 u) ∧ (itCells l)[j * 3 + 1]? = some (.int .u8 t) ∧ (itCells l)[j * 3 + 2]? = some (.bool m) := by
  induction l with
  | nil => exact fun j u t m h => by cases h
  | cons a l ih =>
    intro j u t m h
    cases j with
    | zero => cases h; exact ⟨rfl, rfl, rfl⟩
    | succ j =>
      obtain ⟨h1, h2, h3⟩ := ih j u t m h
      refine ⟨?_, ?_, ?_⟩
      · rw [show (j + 1) * 3 = j * 3 + 3 by omega]; exact h1
      · rw [show (j + 1) * 3 + 1 = (j * 3 + 1) + 3 by omega]; exact h2
      · rw [show (j + 1) * 3 + 2 = (j * 3 + 2) + 3 by omega]; exact h3
theorem infoItem : (Try.prog.info? 39).map (fun i => (i.zero, i.size, i.bytes)) = some (some (.agg #[.int .i64 0, .int .u8 0, .bool false]), 3, 24) := by kernel_rfl
theorem OwnsI.rd {W : World} {base : Nat} {e : TypeId} {v : Value} {l : List It} (h : W.ownsRow base e 3 v l.length (itCells l)) : ∃ A cap, v = .slice A l.length cap ∧ l.length ≤ cap ∧ RdI W A l ∧ ∀ a, A = some a → base ≤ a.block := by
  obtain ⟨hl, hv⟩ := h
  rcases hv with ⟨rfl, h0⟩ | ⟨g, cap, cur, rfl, hb, hg, hn, hcap, hcs, htk⟩
  · exact ⟨none, 0, by rw [h0], by omega, .inl (List.eq_nil_of_length_eq_zero h0), fun a ha => by cases ha⟩
  · refine ⟨_, cap, rfl, hn, .inr ⟨g, 0, rfl, fun j u t m hj => ?_⟩, fun a ha => by cases ha; exact hb⟩
    have key : ∀ k x, (itCells l)[k]? = some x → W.cell? ⟨g, k, none⟩ = some x := fun k x hk => by
      rw [← htk, List.getElem?_take] at hk
      split at hk
      · simp only [World.cell?, hg]
        simpa using hk
      · cases hk
    obtain ⟨h1, h2, h3⟩ := itCells_get l j u t m hj
    rw [Nat.zero_add]
    exact ⟨key _ _ h1, key _ _ h2, key _ _ h3⟩
/-- append of one item. -/
theorem wpList_append_item {w : World} {ops : Array Oper} {rest : List Oper} {o : Oper} {a : Act} {Q : Exit → Act → World → Prop} (hgd : o.guard = none) (s x : Operand)
    (ho : o.op = .call { callee := .builtin .append, args := #[s, x], argTypes := #[22, 22] }) (base : Nat)
    (v : Value) (l : List It) (hs : a.eval s = v) (hown : w.ownsRow base 39 3 v l.length (itCells l))
    (g c : Nat) (i : It) (hx : a.eval x = .slice (some ⟨g, 0, none⟩) 1 c) (hc : Blk w g [.int .i64 i.u, .int .u8 i.t, .bool i.m] 39)
    (hbig : l.length ≤ 100000000) (hbase : base ≤ w.heap.size)
    (h : ∀ v' w', w'.ownsRow base 39 3 v' (l ++ [i]).length (itCells (l ++ [i])) → w.grownBy w' v.ownBlock → (∀ k, v'.ownBlock = some k → v.ownBlock = some k ∨ w.heap.size ≤ k) → wpList Try.prog ops Q rest (a.put o.dst v') w') : wpList Try.prog ops Q (o :: rest) a w := by
  obtain ⟨inf, hi, hz, hsz, hby⟩ := info_parts infoItem
  refine wpList_append_row hgd s x _ ho base _ inf _ 3 24 Try.underlying22 hi hz hsz hby rfl (by decide) v l.length (itCells l) hs hown ⟨g, 0, none⟩ 1 c [.int .i64 i.u, .int .u8 i.t, .bool i.m] hx rfl ?_ ?_ (by decide) (by unfold maxLen; omega) (by omega) hbase (fun v' w' h2 h3 h4 => h v' w' ?_ h3 h4)
  · intro j y hj
    have : (⟨g, 0, none⟩ : Addr).add j = ⟨g, j, none⟩ := by unfold Addr.add; split <;> simp_all
    rw [this]
    exact hc.cell j hj
  · intro y hy
    simp only [List.mem_cons, List.not_mem_nil, or_false] at hy
    rcases hy with rfl | rfl | rfl <;> rfl
  · have e : itCells (l ++ [i]) = itCells l ++ [.int .i64 i.u, .int .u8 i.t, .bool i.m] := by simp [itCells]
    rw [e, List.length_append]
    exact h2
end Go.Proofs.Ytgchfibcaecjcaa
/- Maps that a call owns, by their entries, whatever the key's type: made, asked, written, ranged over. Nothing is ever deleted from them. -/
namespace Go.Proofs.Ytgchfibcaecjcaa
open Go.RowKit
open Go.ChangeMaps (setBlock)
set_option linter.unusedVariables false
set_option linter.unusedSectionVars false
set_option linter.unusedSimpArgs false
theorem getMap {w : World} {r : Nat} {es : Array MapEntry} {clock : Nat} (hb : w.heap[r]? = some (.map es clock)) : (getObj r).run Try.prog w = .ok (.map es clock) w := by simp [getObj, Sem.run, hb]
theorem setMap {w : World} {r : Nat} {es : Array MapEntry} {clock : Nat} (o : Obj) (hb : w.heap[r]? = some (.map es clock)) : (setObj r o).run Try.prog w = .ok () { w with heap := w.heap.setIfInBounds r o } := by simp [setObj, Sem.run, hb]
section
variable {α : Type} [DecidableEq α]

def entsAt (enc : α → Value) (n : Nat) (es : List (α × Value)) : List MapEntry := (es.zipIdx n).map fun p => { key := enc p.1.1, val := p.1.2, born := p.2 }
abbrev ents (enc : α → Value) (es : List (α × Value)) : List MapEntry := entsAt enc 0 es
theorem entsAt_cons (enc : α → Value) (n : Nat) (p : α × Value) (es : List (α × Value)) : entsAt enc n (p :: es) = { key := enc p.1, val := p.2, born := n } :: entsAt enc (n + 1) es := rfl
theorem ents_snoc (enc : α → Value) (es : List (α × Value)) (p : α × Value) : ents enc (es ++ [p]) = ents enc es ++ [{ key := enc p.1, val := p.2, born := es.length }] := by
  unfold ents entsAt
  rw [List.zipIdx_append, List.map_append]
  simp
theorem ents_length (enc : α → Value) (es : List (α × Value)) : (ents enc es).length = es.length := by simp [ents, entsAt]
theorem ents_get (enc : α → Value) (es : List (α × Value)) (i : Nat) : (ents enc es)[i]? = es[i]?.map fun p => { key := enc p.1, val := p.2, born := i } := by
  unfold ents entsAt
  rw [List.getElem?_map, List.getElem?_zipIdx]
  cases es[i]? <;> simp
/-- Block b is a map of these entries. -/
def RMap (enc : α → Value) (W : World) (b : Nat) (es : List (α × Value)) : Prop := W.heap[b]? = some (.map (ents enc es).toArray es.length)
/-- Where a key stands. -/
def posOf (x : α) : List (α × Value) → Nat → Option (Nat × Value)
  | [], _ => none
  | p :: es, i => if x = p.1 then some (i, p.2) else posOf x es (i + 1)
def valOf (x : α) (es : List (α × Value)) : Option Value := (posOf x es 0).map (·.2)
structure KeyT (T : TypeId) (enc : α → Value) : Prop where
  chk : ∀ e x W, (Instr.checkKey e 10000 T (enc x)).run Try.prog W = .ok () W
  eq : ∀ x y W, (Op.equal T (enc x) (enc y)).run Try.prog W = .ok (decide (x = y)) W
  now : ∃ kind, Try.prog.underlying T = some kind ∧ ((∀ x y, Instr.sameNow kind (enc x) (enc y) = some (decide (x = y))) ∨ (∀ x y, Instr.sameNow kind (enc x) (enc y) = none))
  bits : ∀ x, Instr.sameBits 10000 (enc x) (enc x) = true
variable {T : TypeId} {enc : α → Value}
theorem run_findAsking (K : KeyT T enc) (x : α) : ∀ (es : List (α × Value)) (n i : Nat) (W : World), (Instr.findAsking T (enc x) (entsAt enc n es) i).run Try.prog W = .ok (posOf x es i) W
  | [], _, i, W => rfl
  | p :: es, n, i, W => by
    rw [entsAt_cons]
    simp only [Instr.findAsking, Sem.run_bind, K.eq, Result.andThen, posOf]
    by_cases h : x = p.1
    · simp [h, Sem.run_pure]
    · simp only [h, decide_false, Bool.false_eq_true, if_false]
      exact run_findAsking K x es (n + 1) (i + 1) W
theorem findNow_of {kind : TypeDesc} (h : ∀ x y, Instr.sameNow kind (enc x) (enc y) = some (decide (x = y))) (x : α) : ∀ (es : List (α × Value)) (n i : Nat), Instr.findNow kind (enc x) (entsAt enc n es) i = some (posOf x es i)
  | [], _, i => rfl
  | p :: es, n, i => by
    rw [entsAt_cons, Instr.findNow, h x p.1, posOf]
    by_cases e : x = p.1
    · simp [e]
    · simp only [e, decide_false, if_false]
      exact findNow_of h x es (n + 1) (i + 1)
theorem run_findKey (K : KeyT T enc) (x : α) (es : List (α × Value)) (W : World) : (Instr.findKey T (enc x) (ents enc es)).run Try.prog W = .ok (posOf x es 0) W := by
  obtain ⟨kind, hk, h⟩ := K.now
  simp only [Instr.findKey, Sem.run_bind, run_underlying hk, Result.andThen_ok]
  rcases h with h | h
  · unfold ents
    rw [findNow_of h x es 0 0]
    rfl
  · cases es with
    | nil => rfl
    | cons p es =>
      have : Instr.findNow kind (enc x) (ents enc (p :: es)) 0 = none := by
        unfold ents
        rw [entsAt_cons, Instr.findNow, h x p.1]
      rw [this]
      exact run_findAsking K x (p :: es) 0 0 W
theorem RMap.look (K : KeyT T enc) {MT E : TypeId} (ht : Try.prog.underlying MT = some (.map T E)) {z : Value} {W : World} (hz : (zeroValue E).run Try.prog W = .ok z W) {b : Nat} {es : List (α × Value)} (h : RMap enc W b es) (x : α) :
    (Instr.lookup MT (.map (some b)) (enc x) false).run Try.prog W = .ok ((valOf x es).getD z) W := by
  unfold RMap at h
  simp only [Instr.lookup, Sem.run_bind, run_underlying ht, Result.andThen_ok, getMap h, Sem.run_pure, K.chk, run_findKey K]
  unfold valOf
  cases posOf x es 0 with
  | none => simp [hz, Sem.run_bind, Sem.run_pure]
  | some p => simp [Sem.run_pure]
theorem RMap.lookOk (K : KeyT T enc) {MT E : TypeId} (ht : Try.prog.underlying MT = some (.map T E)) {z : Value} {W : World} (hz : (zeroValue E).run Try.prog W = .ok z W) {b : Nat} {es : List (α × Value)} (h : RMap enc W b es) (x : α) :
    (Instr.lookup MT (.map (some b)) (enc x) true).run Try.prog W = .ok (.tuple #[(valOf x es).getD z, .bool (valOf x es).isSome]) W := by
  unfold RMap at h
  simp only [Instr.lookup, Sem.run_bind, run_underlying ht, Result.andThen_ok, getMap h, Sem.run_pure, K.chk, run_findKey K]
  unfold valOf
  cases posOf x es 0 with
  | none => simp [hz, Sem.run_bind, Sem.run_pure]
  | some p => simp [Sem.run_pure]
theorem look_nil (K : KeyT T enc) {MT E : TypeId} (ht : Try.prog.underlying MT = some (.map T E)) {z : Value} {W : World} (hz : (zeroValue E).run Try.prog W = .ok z W) (x : α) :
    (Instr.lookup MT (.map none) (enc x) false).run Try.prog W = .ok z W := by
  have : (Instr.findKey T (enc x) []).run Try.prog W = .ok (posOf x [] 0) W := run_findKey K x [] W
  simp only [Instr.lookup, Sem.run_bind, run_underlying ht, Result.andThen_ok, Sem.run_pure, K.chk]
  rw [this]
  simp [posOf, hz, Sem.run_bind, Sem.run_pure]
/-- A key's value written. -/
def putOf (x : α) (v : Value) (es : List (α × Value)) : List (α × Value) := match posOf x es 0 with
  | some (i, _) => es.set i (x, v)
  | none => es ++ [(x, v)]
theorem posOf_get {x : α} : ∀ {es : List (α × Value)} {i j : Nat} {u : Value}, posOf x es i = some (j, u) → i ≤ j ∧ es[j - i]? = some (x, u)
  | [], i, j, u, h => by cases h
  | p :: es, i, j, u, h => by
    rw [posOf] at h
    split at h
    · rename_i e
      cases h
      refine ⟨Nat.le_refl _, ?_⟩
      rw [Nat.sub_self]
      simp [e]
    · obtain ⟨h1, h2⟩ := posOf_get h
      refine ⟨by omega, ?_⟩
      rw [show j - i = (j - (i + 1)) + 1 by omega]
      simpa using h2
theorem posOf_none {x : α} : ∀ {es : List (α × Value)} {i : Nat}, posOf x es i = none → ∀ p ∈ es, p.1 ≠ x
  | [], i, _, p, hp => by cases hp
  | q :: es, i, h, p, hp => by
    rw [posOf] at h
    split at h
    · cases h
    · rename_i e
      rcases List.mem_cons.1 hp with rfl | hp
      · exact fun e' => e e'.symm
      · exact posOf_none h p hp
theorem entsAt_modify (enc : α → Value) {es : List (α × Value)} {i : Nat} {x : α} {u v : Value} (h : es[i]? = some (x, u)) :
    (ents enc es).toArray.modify i (fun e => { e with key := enc x, val := v }) = (ents enc (es.set i (x, v))).toArray := by
  apply Array.toList_inj.1
  rw [Array.toList_modify]
  simp only
  apply List.ext_getElem?
  intro j
  rw [List.getElem?_modify, ents_get, ents_get, List.getElem?_set]
  by_cases hij : i = j
  · subst hij
    have hlt := (List.getElem?_eq_some_iff.1 h).1
    simp [h, hlt]
  · simp [hij]
theorem RMap.put (K : KeyT T enc) {MT E : TypeId} (ht : Try.prog.underlying MT = some (.map T E)) {W : World} {b : Nat} {es : List (α × Value)} (h : RMap enc W b es) (x : α) (v : Value) :
    ∃ W', (Instr.mapUpdate MT (.map (some b)) (enc x) v).run Try.prog W = .ok () W' ∧ RMap enc W' b (putOf x v es) ∧ W.grownBy W' (some b) := by
  have h' := h
  unfold RMap at h
  have hb := (Array.getElem?_eq_some_iff.1 h).1
  have hg : ∀ o : Obj, W.grownBy { W with heap := W.heap.setIfInBounds b o } (some b) := fun o => ⟨rfl, rfl, rfl, by simp, fun k hk hne => by
    show (W.heap.setIfInBounds b o)[k]? = W.heap[k]?
    rw [Array.getElem?_setIfInBounds_ne]
    intro e
    exact hne (by rw [e])⟩
  have hnew : ∀ o : Obj, ({ W with heap := W.heap.setIfInBounds b o } : World).heap[b]? = some o := fun o => by
    show (W.heap.setIfInBounds b o)[b]? = some o
    rw [Array.getElem?_setIfInBounds_self_of_lt hb]
  cases hp : posOf x es 0 with
  | none =>
    refine ⟨_, ?_, ?_, hg (.map ((ents enc es).toArray.push { key := enc x, val := v, born := es.length }) (es.length + 1))⟩
    · simp only [Instr.mapUpdate, Sem.run_bind, run_underlying ht, Result.andThen_ok, getMap h, K.chk, run_findKey K, hp, setMap _ h]
    · unfold RMap putOf
      rw [hnew, hp]
      simp only
      rw [ents_snoc]
      simp
  | some q =>
    obtain ⟨i, u⟩ := q
    obtain ⟨_, hi⟩ := posOf_get hp
    rw [Nat.sub_zero] at hi
    have hkey : (Instr.keyThatStays ((((ents enc es).toArray[i]?).map (·.key)).getD (enc x)) (enc x)).run Try.prog W = .ok (enc x) W := by
      rw [List.getElem?_toArray, ents_get, hi]
      simp [Instr.keyThatStays, K.bits, Sem.run_pure]
    refine ⟨_, ?_, ?_, hg (.map ((ents enc es).toArray.modify i (fun e => { e with key := enc x, val := v })) es.length)⟩
    · simp only [Instr.mapUpdate, Sem.run_bind, run_underlying ht, Result.andThen_ok, getMap h, K.chk, run_findKey K, hp, hkey, setMap _ h]
    · unfold RMap putOf
      rw [hnew, hp, entsAt_modify enc hi]
      simp
theorem RMap.made (enc : α → Value) (W : World) : RMap enc (W.alloc (.map #[] 0)) W.heap.size [] := by
  unfold RMap World.alloc
  simp [ents, entsAt]
theorem RMap.kept {W W' : World} {b : Nat} {es : List (α × Value)} (h : RMap enc W b es) {row : Option Nat} (hg : W.grownBy W' row) (hne : some b ≠ row) : RMap enc W' b es :=
  (hg.block b (Array.getElem?_eq_some_iff.1 h).1 hne).trans h
theorem RMap.ext {W W' : World} {b : Nat} {es : List (α × Value)} (h : RMap enc W b es) (hx : Ext W W') : RMap enc W' b es := h.kept (Ext.grown hx) (by simp)
theorem RMap.lt {W : World} {b : Nat} {es : List (α × Value)} (h : RMap enc W b es) : b < W.heap.size := (Array.getElem?_eq_some_iff.1 h).1
theorem RMap.drew {W : World} {b : Nat} {es : List (α × Value)} (h : RMap enc W b es) : RMap enc W.drew b es := h
/-- A store into a map, in a walk. -/
theorem wpList_put {w : World} {ops : Array Oper} {rest : List Oper} {o : Oper} {a : Act} {Q : Exit → Act → World → Prop} (K : KeyT T enc)
    (hg : o.guard = none) (m x v : Operand) (MT E : TypeId) (hop : o.op = Op.mapUpdate MT m x v) (ht : Try.prog.underlying MT = some (.map T E)) (b : Nat) (es : List (α × Value))
    (hm : a.eval m = .map (some b)) (hown : RMap enc w b es) (k : α) (c : Value) (hx : a.eval x = enc k) (hv : a.eval v = c)
    (hK : ∀ w', RMap enc w' b (putOf k c es) → w.grownBy w' (some b) → wpList Try.prog ops Q rest (a.put o.dst undef) w') :
    wpList Try.prog ops Q (o :: rest) a w := by
  refine wpList_plain hg fun K' hK' => ?_
  obtain ⟨w', hrun, r1, r2⟩ := hown.put K ht k c
  unfold Oper.wp
  simp [execOp, hop, hm, hx, hv, hrun, Result.andThen]
  exact hK' _ _ (hK w' r1 r2)
/-! Ranging over a map that does not change meanwhile. -/
/-- The walk r over the map b of n entries: which of them (by their places) have come. -/
def RIter (W : World) (r b n : Nat) (seen : List Nat) : Prop := ∃ c, n ≤ c ∧ W.heap[r]? = some (.mapIter (some b) n seen.toArray c)
theorem ents_born (enc : α → Value) (es : List (α × Value)) : (ents enc es).map (·.born) = List.range es.length := by
  apply List.ext_getElem?
  intro i
  rw [List.getElem?_map, ents_get]
  by_cases h : i < es.length
  · rw [List.getElem?_range h, List.getElem?_eq_getElem h]; rfl
  · rw [List.getElem?_eq_none (by omega), List.getElem?_eq_none (by simp; omega)]; rfl
theorem ents_mem {enc : α → Value} {es : List (α × Value)} {e : MapEntry} (h : e ∈ ents enc es) : ∃ i k v, es[i]? = some (k, v) ∧ e = { key := enc k, val := v, born := i } := by
  obtain ⟨i, hi⟩ := List.getElem?_of_mem h
  rw [ents_get] at hi
  cases hp : es[i]? with
  | none => rw [hp] at hi; cases hi
  | some p => rw [hp] at hi; cases hi; exact ⟨i, p.1, p.2, hp, rfl⟩
theorem RMap.range {MT E : TypeId} (ht : Try.prog.underlying MT = some (.map T E)) {W : World} {b : Nat} {es : List (α × Value)} (h : RMap enc W b es) :
    (Instr.range MT (.map (some b))).run Try.prog W = .ok (.pointer (some ⟨W.heap.size, 0, none⟩)) (W.alloc (.mapIter (some b) es.length #[] es.length)) := run_range_map W MT T E b _ _ ht h
theorem RIter.made (W : World) (b n : Nat) : RIter (W.alloc (.mapIter (some b) n #[] n)) W.heap.size b n [] := ⟨n, Nat.le_refl _, heap_alloc_new W _⟩
theorem RIter.kept {W W' : World} {r b n : Nat} {seen : List Nat} (h : RIter W r b n seen) {row : Option Nat} (hg : W.grownBy W' row) (hne : some r ≠ row) : RIter W' r b n seen := by
  obtain ⟨c, hc, h⟩ := h
  exact ⟨c, hc, (hg.block r (Array.getElem?_eq_some_iff.1 h).1 hne).trans h⟩
theorem RIter.ext {W W' : World} {r b n : Nat} {seen : List Nat} (h : RIter W r b n seen) (hx : Ext W W') : RIter W' r b n seen := h.kept (Ext.grown hx) (by simp)
theorem RMap.next {W : World} {b r : Nat} {es : List (α × Value)} {seen : List Nat} (h : RMap enc W b es) (hr : RIter W r b es.length seen) (ty : TypeId) :
    ((∀ i, i < es.length → i ∈ seen) ∧ (Instr.next (.pointer (some ⟨r, 0, none⟩)) false ty).run Try.prog W = .ok (.tuple #[.bool false]) W) ∨
    ∃ i k v W', es[i]? = some (k, v) ∧ i ∉ seen ∧ (Instr.next (.pointer (some ⟨r, 0, none⟩)) false ty).run Try.prog W = .ok (.tuple #[.bool true, enc k, v]) W' ∧ RMap enc W' b es ∧ RIter W' r b es.length (seen ++ [i]) ∧ W.grownBy W' (some r) ∧ W'.heap.size = W.heap.size ∧
      (Instr.entry (.pointer (some ⟨r, 0, none⟩))).run Try.prog W' = .ok (.tuple #[enc k, v]) W' := by
  obtain ⟨c, hc, hr⟩ := hr
  have hb := h
  unfold RMap at hb
  have hold : ∀ x ∈ (ents enc es).toArray.toList, x.born < es.length := by
    intro x hx
    obtain ⟨i, k, v, hi, rfl⟩ := ents_mem hx
    exact (List.getElem?_eq_some_iff.1 hi).1
  rcases run_next_at W ty r b es.length c seen.toArray _ _ hr hb hold hc with ⟨h0, hrun⟩ | ⟨e, he, w1, hw1, hrun⟩
  · left
    refine ⟨fun i hi => ?_, hrun⟩
    have h0 := Array.eq_empty_of_size_eq_zero h0
    unfold leftOf at h0
    rw [Array.filter_eq_empty_iff] at h0
    have hm : ({ key := enc es[i].1, val := es[i].2, born := i } : MapEntry) ∈ (ents enc es).toArray := by
      rw [List.mem_toArray]
      exact List.mem_of_getElem? (i := i) (by rw [ents_get, List.getElem?_eq_getElem hi]; rfl)
    have := h0 _ hm
    simpa using this
  · right
    unfold leftOf at he
    have he' : e ∈ (ents enc es).toArray ∧ e.born ∉ seen := by
      have : e ∈ Array.filter (fun e => !seen.toArray.contains e.born) (ents enc es).toArray := by simpa using he
      rw [Array.mem_filter] at this
      exact ⟨this.1, by simpa using this.2⟩
    obtain ⟨i, k, v, hi, rfl⟩ := ents_mem (List.mem_toArray.1 he'.1)
    have hne : r ≠ b := by
      rintro rfl
      rw [hr] at hb
      cases hb
    have hw1r : w1.heap = W.heap := by rcases hw1 with rfl | rfl <;> rfl
    have hrlt := (Array.getElem?_eq_some_iff.1 hr).1
    have hr2 : (setBlock w1 r (.mapIter (some b) es.length (seen.toArray.push i) es.length)).heap[r]? = some (.mapIter (some b) es.length (seen ++ [i]).toArray es.length) := by
      show (w1.heap.setIfInBounds r _)[r]? = _
      rw [Array.getElem?_setIfInBounds_self_of_lt (by rw [hw1r]; exact hrlt)]
      simp
    have hg : W.grownBy (setBlock w1 r (.mapIter (some b) es.length (seen.toArray.push i) es.length)) (some r) := by
      refine ⟨?_, ?_, ?_, ?_, fun k hk hnk => ?_⟩
      · rcases hw1 with rfl | rfl <;> rfl
      · rcases hw1 with rfl | rfl <;> rfl
      · rcases hw1 with rfl | rfl <;> rfl
      · show W.heap.size ≤ (w1.heap.setIfInBounds r _).size
        simp [hw1r]
      · show (w1.heap.setIfInBounds r _)[k]? = _
        rw [Array.getElem?_setIfInBounds_ne (fun e => hnk (by rw [e])), hw1r]
    have hb2 : RMap enc (setBlock w1 r (.mapIter (some b) es.length (seen.toArray.push i) es.length)) b es := h.kept hg (by simp; exact fun e => hne e.symm)
    refine ⟨i, k, v, _, hi, he'.2, hrun, hb2, ⟨es.length, Nat.le_refl _, hr2⟩, hg, ?_, ?_⟩
    · show (w1.heap.setIfInBounds r _).size = _
      simp [hw1r]
    · refine run_entry_at _ r b es.length seen.toArray _ _ { key := enc k, val := v, born := i } ?_ hb2 (by simpa using he'.1) ?_
      · rw [hr2]; simp
      · simp only
        rw [ents_born]
        exact List.nodup_range
theorem wpList_range {w : World} {ops : Array Oper} {rest : List Oper} {o : Oper} {a : Act} {Q : Exit → Act → World → Prop} (hg : o.guard = none) (m : Operand) (MT E : TypeId) (hop : o.op = Op.range MT m) (ht : Try.prog.underlying MT = some (.map T E)) (b : Nat) (es : List (α × Value))
    (hm : a.eval m = .map (some b)) (hown : RMap enc w b es)
    (hK : ∀ w', RMap enc w' b es → RIter w' w.heap.size b es.length [] → Ext w w' → w'.heap.size = w.heap.size + 1 → wpList Try.prog ops Q rest (a.put o.dst (.pointer (some ⟨w.heap.size, 0, none⟩))) w') :
    wpList Try.prog ops Q (o :: rest) a w := by
  refine wpList_plain hg fun K' hK' => ?_
  have hrun := hown.range (T := T) ht
  unfold Oper.wp
  simp [execOp, hop, hm, hrun, Result.andThen]
  exact hK' _ _ (hK _ (hown.ext ((Ext.refl w).alloc _)) (RIter.made _ _ _) ((Ext.refl w).alloc _) (by simp))
theorem wpList_next {w : World} {ops : Array Oper} {rest : List Oper} {o : Oper} {a : Act} {Q : Exit → Act → World → Prop} (hg : o.guard = none) (it : Operand) (hop : o.op = Op.next it false) (b r : Nat) (es : List (α × Value)) (seen : List Nat)
    (hit : a.eval it = .pointer (some ⟨r, 0, none⟩)) (hown : RMap enc w b es) (hr : RIter w r b es.length seen)
    (hDone : (∀ i, i < es.length → i ∈ seen) → wpList Try.prog ops Q rest (a.put o.dst (.tuple #[.bool false])) w)
    (hMore : ∀ i k v w', es[i]? = some (k, v) → i ∉ seen → RMap enc w' b es → RIter w' r b es.length (seen ++ [i]) → w.grownBy w' (some r) → w'.heap.size = w.heap.size →
      (Instr.entry (.pointer (some ⟨r, 0, none⟩))).run Try.prog w' = .ok (.tuple #[enc k, v]) w' → wpList Try.prog ops Q rest (a.put o.dst (.tuple #[.bool true, enc k, v])) w') :
    wpList Try.prog ops Q (o :: rest) a w := by
  refine wpList_plain hg fun K' hK' => ?_
  unfold Oper.wp
  rcases hown.next hr o.type with ⟨h0, hrun⟩ | ⟨i, k, v, w', hi, hs, hrun, h1, h2, h3, h4, h5⟩
  · simp [execOp, hop, hit, hrun, Result.andThen]
    exact hK' _ _ (hDone h0)
  · simp [execOp, hop, hit, hrun, Result.andThen]
    exact hK' _ _ (hMore i k v w' hi hs h1 h2 h3 h4 h5)
end
end Go.Proofs.Ytgchfibcaecjcaa
/- Maps by their entries, within a fence: ranged over. -/
namespace Go.Proofs.Ytgchfibcaecjcaa
open Go.RowKit
set_option linter.unusedVariables false
set_option linter.unusedSectionVars false
set_option linter.unusedSimpArgs false
theorem nodup_le : ∀ (n : Nat) {l : List Nat}, l.Nodup → (∀ i ∈ l, i < n) → l.length ≤ n
  | 0, l, _, h => by
    cases l with
    | nil => simp
    | cons a l => have := h a List.mem_cons_self; omega
  | n + 1, l, hn, h => by
    by_cases hm : n ∈ l
    · have h1 := nodup_le n (hn.erase n) (fun i hi => by
        have h2 := (hn.mem_erase_iff).1 hi
        have h3 := h i h2.2
        have h4 : i ≠ n := h2.1
        omega)
      rw [List.length_erase_of_mem hm] at h1
      omega
    · have h1 := nodup_le n hn (fun i hi => by
        have := h i hi
        have : i ≠ n := fun e => hm (e ▸ hi)
        omega)
      omega
section
variable {α : Type} [DecidableEq α] {T : TypeId} {enc : α → Value} {F : Fence} {nF : Nat}
theorem wpListIn_range {w : World} {ops : Array Oper} {rest : List Oper} {o : Oper} {a : Act} {Q : Exit → Act → World → Prop} (hg : o.guard = none) (m : Operand) (MT E : TypeId) (hop : o.op = Op.range MT m) (ht : Try.prog.underlying MT = some (.map T E)) (b : Nat) (es : List (α × Value))
    (hm : a.eval m = .map (some b)) (hown : RMap enc w b es)
    (hK : ∀ w', RMap enc w' b es → RIter w' w.heap.size b es.length [] → w.grownBy w' none → w'.heap.size = w.heap.size + 1 → wpListIn F nF Try.prog ops Q rest (a.put o.dst (.pointer (some ⟨w.heap.size, 0, none⟩))) w') :
    wpListIn F nF Try.prog ops Q (o :: rest) a w := by
  refine wpListIn_plain hg fun K' hK' => ?_
  have hrun := hown.range (T := T) ht
  unfold Oper.wpIn
  refine ⟨by simp [Oper.about, hop], ?_⟩
  rw [Oper.semAt_plain F _ _ (by rw [hop]; intro c hc'; cases hc')]
  simp [execOp, hop, hm, hrun, Result.andThen]
  exact hK' _ _ (hK _ (hown.ext ((Ext.refl w).alloc _)) (RIter.made _ _ _) (Ext.grown ((Ext.refl w).alloc _)) (by simp))
theorem wpListIn_next {w : World} {ops : Array Oper} {rest : List Oper} {o : Oper} {a : Act} {Q : Exit → Act → World → Prop} (hg : o.guard = none) (it : Operand) (hop : o.op = Op.next it false) (b r : Nat) (es : List (α × Value)) (seen : List Nat)
    (hit : a.eval it = .pointer (some ⟨r, 0, none⟩)) (hown : RMap enc w b es) (hr : RIter w r b es.length seen)
    (hDone : (∀ i, i < es.length → i ∈ seen) → wpListIn F nF Try.prog ops Q rest (a.put o.dst (.tuple #[.bool false])) w)
    (hMore : ∀ i k v w', es[i]? = some (k, v) → i ∉ seen → RMap enc w' b es → RIter w' r b es.length (seen ++ [i]) → w.grownBy w' (some r) → w'.heap.size = w.heap.size →
      (Instr.entry (.pointer (some ⟨r, 0, none⟩))).run Try.prog w' = .ok (.tuple #[enc k, v]) w' → wpListIn F nF Try.prog ops Q rest (a.put o.dst (.tuple #[.bool true, enc k, v])) w') :
    wpListIn F nF Try.prog ops Q (o :: rest) a w := by
  refine wpListIn_plain hg fun K' hK' => ?_
  unfold Oper.wpIn
  refine ⟨by simp [Oper.about, hop], ?_⟩
  rw [Oper.semAt_plain F _ _ (by rw [hop]; intro c hc'; cases hc')]
  rcases hown.next hr o.type with ⟨h0, hrun⟩ | ⟨i, k, v, w', hi, hs, hrun, h1, h2, h3, h4, h5⟩
  · simp [execOp, hop, hit, hrun, Result.andThen]
    exact hK' _ _ (hDone h0)
  · simp [execOp, hop, hit, hrun, Result.andThen]
    exact hK' _ _ (hMore i k v w' hi hs h1 h2 h3 h4 h5)
theorem RMap.walks {W W' : World} {b : Nat} {es : List (α × Value)} (h : RMap enc W b es) (hk : KeepsWalks W W') : RMap enc W' b es := hk.same b _ h rfl
theorem RIter.walks {W W' : World} {r b n : Nat} {seen : List Nat} (h : RIter W r b n seen) (hk : KeepsWalks W W') : RIter W' r b n seen := by
  obtain ⟨c, hc, h⟩ := h
  exact ⟨c, hc, hk.same r _ h rfl⟩
theorem RIter.isWalk {W : World} {r b n : Nat} {seen : List Nat} (h : RIter W r b n seen) : ∃ o : Obj, W.heap[r]? = some o ∧ o.isWalk = true := by
  obtain ⟨c, _, h⟩ := h
  exact ⟨_, h, rfl⟩
/-- How many have come. -/
def came (W : World) (r : Nat) : Nat := match W.heap[r]? with | some (.mapIter _ _ s _) => s.size | _ => 0
theorem RIter.came {W : World} {r b n : Nat} {seen : List Nat} (h : RIter W r b n seen) : came W r = seen.length := by
  obtain ⟨c, _, h⟩ := h
  unfold Go.Proofs.Ytgchfibcaecjcaa.came
  rw [h]; simp
/-- The keys of the places that have come. -/
def keysAt (es : List (α × Value)) (seen : List Nat) : List α := seen.filterMap fun i => (es[i]?).map (·.1)
theorem keysAt_snoc {es : List (α × Value)} {seen : List Nat} {i : Nat} {k : α} {v : Value} (h : es[i]? = some (k, v)) : keysAt es (seen ++ [i]) = keysAt es seen ++ [k] := by
  unfold keysAt
  rw [List.filterMap_append]
  simp [h]
theorem keysAt_length {es : List (α × Value)} : ∀ {seen : List Nat}, (∀ i ∈ seen, i < es.length) → (keysAt es seen).length = seen.length
  | [], _ => rfl
  | i :: seen, h => by
    have hi := h i List.mem_cons_self
    unfold keysAt
    rw [List.filterMap_cons, List.getElem?_eq_getElem hi]
    simp only [Option.map_some, List.length_cons]
    rw [← keysAt_length fun j hj => h j (List.mem_cons_of_mem _ hj)]
    rfl
/-- All have come, each once: the keys in some order. -/
theorem keysAt_all {es : List (α × Value)} {seen : List Nat} (hn : seen.Nodup) (hlt : ∀ i ∈ seen, i < es.length) (hall : ∀ i, i < es.length → i ∈ seen) : (keysAt es seen).Perm (es.map (·.1)) := by
  have hp : seen.Perm (List.range es.length) := by
    rw [List.perm_ext_iff_of_nodup hn List.nodup_range]
    intro i
    exact ⟨fun h => by simpa using hlt i h, fun h => hall i (by simpa using h)⟩
  have h1 : (keysAt es seen).Perm (keysAt es (List.range es.length)) := hp.filterMap _
  refine h1.trans (List.Perm.of_eq ?_)
  clear h1 hp hall hlt hn
  have key : ∀ (m : Nat), m ≤ es.length → keysAt es (List.range m) = (es.take m).map (·.1) := by
    intro m
    induction m with
    | zero => intro _; rfl
    | succ m ih =>
      intro hm
      rw [List.range_succ, keysAt_snoc (k := es[m].1) (v := es[m].2) (by rw [List.getElem?_eq_getElem (by omega)]), ih (by omega), List.take_succ_eq_append_getElem (by omega), List.map_append]
      rfl
  rw [key _ (Nat.le_refl _), List.take_length]
end
end Go.Proofs.Ytgchfibcaecjcaa
/- Jobs as keys of maps. -/
namespace Go.Proofs.Ytgchfibcaecjcaa
open Go.RowKit
set_option linter.unusedVariables false

def encJ (p : Int × Int) : Value := .agg #[.int .i64 p.1, .int .u8 p.2]
theorem chk_int (e : Bool) (d : Nat) (T : TypeId) (k k' : IntKind) (u : Int) (W : World) (h : Try.prog.underlying T = some (.int k')) : (Instr.checkKey e (d + 1) T (.int k u)).run Try.prog W = .ok () W := by
  rw [Instr.checkKey]
  simp only [Sem.run_bind, run_underlying h, Result.andThen_ok]
  rfl
theorem chkJob (e : Bool) (p : Int × Int) (W : World) : (Instr.checkKey e 10000 35 (encJ p)).run Try.prog W = .ok () W := by
  have u3 := Try.underlying3
  have u5 := Try.underlying5
  have a3 := Try.isAgg3
  have a5 := Try.isAgg5
  have z3 := Try.sizeOf3
  have z5 := Try.sizeOf5
  obtain ⟨u, t⟩ := p
  rw [show (10000 : Nat) = 9998 + 1 + 1 from rfl, Instr.checkKey]
  simp only [Sem.run_bind, run_underlying Try.underlying35, Result.andThen_ok, encJ]
  rw [← Array.forIn_toList]
  simp only [List.forIn_cons, List.forIn_nil]
  go_simp
  simp only [chk_int _ _ _ _ _ _ _ u3, chk_int _ _ _ _ _ _ _ u5]
  rfl
theorem eqJob (x y : Int × Int) (W : World) : (Op.equal 35 (encJ x) (encJ y)).run Try.prog W = .ok (decide (x = y)) W := by
  have u3 := Try.underlying3
  have u5 := Try.underlying5
  have a3 := Try.isAgg3
  have a5 := Try.isAgg5
  have z3 := Try.sizeOf3
  have z5 := Try.sizeOf5
  have hS : Try.prog.underlying 35 = some (.struct (Try.prog.fieldsOf 35)) := by kernel_rfl
  have hp : Try.prog.stoodInHeld 35 = false := by kernel_rfl
  obtain ⟨u, t⟩ := x
  obtain ⟨v, s⟩ := y
  unfold Op.equal Op.maxDepth encJ
  rw [show (10000 : Nat) = 9999 + 1 from rfl, run_equalIn_struct W 9999 _ _ _ hS hp]
  simp only [Program.fieldsOf, Try.underlying35]
  go_simp
  by_cases h1 : u = v <;> by_cases h2 : t = s <;> simp [h1, h2]
theorem keyJob : KeyT 35 encJ where
  chk e x W := chkJob e x W
  eq x y W := eqJob x y W
  now := ⟨_, Try.underlying35, .inr fun x y => rfl⟩
  bits x := by obtain ⟨u, t⟩ := x; simp [Instr.sameBits, encJ]
end Go.Proofs.Ytgchfibcaecjcaa
/- slices.Collect(maps.Keys(m)) where the keys are jobs. -/
namespace Go.Proofs.Ytgchfibcaecjcaa
open Go.RowKit Go.Shelf
set_option linter.unusedVariables false
set_option linter.unusedSimpArgs false
attribute [local go_sem] Oper.semAt_some

set_option maxRecDepth 100000 in
set_option maxHeartbeats 1000000 in
/-- The iterator of maps.Keys: each key once, in some order. -/
theorem keys_seq (F : Fence) (n : Nat) (hF : F.fn 30) (hro : F.round = none) (hn : 1 ≤ n) (Bm b : Nat) (es : List ((Int × Int) × Value)) (w : World) (hBm : Bm < w.heap.size)
    (hm : w.cell? ⟨Bm, 0, none⟩ = some (.map (some b))) (hown : RMap encJ w b es) :
    SeqStopsK F n Try.prog 30 #[.pointer (some ⟨Bm, 0, none⟩)] (fun x : Int × Int => #[encJ x]) KeepsWalks (fun xs => xs.Perm (es.map (·.1))) (fun _ => True) es.length w := by
  intro l J Jx W hW hJ hJx hY h0
  have hm' : W.cell? ⟨Bm, 0, none⟩ = some (.map (some b)) := (hW.cell (p := ⟨Bm, 0, none⟩) hBm).trans hm
  have hown' : RMap encJ W b es := (hW.block b hown.lt).trans hown
  refine callsIn_of_wp Try.func30 rfl hF ?_ hro
  simp only [Try.ntmps30, List.size_toArray, List.length_cons, List.length_nil, Nat.reduceAdd, Nat.reduceSub, Array.replicate_succ, Array.replicate_zero, List.push_toArray, List.append_toArray, List.nil_append, List.cons_append]
  gi_wp2_with (first
    | (gi_at_range; refine wpListIn_range rfl _ 51 39 rfl Try.underlying51 b es rfl hown' ?_; intro w0 hown0 hit0 hg0 hs0)
    | gi_in)
  gi_loopw [3] (fun _ wr => ∃ (seen : List Nat), RMap encJ wr b es ∧ RIter wr W.heap.size b es.length seen ∧ seen.Nodup ∧ (∀ i ∈ seen, i < es.length) ∧ seen.length ≤ es.length ∧ J (keysAt es seen) wr)
    (fun _ wr => es.length - came wr W.heap.size)
  case atStart =>
    exact ⟨[], hown0, hit0, List.nodup_nil, (fun i hi => by cases hi), Nat.zero_le _, hJ [] W w0 none h0 hg0 (fun r e => by cases e)⟩
  case round =>
    obtain ⟨seen, hmp, hit, hnd, hlt, hsl, hJs⟩ := hrel
    gi_wp2_with (first
      | (gi_at_next; refine wpListIn_next rfl _ rfl b W.heap.size es seen rfl hmp hit ?_ ?_)
      | gi_in)
    · intro hall
      gi_wp2
      go_end0
      exact ⟨⟨_, rfl⟩, .inl ⟨_, keysAt_all hnd hlt hall, hJs⟩⟩
    · intro i u t v w2 hi hns hmp2 hit2 hg2 hs2 hen
      have hJ2 : J (keysAt es seen) w2 := hJ _ wr w2 (some W.heap.size) hJs hg2 (fun r e => by cases e; exact ⟨Nat.le_refl _, hit.isWalk⟩)
      clear hs2
      have hen' : (Instr.entry (.pointer (some ⟨W.heap.size, 0, none⟩))).run Try.prog w2 = .ok (.tuple #[.agg #[.int .i64 u, .int .u8 t], v]) w2 := hen
      have hcm := Lib.hid hit.came
      clear hen hJs hmp hit
      have hlt2 : i < es.length := (List.getElem?_eq_some_iff.1 hi).1
      have hJ3 : J (keysAt es seen) (w2.alloc (.cells #[.int .i64 u, .int .u8 t] 35)) := hJ _ w2 _ none hJ2 (Ext.grown ((Ext.refl w2).alloc _)) (fun r e => by cases e)
      have hlt3 : ∀ j ∈ seen ++ [i], j < es.length := by
        intro j hj
        rcases List.mem_append.1 hj with h | h
        · exact hlt j h
        · rw [List.mem_singleton.1 h]; exact hlt2
      have hnd3 : (seen ++ [i]).Nodup := List.nodup_append.2 ⟨hnd, by simp, fun a ha b hb e => by rw [List.mem_singleton.1 hb] at e; exact hns (e ▸ ha)⟩
      have hsl3 : (seen ++ [i]).length ≤ es.length := by exact nodup_le _ hnd3 hlt3
      obtain ⟨fn, tmps, assign, body, hy, hR⟩ := hY _ (u, t) _ hJ3 (by rw [keysAt_length hlt]; simp at hsl3; omega)
      have hy : (Instr.yield l #[.agg #[.int .i64 u, .int .u8 t]]).run Try.prog (w2.alloc (.cells #[.int .i64 u, .int .u8 t] 35)) = _ := hy
      have hrg3 := hit2.kept (Ext.grown ((Ext.refl w2).alloc (.cells #[.int .i64 u, .int .u8 t] 35))) (by simp)
      have hmp3 := hmp2.ext ((Ext.refl w2).alloc (.cells #[.int .i64 u, .int .u8 t] 35))
      clear hJ2 hJ3 hmp2 hit2 hg2 hY
      gi_wp2
      refine hR.mono ?_
      rintro e W3 (⟨rfl, hJ4, hk3⟩ | ⟨rfl, hJx⟩)
      · gi_wp2
        go_roundw
        case rel => exact ⟨seen ++ [i], hmp3.walks hk3, hrg3.walks hk3, hnd3, hlt3, hsl3, by rw [keysAt_snoc hi]; exact hJ4⟩
        case measure =>
          rw [hcm.out, (hrg3.walks hk3).came]
          simp at hsl3 ⊢
          omega
      · gi_wp2
        refine bodyPost_ret (results_none rfl _ _ _) rfl ?_
        exact ⟨⟨_, rfl⟩, .inr ⟨_, trivial, hJx⟩⟩
def cellsJ (l : List (Int × Int)) : List Value := l.flatMap fun p => [.int .i64 p.1, .int .u8 p.2]
theorem cellsJ_snoc (l : List (Int × Int)) (p : Int × Int) : cellsJ (l ++ [p]) = cellsJ l ++ [.int .i64 p.1, .int .u8 p.2] := by simp [cellsJ]
theorem infoJob : (Try.prog.info? 35).map (fun i => (i.zero, i.size, i.bytes)) = some (some (.agg #[.int .i64 0, .int .u8 0]), 2, 16) := by kernel_rfl

set_option maxRecDepth 100000 in
set_option maxHeartbeats 2000000 in
/-- slices.AppendSeq(nil, seq), against whatever iterator. -/
theorem appendSeq_in (F : Fence) (n : Nat) (hA : F.fn 34) (hro : F.round = none) (hn : 2 ≤ n) (g : Nat) (lb : Array Value) (hFg : F.fn g) (eg : ∀ args w, (callFunc g args).run Try.prog w = .ok (.enter g args) w)
    (S : List (Int × Int) → Prop) (N : Nat) (hN : N ≤ 1000000) (w : World) (hseq : SeqStopsK F (n - 1) Try.prog g lb (fun x : Int × Int => #[encJ x]) KeepsWalks S (fun _ => True) N w) :
    CallsIn F n Try.prog 34 #[.slice none 0 0, .func (.func g) #[] lb] w fun e w' => ∃ (v : Value) (ss : List (Int × Int)), e = .returned v ∧ S ss ∧ w'.ownsRow w.heap.size 35 2 v ss.length (cellsJ ss) ∧ Below w.heap.size w w' := by
  have h1 : 1 ≤ n := by omega
  obtain ⟨i0, hi, hz0, hz1, hz2⟩ := info_parts infoJob
  refine callsIn_of_wp_marks Try.func34 rfl hA ?_ hro
  simp only [Try.ntmps34, List.size_toArray, List.length_cons, List.length_nil, Nat.reduceAdd, Nat.reduceSub, Array.replicate_succ, Array.replicate_zero, List.push_toArray, List.append_toArray, List.nil_append, List.cons_append]
  gi_wp2
  have bO := Boxed.new w 27 (.slice none 0 0)
  have hB0 : Below w.heap.size w (w.alloc (.cells #[.slice none 0 0] 27)) := (Below.refl _ w).alloc (Nat.le_refl _) _
  have hsz : (w.alloc (.cells #[.slice none 0 0] 27)).heap.size = w.heap.size + 1 := by simp
  obtain ⟨W0, hW0⟩ : ∃ W0, w.alloc (.cells #[.slice none 0 0] 27) = W0 := ⟨_, rfl⟩
  rw [hW0] at bO hB0 hsz ⊢
  clear hW0
  refine wpIn_rangeFunc_ownH hro h1 (gf := g) (lb := lb) rfl hFg eg hseq walksK_t walksK_b hB0 (fun _ => rfl)
    (fun pre W => (∃ v, Boxed W w.heap.size 27 v ∧ W.ownsRow w.heap.size 35 2 v pre.length (cellsJ pre) ∧ True) ∧ Below w.heap.size w W)
    (fun _ _ _ => False)
    (OwnFrom.and (Own.from (holdsRow_own w.heap.size w.heap.size 27 35 2 (fun pre => pre.length) (fun pre => cellsJ pre) (fun _ _ => True)) _) (ownFrom_below (Nat.le_refl _) (by omega)))
    (fun _ _ _ _ _ hs _ _ => hs)
    ⟨⟨_, bO, World.ownsRow_nil _ _ _ _, trivial⟩, hB0⟩
    (fun x a' W => ∃ Bx, w.heap.size < Bx ∧ W.heap[Bx]? = some (.cells #[.int .i64 x.1, .int .u8 x.2] 35 (0, 0)) ∧ a' = { tmps := #[.slice none 0 0, .func (.func g) #[] lb, .pointer (some ⟨w.heap.size, 0, none⟩), undef, .slice none 0 0, .pointer (some ⟨Bx, 0, none⟩), .func (.func g) #[] lb, encJ x, undef, undef, undef, undef, undef], defers := [] })
    (fun x a' _ X Y row hs hg hr => by
      obtain ⟨Bx, h1, h2, h3⟩ := hs
      refine ⟨Bx, h1, (hg.block Bx (Array.getElem?_eq_some_iff.1 h2).1 (fun e => ?_)).trans h2, h3⟩
      obtain ⟨_, o, ho, hc⟩ := hr Bx e.symm
      rw [h2] at ho; cases ho; cases hc)
    ?assign ?body ?done ?stop
  case assign =>
    rintro l pre ⟨u, t⟩ W K ⟨⟨v, hv, hrow, _⟩, hB1⟩ hK
    have hencJ : encJ (u, t) = .agg #[.int .i64 u, .int .u8 t] := rfl
    rw [hencJ] at hK ⊢
    gi_wp2
    exact hK _ _ ((KeepsOthers.alloc _ _).from _) (KeepsWalks.alloc _ _) ⟨⟨v, hv.alloc _, hrow.alloc _, trivial⟩, hB1.alloc hB1.size _⟩ ⟨W.heap.size, hv.lt, World.alloc_heap_new W _, rfl⟩
  case body =>
    rintro l pre ⟨u, t⟩ a' W hl ⟨r, hr⟩ ⟨⟨v, hv, hrow, _⟩, hB⟩ ⟨Bx, hBx, hX, rfl⟩ hlt
    have hc := hv.cell
    have c0 : W.cell? ⟨Bx, 0, none⟩ = some (.int .i64 u) := by simp [World.cell?, hX]
    have c1 : W.cell? ⟨Bx, 1, none⟩ = some (.int .u8 t) := by simp [World.cell?, hX]
    have hcell : ∀ (j : Nat) (y : Value), [Value.int .i64 u, Value.int .u8 t][j]? = some y → (W.alloc (.cells #[.int .i64 u, .int .u8 t] 35)).cell? ((⟨W.heap.size, 0, none⟩ : Addr).add j) = some y := by
      intro j y hj
      rw [show (⟨W.heap.size, 0, none⟩ : Addr).add j = ⟨W.heap.size, j, none⟩ by unfold Addr.add; split <;> simp_all]
      exact (Blk.newAt W [.int .i64 u, .int .u8 t] 35 W.heap.size rfl).cell j hj
    gi_wp2_with (gi_at_builtin; refine wpListIn_append_own _ rfl _ _ 27 rfl w.heap.size 35 i0 _ 2 16 Try.underlying27 hi hz0 hz1 hz2 rfl (by decide) _ _ _ rfl (hrow.alloc _) ⟨W.heap.size, 0, none⟩ 1 1 [.int .i64 u, .int .u8 t] rfl rfl hcell (by simp [Value.oneCell']) (by unfold maxLen; omega) (by omega) (by have := hB.size; simp; omega) ?_; intro v' w1 hown' hgrow _; obtain ⟨g', cap', rfl⟩ := ownsRow_succ hown'; obtain ⟨hv1, hv2, hr2, hk2, hb2⟩ := hv.appended (by decide) hrow hB.size (Nat.le_refl _) hown' hgrow; have hc1 := hv1.cell; have hf1 := hv1.frozen)
    have hkw : KeepsWalks W (w1.setCell ⟨w.heap.size, 0, none⟩ (.slice (some ⟨g', 0, none⟩) (pre.length + 1) cap')) := ⟨hk2.size, fun k o hk ho => hk2.same k o hk (Obj.not_cells_of_walk ho)⟩
    exact ⟨hk2.from _, hkw, ⟨⟨_, hv2, by rw [cellsJ_snoc, show (pre ++ [(u, t)]).length = pre.length + 1 by simp]; exact hr2⟩, hB.trans hb2⟩⟩
  case done =>
    rintro D ys W hD hS ⟨⟨v, hv, hrow, _⟩, hB⟩ hK
    have hc := hv.cell
    gi_wp2
    refine ⟨by simp, .inl ⟨_, _, rfl, run_takeDeferred hK, ?_⟩⟩
    exact ⟨_, results_tmp rfl _ _ _, v, ys, rfl, hS, ownsRow_putObj hrow _ hK rfl, hB.trans (belowK_b (w := w) (Nat.le_refl _) W D _ _ (by omega) hK rfl rfl)⟩
  case stop =>
    rintro D c pre W _ _ h _
    exact h.elim
end Go.Proofs.Ytgchfibcaecjcaa
/-
  DERIVED: THE SHELF's CONTRACTS AT THIS DUMP, IN PLAIN WORDS (tools/lay-plain.mjs out of 'TryShelf.lean', which tools/lay-shelf.mjs wrote): THE SAME DECLARATIONS UNDER THE SAME NAMES: 'import', 'namespace', 'open', 'def', 'theorem' AND NOTHING ELSE: no command of the shelf's: FOR A HAND-IN. Each laying: the table of numbers ('.._ren') and one theorem, a field a fact of the dump's own or the kernel's comparison; each contract: ONE APPLICATION.
-/
namespace Go.Proofs
open Go.Shelf
def Try.sortJob_ren : Go.Shelf.Ren := ⟨fun | 6 => 29 | 15 => 36 | 14 => 35 | 28 => 47 | 29 => 48 | 20 => 39 | 21 => 40 | 22 => 41 | 23 => 42 | 24 => 43 | 25 => 44 | 26 => 45 | 27 => 46 | 46 => 49 | 47 => 50 | 48 => 51 | 49 => 52 | 50 => 53 | 57 => 54 | n => n, fun | 22 => 27 | 24 => 35 | 25 => 56 | 3 => 3 | 39 => 68 | 0 => 0 | 53 => 80 | 55 => 82 | 4 => 4 | 46 => 73 | 45 => 72 | 50 => 77 | 5 => 5 | 9 => 9 | 66 => 83 | 70 => 87 | 76 => 89 | 77 => 90 | n => n, fun | n => n⟩
theorem Try.sortJob : Go.Proofs.SlLaysF0.n6 Try.prog Try.sortJob_ren := {
  mixed := by kernel_rfl
  f6 := ⟨Try.f29.name, by decide, Try.func29.trans (congrArg some (by kernel_rfl))⟩
  f14 := ⟨Try.f35.name, by decide, Try.func35.trans (congrArg some (by kernel_rfl))⟩
  f15 := Try.func36.trans (congrArg some (by kernel_rfl))
  f20 := ⟨Try.f39.name, by decide, Try.func39.trans (congrArg some (by kernel_rfl))⟩
  f21 := ⟨Try.f40.name, by decide, Try.func40.trans (congrArg some (by kernel_rfl))⟩
  f22 := ⟨Try.f41.name, by decide, Try.func41.trans (congrArg some (by kernel_rfl))⟩
  f23 := ⟨Try.f42.name, by decide, Try.func42.trans (congrArg some (by kernel_rfl))⟩
  f24 := ⟨Try.f43.name, by decide, Try.func43.trans (congrArg some (by kernel_rfl))⟩
  f25 := ⟨Try.f44.name, by decide, Try.func44.trans (congrArg some (by kernel_rfl))⟩
  f26 := ⟨Try.f45.name, by decide, Try.func45.trans (congrArg some (by kernel_rfl))⟩
  f27 := ⟨Try.f46.name, by decide, Try.func46.trans (congrArg some (by kernel_rfl))⟩
  f28 := Try.func47.trans (congrArg some (by kernel_rfl))
  f29 := Try.func48.trans (congrArg some (by kernel_rfl))
  f46 := ⟨Try.f49.name, by decide, Try.func49.trans (congrArg some (by kernel_rfl))⟩
  f47 := Try.func50.trans (congrArg some (by kernel_rfl))
  f48 := Try.func51.trans (congrArg some (by kernel_rfl))
  f49 := ⟨Try.f52.name, by decide, Try.func52.trans (congrArg some (by kernel_rfl))⟩
  f50 := ⟨Try.f53.name, by decide, Try.func53.trans (congrArg some (by kernel_rfl))⟩
  f57 := ⟨Try.f54.name, by decide, Try.func54.trans (congrArg some (by kernel_rfl))⟩
  t0 := Try.underlying0
  a0 := Try.isAgg0
  z0 := Try.sizeOf0
  v0 := Try.zeroValue0
  t3 := Try.underlying3
  a3 := Try.isAgg3
  z3 := Try.sizeOf3
  v3 := Try.zeroValue3
  t4 := Try.underlying4
  a4 := Try.isAgg4
  z4 := Try.sizeOf4
  v4 := Try.zeroValue4
  t5 := Try.underlying5
  a5 := Try.isAgg5
  z5 := Try.sizeOf5
  v5 := Try.zeroValue5
  t9 := Try.underlying9
  a9 := Try.isAgg9
  z9 := Try.sizeOf9
  v9 := Try.zeroValue9
  t22 := Try.underlying27
  a22 := Try.isAgg27
  z22 := Try.sizeOf27
  v22 := Try.zeroValue27
  t25 := Try.underlying56
  a25 := Try.isAgg56
  z25 := Try.sizeOf56
  v25 := Try.zeroValue56
  t39 := Try.underlying68
  a39 := Try.isAgg68
  z39 := Try.sizeOf68
  v39 := Try.zeroValue68
  t45 := Try.underlying72
  a45 := Try.isAgg72
  z45 := Try.sizeOf72
  v45 := Try.zeroValue72
  t46 := Try.underlying73
  a46 := Try.isAgg73
  z46 := Try.sizeOf73
  v46 := Try.zeroValue73
  t50 := Try.underlying77
  a50 := Try.isAgg77
  z50 := Try.sizeOf77
  v50 := Try.zeroValue77
  t53 := Try.underlying80
  a53 := Try.isAgg80
  z53 := Try.sizeOf80
  v53 := Try.zeroValue80
  t55 := Try.underlying82
  a55 := Try.isAgg82
  z55 := Try.sizeOf82
  v55 := Try.zeroValue82
  t66 := Try.underlying83
  a66 := Try.isAgg83
  z66 := Try.sizeOf83
  v66 := Try.zeroValue83
  t70 := Try.underlying87
  a70 := Try.isAgg87
  z70 := Try.sizeOf87
  v70 := Try.zeroValue87
  t76 := Try.underlying89
  a76 := Try.isAgg89
  z76 := Try.sizeOf89
  v76 := Try.zeroValue89
  t77 := Try.underlying90
  a77 := Try.isAgg90
  z77 := Try.sizeOf90
  v77 := Try.zeroValue90 }
end Go.Proofs
/- jobs.order: Job's order, and that it may be handed to the sort. -/
namespace Go.Proofs.Ytgchfibcaecjcaa
open Go.RowKit Go.Shelf Go.Sort
set_option linter.unusedVariables false
set_option linter.unusedSimpArgs false

def cmpI (a b : Int) : Int := if a < b then -1 else if b < a then 1 else 0
theorem nan_int (a : Int) (w : World) : Calls Try.prog 37 #[.int .i64 a] w fun e w' => e = .returned (.bool false) ∧ w = w' := by
  go_enter Try.func37, Try.ntmps37
  go_wp2_with fail
  go_ret
  exact ⟨by simp, rfl⟩
theorem nan_u8 (a : Int) (w : World) : Calls Try.prog 38 #[.int .u8 a] w fun e w' => e = .returned (.bool false) ∧ w = w' := by
  go_enter Try.func38, Try.ntmps38
  go_wp2_with fail
  go_ret
  exact ⟨by simp, rfl⟩
theorem cmp_int (a b : Int) (w : World) : Calls Try.prog 32 #[.int .i64 a, .int .i64 b] w fun e w' => e = .returned (.int .i64 (cmpI a b)) ∧ w = w' := by
  have h1 : a < b → cmpI a b = -1 := fun h => if_pos h
  have h2 : ¬ a < b → b < a → cmpI a b = 1 := fun h k => by unfold cmpI; rw [if_neg h, if_pos k]
  have h3 : ¬ a < b → ¬ b < a → cmpI a b = 0 := fun h k => by unfold cmpI; rw [if_neg h, if_neg k]
  by_cases c1 : a < b
  · have HE := Lib.hid (h1 c1)
    clear h1 h2 h3
    go_enter Try.func32, Try.ntmps32
    go_wp2_with (go_at_call 37; refine (nan_int _ _).mono ?_; rintro e w' ⟨rfl, rfl⟩)
    go_ret
    exact ⟨by rw [HE.out]; rfl, rfl⟩
  · by_cases c2 : b < a
    · have HE := Lib.hid (h2 c1 c2)
      clear h1 h2 h3
      go_enter Try.func32, Try.ntmps32
      go_wp2_with (go_at_call 37; refine (nan_int _ _).mono ?_; rintro e w' ⟨rfl, rfl⟩)
      go_ret
      exact ⟨by rw [HE.out]; rfl, rfl⟩
    · have HE := Lib.hid (h3 c1 c2)
      clear h1 h2 h3
      go_enter Try.func32, Try.ntmps32
      go_wp2_with (go_at_call 37; refine (nan_int _ _).mono ?_; rintro e w' ⟨rfl, rfl⟩)
      go_ret
      exact ⟨by rw [HE.out]; rfl, rfl⟩
theorem cmp_u8 (a b : Int) (w : World) : Calls Try.prog 33 #[.int .u8 a, .int .u8 b] w fun e w' => e = .returned (.int .i64 (cmpI a b)) ∧ w = w' := by
  have h1 : a < b → cmpI a b = -1 := fun h => if_pos h
  have h2 : ¬ a < b → b < a → cmpI a b = 1 := fun h k => by unfold cmpI; rw [if_neg h, if_pos k]
  have h3 : ¬ a < b → ¬ b < a → cmpI a b = 0 := fun h k => by unfold cmpI; rw [if_neg h, if_neg k]
  by_cases c1 : a < b
  · have HE := Lib.hid (h1 c1)
    clear h1 h2 h3
    go_enter Try.func33, Try.ntmps33
    go_wp2_with (go_at_call 38; refine (nan_u8 _ _).mono ?_; rintro e w' ⟨rfl, rfl⟩)
    go_ret
    exact ⟨by rw [HE.out]; rfl, rfl⟩
  · by_cases c2 : b < a
    · have HE := Lib.hid (h2 c1 c2)
      clear h1 h2 h3
      go_enter Try.func33, Try.ntmps33
      go_wp2_with (go_at_call 38; refine (nan_u8 _ _).mono ?_; rintro e w' ⟨rfl, rfl⟩)
      go_ret
      exact ⟨by rw [HE.out]; rfl, rfl⟩
    · have HE := Lib.hid (h3 c1 c2)
      clear h1 h2 h3
      go_enter Try.func33, Try.ntmps33
      go_wp2_with (go_at_call 38; refine (nan_u8 _ _).mono ?_; rintro e w' ⟨rfl, rfl⟩)
      go_ret
      exact ⟨by rw [HE.out]; rfl, rfl⟩
def orI (x y : Int) : Int := if x = 0 then y else x
theorem or_int (x y : Int) (b : Nat) (w : World) (c0 : w.cell? ⟨b, 0, none⟩ = some (.int .i64 x)) (c1 : w.cell? ⟨b, 1, none⟩ = some (.int .i64 y)) :
    Calls Try.prog 31 #[.slice (some ⟨b, 0, none⟩) 2 2] w fun e w' => e = .returned (.int .i64 (orI x y)) ∧ w = w' := by
  have h1 : x = 0 → orI x y = y := fun h => if_pos h
  have h2 : ¬ x = 0 → orI x y = x := fun h => if_neg h
  have HP := Lib.hid (And.intro h1 h2)
  clear h1 h2
  go_enter Try.func31, Try.ntmps31
  go_wp2_with fail
  go_loop [8] (fun i => ∃ k : Nat, k ≤ 2 ∧ i = .int .i64 k ∧ (1 ≤ k → x = 0) ∧ (2 ≤ k → y = 0)) (fun i => 2 - (RowKit.intOf i).toNat)
  case atStart => exact ⟨0, by omega, rfl, fun h => by omega, fun h => by omega⟩
  case round =>
    obtain ⟨k, hk, rfl, hx, hy⟩ := hrel
    have HX := Lib.hid hx
    have HY := Lib.hid hy
    clear hx hy
    rcases (show k = 0 ∨ k = 1 ∨ k = 2 by omega) with rfl | rfl | rfl
    · by_cases hz : x = 0
      · have hb : (x != 0) = false := by simpa using hz
        have HZ := Lib.hid hz
        clear hz
        go_wp2_with fail
        go_round
        case rel => exact ⟨1, by omega, rfl, fun _ => HZ.out, fun h => by omega⟩
        case measure => simp [RowKit.intOf]
      · have hb : (x != 0) = true := by simpa using hz
        have HZ := Lib.hid (HP.out.2 hz)
        clear hz
        go_wp2_with fail
        go_ret
        exact ⟨by rw [HZ.out]; rfl, rfl⟩
    · by_cases hz : y = 0
      · have hb : (y != 0) = false := by simpa using hz
        have HZ := Lib.hid hz
        clear hz
        go_wp2_with fail
        go_round
        case rel => exact ⟨2, by omega, rfl, fun _ => HX.out (by omega), fun _ => HZ.out⟩
        case measure => simp [RowKit.intOf]
      · have hb : (y != 0) = true := by simpa using hz
        have HZ := Lib.hid (HP.out.1 (HX.out (by omega)))
        clear hz
        go_wp2_with fail
        go_ret
        exact ⟨by rw [HZ.out]; rfl, rfl⟩
    · have HZ := Lib.hid ((HP.out.1 (HX.out (by omega))).trans (HY.out (by omega)))
      go_wp2_with fail
      go_ret
      exact ⟨by rw [HZ.out]; rfl, rfl⟩
def cmpJ (a b : Int × Int) : Int := orI (cmpI a.1 b.1) (cmpI a.2 b.2)
def encJc (p : Int × Int) : List Value := [.int .i64 p.1, .int .u8 p.2]
set_option maxHeartbeats 1000000 in
theorem order_job (x y : Int × Int) (w : World) : Calls Try.prog 25 #[.agg (encJc x).toArray, .agg (encJc y).toArray] w fun e w' => e = .returned (.int .i64 (cmpJ x y)) ∧ ∃ q os', w' = grow (w.drewN q) os' := by
  obtain ⟨u, t⟩ := x
  obtain ⟨v, s⟩ := y
  obtain ⟨c1, h1⟩ : ∃ c, cmpI u v = c := ⟨_, rfl⟩
  obtain ⟨c2, h2⟩ : ∃ c, cmpI t s = c := ⟨_, rfl⟩
  have HC := Lib.hid (show cmpJ (u, t) (v, s) = orI c1 c2 by unfold cmpJ; rw [h1, h2])
  have H1 := Lib.hid fun W => cmp_int u v W
  have H2 := Lib.hid fun W => cmp_u8 t s W
  rw [h1] at H1
  rw [h2] at H2
  clear h1 h2
  show Calls Try.prog 25 #[.agg #[.int .i64 u, .int .u8 t], .agg #[.int .i64 v, .int .u8 s]] w _
  go_enter Try.func25, Try.ntmps25
  go_wp2_with fail
  refine wp_region_drew_tail 9 (by kernel_rfl) (by kernel_rfl) ?_; simp only [List.take_succ_cons, List.take_zero, List.drop_succ_cons, List.drop_zero]; (repeat (quiet_step ((go_at_call 32; exact Calls.quiet_of_same ((H1.out _).mono fun e w' h => ⟨h.1, h.2.symm⟩))))); refine wpQuiet_nil ?_; rintro _ ⟨nq, rfl⟩
  go_wp2_with (first | (go_at_call 33; refine (H2.out _).mono ?_; rintro e w' ⟨rfl, rfl⟩) | (go_at_call 31; refine (or_int c1 c2 _ _ ?ha ?hb).mono ?_; (case ha => go_simp); (case hb => go_simp); rintro e w' ⟨rfl, rfl⟩))
  go_ret
  exact ⟨by rw [HC.out]; rfl, nq, #[.cells #[.int .i64 u, .int .u8 t] 35, .cells #[.int .i64 v, .int .u8 s] 35, .cells #[.int .i64 c1, .int .i64 c2] 3], by
    rw [alloc_eq_grow, alloc_eq_grow, alloc_eq_grow, show ∀ (W : World) os, (grow W os).drewN nq = grow (W.drewN nq) os from fun _ _ => rfl, show ∀ (W : World) os, (grow W os).drewN nq = grow (W.drewN nq) os from fun _ _ => rfl, grow_grow, grow_grow]
    rfl⟩
theorem cmpLays (blk off size : Nat) (w : World) : CmpLays Try.prog 25 #[] encJc 2 cmpJ blk off size w := fun _ _ _ _ x y => order_job x y _
/-- Ahead, by unit and type. -/
def ltJ (a b : Int × Int) : Bool := decide (a.1 < b.1 ∨ a.1 = b.1 ∧ a.2 < b.2)
theorem ltOf_cmpJ (a b : Int × Int) : ltOf cmpJ a b = ltJ a b := by
  unfold ltOf ltJ cmpJ orI cmpI
  rw [decide_eq_decide]
  split <;> split <;> (try split) <;> (try split) <;> omega
theorem swoJ : SWO (ltOf cmpJ) where
  irrefl x := by rw [ltOf_cmpJ]; simp [ltJ]
  trans x y z h1 h2 := by rw [ltOf_cmpJ] at *; simp only [ltJ, decide_eq_true_eq] at *; omega
  ntrans x y z h1 h2 := by rw [ltOf_cmpJ] at *; simp only [ltJ, decide_eq_false_iff_not] at *; omega
theorem totJ (x y : Int × Int) (h1 : ltOf cmpJ x y = false) (h2 : ltOf cmpJ y x = false) : x = y := by
  rw [ltOf_cmpJ] at *
  simp only [ltJ, decide_eq_false_iff_not] at *
  obtain ⟨a, b⟩ := x
  obtain ⟨c, d⟩ := y
  simp only at *
  have : a = c := by omega
  have : b = d := by omega
  simp [*]
def sortJ (ss : List (Int × Int)) : List (Int × Int) := ss.mergeSort fun x y => !(ltOf cmpJ) y x
theorem cellsJ_length (l : List (Int × Int)) : (cellsJ l).length = l.length * 2 := by
  induction l with
  | nil => rfl
  | cons p l ih => simp only [cellsJ, List.flatMap_cons, List.length_append, List.length_cons, List.length_nil] at *; omega
theorem flatK_cells (l : List (Int × Int)) : (flatK encJc 2 l.toArray).toList = cellsJ l := by
  apply List.ext_getElem?
  intro t
  by_cases ht : t < l.length * 2
  · have h1 : (flatK encJc 2 l.toArray).toList[t]? = some ((encJc l.toArray[t / 2]!)[t % 2]!) := by
      have hs : t < (flatK encJc 2 l.toArray).size := by rw [size_flatK]; simpa using ht
      rw [Array.getElem?_toList, Array.getElem?_eq_getElem hs, ← get_flatK encJc 2 l.toArray t (by simpa using ht), getElem!_pos _ t hs]
    rw [h1]
    clear h1
    induction l generalizing t with
    | nil => simp at ht
    | cons p l ih =>
      have hc : cellsJ (p :: l) = .int .i64 p.1 :: .int .u8 p.2 :: cellsJ l := rfl
      rw [hc]
      match t, ht with
      | 0, _ => rfl
      | 1, _ => rfl
      | t + 2, ht =>
        have := ih t (by simp at ht; omega)
        rw [show (t + 2) / 2 = t / 2 + 1 by omega, show (t + 2) % 2 = t % 2 by omega]
        simpa using this
  · rw [List.getElem?_eq_none (by rw [Array.length_toList, size_flatK]; simp; omega), List.getElem?_eq_none (by rw [cellsJ_length]; omega)]
end Go.Proofs.Ytgchfibcaecjcaa
/- slices.SortFunc(l, jobs.order), slices.SortedFunc(maps.Keys(m), jobs.order). -/
namespace Go.Proofs.Ytgchfibcaecjcaa
open Go.RowKit Go.Shelf Go.Sort
set_option linter.unusedVariables false
set_option linter.unusedSimpArgs false
def leJ (x y : Int × Int) : Bool := !(ltOf cmpJ) y x
theorem leJ_iff (x y : Int × Int) : leJ x y = true ↔ x.1 < y.1 ∨ x.1 = y.1 ∧ x.2 ≤ y.2 := by
  unfold leJ
  rw [ltOf_cmpJ]
  simp only [ltJ, Bool.not_eq_true', decide_eq_false_iff_not]
  omega
theorem leJ_trans (a b c : Int × Int) (h1 : leJ a b = true) (h2 : leJ b c = true) : leJ a c = true := by
  rw [leJ_iff] at *; omega
theorem leJ_total (a b : Int × Int) : (leJ a b || leJ b a) = true := by
  rw [Bool.or_eq_true, leJ_iff, leJ_iff]; omega
theorem leJ_anti (a b : Int × Int) (h1 : leJ a b = true) (h2 : leJ b a = true) : a = b := by
  rw [leJ_iff] at *
  obtain ⟨u, t⟩ := a
  obtain ⟨v, s⟩ := b
  simp only at *
  have : u = v := by omega
  have : t = s := by omega
  simp [*]
theorem sortJ_pairwise (l : List (Int × Int)) : (sortJ l).Pairwise fun a b => leJ a b = true := List.pairwise_mergeSort leJ_trans leJ_total l
theorem sortJ_perm (l : List (Int × Int)) : (sortJ l).Perm l := List.mergeSort_perm l _
theorem sortJ_eq {l l' : List (Int × Int)} (h : l.Perm l') : sortJ l = sortJ l' :=
  List.Perm.eq_of_pairwise (fun a b _ _ h1 h2 => leJ_anti a b h1 h2) (sortJ_pairwise l) (sortJ_pairwise l') (((sortJ_perm l).trans h).trans (sortJ_perm l').symm)
theorem sortJ_length (ss : List (Int × Int)) : (sortJ ss).length = ss.length := by unfold sortJ; exact List.length_mergeSort _
theorem putCells_take (F : Array Value) (cur : Array Value) (h : F.size ≤ cur.size) : (putCells id 0 F cur).toList.take F.size = F.toList ∧ (putCells id 0 F cur).size = cur.size := by
  constructor
  · apply List.ext_getElem?
    intro t
    unfold putCells
    rw [List.getElem?_take]
    by_cases ht : t < F.size
    · rw [if_pos ht, Array.getElem?_toList, Array.getElem?_mapIdx, Array.getElem?_eq_getElem (by omega), Array.getElem?_toList, Array.getElem?_eq_getElem ht]
      simp only [Option.map_some, Option.some.injEq]
      rw [if_pos ⟨Nat.zero_le _, by omega⟩, Nat.sub_zero, getElem!_pos F t ht]
      rfl
    · rw [if_neg ht, List.getElem?_eq_none (by simpa using ht)]
  · unfold putCells; simp
theorem sort_calls {base : Nat} {v : Value} {ss : List (Int × Int)} {w : World} (h : w.ownsRow base 35 2 v ss.length (cellsJ ss)) (hmax : ss.length ≤ 1000000) :
    Calls Try.prog 29 #[v, .func (.func 25) #[] #[]] w fun e w' => e = .returned (.tuple #[]) ∧ w'.ownsRow base 35 2 v (sortJ ss).length (cellsJ (sortJ ss)) ∧ w.grownBy w' v.ownBlock := by
  obtain ⟨hl, h2⟩ := h
  rcases h2 with ⟨rfl, h0⟩ | ⟨g, cap, cur, rfl, hb, hg, hn, hcap, hs, ht⟩
  · have : ss = [] := List.eq_nil_of_length_eq_zero h0
    subst this
    refine (AnyF.slices_SortFunc_none Try.sortJob none 0 _ w).mono ?_
    rintro e w' ⟨rfl, rfl⟩
    have hs : sortJ [] = [] := by simp [sortJ]
    rw [hs]
    exact ⟨rfl, World.ownsRow_nil _ _ _ _, rfl, rfl, rfl, Nat.le_refl _, fun _ _ _ => rfl⟩
  · have hcell : ∀ j, j < ss.length * 2 → w.cell? ⟨g, j, none⟩ = (cellsJ ss)[j]? := by
      intro j hj
      rw [← ht, List.getElem?_take, if_pos hj]
      simp [World.cell?, hg]
    have hH : HoldsK encJc 2 w g 0 ss.toArray := by
      intro j hj
      rw [size_flatK] at hj
      have hj' : j < ss.length * 2 := by simpa using hj
      rw [Nat.zero_add]
      refine ⟨?_, by simp [World.frozen?, hg]⟩
      rw [hcell j hj', ← flatK_cells, Array.getElem?_toList, Array.getElem?_eq_getElem (by rw [size_flatK]; exact hj), getElem!_pos _ j (by rw [size_flatK]; exact hj)]
      rfl
    have hlt : g < w.heap.size := (Array.getElem?_eq_some_iff.1 hg).1
    have hcon := AnyQ.slices_SortFunc_total Try.sortJob 2 Try.isAgg35 Try.sizeOf35 encJc (fun _ => rfl) (fun x u hu => by simp [encJc] at hu; rcases hu with rfl | rfl <;> rfl) cmpJ swoJ 25 #[] g 0 cap ss.toArray w
      (enters_of Try.func25 (by kernel_rfl) rfl) (cmpLays g 0 _ w) hH hlt (by simp; omega) totJ
    change Calls Try.prog 29 _ _ _ at hcon
    rw [List.size_toArray] at hcon
    refine hcon.mono ?_
    rintro e w' ⟨rfl, n, os, rfl⟩
    have hsj : (ss.toArray.toList.mergeSort fun x y => !(ltOf cmpJ) y x) = sortJ ss := rfl
    rw [hsj]
    have hfs : (flatK encJc 2 (sortJ ss).toArray).size = ss.length * 2 := by rw [size_flatK, List.size_toArray, sortJ_length]
    have hw : (sortWorldK encJc 2 w g 0 n (sortJ ss).toArray os).heap[g]? = some (.cells (putCells id 0 (flatK encJc 2 (sortJ ss).toArray) cur) 35 (0, 0)) := by
      show (w.heap.modify g (onCells (putCells id 0 (flatK encJc 2 (sortJ ss).toArray))) ++ os)[g]? = _
      rw [Array.getElem?_append_left (by simpa using hlt), Array.getElem?_modify, if_pos rfl, hg]
      rfl
    have hpt := putCells_take (flatK encJc 2 (sortJ ss).toArray) cur (by rw [hfs, hs]; exact Nat.mul_le_mul_right _ hn)
    refine ⟨rfl, ⟨cellsJ_length _, .inr ⟨g, cap, _, by rw [sortJ_length], hb, hw, by rw [sortJ_length]; exact hn, hcap, by rw [hpt.2]; exact hs, ?_⟩⟩, ?_⟩
    · rw [sortJ_length, ← hfs, hpt.1, flatK_cells]
    · refine ⟨rfl, rfl, rfl, ?_, fun k hk hne => ?_⟩
      · show w.heap.size ≤ (w.heap.modify g _ ++ os).size
        simp
      · show (w.heap.modify g _ ++ os)[k]? = _
        have hgk : g ≠ k := fun e => hne (by rw [← e]; rfl)
        rw [Array.getElem?_append_left (by simpa using hk), Array.getElem?_modify, if_neg hgk]
theorem keysf (b : Nat) (w : World) : Calls Try.prog 24 #[.map (some b)] w fun e w' => e = .returned (.func (.func 30) #[] #[.pointer (some ⟨w.heap.size, 0, none⟩)]) ∧ w' = w.alloc (.cells #[.map (some b)] 51) := by
  go_enter Try.func24, Try.ntmps24
  go_wp2_with fail
  go_ret
  exact ⟨rfl, rfl⟩
theorem collect_calls (g : Nat) (lb : Array Value) (eg : ∀ args w, (callFunc g args).run Try.prog w = .ok (.enter g args) w)
    (S : List (Int × Int) → Prop) (N : Nat) (hN : N ≤ 1000000) (w : World) (hseq : ∀ n, 1 ≤ n → SeqStopsK Fence.wide n Try.prog g lb (fun x : Int × Int => #[encJ x]) KeepsWalks S (fun _ => True) N w) :
    Calls Try.prog 28 #[.func (.func g) #[] lb] w fun e w' => ∃ (v : Value) (ss : List (Int × Int)), e = .returned v ∧ S ss ∧ w'.ownsRow w.heap.size 35 2 v ss.length (cellsJ ss) ∧ Below w.heap.size w w' := by
  have hA := Lib.hid (callsIn_wide.1 (appendSeq_in Fence.wide 3 trivial rfl (by omega) g lb trivial eg S N hN w (hseq 2 (by omega))))
  go_enter Try.func28, Try.ntmps28
  go_wp2_with (go_at_call 34; refine hA.out.mono ?_; rintro e w' ⟨v, ss, rfl, hS, hrow, hb⟩)
  go_ret
  exact ⟨v, ss, rfl, hS, hrow, hb⟩
theorem sortedFunc_calls (Bm b : Nat) (es : List ((Int × Int) × Value)) (w : World) (hBm : Bm < w.heap.size) (hm : w.cell? ⟨Bm, 0, none⟩ = some (.map (some b))) (hown : RMap encJ w b es) (hN : es.length ≤ 1000000) :
    Calls Try.prog 23 #[.func (.func 30) #[] #[.pointer (some ⟨Bm, 0, none⟩)], .func (.func 25) #[] #[]] w fun e w' => ∃ (v : Value) (ss : List (Int × Int)), e = .returned v ∧ ss = sortJ (es.map (·.1)) ∧ w'.ownsRow w.heap.size 35 2 v ss.length (cellsJ ss) ∧ Below w.heap.size w w' := by
  have hC := Lib.hid (collect_calls 30 #[.pointer (some ⟨Bm, 0, none⟩)] (enters_of Try.func30 (by kernel_rfl) rfl) _ _ hN w (fun n hn => keys_seq Fence.wide n trivial rfl hn Bm b es w hBm hm hown))
  go_enter Try.func23, Try.ntmps23
  go_wp2_with (first | (go_at_call 28; refine hC.out.mono ?_; rintro e w' ⟨v, ss, rfl, hS, hrow, hb⟩))
  have hlen : ss.length ≤ 1000000 := by rw [hS.length_eq]; simpa using hN
  refine (sort_calls hrow hlen).mono ?_
  rintro e w2 ⟨rfl, hr2, hg2⟩
  go_wp2_with fail
  go_ret
  exact ⟨v, sortJ ss, rfl, sortJ_eq hS, hr2, hb.grown hg2 hb.size (fun k e => (hrow.lt k e).1)⟩
end Go.Proofs.Ytgchfibcaecjcaa
/- Plain: items sorted, each job once. -/
namespace Go.Proofs.Ytgchfibcaecjcaa
open Go.Shelf Go.Sort
set_option linter.unusedVariables false
set_option linter.unusedSimpArgs false

def jobOf (x : It) : Int × Int := (x.u, x.t)
def mustOf (l : List It) (k : Int × Int) : Bool := l.any fun x => decide (jobOf x = k) && x.m
def ltI (x y : It) : Bool := ltJ (jobOf x) (jobOf y)
def ins (x : It) : List It → List It
  | [] => [x]
  | y :: ys => if ltI y x then y :: ins x ys else if ltI x y then x :: y :: ys else ⟨y.u, y.t, y.m || x.m⟩ :: ys
def sortedL (l : List It) : List It := l.foldl (fun acc x => ins x acc) []
theorem ltJ_iff (a b : Int × Int) : ltJ a b = true ↔ a.1 < b.1 ∨ a.1 = b.1 ∧ a.2 < b.2 := by unfold ltJ; rw [decide_eq_true_iff]
theorem ltJ_trans {a b c : Int × Int} (h1 : ltJ a b = true) (h2 : ltJ b c = true) : ltJ a c = true := by rw [ltJ_iff] at *; omega
theorem ltJ_irrefl (a : Int × Int) : ltJ a a = false := by rw [← Bool.not_eq_true, ltJ_iff]; omega
theorem ltJ_tri {a b : Int × Int} (h1 : ltJ a b = false) (h2 : ltJ b a = false) : a = b := totJ a b (by rw [ltOf_cmpJ]; exact h1) (by rw [ltOf_cmpJ]; exact h2)
theorem ltJ_ne {a b : Int × Int} (h : ltJ a b = true) : a ≠ b := by
  rintro rfl
  rw [ltJ_irrefl] at h
  cases h
/-- Strictly rising. -/
def Rise (l : List It) : Prop := l.Pairwise fun x y => ltI x y = true
theorem mem_ins {x : It} : ∀ {l : List It}, ∀ y, y ∈ (ins x l).map jobOf ↔ y = jobOf x ∨ y ∈ l.map jobOf
  | [], y => by simp [ins]
  | z :: zs, y => by
    unfold ins
    by_cases h1 : ltI z x = true
    · rw [if_pos h1]
      simp only [List.map_cons, List.mem_cons, mem_ins]
      constructor
      · rintro (h | h | h) <;> simp [h]
      · rintro (h | h | h) <;> simp [h]
    · rw [if_neg h1]
      by_cases h2 : ltI x z = true
      · rw [if_pos h2]
        simp only [List.map_cons, List.mem_cons]
      · rw [if_neg h2]
        have e : jobOf z = jobOf x := ltJ_tri (by simpa [ltI] using h1) (by simpa [ltI] using h2)
        simp only [List.map_cons, List.mem_cons]
        have e2 : jobOf ⟨z.u, z.t, z.m || x.m⟩ = jobOf z := rfl
        rw [e2, e]
        constructor
        · rintro (h | h) <;> simp [h]
        · rintro (h | h | h) <;> simp [h]
theorem rise_ins {x : It} : ∀ {l : List It}, Rise l → Rise (ins x l)
  | [], _ => by simp [ins, Rise]
  | z :: zs, h => by
    obtain ⟨h0, h1⟩ := List.pairwise_cons.1 h
    unfold ins
    by_cases c1 : ltI z x = true
    · rw [if_pos c1]
      refine List.pairwise_cons.2 ⟨fun y hy => ?_, rise_ins h1⟩
      have : jobOf y ∈ (ins x zs).map jobOf := List.mem_map_of_mem hy
      rcases (mem_ins _).1 this with e | e
      · unfold ltI; rw [e]; exact c1
      · obtain ⟨y', hy', e⟩ := List.mem_map.1 e
        unfold ltI; rw [← e]; exact h0 y' hy'
    · rw [if_neg c1]
      by_cases c2 : ltI x z = true
      · rw [if_pos c2]
        exact List.pairwise_cons.2 ⟨fun y hy => by
          rcases List.mem_cons.1 hy with rfl | hy
          · exact c2
          · exact ltJ_trans c2 (h0 y hy), h⟩
      · rw [if_neg c2]
        exact List.pairwise_cons.2 ⟨fun y hy => h0 y hy, h1⟩
theorem must_ins {x : It} {k : Int × Int} : ∀ {l : List It}, mustOf (ins x l) k = (mustOf l k || (decide (jobOf x = k) && x.m))
  | [] => by simp [ins, mustOf]
  | z :: zs => by
    unfold ins
    by_cases c1 : ltI z x = true
    · rw [if_pos c1]
      have := must_ins (x := x) (k := k) (l := zs)
      unfold mustOf at *
      rw [List.any_cons, this, List.any_cons, Bool.or_assoc]
    · rw [if_neg c1]
      by_cases c2 : ltI x z = true
      · rw [if_pos c2]
        unfold mustOf
        rw [List.any_cons, Bool.or_comm]
      · rw [if_neg c2]
        have e : jobOf z = jobOf x := ltJ_tri (by simpa [ltI] using c1) (by simpa [ltI] using c2)
        have e2 : jobOf ⟨z.u, z.t, z.m || x.m⟩ = jobOf z := rfl
        unfold mustOf
        rw [List.any_cons, List.any_cons, e2, e]
        cases decide (jobOf x = k) <;> cases z.m <;> cases x.m <;> simp
/-- In a rising list a job stands once: it bears its own must. -/
theorem rise_must {l : List It} (h : Rise l) {x : It} (hx : x ∈ l) : mustOf l (jobOf x) = x.m := by
  induction l with
  | nil => cases hx
  | cons z zs ih =>
    obtain ⟨h0, h1⟩ := List.pairwise_cons.1 h
    unfold mustOf at *
    rw [List.any_cons]
    rcases List.mem_cons.1 hx with rfl | hx
    · have : zs.any (fun y => decide (jobOf y = jobOf x) && y.m) = false := by
        rw [List.any_eq_false]
        intro y hy
        have := ltJ_ne (h0 y hy)
        have hd : decide (jobOf y = jobOf x) = false := decide_eq_false fun e => this e.symm
        simp [hd]
      rw [this]; simp
    · have : jobOf z ≠ jobOf x := ltJ_ne (h0 x hx)
      rw [ih h1 hx]
      simp [this]
theorem sortedL_snoc (l : List It) (x : It) : sortedL (l ++ [x]) = ins x (sortedL l) := by unfold sortedL; rw [List.foldl_append]; rfl
theorem sortedL_facts (l : List It) : Rise (sortedL l) ∧ (∀ k, k ∈ (sortedL l).map jobOf ↔ k ∈ l.map jobOf) ∧ ∀ k, mustOf (sortedL l) k = mustOf l k := by
  have key : ∀ m, m ≤ l.length → Rise (sortedL (l.take m)) ∧ (∀ k, k ∈ (sortedL (l.take m)).map jobOf ↔ k ∈ (l.take m).map jobOf) ∧ ∀ k, mustOf (sortedL (l.take m)) k = mustOf (l.take m) k := by
    intro m
    induction m with
    | zero => intro _; exact ⟨List.Pairwise.nil, fun k => by simp [sortedL], fun k => by simp [sortedL]⟩
    | succ m ih =>
      intro hm
      obtain ⟨h1, h2, h3⟩ := ih (by omega)
      rw [List.take_succ_eq_append_getElem (by omega), sortedL_snoc]
      refine ⟨rise_ins h1, fun k => ?_, fun k => ?_⟩
      · rw [mem_ins, h2]
        simp only [List.map_append, List.mem_append, List.map_cons, List.map_nil, List.mem_singleton]
        exact Or.comm
      · rw [must_ins, h3]
        unfold mustOf
        rw [List.any_append]
        simp
  have := key l.length (Nat.le_refl _)
  rwa [List.take_length] at this
/-- What is strictly rising, has these jobs and their musts, is the sorted row. -/
theorem sortedL_of {l : List It} {ks : List (Int × Int)} (hn : ks.Nodup) (hk : ∀ k, k ∈ ks ↔ k ∈ l.map jobOf) : (sortJ ks).map (fun k => (⟨k.1, k.2, mustOf l k⟩ : It)) = sortedL l := by
  obtain ⟨h1, h2, h3⟩ := sortedL_facts l
  have hnd : ((sortedL l).map jobOf).Nodup := by
    rw [List.nodup_iff_pairwise_ne, List.pairwise_map]
    exact h1.imp fun h => ltJ_ne h
  have hp : ks.Perm ((sortedL l).map jobOf) := (List.perm_ext_iff_of_nodup hn hnd).2 fun k => by rw [hk, h2]
  have hs : sortJ ks = (sortedL l).map jobOf := by
    refine List.Perm.eq_of_pairwise (fun a b _ _ x y => leJ_anti a b x y) (sortJ_pairwise ks) ?_ ((sortJ_perm ks).trans hp)
    rw [List.pairwise_map]
    refine h1.imp fun {a b} h => ?_
    rw [leJ_iff]
    unfold ltI at h
    rw [ltJ_iff] at h
    omega
  rw [hs, List.map_map]
  conv => rhs; rw [← List.map_id (sortedL l)]
  apply List.map_congr_left
  intro x hx
  show (⟨x.u, x.t, mustOf l (jobOf x)⟩ : It) = x
  rw [← h3, rise_must h1 hx]
end Go.Proofs.Ytgchfibcaecjcaa
/- jobs.Sorted. -/
namespace Go.Proofs.Ytgchfibcaecjcaa
open Go.RowKit Go.Lib Go.Shelf
set_option linter.unusedVariables false
set_option linter.unusedSimpArgs false
def encI (x : It) : Value := .agg #[.int .i64 x.u, .int .u8 x.t, .bool x.m]
/-- The map of the jobs of the first items, with their musts. -/
structure JMap (l : List It) (es : List ((Int × Int) × Value)) : Prop where
  nodup : (es.map (·.1)).Nodup
  mem : ∀ k, k ∈ es.map (·.1) ↔ k ∈ l.map jobOf
  val : ∀ p ∈ es, p.2 = encI ⟨p.1.1, p.1.2, mustOf l p.1⟩
  len : es.length ≤ l.length
theorem JMap.nil : JMap [] [] := ⟨List.nodup_nil, fun k => by simp, fun p hp => (by cases hp), Nat.le_refl _⟩
theorem posOf_mem {x : Int × Int} : ∀ {es : List ((Int × Int) × Value)} {i : Nat}, posOf x es i = none ↔ x ∉ es.map (·.1)
  | [], i => by simp [posOf]
  | p :: es, i => by
    rw [posOf]
    split
    · rename_i h; simp [h]
    · rename_i h
      rw [posOf_mem (es := es)]
      simp [h]
theorem mustOf_snoc (l : List It) (x : It) (k : Int × Int) : mustOf (l ++ [x]) k = (mustOf l k || (decide (jobOf x = k) && x.m)) := by simp [mustOf]
theorem mustOf_none {l : List It} {k : Int × Int} (h : k ∉ l.map jobOf) : mustOf l k = false := by
  unfold mustOf
  rw [List.any_eq_false]
  intro x hx
  have : jobOf x ≠ k := fun e => h (e ▸ List.mem_map_of_mem hx)
  simp [this]
theorem JMap.valOf {l : List It} {es : List ((Int × Int) × Value)} (h : JMap l es) (k : Int × Int) : (valOf k es).getD (encI ⟨0, 0, false⟩) = encI ⟨if k ∈ l.map jobOf then k.1 else 0, if k ∈ l.map jobOf then k.2 else 0, mustOf l k⟩ := by
  unfold Go.Proofs.Ytgchfibcaecjcaa.valOf
  cases hp : posOf k es 0 with
  | none =>
    have h1 : k ∉ l.map jobOf := fun hk => posOf_mem.1 hp ((h.mem k).2 hk)
    rw [if_neg h1, if_neg h1, mustOf_none h1]
    rfl
  | some q =>
    obtain ⟨i, u⟩ := q
    obtain ⟨_, hi⟩ := posOf_get hp
    have hm : (k, u) ∈ es := List.mem_of_getElem? hi
    have h1 : k ∈ l.map jobOf := (h.mem k).1 (List.mem_map_of_mem (f := (·.1)) hm)
    rw [if_pos h1, if_pos h1]
    exact h.val _ hm
theorem JMap.put {l : List It} {es : List ((Int × Int) × Value)} (h : JMap l es) (x : It) : JMap (l ++ [x]) (putOf (jobOf x) (encI ⟨x.u, x.t, mustOf l (jobOf x) || x.m⟩) es) := by
  have hm : mustOf (l ++ [x]) (jobOf x) = (mustOf l (jobOf x) || x.m) := by rw [mustOf_snoc]; simp
  have ho : ∀ k, k ≠ jobOf x → mustOf (l ++ [x]) k = mustOf l k := fun k hk => by
    rw [mustOf_snoc]
    have : jobOf x ≠ k := fun e => hk e.symm
    simp [this]
  unfold putOf
  cases hp : posOf (jobOf x) es 0 with
  | none =>
    have h1 := posOf_mem.1 hp
    refine ⟨?_, fun k => ?_, fun p hpm => ?_, ?_⟩
    · simp only [List.map_append, List.map_cons, List.map_nil]
      exact List.nodup_append.2 ⟨h.nodup, by simp, fun a ha b hb e => by
        rw [List.mem_singleton.1 hb] at e
        exact h1 (e ▸ ha)⟩
    · simp only [List.map_append, List.map_cons, List.map_nil, List.mem_append, List.mem_singleton, h.mem]
    · rcases List.mem_append.1 hpm with hq | hq
      · have hne : p.1 ≠ jobOf x := fun e => h1 (e ▸ List.mem_map_of_mem (f := (·.1)) hq)
        rw [ho _ hne]; exact h.val p hq
      · rw [List.mem_singleton.1 hq, hm]; rfl
    · have := h.len; simp; omega
  | some q =>
    obtain ⟨i, u⟩ := q
    obtain ⟨_, hi⟩ := posOf_get hp
    rw [Nat.sub_zero] at hi
    have hlt := (List.getElem?_eq_some_iff.1 hi).1
    have hmap : (es.set i (jobOf x, encI ⟨x.u, x.t, mustOf l (jobOf x) || x.m⟩)).map (·.1) = es.map (·.1) := by
      rw [List.map_set]
      apply List.ext_getElem?
      intro j
      rw [List.getElem?_set]
      split
      · rename_i e
        subst e
        rw [if_pos (by simpa using hlt), List.getElem?_map, hi]; rfl
      · rfl
    have hin : jobOf x ∈ l.map jobOf := (h.mem _).1 (List.mem_map_of_mem (f := (·.1)) (List.mem_of_getElem? hi))
    refine ⟨by simp only; rw [hmap]; exact h.nodup, fun k => ?_, fun p hpm => ?_, ?_⟩
    · simp only
      rw [hmap, h.mem]
      simp only [List.map_append, List.map_cons, List.map_nil, List.mem_append, List.mem_singleton]
      constructor
      · exact .inl
      · rintro (h | rfl)
        · exact h
        · exact hin
    · simp only at hpm
      obtain ⟨j, hj⟩ := List.getElem?_of_mem hpm
      rw [List.getElem?_set] at hj
      split at hj
      · rename_i e
        first | rw [if_pos hlt] at hj | skip
        cases hj
        rw [hm]; rfl
      · rename_i e
        have hq := List.mem_of_getElem? hj
        have hne : p.1 ≠ jobOf x := by
          intro e2
          have h3 : (es.map (·.1))[i]? = some (jobOf x) := by rw [List.getElem?_map, hi]; rfl
          have h4 : (es.map (·.1))[j]? = some (jobOf x) := by rw [List.getElem?_map, hj]; simp [e2]
          have := (List.getElem?_inj (by simpa using hlt) h.nodup).1 (h3.trans h4.symm)
          exact e this
        rw [ho _ hne]; exact h.val p hq
    · have := h.len; simp; omega
/-- A slice of jobs that reads so. -/
def RdJ (W : World) (A : Option Addr) (l : List (Int × Int)) : Prop := l = [] ∨ ∃ b o, A = some ⟨b, o, none⟩ ∧
  ∀ j u t, l[j]? = some (u, t) → W.cell? ⟨b, o + j * 2, none⟩ = some (.int .i64 u) ∧ W.cell? ⟨b, o + j * 2 + 1, none⟩ = some (.int .u8 t)
theorem RdJ.ext {W W' : World} {A : Option Addr} {l : List (Int × Int)} (h : RdJ W A l) (hx : Ext W W') : RdJ W' A l := by
  rcases h with h | ⟨b, o, rfl, h⟩
  · exact .inl h
  · exact .inr ⟨b, o, rfl, fun j u t e => ⟨hx.cell (h j u t e).1, hx.cell (h j u t e).2⟩⟩
theorem RdJ.at {W : World} {A : Option Addr} {l : List (Int × Int)} (h : RdJ W A l) {i : Nat} (hi : i < l.length) :
    ∃ b o u t, A = some ⟨b, o, none⟩ ∧ l[i]? = some (u, t) ∧ W.cell? ⟨b, o + i * 2, none⟩ = some (.int .i64 u) ∧ W.cell? ⟨b, o + i * 2 + 1, none⟩ = some (.int .u8 t) := by
  rcases h with h | ⟨b, o, hA, hc⟩
  · rw [h] at hi; simp at hi
  · have he : l[i]? = some l[i] := List.getElem?_eq_getElem hi
    generalize l[i] = r at he
    obtain ⟨u, t⟩ := r
    exact ⟨b, o, u, t, hA, he, hc i u t he⟩
theorem cellsJ_get (l : List (Int × Int)) : ∀ (j : Nat) (u t : Int), l[j]? = some (u, t) → (cellsJ l)[j * 2]? = some (.int .i64 u) ∧ (cellsJ l)[j * 2 + 1]? = some (.int .u8 t) := by
  induction l with
  | nil => exact fun j u t h => by cases h
  | cons a l ih =>
    intro j u t h
    cases j with
    | zero => cases h; exact ⟨rfl, rfl⟩
    | succ j =>
      obtain ⟨h1, h2⟩ := ih j u t h
      refine ⟨?_, ?_⟩
      · rw [show (j + 1) * 2 = j * 2 + 2 by omega]; exact h1
      · rw [show (j + 1) * 2 + 1 = (j * 2 + 1) + 2 by omega]; exact h2
theorem OwnsJ.rd {W : World} {base : Nat} {e : TypeId} {v : Value} {l : List (Int × Int)} (h : W.ownsRow base e 2 v l.length (cellsJ l)) : ∃ A cap, v = .slice A l.length cap ∧ l.length ≤ cap ∧ RdJ W A l ∧ ∀ a, A = some a → base ≤ a.block := by
  obtain ⟨hl, hv⟩ := h
  rcases hv with ⟨rfl, h0⟩ | ⟨g, cap, cur, rfl, hb, hg, hn, hcap, hcs, htk⟩
  · exact ⟨none, 0, by rw [h0], by omega, .inl (List.eq_nil_of_length_eq_zero h0), fun a ha => by cases ha⟩
  · refine ⟨_, cap, rfl, hn, .inr ⟨g, 0, rfl, fun j u t hj => ?_⟩, fun a ha => by cases ha; exact hb⟩
    have key : ∀ k x, (cellsJ l)[k]? = some x → W.cell? ⟨g, k, none⟩ = some x := fun k x hk => by
      rw [← htk, List.getElem?_take] at hk
      split at hk
      · simp only [World.cell?, hg]
        simpa using hk
      · cases hk
    obtain ⟨h1, h2⟩ := cellsJ_get l j u t hj
    rw [Nat.zero_add]
    exact ⟨key _ _ h1, key _ _ h2⟩
theorem Owns.low {w : World} {base base' : Nat} {e : TypeId} {size : Nat} {v : Value} {n : Nat} {xs : List Value} (h : w.ownsRow base e size v n xs) (hb : base' ≤ base) : w.ownsRow base' e size v n xs := by
  obtain ⟨hl, hv⟩ := h
  rcases hv with h | ⟨g, cap, cur, rfl, h1, h2⟩
  · exact ⟨hl, .inl h⟩
  · exact ⟨hl, .inr ⟨g, cap, cur, rfl, Nat.le_trans hb h1, h2⟩⟩
theorem zeroItem (w : World) : (zeroValue 39).run Try.prog w = .ok (.agg #[.int .i64 0, .int .u8 0, .bool false]) w := by kernel_rfl
set_option maxRecDepth 100000 in
set_option maxHeartbeats 2000000 in
theorem Sorted_calls (l : List It) (A : Option Addr) (cap : Nat) (w : World) (hr : RdI w A l) (hlen : l.length ≤ 1000000) :
    Calls Try.prog 10 #[.slice A l.length cap] w fun e w' => ∃ v, e = .returned v ∧ w'.ownsRow w.heap.size 39 3 v (sortedL l).length (itCells (sortedL l)) ∧ Ext w w' := by
  go_enter Try.func10, Try.ntmps10
  have hmm := @run_makeMap Try.prog
  go_upto_region 3 with (fail)
  refine wp_gen (fun W => RMap encJ W w.heap.size ([] : List ((Int × Int) × Value)) ∧ Ext w W) ⟨RMap.made encJ w, (Ext.refl w).alloc _⟩ ?_
  obtain ⟨b, hb⟩ : ∃ b, w.heap.size = b := ⟨_, rfl⟩
  rw [hb]
  rintro W0 ⟨hm0, hx0⟩
  clear hmm
  go_loopw [12] (fun i W => ∃ (k : Nat) (es : List ((Int × Int) × Value)), k ≤ l.length ∧ i = .int .i64 k ∧ RMap encJ W b es ∧ JMap (l.take k) es ∧ Ext w W) (fun i _ => l.length - (RowKit.intOf i).toNat)
  case atStart => exact ⟨0, [], by omega, rfl, hm0, JMap.nil, hx0⟩
  case round =>
    clear hm0 hx0
    obtain ⟨k, es, hk, rfl, hmp, hj, hx⟩ := hrel
    by_cases hlt : k < l.length
    · have hlti : (k : Int) < l.length := by omega
      obtain ⟨b1, o1, u, t, m, rfl, he, f1, f2, f3⟩ := (hr.ext hx).at hlt
      have hlk := fun W' (h : Ext wr W') => (hmp.ext h).look keyJob Try.underlying51 (zeroItem W') (u, t)
      obtain ⟨mu, hmu⟩ : ∃ mu, mustOf (l.take k) (u, t) = mu := ⟨_, rfl⟩
      have hv := hj.valOf (u, t)
      rw [hmu] at hv
      have hv' : (valOf (u, t) es).getD (.agg #[.int .i64 0, .int .u8 0, .bool false]) = encI ⟨if (u, t) ∈ (l.take k).map jobOf then u else 0, if (u, t) ∈ (l.take k).map jobOf then t else 0, mu⟩ := hv
      rw [hv'] at hlk
      generalize (if (u, t) ∈ (l.take k).map jobOf then u else 0) = z1 at hlk
      generalize (if (u, t) ∈ (l.take k).map jobOf then t else 0) = z2 at hlk
      clear hv hv'
      go_upto_region 5 with (fail)
      have hp := hj.put ⟨u, t, m⟩
      have hjob : jobOf ⟨u, t, m⟩ = (u, t) := rfl
      rw [hjob, hmu] at hp
      have htk : l.take (k + 1) = l.take k ++ [⟨u, t, m⟩] := by rw [List.take_succ_eq_append_getElem hlt]; congr 2; rw [List.getElem?_eq_getElem hlt] at he; exact Option.some.inj he
      rw [← htk] at hp
      have HP := Lib.hid hp
      refine wp_gen (fun W => Blk W wr.heap.size [.int .i64 u, .int .u8 t, .bool m] 39 ∧ RMap encJ W b es ∧ Ext wr W) ⟨Blk.newAt _ _ _ _ rfl, hmp.ext ((Ext.refl wr).alloc _), (Ext.refl wr).alloc _⟩ ?_
      have hbq : b < wr.heap.size := hmp.lt
      have hwq : w.heap.size ≤ wr.heap.size := hx.size
      obtain ⟨q, hq⟩ : ∃ q, wr.heap.size = q := ⟨_, rfl⟩
      rw [hq] at hbq hwq ⊢
      clear hmp f1 f2 f3 hj hp htk hjob hmu
      rintro W1 ⟨hbk, hmp, hx1⟩
      have e0 : ∀ W', Ext W1 W' → W'.cell? ⟨q, 0, none⟩ = some (.int .i64 u) := fun W' h => (hbk.ext h).cell 0 rfl
      have e1 : ∀ W', Ext W1 W' → W'.cell? ⟨q, 1, none⟩ = some (.int .u8 t) := fun W' h => (hbk.ext h).cell 1 rfl
      have e2 : ∀ W', Ext W1 W' → W'.cell? ⟨q, 2, none⟩ = some (.bool m) := fun W' h => (hbk.ext h).cell 2 rfl
      have el : ∀ W', Ext W1 W' → (Instr.lookup 51 (.map (some b)) (.agg #[.int .i64 u, .int .u8 t]) false).run Try.prog W' = .ok (.agg #[.int .i64 z1, .int .u8 z2, .bool mu]) W' := fun W' h => hlk W' (hx1.trans h)
      have hxx := hx.trans hx1
      clear hlk hx hx1
      have hfd : ∀ (y1 y2 : Int) (y3 : Bool) (W : World), (Instr.field 39 (.agg #[.int .i64 y1, .int .u8 y2, .bool y3]) 1).run Try.prog W = .ok (.bool y3) W := fun _ _ _ _ => by kernel_rfl
      cases mu
      · refine wp_region_mix (fun W => Ext W1 W) 15 [(0, true), (1, true), (2, true), (3, true), (4, true), (5, true), (6, true), (7, true), (8, true), (9, true), (10, true), (11, true), (12, true), (13, true), (14, true), (15, false)] (by kernel_rfl) (by kernel_rfl) ((Ext.refl W1).drew) ?_
        (repeat (first | (apply mix_read; (case ho => rfl); (case hw => rfl); (case h1 => intro W' hx; (try dsimp only at hx); go_simp; (try go_bits); with_reducible rfl); (case hp => go_simp; first | done | with_reducible rfl)) | (apply mix_skip; (case ho => rfl); (case hw => rfl); (case hp => go_simp; first | done | with_reducible rfl))))
        refine mix_end 15 (by kernel_rfl) (by kernel_rfl) ?_; simp only [List.take_succ_cons, List.take_zero, List.drop_succ_cons, List.drop_zero]; unfold Q0
        refine wpList_put keyJob rfl (.tmp 16) (.tmp 18) (.tmp 30) 51 39 rfl Try.underlying51 b es rfl hmp.drew (u, t) (encI ⟨u, t, m⟩) rfl rfl ?_
        rintro W2 h1 h2
        have hx2 : Ext w W2 := Below.grown hxx.drew h2 hxx.drew.size (fun k e => by cases e; omega)
        go_wp2_with fail
        go_roundw
        case rel => exact ⟨k + 1, _, by omega, by go_num, h1, HP.out, hx2⟩
        case measure => simp [RowKit.intOf]; omega
      · refine wp_region_mix (fun W => Ext W1 W) 15 [(0, true), (1, true), (2, true), (3, true), (4, true), (5, true), (6, true), (7, true), (8, true), (9, true), (10, true), (11, true), (12, true), (13, true), (14, true), (15, false)] (by kernel_rfl) (by kernel_rfl) ((Ext.refl W1).drew) ?_
        (repeat (first | (apply mix_read; (case ho => rfl); (case hw => rfl); (case h1 => intro W' hx; (try dsimp only at hx); go_simp; (try go_bits); with_reducible rfl); (case hp => go_simp; first | done | with_reducible rfl)) | (apply mix_skip; (case ho => rfl); (case hw => rfl); (case hp => go_simp; first | done | with_reducible rfl))))
        refine mix_end 15 (by kernel_rfl) (by kernel_rfl) ?_; simp only [List.take_succ_cons, List.take_zero, List.drop_succ_cons, List.drop_zero]; unfold Q0
        refine wpList_put keyJob rfl (.tmp 16) (.tmp 18) (.tmp 30) 51 39 rfl Try.underlying51 b es rfl hmp.drew (u, t) (encI ⟨u, t, true⟩) rfl rfl ?_
        rintro W2 h1 h2
        have hx2 : Ext w W2 := Below.grown hxx.drew h2 hxx.drew.size (fun k e => by cases e; omega)
        go_wp2_with fail
        go_roundw
        case rel => exact ⟨k + 1, _, by omega, by go_num, h1, HP.out, hx2⟩
        case measure => simp [RowKit.intOf]; omega
    · obtain rfl : k = l.length := by omega
      rw [List.take_of_length_le (Nat.le_refl _)] at hj
      have hbw : b < wr.heap.size := hmp.lt
      have hbx : wr.heap.size < (wr.alloc (.cells #[.map (some b)] 51)).heap.size := by rw [World.size_alloc]; omega
      have hS := Lib.hid (sortedFunc_calls wr.heap.size b es (wr.alloc (.cells #[.map (some b)] 51)) hbx ((Blk.new wr [.map (some b)] 51).cell 0 rfl) (hmp.ext ((Ext.refl wr).alloc _)) (Nat.le_trans hj.len hlen))
      go_wp2_with (first | (go_at_call 24; refine (keysf b _).mono ?_; rintro e w' ⟨rfl, rfl⟩) | (go_at_call 23; refine hS.out.mono ?_; rintro e W2 ⟨v, ss, rfl, hss, hrow, hbl⟩; obtain ⟨A, cap2, rfl, hcap2, hrd, hlow⟩ := OwnsJ.rd hrow; have HSS := Lib.hid hss; clear hss))
      have hss := HSS.out
      have hx2 : Ext w W2 := Ext.trans (hx.alloc _) hbl
      have hmp2 : RMap encJ W2 b es := hmp.ext (Ext.trans ((Ext.refl wr).alloc _) hbl)
      have hfin := sortedL_of hj.nodup hj.mem
      rw [← hss] at hfin
      have hsl : ss.length ≤ 1000000 := by rw [hss, sortJ_length, List.length_map]; exact Nat.le_trans hj.len hlen
      have hmem : ∀ q ∈ ss, (valOf q es).getD (.agg #[.int .i64 0, .int .u8 0, .bool false]) = encI ⟨q.1, q.2, mustOf l q⟩ := fun q hq => by
        have h1 : q ∈ l.map jobOf := by
          rw [hss] at hq
          exact (hj.mem q).1 ((sortJ_perm _).mem_iff.1 hq)
        have := hj.valOf q
        rw [if_pos h1, if_pos h1] at this
        exact this
      clear HSS hS hss hrow hbl hx hmp hj hbx hbw hlow
      go_loopw [36, 6] (fun i v W => ∃ k : Nat, k ≤ ss.length ∧ i = .int .i64 k ∧ W.ownsRow W2.heap.size 39 3 v ((ss.take k).map fun q => (⟨q.1, q.2, mustOf l q⟩ : It)).length (itCells ((ss.take k).map fun q => (⟨q.1, q.2, mustOf l q⟩ : It))) ∧ Ext W2 W) (fun i _ _ => ss.length - (RowKit.intOf i).toNat)
      case atStart => exact ⟨0, by omega, rfl, ⟨rfl, .inl ⟨rfl, rfl⟩⟩, Ext.refl _⟩
      case round =>
        obtain ⟨k, hk, rfl, hown, hx⟩ := hrel
        by_cases hlt : k < ss.length
        · have hlti : (k : Int) < ss.length := by omega
          obtain ⟨b1, o1, u, t, rfl, he, f1, f2⟩ := (hrd.ext hx).at hlt
          have htk : ss.take (k + 1) = ss.take k ++ [(u, t)] := by rw [List.take_succ_eq_append_getElem hlt]; congr 2; rw [List.getElem?_eq_getElem hlt] at he; exact Option.some.inj he
          have hv := hmem (u, t) (List.mem_of_getElem? he)
          have hlk := fun W' (h : Ext W2 W') => (hmp2.ext h).look keyJob Try.underlying51 (zeroItem W') (u, t)
          rw [hv] at hlk
          go_upto_region 11 with (fail)
          refine wp_gen (fun W => Blk W wr.heap.size [.int .i64 u, .int .u8 t] 35 ∧ Ext W2 W ∧ W.ownsRow W2.heap.size 39 3 u6 ((ss.take k).map fun q => (⟨q.1, q.2, mustOf l q⟩ : It)).length (itCells ((ss.take k).map fun q => (⟨q.1, q.2, mustOf l q⟩ : It)))) ⟨Blk.newAt _ _ _ _ rfl, hx.alloc _, Owns.ext hown ((Ext.refl wr).alloc _)⟩ ?_
          obtain ⟨q, hq⟩ : ∃ q, wr.heap.size = q := ⟨_, rfl⟩
          rw [hq]
          clear hown hx f1 f2 hv
          rintro W1 ⟨hbk, hx, hown⟩
          have el : (Instr.lookup 51 (.map (some b)) (.agg #[.int .i64 u, .int .u8 t]) false).run Try.prog W1 = .ok (.agg #[.int .i64 u, .int .u8 t, .bool (mustOf l (u, t))]) W1 := hlk W1 hx
          have e0 := hbk.cell 0 rfl
          have e1 := hbk.cell 1 rfl
          have hw1 : W2.heap.size ≤ W1.heap.size := hx.size
          have hzz : ((ss.take (k + 1)).map fun q => (⟨q.1, q.2, mustOf l q⟩ : It)) = ((ss.take k).map fun q => (⟨q.1, q.2, mustOf l q⟩ : It)) ++ [⟨u, t, mustOf l (u, t)⟩] := by rw [htk, List.map_append]; rfl
          have HTK := Lib.hid hzz
          clear hlk htk hzz
          generalize mustOf l (u, t) = mu at el HTK
          have hown1 := Owns.ext hown ((Ext.refl W1).alloc (.cells #[.int .i64 u, .int .u8 t, .bool mu] 39))
          go_wp2_with (refine wpList_append_item rfl (.tmp 40) (.tmp 44) rfl W2.heap.size _ _ rfl hown1 W1.heap.size 1 ⟨u, t, mu⟩ rfl (Blk.newAt W1 [.int .i64 u, .int .u8 t, .bool mu] _ _ rfl) (by rw [List.length_map, List.length_take]; omega) (Nat.le_trans hw1 (by rw [World.size_alloc]; omega)) ?_; intro v' W5 o5 g5 s5)
          go_roundw
          case rel => exact ⟨k + 1, by omega, by go_num, by rw [HTK.out]; exact o5, Grown.toExt (hx.alloc _) g5 (fun k hk => (hown1.lt k hk).1)⟩
          case measure => simp [RowKit.intOf]; omega
        · obtain rfl : k = ss.length := by omega
          rw [List.take_of_length_le (Nat.le_refl _), hfin] at hown
          go_wp2_with fail
          go_ret
          exact ⟨_, rfl, Owns.low hown hx2.size, hx2.trans hx⟩
end Go.Proofs.Ytgchfibcaecjcaa
/- jobs.Known, jobs.Merge and the search for the end of a unit's run. -/
namespace Go.Proofs.Ytgchfibcaecjcaa
open Go.RowKit Go.Lib
set_option linter.unusedVariables false
set_option linter.unusedSimpArgs false
def knownB (t : Int) : Bool := decide (1 ≤ t) && decide (t ≤ 3)
def mrg (a b : Int) : Int × Bool := if !(knownB a) || !(knownB b) then (0, false) else if a == b then (a, true) else if a == 2 || b == 2 then (0, false) else (3, true)
theorem known_calls (t : Int) (w : World) : Calls Try.prog 16 #[.int .u8 t] w fun e w' => e = .returned (.bool (knownB t)) ∧ w' = w := by
  unfold knownB
  by_cases h1 : 1 ≤ t
  · by_cases h2 : t ≤ 3
    · simp only [h1, h2, decide_true, Bool.and_self]
      go_enter Try.func16, Try.ntmps16
      go_wp2_with fail
      go_ret
      exact ⟨rfl, rfl⟩
    · have h3 : ¬ t ≤ 3 := h2
      simp only [h1, h2, decide_true, decide_false, Bool.and_false]
      go_enter Try.func16, Try.ntmps16
      go_wp2_with fail
      go_ret
      exact ⟨rfl, rfl⟩
  · simp only [h1, decide_false, Bool.false_and]
    go_enter Try.func16, Try.ntmps16
    go_wp2_with fail
    go_ret
    exact ⟨rfl, rfl⟩
set_option maxHeartbeats 2000000 in
theorem merge_calls (a b : Int) (w : World) : Calls Try.prog 15 #[.int .u8 a, .int .u8 b] w fun e w' => e = .returned (.tuple #[.int .u8 (mrg a b).1, .bool (mrg a b).2]) ∧ w' = w := by
  have K1 := Lib.hid (known_calls a w)
  have K2 := Lib.hid (known_calls b w)
  unfold mrg
  generalize knownB a = p at *
  generalize knownB b = q at *
  cases p
  · (go_enter Try.func15, Try.ntmps15; go_wp2_with (first | (go_at_call 16; refine K1.out.mono ?_; rintro e w' ⟨rfl, rfl⟩) | (go_at_call 16; refine K2.out.mono ?_; rintro e w' ⟨rfl, rfl⟩)); go_ret2; exact ⟨rfl, rfl⟩)
  · cases q
    · (go_enter Try.func15, Try.ntmps15; go_wp2_with (first | (go_at_call 16; refine K1.out.mono ?_; rintro e w' ⟨rfl, rfl⟩) | (go_at_call 16; refine K2.out.mono ?_; rintro e w' ⟨rfl, rfl⟩)); go_ret2; exact ⟨rfl, rfl⟩)
    · obtain ⟨x, hx⟩ : ∃ x, (a == b) = x := ⟨_, rfl⟩
      rw [hx]
      cases x
      · obtain ⟨y, hy⟩ : ∃ y, (a == 2) = y := ⟨_, rfl⟩
        rw [hy]
        cases y
        · obtain ⟨z, hz⟩ : ∃ z, (b == 2) = z := ⟨_, rfl⟩
          rw [hz]
          cases z <;> (go_enter Try.func15, Try.ntmps15; go_wp2_with (first | (go_at_call 16; refine K1.out.mono ?_; rintro e w' ⟨rfl, rfl⟩) | (go_at_call 16; refine K2.out.mono ?_; rintro e w' ⟨rfl, rfl⟩)); go_ret2; exact ⟨rfl, rfl⟩)
        · (go_enter Try.func15, Try.ntmps15; go_wp2_with (first | (go_at_call 16; refine K1.out.mono ?_; rintro e w' ⟨rfl, rfl⟩) | (go_at_call 16; refine K2.out.mono ?_; rintro e w' ⟨rfl, rfl⟩)); go_ret2; exact ⟨rfl, rfl⟩)
      · have hab : a = b := by simpa using hx
        subst hab
        clear hx
        (go_enter Try.func15, Try.ntmps15; go_wp2_with (first | (go_at_call 16; refine K1.out.mono ?_; rintro e w' ⟨rfl, rfl⟩) | (go_at_call 16; refine K2.out.mono ?_; rintro e w' ⟨rfl, rfl⟩)); go_ret2; exact ⟨rfl, rfl⟩)
end Go.Proofs.Ytgchfibcaecjcaa
/- The search for the end of a unit's run. -/
namespace Go.Proofs.Ytgchfibcaecjcaa
open Go.RowKit Go.Lib
set_option linter.unusedVariables false
set_option linter.unusedSimpArgs false
theorem whole1_calls (x : It) (B b o n c : Nat) (u : Int) (w : World) (hB : w.cell? ⟨B, 0, none⟩ = some (.slice (some ⟨b, o, none⟩) n c)) (hn : 0 < n) (h0 : w.cell? ⟨b, o, none⟩ = some (.int .i64 u)) :
    Calls Try.prog 27 #[encI x, .pointer (some ⟨B, 0, none⟩)] w fun e w' => e = .returned (.bool (!decide (x.u = u))) ∧ Ext w w' := by
  obtain ⟨xu, xt, xm⟩ := x
  unfold encI
  have hni : (0 : Int) < n := by omega
  by_cases h : xu = u
  · subst h
    have h : xu = xu := rfl
    (go_enter Try.func27, Try.ntmps27; go_upto_region 1 with (fail); refine wp_gen (fun W => Blk W w.heap.size [.int .i64 xu, .int .u8 xt, .bool xm] 39 ∧ Ext w W) ⟨Blk.newAt _ _ _ _ rfl, (Ext.refl w).alloc _⟩ ?_; obtain ⟨q, hq⟩ : ∃ q, w.heap.size = q := ⟨_, rfl⟩; rw [hq]; rintro W1 ⟨hbk, hx⟩; have e0 : ∀ W', Ext W1 W' → W'.cell? ⟨q, 0, none⟩ = some (.int .i64 xu) := fun W' h => (hbk.ext h).cell 0 rfl; have e1 : ∀ W', Ext W1 W' → W'.cell? ⟨B, 0, none⟩ = some (.slice (some ⟨b, o, none⟩) n c) := fun W' h => (hx.trans h).cell hB; have e2 : ∀ W', Ext W1 W' → W'.cell? ⟨b, o, none⟩ = some (.int .i64 xu) := fun W' h => (hx.trans h).cell h0; clear hB h0; refine wp_region_mix (fun W => Ext W1 W) 9 [(0, true), (1, true), (2, true), (3, true), (4, true), (5, true), (6, true), (7, true), (8, true), (9, false)] (by kernel_rfl) (by kernel_rfl) ((Ext.refl W1).drew) ?_; (repeat (first | (apply mix_read; (case ho => rfl); (case hw => rfl); (case h1 => intro W' hx; (try dsimp only at hx); go_simp; (try go_bits); with_reducible rfl); (case hp => go_simp; first | done | with_reducible rfl)) | (apply mix_skip; (case ho => rfl); (case hw => rfl); (case hp => go_simp; first | done | with_reducible rfl)))); refine mix_end 9 (by kernel_rfl) (by kernel_rfl) ?_; simp only [List.take_succ_cons, List.take_zero, List.drop_succ_cons, List.drop_zero]; unfold Q0; go_wp2_with fail; go_ret; exact ⟨by simp [h], hx.drew⟩)
  · (go_enter Try.func27, Try.ntmps27; go_upto_region 1 with (fail); refine wp_gen (fun W => Blk W w.heap.size [.int .i64 xu, .int .u8 xt, .bool xm] 39 ∧ Ext w W) ⟨Blk.newAt _ _ _ _ rfl, (Ext.refl w).alloc _⟩ ?_; obtain ⟨q, hq⟩ : ∃ q, w.heap.size = q := ⟨_, rfl⟩; rw [hq]; rintro W1 ⟨hbk, hx⟩; have e0 : ∀ W', Ext W1 W' → W'.cell? ⟨q, 0, none⟩ = some (.int .i64 xu) := fun W' h => (hbk.ext h).cell 0 rfl; have e1 : ∀ W', Ext W1 W' → W'.cell? ⟨B, 0, none⟩ = some (.slice (some ⟨b, o, none⟩) n c) := fun W' h => (hx.trans h).cell hB; have e2 : ∀ W', Ext W1 W' → W'.cell? ⟨b, o, none⟩ = some (.int .i64 u) := fun W' h => (hx.trans h).cell h0; clear hB h0; refine wp_region_mix (fun W => Ext W1 W) 9 [(0, true), (1, true), (2, true), (3, true), (4, true), (5, true), (6, true), (7, true), (8, true), (9, false)] (by kernel_rfl) (by kernel_rfl) ((Ext.refl W1).drew) ?_; (repeat (first | (apply mix_read; (case ho => rfl); (case hw => rfl); (case h1 => intro W' hx; (try dsimp only at hx); go_simp; (try go_bits); with_reducible rfl); (case hp => go_simp; first | done | with_reducible rfl)) | (apply mix_skip; (case ho => rfl); (case hw => rfl); (case hp => go_simp; first | done | with_reducible rfl)))); refine mix_end 9 (by kernel_rfl) (by kernel_rfl) ?_; simp only [List.take_succ_cons, List.take_zero, List.drop_succ_cons, List.drop_zero]; unfold Q0; go_wp2_with fail; go_ret; exact ⟨by simp [h], hx.drew⟩)
theorem index_calls (l : List It) (A : Option Addr) (cap B b o n c : Nat) (u : Int) (w : World) (hr : RdI w A l) (hlen : l.length ≤ 1000000) (hB : w.cell? ⟨B, 0, none⟩ = some (.slice (some ⟨b, o, none⟩) n c)) (hn : 0 < n) (h0 : w.cell? ⟨b, o, none⟩ = some (.int .i64 u)) :
    Calls Try.prog 26 #[.slice A l.length cap, .func (.func 27) #[] #[.pointer (some ⟨B, 0, none⟩)]] w fun e w' => ∃ m, m ≤ l.length ∧ (∀ x ∈ l.take m, x.u = u) ∧ (∀ x, l[m]? = some x → x.u ≠ u) ∧ e = .returned (.int .i64 (if m < l.length then (m : Int) else -1)) ∧ Ext w w' := by
  go_enter Try.func26, Try.ntmps26
  go_upto_region 2 with (fail)
  go_loopw [8] (fun i W => ∃ k : Nat, k ≤ l.length ∧ i = .int .i64 k ∧ (∀ x ∈ l.take k, x.u = u) ∧ Ext w W) (fun i _ => l.length - (RowKit.intOf i).toNat)
  case atStart => exact ⟨0, by omega, rfl, fun x hx => by simp at hx, Ext.refl w⟩
  case round =>
    obtain ⟨k, hk, rfl, hu, hx⟩ := hrel
    by_cases hlt : k < l.length
    · have hlti : (k : Int) < l.length := by omega
      obtain ⟨b1, o1, xu, xt, xm, rfl, he, f1, f2, f3⟩ := (hr.ext hx).at hlt
      have hW := whole1_calls ⟨xu, xt, xm⟩ B b o n c u wr (hx.cell hB) hn (hx.cell h0)
      unfold encI at hW
      replace hW := Lib.hid hW
      have htk : l.take (k + 1) = l.take k ++ [⟨xu, xt, xm⟩] := by rw [List.take_succ_eq_append_getElem hlt]; congr 2; rw [List.getElem?_eq_getElem hlt] at he; exact Option.some.inj he
      by_cases h : xu = u
      · have HV := Lib.hid (show (!decide (xu = u)) = false by simp [h])
        have HU := Lib.hid h
        have HTK := Lib.hid htk
        clear h htk
        go_wp2_with (go_at_call 27; refine hW.out.mono ?_; rintro e w' ⟨rfl, hx1⟩; dsimp only; rw [HV.out])
        go_roundw
        case rel => exact ⟨k + 1, by omega, by go_num, fun x hm => by
          rw [HTK.out] at hm
          rcases List.mem_append.1 hm with hm | hm
          · exact hu x hm
          · rw [List.mem_singleton.1 hm]; exact HU.out, hx.trans hx1⟩
        case measure => simp [RowKit.intOf]; omega
      · have HV := Lib.hid (show (!decide (xu = u)) = true by simp [h])
        have HU := Lib.hid h
        clear h htk
        go_wp2_with (go_at_call 27; refine hW.out.mono ?_; rintro e w' ⟨rfl, hx1⟩; dsimp only; rw [HV.out])
        go_ret
        exact ⟨k, hk, hu, fun x hm => by rw [he] at hm; cases hm; exact HU.out, by simp [hlt], hx.trans hx1⟩
    · obtain rfl : k = l.length := by omega
      go_wp2_with fail
      go_ret
      exact ⟨_, Nat.le_refl _, hu, fun x hm => by simp at hm, by simp, hx⟩
end Go.Proofs.Ytgchfibcaecjcaa
/- Whole rows: what jobs.Whole computes from a sorted row. -/
namespace Go.Proofs.Ytgchfibcaecjcaa
open Go.RowKit Go.Lib
set_option linter.unusedVariables false
set_option linter.unusedSimpArgs false
def mrgs (t : Int) (m ok : Bool) : List It → Int × Bool × Bool
  | [] => (t, m, ok)
  | x :: r => mrgs (mrg t x.t).1 (m || x.m) (ok && (mrg t x.t).2) r
def runOf (u : Int) (s : List It) : List It := s.takeWhile fun x => decide (x.u = u)
def afterOf (u : Int) (s : List It) : List It := s.dropWhile fun x => decide (x.u = u)
/-- One unit's row in front of the answer to the rest. -/
def glue (x : It) (g : List It) (q : List It × List (Int × Int)) : List It × List (Int × Int) :=
  if (mrgs x.t x.m (knownB x.t) g).2.2 then (⟨x.u, (mrgs x.t x.m (knownB x.t) g).1, (mrgs x.t x.m (knownB x.t) g).2.1⟩ :: q.1, q.2) else (q.1, g.map jobOf ++ q.2)
def wholeF : Nat → List It → List It × List (Int × Int)
  | 0, _ => ([], [])
  | k + 1, [] => ([], [])
  | k + 1, x :: r => glue x (runOf x.u (x :: r)) (wholeF k (afterOf x.u (x :: r)))
def wholeL (s : List It) : List It × List (Int × Int) := wholeF s.length s
theorem afterOf_lt (x : It) (r : List It) : (afterOf x.u (x :: r)).length ≤ r.length := by
  unfold afterOf
  rw [List.dropWhile_cons_of_pos (by simp)]
  exact (List.dropWhile_sublist _).length_le
theorem wholeF_le : ∀ (k : Nat) (s : List It), s.length ≤ k → wholeF k s = wholeL s
  | 0, s, h => by rw [List.eq_nil_of_length_eq_zero (Nat.le_zero.1 h)]; rfl
  | k + 1, [], h => rfl
  | k + 1, x :: r, h => by
    have h1 := afterOf_lt x r
    unfold wholeL
    rw [List.length_cons, wholeF, wholeF]
    have h2 : r.length ≤ k := by simpa using h
    rw [wholeF_le k _ (by omega)]
    rcases Nat.lt_or_ge r.length (k + 1) with h3 | h3
    · rw [wholeF_le r.length _ h1]
    · omega
theorem wholeL_cons (x : It) (r : List It) : wholeL (x :: r) = glue x (runOf x.u (x :: r)) (wholeL (afterOf x.u (x :: r))) := by
  rw [← wholeF_le (r.length + 1) (x :: r) (Nat.le_refl _), wholeF, wholeF_le _ _ (afterOf_lt x r)]
theorem run_eq {u : Int} : ∀ {s : List It} {m : Nat}, m ≤ s.length → (∀ x ∈ s.take m, x.u = u) → (∀ x, s[m]? = some x → x.u ≠ u) → s.take m = runOf u s ∧ s.drop m = afterOf u s
  | [], m, h, _, _ => by simp [runOf, afterOf]
  | y :: s, 0, h, _, h2 => by
    have : ¬ y.u = u := h2 y rfl
    simp [runOf, afterOf, this]
  | y :: s, m + 1, h, h1, h2 => by
    have hy : y.u = u := h1 y (by simp)
    obtain ⟨e1, e2⟩ := run_eq (u := u) (s := s) (m := m) (by simpa using h) (fun x hx => h1 x (by simp [hx])) (fun x hx => h2 x (by simpa using hx))
    refine ⟨?_, ?_⟩
    · rw [List.take_succ_cons, e1]; unfold runOf; rw [List.takeWhile_cons_of_pos (by simp [hy])]
    · rw [List.drop_succ_cons, e2]; unfold afterOf; rw [List.dropWhile_cons_of_pos (by simp [hy])]
theorem mrgs_snoc (x : It) : ∀ (g : List It) (t : Int) (m ok : Bool), mrgs t m ok (g ++ [x]) = ((mrg (mrgs t m ok g).1 x.t).1, (mrgs t m ok g).2.1 || x.m, (mrgs t m ok g).2.2 && (mrg (mrgs t m ok g).1 x.t).2)
  | [], t, m, ok => rfl
  | y :: g, t, m, ok => by rw [List.cons_append, mrgs, mrgs, mrgs_snoc]
theorem ins_len (x : It) : ∀ (l : List It), (ins x l).length ≤ l.length + 1
  | [] => by simp [ins]
  | y :: l => by
    have := ins_len x l
    unfold ins
    split
    · simp; omega
    · split <;> simp
theorem sortedL_len (l : List It) : (sortedL l).length ≤ l.length := by
  have key : ∀ (l acc : List It), (l.foldl (fun acc x => ins x acc) acc).length ≤ acc.length + l.length := by
    intro l
    induction l with
    | nil => intro acc; simp
    | cons y l ih =>
      intro acc
      have h1 := ih (ins y acc)
      have h2 := ins_len y acc
      simp only [List.foldl_cons, List.length_cons]
      omega
  have := key l []
  simpa [sortedL] using this
theorem RdI.drop {W : World} {b o : Nat} {l : List It} (h : RdI W (some ⟨b, o, none⟩) l) (n : Nat) : RdI W (some ⟨b, o + n * 3, none⟩) (l.drop n) := by
  rcases h with h | ⟨b', o', hA, hc⟩
  · exact .inl (by rw [h]; simp)
  · cases hA
    refine .inr ⟨b, o + n * 3, rfl, fun j u t m hj => ?_⟩
    rw [List.getElem?_drop] at hj
    have := hc (n + j) u t m hj
    rw [show o + n * 3 + j * 3 = o + (n + j) * 3 by omega]
    exact this
theorem RdI.take {W : World} {A : Option Addr} {l : List It} (h : RdI W A l) (n : Nat) : RdI W A (l.take n) := by
  rcases h with h | ⟨b', o', hA, hc⟩
  · exact .inl (by rw [h]; simp)
  · refine .inr ⟨b', o', hA, fun j u t m hj => ?_⟩
    rw [List.getElem?_take] at hj
    split at hj
    · exact hc j u t m hj
    · cases hj
/-- append of one job. -/
theorem wpList_append_job {w : World} {ops : Array Oper} {rest : List Oper} {o : Oper} {a : Act} {Q : Exit → Act → World → Prop} (hgd : o.guard = none) (s x : Operand)
    (ho : o.op = .call { callee := .builtin .append, args := #[s, x], argTypes := #[27, 27] }) (base : Nat)
    (v : Value) (l : List (Int × Int)) (hs : a.eval s = v) (hown : w.ownsRow base 35 2 v l.length (cellsJ l))
    (g c : Nat) (u t : Int) (hx : a.eval x = .slice (some ⟨g, 0, none⟩) 1 c) (hc : Blk w g [.int .i64 u, .int .u8 t] 35)
    (hbig : l.length ≤ 100000000) (hbase : base ≤ w.heap.size)
    (h : ∀ v' w', w'.ownsRow base 35 2 v' (l ++ [(u, t)]).length (cellsJ (l ++ [(u, t)])) → w.grownBy w' v.ownBlock → (∀ k, v'.ownBlock = some k → v.ownBlock = some k ∨ w.heap.size ≤ k) → wpList Try.prog ops Q rest (a.put o.dst v') w') : wpList Try.prog ops Q (o :: rest) a w := by
  obtain ⟨inf, hi, hz, hsz, hby⟩ := info_parts infoJob
  refine wpList_append_row hgd s x _ ho base _ inf _ 2 16 Try.underlying27 hi hz hsz hby rfl (by decide) v l.length (cellsJ l) hs hown ⟨g, 0, none⟩ 1 c [.int .i64 u, .int .u8 t] hx rfl ?_ ?_ (by decide) (by unfold maxLen; omega) (by omega) hbase (fun v' w' h2 h3 h4 => h v' w' ?_ h3 h4)
  · intro j y hj
    have : (⟨g, 0, none⟩ : Addr).add j = ⟨g, j, none⟩ := by unfold Addr.add; split <;> simp_all
    rw [this]
    exact hc.cell j hj
  · intro y hy
    simp only [List.mem_cons, List.not_mem_nil, or_false] at hy
    rcases hy with rfl | rfl <;> rfl
  · rw [cellsJ_snoc, List.length_append]
    exact h2
/-- Rows of different kinds share no block. -/
theorem Owns.kept {w w' : World} {base : Nat} {e : TypeId} {size : Nat} {v : Value} {n : Nat} {xs : List Value} (h : w.ownsRow base e size v n xs) {row : Option Nat} (hg : w.grownBy w' row) (hne : ∀ k, v.ownBlock = some k → row ≠ some k) : w'.ownsRow base e size v n xs := by
  obtain ⟨hl, hv⟩ := h
  rcases hv with h | ⟨g, cap, cur, rfl, h1, h2, h3⟩
  · exact ⟨hl, .inl h⟩
  · exact ⟨hl, .inr ⟨g, cap, cur, rfl, h1, Grown.heap hg h2 (fun e => hne g rfl e.symm), h3⟩⟩
theorem Owns.set' {w : World} {base : Nat} {e : TypeId} {size : Nat} {v : Value} {n : Nat} {xs : List Value} {g : Nat} (h : w.ownsRow base e size v n xs) (i : Nat) (u : Value) (hne : v.ownBlock ≠ some g) : (w.setCell ⟨g, i, none⟩ u).ownsRow base e size v n xs := by
  obtain ⟨hl, hv⟩ := h
  rcases hv with h | ⟨b, cap, cur, rfl, h1, h2, h3⟩
  · exact ⟨hl, .inl h⟩
  · refine ⟨hl, .inr ⟨b, cap, cur, rfl, h1, ?_, h3⟩⟩
    rw [Below.heap_setCell _ _ _ _ (fun e => hne (by show some b = some g; exact congrArg some e))]
    exact h2
theorem Owns.apart {w : World} {base base' : Nat} {e e' : TypeId} {size size' : Nat} {v v' : Value} {n n' : Nat} {xs xs' : List Value} (h : w.ownsRow base e size v n xs) (h' : w.ownsRow base' e' size' v' n' xs') (he : e ≠ e') : ∀ k, v.ownBlock = some k → v'.ownBlock ≠ some k := by
  obtain ⟨_, hv⟩ := h
  obtain ⟨_, hv'⟩ := h'
  intro k hk hk'
  rcases hv with ⟨rfl, _⟩ | ⟨b, cap, cur, rfl, h1, h2, h3⟩
  · cases hk
  rcases hv' with ⟨rfl, _⟩ | ⟨b', cap', cur', rfl, h1', h2', h3'⟩
  · cases hk'
  cases hk
  have e1 : b' = b := by cases hk'; rfl
  subst e1
  rw [h2] at h2'
  cases h2'
  exact he rfl
theorem Owns.notBlk {w : World} {base : Nat} {e : TypeId} {size : Nat} {v : Value} {n : Nat} {xs : List Value} {g : Nat} {cs : List Value} {T : TypeId} (h : w.ownsRow base e size v n xs) (hb : Blk w g cs T) (he : e ≠ T) : v.ownBlock ≠ some g := by
  obtain ⟨_, hv⟩ := h
  rcases hv with ⟨rfl, _⟩ | ⟨b, cap, cur, rfl, h1, h2, h3⟩
  · exact fun h => by cases h
  · intro hk
    cases hk
    unfold Blk at hb
    rw [h2] at hb
    cases hb
    exact he rfl
end Go.Proofs.Ytgchfibcaecjcaa
/- Regions that draw their order, where two operations are left in either order: a tree of steps. -/
namespace Go.Proofs.Ytgchfibcaecjcaa
open Go.RowKit
set_option linter.unusedVariables false

inductive Mix where
  | nil : Mix
  | read : Nat → Mix → Mix
  | one : Nat → Mix → Mix
  | fork : Nat → Nat → Mix → Mix → Mix
section
variable {P : Program} {ops : Array Oper} {md : Region.Mode} {S : World → Prop} {Q : Exit → Act → World → Prop}

def forkB (md : Region.Mode) (ops : Array Oper) : Nat → Mix → Array Bool → Bool
  | 0, .nil, listed => (Region.ready md ops listed).isEmpty
  | f + 1, .read i r, listed => (Region.ready md ops listed).contains i && Region.free md ops listed i && decide (i < ops.size) && forkB md ops f r (listed.setIfInBounds i true)
  | f + 1, .one i r, listed => decide (Region.ready md ops listed = [i]) && decide (i < ops.size) && forkB md ops f r (listed.setIfInBounds i true)
  | f + 1, .fork i j r1 r2, listed => decide (Region.ready md ops listed = [i, j]) && decide (i < ops.size) && decide (j < ops.size) && forkB md ops f r1 (listed.setIfInBounds i true) && forkB md ops f r2 (listed.setIfInBounds j true)
  | _, _, _ => false
def wpFork (P : Program) (ops : Array Oper) (Q : Exit → Act → World → Prop) (S : World → Prop) : Mix → Act → World → Prop
  | .nil, a, w => Q .normal a w
  | .read i r, a, w => ∃ o v, ops[i]? = some o ∧ YieldsIf P ops S o v a ∧ wpFork P ops Q S r (a.put o.dst v) w
  | .one i r, a, w => wpOp P ops Q i (fun a' w' => S w' ∧ wpFork P ops Q S r a' w') a w
  | .fork i j r1 r2, a, w => wpOp P ops Q i (fun a' w' => S w' ∧ wpFork P ops Q S r1 a' w') a w ∧ wpOp P ops Q j (fun a' w' => S w' ∧ wpFork P ops Q S r2 a' w') a w

theorem wpAnyT_fork (hsel : Region.noSelect ops = true) (hQ : ∀ c a d v w, Q (.panic c) (a.put d v) w → Q (.panic c) a w)
    (hwt : ∀ listed, HeadInv md ops ops.size listed → ∀ i, i < ops.size → listed.getD i true = false → ∀ j ∈ Region.ready md ops listed, j < ops.size) :
    ∀ (f : Nat) (st : Mix) (listed : Array Bool) (a : Act) (w : World), HeadInv md ops ops.size listed → S w → forkB md ops f st listed = true → wpFork P ops Q S st a w → wpAnyT P md ops Q S ops.size f listed a w
  | 0, .nil, listed, a, w, _, _, hB, h => ⟨by simpa [forkB] using hB, h⟩
  | f + 1, .read i r, listed, a, w, inv, hS, hB, h => by
    simp only [forkB, Bool.and_eq_true, decide_eq_true_eq] at hB
    obtain ⟨⟨⟨hr, hf⟩, hin⟩, hB'⟩ := hB
    obtain ⟨o, v, ho, hy, hk⟩ := h
    have hr' : i ∈ Region.ready md ops listed := by simpa using hr
    exact wpAnyT_first ho (Region.noSelect_spec hsel) (fun c a w => hQ c a o.dst v w) hwt hin f listed a w inv (Region.free_spec ho hf) hr' hy hS
      (wpAnyT_fork hsel hQ hwt f r _ _ _ (inv.set hr' hin) hS hB' hk)
  | f + 1, .one i r, listed, a, w, inv, hS, hB, h => by
    simp only [forkB, Bool.and_eq_true, decide_eq_true_eq] at hB
    obtain ⟨⟨hr, hin⟩, hB'⟩ := hB
    refine ⟨fun h0 => (by rw [h0] at hr; cases hr), fun j hj => ?_⟩
    have hj' := hj
    rw [hr] at hj
    obtain rfl : j = i := by simpa using hj
    exact wpOp_mono (fun a' w' h' => ⟨fun _ => h'.1, wpAnyT_fork hsel hQ hwt f r _ a' w' (inv.set hj' hin) h'.1 hB' h'.2⟩) h
  | f + 1, .fork i j r1 r2, listed, a, w, inv, hS, hB, h => by
    simp only [forkB, Bool.and_eq_true, decide_eq_true_eq] at hB
    obtain ⟨⟨⟨⟨hr, hin⟩, hjn⟩, hB1⟩, hB2⟩ := hB
    refine ⟨fun h0 => (by rw [h0] at hr; cases hr), fun k hk => ?_⟩
    have hk' := hk
    rw [hr] at hk
    rcases List.mem_cons.1 hk with rfl | hk
    · exact wpOp_mono (fun a' w' h' => ⟨fun _ => h'.1, wpAnyT_fork hsel hQ hwt f r1 _ a' w' (inv.set hk' hin) h'.1 hB1 h'.2⟩) h.1
    · obtain rfl : k = j := by simpa using hk
      exact wpOp_mono (fun a' w' h' => ⟨fun _ => h'.1, wpAnyT_fork hsel hQ hwt f r2 _ a' w' (inv.set hk' hjn) h'.1 hB2 h'.2⟩) h.2
  | 0, .read _ _, _, _, _, _, _, hB, _ => by simp [forkB] at hB
  | 0, .one _ _, _, _, _, _, _, hB, _ => by simp [forkB] at hB
  | 0, .fork _ _ _ _, _, _, _, _, _, hB, _ => by simp [forkB] at hB
  | _ + 1, .nil, _, _, _, _, _, hB, _ => by simp [forkB] at hB

def forkAllB (ops : Array Oper) (st : Mix) : Bool := Region.noSelect ops && forkB .any ops ops.size st (Array.replicate ops.size false)
theorem wp_region_fork {id : Nat} {a : Act} {w : World} {l : List Oper} (S : World → Prop) (st : Mix) (hm : P.follows .mixedOrders = true) (hB : forkAllB l.toArray st = true) (hS : S { w with drawn := w.drawn + 1 })
    (h : wpFork P l.toArray (Q0 Q) S st a { w with drawn := w.drawn + 1 }) : (Code.region id l.toArray true).wp P Q a w := by
  simp only [forkAllB, Bool.and_eq_true] at hB
  obtain ⟨hsel, hB⟩ := hB
  refine Code.wp_mono Q0_le (wp_region_any hm ?_)
  have inv0 : HeadInv .any l.toArray l.toArray.size (Array.replicate l.toArray.size false) :=
    ⟨by simp, fun j oj _ hl => (by rw [getD_replicate_false] at hl; cases hl), fun t _ ht => getD_in (by simpa using ht) (getD_replicate_false _ _)⟩
  exact wpAny_of_T _ _ _ _ (wpAnyT_fork (P := P) (md := .any) (Q := Q0 Q) (S := S) hsel (fun c a d v w h => h) (fun listed inv i hin hun j hj => by
    obtain ⟨_, oj, hoj, _⟩ := mem_ready.1 hj
    exact (Array.getElem?_eq_some_iff.1 hoj).1) _ st _ a _ inv0 hS hB h)

theorem fork_nil {a : Act} {w : World} (h : Q .normal a w) : wpFork P ops Q S .nil a w := h
/-- All orders end in one state: what follows is walked once. -/
def QTo (a0 : Act) (R : World → Prop) : Exit → Act → World → Prop := fun e a w => e = .normal ∧ a = a0 ∧ R w
theorem wp_region_fork_to {id : Nat} {a a0 : Act} {w : World} {l : List Oper} (S R : World → Prop) (st : Mix) (hm : P.follows .mixedOrders = true) (hB : forkAllB l.toArray st = true) (hS : S { w with drawn := w.drawn + 1 })
    (h : wpFork P l.toArray (Q0 (QTo a0 R)) S st a { w with drawn := w.drawn + 1 }) (k : ∀ W, R W → Q .normal a0 W) : (Code.region id l.toArray true).wp P Q a w :=
  Code.wp_mono (fun e' a' w' h' => by obtain ⟨rfl, rfl, hR⟩ := h'; exact k w' hR) (wp_region_fork (Q := QTo a0 R) S st hm hB hS h)
theorem fork_gen {r : Mix} {a : Act} {w : World} (R : World → Prop) (hR : R w) (h : ∀ w', R w' → wpFork P ops Q S r a w') : wpFork P ops Q S r a w := h w hR
theorem fork_read {l : List Oper} {i : Nat} {r : Mix} {a : Act} {w : World} {o : Oper} (x : Value) (a' : Act) (ho : l[i]? = some o) (hw : Region.wanted o (yielded l.toArray a.tmps) = true) (h1 : ∀ W, S W → (execOp a.eval o).run P W = .ok (.value x) W)
    (hp : a.put o.dst x = a') (h : wpFork P l.toArray Q S r a' w) : wpFork P l.toArray Q S (.read i r) a w := ⟨o, x, by simpa using ho, .inl ⟨hw, h1⟩, hp ▸ h⟩
theorem fork_skip {l : List Oper} {i : Nat} {r : Mix} {a : Act} {w : World} {o : Oper} (a' : Act) (ho : l[i]? = some o) (hw : Region.wanted o (yielded l.toArray a.tmps) = false)
    (hp : a.put o.dst undef = a') (h : wpFork P l.toArray Q S r a' w) : wpFork P l.toArray Q S (.read i r) a w := ⟨o, undef, by simpa using ho, .inr ⟨hw, rfl⟩, hp ▸ h⟩
theorem fork_one {l : List Oper} {i : Nat} {r : Mix} {a : Act} {w : World} {o : Oper} (ho : l[i]? = some o)
    (h : ∀ K : Act → World → Prop, (∀ a' w', (S w' ∧ wpFork P l.toArray Q S r a' w') → K a' w') → wpList P l.toArray (Exit.then K Q) [o] a w) : wpFork P l.toArray Q S (.one i r) a w :=
  wpOp_of_list (by simpa using ho) (h _ fun _ _ h => h)
theorem fork_two {l : List Oper} {i j : Nat} {r1 r2 : Mix} {a : Act} {w : World} {o1 o2 : Oper} (ho1 : l[i]? = some o1) (ho2 : l[j]? = some o2)
    (h1 : ∀ K : Act → World → Prop, (∀ a' w', (S w' ∧ wpFork P l.toArray Q S r1 a' w') → K a' w') → wpList P l.toArray (Exit.then K Q) [o1] a w)
    (h2 : ∀ K : Act → World → Prop, (∀ a' w', (S w' ∧ wpFork P l.toArray Q S r2 a' w') → K a' w') → wpList P l.toArray (Exit.then K Q) [o2] a w) : wpFork P l.toArray Q S (.fork i j r1 r2) a w :=
  ⟨wpOp_of_list (by simpa using ho1) (h1 _ fun _ _ h => h), wpOp_of_list (by simpa using ho2) (h2 _ fun _ _ h => h)⟩
end
end Go.Proofs.Ytgchfibcaecjcaa
/- Regions that draw their order: what only reads is taken first; each read has its own condition, which must stand only behind those operations that may come ahead of it. -/
namespace Go.Proofs.Ytgchfibcaecjcaa
open Go.RowKit
set_option linter.unusedVariables false
section
variable {P : Program} {ops : Array Oper} {md : Region.Mode} {S : Nat → World → Prop} {Q : Exit → Act → World → Prop}
/-- May operation i come behind operation j? -/
def mayB (md : Region.Mode) (ops : Array Oper) (j i : Nat) : Bool := match ops[j]? with
  | some o => o.after.all fun e => !(Region.binds md e) || decide (e.on ≠ i)
  | none => true
def wpAnyD (P : Program) (md : Region.Mode) (ops : Array Oper) (Q : Exit → Act → World → Prop) (S : Nat → World → Prop) : Nat → Array Bool → Act → World → Prop
  | 0, listed, a, w => Region.ready md ops listed = [] ∧ Q .normal a w
  | fuel + 1, listed, a, w =>
    (Region.ready md ops listed = [] → Q .normal a w) ∧
    ∀ i ∈ Region.ready md ops listed, wpOp P ops Q i (fun a' w' => (∀ k, mayB md ops i k = true → S k w → S k w') ∧ wpAnyD P md ops Q S fuel (listed.setIfInBounds i true) a' w') a w
theorem wpAny_of_D : ∀ (fuel : Nat) (listed : Array Bool) (a : Act) (w : World), wpAnyD P md ops Q S fuel listed a w → wpAny P md ops Q fuel listed a w
  | 0, _, _, _, h => h
  | fuel + 1, _, _, _, h => ⟨h.1, fun i hi => wpOp_mono (fun a' w' h' => wpAny_of_D fuel _ a' w' h'.2) (h.2 i hi)⟩
theorem may_of_ready {listed : Array Bool} {j k : Nat} (hj : j ∈ Region.ready md ops listed) (hk : listed.getD k true = false) : mayB md ops j k = true := by
  obtain ⟨hjun, oj, hoj, hall⟩ := mem_ready.1 hj
  unfold mayB
  rw [hoj]
  simp only [Array.all_eq_true_iff_forall_mem, Bool.or_eq_true, Bool.not_eq_true', decide_eq_true_eq]
  intro e he
  by_cases hb : Region.binds md e = true
  · right
    intro heq
    have h1 := hall e he hb
    rw [heq, getD_both hk] at h1
    cases h1
  · left
    simpa using hb
theorem getD_old {listed : Array Bool} {i k : Nat} (hk : (listed.setIfInBounds i true).getD k true = false) : listed.getD k true = false := by
  by_cases hik : i = k
  · subst hik
    by_cases hs : i < listed.size
    · simp [Array.getD, hs] at hk
    · simp [Array.getD, hs] at hk
  · rwa [getD_set_ne true hik] at hk
theorem wpAnyD_first {i : Nat} {oi : Oper} {v : Value} (hi : ops[i]? = some oi) (hsel : ∀ (j : Nat) (o : Oper) cs b, ops[j]? = some o → o.op ≠ .select cs b)
    (hQ : ∀ c a w, Q (.panic c) (a.put oi.dst v) w → Q (.panic c) a w) :
    ∀ (fuel : Nat) (listed : Array Bool) (a : Act) (w : World), 
      (∀ j oj, ops[j]? = some oj → j ≠ i → listed.getD j true = false → (∀ e ∈ oj.after, Region.binds md e = true → e.on ≠ i) → oi.apart ops oj = true) →
      i ∈ Region.ready md ops listed → YieldsIf P ops (S i) oi v a → S i w →
      wpAnyD P md ops Q S fuel (listed.setIfInBounds i true) (a.put oi.dst v) w → wpAnyD P md ops Q S (fuel + 1) listed a w := by
  intro fuel
  induction fuel with
  | zero =>
    intro listed a w _ hr hy hS H
    refine ⟨fun h => (by rw [h] at hr; cases hr), fun j hj => ?_⟩
    by_cases hji : j = i
    · subst hji; exact hy.wpOp hi hS ⟨fun _ _ h => h, H⟩
    · have := ready_mono hj hji
      rw [H.1] at this
      cases this
  | succ fuel ih =>
    intro listed a w hfree hr hy hS H
    have hun := (mem_ready.1 hr).1
    refine ⟨fun h => (by rw [h] at hr; cases hr), fun j hj => ?_⟩
    by_cases hji : j = i
    · subst hji; exact hy.wpOp hi hS ⟨fun _ _ h => h, H⟩
    · have h1 := H.2 j (ready_mono hj hji)
      obtain ⟨hjun, oj, hoj, hall⟩ := mem_ready.1 hj
      have hnot : ∀ e ∈ oj.after, Region.binds md e = true → e.on ≠ i := fun e he hb heq => by
        have h1 := hall e he hb
        rw [heq, getD_both hun] at h1
        cases h1
      have h2 := wpOp_putIf hoj (hfree j oj hoj hji hjun hnot) (fun cs b => hsel i oi cs b hi) (fun cs b => hsel j oj cs b hoj) hQ hy h1
      have hfree' : ∀ k ok, ops[k]? = some ok → k ≠ i → (listed.setIfInBounds j true).getD k true = false →
          (∀ e ∈ ok.after, Region.binds md e = true → e.on ≠ i) → oi.apart ops ok = true := fun k ok hk hki hun hno => hfree k ok hk hki (getD_old hun) hno
      refine wpOp_mono (fun a' w' h3 => ?_) h2
      obtain ⟨h3, h4, h5⟩ := h3
      refine ⟨h4, ih (listed.setIfInBounds j true) a' w' hfree' (ready_mono hr (Ne.symm hji)) h3 (h4 i (may_of_ready hj hun) hS) ?_⟩
      rw [Array.setIfInBounds_comm _ _ hji]
      exact h5
def wpMixD (P : Program) (ops : Array Oper) (Q : Exit → Act → World → Prop) (S : Nat → World → Prop) : List (Nat × Bool) → Act → World → Prop
  | [], a, w => Q .normal a w
  | (i, true) :: r, a, w => ∃ o v, ops[i]? = some o ∧ YieldsIf P ops (S i) o v a ∧ wpMixD P ops Q S r (a.put o.dst v) w
  | (i, false) :: r, a, w => wpOp P ops Q i (fun a' w' => (∀ k, mayB .any ops i k = true → S k w → S k w') ∧ wpMixD P ops Q S r a' w') a w
theorem wpAnyD_mix (hsel : Region.noSelect ops = true) (hQ : ∀ c a d v w, Q (.panic c) (a.put d v) w → Q (.panic c) a w) :
    ∀ (st : List (Nat × Bool)) (listed : Array Bool) (a : Act) (w : World), (∀ k, listed.getD k true = false → S k w) → mixB .any ops ops.size st listed = true → wpMixD P ops Q S st a w → wpAnyD P .any ops Q S st.length listed a w
  | [], listed, a, w, _, hB, h => ⟨by simpa [mixB] using hB, h⟩
  | (i, true) :: r, listed, a, w, hS, hB, h => by
    simp only [mixB, Bool.and_eq_true, decide_eq_true_eq] at hB
    obtain ⟨⟨⟨hr, hf⟩, hin⟩, hB'⟩ := hB
    obtain ⟨o, v, ho, hy, hk⟩ := h
    have hr' : i ∈ Region.ready .any ops listed := by simpa using hr
    exact wpAnyD_first ho (Region.noSelect_spec hsel) (fun c a w => hQ c a o.dst v w) r.length listed a w (Region.free_spec ho hf) hr' hy (hS i (mem_ready.1 hr').1)
      (wpAnyD_mix hsel hQ r _ _ _ (fun k hk => hS k (getD_old hk)) hB' hk)
  | (i, false) :: r, listed, a, w, hS, hB, h => by
    simp only [mixB, Bool.and_eq_true, decide_eq_true_eq] at hB
    refine ⟨fun h0 => by rw [h0] at hB; exact absurd hB.1.1 (by simp), fun j hj => ?_⟩
    have hj' := hj
    rw [hB.1.1] at hj
    have : j = i := by simpa using hj
    subst this
    exact wpOp_mono (fun a' w' h' => ⟨h'.1, wpAnyD_mix hsel hQ r _ a' w' (fun k hk => h'.1 k (may_of_ready hj' (getD_old hk)) (hS k (getD_old hk))) hB.2 h'.2⟩) h
theorem wp_region_mixD {id : Nat} {a : Act} {w : World} {l : List Oper} (S : Nat → World → Prop) (st : List (Nat × Bool)) (hm : P.follows .mixedOrders = true) (hB : mixAllB l.toArray st = true) (hS : ∀ k, S k { w with drawn := w.drawn + 1 })
    (h : wpMixD P l.toArray (Q0 Q) S st a { w with drawn := w.drawn + 1 }) : (Code.region id l.toArray true).wp P Q a w := by
  simp only [mixAllB, Bool.and_eq_true, decide_eq_true_eq] at hB
  obtain ⟨⟨hsel, hlen⟩, hB⟩ := hB
  refine Code.wp_mono Q0_le (wp_region_any hm ?_)
  have h1 := wpAnyD_mix (P := P) (Q := Q0 Q) (S := S) hsel (fun c a d v w h => h) st (Array.replicate l.toArray.size false) a _ (fun k _ => hS k) hB h
  rw [hlen] at h1
  exact wpAny_of_D _ _ _ _ h1
theorem mixD_nil {a : Act} {w : World} (h : Q .normal a w) : wpMixD P ops Q S [] a w := h
theorem mixD_read {l : List Oper} {i : Nat} {r : List (Nat × Bool)} {a : Act} {w : World} {o : Oper} (x : Value) (a' : Act) (ho : l[i]? = some o) (hw : Region.wanted o (yielded l.toArray a.tmps) = true) (h1 : ∀ W, S i W → (execOp a.eval o).run P W = .ok (.value x) W)
    (hp : a.put o.dst x = a') (h : wpMixD P l.toArray Q S r a' w) : wpMixD P l.toArray Q S ((i, true) :: r) a w := ⟨o, x, by simpa using ho, .inl ⟨hw, h1⟩, hp ▸ h⟩
theorem mixD_skip {l : List Oper} {i : Nat} {r : List (Nat × Bool)} {a : Act} {w : World} {o : Oper} (a' : Act) (ho : l[i]? = some o) (hw : Region.wanted o (yielded l.toArray a.tmps) = false)
    (hp : a.put o.dst undef = a') (h : wpMixD P l.toArray Q S r a' w) : wpMixD P l.toArray Q S ((i, true) :: r) a w := ⟨o, undef, by simpa using ho, .inr ⟨hw, rfl⟩, hp ▸ h⟩
theorem mixD_loud {l : List Oper} {i : Nat} {r : List (Nat × Bool)} {a : Act} {w : World} {o : Oper} (ho : l[i]? = some o)
    (h : ∀ K : Act → World → Prop, (∀ a' w', ((∀ k, mayB .any l.toArray i k = true → S k w → S k w') ∧ wpMixD P l.toArray Q S r a' w') → K a' w') → wpList P l.toArray (Exit.then K Q) [o] a w) : wpMixD P l.toArray Q S ((i, false) :: r) a w :=
  wpOp_of_list (by simpa using ho) (h _ fun _ _ h => h)
/-- What comes last needs no condition any more. -/
theorem mixD_to {id : Nat} {a a0 : Act} {w : World} {l : List Oper} (S : Nat → World → Prop) (R : World → Prop) (st : List (Nat × Bool)) (hm : P.follows .mixedOrders = true) (hB : mixAllB l.toArray st = true) (hS : ∀ k, S k { w with drawn := w.drawn + 1 })
    (h : wpMixD P l.toArray (Q0 (fun e a w => e = .normal ∧ a = a0 ∧ R w)) S st a { w with drawn := w.drawn + 1 }) (k : ∀ W, R W → Q .normal a0 W) : (Code.region id l.toArray true).wp P Q a w :=
  Code.wp_mono (fun e' a' w' h' => by obtain ⟨rfl, rfl, hR⟩ := h'; exact k w' hR) (wp_region_mixD (Q := fun e a w => e = .normal ∧ a = a0 ∧ R w) S st hm hB hS h)
end
end Go.Proofs.Ytgchfibcaecjcaa
/- jobs.Whole. -/
namespace Go.Proofs.Ytgchfibcaecjcaa
open Go.RowKit Go.Lib
set_option linter.unusedVariables false
set_option linter.unusedSimpArgs false
/-- How long the slice in that box is. -/
def lenAt (W : World) (v : Value) : Nat := match v with
  | .pointer (some a) => (match W.cell? a with | some (.slice _ n _) => n | _ => 0)
  | _ => 0
theorem lenAt_blk {W : World} {B : Nat} {A : Option Addr} {n c : Nat} {T : TypeId} (h : Blk W B [.slice A n c] T) : lenAt W (.pointer (some ⟨B, 0, none⟩)) = n := by
  unfold lenAt
  simp only [h.cell 0 rfl]
theorem Grown.trans1 {a b c : World} {r : Nat} (h : a.grownBy b (some r)) (k : b.grownBy c (some r)) : a.grownBy c (some r) :=
  ⟨k.os.trans h.os, k.tape.trans h.tape, k.output.trans h.output, Nat.le_trans h.size k.size, fun i hi hne => (k.block i (Nat.lt_of_lt_of_le hi h.size) hne).trans (h.block i hi hne)⟩
theorem Grown.refl1 (a : World) (r : Nat) : a.grownBy a (some r) := ⟨rfl, rfl, rfl, Nat.le_refl _, fun _ _ _ => rfl⟩
theorem Grown.ext1 {a b : World} (h : Ext a b) (r : Nat) : a.grownBy b (some r) := ⟨h.os, h.tape, h.output, h.size, fun k hk _ => h.block k hk⟩
theorem Grown.set1 (a : World) (r i : Nat) (u : Value) : a.grownBy (a.setCell ⟨r, i, none⟩ u) (some r) :=
  ⟨rfl, rfl, rfl, by rw [World.size_setCell]; exact Nat.le_refl _, fun k hk hne => Below.heap_setCell _ _ _ _ (fun e => hne (congrArg some e))⟩
theorem Grown.drew1 {a b : World} {r : Nat} (h : a.grownBy b (some r)) : a.grownBy b.drew (some r) := ⟨h.os, h.tape, h.output, h.size, h.block⟩
/-- What the reads of region 13 stand on. -/
def SD (q p : Nat) (fm xm : Bool) : Nat → World → Prop
  | 2, W => W.cell? ⟨q, 2, none⟩ = some (.bool fm)
  | 5, W => W.cell? ⟨p, 2, none⟩ = some (.bool xm)
  | _, _ => True
theorem SD.set {q p : Nat} {fm xm : Bool} {W : World} (hpq : p ≠ q) (v : Value) : ∀ k, SD q p fm xm k W → SD q p fm xm k (W.setCell ⟨q, 1, none⟩ v) := by
  intro k h
  unfold SD at *
  split
  · exact (World.cell?_setCell_other W ⟨q, 1, none⟩ ⟨q, 2, none⟩ v (by simp)).trans h
  · exact (World.cell?_setCell_other W ⟨q, 1, none⟩ ⟨p, 2, none⟩ v (by simp)).trans h
  · trivial
theorem SD.drew {q p : Nat} {fm xm : Bool} {W : World} {k : Nat} : SD q p fm xm k W.drew ↔ SD q p fm xm k W := by
  unfold SD
  split <;> exact Iff.rfl
theorem SD.rest {q p : Nat} {fm xm : Bool} {W : World} {k : Nat} (h2 : k ≠ 2) (h5 : k ≠ 5) : SD q p fm xm k W := by
  unfold SD
  split
  · exact absurd rfl h2
  · exact absurd rfl h5
  · trivial
set_option maxRecDepth 100000 in
set_option maxHeartbeats 4000000 in
theorem Whole_calls (l : List It) (A0 : Option Addr) (cap0 : Nat) (w : World) (hr : RdI w A0 l) (hlen : l.length ≤ 1000000) :
    Calls Try.prog 11 #[.slice A0 l.length cap0] w fun e w' => ∃ v1 v2, e = .returned (.tuple #[v1, v2]) ∧ w'.ownsRow w.heap.size 39 3 v1 (wholeL (sortedL l)).1.length (itCells (wholeL (sortedL l)).1) ∧ w'.ownsRow w.heap.size 35 2 v2 (wholeL (sortedL l)).2.length (cellsJ (wholeL (sortedL l)).2) ∧ Ext w w' := by
  have hS := Lib.hid (Sorted_calls l A0 cap0 w hr hlen)
  have hsl := sortedL_len l
  have hs2 : (sortedL l).length ≤ 1000000 := by omega
  clear hsl
  generalize sortedL l = ss at *
  have k22 := Try.underlying22
  go_enter Try.func11, Try.ntmps11
  go_upto_region 4 with (go_at_call 10; refine hS.out.mono ?_; rintro e W1 ⟨v, rfl, hrow, hx1⟩; obtain ⟨A1, cap1, rfl, hcap1, hrd1, hlow1⟩ := OwnsI.rd hrow)
  clear hS hrow hlow1
  obtain ⟨M, hM⟩ : ∃ M, W1.heap.size = M := ⟨_, rfl⟩
  go_loopw [4, 5, 6] (fun v4 v5 v6 W => ∃ (s out : List It) (bad : List (Int × Int)) (A : Option Addr) (cap B : Nat), v6 = .pointer (some ⟨B, 0, none⟩) ∧ M ≤ B ∧ Blk W B [.slice A s.length cap] 22 ∧ s.length ≤ cap ∧ s.length ≤ ss.length ∧ out.length + bad.length + s.length ≤ ss.length ∧ RdI W1 A s ∧ Ext W1 W ∧ wholeL ss = (out ++ (wholeL s).1, bad ++ (wholeL s).2) ∧
    W.ownsRow M 39 3 v4 out.length (itCells out) ∧ W.ownsRow M 35 2 v5 bad.length (cellsJ bad)) (fun _ _ v W => lenAt W v)
  case atStart =>
    exact ⟨ss, [], [], A1, cap1, M, by rw [← hM], Nat.le_refl _, by rw [← hM]; exact Blk.newAt _ _ _ _ rfl, hcap1, Nat.le_refl _, by simp, hrd1, (Ext.refl W1).alloc _, rfl, ⟨rfl, .inl ⟨rfl, rfl⟩⟩, ⟨rfl, .inl ⟨rfl, rfl⟩⟩⟩
  case round =>
    obtain ⟨s, out, bad, A, cap, B, rfl, hMB, hB, hsc, hss, hob, hrd, hx, hwl, ho4, ho5⟩ := hrel
    have cB := hB.cell 0 rfl
    cases s with
    | nil =>
      go_wp2_with fail
      go_ret2
      have : wholeL ss = (out, bad) := by rw [hwl]; simp [wholeL, wholeF]
      rw [this]
      exact ⟨_, _, rfl, Owns.low ho4 (hM ▸ hx1.size), Owns.low ho5 (hM ▸ hx1.size), hx1.trans hx⟩
    | cons x r =>
      obtain ⟨b, o, u, t, m, rfl, he, g1, g2, g3⟩ := hrd.at (i := 0) (by simp)
      cases he
      rw [Nat.zero_mul, Nat.add_zero] at g1 g2 g3
      have hIX := Lib.hid (index_calls (⟨u, t, m⟩ :: r) (some ⟨b, o, none⟩) cap B b o (r.length + 1) cap u wr (hrd.ext hx) (by omega) cB (by simp) (hx.cell g1))
      have hpos : (0 : Int) < (List.length (⟨u, t, m⟩ :: r) : Nat) := by simp
      generalize hse : (⟨u, t, m⟩ : It) :: r = s at *
      go_upto_region 6 with (go_at_call 26; refine hIX.out.mono ?_; rintro e W2 ⟨n, hn, hru, hrn, rfl, hx2⟩)
      have hn0 : n ≠ 0 := fun e => hrn ⟨u, t, m⟩ (by rw [e, ← hse]; rfl) rfl
      obtain ⟨hru, hrn⟩ := run_eq hn hru hrn
      have hrd2 := hrd
      clear hIX
      have cB2 := hx2.cell cB
      have HN : ∃ y, (if n < s.length then (n : Int) else -1) = y ∧ (0 ≤ y ∧ y = n ∨ y < 0 ∧ n = s.length) := by
        by_cases hc : n < s.length
        · exact ⟨_, rfl, .inl ⟨by rw [if_pos hc]; omega, by rw [if_pos hc]⟩⟩
        · exact ⟨_, rfl, .inr ⟨by rw [if_neg hc]; omega, by omega⟩⟩
      obtain ⟨y, hy, hyn⟩ := HN
      rw [hy]
      clear hy
      have HY := Lib.hid (Nat.le_refl 0)
      have E0 : ∀ W', Ext W2 W' → W'.cell? ⟨B, 0, none⟩ = some (.slice (some ⟨b, o, none⟩) s.length cap) := fun W' h => h.cell cB2
      have E1 : ∀ W', Ext W2 W' → W'.cell? ⟨b, o, none⟩ = some (.int .i64 u) := fun W' h => ((hx.trans hx2).trans h).cell g1
      have E2 : ∀ W', Ext W2 W' → W'.cell? ⟨b, o + 1, none⟩ = some (.int .u8 t) := fun W' h => ((hx.trans hx2).trans h).cell g2
      have E3 : ∀ W', Ext W2 W' → W'.cell? ⟨b, o + 2, none⟩ = some (.bool m) := fun W' h => ((hx.trans hx2).trans h).cell g3
      have hK := Lib.hid (known_calls t)
      have HLB := Lib.hid (show lenAt wr (.pointer (some ⟨B, 0, none⟩)) = s.length by simp [lenAt, cB])
      have HWG : Hid (wholeL s = glue ⟨u, t, m⟩ (s.take n) (wholeL (s.drop n))) := Lib.hid (by
        have := wholeL_cons ⟨u, t, m⟩ r
        rw [hse] at this
        rw [this, hru, hrn])
      rcases hyn with ⟨hy0, rfl⟩ | ⟨hy0, hns⟩
      all_goals (try (have HNS := Lib.hid hns; clear hns))
      all_goals (go_upto_region 8 with (fail))
      all_goals (try rw [show Value.int .i64 ((s.length : Nat) : Int) = Value.int .i64 (n : Int) by rw [HNS.out]])
      all_goals (clear hy0)
      all_goals (apply wp_region_fork_to (fun W => Ext W2 W) (fun W => Ext W2 W ∧ Blk W W2.heap.size [.int .i64 u, .int .u8 t, .bool m] 39) (.read 0 (.read 1 (.read 2 (.read 3 (.read 4 (.read 5 (.read 6 (.read 7 (.fork 8 9 (.one 9 (.one 10 (.one 11 .nil))) (.one 8 (.one 10 (.one 11 .nil))))))))))))  (by kernel_rfl) (by kernel_rfl) ((Ext.refl W2).drew); (case h => (iterate 8 (first | (apply fork_read; (case ho => rfl); (case hw => rfl); (case h1 => intro W' hx; (try dsimp only at hx); go_simp; (try go_bits); with_reducible rfl); (case hp => go_simp; first | done | with_reducible rfl)) | (apply fork_skip; (case ho => rfl); (case hw => rfl); (case hp => go_simp; first | done | with_reducible rfl)))); (refine fork_two rfl rfl ?_ ?_ <;> intro KY hKY); (focus ((go_wp2_with (go_at_call 16; refine (hK.out _).mono ?_; rintro e W3 ⟨rfl, rfl⟩)); refine ⟨(Ext.refl W2).drew, ?_⟩; refine fork_one rfl ?_; intro KY hKY; (go_wp2_with (go_at_call 16; refine (hK.out _).mono ?_; rintro e W3 ⟨rfl, rfl⟩)); refine ⟨((Ext.refl W2).alloc _).drew, ?_⟩; refine fork_one rfl ?_; intro KY hKY; (go_wp2_with (go_at_call 16; refine (hK.out _).mono ?_; rintro e W3 ⟨rfl, rfl⟩)); refine ⟨((Ext.refl W2).alloc _).drew, ?_⟩; refine fork_one rfl ?_; intro KY hKY; (go_wp2_with (go_at_call 16; refine (hK.out _).mono ?_; rintro e W3 ⟨rfl, rfl⟩)); refine ⟨((Ext.refl W2).alloc _).drew, ?_⟩; refine fork_nil ?_; unfold Q0; exact ⟨rfl, rfl, ((Ext.refl W2).alloc _).drew, (Blk.newAt W2 _ _ _ rfl).drew⟩)); (focus ((go_wp2_with (go_at_call 16; refine (hK.out _).mono ?_; rintro e W3 ⟨rfl, rfl⟩)); refine ⟨((Ext.refl W2).alloc _).drew, ?_⟩; refine fork_one rfl ?_; intro KY hKY; (go_wp2_with (go_at_call 16; refine (hK.out _).mono ?_; rintro e W3 ⟨rfl, rfl⟩)); refine ⟨((Ext.refl W2).alloc _).drew, ?_⟩; refine fork_one rfl ?_; intro KY hKY; (go_wp2_with (go_at_call 16; refine (hK.out _).mono ?_; rintro e W3 ⟨rfl, rfl⟩)); refine ⟨((Ext.refl W2).alloc _).drew, ?_⟩; refine fork_one rfl ?_; intro KY hKY; (go_wp2_with (go_at_call 16; refine (hK.out _).mono ?_; rintro e W3 ⟨rfl, rfl⟩)); refine ⟨((Ext.refl W2).alloc _).drew, ?_⟩; refine fork_nil ?_; unfold Q0; exact ⟨rfl, rfl, ((Ext.refl W2).alloc _).drew, (Blk.newAt W2 _ _ _ rfl).drew⟩))))
      all_goals
        rintro W3 ⟨hx3, hq⟩
        obtain ⟨q, hqe⟩ : ∃ q, W2.heap.size = q := ⟨_, rfl⟩
        rw [hqe] at hq ⊢
        have cB3 := E0 W3 hx3
        have hwx := (hx.trans hx2).trans hx3
        have hz1 : W1.heap.size ≤ W2.heap.size := (hx.trans hx2).size
        have hz2 : wr.heap.size ≤ W2.heap.size := hx2.size
        have hMq : M ≤ q := by omega
        have o4 := Owns.ext ho4 (hx2.trans hx3)
        have o5 := Owns.ext ho5 (hx2.trans hx3)
        have n4 : u4.ownBlock ≠ some q := fun h4 => absurd (ho4.lt _ h4).2 (by omega)
        have n5 : u5.ownBlock ≠ some q := fun h4 => absurd (ho5.lt _ h4).2 (by omega)
        have hBW : Blk W3 B [.slice (some ⟨b, o, none⟩) s.length cap] 22 := hB.ext (hx2.trans hx3)
        have hBq : B < q := Nat.lt_of_lt_of_le (hx2.trans (Ext.refl W2) |> fun h => hB.lt) (by omega)
        have hn0i : (0 : Int) ≤ n := by omega
        have hnci : (n : Int) ≤ cap := by omega
        have hc0 : cap ≠ 0 := by omega
        clear ho4 ho5 hx3 hx2 hx E0 E1 E2 E3 cB cB2 hB hK
        go_upto_region 10 with (fail)
        obtain ⟨ok, hok⟩ : ∃ ok, knownB t = ok := ⟨_, rfl⟩
        rw [hok]
        have hML := fun x => mrgs_snoc x (t := t) (m := m) (ok := ok)
        go_loopw [41, 9] (fun i v W => ∃ k : Nat, k ≤ n ∧ i = .int .i64 k ∧ v = .bool (mrgs t m ok (s.take k)).2.2 ∧ W3.grownBy W (some q) ∧ Blk W q [.int .i64 u, .int .u8 (mrgs t m ok (s.take k)).1, .bool (mrgs t m ok (s.take k)).2.1] 39) (fun i _ _ => n - (RowKit.intOf i).toNat)
        case atStart => exact ⟨0, by omega, rfl, rfl, Grown.refl1 _ _, hq⟩
        case round =>
          obtain ⟨k, hk, rfl, rfl, hg, hqb⟩ := hrel
          generalize hms : mrgs t m ok (s.take k) = ms at *
          obtain ⟨ft, fm, fo⟩ := ms
          dsimp only at hqb ⊢
          by_cases hlt : k < n
          · have hltn : (k : Int) < n := by omega
            have hls : k < s.length := by omega
            obtain ⟨b', o', xu, xt, xm, hAe, he, f1, f2, f3⟩ := hrd.at hls
            cases hAe
            have hwg : Ext W1 wr := Grown.toExt hwx hg (fun k e => by cases e; omega)
            have f1 := hwg.cell f1
            have f2 := hwg.cell f2
            have f3 := hwg.cell f3
            have HMS := Lib.hid hms
            clear hms hok
            go_upto_region 12 with (fail)
            refine wp_gen (fun W => Blk W wr.heap.size [.int .i64 xu, .int .u8 xt, .bool xm] 39 ∧ Ext wr W) ⟨Blk.newAt _ _ _ _ rfl, (Ext.refl wr).alloc _⟩ ?_
            obtain ⟨p, hp⟩ : ∃ p, wr.heap.size = p := ⟨_, rfl⟩
            have hqp : q < wr.heap.size := hqb.lt
            rw [hp] at hqp ⊢
            clear f1 f2 f3
            rintro W4 ⟨hpb, hx4⟩
            replace hqb := hqb.ext hx4
            have hg4 := Grown.trans1 hg (Grown.ext1 hx4 q)
            clear hg hx4 hwg
            have q0 := hqb.cell 0 rfl
            have q1 := hqb.cell 1 rfl
            have p1 := hpb.cell 1 rfl
            have hMG := Lib.hid (merge_calls ft xt W4)
            go_upto_region 13 with (go_at_call 15; refine hMG.out.mono ?_; rintro e W5 ⟨rfl, rfl⟩)
            clear hMG q0 q1 p1
            have E2 : ∀ W', SD q p fm xm 2 W' → W'.cell? ⟨q, 2, none⟩ = some (.bool fm) := fun _ h => h
            have E5 : ∀ W', SD q p fm xm 5 W' → W'.cell? ⟨p, 2, none⟩ = some (.bool xm) := fun _ h => h
            have S0 : ∀ i, SD q p fm xm i W5.drew := fun i => by
              unfold SD
              split
              · exact hqb.cell 2 rfl
              · exact hpb.cell 2 rfl
              · trivial
            have hst : ∀ (fm : Bool) (v : Value) (i : Nat), SD q p fm xm i { heap := W5.heap, tape := W5.tape, drawn := W5.drawn + 1, os := W5.os, output := W5.output } → SD q p fm xm i (W5.setCell ⟨q, 1, none⟩ v).drew := fun fm v i h => SD.drew.2 (SD.set (W := W5) (show p ≠ q by omega) v i ((SD.drew (W := W5)).1 h))
            have htk : s.take (k + 1) = s.take k ++ [⟨xu, xt, xm⟩] := by rw [List.take_succ_eq_append_getElem hls]; congr 2; rw [List.getElem?_eq_getElem hls] at he; exact Option.some.inj he
            have HSN : mrgs t m ok (s.take (k + 1)) = ((mrg ft xt).1, fm || xm, fo && (mrg ft xt).2) := by rw [htk, mrgs_snoc, HMS.out]
            clear htk
            generalize mrg ft xt = mg at *
            obtain ⟨mt, mf⟩ := mg
            dsimp only at HSN ⊢
            replace HSN := Lib.hid HSN
            have d1 := hqb.cell 1 rfl
            have z1 := hqb.frozen 1
            have d2 := hqb.cell 2 rfl
            have z2 := hqb.frozen 2
            cases fm <;> cases fo
            · (apply mixD_to (SD q p false xm) (fun W => W3.grownBy W (some q) ∧ Blk W q [.int .i64 u, .int .u8 mt, .bool (false || xm)] 39) [(0, true), (1, true), (2, true), (3, true), (4, true), (5, true), (6, true), (7, true), (8, true), (9, true), (10, true), (11, true), (12, true), (13, false), (14, true), (15, false), (16, false)] (by kernel_rfl) (by kernel_rfl) S0; (case h => (repeat (first | (apply mixD_read; (case ho => rfl); (case hw => rfl); (case h1 => intro W' hx; (try dsimp only at hx); go_simp; (try go_bits); with_reducible rfl); (case hp => go_simp; first | done | with_reducible rfl)) | (apply mixD_skip; (case ho => rfl); (case hw => rfl); (case hp => go_simp; first | done | with_reducible rfl)))); refine mixD_loud rfl ?_; intro KY hKY; go_wp2_with fail; refine ⟨fun i _ _ => hst false (.int .u8 mt) i (S0 i), ?_⟩; (repeat (first | (apply mixD_read; (case ho => rfl); (case hw => rfl); (case h1 => intro W' hx; (try dsimp only at hx); go_simp; (try go_bits); with_reducible rfl); (case hp => go_simp; first | done | with_reducible rfl)) | (apply mixD_skip; (case ho => rfl); (case hw => rfl); (case hp => go_simp; first | done | with_reducible rfl)))); refine mixD_loud rfl ?_; intro KY hKY; go_wp2_with fail; refine ⟨fun i hk _ => SD.rest (fun e => (by subst e; exact (Bool.eq_false_iff.1 (by kernel_rfl)) hk)) (fun e => (by subst e; exact (Bool.eq_false_iff.1 (by kernel_rfl)) hk)), ?_⟩; refine mixD_loud rfl ?_; intro KY hKY; go_wp2_with fail; refine ⟨fun i _ h => h, ?_⟩; refine mixD_nil ?_; unfold Q0; exact ⟨rfl, rfl, Grown.drew1 (Grown.trans1 (Grown.trans1 hg4 (Grown.set1 _ _ _ _)) (Grown.set1 _ _ _ _)), ((hqb.set 1 _).set 2 _).drew⟩); (case k => rintro W6 ⟨hg6, hq6⟩; go_wp2_with fail; go_roundw; (case rel => exact ⟨k + 1, (by omega), (by go_num), (by rw [HSN.out]; rfl), hg6, (by rw [HSN.out]; exact hq6)⟩); (case measure => simp [RowKit.intOf]; omega)))
            · (apply mixD_to (SD q p false xm) (fun W => W3.grownBy W (some q) ∧ Blk W q [.int .i64 u, .int .u8 mt, .bool (false || xm)] 39) [(0, true), (1, true), (2, true), (3, true), (4, true), (5, true), (6, true), (7, true), (8, true), (9, true), (10, true), (11, true), (12, true), (13, false), (14, true), (15, false), (16, false)] (by kernel_rfl) (by kernel_rfl) S0; (case h => (repeat (first | (apply mixD_read; (case ho => rfl); (case hw => rfl); (case h1 => intro W' hx; (try dsimp only at hx); go_simp; (try go_bits); with_reducible rfl); (case hp => go_simp; first | done | with_reducible rfl)) | (apply mixD_skip; (case ho => rfl); (case hw => rfl); (case hp => go_simp; first | done | with_reducible rfl)))); refine mixD_loud rfl ?_; intro KY hKY; go_wp2_with fail; refine ⟨fun i _ _ => hst false (.int .u8 mt) i (S0 i), ?_⟩; (repeat (first | (apply mixD_read; (case ho => rfl); (case hw => rfl); (case h1 => intro W' hx; (try dsimp only at hx); go_simp; (try go_bits); with_reducible rfl); (case hp => go_simp; first | done | with_reducible rfl)) | (apply mixD_skip; (case ho => rfl); (case hw => rfl); (case hp => go_simp; first | done | with_reducible rfl)))); refine mixD_loud rfl ?_; intro KY hKY; go_wp2_with fail; refine ⟨fun i hk _ => SD.rest (fun e => (by subst e; exact (Bool.eq_false_iff.1 (by kernel_rfl)) hk)) (fun e => (by subst e; exact (Bool.eq_false_iff.1 (by kernel_rfl)) hk)), ?_⟩; refine mixD_loud rfl ?_; intro KY hKY; go_wp2_with fail; refine ⟨fun i _ h => h, ?_⟩; refine mixD_nil ?_; unfold Q0; exact ⟨rfl, rfl, Grown.drew1 (Grown.trans1 (Grown.trans1 hg4 (Grown.set1 _ _ _ _)) (Grown.set1 _ _ _ _)), ((hqb.set 1 _).set 2 _).drew⟩); (case k => rintro W6 ⟨hg6, hq6⟩; go_wp2_with fail; go_roundw; (case rel => exact ⟨k + 1, (by omega), (by go_num), (by rw [HSN.out]; rfl), hg6, (by rw [HSN.out]; exact hq6)⟩); (case measure => simp [RowKit.intOf]; omega)))
            · (apply mixD_to (SD q p true xm) (fun W => W3.grownBy W (some q) ∧ Blk W q [.int .i64 u, .int .u8 mt, .bool (true || xm)] 39) [(0, true), (1, true), (2, true), (3, true), (4, true), (5, true), (6, true), (7, true), (8, true), (9, true), (10, true), (11, true), (12, true), (13, false), (14, true), (15, false), (16, false)] (by kernel_rfl) (by kernel_rfl) S0; (case h => (repeat (first | (apply mixD_read; (case ho => rfl); (case hw => rfl); (case h1 => intro W' hx; (try dsimp only at hx); go_simp; (try go_bits); with_reducible rfl); (case hp => go_simp; first | done | with_reducible rfl)) | (apply mixD_skip; (case ho => rfl); (case hw => rfl); (case hp => go_simp; first | done | with_reducible rfl)))); refine mixD_loud rfl ?_; intro KY hKY; go_wp2_with fail; refine ⟨fun i _ _ => hst true (.int .u8 mt) i (S0 i), ?_⟩; (repeat (first | (apply mixD_read; (case ho => rfl); (case hw => rfl); (case h1 => intro W' hx; (try dsimp only at hx); go_simp; (try go_bits); with_reducible rfl); (case hp => go_simp; first | done | with_reducible rfl)) | (apply mixD_skip; (case ho => rfl); (case hw => rfl); (case hp => go_simp; first | done | with_reducible rfl)))); refine mixD_loud rfl ?_; intro KY hKY; go_wp2_with fail; refine ⟨fun i hk _ => SD.rest (fun e => (by subst e; exact (Bool.eq_false_iff.1 (by kernel_rfl)) hk)) (fun e => (by subst e; exact (Bool.eq_false_iff.1 (by kernel_rfl)) hk)), ?_⟩; refine mixD_loud rfl ?_; intro KY hKY; go_wp2_with fail; refine ⟨fun i _ h => h, ?_⟩; refine mixD_nil ?_; unfold Q0; exact ⟨rfl, rfl, Grown.drew1 (Grown.trans1 (Grown.trans1 hg4 (Grown.set1 _ _ _ _)) (Grown.set1 _ _ _ _)), ((hqb.set 1 _).set 2 _).drew⟩); (case k => rintro W6 ⟨hg6, hq6⟩; go_wp2_with fail; go_roundw; (case rel => exact ⟨k + 1, (by omega), (by go_num), (by rw [HSN.out]; rfl), hg6, (by rw [HSN.out]; exact hq6)⟩); (case measure => simp [RowKit.intOf]; omega)))
            · (apply mixD_to (SD q p true xm) (fun W => W3.grownBy W (some q) ∧ Blk W q [.int .i64 u, .int .u8 mt, .bool (true || xm)] 39) [(0, true), (1, true), (2, true), (3, true), (4, true), (5, true), (6, true), (7, true), (8, true), (9, true), (10, true), (11, true), (12, true), (13, false), (14, true), (15, false), (16, false)] (by kernel_rfl) (by kernel_rfl) S0; (case h => (repeat (first | (apply mixD_read; (case ho => rfl); (case hw => rfl); (case h1 => intro W' hx; (try dsimp only at hx); go_simp; (try go_bits); with_reducible rfl); (case hp => go_simp; first | done | with_reducible rfl)) | (apply mixD_skip; (case ho => rfl); (case hw => rfl); (case hp => go_simp; first | done | with_reducible rfl)))); refine mixD_loud rfl ?_; intro KY hKY; go_wp2_with fail; refine ⟨fun i _ _ => hst true (.int .u8 mt) i (S0 i), ?_⟩; (repeat (first | (apply mixD_read; (case ho => rfl); (case hw => rfl); (case h1 => intro W' hx; (try dsimp only at hx); go_simp; (try go_bits); with_reducible rfl); (case hp => go_simp; first | done | with_reducible rfl)) | (apply mixD_skip; (case ho => rfl); (case hw => rfl); (case hp => go_simp; first | done | with_reducible rfl)))); refine mixD_loud rfl ?_; intro KY hKY; go_wp2_with fail; refine ⟨fun i hk _ => SD.rest (fun e => (by subst e; exact (Bool.eq_false_iff.1 (by kernel_rfl)) hk)) (fun e => (by subst e; exact (Bool.eq_false_iff.1 (by kernel_rfl)) hk)), ?_⟩; refine mixD_loud rfl ?_; intro KY hKY; go_wp2_with fail; refine ⟨fun i _ h => h, ?_⟩; refine mixD_nil ?_; unfold Q0; exact ⟨rfl, rfl, Grown.drew1 (Grown.trans1 (Grown.trans1 hg4 (Grown.set1 _ _ _ _)) (Grown.set1 _ _ _ _)), ((hqb.set 1 _).set 2 _).drew⟩); (case k => rintro W6 ⟨hg6, hq6⟩; go_wp2_with fail; go_roundw; (case rel => exact ⟨k + 1, (by omega), (by go_num), (by rw [HSN.out]; rfl), hg6, (by rw [HSN.out]; exact hq6)⟩); (case measure => simp [RowKit.intOf]; omega)))
          · have hkn : k = n := by omega
            subst k
            have hwq : Ext W1 wr := Grown.toExt hwx hg (fun k e => by cases e; omega)
            have o4q := Owns.kept o4 hg (fun k h4 e => n4 (h4.trans e.symm))
            have o5q := Owns.kept o5 hg (fun k h4 e => n5 (h4.trans e.symm))
            have hBq2 : Blk wr B [.slice (some ⟨b, o, none⟩) s.length cap] 22 := Grown.blk hg hBW (by simp; omega)
            have cBq := hBq2.cell 0 rfl
            have HMS := Lib.hid hms
            have HOK := Lib.hid hok
            clear hms hok hg o4 o5 hBW cB3 hwx
            cases fo
            · go_upto_region 16 with (fail)
              go_loopw [74, 5] (fun i v W => ∃ k : Nat, k ≤ n ∧ i = .int .i64 k ∧ W.ownsRow M 35 2 v (bad ++ (s.take k).map jobOf).length (cellsJ (bad ++ (s.take k).map jobOf)) ∧ W.ownsRow M 39 3 u4 out.length (itCells out) ∧ Blk W B [.slice (some ⟨b, o, none⟩) s.length cap] 22 ∧ Ext W1 W) (fun i _ _ => n - (RowKit.intOf i).toNat)
              case atStart => exact ⟨0, by omega, rfl, by simpa using o5q, o4q, hBq2, hwq⟩
              case round =>
                clear o4q o5q hBq2 cBq hwq
                obtain ⟨k, hk, rfl, o5, o4, hBW, hwx⟩ := hrel
                by_cases hlt : k < n
                · have hltn : (k : Int) < n := by omega
                  have hls : k < s.length := by omega
                  obtain ⟨b', o', xu, xt, xm, hAe, he, f1, f2, f3⟩ := (hrd.ext hwx).at hls
                  cases hAe
                  have htk : bad ++ (s.take (k + 1)).map jobOf = (bad ++ (s.take k).map jobOf) ++ [(xu, xt)] := by
                    rw [List.take_succ_eq_append_getElem hls, List.map_append, List.append_assoc]
                    congr 2
                    rw [List.getElem?_eq_getElem hls] at he
                    rw [Option.some.inj he]; rfl
                  have HTK := Lib.hid htk
                  clear htk
                  have hbl : (bad ++ (s.take k).map jobOf).length ≤ 100000000 := by rw [List.length_append, List.length_map, List.length_take]; omega
                  go_upto_region 18 with (fail)
                  refine wp_gen (fun W => Blk W wr.heap.size [.int .i64 xu, .int .u8 xt, .bool xm] 39 ∧ Ext wr W) ⟨Blk.newAt _ _ _ _ rfl, (Ext.refl wr).alloc _⟩ ?_
                  obtain ⟨p, hp⟩ : ∃ p, wr.heap.size = p := ⟨_, rfl⟩
                  rw [hp]
                  clear f1 f2 f3
                  rintro W4 ⟨hpb, hx4⟩
                  replace o4 := Owns.ext o4 hx4
                  have o5a := (Owns.ext o5 hx4)
                  replace hBW := hBW.ext hx4
                  replace hwx := hwx.trans hx4
                  have p0 := hpb.cell 0 rfl
                  have p1 := hpb.cell 1 rfl
                  have hM4 : M ≤ W4.heap.size := hM ▸ hwx.size
                  have o5b := Owns.ext o5a ((Ext.refl W4).alloc (.cells #[.int .i64 xu, .int .u8 xt] 35))
                  clear o5 hx4 hp o5a
                  go_wp2_with (refine wpList_append_job rfl (.tmp 80) (.tmp 83) rfl M _ _ rfl o5b W4.heap.size 1 xu xt rfl (Blk.newAt W4 [.int .i64 xu, .int .u8 xt] _ _ rfl) hbl (Nat.le_trans hM4 (by rw [World.size_alloc]; omega)) ?_; intro v' W5 o5 g5 s5)
                  go_roundw
                  case rel =>
                    refine ⟨k + 1, by omega, by go_num, by rw [HTK.out]; exact o5, Owns.kept (Owns.ext o4 ((Ext.refl W4).alloc _)) g5 (fun k h4 e => Owns.apart (Owns.ext o4 ((Ext.refl W4).alloc _)) o5b (by decide) k h4 e), Grown.blk g5 (hBW.alloc _) (fun e => Owns.notBlk o5b (hBW.alloc _) (by decide) e.symm), Grown.toExt (hwx.alloc _) g5 (fun k hk => by rw [hM]; exact (o5b.lt k hk).1)⟩
                  case measure => simp [RowKit.intOf]; omega
                · have hkn : k = n := by omega
                  subst k
                  have cBW := hBW.cell 0 rfl
                  have zBW := hBW.frozen 0
                  have hnsi : (n : Int) ≤ (s.length : Nat) := by omega
                  go_wp2_with fail
                  go_roundw
                  have hdl : (s.drop n).length = s.length - n := List.length_drop
                  have hrdA : RdI W1 (if cap = n then some ⟨b, o, none⟩ else some ⟨b, o + n * 3, none⟩) (s.drop n) := by
                    split
                    · exact .inl (List.drop_eq_nil_of_le (by omega))
                    · exact hrd.drop n
                  case rel =>
                    refine ⟨s.drop n, out, bad ++ (s.take n).map jobOf, _, cap - n, wr.heap.size, rfl, hM ▸ hwx.size, by rw [hdl]; exact Blk.newAt _ _ _ _ (by rw [World.size_setCell]), by rw [hdl]; omega, by rw [hdl]; omega, by rw [hdl, List.length_append, List.length_map, List.length_take]; omega, hrdA, (hwx.setCell (by simp; omega) _).alloc _, ?_,
                      Owns.ext (Owns.set' o4 0 _ (Owns.notBlk o4 hBW (by decide))) ((Ext.refl _).alloc _), Owns.ext (Owns.set' o5 0 _ (Owns.notBlk o5 hBW (by decide))) ((Ext.refl _).alloc _)⟩
                    rw [hwl, HWG.out]
                    unfold glue
                    dsimp only
                    rw [HOK.out, HMS.out]
                    simp
                  case measure =>
                    rw [HLB.out, lenAt_blk (Blk.newAt _ [_] _ _ (by rw [World.size_setCell]))]
                    omega
            · go_upto_region 16 with (fail)
              go_loopw [74, 5] (fun i v W => ∃ k : Nat, k ≤ n ∧ i = .int .i64 k ∧ v.ownBlock ≠ some q ∧ W.ownsRow M 35 2 v bad.length (cellsJ bad) ∧ W.ownsRow M 39 3 u4 out.length (itCells out) ∧ Blk W B [.slice (some ⟨b, o, none⟩) s.length cap] 22 ∧ Blk W q [.int .i64 u, .int .u8 ft, .bool fm] 39 ∧ Ext W1 W) (fun i _ _ => n - (RowKit.intOf i).toNat)
              case atStart => exact ⟨0, by omega, rfl, n5, o5q, o4q, hBq2, hqb, hwq⟩
              case round =>
                clear o4q o5q hBq2 cBq hwq n5 hqb
                obtain ⟨k, hk, rfl, n5, o5, o4, hBW, hqb, hwx⟩ := hrel
                by_cases hlt : k < n
                · have hltn : (k : Int) < n := by omega
                  have hls : k < s.length := by omega
                  obtain ⟨b', o', xu, xt, xm, hAe, he, f1, f2, f3⟩ := (hrd.ext hwx).at hls
                  cases hAe
                  go_wp2_with fail
                  go_roundw
                  case rel => exact ⟨k + 1, by omega, by go_num, n5, Owns.ext o5 ((Ext.refl _).alloc _), Owns.ext o4 ((Ext.refl _).alloc _), hBW.alloc _, hqb.alloc _, hwx.alloc _⟩
                  case measure => simp [RowKit.intOf]; omega
                · have hkn : k = n := by omega
                  subst k
                  have q0 := hqb.cell 0 rfl
                  have q1 := hqb.cell 1 rfl
                  have q2 := hqb.cell 2 rfl
                  have hM4 : M ≤ wr.heap.size := hM ▸ hwx.size
                  have o4b := Owns.ext o4 ((Ext.refl wr).alloc (.cells #[.int .i64 u, .int .u8 ft, .bool fm] 39))
                  have hbl : out.length ≤ 100000000 := by omega
                  go_upto_region 23 with (refine wpList_append_item rfl (.tmp 87) (.tmp 89) rfl M _ _ rfl o4b wr.heap.size 1 ⟨u, ft, fm⟩ rfl (Blk.newAt wr [.int .i64 u, .int .u8 ft, .bool fm] _ _ rfl) hbl (Nat.le_trans hM4 (by rw [World.size_alloc]; omega)) ?_; intro v' W5 o4n g5 s5)
                  have hB5 : Blk W5 B [.slice (some ⟨b, o, none⟩) s.length cap] 22 := Grown.blk g5 (hBW.alloc _) (fun e => Owns.notBlk o4b (hBW.alloc _) (by decide) e.symm)
                  have o5n := Owns.kept (Owns.ext o5 ((Ext.refl wr).alloc _)) g5 (fun k h4 e => Owns.apart (Owns.ext o5 ((Ext.refl wr).alloc _)) o4b (by decide) k h4 e)
                  have hx5 := Grown.toExt (hwx.alloc _) g5 (fun k hk => by rw [hM]; exact (o4b.lt k hk).1)
                  clear o4 o5 o4b hBW hwx q0 q1 q2 hqb g5
                  have cBW := hB5.cell 0 rfl
                  have zBW := hB5.frozen 0
                  have hnsi : (n : Int) ≤ (s.length : Nat) := by omega
                  go_wp2_with fail
                  go_roundw
                  have hdl : (s.drop n).length = s.length - n := List.length_drop
                  have hrdA : RdI W1 (if cap = n then some ⟨b, o, none⟩ else some ⟨b, o + n * 3, none⟩) (s.drop n) := by
                    split
                    · exact .inl (List.drop_eq_nil_of_le (by omega))
                    · exact hrd.drop n
                  case rel =>
                    refine ⟨s.drop n, out ++ [⟨u, ft, fm⟩], bad, _, cap - n, W5.heap.size, rfl, hM ▸ hx5.size, by rw [hdl]; exact Blk.newAt _ _ _ _ (by rw [World.size_setCell]), by rw [hdl]; omega, by rw [hdl]; omega, by rw [hdl, List.length_append, List.length_singleton]; omega, hrdA, (hx5.setCell (by simp; omega) _).alloc _, ?_,
                      Owns.ext (Owns.set' o4n 0 _ (Owns.notBlk o4n hB5 (by decide))) ((Ext.refl _).alloc _), Owns.ext (Owns.set' o5n 0 _ (Owns.notBlk o5n hB5 (by decide))) ((Ext.refl _).alloc _)⟩
                    rw [hwl, HWG.out]
                    unfold glue
                    dsimp only
                    rw [HOK.out, HMS.out]
                    simp
                  case measure =>
                    rw [HLB.out, lenAt_blk (Blk.newAt _ [_] _ _ (by rw [World.size_setCell]))]
                    omega
end Go.Proofs.Ytgchfibcaecjcaa
