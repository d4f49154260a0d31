/- Several texts of this claim, joined. -/
import Derived.StillTail
import Derived.Deep.Quiet
import Derived.Deep.QuietTactic
import Derived.Below
import Derived.Laws.Rows
import Derived.Laws.Tables
import Derived.OwnWalk
import Derived.Laws.AppendOwn
import Derived.OrdersHeld
import Derived.Lib.Hide
import Derived.IntWalk
import Derived.Test.YtclgclcoblfddaaProg
import Derived.WalkKit
import Derived.Handy
import Derived.LoopN
import Derived.BigQuiet
import Derived.Deep.RegionWith
import Derived.StillTailTactics
import Derived.Deep.LoopGhost
import Derived.Deep.CutBlock
import Derived.WalkSpells
import Derived.Deep.DeepAppendRoom
import Derived.ArgAppend
import Derived.Laws.MakeOwn
import Derived.Maps.RangeRun
import Derived.Laws.IdiomRangeMap
import Derived.MapKept
import Derived.Laws.StructEq
import Derived.Maps.Own
import Derived.RangeFuncBox
import Derived.RangeFuncNested
import Derived.RangeFuncBound
import Derived.RangeFuncCalls
import Derived.RangeFuncLeaves
import Derived.Shelf.Abstract
import Derived.Shelf.RegionOpen
import Derived.OwnWalkIn
import Derived.TacticsInMore
import Derived.LoopNIn
import Derived.LoopIn
import Derived.Maps.AppendAt
import Derived.Maps.OwnIn
import Derived.Sort.MapsRangeIn
import Derived.Shelf.SlGeneric
import Derived.Shelf.SlSortCmp.NoneTotal
import Derived.Ground.SlsfProg
namespace Go.Proofs.Ytclgclcoblfddaa
open Go.RowKit
section
variable {P : Program} {ops : Array Oper} {md : Region.Mode} {C : World → Prop}
def Ext (w W : World) : Prop := Below w.heap.size w W
theorem Ext.refl (w : World) : Ext w w := Below.refl _ _
theorem Ext.trans {a b c : World} (h : Ext a b) (k : Ext b c) : Ext a c := Below.trans h (k.mono h.size)
theorem Ext.drew {a b : World} (h : Ext a b) : Ext a b.drew := ⟨h.os, h.tape, h.output, h.size, h.block⟩
theorem Ext.drewN {a b : World} (h : Ext a b) (n : Nat) : Ext a (b.drewN n) := ⟨h.os, h.tape, h.output, h.size, h.block⟩
theorem Ext.alloc {a b : World} (h : Ext a b) (o : Obj) : Ext a (b.alloc o) := Below.alloc h h.size o
theorem Ext.setCell {a b : World} (h : Ext a b) {p : Addr} (hp : a.heap.size ≤ p.block) (u : Value) : Ext a (b.setCell p u) := Below.setCell h hp u
theorem Ext.cell {w W : World} (h : Ext w W) {p : Addr} {v : Value} (hc : w.cell? p = some v) : W.cell? p = some v := (Below.cell h (World.block_lt_of_cell? w p hc)).trans hc
theorem Ext.heap {w W : World} (h : Ext w W) {b : Nat} {o : Obj} (hc : w.heap[b]? = some o) : W.heap[b]? = some o := (h.block b (Array.getElem?_eq_some_iff.1 hc).1).trans hc
def wpAnyL' (P : Program) (md : Region.Mode) (ops : Array Oper) (C : World → Prop) (n : Nat) (L : Array Bool → Act → Prop) : Nat → Array Bool → Act → Prop
 | 0, listed, a => L listed a
 | f + 1, listed, a =>
  Region.ready md ops listed ≠ [] ∧ ∀ i ∈ Region.ready md ops listed, i < n ∧ qOp P ops C i (wpAnyL' P md ops C n L f (listed.setIfInBounds i true)) a
theorem wpAny_of_head' {n g : Nat} {L : Array Bool → Act → Prop} {Q' : Exit → Act → World → Prop} (hL : ∀ listed a w, C w → L listed a → wpAny P md ops Q' g listed a w) :
  ∀ (f : Nat) (listed : Array Bool) (a : Act) (w : World), C w → wpAnyL' P md ops C n L f listed a → wpAny P md ops Q' (f + g) listed a w
 | 0, listed, a, w, hw, h => by rw [Nat.zero_add]; exact hL _ _ _ hw h
 | f + 1, listed, a, w, hw, h => by
  rw [show f + 1 + g = (f + g) + 1 by omega]
  exact ⟨fun h0 => absurd h0 h.1, fun i hi => wpOp_of_qOp hw (fun a' w' hw' h' => wpAny_of_head' hL f _ a' w' hw' h') (h.2 i hi).2⟩
theorem wpAnyL'_first {n i : Nat} {oi : Oper} {v : Value} {L : Array Bool → Act → Prop} (hi : ops[i]? = some oi) (hsel : ∀ (j : Nat) (o : Oper) cs b, ops[j]? = some o → o.op ≠ .select cs b)
  (hs : Region.sinkB md ops n = true) (hc : Region.chainB md ops n = true) (hn : n < ops.size) (hin : i < n)
  (hdone : ∀ listed a, L listed a → ∀ j ∈ Region.ready md ops listed, n ≤ j) :
  ∀ (f : Nat) (listed : Array Bool) (a : Act), HeadInv md ops n listed →
   (∀ j oj, ops[j]? = some oj → j ≠ i → listed.getD j true = false → (∀ e ∈ oj.after, Region.binds md e = true → e.on ≠ i) → oi.apart ops oj = true) →
   i ∈ Region.ready md ops listed → YieldsIn P ops C oi v a →
   wpAnyL' P md ops C n L f (listed.setIfInBounds i true) (a.put oi.dst v) → wpAnyL' P md ops C n L (f + 1) listed a := by
 intro f
 induction f with
 | zero =>
  intro listed a inv _ hr hy H
  have hun := (mem_ready.1 hr).1
  refine ⟨fun h => (by rw [h] at hr; cases hr), fun j hj => ?_⟩
  have hjn : j < n := by
   rcases Nat.lt_or_ge j n with h | h
   ·exact h
   ·exact absurd hj (tail_waits hs hc hn inv _ i rfl hin hun j h)
  refine ⟨hjn, ?_⟩
  by_cases hji : j = i
  ·subst hji; exact hy.qOp hi H
  ·have := hdone _ _ H j (ready_mono hj hji)
   omega
 | succ f ih =>
  intro listed a inv hfree hr hy H
  have hun := (mem_ready.1 hr).1
  refine ⟨fun h => (by rw [h] at hr; cases hr), fun j hj => ?_⟩
  have hjn : j < n := by
   rcases Nat.lt_or_ge j n with h | h
   ·exact h
   ·exact absurd hj (tail_waits hs hc hn inv _ i rfl hin hun j h)
  refine ⟨hjn, ?_⟩
  by_cases hji : j = i
  ·subst hji; exact hy.qOp hi H
  ·have h1 := (H.2 j (ready_mono hj hji)).2
   obtain ⟨hjun, oj, hoj, hall⟩ := mem_ready.1 hj
   have hnot : ∀ e ∈ oj.after, Region.binds md e = true → e.on ≠ i := fun e he hb heq => by
    have h1 := hall e he hb
    rw [heq, getD_both hun] at h1
    cases h1
   have h2 := qOp_put hoj (hfree j oj hoj hji hjun hnot) (fun cs b => hsel i oi cs b hi) (fun cs b => hsel j oj cs b hoj) hy h1
   have hfree' : ∀ k ok, ops[k]? = some ok → k ≠ i → (listed.setIfInBounds j true).getD k true = false →
     (∀ e ∈ ok.after, Region.binds md e = true → e.on ≠ i) → oi.apart ops ok = true := fun k ok hk hki hun hno => by
    refine hfree k ok hk hki ?_ hno
    by_cases hjk : j = k
    ·subst hjk; exact hjun
    ·rw [getD_set_ne true hjk] at hun; exact hun
   refine qOp_mono (fun a' h3 => ih (listed.setIfInBounds j true) a' (inv.set hj hjn) hfree' (ready_mono hr (Ne.symm hji)) h3.1 ?_) h2
   rw [Array.setIfInBounds_comm _ _ hji]
   exact h3.2
theorem wpAnyL'_lex {n g : Nat} {Lq : Act → Prop} (hsel : Region.noSelect ops = true) (hs : Region.sinkB md ops n = true) (hc : Region.chainB md ops n = true) (hn : n < ops.size) :
  ∀ (l : List Oper) (k : Nat) (listed : Array Bool) (a : Act), (∀ j, j < l.length → l[j]? = ops[k + j]?) → k + l.length = n → HeadInv md ops n listed →
  Region.lexHead md ops g l.length k listed = true → wpQuiet P ops C Lq l a →
  wpAnyL' P md ops C n (fun listed' a' => Region.seqB md ops g n listed' = true ∧ Lq a') l.length listed a
 | [], k, listed, a, _, hk, _, hB, h => by
  have : k = n := by simpa using hk
  subst this
  exact ⟨by simpa [Region.lexHead] using hB, h⟩
 | o :: l, k, listed, a, hl, hk, inv, hB, h => by
  have h0 : ops[k]? = some o := by simpa using (hl 0 (by simp)).symm
  simp only [List.length_cons, Region.lexHead, Bool.and_eq_true] at hB
  obtain ⟨⟨hr, hf⟩, hB'⟩ := hB
  have hkn : k < n := by simp only [List.length_cons] at hk; omega
  have hr' : k ∈ Region.ready md ops listed := by simpa using hr
  have hst : qOp P ops C k (wpQuiet P ops C Lq l) a := by unfold qOp; simp only [h0]; exact h
  obtain ⟨v, hy, hK⟩ := yieldsIn_of_qOp h0 hst
  exact wpAnyL'_first h0 (Region.noSelect_spec hsel) hs hc hn hkn (fun listed' a' hL => seqB_ready hL.1) l.length listed a inv (Region.free_spec h0 hf) hr' hy
   (wpAnyL'_lex hsel hs hc hn l (k + 1) _ _ (fun j hj => by have := hl (j + 1) (by simp; omega); simpa [Nat.add_assoc, Nat.add_comm 1 j] using this) (by simp only [List.length_cons] at hk; omega) (inv.set hr' hkn) hB' hK)
theorem wp_region_quiet_tail {id : Nat} {Q : Exit → Act → World → Prop} {a : Act} {w : World} {l : List Oper} (n : Nat) (hm : P.follows .mixedOrders = true) (hB : Region.lexTailB .any l.toArray n = true) (hC : C { w with drawn := w.drawn + 1 })
  (h : wpQuiet P l.toArray C (fun a' => ∀ w', C w' → wpList P l.toArray Q (l.drop n) a' w') (l.take n) a) : (Code.region id l.toArray true).wp P Q a w := by
 simp only [Region.lexTailB, Bool.and_eq_true, decide_eq_true_eq] at hB
 obtain ⟨⟨⟨⟨hsel, hn⟩, hs⟩, hc⟩, hlex⟩ := hB
 have hn' : n < l.length := by simpa using hn
 have htl : (l.take n).length = n := by simp; omega
 have hdl : (l.drop n).length = l.toArray.size - n := by simp
 have inv0 : HeadInv .any l.toArray n (Array.replicate l.toArray.size false) :=
  ⟨by simp, fun j oj _ hl => (by rw [getD_replicate_false] at hl; cases hl), fun t _ ht => getD_in (by simpa using ht) (getD_replicate_false _ _)⟩
 have h1 := wpAnyL'_lex (P := P) (C := C) (md := .any) (g := l.toArray.size - n) hsel hs hc hn (l.take n) 0 (Array.replicate l.toArray.size false) a
  (fun j hj => by rw [htl] at hj; simp [hj]) (by rw [htl]; omega) inv0 (by rw [htl]; exact hlex) h
 rw [htl] at h1
 refine wp_region_any hm ?_
 have hsz : l.toArray.size = n + (l.toArray.size - n) := by have := hn'; simp; omega
 have h2 := wpAny_of_head' (P := P) (md := .any) (C := C) (n := n) (g := l.toArray.size - n) (Q' := Q) (L := fun listed' a' => Region.seqB .any l.toArray (l.toArray.size - n) n listed' = true ∧ ∀ w', C w' → wpList P l.toArray Q (l.drop n) a' w')
  (fun listed a' w' hw' hL => by
   have := wpAny_of_seq (P := P) (md := .any) (ops := l.toArray) (Q' := Q) (l.drop n) n listed a' w' (fun j => by simp) (by rw [hdl]; exact hL.1) (hL.2 w' hw')
   rw [hdl] at this
   exact this) n (Array.replicate l.toArray.size false) a _ hC h1
 rw [← hsz] at h2
 exact h2
theorem wp_region_drew_tail {id : Nat} {Q : Exit → Act → World → Prop} {a : Act} {w : World} {l : List Oper} (n : Nat) (hm : P.follows .mixedOrders = true) (hB : Region.lexTailB .any l.toArray n = true)
  (h : wpQuiet P l.toArray (fun w' => ∃ n, w' = w.drewN n) (fun a' => ∀ w', (∃ n, w' = w.drewN n) → wpList P l.toArray Q (l.drop n) a' w') (l.take n) a) : (Code.region id l.toArray true).wp P Q a w :=
 wp_region_quiet_tail (C := fun w' => ∃ n, w' = w.drewN n) n hm hB ⟨1, rfl⟩ h
def Blk (W : World) (g : Nat) (cs : List Value) (T : TypeId) : Prop := W.heap[g]? = some (.cells cs.toArray T (0, 0))
theorem Blk.cell {W : World} {g : Nat} {cs : List Value} {T : TypeId} (h : Blk W g cs T) (i : Nat) {v : Value} (hi : cs[i]? = some v) : W.cell? ⟨g, i, none⟩ = some v := by
 unfold Blk at h
 simp [World.cell?, h, hi]
theorem Blk.set {W : World} {g : Nat} {cs : List Value} {T : TypeId} (h : Blk W g cs T) (i : Nat) (v : Value) : Blk (W.setCell ⟨g, i, none⟩ v) g (cs.set i v) T := by
 unfold Blk at *
 simp [World.setCell, Array.getElem?_modify, h]
theorem Blk.other {W : World} {g : Nat} {cs : List Value} {T : TypeId} (h : Blk W g cs T) {a : Addr} (ha : g ≠ a.block) (v : Value) : Blk (W.setCell a v) g cs T := by
 unfold Blk at *
 rw [Below.heap_setCell _ _ _ _ ha]
 exact h
theorem Blk.drew {W : World} {g : Nat} {cs : List Value} {T : TypeId} (h : Blk W g cs T) : Blk W.drew g cs T := h
theorem Blk.drewN {W : World} {g : Nat} {cs : List Value} {T : TypeId} (h : Blk W g cs T) (n : Nat) : Blk (W.drewN n) g cs T := h
theorem Blk.lt {W : World} {g : Nat} {cs : List Value} {T : TypeId} (h : Blk W g cs T) : g < W.heap.size := (Array.getElem?_eq_some_iff.1 h).1
theorem Blk.alloc {W : World} {g : Nat} {cs : List Value} {T : TypeId} (h : Blk W g cs T) (o : Obj) : Blk (W.alloc o) g cs T := by
 unfold Blk at *
 rw [Below.heap_alloc _ _ _ (Array.getElem?_eq_some_iff.1 h).1]
 exact h
theorem Blk.ext {W W' : World} {g : Nat} {cs : List Value} {T : TypeId} (h : Blk W g cs T) (hx : Ext W W') : Blk W' g cs T := hx.heap h
theorem Blk.congr {W : World} {g : Nat} {cs cs' : List Value} {T : TypeId} (h : Blk W g cs T) (e : cs = cs') : Blk W g cs' T := e ▸ h
theorem Blk.new (W : World) (cs : List Value) (T : TypeId) : Blk (W.alloc (.cells cs.toArray T)) W.heap.size cs T := by
 unfold Blk World.alloc
 simp
structure But (g : Nat) (w w' : World) : Prop where
 os : w'.os = w.os
 tape : w'.tape = w.tape
 output : w'.output = w.output
 size : w.heap.size ≤ w'.heap.size
 block : ∀ k, k < w.heap.size → k ≠ g → w'.heap[k]? = w.heap[k]?
theorem But.refl (g : Nat) (w : World) : But g w w := ⟨rfl, rfl, rfl, Nat.le_refl _, fun _ _ _ => rfl⟩
theorem But.trans {g : Nat} {a b c : World} (h : But g a b) (k : But g b c) : But g a c :=
 ⟨k.os.trans h.os, k.tape.trans h.tape, k.output.trans h.output, Nat.le_trans h.size k.size, fun i hi hg => (k.block i (Nat.lt_of_lt_of_le hi h.size) hg).trans (h.block i hi hg)⟩
theorem But.drew {g : Nat} {a b : World} (h : But g a b) : But g a b.drew := ⟨h.os, h.tape, h.output, h.size, h.block⟩
theorem But.drewN {g : Nat} {a b : World} (h : But g a b) (n : Nat) : But g a (b.drewN n) := ⟨h.os, h.tape, h.output, h.size, h.block⟩
theorem But.set {g : Nat} {a b : World} (h : But g a b) (i : Nat) (v : Value) : But g a (b.setCell ⟨g, i, none⟩ v) :=
 ⟨h.os, h.tape, h.output, by simp [World.setCell]; exact h.size, fun k hk hg => (Below.heap_setCell _ _ _ _ hg).trans (h.block k hk hg)⟩
theorem But.alloc {g : Nat} {a b : World} (h : But g a b) (o : Obj) : But g a (b.alloc o) :=
 ⟨h.os, h.tape, h.output, by have := h.size; simp; omega, fun k hk hg => (Below.heap_alloc _ _ _ (Nat.lt_of_lt_of_le hk h.size)).trans (h.block k hk hg)⟩
theorem But.ext {g : Nat} {a b c : World} (h : But g a b) (k : Ext b c) : But g a c :=
 ⟨k.os.trans h.os, k.tape.trans h.tape, k.output.trans h.output, Nat.le_trans h.size k.size, fun i hi hg => (k.block i (Nat.lt_of_lt_of_le hi h.size)).trans (h.block i hi hg)⟩
theorem But.toExt {g : Nat} {a b c : World} (h : Ext a b) (k : But g b c) (hg : a.heap.size ≤ g) : Ext a c :=
 ⟨k.os.trans h.os, k.tape.trans h.tape, k.output.trans h.output, Nat.le_trans h.size k.size, fun i hi => (k.block i (Nat.lt_of_lt_of_le hi h.size) (by omega)).trans (h.block i hi)⟩
theorem But.blk {g g' : Nat} {a b : World} (h : But g a b) {cs : List Value} {T : TypeId} (hb : Blk a g' cs T) (hne : g' ≠ g) : Blk b g' cs T := (h.block g' hb.lt hne).trans hb
theorem Zep {c : Code} {Q : Exit → Act → World → Prop} {a : Act} {w : World} (R : World → Prop) (hR : R w) (h : ∀ w', R w' → Code.wp P c Q a w') : Code.wp P c Q a w := h w hR
end
end Go.Proofs.Ytclgclcoblfddaa
namespace Go.Proofs.Ytclgclcoblfddaa
open Go.RowKit
set_option linter.unusedVariables false
section
variable {P : Program}
def isRowT (P : Program) (T : TypeId) (n : Nat) : Prop := (match P.underlying T with | some (.struct _) => true | some (.array _ _) => true | _ => false) = true ∧ (P.info? T).map (·.size) = some n
theorem isRowT.parts {T : TypeId} {n : Nat} (h : isRowT P T n) : (∃ fs, P.underlying T = some (.struct fs)) ∨ ∃ n e, P.underlying T = some (.array n e) := by
 obtain ⟨h1, _⟩ := h
 cases hq : P.underlying T with
 | none => simp [hq] at h1
 | some d =>
  rw [hq] at h1
  cases d <;> simp_all
theorem Zcv {w : World} {ops : Array Oper} {rest : List Oper} {o : Oper} {a : Act} {Q : Exit → Act → World → Prop} (hw : Region.wanted o (yielded ops a.tmps) = true) (T : TypeId) (x : Operand) (ho : o.op = .load T x)
  (g : Nat) (hx : a.eval x = .pointer (some ⟨g, 0, none⟩)) {cs : List Value} {T' : TypeId} (hT : isRowT P T cs.length) (hb : Blk w g cs T')
  (h : wpList P ops Q rest (a.put o.dst (.agg cs.toArray)) w) : wpList P ops Q (o :: rest) a w := by
 unfold wpList
 rw [if_pos hw]
 refine .inl ?_
 rcases hT.parts with ⟨fs, hu⟩ | ⟨n, e, hu⟩
 ·exact wp_load_row T x ho g hx T' cs.toArray (0, 0) _ hb hu rfl (by simpa using hT.2) h
 ·exact wp_load_row T x ho g hx T' cs.toArray (0, 0) _ hb hu rfl (by simpa using hT.2) h
end
end Go.Proofs.Ytclgclcoblfddaa
namespace Go.Proofs.Ytclgclcoblfddaa
open Go.RowKit
set_option linter.unusedVariables false
theorem Grown.toExt {w0 w w' : World} {row : Option Nat} (h : Ext w0 w) (hg : w.grownBy w' row) (hrow : ∀ k, row = some k → w0.heap.size ≤ k) : Ext w0 w' :=
 ⟨hg.os.trans h.os, hg.tape.trans h.tape, hg.output.trans h.output, Nat.le_trans h.size hg.size, fun i hi => (hg.block i (Nat.lt_of_lt_of_le hi h.size) (fun e => by have := hrow i e.symm; omega)).trans (h.block i hi)⟩
theorem Grown.blk {w w' : World} {row : Option Nat} (hg : w.grownBy w' row) {g : Nat} {cs : List Value} {T : TypeId} (hb : Blk w g cs T) (hne : some g ≠ row) : Blk w' g cs T := (hg.block g hb.lt hne).trans hb
theorem Grown.heap {w w' : World} {row : Option Nat} (hg : w.grownBy w' row) {g : Nat} {o : Obj} (hb : w.heap[g]? = some o) (hne : some g ≠ row) : w'.heap[g]? = some o := (hg.block g (Array.getElem?_eq_some_iff.1 hb).1 hne).trans hb
theorem Ext.grown {w w' : World} (h : Ext w w') : w.grownBy w' none := ⟨h.os, h.tape, h.output, h.size, fun k hk _ => h.block k hk⟩
theorem Owns.ext {w w' : World} {base : Nat} {e : TypeId} {size : Nat} {v : Value} {n : Nat} {xs : List Value} (h : w.ownsRow base e size v n xs) (hx : Ext w w') : w'.ownsRow base e size v n xs :=
 h.kept (Ext.grown hx) (by cases hv : v.ownBlock <;> simp)
theorem But.grown {w w' : World} {g : Nat} (h : But g w w') : w.grownBy w' (some g) := ⟨h.os, h.tape, h.output, h.size, fun k hk hne => h.block k hk (by intro e; exact hne (by rw [e]))⟩
theorem Owns.but {w w' : World} {base : Nat} {e : TypeId} {size : Nat} {v : Value} {n : Nat} {xs : List Value} {g : Nat} (h : w.ownsRow base e size v n xs) (hx : But g w w') (hg : g < base) : w'.ownsRow base e size v n xs :=
 h.kept (But.grown hx) (by
  cases hv : v.ownBlock with
  | none => exact .inl rfl
  | some k =>
   refine .inr (fun e => ?_)
   cases e
   have := (h.lt _ hv).1
   omega)
theorem Owns.set {w : World} {base : Nat} {e : TypeId} {size : Nat} {v : Value} {n : Nat} {xs : List Value} {g : Nat} (h : w.ownsRow base e size v n xs) (i : Nat) (u : Value) (hg : g < base) : (w.setCell ⟨g, i, none⟩ u).ownsRow base e size v n xs :=
 Owns.but h ((But.refl g w).set i u) hg
theorem Owns.shape {w : World} {base : Nat} {e : TypeId} {v : Value} {n : Nat} {xs : List Value} (h : w.ownsRow base e 1 v n xs) : ∃ A cap, v = .slice A n cap ∧ n ≤ cap ∧ xs.length = n ∧ (xs = [] ∧ A = none ∨ ∃ g, A = some ⟨g, 0, none⟩ ∧ base ≤ g ∧ ∀ j u, xs[j]? = some u → w.cell? ⟨g, j, none⟩ = some u) := by
 obtain ⟨hl, h⟩ := h
 rw [Nat.mul_one] at hl
 rcases h with ⟨rfl, rfl⟩ | ⟨g, cap, cur, rfl, hb, hg, hn, _, hs, ht⟩
 ·exact ⟨none, 0, rfl, Nat.le_refl _, hl, .inl ⟨List.eq_nil_of_length_eq_zero hl, rfl⟩⟩
 ·refine ⟨_, cap, rfl, hn, hl, .inr ⟨g, rfl, hb, fun j u hu => ?_⟩⟩
  rw [cell_of_row w g j cur e (0, 0) hg]
  rw [← ht, List.getElem?_take] at hu
  split at hu
  ·simpa using hu
  ·cases hu
theorem Owns.blk {w : World} {base : Nat} {e : TypeId} {v : Value} {n : Nat} {xs : List Value} (h : w.ownsRow base e 1 v n xs) (hn : 0 < n) : ∃ g cap rest, v = .slice (some ⟨g, 0, none⟩) n cap ∧ base ≤ g ∧ n ≤ cap ∧ xs.length = n ∧ Blk w g (xs ++ rest) e := by
 obtain ⟨hl, h⟩ := h
 rw [Nat.mul_one] at hl
 rcases h with ⟨rfl, rfl⟩ | ⟨g, cap, cur, rfl, hb, hg, hn', _, hs, ht⟩
 ·omega
 ·refine ⟨g, cap, cur.toList.drop n, rfl, hb, hn', hl, ?_⟩
  rw [Nat.mul_one] at ht
  rw [← ht, List.take_append_drop]
  exact hg
theorem Blk.newAt (W : World) (cs : List Value) (T : TypeId) (n : Nat) (h : n = W.heap.size) : Blk (W.alloc (.cells cs.toArray T)) n cs T := h ▸ Blk.new W cs T
end Go.Proofs.Ytclgclcoblfddaa
namespace Go.Proofs.Ytclgclcoblfddaa
open Go.RowKit
set_option linter.unusedVariables false
section
variable {P : Program} {ops : Array Oper} {md : Region.Mode} {S : World → Prop} {Q : Exit → Act → World → Prop}
def QF (Q : Exit → Act → World → Prop) : Exit → Act → World → Prop
 | .panic _, _, _ => False
 | e, a, w => Q e a w
def Q0 (Q : Exit → Act → World → Prop) : Exit → Act → World → Prop := Exit.then (fun a w => Q .normal a w) (QF Q)
theorem Q0_le (e : Exit) (a : Act) (w : World) (h : Q0 Q e a w) : Q e a w := by
 cases e <;> first | exact h | exact h.elim
def wpAnyT (P : Program) (md : Region.Mode) (ops : Array Oper) (Q : Exit → Act → World → Prop) (S : World → Prop) (n : Nat) : Nat → Array Bool → Act → World → Prop
 | 0, listed, a, w => Region.ready md ops listed = [] ∧ Q .normal a w
 | fuel + 1, listed, a, w =>
  (Region.ready md ops listed = [] → Q .normal a w) ∧
  ∀ i ∈ Region.ready md ops listed, wpOp P ops Q i (fun a' w' => (i < n → S w') ∧ wpAnyT P md ops Q S n fuel (listed.setIfInBounds i true) a' w') a w
theorem wpAny_of_T {n : Nat} : ∀ (fuel : Nat) (listed : Array Bool) (a : Act) (w : World), wpAnyT P md ops Q S n fuel listed a w → wpAny P md ops Q fuel listed a w
 | 0, _, _, _, h => h
 | fuel + 1, _, _, _, h => ⟨h.1, fun i hi => wpOp_mono (fun a' w' h' => wpAny_of_T fuel _ a' w' h'.2) (h.2 i hi)⟩
theorem wpAnyT_first {n i : Nat} {oi : Oper} {v : Value} (hi : ops[i]? = some oi) (hsel : ∀ (j : Nat) (o : Oper) cs b, ops[j]? = some o → o.op ≠ .select cs b)
  (hQ : ∀ c a w, Q (.panic c) (a.put oi.dst v) w → Q (.panic c) a w)
  (hwt : ∀ listed, HeadInv md ops n listed → ∀ i, i < n → listed.getD i true = false → ∀ j ∈ Region.ready md ops listed, j < n) (hin : i < n) :
  ∀ (fuel : Nat) (listed : Array Bool) (a : Act) (w : World), HeadInv md ops n listed →
   (∀ j oj, ops[j]? = some oj → j ≠ i → listed.getD j true = false → (∀ e ∈ oj.after, Region.binds md e = true → e.on ≠ i) → oi.apart ops oj = true) →
   i ∈ Region.ready md ops listed → YieldsIf P ops S oi v a → S w →
   wpAnyT P md ops Q S n fuel (listed.setIfInBounds i true) (a.put oi.dst v) w → wpAnyT P md ops Q S n (fuel + 1) listed a w := by
 intro fuel
 induction fuel with
 | zero =>
  intro listed a w inv _ hr hy hS H
  refine ⟨fun h => (by rw [h] at hr; cases hr), fun j hj => ?_⟩
  by_cases hji : j = i
  ·subst hji; exact hy.wpOp hi hS ⟨fun _ => hS, H⟩
  ·have := ready_mono hj hji
   rw [H.1] at this
   cases this
 | succ fuel ih =>
  intro listed a w inv hfree hr hy hS H
  have hun := (mem_ready.1 hr).1
  refine ⟨fun h => (by rw [h] at hr; cases hr), fun j hj => ?_⟩
  have hjn : j < n := hwt listed inv i hin hun j hj
  by_cases hji : j = i
  ·subst hji; exact hy.wpOp hi hS ⟨fun _ => hS, H⟩
  ·have h1 := H.2 j (ready_mono hj hji)
   obtain ⟨hjun, oj, hoj, hall⟩ := mem_ready.1 hj
   have hnot : ∀ e ∈ oj.after, Region.binds md e = true → e.on ≠ i := fun e he hb heq => by
    have h1 := hall e he hb
    rw [heq, getD_both hun] at h1
    cases h1
   have h2 := wpOp_putIf hoj (hfree j oj hoj hji hjun hnot) (fun cs b => hsel i oi cs b hi) (fun cs b => hsel j oj cs b hoj) hQ hy h1
   have hfree' : ∀ k ok, ops[k]? = some ok → k ≠ i → (listed.setIfInBounds j true).getD k true = false →
     (∀ e ∈ ok.after, Region.binds md e = true → e.on ≠ i) → oi.apart ops ok = true := fun k ok hk hki hun hno => by
    refine hfree k ok hk hki ?_ hno
    by_cases hjk : j = k
    ·subst hjk; exact hjun
    ·rw [getD_set_ne true hjk] at hun; exact hun
   refine wpOp_mono (fun a' w' h3 => ?_) h2
   obtain ⟨h3, h4, h5⟩ := h3
   have hS' := h4 hjn
   refine ⟨fun _ => hS', ih (listed.setIfInBounds j true) a' w' (inv.set hj hjn) hfree' (ready_mono hr (Ne.symm hji)) h3 hS' ?_⟩
   rw [Array.setIfInBounds_comm _ _ hji]
   exact h5
def mixB (md : Region.Mode) (ops : Array Oper) (n : Nat) : List (Nat × Bool) → Array Bool → Bool
 | [], listed => (Region.ready md ops listed).isEmpty
 | (i, true) :: r, listed => (Region.ready md ops listed).contains i && Region.free md ops listed i && decide (i < n) && mixB md ops n r (listed.setIfInBounds i true)
 | (i, false) :: r, listed => decide (Region.ready md ops listed = [i]) && (decide (i < n) || r.all fun s => !s.2) && mixB md ops n r (listed.setIfInBounds i true)
def mixTopB (ops : Array Oper) (n : Nat) (st : List (Nat × Bool)) : Bool :=
 Region.noSelect ops && decide (n < ops.size) && Region.sinkB .any ops n && Region.chainB .any ops n && decide (st.length = ops.size) && mixB .any ops n st (Array.replicate ops.size false)
def wpMix (P : Program) (ops : Array Oper) (Q : Exit → Act → World → Prop) (S : World → Prop) (n : Nat) : List (Nat × Bool) → Act → World → Prop
 | [], a, w => Q .normal a w
 | (i, true) :: r, a, w => ∃ o v, ops[i]? = some o ∧ YieldsIf P ops S o v a ∧ wpMix P ops Q S n r (a.put o.dst v) w
 | (i, false) :: r, a, w => wpOp P ops Q i (fun a' w' => (i < n → S w') ∧ wpMix P ops Q S n r a' w') a w
theorem wpAnyT_false {n : Nat} : ∀ (st : List (Nat × Bool)) (listed : Array Bool) (a : Act) (w : World), (st.all fun s => !s.2) = true → mixB md ops n st listed = true → wpMix P ops Q S n st a w → wpAnyT P md ops Q S n st.length listed a w
 | [], listed, a, w, _, hB, h => ⟨by simpa [mixB] using hB, h⟩
 | (i, true) :: r, listed, a, w, hf, _, _ => by simp at hf
 | (i, false) :: r, listed, a, w, hf, hB, h => by
  simp only [mixB, Bool.and_eq_true, decide_eq_true_eq] at hB
  refine ⟨fun h0 => by rw [h0] at hB; exact absurd hB.1.1 (by simp), fun j hj => ?_⟩
  rw [hB.1.1] at hj
  have : j = i := by simpa using hj
  subst this
  exact wpOp_mono (fun a' w' h' => ⟨h'.1, wpAnyT_false r _ a' w' (by simpa using hf) hB.2 h'.2⟩) h
theorem wpAnyT_mix {n : Nat} (hsel : Region.noSelect ops = true) (hQ : ∀ c a d v w, Q (.panic c) (a.put d v) w → Q (.panic c) a w)
  (hwt : ∀ listed, HeadInv md ops n listed → ∀ i, i < n → listed.getD i true = false → ∀ j ∈ Region.ready md ops listed, j < n) :
  ∀ (st : List (Nat × Bool)) (listed : Array Bool) (a : Act) (w : World), HeadInv md ops n listed → S w → mixB md ops n st listed = true → wpMix P ops Q S n st a w → wpAnyT P md ops Q S n st.length listed a w
 | [], listed, a, w, _, _, hB, h => ⟨by simpa [mixB] using hB, h⟩
 | (i, true) :: r, listed, a, w, inv, hS, hB, h => by
  simp only [mixB, Bool.and_eq_true, decide_eq_true_eq] at hB
  obtain ⟨⟨⟨hr, hf⟩, hin⟩, hB'⟩ := hB
  obtain ⟨o, v, ho, hy, hk⟩ := h
  have hr' : i ∈ Region.ready md ops listed := by simpa using hr
  exact wpAnyT_first ho (Region.noSelect_spec hsel) (fun c a w => hQ c a o.dst v w) hwt hin r.length listed a w inv (Region.free_spec ho hf) hr' hy hS
   (wpAnyT_mix hsel hQ hwt r _ _ _ (inv.set hr' hin) hS hB' hk)
 | (i, false) :: r, listed, a, w, inv, hS, hB, h => by
  have hB0 := hB
  simp only [mixB, Bool.and_eq_true, decide_eq_true_eq] at hB
  refine ⟨fun h0 => by rw [h0] at hB; exact absurd hB.1.1 (by simp), fun j hj => ?_⟩
  have hj' := hj
  rw [hB.1.1] at hj
  have : j = i := by simpa using hj
  subst this
  refine wpOp_mono (fun a' w' h' => ⟨h'.1, ?_⟩) h
  by_cases hin : j < n
  ·exact wpAnyT_mix hsel hQ hwt r _ a' w' (inv.set hj' hin) (h'.1 hin) hB.2 h'.2
  ·have hall : (r.all fun s => !s.2) = true := by
    have := hB.1.2
    simpa [hin] using this
   exact wpAnyT_false r _ a' w' hall hB.2 h'.2
theorem Zds {id : Nat} {a : Act} {w : World} {l : List Oper} (S : World → Prop) (n : Nat) (st : List (Nat × Bool)) (hm : P.follows .mixedOrders = true) (hB : mixTopB l.toArray n st = true) (hS : S { w with drawn := w.drawn + 1 })
  (h : wpMix P l.toArray (Q0 Q) S n st a { w with drawn := w.drawn + 1 }) : (Code.region id l.toArray true).wp P Q a w := by
 simp only [mixTopB, Bool.and_eq_true, decide_eq_true_eq] at hB
 obtain ⟨⟨⟨⟨⟨hsel, hn⟩, hs⟩, hc⟩, hlen⟩, hB⟩ := hB
 refine Code.wp_mono Q0_le (wp_region_any hm ?_)
 have inv0 : HeadInv .any l.toArray n (Array.replicate l.toArray.size false) :=
  ⟨by simp, fun j oj _ hl => (by rw [getD_replicate_false] at hl; cases hl), fun t _ ht => getD_in (by simpa using ht) (getD_replicate_false _ _)⟩
 have h1 := wpAnyT_mix (P := P) (md := .any) (Q := Q0 Q) (S := S) hsel (fun c a d v w h => h) (fun listed inv i hin hun j hj => by
  rcases Nat.lt_or_ge j n with h | h
  ·exact h
  ·exact absurd hj (tail_waits hs hc hn inv _ i rfl hin hun j h)) st (Array.replicate l.toArray.size false) a _ inv0 hS hB h
 rw [hlen] at h1
 exact wpAny_of_T _ _ _ _ h1
theorem mix_read {l : List Oper} {n i : Nat} {r : List (Nat × Bool)} {a : Act} {w : World} {o : Oper} (x : Value) (a' : Act) (ho : l[i]? = some o) (hw : Region.wanted o (yielded l.toArray a.tmps) = true) (h1 : ∀ W, S W → (execOp a.eval o).run P W = .ok (.value x) W)
  (hp : a.put o.dst x = a') (h : wpMix P l.toArray Q S n r a' w) : wpMix P l.toArray Q S n ((i, true) :: r) a w := ⟨o, x, by simpa using ho, .inl ⟨hw, h1⟩, hp ▸ h⟩
theorem mix_skip {l : List Oper} {n i : Nat} {r : List (Nat × Bool)} {a : Act} {w : World} {o : Oper} (a' : Act) (ho : l[i]? = some o) (hw : Region.wanted o (yielded l.toArray a.tmps) = false)
  (hp : a.put o.dst undef = a') (h : wpMix P l.toArray Q S n r a' w) : wpMix P l.toArray Q S n ((i, true) :: r) a w := ⟨o, undef, by simpa using ho, .inr ⟨hw, rfl⟩, hp ▸ h⟩
theorem wpList_cons_wpOp {i : Nat} {o : Oper} {rest : List Oper} {a : Act} {w : World} (ho : ops[i]? = some o) (h : wpList P ops Q (o :: rest) a w) : wpOp P ops Q i (wpList P ops Q rest) a w := by
 unfold wpOp
 rw [ho]
 exact h
theorem mix_tail {n : Nat} : ∀ (st : List (Nat × Bool)) (l : List Oper) (a : Act) (w : World), (st.all fun s => !s.2 && decide (n ≤ s.1)) = true → (st.map fun s => ops[s.1]?) = l.map some → wpList P ops Q l a w → wpMix P ops Q S n st a w
 | [], l, a, w, _, hl, h => by
  cases l with
  | nil => exact h
  | cons o l => simp at hl
 | (i, true) :: r, l, a, w, hf, _, _ => by simp at hf
 | (i, false) :: r, l, a, w, hf, hl, h => by
  cases l with
  | nil => simp at hl
  | cons o l =>
   simp only [List.map_cons, List.cons.injEq] at hl
   simp only [List.all_cons, Bool.and_eq_true, decide_eq_true_eq, Bool.not_eq_true'] at hf
   exact wpOp_mono (fun a' w' h' => ⟨fun hi => absurd hi (by omega), mix_tail r l a' w' hf.2 hl.2 h'⟩) (wpList_cons_wpOp hl.1 h)
theorem mix_end {n : Nat} {l : List Oper} {st : List (Nat × Bool)} {a : Act} {w : World} (k : Nat) (hst : decide (st = (List.range' k (l.length - k)).map fun i => (i, false)) = true) (hk : decide (n ≤ k) = true) (h : wpList P l.toArray Q (l.drop k) a w) : wpMix P l.toArray Q S n st a w := by
 have hst := of_decide_eq_true hst
 have hk := of_decide_eq_true hk
 subst hst
 refine mix_tail _ (l.drop k) a w ?_ ?_ h
 ·simp [List.all_map, List.all_eq_true]
  intro x hx _
  omega
 ·rw [List.map_map]
  refine List.ext_getElem? fun j => ?_
  simp only [List.getElem?_map, List.getElem?_drop]
  by_cases hj : j < l.length - k
  ·rw [List.getElem?_eq_getElem (show j < (List.range' k (l.length - k)).length by simpa using hj), List.getElem_range', List.getElem?_eq_getElem (show k + j < l.length by omega)]
   simp
  ·rw [List.getElem?_eq_none (show (List.range' k (l.length - k)).length ≤ j by simpa using hj), List.getElem?_eq_none (show l.length ≤ k + j by omega)]
   rfl
end
end Go.Proofs.Ytclgclcoblfddaa
namespace Go.Proofs.Ytclgclcoblfddaa
open Go.RowKit
set_option linter.unusedVariables false
set_option linter.unusedSimpArgs false
def ints (l : List Int) : List Value := l.map (Value.int .i64)
theorem ints_get (l : List Int) (i : Nat) : (ints l)[i]? = l[i]?.map (Value.int .i64) := by simp [ints]
def RdV (W : World) (A : Option Addr) (vs : List Value) : Prop := vs = [] ∨ ∃ b o, A = some ⟨b, o, none⟩ ∧ ∀ j v, vs[j]? = some v → W.cell? ⟨b, o + j, none⟩ = some v
theorem RdV.ext {W W' : World} {A : Option Addr} {vs : List Value} (h : RdV W A vs) (hx : Ext W W') : RdV W' A vs := by
 rcases h with h | ⟨b, o, rfl, h⟩
 ·exact .inl h
 ·exact .inr ⟨b, o, rfl, fun j v hv => hx.cell (h j v hv)⟩
theorem RdV.but {g : Nat} {W W' : World} {A : Option Addr} {vs : List Value} (h : RdV W A vs) (hx : But g W W') (hA : ∀ a, A = some a → a.block ≠ g) : RdV W' A vs := by
 rcases h with h | ⟨b, o, rfl, h⟩
 ·exact .inl h
 ·exact .inr ⟨b, o, rfl, fun j v hv => by
   have h1 := h j v hv
   have hlt := World.block_lt_of_cell? W _ h1
   have := hx.block b hlt (hA _ rfl)
   unfold World.cell? at h1 ⊢
   simp only at h1 ⊢
   rw [this]
   exact h1⟩
theorem RdV.at {W : World} {A : Option Addr} {vs : List Value} (h : RdV W A vs) {i : Nat} (hi : i < vs.length) : ∃ b o, A = some ⟨b, o, none⟩ ∧ ∀ j v, vs[j]? = some v → W.cell? ⟨b, o + j, none⟩ = some v := by
 rcases h with h | h
 ·rw [h] at hi; simp at hi
 ·exact h
structure Row where
 A : Option Addr
 cap : Nat
 xs : List Int
def Row.val (r : Row) : Value := .slice r.A r.xs.length r.cap
def RdR (W : World) (A : Option Addr) (rs : List Row) : Prop :=
 RdV W A (rs.map Row.val) ∧ ∀ r ∈ rs, RdV W r.A (ints r.xs)
theorem RdR.ext {W W' : World} {A : Option Addr} {rs : List Row} (h : RdR W A rs) (hx : Ext W W') : RdR W' A rs := ⟨h.1.ext hx, fun r hr => (h.2 r hr).ext hx⟩
theorem RdR.at {W : World} {A : Option Addr} {rs : List Row} (h : RdR W A rs) {i : Nat} (hi : i < rs.length) :
  ∃ b o B cap xs, A = some ⟨b, o, none⟩ ∧ rs[i]? = some ⟨B, cap, xs⟩ ∧ W.cell? ⟨b, o + i, none⟩ = some (.slice B xs.length cap) ∧ RdV W B (ints xs) := by
 obtain ⟨b, o, hA, hc⟩ := h.1.at (i := i) (by simpa using hi)
 have he : rs[i]? = some rs[i] := List.getElem?_eq_getElem hi
 generalize hr : rs[i] = r at he
 obtain ⟨B, cap, xs⟩ := r
 refine ⟨b, o, B, cap, xs, hA, he, hc i _ (by rw [List.getElem?_map, he]; rfl), ?_⟩
 exact h.2 ⟨B, cap, xs⟩ (List.mem_of_getElem? he)
def rows (rs : List Row) : List (List Int) := rs.map Row.xs
theorem rows_length (rs : List Row) : (rows rs).length = rs.length := by simp [rows]
theorem rows_get (rs : List Row) (i : Nat) : (rows rs)[i]? = rs[i]?.map Row.xs := by simp [rows]
end Go.Proofs.Ytclgclcoblfddaa
namespace Go.Proofs.Ytclgclcoblfddaa
open Go.RowKit
set_option linter.unusedVariables false
set_option linter.unusedSimpArgs false
section
variable {P : Program}
theorem wpList_append_row {w : World} {ops : Array Oper} {rest : List Oper} {o : Oper} {a : Act} {Q : Exit → Act → World → Prop} (hgd : o.guard = none) (s x : Operand) (t : TypeId)
  (ho : o.op = .call { callee := .builtin .append, args := #[s, x], argTypes := #[t, t] })
  (base : Nat) (e : TypeId) (i : TypeInfo) (z : Value) (size bytes : Nat) (ht : P.underlying t = some (.slice e)) (hi : P.info? e = some i) (hz : i.zero = some z)
  (hsize : i.size = size) (hby : i.bytes = bytes) (hzs : z.cells.size = size) (hsz : 0 < size)
  (v : Value) (n : Nat) (xs : List Value) (hs : a.eval s = v) (hown : w.ownsRow base e size v n xs)
  (ad : Addr) (m c : Nat) (news : List Value) (hx : a.eval x = .slice (some ad) m c) (hl : news.length = m * size) (hnews : ∀ j u, news[j]? = some u → w.cell? (ad.add j) = some u) (h1 : ∀ u ∈ news, u.oneCell' = true)
  (hm : 0 < m) (h63 : n + m ≤ maxLen) (hbytes : (n + m) * bytes ≤ 140737488355328) (hbase : base ≤ w.heap.size)
  (h : ∀ v' w', w'.ownsRow base e size v' (n + m) (xs ++ news) → w.grownBy w' v.ownBlock → (∀ k, v'.ownBlock = some k → v.ownBlock = some k ∨ w.heap.size ≤ k) → wpList P ops Q rest (a.put o.dst v') w') : wpList P ops Q (o :: rest) a w := by
 have hown' := hown
 obtain ⟨hxl, hv⟩ := hown
 rcases hv with ⟨rfl, rfl⟩ | ⟨g, cap, cur, rfl, hb, hg, hn, hcap, hcs, htk⟩
 ·have hx0 : xs = [] := List.eq_nil_of_length_eq_zero (by simpa using hxl)
  subst hx0
  refine wpList_append_grows w hgd s x t ho e i z size bytes ht hi hz hsize hby hzs hsz none 0 0 [] hs (fun _ => ⟨rfl, rfl⟩) (by simp) (fun b hb => by cases hb) ad m c news hx hl hnews h1 (by omega) h63 hbytes (fun v' w' h2 h3 => ?_)
  refine h v' w' ?_ h3 (fun k hk => .inr (h2.lt k hk).1)
  obtain ⟨k1, k2⟩ := h2
  refine ⟨k1, ?_⟩
  rcases k2 with k2 | ⟨g, cap, cur, q1, q2, q3⟩
  ·exact .inl k2
  ·exact .inr ⟨g, cap, cur, q1, by omega, q3⟩
 ·by_cases hroom : n + m ≤ cap
  ·refine wpList_append_own_spare w hgd s x t ho base e i size ht hi hsize g n cap xs hs hown' ad m c news hx hl hnews h1 hroom (fun w' h2 h3 => ?_)
   exact h _ w' h2 h3 (fun k hk => .inl hk)
  ·refine wpList_append_grows w hgd s x t ho e i z size bytes ht hi hz hsize hby hzs hsz (some ⟨g, 0, none⟩) n cap xs hs (fun e => by cases e) hxl (fun b hb => by cases hb; exact hown'.cells (g := g) rfl) ad m c news hx hl hnews h1 (by omega) h63 hbytes (fun v' w' h2 h3 => ?_)
   refine h v' w' ?_ ⟨h3.os, h3.tape, h3.output, h3.size, fun k hk _ => h3.block k hk (by simp)⟩ (fun k hk => .inr (h2.lt k hk).1)
   obtain ⟨k1, k2⟩ := h2
   refine ⟨k1, ?_⟩
   rcases k2 with k2 | ⟨g, cap, cur, q1, q2, q3⟩
   ·exact .inl k2
   ·exact .inr ⟨g, cap, cur, q1, by omega, q3⟩
theorem info_parts {e : TypeId} {z : Value} {n m : Nat} (h : (P.info? e).map (fun i => (i.zero, i.size, i.bytes)) = some (some z, n, m)) : ∃ i, P.info? e = some i ∧ i.zero = some z ∧ i.size = n ∧ i.bytes = m := by
 cases hi : P.info? e with
 | none => rw [hi] at h; cases h
 | some i => rw [hi] at h; simp only [Option.map_some, Option.some.injEq, Prod.mk.injEq] at h; exact ⟨i, rfl, h.1, h.2.1, h.2.2⟩
end
theorem Owns.rd {W : World} {base : Nat} {e : TypeId} {v : Value} {xs : List Int} (h : W.ownsRow base e 1 v xs.length (ints xs)) : ∃ A cap, v = .slice A xs.length cap ∧ RdV W A (ints xs) ∧ ∀ a, A = some a → base ≤ a.block := by
 obtain ⟨A, cap, rfl, hn, hl, hr⟩ := Owns.shape h
 rcases hr with ⟨h0, rfl⟩ | ⟨g, rfl, hg, hc⟩
 ·exact ⟨none, cap, rfl, .inl h0, fun a ha => by cases ha⟩
 ·exact ⟨some ⟨g, 0, none⟩, cap, rfl, .inr ⟨g, 0, rfl, fun j v hv => by rw [Nat.zero_add]; exact hc j v hv⟩, fun a ha => by cases ha; exact hg⟩
structure ORows (W : World) (base g : Nat) (T e : TypeId) (rs : List (Value × List Int)) : Prop where
 blk : Blk W g (rs.map Prod.fst) T
 lt : g < base
 low : base ≤ W.heap.size
 own : ∀ (i : Nat) (v : Value) (xs : List Int), rs[i]? = some (v, xs) → W.ownsRow base e 1 v xs.length (ints xs)
 apart : ∀ (i j : Nat) (v : Value) (xs : List Int) (v' : Value) (xs' : List Int) (k : Nat), i ≠ j → rs[i]? = some (v, xs) → rs[j]? = some (v', xs') → v.ownBlock = some k → v'.ownBlock ≠ some k
theorem ORows.ext {W W' : World} {base g : Nat} {T e : TypeId} {rs : List (Value × List Int)} (h : ORows W base g T e rs) (hx : Ext W W') : ORows W' base g T e rs :=
 ⟨h.blk.ext hx, h.lt, Nat.le_trans h.low hx.size, fun i v xs hi => Owns.ext (h.own i v xs hi) hx, h.apart⟩
theorem ORows.step {W W1 : World} {base g : Nat} {T e : TypeId} {rs : List (Value × List Int)} (h : ORows W base g T e rs) {i : Nat} {v v' : Value} {xs xs' : List Int} (hi : rs[i]? = some (v, xs))
  (hown : W1.ownsRow base e 1 v' xs'.length (ints xs')) (hg : W.grownBy W1 v.ownBlock) (hs : ∀ k, v'.ownBlock = some k → v.ownBlock = some k ∨ W.heap.size ≤ k) :
  ORows (W1.setCell ⟨g, i, none⟩ v') base g T e (rs.set i (v', xs')) := by
 have hne : some g ≠ v.ownBlock := by
  intro e
  have := ((h.own i v xs hi).lt g e.symm).1
  have := h.lt
  omega
 have hlt := (List.getElem?_eq_some_iff.1 hi).1
 refine ⟨?_, h.lt, ?_, ?_, ?_⟩
 ·have := (Grown.blk hg h.blk hne).set i v'
  rw [List.map_set]
  exact this
 ·rw [World.size_setCell]
  exact Nat.le_trans h.low hg.size
 ·intro j u ys hj
  by_cases hij : i = j
  ·subst hij
   rw [List.getElem?_set_self hlt] at hj
   cases hj
   exact Owns.set hown i v' h.lt
  ·rw [List.getElem?_set_ne hij] at hj
   refine Owns.set ((h.own j u ys hj).kept hg ?_) i v' h.lt
   cases hu : u.ownBlock with
   | none => exact .inl rfl
   | some k => exact .inr (fun e => h.apart i j v xs u ys k hij hi hj e.symm hu)
 ·intro j1 j2 u1 y1 u2 y2 k hne12 hj1 hj2 hu1 hu2
  have oldlt : ∀ (j : Nat) (u : Value) (ys : List Int), rs[j]? = some (u, ys) → ∀ k, u.ownBlock = some k → k < W.heap.size := fun j u ys hj k hk => ((h.own j u ys hj).lt k hk).2
  by_cases h1 : i = j1
  ·subst h1
   rw [List.getElem?_set_self hlt] at hj1
   rw [List.getElem?_set_ne hne12] at hj2
   cases hj1
   rcases hs k hu1 with h3 | h3
   ·exact h.apart i j2 v xs u2 y2 k hne12 hi hj2 h3 hu2
   ·have := oldlt j2 u2 y2 hj2 k hu2
    omega
  ·rw [List.getElem?_set_ne h1] at hj1
   by_cases h2 : i = j2
   ·subst h2
    rw [List.getElem?_set_self hlt] at hj2
    cases hj2
    rcases hs k hu2 with h3 | h3
    ·exact h.apart i j1 v xs u1 y1 k h1 hi hj1 h3 hu1
    ·have := oldlt j1 u1 y1 hj1 k hu1
     omega
   ·rw [List.getElem?_set_ne h2] at hj2
    exact h.apart j1 j2 u1 y1 u2 y2 k hne12 hj1 hj2 hu1 hu2
theorem ORows.rd {W : World} {base g : Nat} {T e : TypeId} {rs : List (Value × List Int)} (h : ORows W base g T e rs) : ∃ R : List Row, RdR W (some ⟨g, 0, none⟩) R ∧ rows R = rs.map Prod.snd ∧ R.length = rs.length := by
 have key : ∀ l : List (Value × List Int), (∀ p ∈ l, ∃ i : Nat, rs[i]? = some p) → ∃ R : List Row, R.map Row.val = l.map Prod.fst ∧ rows R = l.map Prod.snd ∧ ∀ r ∈ R, RdV W r.A (ints r.xs) := by
  intro l
  induction l with
  | nil => exact fun _ => ⟨[], rfl, rfl, fun r hr => by cases hr⟩
  | cons p l ih =>
   intro hl
   obtain ⟨R, h1, h2, h3⟩ := ih fun q hq => hl q (List.mem_cons_of_mem _ hq)
   obtain ⟨i, hi⟩ := hl p (List.mem_cons_self)
   obtain ⟨v, xs⟩ := p
   obtain ⟨A, cap, rfl, hr, _⟩ := Owns.rd (h.own i v xs hi)
   refine ⟨⟨A, cap, xs⟩ :: R, by simp [h1, Row.val], by simp [rows] at h2 ⊢; exact h2, ?_⟩
   intro r hr'
   rcases List.mem_cons.1 hr' with rfl | h4
   ·exact hr
   ·exact h3 r h4
 obtain ⟨R, h1, h2, h3⟩ := key rs fun p hp => List.getElem?_of_mem hp
 refine ⟨R, ⟨?_, h3⟩, h2, ?_⟩
 ·rw [h1]
  refine .inr ⟨g, 0, rfl, fun j v hv => ?_⟩
  rw [Nat.zero_add]
  exact h.blk.cell j hv
 ·have := congrArg List.length h2
  simpa [rows] using this
end Go.Proofs.Ytclgclcoblfddaa
namespace Go.Proofs.Ytclgclcoblfddaa
open Go.RowKit Go.Lib
set_option linter.unusedVariables false
set_option linter.unusedSimpArgs false
structure It where
 u : Int
 t : Int
 m : Bool
def RdI (W : World) (A : Option Addr) (l : List It) : Prop := l = [] ∨ ∃ b o, A = some ⟨b, o, none⟩ ∧
 ∀ j u t m, l[j]? = some ⟨u, t, m⟩ → W.cell? ⟨b, o + j * 3, none⟩ = some (.int .i64 u) ∧ W.cell? ⟨b, o + j * 3 + 1, none⟩ = some (.int .u8 t) ∧ W.cell? ⟨b, o + j * 3 + 2, none⟩ = some (.bool m)
theorem RdI.ext {W W' : World} {A : Option Addr} {l : List It} (h : RdI W A l) (hx : Ext W W') : RdI W' A l := by
 rcases h with h | ⟨b, o, rfl, h⟩
 ·exact .inl h
 ·exact .inr ⟨b, o, rfl, fun j u t m e => ⟨hx.cell (h j u t m e).1, hx.cell (h j u t m e).2.1, hx.cell (h j u t m e).2.2⟩⟩
theorem RdI.at {W : World} {A : Option Addr} {l : List It} (h : RdI W A l) {i : Nat} (hi : i < l.length) :
  ∃ b o u t m, A = some ⟨b, o, none⟩ ∧ l[i]? = some ⟨u, t, m⟩ ∧ W.cell? ⟨b, o + i * 3, none⟩ = some (.int .i64 u) ∧ W.cell? ⟨b, o + i * 3 + 1, none⟩ = some (.int .u8 t) ∧ W.cell? ⟨b, o + i * 3 + 2, none⟩ = some (.bool m) := by
 rcases h with h | ⟨b, o, hA, hc⟩
 ·rw [h] at hi; simp at hi
 ·have he : l[i]? = some l[i] := List.getElem?_eq_getElem hi
  generalize l[i] = r at he
  obtain ⟨u, t, m⟩ := r
  exact ⟨b, o, u, t, m, hA, he, hc i u t m he⟩
def Zcq (l : List It) : List Value := l.flatMap fun i => [.int .i64 i.u, .int .u8 i.t, .bool i.m]
theorem itCells_length (l : List It) : (Zcq l).length = l.length * 3 := by
 induction l with
 | nil => rfl
 | cons a l ih => simp [Zcq] at ih ⊢; omega
theorem itCells_get (l : List It) : ∀ (j : Nat) (u t : Int) (m : Bool), l[j]? = some ⟨u, t, m⟩ → (Zcq l)[j * 3]? = some (.int .i64 u) ∧ (Zcq l)[j * 3 + 1]? = some (.int .u8 t) ∧ (Zcq l)[j * 3 + 2]? = some (.bool m) := by
 induction l with
 | nil => exact fun j u t m h => by cases h
 | cons a l ih =>
  intro j u t m h
  cases j with
  | zero => cases h; exact ⟨rfl, rfl, rfl⟩
  | succ j =>
   obtain ⟨h1, h2, h3⟩ := ih j u t m h
   refine ⟨?_, ?_, ?_⟩
   ·rw [show (j + 1) * 3 = j * 3 + 3 by omega]; exact h1
   ·rw [show (j + 1) * 3 + 1 = (j * 3 + 1) + 3 by omega]; exact h2
   ·rw [show (j + 1) * 3 + 2 = (j * 3 + 2) + 3 by omega]; exact h3
theorem infoItem : (Try.prog.info? 34).map (fun i => (i.zero, i.size, i.bytes)) = some (some (.agg #[.int .i64 0, .int .u8 0, .bool false]), 3, 24) := by kernel_rfl
theorem OwnsI.rd {W : World} {base : Nat} {e : TypeId} {v : Value} {l : List It} (h : W.ownsRow base e 3 v l.length (Zcq l)) : ∃ A cap, v = .slice A l.length cap ∧ l.length ≤ cap ∧ RdI W A l ∧ ∀ a, A = some a → base ≤ a.block := by
 obtain ⟨hl, hv⟩ := h
 rcases hv with ⟨rfl, h0⟩ | ⟨g, cap, cur, rfl, hb, hg, hn, hcap, hcs, htk⟩
 ·exact ⟨none, 0, by rw [h0], by omega, .inl (List.eq_nil_of_length_eq_zero h0), fun a ha => by cases ha⟩
 ·refine ⟨_, cap, rfl, hn, .inr ⟨g, 0, rfl, fun j u t m hj => ?_⟩, fun a ha => by cases ha; exact hb⟩
  have key : ∀ k x, (Zcq l)[k]? = some x → W.cell? ⟨g, k, none⟩ = some x := fun k x hk => by
   rw [← htk, List.getElem?_take] at hk
   split at hk
   ·simp only [World.cell?, hg]
    simpa using hk
   ·cases hk
  obtain ⟨h1, h2, h3⟩ := itCells_get l j u t m hj
  rw [Nat.zero_add]
  exact ⟨key _ _ h1, key _ _ h2, key _ _ h3⟩
theorem wpList_append_item {w : World} {ops : Array Oper} {rest : List Oper} {o : Oper} {a : Act} {Q : Exit → Act → World → Prop} (hgd : o.guard = none) (s x : Operand)
  (ho : o.op = .call { callee := .builtin .append, args := #[s, x], argTypes := #[28, 28] }) (base : Nat)
  (v : Value) (l : List It) (hs : a.eval s = v) (hown : w.ownsRow base 34 3 v l.length (Zcq l))
  (g c : Nat) (i : It) (hx : a.eval x = .slice (some ⟨g, 0, none⟩) 1 c) (hc : Blk w g [.int .i64 i.u, .int .u8 i.t, .bool i.m] 34)
  (hbig : l.length ≤ 100000000) (hbase : base ≤ w.heap.size)
  (h : ∀ v' w', w'.ownsRow base 34 3 v' (l ++ [i]).length (Zcq (l ++ [i])) → w.grownBy w' v.ownBlock → (∀ k, v'.ownBlock = some k → v.ownBlock = some k ∨ w.heap.size ≤ k) → wpList Try.prog ops Q rest (a.put o.dst v') w') : wpList Try.prog ops Q (o :: rest) a w := by
 obtain ⟨inf, hi, hz, hsz, hby⟩ := info_parts infoItem
 refine wpList_append_row hgd s x _ ho base _ inf _ 3 24 Try.underlying28 hi hz hsz hby rfl (by decide) v l.length (Zcq l) hs hown ⟨g, 0, none⟩ 1 c [.int .i64 i.u, .int .u8 i.t, .bool i.m] hx rfl ?_ ?_ (by decide) (by unfold maxLen; omega) (by omega) hbase (fun v' w' h2 h3 h4 => h v' w' ?_ h3 h4)
 ·intro j y hj
  have : (⟨g, 0, none⟩ : Addr).add j = ⟨g, j, none⟩ := by unfold Addr.add; split <;> simp_all
  rw [this]
  exact hc.cell j hj
 ·intro y hy
  simp only [List.mem_cons, List.not_mem_nil, or_false] at hy
  rcases hy with rfl | rfl | rfl <;> rfl
 ·have e : Zcq (l ++ [i]) = Zcq l ++ [.int .i64 i.u, .int .u8 i.t, .bool i.m] := by simp [Zcq]
  rw [e, List.length_append]
  exact h2
end Go.Proofs.Ytclgclcoblfddaa
namespace Go.Proofs.Ytclgclcoblfddaa
open Go.RowKit
open Go.ChangeMaps (setBlock)
set_option linter.unusedVariables false
set_option linter.unusedSectionVars false
set_option linter.unusedSimpArgs false
theorem getMap {w : World} {r : Nat} {es : Array MapEntry} {clock : Nat} (hb : w.heap[r]? = some (.map es clock)) : (getObj r).run Try.prog w = .ok (.map es clock) w := by simp [getObj, Sem.run, hb]
theorem setMap {w : World} {r : Nat} {es : Array MapEntry} {clock : Nat} (o : Obj) (hb : w.heap[r]? = some (.map es clock)) : (setObj r o).run Try.prog w = .ok () { w with heap := w.heap.setIfInBounds r o } := by simp [setObj, Sem.run, hb]
section
variable {α : Type} [DecidableEq α]
def entsAt (enc : α → Value) (n : Nat) (es : List (α × Value)) : List MapEntry := (es.zipIdx n).map fun p => { key := enc p.1.1, val := p.1.2, born := p.2 }
abbrev ents (enc : α → Value) (es : List (α × Value)) : List MapEntry := entsAt enc 0 es
theorem entsAt_cons (enc : α → Value) (n : Nat) (p : α × Value) (es : List (α × Value)) : entsAt enc n (p :: es) = { key := enc p.1, val := p.2, born := n } :: entsAt enc (n + 1) es := rfl
theorem ents_snoc (enc : α → Value) (es : List (α × Value)) (p : α × Value) : ents enc (es ++ [p]) = ents enc es ++ [{ key := enc p.1, val := p.2, born := es.length }] := by
 unfold ents entsAt
 rw [List.zipIdx_append, List.map_append]
 simp
theorem Zev (enc : α → Value) (es : List (α × Value)) : (ents enc es).length = es.length := by simp [ents, entsAt]
theorem Zfd (enc : α → Value) (es : List (α × Value)) (i : Nat) : (ents enc es)[i]? = es[i]?.map fun p => { key := enc p.1, val := p.2, born := i } := by
 unfold ents entsAt
 rw [List.getElem?_map, List.getElem?_zipIdx]
 cases es[i]? <;> simp
def RMap (enc : α → Value) (W : World) (b : Nat) (es : List (α × Value)) : Prop := W.heap[b]? = some (.map (ents enc es).toArray es.length)
def posOf (x : α) : List (α × Value) → Nat → Option (Nat × Value)
 | [], _ => none
 | p :: es, i => if x = p.1 then some (i, p.2) else posOf x es (i + 1)
def valOf (x : α) (es : List (α × Value)) : Option Value := (posOf x es 0).map (·.2)
structure KeyT (T : TypeId) (enc : α → Value) : Prop where
 chk : ∀ e x W, (Instr.checkKey e 10000 T (enc x)).run Try.prog W = .ok () W
 eq : ∀ x y W, (Op.equal T (enc x) (enc y)).run Try.prog W = .ok (decide (x = y)) W
 now : ∃ kind, Try.prog.underlying T = some kind ∧ ((∀ x y, Instr.sameNow kind (enc x) (enc y) = some (decide (x = y))) ∨ (∀ x y, Instr.sameNow kind (enc x) (enc y) = none))
 bits : ∀ x, Instr.sameBits 10000 (enc x) (enc x) = true
variable {T : TypeId} {enc : α → Value}
theorem run_findAsking (K : KeyT T enc) (x : α) : ∀ (es : List (α × Value)) (n i : Nat) (W : World), (Instr.findAsking T (enc x) (entsAt enc n es) i).run Try.prog W = .ok (posOf x es i) W
 | [], _, i, W => rfl
 | p :: es, n, i, W => by
  rw [entsAt_cons]
  simp only [Instr.findAsking, Sem.run_bind, K.eq, Result.andThen, posOf]
  by_cases h : x = p.1
  ·simp [h, Sem.run_pure]
  ·simp only [h, decide_false, Bool.false_eq_true, if_false]
   exact run_findAsking K x es (n + 1) (i + 1) W
theorem findNow_of {kind : TypeDesc} (h : ∀ x y, Instr.sameNow kind (enc x) (enc y) = some (decide (x = y))) (x : α) : ∀ (es : List (α × Value)) (n i : Nat), Instr.findNow kind (enc x) (entsAt enc n es) i = some (posOf x es i)
 | [], _, i => rfl
 | p :: es, n, i => by
  rw [entsAt_cons, Instr.findNow, h x p.1, posOf]
  by_cases e : x = p.1
  ·simp [e]
  ·simp only [e, decide_false, if_false]
   exact findNow_of h x es (n + 1) (i + 1)
theorem run_findKey (K : KeyT T enc) (x : α) (es : List (α × Value)) (W : World) : (Instr.findKey T (enc x) (ents enc es)).run Try.prog W = .ok (posOf x es 0) W := by
 obtain ⟨kind, hk, h⟩ := K.now
 simp only [Instr.findKey, Sem.run_bind, run_underlying hk, Result.andThen_ok]
 rcases h with h | h
 ·unfold ents
  rw [findNow_of h x es 0 0]
  rfl
 ·cases es with
  | nil => rfl
  | cons p es =>
   have : Instr.findNow kind (enc x) (ents enc (p :: es)) 0 = none := by
    unfold ents
    rw [entsAt_cons, Instr.findNow, h x p.1]
   rw [this]
   exact run_findAsking K x (p :: es) 0 0 W
theorem RMap.look (K : KeyT T enc) {MT E : TypeId} (ht : Try.prog.underlying MT = some (.map T E)) {z : Value} {W : World} (hz : (zeroValue E).run Try.prog W = .ok z W) {b : Nat} {es : List (α × Value)} (h : RMap enc W b es) (x : α) :
  (Instr.lookup MT (.map (some b)) (enc x) false).run Try.prog W = .ok ((valOf x es).getD z) W := by
 unfold RMap at h
 simp only [Instr.lookup, Sem.run_bind, run_underlying ht, Result.andThen_ok, getMap h, Sem.run_pure, K.chk, run_findKey K]
 unfold valOf
 cases posOf x es 0 with
 | none => simp [hz, Sem.run_bind, Sem.run_pure]
 | some p => simp [Sem.run_pure]
theorem RMap.lookOk (K : KeyT T enc) {MT E : TypeId} (ht : Try.prog.underlying MT = some (.map T E)) {z : Value} {W : World} (hz : (zeroValue E).run Try.prog W = .ok z W) {b : Nat} {es : List (α × Value)} (h : RMap enc W b es) (x : α) :
  (Instr.lookup MT (.map (some b)) (enc x) true).run Try.prog W = .ok (.tuple #[(valOf x es).getD z, .bool (valOf x es).isSome]) W := by
 unfold RMap at h
 simp only [Instr.lookup, Sem.run_bind, run_underlying ht, Result.andThen_ok, getMap h, Sem.run_pure, K.chk, run_findKey K]
 unfold valOf
 cases posOf x es 0 with
 | none => simp [hz, Sem.run_bind, Sem.run_pure]
 | some p => simp [Sem.run_pure]
theorem look_nil (K : KeyT T enc) {MT E : TypeId} (ht : Try.prog.underlying MT = some (.map T E)) {z : Value} {W : World} (hz : (zeroValue E).run Try.prog W = .ok z W) (x : α) :
  (Instr.lookup MT (.map none) (enc x) false).run Try.prog W = .ok z W := by
 have : (Instr.findKey T (enc x) []).run Try.prog W = .ok (posOf x [] 0) W := run_findKey K x [] W
 simp only [Instr.lookup, Sem.run_bind, run_underlying ht, Result.andThen_ok, Sem.run_pure, K.chk]
 rw [this]
 simp [posOf, hz, Sem.run_bind, Sem.run_pure]
def putOf (x : α) (v : Value) (es : List (α × Value)) : List (α × Value) := match posOf x es 0 with
 | some (i, _) => es.set i (x, v)
 | none => es ++ [(x, v)]
theorem posOf_get {x : α} : ∀ {es : List (α × Value)} {i j : Nat} {u : Value}, posOf x es i = some (j, u) → i ≤ j ∧ es[j - i]? = some (x, u)
 | [], i, j, u, h => by cases h
 | p :: es, i, j, u, h => by
  rw [posOf] at h
  split at h
  ·rename_i e
   cases h
   refine ⟨Nat.le_refl _, ?_⟩
   rw [Nat.sub_self]
   simp [e]
  ·obtain ⟨h1, h2⟩ := posOf_get h
   refine ⟨by omega, ?_⟩
   rw [show j - i = (j - (i + 1)) + 1 by omega]
   simpa using h2
theorem entsAt_modify (enc : α → Value) {es : List (α × Value)} {i : Nat} {x : α} {u v : Value} (h : es[i]? = some (x, u)) :
  (ents enc es).toArray.modify i (fun e => { e with key := enc x, val := v }) = (ents enc (es.set i (x, v))).toArray := by
 apply Array.toList_inj.1
 rw [Array.toList_modify]
 simp only
 apply List.ext_getElem?
 intro j
 rw [List.getElem?_modify, Zfd, Zfd, List.getElem?_set]
 by_cases hij : i = j
 ·subst hij
  have hlt := (List.getElem?_eq_some_iff.1 h).1
  simp [h, hlt]
 ·simp [hij]
theorem RMap.put (K : KeyT T enc) {MT E : TypeId} (ht : Try.prog.underlying MT = some (.map T E)) {W : World} {b : Nat} {es : List (α × Value)} (h : RMap enc W b es) (x : α) (v : Value) :
  ∃ W', (Instr.mapUpdate MT (.map (some b)) (enc x) v).run Try.prog W = .ok () W' ∧ RMap enc W' b (putOf x v es) ∧ W.grownBy W' (some b) := by
 have h' := h
 unfold RMap at h
 have hb := (Array.getElem?_eq_some_iff.1 h).1
 have hg : ∀ o : Obj, W.grownBy { W with heap := W.heap.setIfInBounds b o } (some b) := fun o => ⟨rfl, rfl, rfl, by simp, fun k hk hne => by
  show (W.heap.setIfInBounds b o)[k]? = W.heap[k]?
  rw [Array.getElem?_setIfInBounds_ne]
  intro e
  exact hne (by rw [e])⟩
 have hnew : ∀ o : Obj, ({ W with heap := W.heap.setIfInBounds b o } : World).heap[b]? = some o := fun o => by
  show (W.heap.setIfInBounds b o)[b]? = some o
  rw [Array.getElem?_setIfInBounds_self_of_lt hb]
 cases hp : posOf x es 0 with
 | none =>
  refine ⟨_, ?_, ?_, hg (.map ((ents enc es).toArray.push { key := enc x, val := v, born := es.length }) (es.length + 1))⟩
  ·simp only [Instr.mapUpdate, Sem.run_bind, run_underlying ht, Result.andThen_ok, getMap h, K.chk, run_findKey K, hp, setMap _ h]
  ·unfold RMap putOf
   rw [hnew, hp]
   simp only
   rw [ents_snoc]
   simp
 | some q =>
  obtain ⟨i, u⟩ := q
  obtain ⟨_, hi⟩ := posOf_get hp
  rw [Nat.sub_zero] at hi
  have hkey : (Instr.keyThatStays ((((ents enc es).toArray[i]?).map (·.key)).getD (enc x)) (enc x)).run Try.prog W = .ok (enc x) W := by
   rw [List.getElem?_toArray, Zfd, hi]
   simp [Instr.keyThatStays, K.bits, Sem.run_pure]
  refine ⟨_, ?_, ?_, hg (.map ((ents enc es).toArray.modify i (fun e => { e with key := enc x, val := v })) es.length)⟩
  ·simp only [Instr.mapUpdate, Sem.run_bind, run_underlying ht, Result.andThen_ok, getMap h, K.chk, run_findKey K, hp, hkey, setMap _ h]
  ·unfold RMap putOf
   rw [hnew, hp, entsAt_modify enc hi]
   simp
theorem RMap.made (enc : α → Value) (W : World) : RMap enc (W.alloc (.map #[] 0)) W.heap.size [] := by
 unfold RMap World.alloc
 simp [ents, entsAt]
theorem RMap.kept {W W' : World} {b : Nat} {es : List (α × Value)} (h : RMap enc W b es) {row : Option Nat} (hg : W.grownBy W' row) (hne : some b ≠ row) : RMap enc W' b es :=
 (hg.block b (Array.getElem?_eq_some_iff.1 h).1 hne).trans h
theorem RMap.ext {W W' : World} {b : Nat} {es : List (α × Value)} (h : RMap enc W b es) (hx : Ext W W') : RMap enc W' b es := h.kept (Ext.grown hx) (by simp)
theorem RMap.lt {W : World} {b : Nat} {es : List (α × Value)} (h : RMap enc W b es) : b < W.heap.size := (Array.getElem?_eq_some_iff.1 h).1
theorem RMap.drew {W : World} {b : Nat} {es : List (α × Value)} (h : RMap enc W b es) : RMap enc W.drew b es := h
theorem Zen {w : World} {ops : Array Oper} {rest : List Oper} {o : Oper} {a : Act} {Q : Exit → Act → World → Prop} (K : KeyT T enc)
  (hg : o.guard = none) (m x v : Operand) (MT E : TypeId) (hop : o.op = Op.mapUpdate MT m x v) (ht : Try.prog.underlying MT = some (.map T E)) (b : Nat) (es : List (α × Value))
  (hm : a.eval m = .map (some b)) (hown : RMap enc w b es) (k : α) (c : Value) (hx : a.eval x = enc k) (hv : a.eval v = c)
  (hK : ∀ w', RMap enc w' b (putOf k c es) → w.grownBy w' (some b) → wpList Try.prog ops Q rest (a.put o.dst undef) w') :
  wpList Try.prog ops Q (o :: rest) a w := by
 refine wpList_plain hg fun K' hK' => ?_
 obtain ⟨w', hrun, r1, r2⟩ := hown.put K ht k c
 unfold Oper.wp
 simp [execOp, hop, hm, hx, hv, hrun, Result.andThen]
 exact hK' _ _ (hK w' r1 r2)
def Zfc (W : World) (r b n : Nat) (seen : List Nat) : Prop := ∃ c, n ≤ c ∧ W.heap[r]? = some (.mapIter (some b) n seen.toArray c)
theorem ents_born (enc : α → Value) (es : List (α × Value)) : (ents enc es).map (·.born) = List.range es.length := by
 apply List.ext_getElem?
 intro i
 rw [List.getElem?_map, Zfd]
 by_cases h : i < es.length
 ·rw [List.getElem?_range h, List.getElem?_eq_getElem h]; rfl
 ·rw [List.getElem?_eq_none (by omega), List.getElem?_eq_none (by simp; omega)]; rfl
theorem ents_mem {enc : α → Value} {es : List (α × Value)} {e : MapEntry} (h : e ∈ ents enc es) : ∃ i k v, es[i]? = some (k, v) ∧ e = { key := enc k, val := v, born := i } := by
 obtain ⟨i, hi⟩ := List.getElem?_of_mem h
 rw [Zfd] at hi
 cases hp : es[i]? with
 | none => rw [hp] at hi; cases hi
 | some p => rw [hp] at hi; cases hi; exact ⟨i, p.1, p.2, hp, rfl⟩
theorem RMap.range {MT E : TypeId} (ht : Try.prog.underlying MT = some (.map T E)) {W : World} {b : Nat} {es : List (α × Value)} (h : RMap enc W b es) :
  (Instr.range MT (.map (some b))).run Try.prog W = .ok (.pointer (some ⟨W.heap.size, 0, none⟩)) (W.alloc (.mapIter (some b) es.length #[] es.length)) := run_range_map W MT T E b _ _ ht h
theorem Zfc.made (W : World) (b n : Nat) : Zfc (W.alloc (.mapIter (some b) n #[] n)) W.heap.size b n [] := ⟨n, Nat.le_refl _, heap_alloc_new W _⟩
theorem Zfc.kept {W W' : World} {r b n : Nat} {seen : List Nat} (h : Zfc W r b n seen) {row : Option Nat} (hg : W.grownBy W' row) (hne : some r ≠ row) : Zfc W' r b n seen := by
 obtain ⟨c, hc, h⟩ := h
 exact ⟨c, hc, (hg.block r (Array.getElem?_eq_some_iff.1 h).1 hne).trans h⟩
theorem Zfc.ext {W W' : World} {r b n : Nat} {seen : List Nat} (h : Zfc W r b n seen) (hx : Ext W W') : Zfc W' r b n seen := h.kept (Ext.grown hx) (by simp)
theorem RMap.next {W : World} {b r : Nat} {es : List (α × Value)} {seen : List Nat} (h : RMap enc W b es) (hr : Zfc W r b es.length seen) (ty : TypeId) :
  ((∀ i, i < es.length → i ∈ seen) ∧ (Instr.next (.pointer (some ⟨r, 0, none⟩)) false ty).run Try.prog W = .ok (.tuple #[.bool false]) W) ∨
  ∃ i k v W', es[i]? = some (k, v) ∧ i ∉ seen ∧ (Instr.next (.pointer (some ⟨r, 0, none⟩)) false ty).run Try.prog W = .ok (.tuple #[.bool true, enc k, v]) W' ∧ RMap enc W' b es ∧ Zfc W' r b es.length (seen ++ [i]) ∧ W.grownBy W' (some r) ∧ W'.heap.size = W.heap.size ∧
   (Instr.entry (.pointer (some ⟨r, 0, none⟩))).run Try.prog W' = .ok (.tuple #[enc k, v]) W' := by
 obtain ⟨c, hc, hr⟩ := hr
 have hb := h
 unfold RMap at hb
 have hold : ∀ x ∈ (ents enc es).toArray.toList, x.born < es.length := by
  intro x hx
  obtain ⟨i, k, v, hi, rfl⟩ := ents_mem hx
  exact (List.getElem?_eq_some_iff.1 hi).1
 rcases run_next_at W ty r b es.length c seen.toArray _ _ hr hb hold hc with ⟨h0, hrun⟩ | ⟨e, he, w1, hw1, hrun⟩
 ·left
  refine ⟨fun i hi => ?_, hrun⟩
  have h0 := Array.eq_empty_of_size_eq_zero h0
  unfold leftOf at h0
  rw [Array.filter_eq_empty_iff] at h0
  have hm : ({ key := enc es[i].1, val := es[i].2, born := i } : MapEntry) ∈ (ents enc es).toArray := by
   rw [List.mem_toArray]
   exact List.mem_of_getElem? (i := i) (by rw [Zfd, List.getElem?_eq_getElem hi]; rfl)
  have := h0 _ hm
  simpa using this
 ·right
  unfold leftOf at he
  have he' : e ∈ (ents enc es).toArray ∧ e.born ∉ seen := by
   have : e ∈ Array.filter (fun e => !seen.toArray.contains e.born) (ents enc es).toArray := by simpa using he
   rw [Array.mem_filter] at this
   exact ⟨this.1, by simpa using this.2⟩
  obtain ⟨i, k, v, hi, rfl⟩ := ents_mem (List.mem_toArray.1 he'.1)
  have hne : r ≠ b := by
   rintro rfl
   rw [hr] at hb
   cases hb
  have hw1r : w1.heap = W.heap := by rcases hw1 with rfl | rfl <;> rfl
  have hrlt := (Array.getElem?_eq_some_iff.1 hr).1
  have hr2 : (setBlock w1 r (.mapIter (some b) es.length (seen.toArray.push i) es.length)).heap[r]? = some (.mapIter (some b) es.length (seen ++ [i]).toArray es.length) := by
   show (w1.heap.setIfInBounds r _)[r]? = _
   rw [Array.getElem?_setIfInBounds_self_of_lt (by rw [hw1r]; exact hrlt)]
   simp
  have hg : W.grownBy (setBlock w1 r (.mapIter (some b) es.length (seen.toArray.push i) es.length)) (some r) := by
   refine ⟨?_, ?_, ?_, ?_, fun k hk hnk => ?_⟩
   ·rcases hw1 with rfl | rfl <;> rfl
   ·rcases hw1 with rfl | rfl <;> rfl
   ·rcases hw1 with rfl | rfl <;> rfl
   ·show W.heap.size ≤ (w1.heap.setIfInBounds r _).size
    simp [hw1r]
   ·show (w1.heap.setIfInBounds r _)[k]? = _
    rw [Array.getElem?_setIfInBounds_ne (fun e => hnk (by rw [e])), hw1r]
  have hb2 : RMap enc (setBlock w1 r (.mapIter (some b) es.length (seen.toArray.push i) es.length)) b es := h.kept hg (by simp; exact fun e => hne e.symm)
  refine ⟨i, k, v, _, hi, he'.2, hrun, hb2, ⟨es.length, Nat.le_refl _, hr2⟩, hg, ?_, ?_⟩
  ·show (w1.heap.setIfInBounds r _).size = _
   simp [hw1r]
  ·refine run_entry_at _ r b es.length seen.toArray _ _ { key := enc k, val := v, born := i } ?_ hb2 (by simpa using he'.1) ?_
   ·rw [hr2]; simp
   ·simp only
    rw [ents_born]
    exact List.nodup_range
theorem wpList_range {w : World} {ops : Array Oper} {rest : List Oper} {o : Oper} {a : Act} {Q : Exit → Act → World → Prop} (hg : o.guard = none) (m : Operand) (MT E : TypeId) (hop : o.op = Op.range MT m) (ht : Try.prog.underlying MT = some (.map T E)) (b : Nat) (es : List (α × Value))
  (hm : a.eval m = .map (some b)) (hown : RMap enc w b es)
  (hK : ∀ w', RMap enc w' b es → Zfc w' w.heap.size b es.length [] → Ext w w' → w'.heap.size = w.heap.size + 1 → wpList Try.prog ops Q rest (a.put o.dst (.pointer (some ⟨w.heap.size, 0, none⟩))) w') :
  wpList Try.prog ops Q (o :: rest) a w := by
 refine wpList_plain hg fun K' hK' => ?_
 have hrun := hown.range (T := T) ht
 unfold Oper.wp
 simp [execOp, hop, hm, hrun, Result.andThen]
 exact hK' _ _ (hK _ (hown.ext ((Ext.refl w).alloc _)) (Zfc.made _ _ _) ((Ext.refl w).alloc _) (by simp))
theorem wpList_next {w : World} {ops : Array Oper} {rest : List Oper} {o : Oper} {a : Act} {Q : Exit → Act → World → Prop} (hg : o.guard = none) (it : Operand) (hop : o.op = Op.next it false) (b r : Nat) (es : List (α × Value)) (seen : List Nat)
  (hit : a.eval it = .pointer (some ⟨r, 0, none⟩)) (hown : RMap enc w b es) (hr : Zfc w r b es.length seen)
  (hDone : (∀ i, i < es.length → i ∈ seen) → wpList Try.prog ops Q rest (a.put o.dst (.tuple #[.bool false])) w)
  (hMore : ∀ i k v w', es[i]? = some (k, v) → i ∉ seen → RMap enc w' b es → Zfc w' r b es.length (seen ++ [i]) → w.grownBy w' (some r) → w'.heap.size = w.heap.size →
   (Instr.entry (.pointer (some ⟨r, 0, none⟩))).run Try.prog w' = .ok (.tuple #[enc k, v]) w' → wpList Try.prog ops Q rest (a.put o.dst (.tuple #[.bool true, enc k, v])) w') :
  wpList Try.prog ops Q (o :: rest) a w := by
 refine wpList_plain hg fun K' hK' => ?_
 unfold Oper.wp
 rcases hown.next hr o.type with ⟨h0, hrun⟩ | ⟨i, k, v, w', hi, hs, hrun, h1, h2, h3, h4, h5⟩
 ·simp [execOp, hop, hit, hrun, Result.andThen]
  exact hK' _ _ (hDone h0)
 ·simp [execOp, hop, hit, hrun, Result.andThen]
  exact hK' _ _ (hMore i k v w' hi hs h1 h2 h3 h4 h5)
end
end Go.Proofs.Ytclgclcoblfddaa
namespace Go.Proofs.Ytclgclcoblfddaa
open Go.RowKit
set_option linter.unusedVariables false
set_option linter.unusedSectionVars false
set_option linter.unusedSimpArgs false
theorem nodup_le : ∀ (n : Nat) {l : List Nat}, l.Nodup → (∀ i ∈ l, i < n) → l.length ≤ n
 | 0, l, _, h => by
  cases l with
  | nil => simp
  | cons a l => have := h a List.mem_cons_self; omega
 | n + 1, l, hn, h => by
  by_cases hm : n ∈ l
  ·have h1 := nodup_le n (hn.erase n) (fun i hi => by
    have h2 := (hn.mem_erase_iff).1 hi
    have h3 := h i h2.2
    have h4 : i ≠ n := h2.1
    omega)
   rw [List.length_erase_of_mem hm] at h1
   omega
  ·have h1 := nodup_le n hn (fun i hi => by
    have := h i hi
    have : i ≠ n := fun e => hm (e ▸ hi)
    omega)
   omega
section
variable {α : Type} [DecidableEq α] {T : TypeId} {enc : α → Value} {F : Fence} {nF : Nat}
theorem wpListIn_range {w : World} {ops : Array Oper} {rest : List Oper} {o : Oper} {a : Act} {Q : Exit → Act → World → Prop} (hg : o.guard = none) (m : Operand) (MT E : TypeId) (hop : o.op = Op.range MT m) (ht : Try.prog.underlying MT = some (.map T E)) (b : Nat) (es : List (α × Value))
  (hm : a.eval m = .map (some b)) (hown : RMap enc w b es)
  (hK : ∀ w', RMap enc w' b es → Zfc w' w.heap.size b es.length [] → w.grownBy w' none → w'.heap.size = w.heap.size + 1 → wpListIn F nF Try.prog ops Q rest (a.put o.dst (.pointer (some ⟨w.heap.size, 0, none⟩))) w') :
  wpListIn F nF Try.prog ops Q (o :: rest) a w := by
 refine wpListIn_plain hg fun K' hK' => ?_
 have hrun := hown.range (T := T) ht
 unfold Oper.wpIn
 refine ⟨by simp [Oper.about, hop], ?_⟩
 rw [Oper.semAt_plain F _ _ (by rw [hop]; intro c hc'; cases hc')]
 simp [execOp, hop, hm, hrun, Result.andThen]
 exact hK' _ _ (hK _ (hown.ext ((Ext.refl w).alloc _)) (Zfc.made _ _ _) (Ext.grown ((Ext.refl w).alloc _)) (by simp))
theorem wpListIn_next {w : World} {ops : Array Oper} {rest : List Oper} {o : Oper} {a : Act} {Q : Exit → Act → World → Prop} (hg : o.guard = none) (it : Operand) (hop : o.op = Op.next it false) (b r : Nat) (es : List (α × Value)) (seen : List Nat)
  (hit : a.eval it = .pointer (some ⟨r, 0, none⟩)) (hown : RMap enc w b es) (hr : Zfc w r b es.length seen)
  (hDone : (∀ i, i < es.length → i ∈ seen) → wpListIn F nF Try.prog ops Q rest (a.put o.dst (.tuple #[.bool false])) w)
  (hMore : ∀ i k v w', es[i]? = some (k, v) → i ∉ seen → RMap enc w' b es → Zfc w' r b es.length (seen ++ [i]) → w.grownBy w' (some r) → w'.heap.size = w.heap.size →
   (Instr.entry (.pointer (some ⟨r, 0, none⟩))).run Try.prog w' = .ok (.tuple #[enc k, v]) w' → wpListIn F nF Try.prog ops Q rest (a.put o.dst (.tuple #[.bool true, enc k, v])) w') :
  wpListIn F nF Try.prog ops Q (o :: rest) a w := by
 refine wpListIn_plain hg fun K' hK' => ?_
 unfold Oper.wpIn
 refine ⟨by simp [Oper.about, hop], ?_⟩
 rw [Oper.semAt_plain F _ _ (by rw [hop]; intro c hc'; cases hc')]
 rcases hown.next hr o.type with ⟨h0, hrun⟩ | ⟨i, k, v, w', hi, hs, hrun, h1, h2, h3, h4, h5⟩
 ·simp [execOp, hop, hit, hrun, Result.andThen]
  exact hK' _ _ (hDone h0)
 ·simp [execOp, hop, hit, hrun, Result.andThen]
  exact hK' _ _ (hMore i k v w' hi hs h1 h2 h3 h4 h5)
theorem RMap.walks {W W' : World} {b : Nat} {es : List (α × Value)} (h : RMap enc W b es) (hk : KeepsWalks W W') : RMap enc W' b es := hk.same b _ h rfl
theorem Zfc.walks {W W' : World} {r b n : Nat} {seen : List Nat} (h : Zfc W r b n seen) (hk : KeepsWalks W W') : Zfc W' r b n seen := by
 obtain ⟨c, hc, h⟩ := h
 exact ⟨c, hc, hk.same r _ h rfl⟩
theorem Zfc.isWalk {W : World} {r b n : Nat} {seen : List Nat} (h : Zfc W r b n seen) : ∃ o : Obj, W.heap[r]? = some o ∧ o.isWalk = true := by
 obtain ⟨c, _, h⟩ := h
 exact ⟨_, h, rfl⟩
def came (W : World) (r : Nat) : Nat := match W.heap[r]? with | some (.mapIter _ _ s _) => s.size | _ => 0
theorem Zfc.came {W : World} {r b n : Nat} {seen : List Nat} (h : Zfc W r b n seen) : came W r = seen.length := by
 obtain ⟨c, _, h⟩ := h
 unfold Go.Proofs.Ytclgclcoblfddaa.came
 rw [h]; simp
def Zdg (es : List (α × Value)) (seen : List Nat) : List α := seen.filterMap fun i => (es[i]?).map (·.1)
theorem keysAt_snoc {es : List (α × Value)} {seen : List Nat} {i : Nat} {k : α} {v : Value} (h : es[i]? = some (k, v)) : Zdg es (seen ++ [i]) = Zdg es seen ++ [k] := by
 unfold Zdg
 rw [List.filterMap_append]
 simp [h]
theorem Zdt {es : List (α × Value)} : ∀ {seen : List Nat}, (∀ i ∈ seen, i < es.length) → (Zdg es seen).length = seen.length
 | [], _ => rfl
 | i :: seen, h => by
  have hi := h i List.mem_cons_self
  unfold Zdg
  rw [List.filterMap_cons, List.getElem?_eq_getElem hi]
  simp only [Option.map_some, List.length_cons]
  rw [← Zdt fun j hj => h j (List.mem_cons_of_mem _ hj)]
  rfl
theorem keysAt_all {es : List (α × Value)} {seen : List Nat} (hn : seen.Nodup) (hlt : ∀ i ∈ seen, i < es.length) (hall : ∀ i, i < es.length → i ∈ seen) : (Zdg es seen).Perm (es.map (·.1)) := by
 have hp : seen.Perm (List.range es.length) := by
  rw [List.perm_ext_iff_of_nodup hn List.nodup_range]
  intro i
  exact ⟨fun h => by simpa using hlt i h, fun h => hall i (by simpa using h)⟩
 have h1 : (Zdg es seen).Perm (Zdg es (List.range es.length)) := hp.filterMap _
 refine h1.trans (List.Perm.of_eq ?_)
 clear h1 hp hall hlt hn
 have key : ∀ (m : Nat), m ≤ es.length → Zdg es (List.range m) = (es.take m).map (·.1) := by
  intro m
  induction m with
  | zero => intro _; rfl
  | succ m ih =>
   intro hm
   rw [List.range_succ, keysAt_snoc (k := es[m].1) (v := es[m].2) (by rw [List.getElem?_eq_getElem (by omega)]), ih (by omega), List.take_succ_eq_append_getElem (by omega), List.map_append]
   rfl
 rw [key _ (Nat.le_refl _), List.take_length]
end
end Go.Proofs.Ytclgclcoblfddaa
namespace Go.Proofs.Ytclgclcoblfddaa
open Go.RowKit
set_option linter.unusedVariables false
def encJ (p : Int × Int) : Value := .agg #[.int .i64 p.1, .int .u8 p.2]
theorem chk_int (e : Bool) (d : Nat) (T : TypeId) (k k' : IntKind) (u : Int) (W : World) (h : Try.prog.underlying T = some (.int k')) : (Instr.checkKey e (d + 1) T (.int k u)).run Try.prog W = .ok () W := by
 rw [Instr.checkKey]
 simp only [Sem.run_bind, run_underlying h, Result.andThen_ok]
 rfl
theorem chkJob (e : Bool) (p : Int × Int) (W : World) : (Instr.checkKey e 10000 32 (encJ p)).run Try.prog W = .ok () W := by
 have u3 := Try.underlying3
 have u5 := Try.underlying5
 have a3 := Try.isAgg3
 have a5 := Try.isAgg5
 have z3 := Try.sizeOf3
 have z5 := Try.sizeOf5
 obtain ⟨u, t⟩ := p
 rw [show (10000 : Nat) = 9998 + 1 + 1 from rfl, Instr.checkKey]
 simp only [Sem.run_bind, run_underlying Try.underlying32, Result.andThen_ok, encJ]
 rw [← Array.forIn_toList]
 simp only [List.forIn_cons, List.forIn_nil]
 go_simp
 simp only [chk_int _ _ _ _ _ _ _ u3, chk_int _ _ _ _ _ _ _ u5]
 rfl
theorem eqJob (x y : Int × Int) (W : World) : (Op.equal 32 (encJ x) (encJ y)).run Try.prog W = .ok (decide (x = y)) W := by
 have u3 := Try.underlying3
 have u5 := Try.underlying5
 have a3 := Try.isAgg3
 have a5 := Try.isAgg5
 have z3 := Try.sizeOf3
 have z5 := Try.sizeOf5
 have hS : Try.prog.underlying 32 = some (.struct (Try.prog.fieldsOf 32)) := by kernel_rfl
 have hp : Try.prog.stoodInHeld 32 = false := by kernel_rfl
 obtain ⟨u, t⟩ := x
 obtain ⟨v, s⟩ := y
 unfold Op.equal Op.maxDepth encJ
 rw [show (10000 : Nat) = 9999 + 1 from rfl, run_equalIn_struct W 9999 _ _ _ hS hp]
 simp only [Program.fieldsOf, Try.underlying32]
 go_simp
 by_cases h1 : u = v <;> by_cases h2 : t = s <;> simp [h1, h2]
theorem keyJob : KeyT 32 encJ where
 chk e x W := chkJob e x W
 eq x y W := eqJob x y W
 now := ⟨_, Try.underlying32, .inr fun x y => rfl⟩
 bits x := by obtain ⟨u, t⟩ := x; simp [Instr.sameBits, encJ]
end Go.Proofs.Ytclgclcoblfddaa
namespace Go.Proofs.Ytclgclcoblfddaa
open Go.RowKit Go.Shelf
set_option linter.unusedVariables false
set_option linter.unusedSimpArgs false
attribute [local go_sem] Oper.semAt_some
set_option maxRecDepth 100000 in
set_option maxHeartbeats 1000000 in
theorem keys_seq (F : Fence) (n : Nat) (hF : F.fn 85) (hro : F.round = none) (hn : 1 ≤ n) (Bm b : Nat) (es : List ((Int × Int) × Value)) (w : World) (hBm : Bm < w.heap.size)
  (hm : w.cell? ⟨Bm, 0, none⟩ = some (.map (some b))) (hown : RMap encJ w b es) :
  SeqStopsK F n Try.prog 85 #[.pointer (some ⟨Bm, 0, none⟩)] (fun x : Int × Int => #[encJ x]) KeepsWalks (fun xs => xs.Perm (es.map (·.1))) (fun _ => True) es.length w := by
 intro l J Jx W hW hJ hJx hY h0
 have hm' : W.cell? ⟨Bm, 0, none⟩ = some (.map (some b)) := (hW.cell (p := ⟨Bm, 0, none⟩) hBm).trans hm
 have hown' : RMap encJ W b es := (hW.block b hown.lt).trans hown
 refine callsIn_of_wp Try.func85 rfl hF ?_ hro
 simp only [Try.ntmps85, List.size_toArray, List.length_cons, List.length_nil, Nat.reduceAdd, Nat.reduceSub, Array.replicate_succ, Array.replicate_zero, List.push_toArray, List.append_toArray, List.nil_append, List.cons_append]
 gi_wp2_with (first
  | (gi_at_range; refine wpListIn_range rfl _ 115 34 rfl Try.underlying115 b es rfl hown' ?_; intro w0 hown0 hit0 hg0 hs0)
  | gi_in)
 gi_loopw [3] (fun _ wr => ∃ (seen : List Nat), RMap encJ wr b es ∧ Zfc wr W.heap.size b es.length seen ∧ seen.Nodup ∧ (∀ i ∈ seen, i < es.length) ∧ seen.length ≤ es.length ∧ J (Zdg es seen) wr)
  (fun _ wr => es.length - came wr W.heap.size)
 case atStart =>
  exact ⟨[], hown0, hit0, List.nodup_nil, (fun i hi => by cases hi), Nat.zero_le _, hJ [] W w0 none h0 hg0 (fun r e => by cases e)⟩
 case round =>
  obtain ⟨seen, hmp, hit, hnd, hlt, hsl, hJs⟩ := hrel
  gi_wp2_with (first
   | (gi_at_next; refine wpListIn_next rfl _ rfl b W.heap.size es seen rfl hmp hit ?_ ?_)
   | gi_in)
  ·intro hall
   gi_wp2
   go_end0
   exact ⟨⟨_, rfl⟩, .inl ⟨_, keysAt_all hnd hlt hall, hJs⟩⟩
  ·intro i u t v w2 hi hns hmp2 hit2 hg2 hs2 hen
   have hJ2 : J (Zdg es seen) w2 := hJ _ wr w2 (some W.heap.size) hJs hg2 (fun r e => by cases e; exact ⟨Nat.le_refl _, hit.isWalk⟩)
   clear hs2
   have hen' : (Instr.entry (.pointer (some ⟨W.heap.size, 0, none⟩))).run Try.prog w2 = .ok (.tuple #[.agg #[.int .i64 u, .int .u8 t], v]) w2 := hen
   have hcm := Lib.hid hit.came
   clear hen hJs hmp hit
   have hlt2 : i < es.length := (List.getElem?_eq_some_iff.1 hi).1
   have hJ3 : J (Zdg es seen) (w2.alloc (.cells #[.int .i64 u, .int .u8 t] 32)) := hJ _ w2 _ none hJ2 (Ext.grown ((Ext.refl w2).alloc _)) (fun r e => by cases e)
   have hlt3 : ∀ j ∈ seen ++ [i], j < es.length := by
    intro j hj
    rcases List.mem_append.1 hj with h | h
    ·exact hlt j h
    ·rw [List.mem_singleton.1 h]; exact hlt2
   have hnd3 : (seen ++ [i]).Nodup := List.nodup_append.2 ⟨hnd, by simp, fun a ha b hb e => by rw [List.mem_singleton.1 hb] at e; exact hns (e ▸ ha)⟩
   have hsl3 : (seen ++ [i]).length ≤ es.length := by exact nodup_le _ hnd3 hlt3
   obtain ⟨fn, tmps, assign, body, hy, hR⟩ := hY _ (u, t) _ hJ3 (by rw [Zdt hlt]; simp at hsl3; omega)
   have hy : (Instr.yield l #[.agg #[.int .i64 u, .int .u8 t]]).run Try.prog (w2.alloc (.cells #[.int .i64 u, .int .u8 t] 32)) = _ := hy
   have hrg3 := hit2.kept (Ext.grown ((Ext.refl w2).alloc (.cells #[.int .i64 u, .int .u8 t] 32))) (by simp)
   have hmp3 := hmp2.ext ((Ext.refl w2).alloc (.cells #[.int .i64 u, .int .u8 t] 32))
   clear hJ2 hJ3 hmp2 hit2 hg2 hY
   gi_wp2
   refine hR.mono ?_
   rintro e W3 (⟨rfl, hJ4, hk3⟩ | ⟨rfl, hJx⟩)
   ·gi_wp2
    go_roundw
    case rel => exact ⟨seen ++ [i], hmp3.walks hk3, hrg3.walks hk3, hnd3, hlt3, hsl3, by rw [keysAt_snoc hi]; exact hJ4⟩
    case measure =>
     rw [hcm.out, (hrg3.walks hk3).came]
     simp at hsl3 ⊢
     omega
   ·gi_wp2
    refine bodyPost_ret (results_none rfl _ _ _) rfl ?_
    exact ⟨⟨_, rfl⟩, .inr ⟨_, trivial, hJx⟩⟩
def Zcr (l : List (Int × Int)) : List Value := l.flatMap fun p => [.int .i64 p.1, .int .u8 p.2]
theorem cellsJ_snoc (l : List (Int × Int)) (p : Int × Int) : Zcr (l ++ [p]) = Zcr l ++ [.int .i64 p.1, .int .u8 p.2] := by simp [Zcr]
theorem infoJob : (Try.prog.info? 32).map (fun i => (i.zero, i.size, i.bytes)) = some (some (.agg #[.int .i64 0, .int .u8 0]), 2, 16) := by kernel_rfl
set_option maxRecDepth 100000 in
set_option maxHeartbeats 2000000 in
theorem appendSeq_in (F : Fence) (n : Nat) (hA : F.fn 68) (hro : F.round = none) (hn : 2 ≤ n) (g : Nat) (lb : Array Value) (hFg : F.fn g) (eg : ∀ args w, (callFunc g args).run Try.prog w = .ok (.enter g args) w)
  (S : List (Int × Int) → Prop) (N : Nat) (hN : N ≤ 1000000) (w : World) (hseq : SeqStopsK F (n - 1) Try.prog g lb (fun x : Int × Int => #[encJ x]) KeepsWalks S (fun _ => True) N w) :
  CallsIn F n Try.prog 68 #[.slice none 0 0, .func (.func g) #[] lb] w fun e w' => ∃ (v : Value) (ss : List (Int × Int)), e = .returned v ∧ S ss ∧ w'.ownsRow w.heap.size 32 2 v ss.length (Zcr ss) ∧ Below w.heap.size w w' := by
 have h1 : 1 ≤ n := by omega
 obtain ⟨i0, hi, hz0, hz1, hz2⟩ := info_parts infoJob
 refine callsIn_of_wp_marks Try.func68 rfl hA ?_ hro
 simp only [Try.ntmps68, List.size_toArray, List.length_cons, List.length_nil, Nat.reduceAdd, Nat.reduceSub, Array.replicate_succ, Array.replicate_zero, List.push_toArray, List.append_toArray, List.nil_append, List.cons_append]
 gi_wp2
 have bO := Boxed.new w 36 (.slice none 0 0)
 have hB0 : Below w.heap.size w (w.alloc (.cells #[.slice none 0 0] 36)) := (Below.refl _ w).alloc (Nat.le_refl _) _
 have hsz : (w.alloc (.cells #[.slice none 0 0] 36)).heap.size = w.heap.size + 1 := by simp
 obtain ⟨W0, hW0⟩ : ∃ W0, w.alloc (.cells #[.slice none 0 0] 36) = W0 := ⟨_, rfl⟩
 rw [hW0] at bO hB0 hsz ⊢
 clear hW0
 refine wpIn_rangeFunc_ownH hro h1 (gf := g) (lb := lb) rfl hFg eg hseq walksK_t walksK_b hB0 (fun _ => rfl)
  (fun pre W => (∃ v, Boxed W w.heap.size 36 v ∧ W.ownsRow w.heap.size 32 2 v pre.length (Zcr pre) ∧ True) ∧ Below w.heap.size w W)
  (fun _ _ _ => False)
  (OwnFrom.and (Own.from (holdsRow_own w.heap.size w.heap.size 36 32 2 (fun pre => pre.length) (fun pre => Zcr pre) (fun _ _ => True)) _) (ownFrom_below (Nat.le_refl _) (by omega)))
  (fun _ _ _ _ _ hs _ _ => hs)
  ⟨⟨_, bO, World.ownsRow_nil _ _ _ _, trivial⟩, hB0⟩
  (fun x a' W => ∃ Bx, w.heap.size < Bx ∧ W.heap[Bx]? = some (.cells #[.int .i64 x.1, .int .u8 x.2] 32 (0, 0)) ∧ a' = { tmps := #[.slice none 0 0, .func (.func g) #[] lb, .pointer (some ⟨w.heap.size, 0, none⟩), undef, .slice none 0 0, .pointer (some ⟨Bx, 0, none⟩), .func (.func g) #[] lb, encJ x, undef, undef, undef, undef, undef], defers := [] })
  (fun x a' _ X Y row hs hg hr => by
   obtain ⟨Bx, h1, h2, h3⟩ := hs
   refine ⟨Bx, h1, (hg.block Bx (Array.getElem?_eq_some_iff.1 h2).1 (fun e => ?_)).trans h2, h3⟩
   obtain ⟨_, o, ho, hc⟩ := hr Bx e.symm
   rw [h2] at ho; cases ho; cases hc)
  ?assign ?body ?done ?stop
 case assign =>
  rintro l pre ⟨u, t⟩ W K ⟨⟨v, hv, hrow, _⟩, hB1⟩ hK
  have hencJ : encJ (u, t) = .agg #[.int .i64 u, .int .u8 t] := rfl
  rw [hencJ] at hK ⊢
  gi_wp2
  exact hK _ _ ((KeepsOthers.alloc _ _).from _) (KeepsWalks.alloc _ _) ⟨⟨v, hv.alloc _, hrow.alloc _, trivial⟩, hB1.alloc hB1.size _⟩ ⟨W.heap.size, hv.lt, World.alloc_heap_new W _, rfl⟩
 case body =>
  rintro l pre ⟨u, t⟩ a' W hl ⟨r, hr⟩ ⟨⟨v, hv, hrow, _⟩, hB⟩ ⟨Bx, hBx, hX, rfl⟩ hlt
  have hc := hv.cell
  have c0 : W.cell? ⟨Bx, 0, none⟩ = some (.int .i64 u) := by simp [World.cell?, hX]
  have c1 : W.cell? ⟨Bx, 1, none⟩ = some (.int .u8 t) := by simp [World.cell?, hX]
  have hcell : ∀ (j : Nat) (y : Value), [Value.int .i64 u, Value.int .u8 t][j]? = some y → (W.alloc (.cells #[.int .i64 u, .int .u8 t] 32)).cell? ((⟨W.heap.size, 0, none⟩ : Addr).add j) = some y := by
   intro j y hj
   rw [show (⟨W.heap.size, 0, none⟩ : Addr).add j = ⟨W.heap.size, j, none⟩ by unfold Addr.add; split <;> simp_all]
   exact (Blk.newAt W [.int .i64 u, .int .u8 t] 32 W.heap.size rfl).cell j hj
  gi_wp2_with (gi_at_builtin; refine wpListIn_append_own _ rfl _ _ 36 rfl w.heap.size 32 i0 _ 2 16 Try.underlying36 hi hz0 hz1 hz2 rfl (by decide) _ _ _ rfl (hrow.alloc _) ⟨W.heap.size, 0, none⟩ 1 1 [.int .i64 u, .int .u8 t] rfl rfl hcell (by simp [Value.oneCell']) (by unfold maxLen; omega) (by omega) (by have := hB.size; simp; omega) ?_; intro v' w1 hown' hgrow _; obtain ⟨g', cap', rfl⟩ := ownsRow_succ hown'; obtain ⟨hv1, hv2, hr2, hk2, hb2⟩ := hv.appended (by decide) hrow hB.size (Nat.le_refl _) hown' hgrow; have hc1 := hv1.cell; have hf1 := hv1.frozen)
  have hkw : KeepsWalks W (w1.setCell ⟨w.heap.size, 0, none⟩ (.slice (some ⟨g', 0, none⟩) (pre.length + 1) cap')) := ⟨hk2.size, fun k o hk ho => hk2.same k o hk (Obj.not_cells_of_walk ho)⟩
  exact ⟨hk2.from _, hkw, ⟨⟨_, hv2, by rw [cellsJ_snoc, show (pre ++ [(u, t)]).length = pre.length + 1 by simp]; exact hr2⟩, hB.trans hb2⟩⟩
 case done =>
  rintro D ys W hD hS ⟨⟨v, hv, hrow, _⟩, hB⟩ hK
  have hc := hv.cell
  gi_wp2
  refine ⟨by simp, .inl ⟨_, _, rfl, run_takeDeferred hK, ?_⟩⟩
  exact ⟨_, results_tmp rfl _ _ _, v, ys, rfl, hS, ownsRow_putObj hrow _ hK rfl, hB.trans (belowK_b (w := w) (Nat.le_refl _) W D _ _ (by omega) hK rfl rfl)⟩
 case stop =>
  rintro D c pre W _ _ h _
  exact h.elim
end Go.Proofs.Ytclgclcoblfddaa
namespace Go.Proofs
open Go.Shelf
def Try.sortJob_ren : Go.Shelf.Ren := ⟨fun | 6 => 59 | 15 => 79 | 14 => 78 | 28 => 97 | 29 => 98 | 20 => 89 | 21 => 90 | 22 => 91 | 23 => 92 | 24 => 93 | 25 => 94 | 26 => 95 | 27 => 96 | 46 => 101 | 47 => 102 | 48 => 103 | 49 => 104 | 50 => 105 | 57 => 106 | n => n, fun | 22 => 36 | 24 => 32 | 25 => 104 | 3 => 3 | 39 => 123 | 0 => 0 | 53 => 138 | 55 => 140 | 4 => 4 | 46 => 131 | 45 => 130 | 50 => 135 | 5 => 5 | 9 => 9 | 66 => 141 | 70 => 145 | 76 => 147 | 77 => 148 | n => n, fun | n => n⟩
theorem Try.sortJob : Go.Proofs.SlLaysF0.n6 Try.prog Try.sortJob_ren := {
 mixed := by kernel_rfl
 f6 := ⟨Try.f59.name, by decide, Try.func59.trans (congrArg some (by kernel_rfl))⟩
 f14 := ⟨Try.f78.name, by decide, Try.func78.trans (congrArg some (by kernel_rfl))⟩
 f15 := Try.func79.trans (congrArg some (by kernel_rfl))
 f20 := ⟨Try.f89.name, by decide, Try.func89.trans (congrArg some (by kernel_rfl))⟩
 f21 := ⟨Try.f90.name, by decide, Try.func90.trans (congrArg some (by kernel_rfl))⟩
 f22 := ⟨Try.f91.name, by decide, Try.func91.trans (congrArg some (by kernel_rfl))⟩
 f23 := ⟨Try.f92.name, by decide, Try.func92.trans (congrArg some (by kernel_rfl))⟩
 f24 := ⟨Try.f93.name, by decide, Try.func93.trans (congrArg some (by kernel_rfl))⟩
 f25 := ⟨Try.f94.name, by decide, Try.func94.trans (congrArg some (by kernel_rfl))⟩
 f26 := ⟨Try.f95.name, by decide, Try.func95.trans (congrArg some (by kernel_rfl))⟩
 f27 := ⟨Try.f96.name, by decide, Try.func96.trans (congrArg some (by kernel_rfl))⟩
 f28 := Try.func97.trans (congrArg some (by kernel_rfl))
 f29 := Try.func98.trans (congrArg some (by kernel_rfl))
 f46 := ⟨Try.f101.name, by decide, Try.func101.trans (congrArg some (by kernel_rfl))⟩
 f47 := Try.func102.trans (congrArg some (by kernel_rfl))
 f48 := Try.func103.trans (congrArg some (by kernel_rfl))
 f49 := ⟨Try.f104.name, by decide, Try.func104.trans (congrArg some (by kernel_rfl))⟩
 f50 := ⟨Try.f105.name, by decide, Try.func105.trans (congrArg some (by kernel_rfl))⟩
 f57 := ⟨Try.f106.name, by decide, Try.func106.trans (congrArg some (by kernel_rfl))⟩
 t0 := Try.underlying0
 a0 := Try.isAgg0
 z0 := Try.sizeOf0
 v0 := Try.zeroValue0
 t3 := Try.underlying3
 a3 := Try.isAgg3
 z3 := Try.sizeOf3
 v3 := Try.zeroValue3
 t4 := Try.underlying4
 a4 := Try.isAgg4
 z4 := Try.sizeOf4
 v4 := Try.zeroValue4
 t5 := Try.underlying5
 a5 := Try.isAgg5
 z5 := Try.sizeOf5
 v5 := Try.zeroValue5
 t9 := Try.underlying9
 a9 := Try.isAgg9
 z9 := Try.sizeOf9
 v9 := Try.zeroValue9
 t22 := Try.underlying36
 a22 := Try.isAgg36
 z22 := Try.sizeOf36
 v22 := Try.zeroValue36
 t25 := Try.underlying104
 a25 := Try.isAgg104
 z25 := Try.sizeOf104
 v25 := Try.zeroValue104
 t39 := Try.underlying123
 a39 := Try.isAgg123
 z39 := Try.sizeOf123
 v39 := Try.zeroValue123
 t45 := Try.underlying130
 a45 := Try.isAgg130
 z45 := Try.sizeOf130
 v45 := Try.zeroValue130
 t46 := Try.underlying131
 a46 := Try.isAgg131
 z46 := Try.sizeOf131
 v46 := Try.zeroValue131
 t50 := Try.underlying135
 a50 := Try.isAgg135
 z50 := Try.sizeOf135
 v50 := Try.zeroValue135
 t53 := Try.underlying138
 a53 := Try.isAgg138
 z53 := Try.sizeOf138
 v53 := Try.zeroValue138
 t55 := Try.underlying140
 a55 := Try.isAgg140
 z55 := Try.sizeOf140
 v55 := Try.zeroValue140
 t66 := Try.underlying141
 a66 := Try.isAgg141
 z66 := Try.sizeOf141
 v66 := Try.zeroValue141
 t70 := Try.underlying145
 a70 := Try.isAgg145
 z70 := Try.sizeOf145
 v70 := Try.zeroValue145
 t76 := Try.underlying147
 a76 := Try.isAgg147
 z76 := Try.sizeOf147
 v76 := Try.zeroValue147
 t77 := Try.underlying148
 a77 := Try.isAgg148
 z77 := Try.sizeOf148
 v77 := Try.zeroValue148 }
end Go.Proofs
namespace Go.Proofs.Ytclgclcoblfddaa
open Go.RowKit Go.Shelf Go.Sort
set_option linter.unusedVariables false
set_option linter.unusedSimpArgs false
def cmpI (a b : Int) : Int := if a < b then -1 else if b < a then 1 else 0
theorem nan_int (a : Int) (w : World) : Calls Try.prog 99 #[.int .i64 a] w fun e w' => e = .returned (.bool false) ∧ w = w' := by
 go_enter Try.func99, Try.ntmps99
 go_wp2_with fail
 go_ret
 exact ⟨by simp, rfl⟩
theorem nan_u8 (a : Int) (w : World) : Calls Try.prog 100 #[.int .u8 a] w fun e w' => e = .returned (.bool false) ∧ w = w' := by
 go_enter Try.func100, Try.ntmps100
 go_wp2_with fail
 go_ret
 exact ⟨by simp, rfl⟩
theorem cmp_int (a b : Int) (w : World) : Calls Try.prog 87 #[.int .i64 a, .int .i64 b] w fun e w' => e = .returned (.int .i64 (cmpI a b)) ∧ w = w' := by
 have h1 : a < b → cmpI a b = -1 := fun h => if_pos h
 have h2 : ¬ a < b → b < a → cmpI a b = 1 := fun h k => by unfold cmpI; rw [if_neg h, if_pos k]
 have h3 : ¬ a < b → ¬ b < a → cmpI a b = 0 := fun h k => by unfold cmpI; rw [if_neg h, if_neg k]
 by_cases c1 : a < b
 ·have HE := Lib.hid (h1 c1)
  clear h1 h2 h3
  go_enter Try.func87, Try.ntmps87
  go_wp2_with (go_at_call 99; refine (nan_int _ _).mono ?_; rintro e w' ⟨rfl, rfl⟩)
  go_ret
  exact ⟨by rw [HE.out]; rfl, rfl⟩
 ·by_cases c2 : b < a
  ·have HE := Lib.hid (h2 c1 c2)
   clear h1 h2 h3
   go_enter Try.func87, Try.ntmps87
   go_wp2_with (go_at_call 99; refine (nan_int _ _).mono ?_; rintro e w' ⟨rfl, rfl⟩)
   go_ret
   exact ⟨by rw [HE.out]; rfl, rfl⟩
  ·have HE := Lib.hid (h3 c1 c2)
   clear h1 h2 h3
   go_enter Try.func87, Try.ntmps87
   go_wp2_with (go_at_call 99; refine (nan_int _ _).mono ?_; rintro e w' ⟨rfl, rfl⟩)
   go_ret
   exact ⟨by rw [HE.out]; rfl, rfl⟩
theorem cmp_u8 (a b : Int) (w : World) : Calls Try.prog 88 #[.int .u8 a, .int .u8 b] w fun e w' => e = .returned (.int .i64 (cmpI a b)) ∧ w = w' := by
 have h1 : a < b → cmpI a b = -1 := fun h => if_pos h
 have h2 : ¬ a < b → b < a → cmpI a b = 1 := fun h k => by unfold cmpI; rw [if_neg h, if_pos k]
 have h3 : ¬ a < b → ¬ b < a → cmpI a b = 0 := fun h k => by unfold cmpI; rw [if_neg h, if_neg k]
 by_cases c1 : a < b
 ·have HE := Lib.hid (h1 c1)
  clear h1 h2 h3
  go_enter Try.func88, Try.ntmps88
  go_wp2_with (go_at_call 100; refine (nan_u8 _ _).mono ?_; rintro e w' ⟨rfl, rfl⟩)
  go_ret
  exact ⟨by rw [HE.out]; rfl, rfl⟩
 ·by_cases c2 : b < a
  ·have HE := Lib.hid (h2 c1 c2)
   clear h1 h2 h3
   go_enter Try.func88, Try.ntmps88
   go_wp2_with (go_at_call 100; refine (nan_u8 _ _).mono ?_; rintro e w' ⟨rfl, rfl⟩)
   go_ret
   exact ⟨by rw [HE.out]; rfl, rfl⟩
  ·have HE := Lib.hid (h3 c1 c2)
   clear h1 h2 h3
   go_enter Try.func88, Try.ntmps88
   go_wp2_with (go_at_call 100; refine (nan_u8 _ _).mono ?_; rintro e w' ⟨rfl, rfl⟩)
   go_ret
   exact ⟨by rw [HE.out]; rfl, rfl⟩
def orI (x y : Int) : Int := if x = 0 then y else x
theorem or_int (x y : Int) (b : Nat) (w : World) (c0 : w.cell? ⟨b, 0, none⟩ = some (.int .i64 x)) (c1 : w.cell? ⟨b, 1, none⟩ = some (.int .i64 y)) :
  Calls Try.prog 86 #[.slice (some ⟨b, 0, none⟩) 2 2] w fun e w' => e = .returned (.int .i64 (orI x y)) ∧ w = w' := by
 have h1 : x = 0 → orI x y = y := fun h => if_pos h
 have h2 : ¬ x = 0 → orI x y = x := fun h => if_neg h
 have HP := Lib.hid (And.intro h1 h2)
 clear h1 h2
 go_enter Try.func86, Try.ntmps86
 go_wp2_with fail
 go_loop [8] (fun i => ∃ k : Nat, k ≤ 2 ∧ i = .int .i64 k ∧ (1 ≤ k → x = 0) ∧ (2 ≤ k → y = 0)) (fun i => 2 - (RowKit.intOf i).toNat)
 case atStart => exact ⟨0, by omega, rfl, fun h => by omega, fun h => by omega⟩
 case round =>
  obtain ⟨k, hk, rfl, hx, hy⟩ := hrel
  have HX := Lib.hid hx
  have HY := Lib.hid hy
  clear hx hy
  rcases (show k = 0 ∨ k = 1 ∨ k = 2 by omega) with rfl | rfl | rfl
  ·by_cases hz : x = 0
   ·have hb : (x != 0) = false := by simpa using hz
    have HZ := Lib.hid hz
    clear hz
    go_wp2_with fail
    go_round
    case rel => exact ⟨1, by omega, rfl, fun _ => HZ.out, fun h => by omega⟩
    case measure => simp [RowKit.intOf]
   ·have hb : (x != 0) = true := by simpa using hz
    have HZ := Lib.hid (HP.out.2 hz)
    clear hz
    go_wp2_with fail
    go_ret
    exact ⟨by rw [HZ.out]; rfl, rfl⟩
  ·by_cases hz : y = 0
   ·have hb : (y != 0) = false := by simpa using hz
    have HZ := Lib.hid hz
    clear hz
    go_wp2_with fail
    go_round
    case rel => exact ⟨2, by omega, rfl, fun _ => HX.out (by omega), fun _ => HZ.out⟩
    case measure => simp [RowKit.intOf]
   ·have hb : (y != 0) = true := by simpa using hz
    have HZ := Lib.hid (HP.out.1 (HX.out (by omega)))
    clear hz
    go_wp2_with fail
    go_ret
    exact ⟨by rw [HZ.out]; rfl, rfl⟩
  ·have HZ := Lib.hid ((HP.out.1 (HX.out (by omega))).trans (HY.out (by omega)))
   go_wp2_with fail
   go_ret
   exact ⟨by rw [HZ.out]; rfl, rfl⟩
def cmpJ (a b : Int × Int) : Int := orI (cmpI a.1 b.1) (cmpI a.2 b.2)
def encJc (p : Int × Int) : List Value := [.int .i64 p.1, .int .u8 p.2]
set_option maxHeartbeats 1000000 in
theorem order_job (x y : Int × Int) (w : World) : Calls Try.prog 74 #[.agg (encJc x).toArray, .agg (encJc y).toArray] w fun e w' => e = .returned (.int .i64 (cmpJ x y)) ∧ ∃ q os', w' = grow (w.drewN q) os' := by
 obtain ⟨u, t⟩ := x
 obtain ⟨v, s⟩ := y
 obtain ⟨c1, h1⟩ : ∃ c, cmpI u v = c := ⟨_, rfl⟩
 obtain ⟨c2, h2⟩ : ∃ c, cmpI t s = c := ⟨_, rfl⟩
 have HC := Lib.hid (show cmpJ (u, t) (v, s) = orI c1 c2 by unfold cmpJ; rw [h1, h2])
 have H1 := Lib.hid fun W => cmp_int u v W
 have H2 := Lib.hid fun W => cmp_u8 t s W
 rw [h1] at H1
 rw [h2] at H2
 clear h1 h2
 show Calls Try.prog 74 #[.agg #[.int .i64 u, .int .u8 t], .agg #[.int .i64 v, .int .u8 s]] w _
 go_enter Try.func74, Try.ntmps74
 go_wp2_with fail
 refine wp_region_drew_tail 9 (by kernel_rfl) (by kernel_rfl) ?_; simp only [List.take_succ_cons, List.take_zero, List.drop_succ_cons, List.drop_zero]; (repeat (quiet_step ((go_at_call 87; exact Calls.quiet_of_same ((H1.out _).mono fun e w' h => ⟨h.1, h.2.symm⟩))))); refine wpQuiet_nil ?_; rintro _ ⟨nq, rfl⟩
 go_wp2_with (first | (go_at_call 88; refine (H2.out _).mono ?_; rintro e w' ⟨rfl, rfl⟩) | (go_at_call 86; refine (or_int c1 c2 _ _ ?ha ?hb).mono ?_; (case ha => go_simp); (case hb => go_simp); rintro e w' ⟨rfl, rfl⟩))
 go_ret
 exact ⟨by rw [HC.out]; rfl, nq, #[.cells #[.int .i64 u, .int .u8 t] 32, .cells #[.int .i64 v, .int .u8 s] 32, .cells #[.int .i64 c1, .int .i64 c2] 3], by
  rw [alloc_eq_grow, alloc_eq_grow, alloc_eq_grow, show ∀ (W : World) os, (grow W os).drewN nq = grow (W.drewN nq) os from fun _ _ => rfl, show ∀ (W : World) os, (grow W os).drewN nq = grow (W.drewN nq) os from fun _ _ => rfl, grow_grow, grow_grow]
  rfl⟩
theorem cmpLays (blk off size : Nat) (w : World) : CmpLays Try.prog 74 #[] encJc 2 cmpJ blk off size w := fun _ _ _ _ x y => order_job x y _
def ltJ (a b : Int × Int) : Bool := decide (a.1 < b.1 ∨ a.1 = b.1 ∧ a.2 < b.2)
theorem ltOf_cmpJ (a b : Int × Int) : ltOf cmpJ a b = ltJ a b := by
 unfold ltOf ltJ cmpJ orI cmpI
 rw [decide_eq_decide]
 split <;> split <;> (try split) <;> (try split) <;> omega
theorem swoJ : SWO (ltOf cmpJ) where
 irrefl x := by rw [ltOf_cmpJ]; simp [ltJ]
 trans x y z h1 h2 := by rw [ltOf_cmpJ] at *; simp only [ltJ, decide_eq_true_eq] at *; omega
 ntrans x y z h1 h2 := by rw [ltOf_cmpJ] at *; simp only [ltJ, decide_eq_false_iff_not] at *; omega
theorem totJ (x y : Int × Int) (h1 : ltOf cmpJ x y = false) (h2 : ltOf cmpJ y x = false) : x = y := by
 rw [ltOf_cmpJ] at *
 simp only [ltJ, decide_eq_false_iff_not] at *
 obtain ⟨a, b⟩ := x
 obtain ⟨c, d⟩ := y
 simp only at *
 have : a = c := by omega
 have : b = d := by omega
 simp [*]
def sortJ (ss : List (Int × Int)) : List (Int × Int) := ss.mergeSort fun x y => !(ltOf cmpJ) y x
theorem cellsJ_length (l : List (Int × Int)) : (Zcr l).length = l.length * 2 := by
 induction l with
 | nil => rfl
 | cons p l ih => simp only [Zcr, List.flatMap_cons, List.length_append, List.length_cons, List.length_nil] at *; omega
theorem flatK_cells (l : List (Int × Int)) : (flatK encJc 2 l.toArray).toList = Zcr l := by
 apply List.ext_getElem?
 intro t
 by_cases ht : t < l.length * 2
 ·have h1 : (flatK encJc 2 l.toArray).toList[t]? = some ((encJc l.toArray[t / 2]!)[t % 2]!) := by
   have hs : t < (flatK encJc 2 l.toArray).size := by rw [size_flatK]; simpa using ht
   rw [Array.getElem?_toList, Array.getElem?_eq_getElem hs, ← get_flatK encJc 2 l.toArray t (by simpa using ht), getElem!_pos _ t hs]
  rw [h1]
  clear h1
  induction l generalizing t with
  | nil => simp at ht
  | cons p l ih =>
   have hc : Zcr (p :: l) = .int .i64 p.1 :: .int .u8 p.2 :: Zcr l := rfl
   rw [hc]
   match t, ht with
   | 0, _ => rfl
   | 1, _ => rfl
   | t + 2, ht =>
    have := ih t (by simp at ht; omega)
    rw [show (t + 2) / 2 = t / 2 + 1 by omega, show (t + 2) % 2 = t % 2 by omega]
    simpa using this
 ·rw [List.getElem?_eq_none (by rw [Array.length_toList, size_flatK]; simp; omega), List.getElem?_eq_none (by rw [cellsJ_length]; omega)]
end Go.Proofs.Ytclgclcoblfddaa
namespace Go.Proofs.Ytclgclcoblfddaa
open Go.RowKit Go.Shelf Go.Sort
set_option linter.unusedVariables false
set_option linter.unusedSimpArgs false
def leJ (x y : Int × Int) : Bool := !(ltOf cmpJ) y x
theorem leJ_iff (x y : Int × Int) : leJ x y = true ↔ x.1 < y.1 ∨ x.1 = y.1 ∧ x.2 ≤ y.2 := by
 unfold leJ
 rw [ltOf_cmpJ]
 simp only [ltJ, Bool.not_eq_true', decide_eq_false_iff_not]
 omega
theorem leJ_trans (a b c : Int × Int) (h1 : leJ a b = true) (h2 : leJ b c = true) : leJ a c = true := by
 rw [leJ_iff] at *; omega
theorem leJ_total (a b : Int × Int) : (leJ a b || leJ b a) = true := by
 rw [Bool.or_eq_true, leJ_iff, leJ_iff]; omega
theorem leJ_anti (a b : Int × Int) (h1 : leJ a b = true) (h2 : leJ b a = true) : a = b := by
 rw [leJ_iff] at *
 obtain ⟨u, t⟩ := a
 obtain ⟨v, s⟩ := b
 simp only at *
 have : u = v := by omega
 have : t = s := by omega
 simp [*]
theorem sortJ_pairwise (l : List (Int × Int)) : (sortJ l).Pairwise fun a b => leJ a b = true := List.pairwise_mergeSort leJ_trans leJ_total l
theorem sortJ_perm (l : List (Int × Int)) : (sortJ l).Perm l := List.mergeSort_perm l _
theorem sortJ_eq {l l' : List (Int × Int)} (h : l.Perm l') : sortJ l = sortJ l' :=
 List.Perm.eq_of_pairwise (fun a b _ _ h1 h2 => leJ_anti a b h1 h2) (sortJ_pairwise l) (sortJ_pairwise l') (((sortJ_perm l).trans h).trans (sortJ_perm l').symm)
theorem sortJ_length (ss : List (Int × Int)) : (sortJ ss).length = ss.length := by unfold sortJ; exact List.length_mergeSort _
theorem putCells_take (F : Array Value) (cur : Array Value) (h : F.size ≤ cur.size) : (putCells id 0 F cur).toList.take F.size = F.toList ∧ (putCells id 0 F cur).size = cur.size := by
 constructor
 ·apply List.ext_getElem?
  intro t
  unfold putCells
  rw [List.getElem?_take]
  by_cases ht : t < F.size
  ·rw [if_pos ht, Array.getElem?_toList, Array.getElem?_mapIdx, Array.getElem?_eq_getElem (by omega), Array.getElem?_toList, Array.getElem?_eq_getElem ht]
   simp only [Option.map_some, Option.some.injEq]
   rw [if_pos ⟨Nat.zero_le _, by omega⟩, Nat.sub_zero, getElem!_pos F t ht]
   rfl
  ·rw [if_neg ht, List.getElem?_eq_none (by simpa using ht)]
 ·unfold putCells; simp
theorem sort_calls {base : Nat} {v : Value} {ss : List (Int × Int)} {w : World} (h : w.ownsRow base 32 2 v ss.length (Zcr ss)) (hmax : ss.length ≤ 1000000) :
  Calls Try.prog 59 #[v, .func (.func 74) #[] #[]] w fun e w' => e = .returned (.tuple #[]) ∧ w'.ownsRow base 32 2 v (sortJ ss).length (Zcr (sortJ ss)) ∧ w.grownBy w' v.ownBlock := by
 obtain ⟨hl, h2⟩ := h
 rcases h2 with ⟨rfl, h0⟩ | ⟨g, cap, cur, rfl, hb, hg, hn, hcap, hs, ht⟩
 ·have : ss = [] := List.eq_nil_of_length_eq_zero h0
  subst this
  refine (AnyF.slices_SortFunc_none Try.sortJob none 0 _ w).mono ?_
  rintro e w' ⟨rfl, rfl⟩
  have hs : sortJ [] = [] := by simp [sortJ]
  rw [hs]
  exact ⟨rfl, World.ownsRow_nil _ _ _ _, rfl, rfl, rfl, Nat.le_refl _, fun _ _ _ => rfl⟩
 ·have hcell : ∀ j, j < ss.length * 2 → w.cell? ⟨g, j, none⟩ = (Zcr ss)[j]? := by
   intro j hj
   rw [← ht, List.getElem?_take, if_pos hj]
   simp [World.cell?, hg]
  have hH : HoldsK encJc 2 w g 0 ss.toArray := by
   intro j hj
   rw [size_flatK] at hj
   have hj' : j < ss.length * 2 := by simpa using hj
   rw [Nat.zero_add]
   refine ⟨?_, by simp [World.frozen?, hg]⟩
   rw [hcell j hj', ← flatK_cells, Array.getElem?_toList, Array.getElem?_eq_getElem (by rw [size_flatK]; exact hj), getElem!_pos _ j (by rw [size_flatK]; exact hj)]
   rfl
  have hlt : g < w.heap.size := (Array.getElem?_eq_some_iff.1 hg).1
  have hcon := AnyQ.slices_SortFunc_total Try.sortJob 2 Try.isAgg32 Try.sizeOf32 encJc (fun _ => rfl) (fun x u hu => by simp [encJc] at hu; rcases hu with rfl | rfl <;> rfl) cmpJ swoJ 74 #[] g 0 cap ss.toArray w
   (enters_of Try.func74 (by kernel_rfl) rfl) (cmpLays g 0 _ w) hH hlt (by simp; omega) totJ
  change Calls Try.prog 59 _ _ _ at hcon
  rw [List.size_toArray] at hcon
  refine hcon.mono ?_
  rintro e w' ⟨rfl, n, os, rfl⟩
  have hsj : (ss.toArray.toList.mergeSort fun x y => !(ltOf cmpJ) y x) = sortJ ss := rfl
  rw [hsj]
  have hfs : (flatK encJc 2 (sortJ ss).toArray).size = ss.length * 2 := by rw [size_flatK, List.size_toArray, sortJ_length]
  have hw : (sortWorldK encJc 2 w g 0 n (sortJ ss).toArray os).heap[g]? = some (.cells (putCells id 0 (flatK encJc 2 (sortJ ss).toArray) cur) 32 (0, 0)) := by
   show (w.heap.modify g (onCells (putCells id 0 (flatK encJc 2 (sortJ ss).toArray))) ++ os)[g]? = _
   rw [Array.getElem?_append_left (by simpa using hlt), Array.getElem?_modify, if_pos rfl, hg]
   rfl
  have hpt := putCells_take (flatK encJc 2 (sortJ ss).toArray) cur (by rw [hfs, hs]; exact Nat.mul_le_mul_right _ hn)
  refine ⟨rfl, ⟨cellsJ_length _, .inr ⟨g, cap, _, by rw [sortJ_length], hb, hw, by rw [sortJ_length]; exact hn, hcap, by rw [hpt.2]; exact hs, ?_⟩⟩, ?_⟩
  ·rw [sortJ_length, ← hfs, hpt.1, flatK_cells]
  ·refine ⟨rfl, rfl, rfl, ?_, fun k hk hne => ?_⟩
   ·show w.heap.size ≤ (w.heap.modify g _ ++ os).size
    simp
   ·show (w.heap.modify g _ ++ os)[k]? = _
    have hgk : g ≠ k := fun e => hne (by rw [← e]; rfl)
    rw [Array.getElem?_append_left (by simpa using hk), Array.getElem?_modify, if_neg hgk]
theorem keysf (b : Nat) (w : World) : Calls Try.prog 73 #[.map (some b)] w fun e w' => e = .returned (.func (.func 85) #[] #[.pointer (some ⟨w.heap.size, 0, none⟩)]) ∧ w' = w.alloc (.cells #[.map (some b)] 115) := by
 go_enter Try.func73, Try.ntmps73
 go_wp2_with fail
 go_ret
 exact ⟨rfl, rfl⟩
theorem collect_calls (g : Nat) (lb : Array Value) (eg : ∀ args w, (callFunc g args).run Try.prog w = .ok (.enter g args) w)
  (S : List (Int × Int) → Prop) (N : Nat) (hN : N ≤ 1000000) (w : World) (hseq : ∀ n, 1 ≤ n → SeqStopsK Fence.wide n Try.prog g lb (fun x : Int × Int => #[encJ x]) KeepsWalks S (fun _ => True) N w) :
  Calls Try.prog 44 #[.func (.func g) #[] lb] w fun e w' => ∃ (v : Value) (ss : List (Int × Int)), e = .returned v ∧ S ss ∧ w'.ownsRow w.heap.size 32 2 v ss.length (Zcr ss) ∧ Below w.heap.size w w' := by
 have hA := Lib.hid (callsIn_wide.1 (appendSeq_in Fence.wide 3 trivial rfl (by omega) g lb trivial eg S N hN w (hseq 2 (by omega))))
 go_enter Try.func44, Try.ntmps44
 go_wp2_with (go_at_call 68; refine hA.out.mono ?_; rintro e w' ⟨v, ss, rfl, hS, hrow, hb⟩)
 go_ret
 exact ⟨v, ss, rfl, hS, hrow, hb⟩
theorem sortedFunc_calls (Bm b : Nat) (es : List ((Int × Int) × Value)) (w : World) (hBm : Bm < w.heap.size) (hm : w.cell? ⟨Bm, 0, none⟩ = some (.map (some b))) (hown : RMap encJ w b es) (hN : es.length ≤ 1000000) :
  Calls Try.prog 72 #[.func (.func 85) #[] #[.pointer (some ⟨Bm, 0, none⟩)], .func (.func 74) #[] #[]] w fun e w' => ∃ (v : Value) (ss : List (Int × Int)), e = .returned v ∧ ss = sortJ (es.map (·.1)) ∧ w'.ownsRow w.heap.size 32 2 v ss.length (Zcr ss) ∧ Below w.heap.size w w' := by
 have hC := Lib.hid (collect_calls 85 #[.pointer (some ⟨Bm, 0, none⟩)] (enters_of Try.func85 (by kernel_rfl) rfl) _ _ hN w (fun n hn => keys_seq Fence.wide n trivial rfl hn Bm b es w hBm hm hown))
 go_enter Try.func72, Try.ntmps72
 go_wp2_with (first | (go_at_call 44; refine hC.out.mono ?_; rintro e w' ⟨v, ss, rfl, hS, hrow, hb⟩))
 have hlen : ss.length ≤ 1000000 := by rw [hS.length_eq]; simpa using hN
 refine (sort_calls hrow hlen).mono ?_
 rintro e w2 ⟨rfl, hr2, hg2⟩
 go_wp2_with fail
 go_ret
 exact ⟨v, sortJ ss, rfl, sortJ_eq hS, hr2, hb.grown hg2 hb.size (fun k e => (hrow.lt k e).1)⟩
end Go.Proofs.Ytclgclcoblfddaa
namespace Go.Proofs.Ytclgclcoblfddaa
open Go.Shelf Go.Sort
set_option linter.unusedVariables false
set_option linter.unusedSimpArgs false
def Zaz (x : It) : Int × Int := (x.u, x.t)
def Zch (l : List It) (k : Int × Int) : Bool := l.any fun x => decide (Zaz x = k) && x.m
def ltI (x y : It) : Bool := ltJ (Zaz x) (Zaz y)
def ins (x : It) : List It → List It
 | [] => [x]
 | y :: ys => if ltI y x then y :: ins x ys else if ltI x y then x :: y :: ys else ⟨y.u, y.t, y.m || x.m⟩ :: ys
def Zcf (l : List It) : List It := l.foldl (fun acc x => ins x acc) []
theorem ltJ_iff (a b : Int × Int) : ltJ a b = true ↔ a.1 < b.1 ∨ a.1 = b.1 ∧ a.2 < b.2 := by unfold ltJ; rw [decide_eq_true_iff]
theorem ltJ_trans {a b c : Int × Int} (h1 : ltJ a b = true) (h2 : ltJ b c = true) : ltJ a c = true := by rw [ltJ_iff] at *; omega
theorem ltJ_irrefl (a : Int × Int) : ltJ a a = false := by rw [← Bool.not_eq_true, ltJ_iff]; omega
theorem ltJ_tri {a b : Int × Int} (h1 : ltJ a b = false) (h2 : ltJ b a = false) : a = b := totJ a b (by rw [ltOf_cmpJ]; exact h1) (by rw [ltOf_cmpJ]; exact h2)
theorem ltJ_ne {a b : Int × Int} (h : ltJ a b = true) : a ≠ b := by
 rintro rfl
 rw [ltJ_irrefl] at h
 cases h
def Rise (l : List It) : Prop := l.Pairwise fun x y => ltI x y = true
theorem mem_ins {x : It} : ∀ {l : List It}, ∀ y, y ∈ (ins x l).map Zaz ↔ y = Zaz x ∨ y ∈ l.map Zaz
 | [], y => by simp [ins]
 | z :: zs, y => by
  unfold ins
  by_cases h1 : ltI z x = true
  ·rw [if_pos h1]
   simp only [List.map_cons, List.mem_cons, mem_ins]
   constructor
   ·rintro (h | h | h) <;> simp [h]
   ·rintro (h | h | h) <;> simp [h]
  ·rw [if_neg h1]
   by_cases h2 : ltI x z = true
   ·rw [if_pos h2]
    simp only [List.map_cons, List.mem_cons]
   ·rw [if_neg h2]
    have e : Zaz z = Zaz x := ltJ_tri (by simpa [ltI] using h1) (by simpa [ltI] using h2)
    simp only [List.map_cons, List.mem_cons]
    have e2 : Zaz ⟨z.u, z.t, z.m || x.m⟩ = Zaz z := rfl
    rw [e2, e]
    constructor
    ·rintro (h | h) <;> simp [h]
    ·rintro (h | h | h) <;> simp [h]
theorem rise_ins {x : It} : ∀ {l : List It}, Rise l → Rise (ins x l)
 | [], _ => by simp [ins, Rise]
 | z :: zs, h => by
  obtain ⟨h0, h1⟩ := List.pairwise_cons.1 h
  unfold ins
  by_cases c1 : ltI z x = true
  ·rw [if_pos c1]
   refine List.pairwise_cons.2 ⟨fun y hy => ?_, rise_ins h1⟩
   have : Zaz y ∈ (ins x zs).map Zaz := List.mem_map_of_mem hy
   rcases (mem_ins _).1 this with e | e
   ·unfold ltI; rw [e]; exact c1
   ·obtain ⟨y', hy', e⟩ := List.mem_map.1 e
    unfold ltI; rw [← e]; exact h0 y' hy'
  ·rw [if_neg c1]
   by_cases c2 : ltI x z = true
   ·rw [if_pos c2]
    exact List.pairwise_cons.2 ⟨fun y hy => by
     rcases List.mem_cons.1 hy with rfl | hy
     ·exact c2
     ·exact ltJ_trans c2 (h0 y hy), h⟩
   ·rw [if_neg c2]
    exact List.pairwise_cons.2 ⟨fun y hy => h0 y hy, h1⟩
theorem must_ins {x : It} {k : Int × Int} : ∀ {l : List It}, Zch (ins x l) k = (Zch l k || (decide (Zaz x = k) && x.m))
 | [] => by simp [ins, Zch]
 | z :: zs => by
  unfold ins
  by_cases c1 : ltI z x = true
  ·rw [if_pos c1]
   have := must_ins (x := x) (k := k) (l := zs)
   unfold Zch at *
   rw [List.any_cons, this, List.any_cons, Bool.or_assoc]
  ·rw [if_neg c1]
   by_cases c2 : ltI x z = true
   ·rw [if_pos c2]
    unfold Zch
    rw [List.any_cons, Bool.or_comm]
   ·rw [if_neg c2]
    have e : Zaz z = Zaz x := ltJ_tri (by simpa [ltI] using c1) (by simpa [ltI] using c2)
    have e2 : Zaz ⟨z.u, z.t, z.m || x.m⟩ = Zaz z := rfl
    unfold Zch
    rw [List.any_cons, List.any_cons, e2, e]
    cases decide (Zaz x = k) <;> cases z.m <;> cases x.m <;> simp
theorem rise_must {l : List It} (h : Rise l) {x : It} (hx : x ∈ l) : Zch l (Zaz x) = x.m := by
 induction l with
 | nil => cases hx
 | cons z zs ih =>
  obtain ⟨h0, h1⟩ := List.pairwise_cons.1 h
  unfold Zch at *
  rw [List.any_cons]
  rcases List.mem_cons.1 hx with rfl | hx
  ·have : zs.any (fun y => decide (Zaz y = Zaz x) && y.m) = false := by
    rw [List.any_eq_false]
    intro y hy
    have := ltJ_ne (h0 y hy)
    have hd : decide (Zaz y = Zaz x) = false := decide_eq_false fun e => this e.symm
    simp [hd]
   rw [this]; simp
  ·have : Zaz z ≠ Zaz x := ltJ_ne (h0 x hx)
   rw [ih h1 hx]
   simp [this]
theorem sortedL_snoc (l : List It) (x : It) : Zcf (l ++ [x]) = ins x (Zcf l) := by unfold Zcf; rw [List.foldl_append]; rfl
theorem sortedL_facts (l : List It) : Rise (Zcf l) ∧ (∀ k, k ∈ (Zcf l).map Zaz ↔ k ∈ l.map Zaz) ∧ ∀ k, Zch (Zcf l) k = Zch l k := by
 have key : ∀ m, m ≤ l.length → Rise (Zcf (l.take m)) ∧ (∀ k, k ∈ (Zcf (l.take m)).map Zaz ↔ k ∈ (l.take m).map Zaz) ∧ ∀ k, Zch (Zcf (l.take m)) k = Zch (l.take m) k := by
  intro m
  induction m with
  | zero => intro _; exact ⟨List.Pairwise.nil, fun k => by simp [Zcf], fun k => by simp [Zcf]⟩
  | succ m ih =>
   intro hm
   obtain ⟨h1, h2, h3⟩ := ih (by omega)
   rw [List.take_succ_eq_append_getElem (by omega), sortedL_snoc]
   refine ⟨rise_ins h1, fun k => ?_, fun k => ?_⟩
   ·rw [mem_ins, h2]
    simp only [List.map_append, List.mem_append, List.map_cons, List.map_nil, List.mem_singleton]
    exact Or.comm
   ·rw [must_ins, h3]
    unfold Zch
    rw [List.any_append]
    simp
 have := key l.length (Nat.le_refl _)
 rwa [List.take_length] at this
theorem sortedL_of {l : List It} {ks : List (Int × Int)} (hn : ks.Nodup) (hk : ∀ k, k ∈ ks ↔ k ∈ l.map Zaz) : (sortJ ks).map (fun k => (⟨k.1, k.2, Zch l k⟩ : It)) = Zcf l := by
 obtain ⟨h1, h2, h3⟩ := sortedL_facts l
 have hnd : ((Zcf l).map Zaz).Nodup := by
  rw [List.nodup_iff_pairwise_ne, List.pairwise_map]
  exact h1.imp fun h => ltJ_ne h
 have hp : ks.Perm ((Zcf l).map Zaz) := (List.perm_ext_iff_of_nodup hn hnd).2 fun k => by rw [hk, h2]
 have hs : sortJ ks = (Zcf l).map Zaz := by
  refine List.Perm.eq_of_pairwise (fun a b _ _ x y => leJ_anti a b x y) (sortJ_pairwise ks) ?_ ((sortJ_perm ks).trans hp)
  rw [List.pairwise_map]
  refine h1.imp fun {a b} h => ?_
  rw [leJ_iff]
  unfold ltI at h
  rw [ltJ_iff] at h
  omega
 rw [hs, List.map_map]
 conv => rhs; rw [← List.map_id (Zcf l)]
 apply List.map_congr_left
 intro x hx
 show (⟨x.u, x.t, Zch l (Zaz x)⟩ : It) = x
 rw [← h3, rise_must h1 hx]
end Go.Proofs.Ytclgclcoblfddaa
namespace Go.Proofs.Ytclgclcoblfddaa
open Go.RowKit Go.Lib Go.Shelf
set_option linter.unusedVariables false
set_option linter.unusedSimpArgs false
def encI (x : It) : Value := .agg #[.int .i64 x.u, .int .u8 x.t, .bool x.m]
structure JMap (l : List It) (es : List ((Int × Int) × Value)) : Prop where
 nodup : (es.map (·.1)).Nodup
 mem : ∀ k, k ∈ es.map (·.1) ↔ k ∈ l.map Zaz
 val : ∀ p ∈ es, p.2 = encI ⟨p.1.1, p.1.2, Zch l p.1⟩
 len : es.length ≤ l.length
theorem JMap.nil : JMap [] [] := ⟨List.nodup_nil, fun k => by simp, fun p hp => (by cases hp), Nat.le_refl _⟩
theorem posOf_mem {x : Int × Int} : ∀ {es : List ((Int × Int) × Value)} {i : Nat}, posOf x es i = none ↔ x ∉ es.map (·.1)
 | [], i => by simp [posOf]
 | p :: es, i => by
  rw [posOf]
  split
  ·rename_i h; simp [h]
  ·rename_i h
   rw [posOf_mem (es := es)]
   simp [h]
theorem mustOf_snoc (l : List It) (x : It) (k : Int × Int) : Zch (l ++ [x]) k = (Zch l k || (decide (Zaz x = k) && x.m)) := by simp [Zch]
theorem mustOf_none {l : List It} {k : Int × Int} (h : k ∉ l.map Zaz) : Zch l k = false := by
 unfold Zch
 rw [List.any_eq_false]
 intro x hx
 have : Zaz x ≠ k := fun e => h (e ▸ List.mem_map_of_mem hx)
 simp [this]
theorem JMap.valOf {l : List It} {es : List ((Int × Int) × Value)} (h : JMap l es) (k : Int × Int) : (valOf k es).getD (encI ⟨0, 0, false⟩) = encI ⟨if k ∈ l.map Zaz then k.1 else 0, if k ∈ l.map Zaz then k.2 else 0, Zch l k⟩ := by
 unfold Go.Proofs.Ytclgclcoblfddaa.valOf
 cases hp : posOf k es 0 with
 | none =>
  have h1 : k ∉ l.map Zaz := fun hk => posOf_mem.1 hp ((h.mem k).2 hk)
  rw [if_neg h1, if_neg h1, mustOf_none h1]
  rfl
 | some q =>
  obtain ⟨i, u⟩ := q
  obtain ⟨_, hi⟩ := posOf_get hp
  have hm : (k, u) ∈ es := List.mem_of_getElem? hi
  have h1 : k ∈ l.map Zaz := (h.mem k).1 (List.mem_map_of_mem (f := (·.1)) hm)
  rw [if_pos h1, if_pos h1]
  exact h.val _ hm
theorem JMap.put {l : List It} {es : List ((Int × Int) × Value)} (h : JMap l es) (x : It) : JMap (l ++ [x]) (putOf (Zaz x) (encI ⟨x.u, x.t, Zch l (Zaz x) || x.m⟩) es) := by
 have hm : Zch (l ++ [x]) (Zaz x) = (Zch l (Zaz x) || x.m) := by rw [mustOf_snoc]; simp
 have ho : ∀ k, k ≠ Zaz x → Zch (l ++ [x]) k = Zch l k := fun k hk => by
  rw [mustOf_snoc]
  have : Zaz x ≠ k := fun e => hk e.symm
  simp [this]
 unfold putOf
 cases hp : posOf (Zaz x) es 0 with
 | none =>
  have h1 := posOf_mem.1 hp
  refine ⟨?_, fun k => ?_, fun p hpm => ?_, ?_⟩
  ·simp only [List.map_append, List.map_cons, List.map_nil]
   exact List.nodup_append.2 ⟨h.nodup, by simp, fun a ha b hb e => by
    rw [List.mem_singleton.1 hb] at e
    exact h1 (e ▸ ha)⟩
  ·simp only [List.map_append, List.map_cons, List.map_nil, List.mem_append, List.mem_singleton, h.mem]
  ·rcases List.mem_append.1 hpm with hq | hq
   ·have hne : p.1 ≠ Zaz x := fun e => h1 (e ▸ List.mem_map_of_mem (f := (·.1)) hq)
    rw [ho _ hne]; exact h.val p hq
   ·rw [List.mem_singleton.1 hq, hm]; rfl
  ·have := h.len; simp; omega
 | some q =>
  obtain ⟨i, u⟩ := q
  obtain ⟨_, hi⟩ := posOf_get hp
  rw [Nat.sub_zero] at hi
  have hlt := (List.getElem?_eq_some_iff.1 hi).1
  have hmap : (es.set i (Zaz x, encI ⟨x.u, x.t, Zch l (Zaz x) || x.m⟩)).map (·.1) = es.map (·.1) := by
   rw [List.map_set]
   apply List.ext_getElem?
   intro j
   rw [List.getElem?_set]
   split
   ·rename_i e
    subst e
    rw [if_pos (by simpa using hlt), List.getElem?_map, hi]; rfl
   ·rfl
  have hin : Zaz x ∈ l.map Zaz := (h.mem _).1 (List.mem_map_of_mem (f := (·.1)) (List.mem_of_getElem? hi))
  refine ⟨by simp only; rw [hmap]; exact h.nodup, fun k => ?_, fun p hpm => ?_, ?_⟩
  ·simp only
   rw [hmap, h.mem]
   simp only [List.map_append, List.map_cons, List.map_nil, List.mem_append, List.mem_singleton]
   constructor
   ·exact .inl
   ·rintro (h | rfl)
    ·exact h
    ·exact hin
  ·simp only at hpm
   obtain ⟨j, hj⟩ := List.getElem?_of_mem hpm
   rw [List.getElem?_set] at hj
   split at hj
   ·rename_i e
    first | rw [if_pos hlt] at hj | skip
    cases hj
    rw [hm]; rfl
   ·rename_i e
    have hq := List.mem_of_getElem? hj
    have hne : p.1 ≠ Zaz x := by
     intro e2
     have h3 : (es.map (·.1))[i]? = some (Zaz x) := by rw [List.getElem?_map, hi]; rfl
     have h4 : (es.map (·.1))[j]? = some (Zaz x) := by rw [List.getElem?_map, hj]; simp [e2]
     have := (List.getElem?_inj (by simpa using hlt) h.nodup).1 (h3.trans h4.symm)
     exact e this
    rw [ho _ hne]; exact h.val p hq
  ·have := h.len; simp; omega
def RdJ (W : World) (A : Option Addr) (l : List (Int × Int)) : Prop := l = [] ∨ ∃ b o, A = some ⟨b, o, none⟩ ∧
 ∀ j u t, l[j]? = some (u, t) → W.cell? ⟨b, o + j * 2, none⟩ = some (.int .i64 u) ∧ W.cell? ⟨b, o + j * 2 + 1, none⟩ = some (.int .u8 t)
theorem RdJ.ext {W W' : World} {A : Option Addr} {l : List (Int × Int)} (h : RdJ W A l) (hx : Ext W W') : RdJ W' A l := by
 rcases h with h | ⟨b, o, rfl, h⟩
 ·exact .inl h
 ·exact .inr ⟨b, o, rfl, fun j u t e => ⟨hx.cell (h j u t e).1, hx.cell (h j u t e).2⟩⟩
theorem RdJ.at {W : World} {A : Option Addr} {l : List (Int × Int)} (h : RdJ W A l) {i : Nat} (hi : i < l.length) :
  ∃ b o u t, A = some ⟨b, o, none⟩ ∧ l[i]? = some (u, t) ∧ W.cell? ⟨b, o + i * 2, none⟩ = some (.int .i64 u) ∧ W.cell? ⟨b, o + i * 2 + 1, none⟩ = some (.int .u8 t) := by
 rcases h with h | ⟨b, o, hA, hc⟩
 ·rw [h] at hi; simp at hi
 ·have he : l[i]? = some l[i] := List.getElem?_eq_getElem hi
  generalize l[i] = r at he
  obtain ⟨u, t⟩ := r
  exact ⟨b, o, u, t, hA, he, hc i u t he⟩
theorem cellsJ_get (l : List (Int × Int)) : ∀ (j : Nat) (u t : Int), l[j]? = some (u, t) → (Zcr l)[j * 2]? = some (.int .i64 u) ∧ (Zcr l)[j * 2 + 1]? = some (.int .u8 t) := by
 induction l with
 | nil => exact fun j u t h => by cases h
 | cons a l ih =>
  intro j u t h
  cases j with
  | zero => cases h; exact ⟨rfl, rfl⟩
  | succ j =>
   obtain ⟨h1, h2⟩ := ih j u t h
   refine ⟨?_, ?_⟩
   ·rw [show (j + 1) * 2 = j * 2 + 2 by omega]; exact h1
   ·rw [show (j + 1) * 2 + 1 = (j * 2 + 1) + 2 by omega]; exact h2
theorem OwnsJ.rd {W : World} {base : Nat} {e : TypeId} {v : Value} {l : List (Int × Int)} (h : W.ownsRow base e 2 v l.length (Zcr l)) : ∃ A cap, v = .slice A l.length cap ∧ l.length ≤ cap ∧ RdJ W A l ∧ ∀ a, A = some a → base ≤ a.block := by
 obtain ⟨hl, hv⟩ := h
 rcases hv with ⟨rfl, h0⟩ | ⟨g, cap, cur, rfl, hb, hg, hn, hcap, hcs, htk⟩
 ·exact ⟨none, 0, by rw [h0], by omega, .inl (List.eq_nil_of_length_eq_zero h0), fun a ha => by cases ha⟩
 ·refine ⟨_, cap, rfl, hn, .inr ⟨g, 0, rfl, fun j u t hj => ?_⟩, fun a ha => by cases ha; exact hb⟩
  have key : ∀ k x, (Zcr l)[k]? = some x → W.cell? ⟨g, k, none⟩ = some x := fun k x hk => by
   rw [← htk, List.getElem?_take] at hk
   split at hk
   ·simp only [World.cell?, hg]
    simpa using hk
   ·cases hk
  obtain ⟨h1, h2⟩ := cellsJ_get l j u t hj
  rw [Nat.zero_add]
  exact ⟨key _ _ h1, key _ _ h2⟩
theorem Owns.low {w : World} {base base' : Nat} {e : TypeId} {size : Nat} {v : Value} {n : Nat} {xs : List Value} (h : w.ownsRow base e size v n xs) (hb : base' ≤ base) : w.ownsRow base' e size v n xs := by
 obtain ⟨hl, hv⟩ := h
 rcases hv with h | ⟨g, cap, cur, rfl, h1, h2⟩
 ·exact ⟨hl, .inl h⟩
 ·exact ⟨hl, .inr ⟨g, cap, cur, rfl, Nat.le_trans hb h1, h2⟩⟩
theorem zeroItem (w : World) : (zeroValue 34).run Try.prog w = .ok (.agg #[.int .i64 0, .int .u8 0, .bool false]) w := by kernel_rfl
set_option maxRecDepth 100000 in
set_option maxHeartbeats 2000000 in
theorem Sorted_calls (l : List It) (A : Option Addr) (cap : Nat) (w : World) (hr : RdI w A l) (hlen : l.length ≤ 1000000) :
  Calls Try.prog 48 #[.slice A l.length cap] w fun e w' => ∃ v, e = .returned v ∧ w'.ownsRow w.heap.size 34 3 v (Zcf l).length (Zcq (Zcf l)) ∧ Ext w w' := by
 go_enter Try.func48, Try.ntmps48
 have hmm := @run_makeMap Try.prog
 go_upto_region 3 with (fail)
 refine Zep (fun W => RMap encJ W w.heap.size ([] : List ((Int × Int) × Value)) ∧ Ext w W) ⟨RMap.made encJ w, (Ext.refl w).alloc _⟩ ?_
 obtain ⟨b, hb⟩ : ∃ b, w.heap.size = b := ⟨_, rfl⟩
 rw [hb]
 rintro W0 ⟨hm0, hx0⟩
 clear hmm
 go_loopw [12] (fun i W => ∃ (k : Nat) (es : List ((Int × Int) × Value)), k ≤ l.length ∧ i = .int .i64 k ∧ RMap encJ W b es ∧ JMap (l.take k) es ∧ Ext w W) (fun i _ => l.length - (RowKit.intOf i).toNat)
 case atStart => exact ⟨0, [], by omega, rfl, hm0, JMap.nil, hx0⟩
 case round =>
  clear hm0 hx0
  obtain ⟨k, es, hk, rfl, hmp, hj, hx⟩ := hrel
  by_cases hlt : k < l.length
  ·have hlti : (k : Int) < l.length := by omega
   obtain ⟨b1, o1, u, t, m, rfl, he, f1, f2, f3⟩ := (hr.ext hx).at hlt
   have hlk := fun W' (h : Ext wr W') => (hmp.ext h).look keyJob Try.underlying115 (zeroItem W') (u, t)
   obtain ⟨mu, hmu⟩ : ∃ mu, Zch (l.take k) (u, t) = mu := ⟨_, rfl⟩
   have hv := hj.valOf (u, t)
   rw [hmu] at hv
   have hv' : (valOf (u, t) es).getD (.agg #[.int .i64 0, .int .u8 0, .bool false]) = encI ⟨if (u, t) ∈ (l.take k).map Zaz then u else 0, if (u, t) ∈ (l.take k).map Zaz then t else 0, mu⟩ := hv
   rw [hv'] at hlk
   generalize (if (u, t) ∈ (l.take k).map Zaz then u else 0) = z1 at hlk
   generalize (if (u, t) ∈ (l.take k).map Zaz then t else 0) = z2 at hlk
   clear hv hv'
   go_upto_region 5 with (fail)
   have hp := hj.put ⟨u, t, m⟩
   have hjob : Zaz ⟨u, t, m⟩ = (u, t) := rfl
   rw [hjob, hmu] at hp
   have htk : l.take (k + 1) = l.take k ++ [⟨u, t, m⟩] := by rw [List.take_succ_eq_append_getElem hlt]; congr 2; rw [List.getElem?_eq_getElem hlt] at he; exact Option.some.inj he
   rw [← htk] at hp
   have HP := Lib.hid hp
   refine Zep (fun W => Blk W wr.heap.size [.int .i64 u, .int .u8 t, .bool m] 34 ∧ RMap encJ W b es ∧ Ext wr W) ⟨Blk.newAt _ _ _ _ rfl, hmp.ext ((Ext.refl wr).alloc _), (Ext.refl wr).alloc _⟩ ?_
   have hbq : b < wr.heap.size := hmp.lt
   have hwq : w.heap.size ≤ wr.heap.size := hx.size
   obtain ⟨q, hq⟩ : ∃ q, wr.heap.size = q := ⟨_, rfl⟩
   rw [hq] at hbq hwq ⊢
   clear hmp f1 f2 f3 hj hp htk hjob hmu
   rintro W1 ⟨hbk, hmp, hx1⟩
   have e0 : ∀ W', Ext W1 W' → W'.cell? ⟨q, 0, none⟩ = some (.int .i64 u) := fun W' h => (hbk.ext h).cell 0 rfl
   have e1 : ∀ W', Ext W1 W' → W'.cell? ⟨q, 1, none⟩ = some (.int .u8 t) := fun W' h => (hbk.ext h).cell 1 rfl
   have e2 : ∀ W', Ext W1 W' → W'.cell? ⟨q, 2, none⟩ = some (.bool m) := fun W' h => (hbk.ext h).cell 2 rfl
   have el : ∀ W', Ext W1 W' → (Instr.lookup 115 (.map (some b)) (.agg #[.int .i64 u, .int .u8 t]) false).run Try.prog W' = .ok (.agg #[.int .i64 z1, .int .u8 z2, .bool mu]) W' := fun W' h => hlk W' (hx1.trans h)
   have hxx := hx.trans hx1
   clear hlk hx hx1
   have hfd : ∀ (y1 y2 : Int) (y3 : Bool) (W : World), (Instr.field 34 (.agg #[.int .i64 y1, .int .u8 y2, .bool y3]) 1).run Try.prog W = .ok (.bool y3) W := fun _ _ _ _ => by kernel_rfl
   cases mu
   ·refine Zds (fun W => Ext W1 W) 15 [(0, true), (1, true), (2, true), (3, true), (4, true), (5, true), (6, true), (7, true), (8, true), (9, true), (10, true), (11, true), (12, true), (13, true), (14, true), (15, false)] (by kernel_rfl) (by kernel_rfl) ((Ext.refl W1).drew) ?_
    (repeat (first | (apply mix_read; (case ho => rfl); (case hw => rfl); (case h1 => intro W' hx; (try dsimp only at hx); go_simp; (try go_bits); with_reducible rfl); (case hp => go_simp; first | done | with_reducible rfl)) | (apply mix_skip; (case ho => rfl); (case hw => rfl); (case hp => go_simp; first | done | with_reducible rfl))))
    refine mix_end 15 (by kernel_rfl) (by kernel_rfl) ?_; simp only [List.take_succ_cons, List.take_zero, List.drop_succ_cons, List.drop_zero]; unfold Q0
    refine Zen keyJob rfl (.tmp 16) (.tmp 18) (.tmp 30) 115 34 rfl Try.underlying115 b es rfl hmp.drew (u, t) (encI ⟨u, t, m⟩) rfl rfl ?_
    rintro W2 h1 h2
    have hx2 : Ext w W2 := Below.grown hxx.drew h2 hxx.drew.size (fun k e => by cases e; omega)
    go_wp2_with fail
    go_roundw
    case rel => exact ⟨k + 1, _, by omega, by go_num, h1, HP.out, hx2⟩
    case measure => simp [RowKit.intOf]; omega
   ·refine Zds (fun W => Ext W1 W) 15 [(0, true), (1, true), (2, true), (3, true), (4, true), (5, true), (6, true), (7, true), (8, true), (9, true), (10, true), (11, true), (12, true), (13, true), (14, true), (15, false)] (by kernel_rfl) (by kernel_rfl) ((Ext.refl W1).drew) ?_
    (repeat (first | (apply mix_read; (case ho => rfl); (case hw => rfl); (case h1 => intro W' hx; (try dsimp only at hx); go_simp; (try go_bits); with_reducible rfl); (case hp => go_simp; first | done | with_reducible rfl)) | (apply mix_skip; (case ho => rfl); (case hw => rfl); (case hp => go_simp; first | done | with_reducible rfl))))
    refine mix_end 15 (by kernel_rfl) (by kernel_rfl) ?_; simp only [List.take_succ_cons, List.take_zero, List.drop_succ_cons, List.drop_zero]; unfold Q0
    refine Zen keyJob rfl (.tmp 16) (.tmp 18) (.tmp 30) 115 34 rfl Try.underlying115 b es rfl hmp.drew (u, t) (encI ⟨u, t, true⟩) rfl rfl ?_
    rintro W2 h1 h2
    have hx2 : Ext w W2 := Below.grown hxx.drew h2 hxx.drew.size (fun k e => by cases e; omega)
    go_wp2_with fail
    go_roundw
    case rel => exact ⟨k + 1, _, by omega, by go_num, h1, HP.out, hx2⟩
    case measure => simp [RowKit.intOf]; omega
  ·obtain rfl : k = l.length := by omega
   rw [List.take_of_length_le (Nat.le_refl _)] at hj
   have hbw : b < wr.heap.size := hmp.lt
   have hbx : wr.heap.size < (wr.alloc (.cells #[.map (some b)] 115)).heap.size := by rw [World.size_alloc]; omega
   have hS := Lib.hid (sortedFunc_calls wr.heap.size b es (wr.alloc (.cells #[.map (some b)] 115)) hbx ((Blk.new wr [.map (some b)] 115).cell 0 rfl) (hmp.ext ((Ext.refl wr).alloc _)) (Nat.le_trans hj.len hlen))
   go_wp2_with (first | (go_at_call 73; refine (keysf b _).mono ?_; rintro e w' ⟨rfl, rfl⟩) | (go_at_call 72; refine hS.out.mono ?_; rintro e W2 ⟨v, ss, rfl, hss, hrow, hbl⟩; obtain ⟨A, cap2, rfl, hcap2, hrd, hlow⟩ := OwnsJ.rd hrow; have HSS := Lib.hid hss; clear hss))
   have hss := HSS.out
   have hx2 : Ext w W2 := Ext.trans (hx.alloc _) hbl
   have hmp2 : RMap encJ W2 b es := hmp.ext (Ext.trans ((Ext.refl wr).alloc _) hbl)
   have hfin := sortedL_of hj.nodup hj.mem
   rw [← hss] at hfin
   have hsl : ss.length ≤ 1000000 := by rw [hss, sortJ_length, List.length_map]; exact Nat.le_trans hj.len hlen
   have hmem : ∀ q ∈ ss, (valOf q es).getD (.agg #[.int .i64 0, .int .u8 0, .bool false]) = encI ⟨q.1, q.2, Zch l q⟩ := fun q hq => by
    have h1 : q ∈ l.map Zaz := by
     rw [hss] at hq
     exact (hj.mem q).1 ((sortJ_perm _).mem_iff.1 hq)
    have := hj.valOf q
    rw [if_pos h1, if_pos h1] at this
    exact this
   clear HSS hS hss hrow hbl hx hmp hj hbx hbw hlow
   go_loopw [36, 6] (fun i v W => ∃ k : Nat, k ≤ ss.length ∧ i = .int .i64 k ∧ W.ownsRow W2.heap.size 34 3 v ((ss.take k).map fun q => (⟨q.1, q.2, Zch l q⟩ : It)).length (Zcq ((ss.take k).map fun q => (⟨q.1, q.2, Zch l q⟩ : It))) ∧ Ext W2 W) (fun i _ _ => ss.length - (RowKit.intOf i).toNat)
   case atStart => exact ⟨0, by omega, rfl, ⟨rfl, .inl ⟨rfl, rfl⟩⟩, Ext.refl _⟩
   case round =>
    obtain ⟨k, hk, rfl, hown, hx⟩ := hrel
    by_cases hlt : k < ss.length
    ·have hlti : (k : Int) < ss.length := by omega
     obtain ⟨b1, o1, u, t, rfl, he, f1, f2⟩ := (hrd.ext hx).at hlt
     have htk : ss.take (k + 1) = ss.take k ++ [(u, t)] := by rw [List.take_succ_eq_append_getElem hlt]; congr 2; rw [List.getElem?_eq_getElem hlt] at he; exact Option.some.inj he
     have hv := hmem (u, t) (List.mem_of_getElem? he)
     have hlk := fun W' (h : Ext W2 W') => (hmp2.ext h).look keyJob Try.underlying115 (zeroItem W') (u, t)
     rw [hv] at hlk
     go_upto_region 11 with (fail)
     refine Zep (fun W => Blk W wr.heap.size [.int .i64 u, .int .u8 t] 32 ∧ Ext W2 W ∧ W.ownsRow W2.heap.size 34 3 u6 ((ss.take k).map fun q => (⟨q.1, q.2, Zch l q⟩ : It)).length (Zcq ((ss.take k).map fun q => (⟨q.1, q.2, Zch l q⟩ : It)))) ⟨Blk.newAt _ _ _ _ rfl, hx.alloc _, Owns.ext hown ((Ext.refl wr).alloc _)⟩ ?_
     obtain ⟨q, hq⟩ : ∃ q, wr.heap.size = q := ⟨_, rfl⟩
     rw [hq]
     clear hown hx f1 f2 hv
     rintro W1 ⟨hbk, hx, hown⟩
     have el : (Instr.lookup 115 (.map (some b)) (.agg #[.int .i64 u, .int .u8 t]) false).run Try.prog W1 = .ok (.agg #[.int .i64 u, .int .u8 t, .bool (Zch l (u, t))]) W1 := hlk W1 hx
     have e0 := hbk.cell 0 rfl
     have e1 := hbk.cell 1 rfl
     have hw1 : W2.heap.size ≤ W1.heap.size := hx.size
     have hzz : ((ss.take (k + 1)).map fun q => (⟨q.1, q.2, Zch l q⟩ : It)) = ((ss.take k).map fun q => (⟨q.1, q.2, Zch l q⟩ : It)) ++ [⟨u, t, Zch l (u, t)⟩] := by rw [htk, List.map_append]; rfl
     have HTK := Lib.hid hzz
     clear hlk htk hzz
     generalize Zch l (u, t) = mu at el HTK
     have hown1 := Owns.ext hown ((Ext.refl W1).alloc (.cells #[.int .i64 u, .int .u8 t, .bool mu] 34))
     go_wp2_with (refine wpList_append_item rfl (.tmp 40) (.tmp 44) rfl W2.heap.size _ _ rfl hown1 W1.heap.size 1 ⟨u, t, mu⟩ rfl (Blk.newAt W1 [.int .i64 u, .int .u8 t, .bool mu] _ _ rfl) (by rw [List.length_map, List.length_take]; omega) (Nat.le_trans hw1 (by rw [World.size_alloc]; omega)) ?_; intro v' W5 o5 g5 s5)
     go_roundw
     case rel => exact ⟨k + 1, by omega, by go_num, by rw [HTK.out]; exact o5, Grown.toExt (hx.alloc _) g5 (fun k hk => (hown1.lt k hk).1)⟩
     case measure => simp [RowKit.intOf]; omega
    ·obtain rfl : k = ss.length := by omega
     rw [List.take_of_length_le (Nat.le_refl _), hfin] at hown
     go_wp2_with fail
     go_ret
     exact ⟨_, rfl, Owns.low hown hx2.size, hx2.trans hx⟩
end Go.Proofs.Ytclgclcoblfddaa
namespace Go.Proofs.Ytclgclcoblfddaa
open Go.RowKit Go.Shelf
set_option linter.unusedVariables false
set_option linter.unusedSimpArgs false
attribute [local go_sem] Oper.semAt_some
set_option maxRecDepth 100000 in
set_option maxHeartbeats 1000000 in
theorem keysM_seq (F : Fence) (n : Nat) (hF : F.fn 69) (hro : F.round = none) (hn : 1 ≤ n) (Bm b : Nat) (es : List ((Int × Int) × Value)) (w : World) (hBm : Bm < w.heap.size)
  (hm : w.cell? ⟨Bm, 0, none⟩ = some (.map (some b))) (hown : RMap encJ w b es) :
  SeqStopsK F n Try.prog 69 #[.pointer (some ⟨Bm, 0, none⟩)] (fun x : Int × Int => #[encJ x]) KeepsWalks (fun xs => xs.Perm (es.map (·.1))) (fun _ => True) es.length w := by
 intro l J Jx W hW hJ hJx hY h0
 have hm' : W.cell? ⟨Bm, 0, none⟩ = some (.map (some b)) := (hW.cell (p := ⟨Bm, 0, none⟩) hBm).trans hm
 have hown' : RMap encJ W b es := (hW.block b hown.lt).trans hown
 refine callsIn_of_wp Try.func69 rfl hF ?_ hro
 simp only [Try.ntmps69, List.size_toArray, List.length_cons, List.length_nil, Nat.reduceAdd, Nat.reduceSub, Array.replicate_succ, Array.replicate_zero, List.push_toArray, List.append_toArray, List.nil_append, List.cons_append]
 gi_wp2_with (first
  | (gi_at_range; refine wpListIn_range rfl _ 82 84 rfl Try.underlying82 b es rfl hown' ?_; intro w0 hown0 hit0 hg0 hs0)
  | gi_in)
 gi_loopw [3] (fun _ wr => ∃ (seen : List Nat), RMap encJ wr b es ∧ Zfc wr W.heap.size b es.length seen ∧ seen.Nodup ∧ (∀ i ∈ seen, i < es.length) ∧ seen.length ≤ es.length ∧ J (Zdg es seen) wr)
  (fun _ wr => es.length - came wr W.heap.size)
 case atStart =>
  exact ⟨[], hown0, hit0, List.nodup_nil, (fun i hi => by cases hi), Nat.zero_le _, hJ [] W w0 none h0 hg0 (fun r e => by cases e)⟩
 case round =>
  obtain ⟨seen, hmp, hit, hnd, hlt, hsl, hJs⟩ := hrel
  gi_wp2_with (first
   | (gi_at_next; refine wpListIn_next rfl _ rfl b W.heap.size es seen rfl hmp hit ?_ ?_)
   | gi_in)
  ·intro hall
   gi_wp2
   go_end0
   exact ⟨⟨_, rfl⟩, .inl ⟨_, keysAt_all hnd hlt hall, hJs⟩⟩
  ·intro i u t v w2 hi hns hmp2 hit2 hg2 hs2 hen
   have hJ2 : J (Zdg es seen) w2 := hJ _ wr w2 (some W.heap.size) hJs hg2 (fun r e => by cases e; exact ⟨Nat.le_refl _, hit.isWalk⟩)
   clear hs2
   have hen' : (Instr.entry (.pointer (some ⟨W.heap.size, 0, none⟩))).run Try.prog w2 = .ok (.tuple #[.agg #[.int .i64 u, .int .u8 t], v]) w2 := hen
   have hcm := Lib.hid hit.came
   clear hen hJs hmp hit
   have hlt2 : i < es.length := (List.getElem?_eq_some_iff.1 hi).1
   have hJ3 : J (Zdg es seen) (w2.alloc (.cells #[.int .i64 u, .int .u8 t] 32)) := hJ _ w2 _ none hJ2 (Ext.grown ((Ext.refl w2).alloc _)) (fun r e => by cases e)
   have hlt3 : ∀ j ∈ seen ++ [i], j < es.length := by
    intro j hj
    rcases List.mem_append.1 hj with h | h
    ·exact hlt j h
    ·rw [List.mem_singleton.1 h]; exact hlt2
   have hnd3 : (seen ++ [i]).Nodup := List.nodup_append.2 ⟨hnd, by simp, fun a ha b hb e => by rw [List.mem_singleton.1 hb] at e; exact hns (e ▸ ha)⟩
   have hsl3 : (seen ++ [i]).length ≤ es.length := by exact nodup_le _ hnd3 hlt3
   obtain ⟨fn, tmps, assign, body, hy, hR⟩ := hY _ (u, t) _ hJ3 (by rw [Zdt hlt]; simp at hsl3; omega)
   have hy : (Instr.yield l #[.agg #[.int .i64 u, .int .u8 t]]).run Try.prog (w2.alloc (.cells #[.int .i64 u, .int .u8 t] 32)) = _ := hy
   have hrg3 := hit2.kept (Ext.grown ((Ext.refl w2).alloc (.cells #[.int .i64 u, .int .u8 t] 32))) (by simp)
   have hmp3 := hmp2.ext ((Ext.refl w2).alloc (.cells #[.int .i64 u, .int .u8 t] 32))
   clear hJ2 hJ3 hmp2 hit2 hg2 hY
   gi_wp2
   refine hR.mono ?_
   rintro e W3 (⟨rfl, hJ4, hk3⟩ | ⟨rfl, hJx⟩)
   ·gi_wp2
    go_roundw
    case rel => exact ⟨seen ++ [i], hmp3.walks hk3, hrg3.walks hk3, hnd3, hlt3, hsl3, by rw [keysAt_snoc hi]; exact hJ4⟩
    case measure =>
     rw [hcm.out, (hrg3.walks hk3).came]
     simp at hsl3 ⊢
     omega
   ·gi_wp2
    refine bodyPost_ret (results_none rfl _ _ _) rfl ?_
    exact ⟨⟨_, rfl⟩, .inr ⟨_, trivial, hJx⟩⟩
theorem keysM_f (b : Nat) (w : World) : Calls Try.prog 45 #[.map (some b)] w fun e w' => e = .returned (.func (.func 69) #[] #[.pointer (some ⟨w.heap.size, 0, none⟩)]) ∧ w' = w.alloc (.cells #[.map (some b)] 82) := by
 go_enter Try.func45, Try.ntmps45
 go_wp2_with fail
 go_ret
 exact ⟨rfl, rfl⟩
theorem collectM_calls (Bm b : Nat) (es : List ((Int × Int) × Value)) (w : World) (hBm : Bm < w.heap.size) (hm : w.cell? ⟨Bm, 0, none⟩ = some (.map (some b))) (hown : RMap encJ w b es) (hN : es.length ≤ 1000000) :
  Calls Try.prog 44 #[.func (.func 69) #[] #[.pointer (some ⟨Bm, 0, none⟩)]] w fun e w' => ∃ (v : Value) (ss : List (Int × Int)), e = .returned v ∧ ss.Perm (es.map (·.1)) ∧ w'.ownsRow w.heap.size 32 2 v ss.length (Zcr ss) ∧ Below w.heap.size w w' :=
 collect_calls 69 #[.pointer (some ⟨Bm, 0, none⟩)] (enters_of Try.func69 (by kernel_rfl) rfl) _ _ hN w (fun n hn => keysM_seq Fence.wide n trivial rfl hn Bm b es w hBm hm hown)
set_option maxRecDepth 100000 in
set_option maxHeartbeats 1000000 in
theorem keysS_seq (F : Fence) (n : Nat) (hF : F.fn 84) (hro : F.round = none) (hn : 1 ≤ n) (Bm b : Nat) (es : List ((Int × Int) × Value)) (w : World) (hBm : Bm < w.heap.size)
  (hm : w.cell? ⟨Bm, 0, none⟩ = some (.map (some b))) (hown : RMap encJ w b es) :
  SeqStopsK F n Try.prog 84 #[.pointer (some ⟨Bm, 0, none⟩)] (fun x : Int × Int => #[encJ x]) KeepsWalks (fun xs => xs.Perm (es.map (·.1))) (fun _ => True) es.length w := by
 intro l J Jx W hW hJ hJx hY h0
 have hm' : W.cell? ⟨Bm, 0, none⟩ = some (.map (some b)) := (hW.cell (p := ⟨Bm, 0, none⟩) hBm).trans hm
 have hown' : RMap encJ W b es := (hW.block b hown.lt).trans hown
 refine callsIn_of_wp Try.func84 rfl hF ?_ hro
 simp only [Try.ntmps84, List.size_toArray, List.length_cons, List.length_nil, Nat.reduceAdd, Nat.reduceSub, Array.replicate_succ, Array.replicate_zero, List.push_toArray, List.append_toArray, List.nil_append, List.cons_append]
 gi_wp2_with (first
  | (gi_at_range; refine wpListIn_range rfl _ 87 3 rfl Try.underlying87 b es rfl hown' ?_; intro w0 hown0 hit0 hg0 hs0)
  | gi_in)
 gi_loopw [3] (fun _ wr => ∃ (seen : List Nat), RMap encJ wr b es ∧ Zfc wr W.heap.size b es.length seen ∧ seen.Nodup ∧ (∀ i ∈ seen, i < es.length) ∧ seen.length ≤ es.length ∧ J (Zdg es seen) wr)
  (fun _ wr => es.length - came wr W.heap.size)
 case atStart =>
  exact ⟨[], hown0, hit0, List.nodup_nil, (fun i hi => by cases hi), Nat.zero_le _, hJ [] W w0 none h0 hg0 (fun r e => by cases e)⟩
 case round =>
  obtain ⟨seen, hmp, hit, hnd, hlt, hsl, hJs⟩ := hrel
  gi_wp2_with (first
   | (gi_at_next; refine wpListIn_next rfl _ rfl b W.heap.size es seen rfl hmp hit ?_ ?_)
   | gi_in)
  ·intro hall
   gi_wp2
   go_end0
   exact ⟨⟨_, rfl⟩, .inl ⟨_, keysAt_all hnd hlt hall, hJs⟩⟩
  ·intro i u t v w2 hi hns hmp2 hit2 hg2 hs2 hen
   have hJ2 : J (Zdg es seen) w2 := hJ _ wr w2 (some W.heap.size) hJs hg2 (fun r e => by cases e; exact ⟨Nat.le_refl _, hit.isWalk⟩)
   clear hs2
   have hen' : (Instr.entry (.pointer (some ⟨W.heap.size, 0, none⟩))).run Try.prog w2 = .ok (.tuple #[.agg #[.int .i64 u, .int .u8 t], v]) w2 := hen
   have hcm := Lib.hid hit.came
   clear hen hJs hmp hit
   have hlt2 : i < es.length := (List.getElem?_eq_some_iff.1 hi).1
   have hJ3 : J (Zdg es seen) (w2.alloc (.cells #[.int .i64 u, .int .u8 t] 32)) := hJ _ w2 _ none hJ2 (Ext.grown ((Ext.refl w2).alloc _)) (fun r e => by cases e)
   have hlt3 : ∀ j ∈ seen ++ [i], j < es.length := by
    intro j hj
    rcases List.mem_append.1 hj with h | h
    ·exact hlt j h
    ·rw [List.mem_singleton.1 h]; exact hlt2
   have hnd3 : (seen ++ [i]).Nodup := List.nodup_append.2 ⟨hnd, by simp, fun a ha b hb e => by rw [List.mem_singleton.1 hb] at e; exact hns (e ▸ ha)⟩
   have hsl3 : (seen ++ [i]).length ≤ es.length := by exact nodup_le _ hnd3 hlt3
   obtain ⟨fn, tmps, assign, body, hy, hR⟩ := hY _ (u, t) _ hJ3 (by rw [Zdt hlt]; simp at hsl3; omega)
   have hy : (Instr.yield l #[.agg #[.int .i64 u, .int .u8 t]]).run Try.prog (w2.alloc (.cells #[.int .i64 u, .int .u8 t] 32)) = _ := hy
   have hrg3 := hit2.kept (Ext.grown ((Ext.refl w2).alloc (.cells #[.int .i64 u, .int .u8 t] 32))) (by simp)
   have hmp3 := hmp2.ext ((Ext.refl w2).alloc (.cells #[.int .i64 u, .int .u8 t] 32))
   clear hJ2 hJ3 hmp2 hit2 hg2 hY
   gi_wp2
   refine hR.mono ?_
   rintro e W3 (⟨rfl, hJ4, hk3⟩ | ⟨rfl, hJx⟩)
   ·gi_wp2
    go_roundw
    case rel => exact ⟨seen ++ [i], hmp3.walks hk3, hrg3.walks hk3, hnd3, hlt3, hsl3, by rw [keysAt_snoc hi]; exact hJ4⟩
    case measure =>
     rw [hcm.out, (hrg3.walks hk3).came]
     simp at hsl3 ⊢
     omega
   ·gi_wp2
    refine bodyPost_ret (results_none rfl _ _ _) rfl ?_
    exact ⟨⟨_, rfl⟩, .inr ⟨_, trivial, hJx⟩⟩
theorem keysS_f (b : Nat) (w : World) : Calls Try.prog 71 #[.map (some b)] w fun e w' => e = .returned (.func (.func 84) #[] #[.pointer (some ⟨w.heap.size, 0, none⟩)]) ∧ w' = w.alloc (.cells #[.map (some b)] 87) := by
 go_enter Try.func71, Try.ntmps71
 go_wp2_with fail
 go_ret
 exact ⟨rfl, rfl⟩
theorem collectS_calls (Bm b : Nat) (es : List ((Int × Int) × Value)) (w : World) (hBm : Bm < w.heap.size) (hm : w.cell? ⟨Bm, 0, none⟩ = some (.map (some b))) (hown : RMap encJ w b es) (hN : es.length ≤ 1000000) :
  Calls Try.prog 44 #[.func (.func 84) #[] #[.pointer (some ⟨Bm, 0, none⟩)]] w fun e w' => ∃ (v : Value) (ss : List (Int × Int)), e = .returned v ∧ ss.Perm (es.map (·.1)) ∧ w'.ownsRow w.heap.size 32 2 v ss.length (Zcr ss) ∧ Below w.heap.size w w' :=
 collect_calls 84 #[.pointer (some ⟨Bm, 0, none⟩)] (enters_of Try.func84 (by kernel_rfl) rfl) _ _ hN w (fun n hn => keysS_seq Fence.wide n trivial rfl hn Bm b es w hBm hm hown)
end Go.Proofs.Ytclgclcoblfddaa
namespace Go.Proofs.Ytclgclcoblfddaa
open Go.RowKit
set_option linter.unusedVariables false
set_option linter.unusedSectionVars false
set_option linter.unusedSimpArgs false
section
variable {α : Type} [DecidableEq α]
theorem valOf_nil (x : α) : valOf x [] = none := rfl
theorem posOf_val {x : α} : ∀ (es : List (α × Value)) (i j : Nat), (posOf x es i).map (·.2) = (posOf x es j).map (·.2)
 | [], _, _ => rfl
 | p :: es, i, j => by
  unfold posOf
  split
  ·rfl
  ·exact posOf_val es _ _
theorem valOf_cons (x : α) (p : α × Value) (es : List (α × Value)) : valOf x (p :: es) = if x = p.1 then some p.2 else valOf x es := by
 unfold valOf
 rw [posOf]
 split
 ·rfl
 ·exact posOf_val es _ _
def putR (x : α) (v : Value) : List (α × Value) → List (α × Value)
 | [] => [(x, v)]
 | p :: es => if x = p.1 then (x, v) :: es else p :: putR x v es
theorem putOf_eqAt (x : α) (v : Value) : ∀ (es : List (α × Value)) (n : Nat), (match posOf x es n with | some (i, _) => es.set (i - n) (x, v) | none => es ++ [(x, v)]) = putR x v es
 | [], _ => rfl
 | p :: es, n => by
  unfold posOf putR
  by_cases h : x = p.1
  ·rw [if_pos h, if_pos h]; simp
  ·rw [if_neg h, if_neg h, ← putOf_eqAt x v es (n + 1)]
   cases hp : posOf x es (n + 1) with
   | none => rfl
   | some q =>
    obtain ⟨i, u⟩ := q
    have := (posOf_get hp).1
    simp only
    rw [show i - n = i - (n + 1) + 1 by omega]
    rfl
theorem putOf_eq (x : α) (v : Value) (es : List (α × Value)) : putOf x v es = putR x v es := putOf_eqAt x v es 0
theorem valOf_put (x : α) (v : Value) (y : α) : ∀ es : List (α × Value), valOf y (putR x v es) = if y = x then some v else valOf y es
 | [] => by unfold putR; rw [valOf_cons]
 | p :: es => by
  unfold putR
  by_cases h : x = p.1
  ·rw [if_pos h, valOf_cons, valOf_cons]
   by_cases h2 : y = x
   ·simp [h2]
   ·rw [if_neg h2, if_neg h2, if_neg (fun e => h2 (e.trans h.symm))]
  ·rw [if_neg h, valOf_cons, valOf_cons, valOf_put x v y es]
   by_cases h2 : y = x
   ·subst h2; simp [h]
   ·simp [h2]
theorem keys_put (x : α) (v : Value) : ∀ es : List (α × Value), (putR x v es).map (·.1) = if x ∈ es.map (·.1) then es.map (·.1) else es.map (·.1) ++ [x]
 | [] => by simp [putR]
 | p :: es => by
  unfold putR
  by_cases h : x = p.1
  ·rw [if_pos h, if_pos (by simp [h])]; simp [h]
  ·rw [if_neg h, List.map_cons, keys_put x v es]
   by_cases h2 : x ∈ es.map (·.1)
   ·rw [if_pos h2, if_pos (by simp only [List.map_cons, List.mem_cons]; exact .inr h2)]; rfl
   ·rw [if_neg h2, if_neg (show ¬ x ∈ (p :: es).map (·.1) from fun hh => (List.mem_cons.1 hh).elim h h2)]; rfl
theorem nodup_len {β : Type} [DecidableEq β] : ∀ {l U : List β}, l.Nodup → (∀ x ∈ l, x ∈ U) → l.length ≤ U.length
 | [], _, _, _ => Nat.zero_le _
 | a :: l, U, hn, hs => by
  rw [List.nodup_cons] at hn
  have h1 : a ∈ U := hs a List.mem_cons_self
  have h2 := nodup_len (U := U.erase a) hn.2 fun x hx => (List.mem_erase_of_ne (fun (e : x = a) => hn.1 (by rw [← e]; exact hx))).2 (hs x (List.mem_cons_of_mem _ hx))
  have h3 := List.length_erase_of_mem h1
  have h4 := List.length_pos_of_mem h1
  simp only [List.length_cons]
  omega
structure FM (es : List (α × Value)) (f : α → Option Value) : Prop where
 nodup : (es.map (·.1)).Nodup
 val : ∀ k, valOf k es = f k
theorem FM.nil : FM ([] : List (α × Value)) fun _ => none := ⟨List.nodup_nil, fun _ => rfl⟩
theorem FM.put {es : List (α × Value)} {f : α → Option Value} (h : FM es f) (x : α) (v : Value) : FM (putOf x v es) fun k => if k = x then some v else f k := by
 rw [putOf_eq]
 refine ⟨?_, fun k => by rw [valOf_put, h.val]⟩
 rw [keys_put]
 split
 ·exact h.nodup
 ·rename_i hn
  exact List.nodup_append.2 ⟨h.nodup, by simp, fun a ha b hb e => by rw [List.mem_singleton.1 hb] at e; exact hn (e ▸ ha)⟩
theorem valOf_mem {x : α} : ∀ {es : List (α × Value)}, (valOf x es).isSome ↔ x ∈ es.map (·.1)
 | [] => by simp [valOf_nil]
 | p :: es => by
  rw [valOf_cons, List.map_cons, List.mem_cons, ← valOf_mem (es := es)]
  split
  ·rename_i h; simp [h]
  ·rename_i h; simp [h]
theorem FM.mem {es : List (α × Value)} {f : α → Option Value} (h : FM es f) (k : α) : k ∈ es.map (·.1) ↔ (f k).isSome := by rw [← h.val, valOf_mem]
theorem valOf_entry : ∀ {es : List (α × Value)}, (es.map (·.1)).Nodup → ∀ {p : α × Value}, p ∈ es → valOf p.1 es = some p.2
 | [], _, p, h => by cases h
 | q :: es, hn, p, h => by
  rw [valOf_cons]
  rw [List.map_cons, List.nodup_cons] at hn
  rcases List.mem_cons.1 h with rfl | h
  ·simp
  ·rw [if_neg (fun (e : p.1 = q.1) => hn.1 (by rw [← e]; exact List.mem_map_of_mem (f := (·.1)) h))]
   exact valOf_entry hn.2 h
theorem FM.entry {es : List (α × Value)} {f : α → Option Value} (h : FM es f) {p : α × Value} (hp : p ∈ es) : f p.1 = some p.2 := by rw [← h.val]; exact valOf_entry h.nodup hp
theorem FM.length {es : List (α × Value)} {f : α → Option Value} (h : FM es f) (U : List α) (hU : ∀ k, (f k).isSome → k ∈ U) : es.length ≤ U.length := by
 have : (es.map (·.1)).length ≤ U.length := nodup_len h.nodup fun k hk => hU k ((h.mem k).1 hk)
 simpa using this
variable {T : TypeId} {enc : α → Value}
theorem find_born (es : List (α × Value)) {i : Nat} (hi : i < es.length) : (ents enc es).toArray.findIdx? (fun e => ((e.born : Nat) : Int) == ((i : Nat) : Int)) = some i := by
 rw [List.findIdx?_toArray, List.findIdx?_eq_some_iff_getElem]
 have key : ∀ j (hj : j < (ents enc es).length), (ents enc es)[j].born = j := fun j hj => by
  have h1 := List.getElem?_eq_getElem hj
  rw [Zfd] at h1
  obtain ⟨p, _, h2⟩ := Option.map_eq_some_iff.1 h1
  rw [← h2]
 refine ⟨by rw [Zev]; exact hi, by rw [key]; simp, fun j hj => ?_⟩
 rw [key]
 simp
 omega
theorem RMap.entry (K : KeyT T enc) {MT E : TypeId} (ht : Try.prog.underlying MT = some (.map T E)) {z : Value} {W : World} (hz : (zeroValue E).run Try.prog W = .ok z W) {b : Nat} {es : List (α × Value)} (h : RMap enc W b es) (x : α) :
  ∃ W' st, (Instr.mapEntry MT (.map (some b)) (enc x)).run Try.prog W = .ok (.tuple #[(valOf x es).getD z, goInt st]) W' ∧ RMap enc W' b (putOf x ((valOf x es).getD z) es) ∧ W.grownBy W' (some b) ∧
   ∀ W2 v, RMap enc W2 b (putOf x ((valOf x es).getD z) es) → ∃ W3, (Instr.entryStore MT (.map (some b)) (goInt st) v).run Try.prog W2 = .ok () W3 ∧ RMap enc W3 b (putOf x v es) ∧ W2.grownBy W3 (some b) := by
 have hgr : ∀ {V : World} {es' : List (α × Value)}, RMap enc V b es' → ∀ o : Obj, V.grownBy { V with heap := V.heap.setIfInBounds b o } (some b) ∧ ({ V with heap := V.heap.setIfInBounds b o } : World).heap[b]? = some o := fun {V es'} hV o => ⟨⟨rfl, rfl, rfl, by simp, fun k hk hne => by
  show (V.heap.setIfInBounds b o)[k]? = V.heap[k]?
  rw [Array.getElem?_setIfInBounds_ne]
  intro e
  exact hne (by rw [e])⟩, by
  show (V.heap.setIfInBounds b o)[b]? = some o
  rw [Array.getElem?_setIfInBounds_self_of_lt hV.lt]⟩
 have store : ∀ (i : Nat) (es1 es2 : List (α × Value)) (v : Value), i < es1.length → (ents enc es1).toArray.modify i (fun e => { e with val := v }) = (ents enc es2).toArray → es1.length = es2.length → ∀ W2, RMap enc W2 b es1 → ∃ W3, (Instr.entryStore MT (.map (some b)) (goInt i) v).run Try.prog W2 = .ok () W3 ∧ RMap enc W3 b es2 ∧ W2.grownBy W3 (some b) := by
  intro i es1 es2 v hi hmod hlen W2 h2
  obtain ⟨g1, g2⟩ := hgr h2 (.map ((ents enc es1).toArray.modify i (fun e => { e with val := v })) es1.length)
  refine ⟨_, ?_, ?_, g1⟩
  ·have h2' := h2
   unfold RMap at h2'
   have hf := find_born (enc := enc) es1 hi
   simp only [Instr.entryStore, Sem.run_bind, getMap h2', Result.andThen_ok, asInt, asIntOf, goInt, Sem.run_pure, hf, setMap _ h2']
  ·unfold RMap
   rw [g2, hmod, hlen]
 have h' := h
 unfold RMap at h'
 cases hp : posOf x es 0 with
 | none =>
  have hv : valOf x es = none := by unfold valOf; rw [hp]; rfl
  have hput : ∀ v, putOf x v es = es ++ [(x, v)] := fun v => by unfold putOf; rw [hp]
  rw [hv, Option.getD_none, hput]
  obtain ⟨g1, g2⟩ := hgr h (.map ((ents enc es).toArray.push { key := enc x, val := z, born := es.length }) (es.length + 1))
  refine ⟨_, es.length, ?_, ?_, g1, fun W2 v h2 => ?_⟩
  ·simp only [Instr.mapEntry, Sem.run_bind, run_underlying ht, Result.andThen_ok, getMap h', K.chk, run_findKey K, hp, hz, setMap _ h', Sem.run_pure]
  ·unfold RMap
   rw [g2, ents_snoc]
   simp
  ·rw [hput]
   refine store es.length (es ++ [(x, z)]) (es ++ [(x, v)]) v (by simp) ?_ (by simp) W2 h2
   apply Array.ext'
   rw [Array.toList_modify]
   simp only [ents_snoc]
   apply List.ext_getElem?
   intro j
   rw [List.getElem?_modify]
   rcases Nat.lt_trichotomy j es.length with hj | hj | hj
   ·rw [List.getElem?_append_left (by rw [Zev]; exact hj), List.getElem?_append_left (by rw [Zev]; exact hj)]
    have : ¬ es.length = j := by omega
    simp [this]
   ·subst hj
    rw [List.getElem?_append_right (by rw [Zev]; exact Nat.le_refl _), List.getElem?_append_right (by rw [Zev]; exact Nat.le_refl _), Zev]
    simp
   ·rw [List.getElem?_eq_none (by simp [Zev]; omega), List.getElem?_eq_none (by simp [Zev]; omega)]
    rfl
 | some q =>
  obtain ⟨i, u⟩ := q
  obtain ⟨_, hi⟩ := posOf_get hp
  rw [Nat.sub_zero] at hi
  have hlt := (List.getElem?_eq_some_iff.1 hi).1
  have hv : valOf x es = some u := by unfold valOf; rw [hp]; rfl
  have hput : ∀ v, putOf x v es = es.set i (x, v) := fun v => by unfold putOf; rw [hp]
  have hself : es.set i (x, u) = es := by
   apply List.ext_getElem?
   intro j
   rw [List.getElem?_set]
   split
   ·rename_i e; subst e; rw [hi]; (try simp [hlt])
   ·rfl
  rw [hv, Option.getD_some, hput, hself]
  have hkey : (Instr.keyThatStays ((((ents enc es).toArray[i]?).map (·.key)).getD (enc x)) (enc x)).run Try.prog W = .ok (enc x) W := by
   rw [List.getElem?_toArray, Zfd, hi]
   simp [Instr.keyThatStays, K.bits, Sem.run_pure]
  have hborn : (((ents enc es).toArray[i]?).map (fun y => ((y.born : Nat) : Int))).getD 0 = (i : Int) := by
   rw [List.getElem?_toArray, Zfd, hi]; rfl
  have hmod : (ents enc es).toArray.modify i (fun e => { e with key := enc x }) = (ents enc es).toArray := by
   apply Array.ext'
   rw [Array.toList_modify]
   apply List.ext_getElem?
   intro j
   rw [List.getElem?_modify, Zfd]
   by_cases e : i = j
   ·subst e; rw [hi]; simp
   ·simp [e]
  obtain ⟨g1, g2⟩ := hgr h (.map ((ents enc es).toArray.modify i (fun e => { e with key := enc x })) es.length)
  refine ⟨_, i, ?_, ?_, g1, fun W2 v h2 => ?_⟩
  ·simp only [Instr.mapEntry, Sem.run_bind, run_underlying ht, Result.andThen_ok, getMap h', K.chk, run_findKey K, hp, hkey, setMap _ h', Sem.run_pure, hborn]
  ·unfold RMap
   rw [g2, hmod]
  ·rw [hput]
   refine store i es _ v hlt ?_ (by simp) W2 h2
   apply Array.ext'
   rw [Array.toList_modify]
   apply List.ext_getElem?
   intro j
   rw [List.getElem?_modify, Zfd, Zfd, List.getElem?_set]
   by_cases e : i = j
   ·subst e; rw [if_pos rfl, if_pos hlt, hi]; simp
   ·simp [e]
end
end Go.Proofs.Ytclgclcoblfddaa
namespace Go.Proofs.Ytclgclcoblfddaa
set_option linter.unusedVariables false
set_option linter.unusedSimpArgs false
inductive Rc {α : Type} (E : α → List α) (S : List α) : α → Prop
 | base {x : α} : x ∈ S → Rc E S x
 | step {x y : α} : Rc E S x → y ∈ E x → Rc E S y
theorem Rc.least {α : Type} {E : α → List α} {S : List α} {T : α → Prop} (h0 : ∀ x ∈ S, T x) (h1 : ∀ x y, T x → y ∈ E x → T y) {x : α} (h : Rc E S x) : T x := by
 induction h with
 | base h => exact h0 _ h
 | step _ h2 ih => exact h1 _ _ ih h2
theorem Rc.mono {α : Type} {E E' : α → List α} {S S' : List α} (hS : ∀ x ∈ S, x ∈ S') (hE : ∀ x y, y ∈ E x → y ∈ E' x) {x : α} (h : Rc E S x) : Rc E' S' x :=
 h.least (fun x hx => .base (hS x hx)) fun x y hx hy => hx.step (hE x y hy)
def growF {α : Type} [DecidableEq α] (E : α → List α) : Nat → List α → List α
 | 0, l => l
 | n + 1, l => match (l.flatMap E).find? (fun y => !decide (y ∈ l)) with
  | none => l
  | some y => growF E n (l ++ [y])
theorem growF_mem {α : Type} [DecidableEq α] (E : α → List α) (U S : List α) (hU : ∀ x y, y ∈ E x → y ∈ U) : ∀ (n : Nat) (e : List α), e.Nodup → (∀ x ∈ e, x ∈ U) → U.length ≤ n + e.length → (∀ x ∈ e, Rc E S x) → ∀ x, x ∈ growF E n (S ++ e) ↔ Rc E S x := by
 have closed : ∀ (e : List α), (∀ x ∈ e, Rc E S x) → (∀ y ∈ (S ++ e).flatMap E, y ∈ S ++ e) → ∀ x, x ∈ S ++ e ↔ Rc E S x := by
  intro e he hc x
  refine ⟨fun h => (List.mem_append.1 h).elim .base (he x), fun h => h.least (T := fun x => x ∈ S ++ e) (fun x hx => List.mem_append_left _ hx) fun x y hx hy => hc y (List.mem_flatMap.2 ⟨x, hx, hy⟩)⟩
 intro n
 induction n with
 | zero =>
  intro e hn hs hl he
  refine closed e he fun y hy => ?_
  obtain ⟨x, hx, hxy⟩ := List.mem_flatMap.1 hy
  refine Classical.byContradiction fun hno => ?_
  have h1 : y ∉ e := fun h => hno (List.mem_append_right _ h)
  have h2 := nodup_len (l := e ++ [y]) (U := U) (List.nodup_append.2 ⟨hn, by simp, fun a ha b hb e' => by rw [List.mem_singleton.1 hb] at e'; exact h1 (e' ▸ ha)⟩) (fun z hz => (List.mem_append.1 hz).elim (hs z) fun h => by rw [List.mem_singleton.1 h]; exact hU _ _ hxy)
  rw [List.length_append] at h2
  simp at h2
  omega
 | succ n ih =>
  intro e hn hs hl he
  unfold growF
  cases hf : ((S ++ e).flatMap E).find? (fun y => !decide (y ∈ S ++ e)) with
  | none =>
   simp only
   refine closed e he fun y hy => ?_
   have := List.find?_eq_none.1 hf y hy
   exact Classical.byContradiction fun hno => this (by simp only [decide_eq_false hno, Bool.not_false])
  | some y =>
   simp only
   have h1 : y ∈ (S ++ e).flatMap E := List.mem_of_find?_eq_some hf
   have h2 : y ∉ S ++ e := by simpa using List.find?_some hf
   obtain ⟨x, hx, hxy⟩ := List.mem_flatMap.1 h1
   have hx' : Rc E S x := (List.mem_append.1 hx).elim .base (he x)
   rw [List.append_assoc]
   refine ih (e ++ [y]) (List.nodup_append.2 ⟨hn, by simp, fun a ha b hb e' => ?_⟩) (fun z hz => ?_) (by rw [List.length_append]; simp; omega) fun z hz => ?_
   ·rw [List.mem_singleton.1 hb] at e'
    exact h2 (List.mem_append_right _ (e' ▸ ha))
   ·rcases List.mem_append.1 hz with h | h
    ·exact hs z h
    ·rw [List.mem_singleton.1 h]; exact hU _ _ hxy
   ·rcases List.mem_append.1 hz with h | h
    ·exact he z h
    ·rw [List.mem_singleton.1 h]; exact hx'.step hxy
def growL {α : Type} [DecidableEq α] (E : α → List α) (U S : List α) : List α := growF E U.length S
theorem growL_mem {α : Type} [DecidableEq α] {E : α → List α} {U S : List α} (hU : ∀ x y, y ∈ E x → y ∈ U) (x : α) : x ∈ growL E U S ↔ Rc E S x := by
 have := growF_mem E U S hU U.length [] List.nodup_nil (fun _ h => by cases h) (by simp) (fun _ h => by cases h) x
 rw [List.append_nil] at this
 exact this
abbrev Jb := Int × Int
def backE (P : Jb → List It) (all : List Jb) (x : Jb) : List Jb := all.filter fun j => (P j).any fun p => p.m && decide (Zaz p = x)
theorem Zdv {P : Jb → List It} {all : List Jb} {x j : Jb} : j ∈ backE P all x ↔ j ∈ all ∧ ∃ p ∈ P j, p.m = true ∧ Zaz p = x := by
 unfold backE
 rw [List.mem_filter, List.any_eq_true]
 simp
def Zdy (P : Jb → List It) (ban all : List Jb) : List Jb := growL (backE P all) all ban
theorem spoil_mem {P : Jb → List It} {ban all : List Jb} (x : Jb) : x ∈ Zdy P ban all ↔ Rc (backE P all) ban x := growL_mem (fun _ _ h => (Zdv.1 h).1) x
theorem spoil_all {P : Jb → List It} {ban all all' : List Jb} (h : ∀ x, x ∈ all ↔ x ∈ all') (x : Jb) : x ∈ Zdy P ban all ↔ x ∈ Zdy P ban all' := by
 rw [spoil_mem, spoil_mem]
 exact ⟨fun hx => hx.mono (fun _ h => h) fun x y hy => Zdv.2 ⟨(h y).1 (Zdv.1 hy).1, (Zdv.1 hy).2⟩, fun hx => hx.mono (fun _ h => h) fun x y hy => Zdv.2 ⟨(h y).2 (Zdv.1 hy).1, (Zdv.1 hy).2⟩⟩
def Zdu (n : Nat) : List Jb := (List.range n).flatMap fun (i : Nat) => [((i : Int), 1), ((i : Int), 2), ((i : Int), 3)]
theorem mem_jobsU {n : Nat} {j : Jb} : j ∈ Zdu n ↔ (0 ≤ j.1 ∧ j.1 < n) ∧ (1 ≤ j.2 ∧ j.2 ≤ 3) := by
 unfold Zdu
 rw [List.mem_flatMap]
 constructor
 ·rintro ⟨i, hi, h⟩
  have hi := List.mem_range.1 hi
  simp only [List.mem_cons, List.not_mem_nil, or_false] at h
  rcases h with rfl | rfl | rfl <;> simp <;> omega
 ·rintro ⟨h1, h2⟩
  refine ⟨j.1.toNat, List.mem_range.2 (by omega), ?_⟩
  obtain ⟨u, t⟩ := j
  simp only at h1 h2
  have hu : ((u.toNat : Nat) : Int) = u := by omega
  have : t = 1 ∨ t = 2 ∨ t = 3 := by omega
  rw [hu]
  rcases this with rfl | rfl | rfl <;> simp
theorem jobsU_length (n : Nat) : (Zdu n).length = 3 * n := by
 unfold Zdu
 induction n with
 | zero => rfl
 | succ n ih => rw [List.range_succ, List.flatMap_append, List.length_append, ih]; simp; omega
def pullE (P : Jb → List It) (bad : Jb → Bool) (x : Jb) : List Jb := ((P x).map Zaz).filter fun y => !bad y
def mustE (P : Jb → List It) (bad : Jb → Bool) (x : Jb) : List Jb := (((P x).filter (·.m)).map Zaz).filter fun y => !bad y
theorem Zdn {P : Jb → List It} {bad : Jb → Bool} {x y : Jb} : y ∈ pullE P bad x ↔ (∃ p ∈ P x, Zaz p = y) ∧ bad y = false := by
 unfold pullE
 rw [List.mem_filter, List.mem_map]
 simp
theorem mem_mustE {P : Jb → List It} {bad : Jb → Bool} {x y : Jb} : y ∈ mustE P bad x ↔ (∃ p ∈ P x, p.m = true ∧ Zaz p = y) ∧ bad y = false := by
 unfold mustE
 rw [List.mem_filter, List.mem_map]
 simp [and_assoc]
def Zdb (P : Jb → List It) (U : List Jb) (bad : Jb → Bool) (a : Jb) : List Jb := growL (pullE P bad) U [a]
def mustL (P : Jb → List It) (U : List Jb) (bad : Jb → Bool) (a : Jb) : List Jb := growL (mustE P bad) U [a]
def Tame (P : Jb → List It) (U : List Jb) : Prop := ∀ x, ∀ p ∈ P x, Zaz p ∈ U ∧ Zaz p ≠ x
theorem Zel {P : Jb → List It} {U : List Jb} (hT : Tame P U) (bad : Jb → Bool) (a x : Jb) : x ∈ Zdb P U bad a ↔ Rc (pullE P bad) [a] x :=
 growL_mem (fun x y h => by obtain ⟨⟨p, hp, rfl⟩, _⟩ := Zdn.1 h; exact (hT x p hp).1) x
theorem must_mem {P : Jb → List It} {U : List Jb} (hT : Tame P U) (bad : Jb → Bool) (a x : Jb) : x ∈ mustL P U bad a ↔ Rc (mustE P bad) [a] x :=
 growL_mem (fun x y h => by obtain ⟨⟨p, hp, _, rfl⟩, _⟩ := mem_mustE.1 h; exact (hT x p hp).1) x
abbrev Met := Jb → Option Bool
def metOne (bad : Jb → Bool) (j : Jb) (s : Met × List Jb) (p : It) : Met × List Jb :=
 if bad (Zaz p) || (match s.1 (Zaz p) with | some now => now || !p.m || !((s.1 j).getD false) | none => false) then s
 else (fun k => if k = Zaz p then some (p.m && (s.1 j).getD false) else s.1 k, s.2 ++ [Zaz p])
def rank : Option Bool → Nat
 | none => 2
 | some false => 1
 | some true => 0
def left (U : List Jb) (f : Met) : Nat := (U.map fun k => rank (f k)).foldr (· + ·) 0
theorem left_upd {f : Met} {x : Jb} {b : Bool} (hr : rank (some b) < rank (f x)) : ∀ {U : List Jb}, U.Nodup → x ∈ U → left U (fun k => if k = x then some b else f k) + 1 ≤ left U f
 | [], _, h => by cases h
 | y :: U, hn, h => by
  rw [List.nodup_cons] at hn
  have key : ∀ V : List Jb, left V (fun k => if k = x then some b else f k) ≤ left V f := by
   intro V
   induction V with
   | nil => exact Nat.le_refl _
   | cons z V ih =>
    have e : ∀ g : Met, left (z :: V) g = rank (g z) + left V g := fun _ => rfl
    rw [e, e]
    have : rank (if z = x then some b else f z) ≤ rank (f z) := by
     split
     ·rename_i h; subst h; omega
     ·exact Nat.le_refl _
    omega
  have e : ∀ g : Met, left (y :: U) g = rank (g y) + left U g := fun _ => rfl
  rw [e, e]
  by_cases hy : y = x
  ·subst hy
   have := key U
   simp only [if_true]
   omega
  ·have h' : x ∈ U := (List.mem_cons.1 h).resolve_left fun e => hy e.symm
   have := left_upd hr hn.2 h'
   simp only [if_neg hy]
   omega
structure Srch (P : Jb → List It) (U : List Jb) (bad : Jb → Bool) (a : Jb) (f : Met) (todo : List Jb) (now : Option (Jb × List It)) : Prop where
 start : f a = some true
 pull : ∀ k, (f k).isSome → Rc (pullE P bad) [a] k
 must : ∀ k, f k = some true → Rc (mustE P bad) [a] k
 tod : ∀ k ∈ todo, (f k).isSome
 cur : ∀ j l, now = some (j, l) → (f j).isSome ∧ ∃ done, P j = done ++ l ∧ ∀ p ∈ done, bad (Zaz p) = false → (f (Zaz p)).isSome ∧ (p.m = true → f j = some true → f (Zaz p) = some true)
 done : ∀ j, (f j).isSome → j ∉ todo → (∀ l, now ≠ some (j, l)) → ∀ p ∈ P j, bad (Zaz p) = false → (f (Zaz p)).isSome ∧ (p.m = true → f j = some true → f (Zaz p) = some true)
theorem Srch.first (P : Jb → List It) (U : List Jb) (bad : Jb → Bool) (a : Jb) : Srch P U bad a (fun k => if k = a then some true else none) [a] none where
 start := if_pos rfl
 pull k h := by
  by_cases e : k = a
  ·subst e; exact .base (List.mem_singleton.2 rfl)
  ·rw [if_neg e] at h; cases h
 must k h := by
  by_cases e : k = a
  ·subst e; exact .base (List.mem_singleton.2 rfl)
  ·rw [if_neg e] at h; cases h
 tod k h := by rw [List.mem_singleton.1 h]; simp
 cur j l h := by cases h
 done j h1 h2 _ := by
  by_cases e : j = a
  ·subst e; exact absurd (List.mem_singleton.2 rfl) h2
  ·rw [if_neg e] at h1; cases h1
theorem Srch.pop {P : Jb → List It} {U : List Jb} {bad : Jb → Bool} {a j : Jb} {f : Met} {todo : List Jb} (h : Srch P U bad a f (j :: todo) none) : Srch P U bad a f todo (some (j, P j)) where
 start := h.start
 pull := h.pull
 must := h.must
 tod k hk := h.tod k (List.mem_cons_of_mem _ hk)
 cur j' l e := by
  cases e
  exact ⟨h.tod _ List.mem_cons_self, [], rfl, fun _ hp => by cases hp⟩
 done j' h1 h2 h3 := h.done j' h1 (fun hm => (List.mem_cons.1 hm).elim (fun e => h3 (P j) (by rw [e])) h2) (fun l => by simp)
theorem Srch.end {P : Jb → List It} {U : List Jb} {bad : Jb → Bool} {a j : Jb} {f : Met} {todo : List Jb} (h : Srch P U bad a f todo (some (j, []))) : Srch P U bad a f todo none where
 start := h.start
 pull := h.pull
 must := h.must
 tod := h.tod
 cur j' l e := by cases e
 done j' h1 h2 _ := by
  by_cases e : j' = j
  ·subst e
   obtain ⟨_, dn, e1, e2⟩ := h.cur j' [] rfl
   rw [List.append_nil] at e1
   rw [e1]
   exact e2
  ·exact h.done j' h1 h2 (fun l e' => by cases e'; exact e rfl)
theorem Srch.one {P : Jb → List It} {U : List Jb} (hT : Tame P U) (hU : U.Nodup) {bad : Jb → Bool} {a j : Jb} {f : Met} {todo : List Jb} {p : It} {l : List It} (h : Srch P U bad a f todo (some (j, p :: l))) :
  Srch P U bad a (metOne bad j (f, todo) p).1 (metOne bad j (f, todo) p).2 (some (j, l)) ∧ (metOne bad j (f, todo) p).2.length + left U (metOne bad j (f, todo) p).1 ≤ todo.length + left U f := by
 obtain ⟨hj, dn, e1, e2⟩ := h.cur j _ rfl
 have hp : p ∈ P j := by rw [e1]; simp
 obtain ⟨hpU, hpj⟩ := hT j p hp
 unfold metOne
 by_cases hb : bad (Zaz p) = true
 ·rw [if_pos (by simp [hb])]
  refine ⟨⟨h.start, h.pull, h.must, h.tod, fun j' l' e => ?_, fun j' h1 h2 h3 => h.done j' h1 h2 fun l' e => by cases e; exact h3 l rfl⟩, Nat.le_refl _⟩
  cases e
  refine ⟨hj, dn ++ [p], by rw [e1]; simp, fun q hq hqb => ?_⟩
  rcases List.mem_append.1 hq with hq | hq
  ·exact e2 q hq hqb
  ·rw [List.mem_singleton.1 hq, hb] at hqb; cases hqb
 ·have hb : bad (Zaz p) = false := by simpa using hb
  obtain ⟨b, hfj⟩ := Option.isSome_iff_exists.1 hj
  have Zcc : Rc (pullE P bad) [a] (Zaz p) := (h.pull j hj).step (Zdn.2 ⟨⟨p, hp, rfl⟩, hb⟩)
  have raise : ∀ (c : Bool), rank (some c) < rank (f (Zaz p)) → (c = true → p.m = true ∧ b = true) → (p.m = true → b = true → c = true) → 
    Srch P U bad a (fun k => if k = Zaz p then some c else f k) (todo ++ [Zaz p]) (some (j, l)) ∧ (todo ++ [Zaz p]).length + left U (fun k => if k = Zaz p then some c else f k) ≤ todo.length + left U f := by
   intro c hr hc1 hc2
   have hup : ∀ k, (f k).isSome → ((fun k => if k = Zaz p then some c else f k) k).isSome := fun k hk => by
    show (if k = Zaz p then some c else f k).isSome = true
    split
    ·rfl
    ·exact hk
   have hut : ∀ k, f k = some true → (fun k => if k = Zaz p then some c else f k) k = some true := fun k hk => by
    show (if k = Zaz p then some c else f k) = some true
    split
    ·rename_i e; subst e; rw [hk] at hr; exact absurd hr (by simp [rank])
    ·exact hk
   have hjj : (if j = Zaz p then some c else f j) = f j := if_neg fun e => hpj e.symm
   have hne : a ≠ Zaz p := fun e => by rw [← e, h.start] at hr; exact absurd hr (by simp [rank])
   refine ⟨⟨hut a h.start, fun k hk => ?_, fun k hk => ?_, fun k hk => ?_, fun j' l' e => ?_, fun j' h1 h2 h3 q hq hqb => ?_⟩, ?_⟩
   ·by_cases e : k = Zaz p
    ·rw [e]; exact Zcc
    ·exact h.pull k (by simpa [e] using hk)
   ·by_cases e : k = Zaz p
    ·subst e
     have hk : some c = some true := by simpa using hk
     obtain ⟨hm, hbt⟩ := hc1 (Option.some.inj hk)
     exact (h.must j (by rw [hfj, hbt])).step (mem_mustE.2 ⟨⟨p, hp, hm, rfl⟩, hb⟩)
    ·exact h.must k (by simpa [e] using hk)
   ·rcases List.mem_append.1 hk with hk | hk
    ·exact hup k (h.tod k hk)
    ·rw [List.mem_singleton.1 hk]
     show (if Zaz p = Zaz p then some c else f (Zaz p)).isSome = true
     rw [if_pos rfl]; rfl
   ·cases e
    refine ⟨hup j hj, dn ++ [p], by rw [e1]; simp, fun q hq hqb => ?_⟩
    rcases List.mem_append.1 hq with hq | hq
    ·obtain ⟨q1, q2⟩ := e2 q hq hqb
     exact ⟨hup _ q1, fun hm hjt => hut _ (q2 hm (by rw [← hjj]; exact hjt))⟩
    ·rw [List.mem_singleton.1 hq]
     refine ⟨by show (if Zaz p = Zaz p then some c else f (Zaz p)).isSome = true; rw [if_pos rfl]; rfl, fun hm hjt => ?_⟩
     have hjt : f j = some true := by rw [← hjj]; exact hjt
     rw [hfj] at hjt
     show (if Zaz p = Zaz p then some c else f (Zaz p)) = some true
     rw [if_pos rfl, hc2 hm (Option.some.inj hjt)]
   ·have hjn : j' ≠ Zaz p := fun e => h2 (by rw [e]; simp)
    have hfe : (if j' = Zaz p then some c else f j') = f j' := if_neg hjn
    have h1 : (f j').isSome := by rw [← hfe]; exact h1
    obtain ⟨q1, q2⟩ := h.done j' h1 (fun hm => h2 (List.mem_append_left _ hm)) (fun l' e => by cases e; exact h3 l rfl) q hq hqb
    exact ⟨hup _ q1, fun hm hjt => hut _ (q2 hm (by rw [← hfe]; exact hjt))⟩
   ·have := left_upd hr hU hpU
    rw [List.length_append]
    simp only [List.length_cons, List.length_nil]
    omega
  have stay : (f (Zaz p)).isSome → (p.m = true → b = true → f (Zaz p) = some true) → Srch P U bad a f todo (some (j, l)) := by
   intro hs hm
   refine ⟨h.start, h.pull, h.must, h.tod, fun j' l' e => ?_, fun j' h1 h2 h3 => h.done j' h1 h2 fun l' e => by cases e; exact h3 l rfl⟩
   cases e
   refine ⟨hj, dn ++ [p], by rw [e1]; simp, fun q hq hqb => ?_⟩
   rcases List.mem_append.1 hq with hq | hq
   ·exact e2 q hq hqb
   ·rw [List.mem_singleton.1 hq]
    exact ⟨hs, fun h1 h2 => hm h1 (by rw [hfj] at h2; exact Option.some.inj h2)⟩
  simp only [hb, hfj, Bool.false_or, Option.getD_some]
  cases hf : f (Zaz p) with
  | none =>
   simp only [Bool.false_eq_true, if_false]
   refine raise (p.m && b) ?_ (fun h => by simpa using h) (fun h1 h2 => by simp [h1, h2])
   rw [hf]
   cases p.m && b <;> simp [rank]
  | some now =>
   simp only
   by_cases hc : (now || !p.m || !b) = true
   ·rw [if_pos hc]
    refine ⟨stay (by rw [hf]; rfl) fun h1 h2 => ?_, Nat.le_refl _⟩
    rw [hf]
    rw [h1, h2] at hc
    simpa using hc
   ·rw [if_neg hc]
    have hc : now = false ∧ p.m = true ∧ b = true := by
     cases now <;> cases hm : p.m <;> cases b <;> simp_all
    refine raise (p.m && b) ?_ (fun h => by simpa using h) (fun h1 h2 => by simp [h1, h2])
    rw [hf, hc.1, hc.2.1, hc.2.2]
    simp [rank]
theorem Srch.fin {P : Jb → List It} {U : List Jb} (hT : Tame P U) {bad : Jb → Bool} {a : Jb} {f : Met} (h : Srch P U bad a f [] none) (k : Jb) :
  f k = if k ∈ Zdb P U bad a then some (decide (k ∈ mustL P U bad a)) else none := by
 have h1 : ∀ x, Rc (pullE P bad) [a] x → (f x).isSome := fun x hx => hx.least (T := fun x => (f x).isSome = true)
  (fun x hx => by rw [List.mem_singleton.1 hx, h.start]; rfl) fun x y hx hy => by
   obtain ⟨⟨p, hp, rfl⟩, hb⟩ := Zdn.1 hy
   exact (h.done x hx (by simp) (fun _ e => by cases e) p hp hb).1
 have h2 : ∀ x, Rc (mustE P bad) [a] x → f x = some true := fun x hx => hx.least (T := fun x => f x = some true)
  (fun x hx => by rw [List.mem_singleton.1 hx, h.start]) fun x y hx hy => by
   obtain ⟨⟨p, hp, hm, rfl⟩, hb⟩ := mem_mustE.1 hy
   exact (h.done x (by rw [hx]; rfl) (by simp) (fun _ e => by cases e) p hp hb).2 hm hx
 by_cases hk : k ∈ Zdb P U bad a
 ·rw [if_pos hk]
  obtain ⟨b, hb⟩ := Option.isSome_iff_exists.1 (h1 k ((Zel hT bad a k).1 hk))
  rw [hb]
  congr 1
  cases b with
  | true => exact (decide_eq_true ((must_mem hT bad a k).2 (h.must k hb))).symm
  | false => exact (decide_eq_false fun hm => by have := h2 k ((must_mem hT bad a k).1 hm); rw [hb] at this; cases this).symm
 ·rw [if_neg hk]
  cases hf : f k with
  | none => rfl
  | some b => exact absurd ((Zel hT bad a k).2 (h.pull k (by rw [hf]; rfl))) hk
def marked (B : Jb → Bool) (y : Jb) : Jb → Bool := fun k => B k || decide (k = y)
def markOne (s : (Jb → Bool) × List Jb) (y : Jb) : (Jb → Bool) × List Jb := if s.1 y then s else (marked s.1 y, s.2 ++ [y])
def free (U : List Jb) (B : Jb → Bool) : Nat := (U.filter fun x => !B x).length
theorem free_mark {B : Jb → Bool} {y : Jb} (hy : B y = false) : ∀ {U : List Jb}, y ∈ U → free U (marked B y) + 1 ≤ free U B := by
 have cons : ∀ (C : Jb → Bool) (z : Jb) (V : List Jb), free (z :: V) C = (if C z then 0 else 1) + free V C := by
  intro C z V
  unfold free
  rw [List.filter_cons]
  cases C z <;> simp <;> omega
 have key : ∀ V : List Jb, free V (marked B y) ≤ free V B := by
  intro V
  induction V with
  | nil => exact Nat.le_refl _
  | cons z V ih =>
   rw [cons, cons]
   have : (if marked B y z then 0 else 1) ≤ (if B z then 0 else 1) := by
    unfold marked
    cases B z <;> cases decide (z = y) <;> simp
   omega
 intro U
 induction U with
 | nil => intro h; cases h
 | cons z U ih =>
  intro h
  rw [cons, cons]
  by_cases e : z = y
  ·have := key U
   subst e
   have h1 : marked B z z = true := by unfold marked; simp
   rw [h1, hy]
   simp
   omega
  ·have h' : y ∈ U := (List.mem_cons.1 h).resolve_left fun e2 => e e2.symm
   have := ih h'
   have h2 : (if marked B y z then 0 else 1) ≤ (if B z then 0 else 1) := by
    unfold marked
    cases B z <;> cases decide (z = y) <;> simp
   omega
structure Stk (E : Jb → List Jb) (ban : List Jb) (B : Jb → Bool) (todo : List Jb) (now : Option (Jb × List Jb)) : Prop where
 bn : ∀ x ∈ ban, B x = true
 rc : ∀ x, B x = true → Rc E ban x
 tod : ∀ x ∈ todo, B x = true
 cur : ∀ j l, now = some (j, l) → B j = true ∧ ∃ done, E j = done ++ l ∧ ∀ y ∈ done, B y = true
 done : ∀ x, B x = true → x ∉ todo → (∀ l, now ≠ some (x, l)) → ∀ y ∈ E x, B y = true
theorem Stk.first {E : Jb → List Jb} {ban todo : List Jb} {B : Jb → Bool} (h1 : ∀ x, B x = true ↔ x ∈ ban) (h2 : ∀ x ∈ ban, x ∈ todo) (h3 : ∀ x ∈ todo, x ∈ ban) : Stk E ban B todo none where
 bn x hx := (h1 x).2 hx
 rc x hx := .base ((h1 x).1 hx)
 tod x hx := (h1 x).2 (h3 x hx)
 cur j l e := by cases e
 done x hx hn _ := absurd (h2 x ((h1 x).1 hx)) hn
theorem Stk.pop {E : Jb → List Jb} {ban todo : List Jb} {B : Jb → Bool} {j : Jb} (h : Stk E ban B (todo ++ [j]) none) : Stk E ban B todo (some (j, E j)) where
 bn := h.bn
 rc := h.rc
 tod x hx := h.tod x (List.mem_append_left _ hx)
 cur j' l e := by
  cases e
  exact ⟨h.tod _ (by simp), [], rfl, fun _ hp => by cases hp⟩
 done x h1 h2 h3 := h.done x h1 (fun hm => (List.mem_append.1 hm).elim h2 fun e => h3 (E j) (by rw [List.mem_singleton.1 e])) (fun l => by simp)
theorem Stk.end {E : Jb → List Jb} {ban todo : List Jb} {B : Jb → Bool} {j : Jb} (h : Stk E ban B todo (some (j, []))) : Stk E ban B todo none where
 bn := h.bn
 rc := h.rc
 tod := h.tod
 cur j' l e := by cases e
 done x h1 h2 _ := by
  by_cases e : x = j
  ·subst e
   obtain ⟨_, dn, e1, e2⟩ := h.cur x [] rfl
   rw [List.append_nil] at e1
   rw [e1]
   exact e2
  ·exact h.done x h1 h2 (fun l e' => by cases e'; exact e rfl)
theorem Stk.one {E : Jb → List Jb} {ban todo : List Jb} {B : Jb → Bool} {j y : Jb} {l U : List Jb} (hU : ∀ x y, y ∈ E x → y ∈ U) (h : Stk E ban B todo (some (j, y :: l))) :
  Stk E ban (markOne (B, todo) y).1 (markOne (B, todo) y).2 (some (j, l)) ∧ (markOne (B, todo) y).2.length + free U (markOne (B, todo) y).1 ≤ todo.length + free U B := by
 obtain ⟨hj, dn, e1, e2⟩ := h.cur j _ rfl
 have hy : y ∈ E j := by rw [e1]; simp
 unfold markOne
 by_cases hb : B y = true
 ·rw [if_pos hb]
  refine ⟨⟨h.bn, h.rc, h.tod, fun j' l' e => ?_, fun x h1 h2 h3 => h.done x h1 h2 fun l' e => by cases e; exact h3 l rfl⟩, Nat.le_refl _⟩
  cases e
  refine ⟨hj, dn ++ [y], by rw [e1]; simp, fun z hz => ?_⟩
  rcases List.mem_append.1 hz with hz | hz
  ·exact e2 z hz
  ·rw [List.mem_singleton.1 hz]; exact hb
 ·rw [if_neg hb]
  have hb' : B y = false := by simpa using hb
  have up : ∀ x, B x = true → marked B y x = true := fun x hx => by unfold marked; rw [hx]; rfl
  have hyy : marked B y y = true := by unfold marked; simp
  have dn' : ∀ x, marked B y x = true → B x = true ∨ x = y := fun x hx => by unfold marked at hx; simpa using hx
  refine ⟨⟨fun x hx => up x (h.bn x hx), fun x hx => ?_, fun x hx => ?_, fun j' l' e => ?_, fun x h1 h2 h3 z hz => ?_⟩, ?_⟩
  ·rcases dn' x hx with hx | rfl
   ·exact h.rc x hx
   ·exact (h.rc j hj).step hy
  ·rcases List.mem_append.1 hx with hx | hx
   ·exact up x (h.tod x hx)
   ·rw [List.mem_singleton.1 hx]; exact hyy
  ·cases e
   refine ⟨up j hj, dn ++ [y], by rw [e1]; simp, fun z hz => ?_⟩
   rcases List.mem_append.1 hz with hz | hz
   ·exact up z (e2 z hz)
   ·rw [List.mem_singleton.1 hz]; exact hyy
  ·rcases dn' x h1 with h1 | rfl
   ·exact up z (h.done x h1 (fun hm => h2 (List.mem_append_left _ hm)) (fun l' e => by cases e; exact h3 l rfl) z hz)
   ·exact absurd (List.mem_append_right _ (List.mem_singleton.2 rfl)) h2
  ·have := free_mark hb' (hU j y hy)
   rw [List.length_append]
   simp only [List.length_cons, List.length_nil]
   omega
theorem Stk.fin {E : Jb → List Jb} {ban : List Jb} {B : Jb → Bool} (h : Stk E ban B [] none) (x : Jb) : B x = true ↔ Rc E ban x :=
 ⟨h.rc x, fun hx => hx.least (T := fun x => B x = true) h.bn fun x y hx hy => h.done x hx (by simp) (fun _ e => by cases e) y hy⟩
theorem exists_least : ∃ μ : (Nat → Prop) → Nat, ∀ R : Nat → Prop, (∃ n, R n) → R (μ R) ∧ ∀ n, R n → μ R ≤ n := by
 have key : ∀ R : Nat → Prop, ∃ m, (∃ n, R n) → R m ∧ ∀ n, R n → m ≤ n := by
  intro R
  by_cases h : ∃ n, R n
  ·have : ∀ k n, R n → n ≤ k → ∃ m, R m ∧ ∀ n, R n → m ≤ n := by
    intro k
    induction k with
    | zero => exact fun n hn hk => ⟨n, hn, fun i _ => by omega⟩
    | succ k ih =>
     intro n hn hk
     by_cases h2 : ∃ i, R i ∧ i < n
     ·obtain ⟨i, hi, hl⟩ := h2
      exact ih i hi (by omega)
     ·exact ⟨n, hn, fun i hi => Nat.le_of_not_lt fun hl => h2 ⟨i, hi, hl⟩⟩
   obtain ⟨n, hn⟩ := h
   obtain ⟨m, hm⟩ := this n n hn (Nat.le_refl _)
   exact ⟨m, fun _ => hm⟩
  ·exact ⟨0, fun h2 => absurd h2 h⟩
 exact ⟨fun R => Classical.choose (key R), fun R h => Classical.choose_spec (key R) h⟩
end Go.Proofs.Ytclgclcoblfddaa
namespace Go.Proofs.Ytclgclcoblfddaa
open Go.RowKit Go.Shelf
set_option linter.unusedVariables false
set_option linter.unusedSimpArgs false
def one? (b : Bool) : Option Value := if b then some (.int .i64 1) else none
def SetM (W : World) (b : Nat) (B : Jb → Bool) : Prop := ∃ es, RMap encJ W b es ∧ FM es fun k => one? (B k)
theorem SetM.ext {W W' : World} {b : Nat} {B : Jb → Bool} (h : SetM W b B) (hx : Ext W W') : SetM W' b B := by
 obtain ⟨es, h1, h2⟩ := h
 exact ⟨es, h1.ext hx, h2⟩
theorem SetM.kept {W W' : World} {b : Nat} {B : Jb → Bool} (h : SetM W b B) {row : Option Nat} (hg : W.grownBy W' row) (hne : some b ≠ row) : SetM W' b B := by
 obtain ⟨es, h1, h2⟩ := h
 exact ⟨es, h1.kept hg hne, h2⟩
theorem SetM.lt {W : World} {b : Nat} {B : Jb → Bool} (h : SetM W b B) : b < W.heap.size := by
 obtain ⟨es, h1, h2⟩ := h
 exact h1.lt
theorem one_put {B : Jb → Bool} (x : Jb) : (fun k => if k = x then some (Value.int .i64 1) else one? (B k)) = fun k => one? (marked B x k) := by
 funext k
 unfold one? marked
 by_cases h : k = x <;> simp [h]
theorem zeroInt' (w : World) : (zeroValue 3).run Try.prog w = .ok (.int .i64 0) w := by kernel_rfl
theorem SetM.look {W : World} {b : Nat} {B : Jb → Bool} (h : SetM W b B) (u t : Int) :
  (Instr.lookup 87 (.map (some b)) (.agg #[.int .i64 u, .int .u8 t]) false).run Try.prog W = .ok (.int .i64 (if B (u, t) then 1 else 0)) W := by
 obtain ⟨es, h1, h2⟩ := h
 have := h1.look keyJob Try.underlying87 (zeroInt' W) (u, t)
 rw [h2.val] at this
 rw [show (Value.agg #[.int .i64 u, .int .u8 t]) = encJ (u, t) from rfl, this]
 unfold one?
 cases B (u, t) <;> rfl
theorem lookSet_nil (W : World) (u t : Int) : (Instr.lookup 87 (.map none) (.agg #[.int .i64 u, .int .u8 t]) false).run Try.prog W = .ok (.int .i64 0) W :=
 look_nil keyJob Try.underlying87 (zeroInt' W) (u, t)
set_option maxHeartbeats 1000000 in
theorem setOf_calls (l : List Jb) (A : Option Addr) (cap : Nat) (w : World) (hr : RdJ w A l) (hlen : l.length ≤ 1000000) :
  Calls Try.prog 70 #[.slice A l.length cap] w fun e w' => ∃ b, e = .returned (.map (some b)) ∧ w.heap.size ≤ b ∧ SetM w' b (fun k => decide (k ∈ l)) ∧ Ext w w' := by
 go_enter Try.func70, Try.ntmps70
 have hmm := @run_makeMap Try.prog
 go_upto_region 2 with (fail)
 refine Zep (fun W => RMap encJ W w.heap.size ([] : List ((Int × Int) × Value)) ∧ Ext w W) ⟨RMap.made encJ w, (Ext.refl w).alloc _⟩ ?_
 obtain ⟨b, hb⟩ : ∃ b, w.heap.size = b := ⟨_, rfl⟩
 rw [hb]
 rintro W0 ⟨hm0, hx0⟩
 clear hmm
 go_wp2_with fail
 go_loopw [9] (fun i W => ∃ (k : Nat) (es : List ((Int × Int) × Value)), k ≤ l.length ∧ i = .int .i64 k ∧ RMap encJ W b es ∧ FM es (fun q => one? (decide (q ∈ l.take k))) ∧ Ext w W) (fun i _ => l.length - (RowKit.intOf i).toNat)
 case atStart => exact ⟨0, [], by omega, rfl, hm0, FM.nil, hx0⟩
 case round =>
  clear hm0 hx0
  obtain ⟨k, es, hk, rfl, hmp, hj, hx⟩ := hrel
  by_cases hlt : k < l.length
  ·have hlti : (k : Int) < l.length := by omega
   obtain ⟨b1, o1, u, t, rfl, he, f1, f2⟩ := (hr.ext hx).at hlt
   have htk : l.take (k + 1) = l.take k ++ [(u, t)] := by rw [List.take_succ_eq_append_getElem hlt]; congr 2; rw [List.getElem?_eq_getElem hlt] at he; exact Option.some.inj he
   have hp := hj.put (u, t) (.int .i64 1)
   have hfe : (fun q : Jb => if q = (u, t) then some (Value.int .i64 1) else one? (decide (q ∈ l.take k))) = fun q => one? (decide (q ∈ l.take (k + 1))) := by
    funext q
    rw [htk]
    unfold one?
    by_cases h : q = (u, t) <;> simp [h]
   rw [hfe] at hp
   have HP := Lib.hid hp
   have hbw := hmp.lt
   have hwb : w.heap.size ≤ wr.heap.size := hx.size
   clear hp htk he hfe
   go_wp2_with (refine Zen keyJob rfl (.tmp 13) (.tmp 14) (.const (.int .i64 1)) 87 3 rfl Try.underlying87 b es rfl (hmp.ext ((Ext.refl wr).alloc _)) (u, t) (.int .i64 1) rfl rfl ?_; rintro W2 h1 h2)
   go_roundw
   case rel => exact ⟨k + 1, _, by omega, by go_num, h1, HP.out, Below.grown (hx.alloc _) h2 (hx.alloc _).size (fun k e => by cases e; omega)⟩
   case measure => simp [RowKit.intOf]; omega
  ·obtain rfl : k = l.length := by omega
   rw [List.take_of_length_le (Nat.le_refl _)] at hj
   go_wp2_with fail
   go_ret
   exact ⟨b, rfl, by omega, ⟨es, hmp, hj⟩, hx⟩
end Go.Proofs.Ytclgclcoblfddaa
namespace Go.Proofs.Ytclgclcoblfddaa
open Go.RowKit Go.Lib
set_option linter.unusedVariables false
set_option linter.unusedSimpArgs false
def knownB (t : Int) : Bool := decide (1 ≤ t) && decide (t ≤ 3)
theorem known_calls (t : Int) (w : World) : Calls Try.prog 43 #[.int .u8 t] w fun e w' => e = .returned (.bool (knownB t)) ∧ w' = w := by
 unfold knownB
 by_cases h1 : 1 ≤ t
 ·by_cases h2 : t ≤ 3
  ·simp only [h1, h2, decide_true, Bool.and_self]
   go_enter Try.func43, Try.ntmps43
   go_wp2_with fail
   go_ret
   exact ⟨rfl, rfl⟩
  ·have h3 : ¬ t ≤ 3 := h2
   simp only [h1, h2, decide_true, decide_false, Bool.and_false]
   go_enter Try.func43, Try.ntmps43
   go_wp2_with fail
   go_ret
   exact ⟨rfl, rfl⟩
 ·simp only [h1, decide_false, Bool.false_and]
  go_enter Try.func43, Try.ntmps43
  go_wp2_with fail
  go_ret
  exact ⟨rfl, rfl⟩
end Go.Proofs.Ytclgclcoblfddaa
namespace Go.Proofs.Ytclgclcoblfddaa
open Go.RowKit Go.Lib
set_option linter.unusedVariables false
set_option linter.unusedSimpArgs false
end Go.Proofs.Ytclgclcoblfddaa
namespace Go.Proofs.Ytclgclcoblfddaa
open Go.RowKit Go.Lib
set_option linter.unusedVariables false
set_option linter.unusedSimpArgs false
theorem ins_len (x : It) : ∀ (l : List It), (ins x l).length ≤ l.length + 1
 | [] => by simp [ins]
 | y :: l => by
  have := ins_len x l
  unfold ins
  split
  ·simp; omega
  ·split <;> simp
theorem sortedL_len (l : List It) : (Zcf l).length ≤ l.length := by
 have key : ∀ (l acc : List It), (l.foldl (fun acc x => ins x acc) acc).length ≤ acc.length + l.length := by
  intro l
  induction l with
  | nil => intro acc; simp
  | cons y l ih =>
   intro acc
   have h1 := ih (ins y acc)
   have h2 := ins_len y acc
   simp only [List.foldl_cons, List.length_cons]
   omega
 have := key l []
 simpa [Zcf] using this
theorem RdI.drop {W : World} {b o : Nat} {l : List It} (h : RdI W (some ⟨b, o, none⟩) l) (n : Nat) : RdI W (some ⟨b, o + n * 3, none⟩) (l.drop n) := by
 rcases h with h | ⟨b', o', hA, hc⟩
 ·exact .inl (by rw [h]; simp)
 ·cases hA
  refine .inr ⟨b, o + n * 3, rfl, fun j u t m hj => ?_⟩
  rw [List.getElem?_drop] at hj
  have := hc (n + j) u t m hj
  rw [show o + n * 3 + j * 3 = o + (n + j) * 3 by omega]
  exact this
theorem RdI.take {W : World} {A : Option Addr} {l : List It} (h : RdI W A l) (n : Nat) : RdI W A (l.take n) := by
 rcases h with h | ⟨b', o', hA, hc⟩
 ·exact .inl (by rw [h]; simp)
 ·refine .inr ⟨b', o', hA, fun j u t m hj => ?_⟩
  rw [List.getElem?_take] at hj
  split at hj
  ·exact hc j u t m hj
  ·cases hj
theorem wpList_append_job {w : World} {ops : Array Oper} {rest : List Oper} {o : Oper} {a : Act} {Q : Exit → Act → World → Prop} (hgd : o.guard = none) (s x : Operand)
  (ho : o.op = .call { callee := .builtin .append, args := #[s, x], argTypes := #[36, 36] }) (base : Nat)
  (v : Value) (l : List (Int × Int)) (hs : a.eval s = v) (hown : w.ownsRow base 32 2 v l.length (Zcr l))
  (g c : Nat) (u t : Int) (hx : a.eval x = .slice (some ⟨g, 0, none⟩) 1 c) (hc : Blk w g [.int .i64 u, .int .u8 t] 32)
  (hbig : l.length ≤ 100000000) (hbase : base ≤ w.heap.size)
  (h : ∀ v' w', w'.ownsRow base 32 2 v' (l ++ [(u, t)]).length (Zcr (l ++ [(u, t)])) → w.grownBy w' v.ownBlock → (∀ k, v'.ownBlock = some k → v.ownBlock = some k ∨ w.heap.size ≤ k) → wpList Try.prog ops Q rest (a.put o.dst v') w') : wpList Try.prog ops Q (o :: rest) a w := by
 obtain ⟨inf, hi, hz, hsz, hby⟩ := info_parts infoJob
 refine wpList_append_row hgd s x _ ho base _ inf _ 2 16 Try.underlying36 hi hz hsz hby rfl (by decide) v l.length (Zcr l) hs hown ⟨g, 0, none⟩ 1 c [.int .i64 u, .int .u8 t] hx rfl ?_ ?_ (by decide) (by unfold maxLen; omega) (by omega) hbase (fun v' w' h2 h3 h4 => h v' w' ?_ h3 h4)
 ·intro j y hj
  have : (⟨g, 0, none⟩ : Addr).add j = ⟨g, j, none⟩ := by unfold Addr.add; split <;> simp_all
  rw [this]
  exact hc.cell j hj
 ·intro y hy
  simp only [List.mem_cons, List.not_mem_nil, or_false] at hy
  rcases hy with rfl | rfl <;> rfl
 ·rw [cellsJ_snoc, List.length_append]
  exact h2
theorem Owns.kept {w w' : World} {base : Nat} {e : TypeId} {size : Nat} {v : Value} {n : Nat} {xs : List Value} (h : w.ownsRow base e size v n xs) {row : Option Nat} (hg : w.grownBy w' row) (hne : ∀ k, v.ownBlock = some k → row ≠ some k) : w'.ownsRow base e size v n xs := by
 obtain ⟨hl, hv⟩ := h
 rcases hv with h | ⟨g, cap, cur, rfl, h1, h2, h3⟩
 ·exact ⟨hl, .inl h⟩
 ·exact ⟨hl, .inr ⟨g, cap, cur, rfl, h1, Grown.heap hg h2 (fun e => hne g rfl e.symm), h3⟩⟩
theorem Owns.apart {w : World} {base base' : Nat} {e e' : TypeId} {size size' : Nat} {v v' : Value} {n n' : Nat} {xs xs' : List Value} (h : w.ownsRow base e size v n xs) (h' : w.ownsRow base' e' size' v' n' xs') (he : e ≠ e') : ∀ k, v.ownBlock = some k → v'.ownBlock ≠ some k := by
 obtain ⟨_, hv⟩ := h
 obtain ⟨_, hv'⟩ := h'
 intro k hk hk'
 rcases hv with ⟨rfl, _⟩ | ⟨b, cap, cur, rfl, h1, h2, h3⟩
 ·cases hk
 rcases hv' with ⟨rfl, _⟩ | ⟨b', cap', cur', rfl, h1', h2', h3'⟩
 ·cases hk'
 cases hk
 have e1 : b' = b := by cases hk'; rfl
 subst e1
 rw [h2] at h2'
 cases h2'
 exact he rfl
end Go.Proofs.Ytclgclcoblfddaa
namespace Go.Proofs.Ytclgclcoblfddaa
open Go.RowKit Go.Shelf
set_option linter.unusedVariables false
set_option linter.unusedSectionVars false
set_option linter.unusedSimpArgs false
section
variable {α : Type} [DecidableEq α] {T : TypeId} {enc : α → Value}
theorem wpList_entry {w : World} {ops : Array Oper} {rest : List Oper} {o : Oper} {a : Act} {Q : Exit → Act → World → Prop} (K : KeyT T enc)
  (hg : o.guard = none) (m x : Operand) (MT E : TypeId) (hop : o.op = Op.mapEntry MT m x) (ht : Try.prog.underlying MT = some (.map T E)) {z : Value} (hz : (zeroValue E).run Try.prog w = .ok z w) (b : Nat) (es : List (α × Value))
  (hm : a.eval m = .map (some b)) (hown : RMap enc w b es) (k : α) (hx : a.eval x = enc k)
  (hK : ∀ w' (st : Int), RMap enc w' b (putOf k ((valOf k es).getD z) es) → w.grownBy w' (some b) →
   (∀ W2 v, RMap enc W2 b (putOf k ((valOf k es).getD z) es) → ∃ W3, (Instr.entryStore MT (.map (some b)) (goInt st) v).run Try.prog W2 = .ok () W3 ∧ RMap enc W3 b (putOf k v es) ∧ W2.grownBy W3 (some b)) →
   wpList Try.prog ops Q rest (a.put o.dst (.tuple #[(valOf k es).getD z, goInt st])) w') :
  wpList Try.prog ops Q (o :: rest) a w := by
 refine wpList_plain hg fun K' hK' => ?_
 obtain ⟨w', st, hrun, r1, r2, r3⟩ := hown.entry K ht hz k
 unfold Oper.wp
 simp [execOp, hop, hm, hx, hrun, Result.andThen]
 exact hK' _ _ (hK w' st r1 r2 r3)
theorem wpList_entryStore {w w' : World} {ops : Array Oper} {rest : List Oper} {o : Oper} {a : Act} {Q : Exit → Act → World → Prop}
  (hg : o.guard = none) (m s v : Operand) (MT : TypeId) (hop : o.op = Op.entryStore MT m s v) {mv sv vv : Value}
  (hm : a.eval m = mv) (hs : a.eval s = sv) (hv : a.eval v = vv) (hrun : (Instr.entryStore MT mv sv vv).run Try.prog w = .ok () w')
  (hK : wpList Try.prog ops Q rest (a.put o.dst undef) w') :
  wpList Try.prog ops Q (o :: rest) a w := by
 refine wpList_plain hg fun K' hK' => ?_
 unfold Oper.wp
 simp [execOp, hop, hm, hs, hv, hrun, Result.andThen]
 exact hK' _ _ hK
end
def rowJ (W : World) (base : Nat) (v : Option Value) (l : List Jb) : Prop := match v with
 | none => l = []
 | some v => W.ownsRow base 32 2 v l.length (Zcr l)
structure ByM (W : World) (base b : Nat) (R : Nat → Prop) (f : Jb → List Jb) (es : List (Jb × Value)) (g : Jb → Option Value) : Prop where
 map : RMap encJ W b es
 fm : FM es g
 row : ∀ k, rowJ W base (g k) (f k)
 apart : ∀ k k' v v' q, k ≠ k' → g k = some v → g k' = some v' → v.ownBlock = some q → v'.ownBlock ≠ some q
 off : ∀ k v q, g k = some v → v.ownBlock = some q → R q
theorem ByM.nil {W : World} {base b : Nat} {R : Nat → Prop} (h : RMap encJ W b ([] : List (Jb × Value))) : ByM W base b R (fun _ => []) [] (fun _ => none) :=
 ⟨h, FM.nil, fun k => rfl, (fun _ _ _ _ _ _ h => by cases h), (fun _ _ _ h => by cases h)⟩
theorem rowJ.keep {W W' : World} {base : Nat} {v : Option Value} {l : List Jb} (h : rowJ W base v l) (hk : ∀ u q, v = some u → u.ownBlock = some q → W'.heap[q]? = W.heap[q]?) : rowJ W' base v l := by
 cases v with
 | none => exact h
 | some u =>
  obtain ⟨h1, h2⟩ := h
  refine ⟨h1, h2.imp_right ?_⟩
  rintro ⟨g, cap, cur, rfl, p1, p2, p3⟩
  exact ⟨g, cap, cur, rfl, p1, (hk _ g rfl rfl).trans p2, p3⟩
theorem ByM.keep {W W' : World} {base b : Nat} {R : Nat → Prop} {f : Jb → List Jb} {es : List (Jb × Value)} {g : Jb → Option Value} (h : ByM W base b R f es g) (hb : W'.heap[b]? = W.heap[b]?) (hR : ∀ q, q < W.heap.size → R q → W'.heap[q]? = W.heap[q]?) : ByM W' base b R f es g :=
 ⟨hb.trans h.map, h.fm, fun k => (h.row k).keep fun u q e1 e2 => hR q (by have := h.row k; rw [e1] at this; exact (World.ownsRow.lt this q e2).2) (h.off k u q e1 e2), h.apart, h.off⟩
theorem ByM.keepR {W W' : World} {base b : Nat} {R : Nat → Prop} {f : Jb → List Jb} {es : List (Jb × Value)} {g : Jb → Option Value} (h : ByM W base b R f es g) (R' : Nat → Prop) (hb : W'.heap[b]? = W.heap[b]?) (hR : ∀ q, (∃ k v, g k = some v ∧ v.ownBlock = some q) → W'.heap[q]? = W.heap[q]?) (hR' : ∀ q, (∃ k v, g k = some v ∧ v.ownBlock = some q) → R' q) : ByM W' base b R' f es g :=
 ⟨hb.trans h.map, h.fm, fun k => (h.row k).keep fun u q e1 e2 => hR q ⟨k, u, e1, e2⟩, h.apart, fun k v q e1 e2 => hR' q ⟨k, v, e1, e2⟩⟩
theorem ByM.typedR {W : World} {base b : Nat} {R : Nat → Prop} {f : Jb → List Jb} {es : List (Jb × Value)} {g : Jb → Option Value} (h : ByM W base b R f es g) {q : Nat} (hq : ∃ k v, g k = some v ∧ v.ownBlock = some q) : base ≤ q ∧ q < W.heap.size ∧ ∃ cells, W.heap[q]? = some (.cells cells 32 (0, 0)) := by
 obtain ⟨k, v, e1, e2⟩ := hq
 have h1 := h.row k
 rw [e1] at h1
 obtain ⟨_, h2⟩ := h1
 rcases h2 with ⟨rfl, _⟩ | ⟨g', cap, cur, rfl, p1, p2, p3⟩
 ·cases e2
 ·cases e2; exact ⟨p1, (Array.getElem?_eq_some_iff.1 p2).1, cur, p2⟩
theorem ByM.ext {W W' : World} {base b : Nat} {R : Nat → Prop} {f : Jb → List Jb} {es : List (Jb × Value)} {g : Jb → Option Value} (h : ByM W base b R f es g) (hx : Ext W W') : ByM W' base b R f es g :=
 h.keep (hx.block b h.map.lt) fun q hq _ => hx.block q hq
theorem ByM.low {W : World} {base b : Nat} {R : Nat → Prop} {f : Jb → List Jb} {es : List (Jb × Value)} {g : Jb → Option Value} (h : ByM W base b R f es g) (k : Jb) (u : Value) (q : Nat) (e1 : g k = some u) (e2 : u.ownBlock = some q) : base ≤ q ∧ q < W.heap.size := by
 have := h.row k
 rw [e1] at this
 exact World.ownsRow.lt this q e2
theorem ByM.step {W W3 : World} {base b : Nat} {R R' : Nat → Prop} {f : Jb → List Jb} {es : List (Jb × Value)} {g : Jb → Option Value} (h : ByM W base b R f es g) (x : Jb) (v v' : Value) (l : List Jb) (hv : v = (g x).getD (.slice none 0 0))
  (hmap : RMap encJ W3 b (putOf x v' es)) (hrow : W3.ownsRow base 32 2 v' l.length (Zcr l)) (hown : ∀ k, v'.ownBlock = some k → v.ownBlock = some k ∨ W.heap.size ≤ k)
  (hkeep : ∀ q, q < W.heap.size → q ≠ b → v.ownBlock ≠ some q → W3.heap[q]? = W.heap[q]?) (hR : ∀ q, R q → R' q) (hR2 : ∀ q, W.heap.size ≤ q → R' q) :
  ByM W3 base b R' (fun k => if k = x then l else f k) (putOf x v' es) (fun k => if k = x then some v' else g k) := by
 have hx : ∀ q, v.ownBlock = some q → g x = some v := by
  intro q hq
  cases hg : g x with
  | none => rw [hg] at hv; subst hv; cases hq
  | some u => rw [hg] at hv; rw [hv]; rfl
 have hnb : ∀ k u q, g k = some u → u.ownBlock = some q → q ≠ b := by
  intro k u q e1 e2 e3
  have h1 := h.row k
  rw [e1] at h1
  obtain ⟨_, h2⟩ := h1
  rcases h2 with ⟨rfl, _⟩ | ⟨g', cap, cur, rfl, p1, p2, p3⟩
  ·cases e2
  ·cases e2
   have h3 := h.map
   unfold RMap at h3
   rw [← e3, p2] at h3
   cases h3
 refine ⟨hmap, h.fm.put x v', fun k => ?_, fun k k' u u' q hne e1 e2 e3 e4 => ?_, fun k u q e1 e2 => ?_⟩
 ·by_cases e : k = x
  ·simp only [if_pos e]; exact hrow
  ·simp only [if_neg e]
   refine (h.row k).keep fun u q e1 e2 => hkeep q (h.low k u q e1 e2).2 (hnb k u q e1 e2) fun e3 => ?_
   exact h.apart k x u v q e e1 (hx q e3) e2 e3
 ·have hlt : ∀ k u q, g k = some u → u.ownBlock = some q → q < W.heap.size := fun k u q e1 e2 => (h.low k u q e1 e2).2
  by_cases c1 : k = x
  ·rw [if_pos c1] at e1
   rw [if_neg (fun e => hne (c1.trans e.symm))] at e2
   cases e1
   rcases hown q e3 with e5 | e5
   ·exact h.apart k k' v u' q hne (by rw [c1]; exact hx q e5) e2 e5 e4
   ·have := hlt k' u' q e2 e4; omega
  ·rw [if_neg c1] at e1
   by_cases c2 : k' = x
   ·rw [if_pos c2] at e2
    cases e2
    rcases hown q e4 with e5 | e5
    ·exact h.apart k k' u v q hne e1 (by rw [c2]; exact hx q e5) e3 e5
    ·have := hlt k u q e1 e3; omega
   ·rw [if_neg c2] at e2
    exact h.apart k k' u u' q hne e1 e2 e3 e4
 ·by_cases c1 : k = x
  ·rw [if_pos c1] at e1
   cases e1
   rcases hown q e2 with e5 | e5
   ·exact hR q (h.off x v q (hx q e5) e5)
   ·exact hR2 q e5
  ·rw [if_neg c1] at e1
   exact hR q (h.off k u q e1 e2)
theorem zeroJs (w : World) : (zeroValue 36).run Try.prog w = .ok (.slice none 0 0) w := by kernel_rfl
theorem ByM.get {W : World} {base b : Nat} {R : Nat → Prop} {f : Jb → List Jb} {es : List (Jb × Value)} {g : Jb → Option Value} (h : ByM W base b R f es g) (k : Jb) : W.ownsRow base 32 2 ((g k).getD (.slice none 0 0)) (f k).length (Zcr (f k)) := by
 have := h.row k
 cases hg : g k with
 | none =>
  rw [hg] at this
  have : f k = [] := this
  rw [this]
  exact World.ownsRow_nil _ _ _ _
 | some v => rw [hg] at this; exact this
theorem ByM.look {W : World} {base b : Nat} {R : Nat → Prop} {f : Jb → List Jb} {es : List (Jb × Value)} {g : Jb → Option Value} (h : ByM W base b R f es g) (u t : Int) :
  (Instr.lookup 113 (.map (some b)) (.agg #[.int .i64 u, .int .u8 t]) false).run Try.prog W = .ok ((g (u, t)).getD (.slice none 0 0)) W := by
 have := h.map.look keyJob Try.underlying113 (zeroJs W) (u, t)
 rw [h.fm.val] at this
 exact this
def byAdd (j : Jb) (f : Jb → List Jb) (p : It) : Jb → List Jb := if p.m then fun k => if k = Zaz p then f k ++ [j] else f k else f
def byF (P : Jb → List It) (f : Jb → List Jb) (j : Jb) : Jb → List Jb := (P j).foldl (byAdd j) f
theorem byAdd_mem {j : Jb} {f : Jb → List Jb} {p : It} {k y : Jb} : y ∈ byAdd j f p k ↔ y ∈ f k ∨ y = j ∧ p.m = true ∧ Zaz p = k := by
 unfold byAdd
 cases hm : p.m with
 | false => simp
 | true =>
  simp only [if_true]
  by_cases h : k = Zaz p
  ·simp [h]
  ·have h' : ¬ Zaz p = k := fun e => h e.symm
   simp [h, h']
theorem byFold_mem {j : Jb} {k y : Jb} : ∀ (l : List It) (f : Jb → List Jb), y ∈ l.foldl (byAdd j) f k ↔ y ∈ f k ∨ y = j ∧ ∃ p ∈ l, p.m = true ∧ Zaz p = k
 | [], f => by simp
 | p :: l, f => by
  rw [List.foldl_cons, byFold_mem l, byAdd_mem]
  constructor
  ·rintro ((h | ⟨h1, h2⟩) | ⟨h1, q, h2, h3⟩)
   ·exact .inl h
   ·exact .inr ⟨h1, p, List.mem_cons_self, h2⟩
   ·exact .inr ⟨h1, q, List.mem_cons_of_mem _ h2, h3⟩
  ·rintro (h | ⟨h1, q, h2, h3⟩)
   ·exact .inl (.inl h)
   ·rcases List.mem_cons.1 h2 with rfl | h2
    ·exact .inl (.inr ⟨h1, h3⟩)
    ·exact .inr ⟨h1, q, h2, h3⟩
theorem byAll_mem {P : Jb → List It} {k y : Jb} : ∀ (ks : List Jb) (f : Jb → List Jb), y ∈ ks.foldl (byF P) f k ↔ y ∈ f k ∨ y ∈ backE P ks k
 | [], f => by simp [backE]
 | j :: ks, f => by
  rw [List.foldl_cons, byAll_mem ks]
  unfold byF
  rw [byFold_mem, Zdv, Zdv]
  constructor
  ·rintro ((h | ⟨h1, h2⟩) | ⟨h1, h2⟩)
   ·exact .inl h
   ·exact .inr ⟨by rw [h1]; exact List.mem_cons_self, by rw [h1]; exact h2⟩
   ·exact .inr ⟨List.mem_cons_of_mem _ h1, h2⟩
  ·rintro (h | ⟨h1, h2⟩)
   ·exact .inl (.inl h)
   ·rcases List.mem_cons.1 h1 with rfl | h1
    ·exact .inl (.inr ⟨rfl, h2⟩)
    ·exact .inr ⟨h1, h2⟩
theorem byFold_len {j : Jb} {k : Jb} : ∀ (l : List It) (f : Jb → List Jb), (l.foldl (byAdd j) f k).length ≤ (f k).length + l.length
 | [], f => by simp
 | p :: l, f => by
  rw [List.foldl_cons]
  refine Nat.le_trans (byFold_len l _) ?_
  have : (byAdd j f p k).length ≤ (f k).length + 1 := by
   unfold byAdd
   split
   ·simp only; split <;> simp
   ·omega
  simp only [List.length_cons]
  omega
theorem byAll_len {P : Jb → List It} {N : Nat} (hP : ∀ j, (P j).length ≤ N) {k : Jb} : ∀ (ks : List Jb) (f : Jb → List Jb), (ks.foldl (byF P) f k).length ≤ (f k).length + ks.length * N
 | [], f => by simp
 | j :: ks, f => by
  rw [List.foldl_cons]
  refine Nat.le_trans (byAll_len hP ks _) ?_
  have h1 := byFold_len (j := j) (k := k) (P j) f
  have h2 := hP j
  unfold byF
  simp only [List.length_cons, Nat.succ_mul]
  omega
end Go.Proofs.Ytclgclcoblfddaa
