/- Maps that a call owns, by their entries, whatever the key's type: made, asked, written, ranged over. Nothing is ever deleted from them. -/
import Derived.Test.YtclgclcoblfddaaOwn
import Derived.Test.YtclgclcoblfddaaProg
import Derived.Maps.RangeRun
import Derived.Laws.IdiomRangeMap
import Derived.MapKept
import Derived.Laws.StructEq
import Derived.WalkKit
import Derived.Maps.Own
namespace Go.Proofs.Ytclgclcoblfddaa
open Go.RowKit
open Go.ChangeMaps (setBlock)
set_option linter.unusedVariables false
set_option linter.unusedSectionVars false
set_option linter.unusedSimpArgs false
theorem getMap {w : World} {r : Nat} {es : Array MapEntry} {clock : Nat} (hb : w.heap[r]? = some (.map es clock)) : (getObj r).run Try.prog w = .ok (.map es clock) w := by simp [getObj, Sem.run, hb]
theorem setMap {w : World} {r : Nat} {es : Array MapEntry} {clock : Nat} (o : Obj) (hb : w.heap[r]? = some (.map es clock)) : (setObj r o).run Try.prog w = .ok () { w with heap := w.heap.setIfInBounds r o } := by simp [setObj, Sem.run, hb]
section
variable {α : Type} [DecidableEq α]

def entsAt (enc : α → Value) (n : Nat) (es : List (α × Value)) : List MapEntry := (es.zipIdx n).map fun p => { key := enc p.1.1, val := p.1.2, born := p.2 }
abbrev ents (enc : α → Value) (es : List (α × Value)) : List MapEntry := entsAt enc 0 es
theorem entsAt_cons (enc : α → Value) (n : Nat) (p : α × Value) (es : List (α × Value)) : entsAt enc n (p :: es) = { key := enc p.1, val := p.2, born := n } :: entsAt enc (n + 1) es := rfl
theorem ents_snoc (enc : α → Value) (es : List (α × Value)) (p : α × Value) : ents enc (es ++ [p]) = ents enc es ++ [{ key := enc p.1, val := p.2, born := es.length }] := by
  unfold ents entsAt
  rw [List.zipIdx_append, List.map_append]
  simp
theorem ents_length (enc : α → Value) (es : List (α × Value)) : (ents enc es).length = es.length := by simp [ents, entsAt]
theorem ents_get (enc : α → Value) (es : List (α × Value)) (i : Nat) : (ents enc es)[i]? = es[i]?.map fun p => { key := enc p.1, val := p.2, born := i } := by
  unfold ents entsAt
  rw [List.getElem?_map, List.getElem?_zipIdx]
  cases es[i]? <;> simp
/-- Block b is a map of these entries. -/
def RMap (enc : α → Value) (W : World) (b : Nat) (es : List (α × Value)) : Prop := W.heap[b]? = some (.map (ents enc es).toArray es.length)
/-- Where a key stands. -/
def posOf (x : α) : List (α × Value) → Nat → Option (Nat × Value)
  | [], _ => none
  | p :: es, i => if x = p.1 then some (i, p.2) else posOf x es (i + 1)
def valOf (x : α) (es : List (α × Value)) : Option Value := (posOf x es 0).map (·.2)
structure KeyT (T : TypeId) (enc : α → Value) : Prop where
  chk : ∀ e x W, (Instr.checkKey e 10000 T (enc x)).run Try.prog W = .ok () W
  eq : ∀ x y W, (Op.equal T (enc x) (enc y)).run Try.prog W = .ok (decide (x = y)) W
  now : ∃ kind, Try.prog.underlying T = some kind ∧ ((∀ x y, Instr.sameNow kind (enc x) (enc y) = some (decide (x = y))) ∨ (∀ x y, Instr.sameNow kind (enc x) (enc y) = none))
  bits : ∀ x, Instr.sameBits 10000 (enc x) (enc x) = true
variable {T : TypeId} {enc : α → Value}
theorem run_findAsking (K : KeyT T enc) (x : α) : ∀ (es : List (α × Value)) (n i : Nat) (W : World), (Instr.findAsking T (enc x) (entsAt enc n es) i).run Try.prog W = .ok (posOf x es i) W
  | [], _, i, W => rfl
  | p :: es, n, i, W => by
    rw [entsAt_cons]
    simp only [Instr.findAsking, Sem.run_bind, K.eq, Result.andThen, posOf]
    by_cases h : x = p.1
    · simp [h, Sem.run_pure]
    · simp only [h, decide_false, Bool.false_eq_true, if_false]
      exact run_findAsking K x es (n + 1) (i + 1) W
theorem findNow_of {kind : TypeDesc} (h : ∀ x y, Instr.sameNow kind (enc x) (enc y) = some (decide (x = y))) (x : α) : ∀ (es : List (α × Value)) (n i : Nat), Instr.findNow kind (enc x) (entsAt enc n es) i = some (posOf x es i)
  | [], _, i => rfl
  | p :: es, n, i => by
    rw [entsAt_cons, Instr.findNow, h x p.1, posOf]
    by_cases e : x = p.1
    · simp [e]
    · simp only [e, decide_false, if_false]
      exact findNow_of h x es (n + 1) (i + 1)
theorem run_findKey (K : KeyT T enc) (x : α) (es : List (α × Value)) (W : World) : (Instr.findKey T (enc x) (ents enc es)).run Try.prog W = .ok (posOf x es 0) W := by
  obtain ⟨kind, hk, h⟩ := K.now
  simp only [Instr.findKey, Sem.run_bind, run_underlying hk, Result.andThen_ok]
  rcases h with h | h
  · unfold ents
    rw [findNow_of h x es 0 0]
    rfl
  · cases es with
    | nil => rfl
    | cons p es =>
      have : Instr.findNow kind (enc x) (ents enc (p :: es)) 0 = none := by
        unfold ents
        rw [entsAt_cons, Instr.findNow, h x p.1]
      rw [this]
      exact run_findAsking K x (p :: es) 0 0 W
theorem RMap.look (K : KeyT T enc) {MT E : TypeId} (ht : Try.prog.underlying MT = some (.map T E)) {z : Value} {W : World} (hz : (zeroValue E).run Try.prog W = .ok z W) {b : Nat} {es : List (α × Value)} (h : RMap enc W b es) (x : α) :
    (Instr.lookup MT (.map (some b)) (enc x) false).run Try.prog W = .ok ((valOf x es).getD z) W := by
  unfold RMap at h
  simp only [Instr.lookup, Sem.run_bind, run_underlying ht, Result.andThen_ok, getMap h, Sem.run_pure, K.chk, run_findKey K]
  unfold valOf
  cases posOf x es 0 with
  | none => simp [hz, Sem.run_bind, Sem.run_pure]
  | some p => simp [Sem.run_pure]
theorem RMap.lookOk (K : KeyT T enc) {MT E : TypeId} (ht : Try.prog.underlying MT = some (.map T E)) {z : Value} {W : World} (hz : (zeroValue E).run Try.prog W = .ok z W) {b : Nat} {es : List (α × Value)} (h : RMap enc W b es) (x : α) :
    (Instr.lookup MT (.map (some b)) (enc x) true).run Try.prog W = .ok (.tuple #[(valOf x es).getD z, .bool (valOf x es).isSome]) W := by
  unfold RMap at h
  simp only [Instr.lookup, Sem.run_bind, run_underlying ht, Result.andThen_ok, getMap h, Sem.run_pure, K.chk, run_findKey K]
  unfold valOf
  cases posOf x es 0 with
  | none => simp [hz, Sem.run_bind, Sem.run_pure]
  | some p => simp [Sem.run_pure]
theorem look_nil (K : KeyT T enc) {MT E : TypeId} (ht : Try.prog.underlying MT = some (.map T E)) {z : Value} {W : World} (hz : (zeroValue E).run Try.prog W = .ok z W) (x : α) :
    (Instr.lookup MT (.map none) (enc x) false).run Try.prog W = .ok z W := by
  have : (Instr.findKey T (enc x) []).run Try.prog W = .ok (posOf x [] 0) W := run_findKey K x [] W
  simp only [Instr.lookup, Sem.run_bind, run_underlying ht, Result.andThen_ok, Sem.run_pure, K.chk]
  rw [this]
  simp [posOf, hz, Sem.run_bind, Sem.run_pure]
/-- A key's value written. -/
def putOf (x : α) (v : Value) (es : List (α × Value)) : List (α × Value) := match posOf x es 0 with
  | some (i, _) => es.set i (x, v)
  | none => es ++ [(x, v)]
theorem posOf_get {x : α} : ∀ {es : List (α × Value)} {i j : Nat} {u : Value}, posOf x es i = some (j, u) → i ≤ j ∧ es[j - i]? = some (x, u)
  | [], i, j, u, h => by cases h
  | p :: es, i, j, u, h => by
    rw [posOf] at h
    split at h
    · rename_i e
      cases h
      refine ⟨Nat.le_refl _, ?_⟩
      rw [Nat.sub_self]
      simp [e]
    · obtain ⟨h1, h2⟩ := posOf_get h
      refine ⟨by omega, ?_⟩
      rw [show j - i = (j - (i + 1)) + 1 by omega]
      simpa using h2
theorem posOf_none {x : α} : ∀ {es : List (α × Value)} {i : Nat}, posOf x es i = none → ∀ p ∈ es, p.1 ≠ x
  | [], i, _, p, hp => by cases hp
  | q :: es, i, h, p, hp => by
    rw [posOf] at h
    split at h
    · cases h
    · rename_i e
      rcases List.mem_cons.1 hp with rfl | hp
      · exact fun e' => e e'.symm
      · exact posOf_none h p hp
theorem entsAt_modify (enc : α → Value) {es : List (α × Value)} {i : Nat} {x : α} {u v : Value} (h : es[i]? = some (x, u)) :
    (ents enc es).toArray.modify i (fun e => { e with key := enc x, val := v }) = (ents enc (es.set i (x, v))).toArray := by
  apply Array.toList_inj.1
  rw [Array.toList_modify]
  simp only
  apply List.ext_getElem?
  intro j
  rw [List.getElem?_modify, ents_get, ents_get, List.getElem?_set]
  by_cases hij : i = j
  · subst hij
    have hlt := (List.getElem?_eq_some_iff.1 h).1
    simp [h, hlt]
  · simp [hij]
theorem RMap.put (K : KeyT T enc) {MT E : TypeId} (ht : Try.prog.underlying MT = some (.map T E)) {W : World} {b : Nat} {es : List (α × Value)} (h : RMap enc W b es) (x : α) (v : Value) :
    ∃ W', (Instr.mapUpdate MT (.map (some b)) (enc x) v).run Try.prog W = .ok () W' ∧ RMap enc W' b (putOf x v es) ∧ W.grownBy W' (some b) := by
  have h' := h
  unfold RMap at h
  have hb := (Array.getElem?_eq_some_iff.1 h).1
  have hg : ∀ o : Obj, W.grownBy { W with heap := W.heap.setIfInBounds b o } (some b) := fun o => ⟨rfl, rfl, rfl, by simp, fun k hk hne => by
    show (W.heap.setIfInBounds b o)[k]? = W.heap[k]?
    rw [Array.getElem?_setIfInBounds_ne]
    intro e
    exact hne (by rw [e])⟩
  have hnew : ∀ o : Obj, ({ W with heap := W.heap.setIfInBounds b o } : World).heap[b]? = some o := fun o => by
    show (W.heap.setIfInBounds b o)[b]? = some o
    rw [Array.getElem?_setIfInBounds_self_of_lt hb]
  cases hp : posOf x es 0 with
  | none =>
    refine ⟨_, ?_, ?_, hg (.map ((ents enc es).toArray.push { key := enc x, val := v, born := es.length }) (es.length + 1))⟩
    · simp only [Instr.mapUpdate, Sem.run_bind, run_underlying ht, Result.andThen_ok, getMap h, K.chk, run_findKey K, hp, setMap _ h]
    · unfold RMap putOf
      rw [hnew, hp]
      simp only
      rw [ents_snoc]
      simp
  | some q =>
    obtain ⟨i, u⟩ := q
    obtain ⟨_, hi⟩ := posOf_get hp
    rw [Nat.sub_zero] at hi
    have hkey : (Instr.keyThatStays ((((ents enc es).toArray[i]?).map (·.key)).getD (enc x)) (enc x)).run Try.prog W = .ok (enc x) W := by
      rw [List.getElem?_toArray, ents_get, hi]
      simp [Instr.keyThatStays, K.bits, Sem.run_pure]
    refine ⟨_, ?_, ?_, hg (.map ((ents enc es).toArray.modify i (fun e => { e with key := enc x, val := v })) es.length)⟩
    · simp only [Instr.mapUpdate, Sem.run_bind, run_underlying ht, Result.andThen_ok, getMap h, K.chk, run_findKey K, hp, hkey, setMap _ h]
    · unfold RMap putOf
      rw [hnew, hp, entsAt_modify enc hi]
      simp
theorem RMap.made (enc : α → Value) (W : World) : RMap enc (W.alloc (.map #[] 0)) W.heap.size [] := by
  unfold RMap World.alloc
  simp [ents, entsAt]
theorem RMap.kept {W W' : World} {b : Nat} {es : List (α × Value)} (h : RMap enc W b es) {row : Option Nat} (hg : W.grownBy W' row) (hne : some b ≠ row) : RMap enc W' b es :=
  (hg.block b (Array.getElem?_eq_some_iff.1 h).1 hne).trans h
theorem RMap.ext {W W' : World} {b : Nat} {es : List (α × Value)} (h : RMap enc W b es) (hx : Ext W W') : RMap enc W' b es := h.kept (Ext.grown hx) (by simp)
theorem RMap.lt {W : World} {b : Nat} {es : List (α × Value)} (h : RMap enc W b es) : b < W.heap.size := (Array.getElem?_eq_some_iff.1 h).1
theorem RMap.drew {W : World} {b : Nat} {es : List (α × Value)} (h : RMap enc W b es) : RMap enc W.drew b es := h
/-- A store into a map, in a walk. -/
theorem wpList_put {w : World} {ops : Array Oper} {rest : List Oper} {o : Oper} {a : Act} {Q : Exit → Act → World → Prop} (K : KeyT T enc)
    (hg : o.guard = none) (m x v : Operand) (MT E : TypeId) (hop : o.op = Op.mapUpdate MT m x v) (ht : Try.prog.underlying MT = some (.map T E)) (b : Nat) (es : List (α × Value))
    (hm : a.eval m = .map (some b)) (hown : RMap enc w b es) (k : α) (c : Value) (hx : a.eval x = enc k) (hv : a.eval v = c)
    (hK : ∀ w', RMap enc w' b (putOf k c es) → w.grownBy w' (some b) → wpList Try.prog ops Q rest (a.put o.dst undef) w') :
    wpList Try.prog ops Q (o :: rest) a w := by
  refine wpList_plain hg fun K' hK' => ?_
  obtain ⟨w', hrun, r1, r2⟩ := hown.put K ht k c
  unfold Oper.wp
  simp [execOp, hop, hm, hx, hv, hrun, Result.andThen]
  exact hK' _ _ (hK w' r1 r2)
/-! Ranging over a map that does not change meanwhile. -/
/-- The walk r over the map b of n entries: which of them (by their places) have come. -/
def RIter (W : World) (r b n : Nat) (seen : List Nat) : Prop := ∃ c, n ≤ c ∧ W.heap[r]? = some (.mapIter (some b) n seen.toArray c)
theorem ents_born (enc : α → Value) (es : List (α × Value)) : (ents enc es).map (·.born) = List.range es.length := by
  apply List.ext_getElem?
  intro i
  rw [List.getElem?_map, ents_get]
  by_cases h : i < es.length
  · rw [List.getElem?_range h, List.getElem?_eq_getElem h]; rfl
  · rw [List.getElem?_eq_none (by omega), List.getElem?_eq_none (by simp; omega)]; rfl
theorem ents_mem {enc : α → Value} {es : List (α × Value)} {e : MapEntry} (h : e ∈ ents enc es) : ∃ i k v, es[i]? = some (k, v) ∧ e = { key := enc k, val := v, born := i } := by
  obtain ⟨i, hi⟩ := List.getElem?_of_mem h
  rw [ents_get] at hi
  cases hp : es[i]? with
  | none => rw [hp] at hi; cases hi
  | some p => rw [hp] at hi; cases hi; exact ⟨i, p.1, p.2, hp, rfl⟩
theorem RMap.range {MT E : TypeId} (ht : Try.prog.underlying MT = some (.map T E)) {W : World} {b : Nat} {es : List (α × Value)} (h : RMap enc W b es) :
    (Instr.range MT (.map (some b))).run Try.prog W = .ok (.pointer (some ⟨W.heap.size, 0, none⟩)) (W.alloc (.mapIter (some b) es.length #[] es.length)) := run_range_map W MT T E b _ _ ht h
theorem RIter.made (W : World) (b n : Nat) : RIter (W.alloc (.mapIter (some b) n #[] n)) W.heap.size b n [] := ⟨n, Nat.le_refl _, heap_alloc_new W _⟩
theorem RIter.kept {W W' : World} {r b n : Nat} {seen : List Nat} (h : RIter W r b n seen) {row : Option Nat} (hg : W.grownBy W' row) (hne : some r ≠ row) : RIter W' r b n seen := by
  obtain ⟨c, hc, h⟩ := h
  exact ⟨c, hc, (hg.block r (Array.getElem?_eq_some_iff.1 h).1 hne).trans h⟩
theorem RIter.ext {W W' : World} {r b n : Nat} {seen : List Nat} (h : RIter W r b n seen) (hx : Ext W W') : RIter W' r b n seen := h.kept (Ext.grown hx) (by simp)
theorem RMap.next {W : World} {b r : Nat} {es : List (α × Value)} {seen : List Nat} (h : RMap enc W b es) (hr : RIter W r b es.length seen) (ty : TypeId) :
    ((∀ i, i < es.length → i ∈ seen) ∧ (Instr.next (.pointer (some ⟨r, 0, none⟩)) false ty).run Try.prog W = .ok (.tuple #[.bool false]) W) ∨
    ∃ i k v W', es[i]? = some (k, v) ∧ i ∉ seen ∧ (Instr.next (.pointer (some ⟨r, 0, none⟩)) false ty).run Try.prog W = .ok (.tuple #[.bool true, enc k, v]) W' ∧ RMap enc W' b es ∧ RIter W' r b es.length (seen ++ [i]) ∧ W.grownBy W' (some r) ∧ W'.heap.size = W.heap.size ∧
      (Instr.entry (.pointer (some ⟨r, 0, none⟩))).run Try.prog W' = .ok (.tuple #[enc k, v]) W' := by
  obtain ⟨c, hc, hr⟩ := hr
  have hb := h
  unfold RMap at hb
  have hold : ∀ x ∈ (ents enc es).toArray.toList, x.born < es.length := by
    intro x hx
    obtain ⟨i, k, v, hi, rfl⟩ := ents_mem hx
    exact (List.getElem?_eq_some_iff.1 hi).1
  rcases run_next_at W ty r b es.length c seen.toArray _ _ hr hb hold hc with ⟨h0, hrun⟩ | ⟨e, he, w1, hw1, hrun⟩
  · left
    refine ⟨fun i hi => ?_, hrun⟩
    have h0 := Array.eq_empty_of_size_eq_zero h0
    unfold leftOf at h0
    rw [Array.filter_eq_empty_iff] at h0
    have hm : ({ key := enc es[i].1, val := es[i].2, born := i } : MapEntry) ∈ (ents enc es).toArray := by
      rw [List.mem_toArray]
      exact List.mem_of_getElem? (i := i) (by rw [ents_get, List.getElem?_eq_getElem hi]; rfl)
    have := h0 _ hm
    simpa using this
  · right
    unfold leftOf at he
    have he' : e ∈ (ents enc es).toArray ∧ e.born ∉ seen := by
      have : e ∈ Array.filter (fun e => !seen.toArray.contains e.born) (ents enc es).toArray := by simpa using he
      rw [Array.mem_filter] at this
      exact ⟨this.1, by simpa using this.2⟩
    obtain ⟨i, k, v, hi, rfl⟩ := ents_mem (List.mem_toArray.1 he'.1)
    have hne : r ≠ b := by
      rintro rfl
      rw [hr] at hb
      cases hb
    have hw1r : w1.heap = W.heap := by rcases hw1 with rfl | rfl <;> rfl
    have hrlt := (Array.getElem?_eq_some_iff.1 hr).1
    have hr2 : (setBlock w1 r (.mapIter (some b) es.length (seen.toArray.push i) es.length)).heap[r]? = some (.mapIter (some b) es.length (seen ++ [i]).toArray es.length) := by
      show (w1.heap.setIfInBounds r _)[r]? = _
      rw [Array.getElem?_setIfInBounds_self_of_lt (by rw [hw1r]; exact hrlt)]
      simp
    have hg : W.grownBy (setBlock w1 r (.mapIter (some b) es.length (seen.toArray.push i) es.length)) (some r) := by
      refine ⟨?_, ?_, ?_, ?_, fun k hk hnk => ?_⟩
      · rcases hw1 with rfl | rfl <;> rfl
      · rcases hw1 with rfl | rfl <;> rfl
      · rcases hw1 with rfl | rfl <;> rfl
      · show W.heap.size ≤ (w1.heap.setIfInBounds r _).size
        simp [hw1r]
      · show (w1.heap.setIfInBounds r _)[k]? = _
        rw [Array.getElem?_setIfInBounds_ne (fun e => hnk (by rw [e])), hw1r]
    have hb2 : RMap enc (setBlock w1 r (.mapIter (some b) es.length (seen.toArray.push i) es.length)) b es := h.kept hg (by simp; exact fun e => hne e.symm)
    refine ⟨i, k, v, _, hi, he'.2, hrun, hb2, ⟨es.length, Nat.le_refl _, hr2⟩, hg, ?_, ?_⟩
    · show (w1.heap.setIfInBounds r _).size = _
      simp [hw1r]
    · refine run_entry_at _ r b es.length seen.toArray _ _ { key := enc k, val := v, born := i } ?_ hb2 (by simpa using he'.1) ?_
      · rw [hr2]; simp
      · simp only
        rw [ents_born]
        exact List.nodup_range
theorem wpList_range {w : World} {ops : Array Oper} {rest : List Oper} {o : Oper} {a : Act} {Q : Exit → Act → World → Prop} (hg : o.guard = none) (m : Operand) (MT E : TypeId) (hop : o.op = Op.range MT m) (ht : Try.prog.underlying MT = some (.map T E)) (b : Nat) (es : List (α × Value))
    (hm : a.eval m = .map (some b)) (hown : RMap enc w b es)
    (hK : ∀ w', RMap enc w' b es → RIter w' w.heap.size b es.length [] → Ext w w' → w'.heap.size = w.heap.size + 1 → wpList Try.prog ops Q rest (a.put o.dst (.pointer (some ⟨w.heap.size, 0, none⟩))) w') :
    wpList Try.prog ops Q (o :: rest) a w := by
  refine wpList_plain hg fun K' hK' => ?_
  have hrun := hown.range (T := T) ht
  unfold Oper.wp
  simp [execOp, hop, hm, hrun, Result.andThen]
  exact hK' _ _ (hK _ (hown.ext ((Ext.refl w).alloc _)) (RIter.made _ _ _) ((Ext.refl w).alloc _) (by simp))
theorem wpList_next {w : World} {ops : Array Oper} {rest : List Oper} {o : Oper} {a : Act} {Q : Exit → Act → World → Prop} (hg : o.guard = none) (it : Operand) (hop : o.op = Op.next it false) (b r : Nat) (es : List (α × Value)) (seen : List Nat)
    (hit : a.eval it = .pointer (some ⟨r, 0, none⟩)) (hown : RMap enc w b es) (hr : RIter w r b es.length seen)
    (hDone : (∀ i, i < es.length → i ∈ seen) → wpList Try.prog ops Q rest (a.put o.dst (.tuple #[.bool false])) w)
    (hMore : ∀ i k v w', es[i]? = some (k, v) → i ∉ seen → RMap enc w' b es → RIter w' r b es.length (seen ++ [i]) → w.grownBy w' (some r) → w'.heap.size = w.heap.size →
      (Instr.entry (.pointer (some ⟨r, 0, none⟩))).run Try.prog w' = .ok (.tuple #[enc k, v]) w' → wpList Try.prog ops Q rest (a.put o.dst (.tuple #[.bool true, enc k, v])) w') :
    wpList Try.prog ops Q (o :: rest) a w := by
  refine wpList_plain hg fun K' hK' => ?_
  unfold Oper.wp
  rcases hown.next hr o.type with ⟨h0, hrun⟩ | ⟨i, k, v, w', hi, hs, hrun, h1, h2, h3, h4, h5⟩
  · simp [execOp, hop, hit, hrun, Result.andThen]
    exact hK' _ _ (hDone h0)
  · simp [execOp, hop, hit, hrun, Result.andThen]
    exact hK' _ _ (hMore i k v w' hi hs h1 h2 h3 h4 h5)
end
end Go.Proofs.Ytclgclcoblfddaa
