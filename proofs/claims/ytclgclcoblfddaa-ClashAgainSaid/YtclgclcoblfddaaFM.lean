/- Maps as functions; 'm[k] = append(m[k], ..)'. -/
import Derived.Test.YtclgclcoblfddaaKeysM
import Derived.Test.YtclgclcoblfddaaFMap
namespace Go.Proofs.Ytclgclcoblfddaa
open Go.RowKit
set_option linter.unusedVariables false
set_option linter.unusedSectionVars false
set_option linter.unusedSimpArgs false
section
variable {α : Type} [DecidableEq α]
variable {T : TypeId} {enc : α → Value}
theorem find_born (es : List (α × Value)) {i : Nat} (hi : i < es.length) : (ents enc es).toArray.findIdx? (fun e => ((e.born : Nat) : Int) == ((i : Nat) : Int)) = some i := by
  rw [List.findIdx?_toArray, List.findIdx?_eq_some_iff_getElem]
  have key : ∀ j (hj : j < (ents enc es).length), (ents enc es)[j].born = j := fun j hj => by
    have h1 := List.getElem?_eq_getElem hj
    rw [ents_get] at h1
    obtain ⟨p, _, h2⟩ := Option.map_eq_some_iff.1 h1
    rw [← h2]
  refine ⟨by rw [ents_length]; exact hi, by rw [key]; simp, fun j hj => ?_⟩
  rw [key]
  simp
  omega
theorem RMap.entry (K : KeyT T enc) {MT E : TypeId} (ht : Try.prog.underlying MT = some (.map T E)) {z : Value} {W : World} (hz : (zeroValue E).run Try.prog W = .ok z W) {b : Nat} {es : List (α × Value)} (h : RMap enc W b es) (x : α) :
    ∃ W' st, (Instr.mapEntry MT (.map (some b)) (enc x)).run Try.prog W = .ok (.tuple #[(valOf x es).getD z, goInt st]) W' ∧ RMap enc W' b (putOf x ((valOf x es).getD z) es) ∧ W.grownBy W' (some b) ∧
      ∀ W2 v, RMap enc W2 b (putOf x ((valOf x es).getD z) es) → ∃ W3, (Instr.entryStore MT (.map (some b)) (goInt st) v).run Try.prog W2 = .ok () W3 ∧ RMap enc W3 b (putOf x v es) ∧ W2.grownBy W3 (some b) := by
  have hgr : ∀ {V : World} {es' : List (α × Value)}, RMap enc V b es' → ∀ o : Obj, V.grownBy { V with heap := V.heap.setIfInBounds b o } (some b) ∧ ({ V with heap := V.heap.setIfInBounds b o } : World).heap[b]? = some o := fun {V es'} hV o => ⟨⟨rfl, rfl, rfl, by simp, fun k hk hne => by
    show (V.heap.setIfInBounds b o)[k]? = V.heap[k]?
    rw [Array.getElem?_setIfInBounds_ne]
    intro e
    exact hne (by rw [e])⟩, by
    show (V.heap.setIfInBounds b o)[b]? = some o
    rw [Array.getElem?_setIfInBounds_self_of_lt hV.lt]⟩
  have store : ∀ (i : Nat) (es1 es2 : List (α × Value)) (v : Value), i < es1.length → (ents enc es1).toArray.modify i (fun e => { e with val := v }) = (ents enc es2).toArray → es1.length = es2.length → ∀ W2, RMap enc W2 b es1 → ∃ W3, (Instr.entryStore MT (.map (some b)) (goInt i) v).run Try.prog W2 = .ok () W3 ∧ RMap enc W3 b es2 ∧ W2.grownBy W3 (some b) := by
    intro i es1 es2 v hi hmod hlen W2 h2
    obtain ⟨g1, g2⟩ := hgr h2 (.map ((ents enc es1).toArray.modify i (fun e => { e with val := v })) es1.length)
    refine ⟨_, ?_, ?_, g1⟩
    · have h2' := h2
      unfold RMap at h2'
      have hf := find_born (enc := enc) es1 hi
      simp only [Instr.entryStore, Sem.run_bind, getMap h2', Result.andThen_ok, asInt, asIntOf, goInt, Sem.run_pure, hf, setMap _ h2']
    · unfold RMap
      rw [g2, hmod, hlen]
  have h' := h
  unfold RMap at h'
  cases hp : posOf x es 0 with
  | none =>
    have hv : valOf x es = none := by unfold valOf; rw [hp]; rfl
    have hput : ∀ v, putOf x v es = es ++ [(x, v)] := fun v => by unfold putOf; rw [hp]
    rw [hv, Option.getD_none, hput]
    obtain ⟨g1, g2⟩ := hgr h (.map ((ents enc es).toArray.push { key := enc x, val := z, born := es.length }) (es.length + 1))
    refine ⟨_, es.length, ?_, ?_, g1, fun W2 v h2 => ?_⟩
    · simp only [Instr.mapEntry, Sem.run_bind, run_underlying ht, Result.andThen_ok, getMap h', K.chk, run_findKey K, hp, hz, setMap _ h', Sem.run_pure]
    · unfold RMap
      rw [g2, ents_snoc]
      simp
    · rw [hput]
      refine store es.length (es ++ [(x, z)]) (es ++ [(x, v)]) v (by simp) ?_ (by simp) W2 h2
      apply Array.ext'
      rw [Array.toList_modify]
      simp only [ents_snoc]
      apply List.ext_getElem?
      intro j
      rw [List.getElem?_modify]
      rcases Nat.lt_trichotomy j es.length with hj | hj | hj
      · rw [List.getElem?_append_left (by rw [ents_length]; exact hj), List.getElem?_append_left (by rw [ents_length]; exact hj)]
        have : ¬ es.length = j := by omega
        simp [this]
      · subst hj
        rw [List.getElem?_append_right (by rw [ents_length]; exact Nat.le_refl _), List.getElem?_append_right (by rw [ents_length]; exact Nat.le_refl _), ents_length]
        simp
      · rw [List.getElem?_eq_none (by simp [ents_length]; omega), List.getElem?_eq_none (by simp [ents_length]; omega)]
        rfl
  | some q =>
    obtain ⟨i, u⟩ := q
    obtain ⟨_, hi⟩ := posOf_get hp
    rw [Nat.sub_zero] at hi
    have hlt := (List.getElem?_eq_some_iff.1 hi).1
    have hv : valOf x es = some u := by unfold valOf; rw [hp]; rfl
    have hput : ∀ v, putOf x v es = es.set i (x, v) := fun v => by unfold putOf; rw [hp]
    have hself : es.set i (x, u) = es := by
      apply List.ext_getElem?
      intro j
      rw [List.getElem?_set]
      split
      · rename_i e; subst e; rw [hi]; (try simp [hlt])
      · rfl
    rw [hv, Option.getD_some, hput, hself]
    have hkey : (Instr.keyThatStays ((((ents enc es).toArray[i]?).map (·.key)).getD (enc x)) (enc x)).run Try.prog W = .ok (enc x) W := by
      rw [List.getElem?_toArray, ents_get, hi]
      simp [Instr.keyThatStays, K.bits, Sem.run_pure]
    have hborn : (((ents enc es).toArray[i]?).map (fun y => ((y.born : Nat) : Int))).getD 0 = (i : Int) := by
      rw [List.getElem?_toArray, ents_get, hi]; rfl
    have hmod : (ents enc es).toArray.modify i (fun e => { e with key := enc x }) = (ents enc es).toArray := by
      apply Array.ext'
      rw [Array.toList_modify]
      apply List.ext_getElem?
      intro j
      rw [List.getElem?_modify, ents_get]
      by_cases e : i = j
      · subst e; rw [hi]; simp
      · simp [e]
    obtain ⟨g1, g2⟩ := hgr h (.map ((ents enc es).toArray.modify i (fun e => { e with key := enc x })) es.length)
    refine ⟨_, i, ?_, ?_, g1, fun W2 v h2 => ?_⟩
    · simp only [Instr.mapEntry, Sem.run_bind, run_underlying ht, Result.andThen_ok, getMap h', K.chk, run_findKey K, hp, hkey, setMap _ h', Sem.run_pure, hborn]
    · unfold RMap
      rw [g2, hmod]
    · rw [hput]
      refine store i es _ v hlt ?_ (by simp) W2 h2
      apply Array.ext'
      rw [Array.toList_modify]
      apply List.ext_getElem?
      intro j
      rw [List.getElem?_modify, ents_get, ents_get, List.getElem?_set]
      by_cases e : i = j
      · subst e; rw [if_pos rfl, if_pos hlt, hi]; simp
      · simp [e]
end
end Go.Proofs.Ytclgclcoblfddaa
