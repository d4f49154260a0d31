/- Maps by their entries, within a fence: ranged over. -/
import Derived.Test.YtclgclcoblfddaaGMap
import Derived.RangeFuncBox
import Derived.RangeFuncNested
import Derived.RangeFuncBound
import Derived.RangeFuncCalls
import Derived.RangeFuncLeaves
import Derived.Shelf.Abstract
import Derived.Shelf.RegionOpen
import Derived.OwnWalkIn
import Derived.TacticsInMore
import Derived.LoopNIn
import Derived.LoopIn
import Derived.Maps.AppendAt
import Derived.Maps.OwnIn
import Derived.Sort.MapsRangeIn
namespace Go.Proofs.Ytclgclcoblfddaa
open Go.RowKit
set_option linter.unusedVariables false
set_option linter.unusedSectionVars false
set_option linter.unusedSimpArgs false
theorem nodup_le : ∀ (n : Nat) {l : List Nat}, l.Nodup → (∀ i ∈ l, i < n) → l.length ≤ n
  | 0, l, _, h => by
    cases l with
    | nil => simp
    | cons a l => have := h a List.mem_cons_self; omega
  | n + 1, l, hn, h => by
    by_cases hm : n ∈ l
    · have h1 := nodup_le n (hn.erase n) (fun i hi => by
        have h2 := (hn.mem_erase_iff).1 hi
        have h3 := h i h2.2
        have h4 : i ≠ n := h2.1
        omega)
      rw [List.length_erase_of_mem hm] at h1
      omega
    · have h1 := nodup_le n hn (fun i hi => by
        have := h i hi
        have : i ≠ n := fun e => hm (e ▸ hi)
        omega)
      omega
section
variable {α : Type} [DecidableEq α] {T : TypeId} {enc : α → Value} {F : Fence} {nF : Nat}
theorem wpListIn_range {w : World} {ops : Array Oper} {rest : List Oper} {o : Oper} {a : Act} {Q : Exit → Act → World → Prop} (hg : o.guard = none) (m : Operand) (MT E : TypeId) (hop : o.op = Op.range MT m) (ht : Try.prog.underlying MT = some (.map T E)) (b : Nat) (es : List (α × Value))
    (hm : a.eval m = .map (some b)) (hown : RMap enc w b es)
    (hK : ∀ w', RMap enc w' b es → RIter w' w.heap.size b es.length [] → w.grownBy w' none → w'.heap.size = w.heap.size + 1 → wpListIn F nF Try.prog ops Q rest (a.put o.dst (.pointer (some ⟨w.heap.size, 0, none⟩))) w') :
    wpListIn F nF Try.prog ops Q (o :: rest) a w := by
  refine wpListIn_plain hg fun K' hK' => ?_
  have hrun := hown.range (T := T) ht
  unfold Oper.wpIn
  refine ⟨by simp [Oper.about, hop], ?_⟩
  rw [Oper.semAt_plain F _ _ (by rw [hop]; intro c hc'; cases hc')]
  simp [execOp, hop, hm, hrun, Result.andThen]
  exact hK' _ _ (hK _ (hown.ext ((Ext.refl w).alloc _)) (RIter.made _ _ _) (Ext.grown ((Ext.refl w).alloc _)) (by simp))
theorem wpListIn_next {w : World} {ops : Array Oper} {rest : List Oper} {o : Oper} {a : Act} {Q : Exit → Act → World → Prop} (hg : o.guard = none) (it : Operand) (hop : o.op = Op.next it false) (b r : Nat) (es : List (α × Value)) (seen : List Nat)
    (hit : a.eval it = .pointer (some ⟨r, 0, none⟩)) (hown : RMap enc w b es) (hr : RIter w r b es.length seen)
    (hDone : (∀ i, i < es.length → i ∈ seen) → wpListIn F nF Try.prog ops Q rest (a.put o.dst (.tuple #[.bool false])) w)
    (hMore : ∀ i k v w', es[i]? = some (k, v) → i ∉ seen → RMap enc w' b es → RIter w' r b es.length (seen ++ [i]) → w.grownBy w' (some r) → w'.heap.size = w.heap.size →
      (Instr.entry (.pointer (some ⟨r, 0, none⟩))).run Try.prog w' = .ok (.tuple #[enc k, v]) w' → wpListIn F nF Try.prog ops Q rest (a.put o.dst (.tuple #[.bool true, enc k, v])) w') :
    wpListIn F nF Try.prog ops Q (o :: rest) a w := by
  refine wpListIn_plain hg fun K' hK' => ?_
  unfold Oper.wpIn
  refine ⟨by simp [Oper.about, hop], ?_⟩
  rw [Oper.semAt_plain F _ _ (by rw [hop]; intro c hc'; cases hc')]
  rcases hown.next hr o.type with ⟨h0, hrun⟩ | ⟨i, k, v, w', hi, hs, hrun, h1, h2, h3, h4, h5⟩
  · simp [execOp, hop, hit, hrun, Result.andThen]
    exact hK' _ _ (hDone h0)
  · simp [execOp, hop, hit, hrun, Result.andThen]
    exact hK' _ _ (hMore i k v w' hi hs h1 h2 h3 h4 h5)
theorem RMap.walks {W W' : World} {b : Nat} {es : List (α × Value)} (h : RMap enc W b es) (hk : KeepsWalks W W') : RMap enc W' b es := hk.same b _ h rfl
theorem RIter.walks {W W' : World} {r b n : Nat} {seen : List Nat} (h : RIter W r b n seen) (hk : KeepsWalks W W') : RIter W' r b n seen := by
  obtain ⟨c, hc, h⟩ := h
  exact ⟨c, hc, hk.same r _ h rfl⟩
theorem RIter.isWalk {W : World} {r b n : Nat} {seen : List Nat} (h : RIter W r b n seen) : ∃ o : Obj, W.heap[r]? = some o ∧ o.isWalk = true := by
  obtain ⟨c, _, h⟩ := h
  exact ⟨_, h, rfl⟩
/-- How many have come. -/
def came (W : World) (r : Nat) : Nat := match W.heap[r]? with | some (.mapIter _ _ s _) => s.size | _ => 0
theorem RIter.came {W : World} {r b n : Nat} {seen : List Nat} (h : RIter W r b n seen) : came W r = seen.length := by
  obtain ⟨c, _, h⟩ := h
  unfold Go.Proofs.Ytclgclcoblfddaa.came
  rw [h]; simp
/-- The keys of the places that have come. -/
def keysAt (es : List (α × Value)) (seen : List Nat) : List α := seen.filterMap fun i => (es[i]?).map (·.1)
theorem keysAt_snoc {es : List (α × Value)} {seen : List Nat} {i : Nat} {k : α} {v : Value} (h : es[i]? = some (k, v)) : keysAt es (seen ++ [i]) = keysAt es seen ++ [k] := by
  unfold keysAt
  rw [List.filterMap_append]
  simp [h]
theorem keysAt_length {es : List (α × Value)} : ∀ {seen : List Nat}, (∀ i ∈ seen, i < es.length) → (keysAt es seen).length = seen.length
  | [], _ => rfl
  | i :: seen, h => by
    have hi := h i List.mem_cons_self
    unfold keysAt
    rw [List.filterMap_cons, List.getElem?_eq_getElem hi]
    simp only [Option.map_some, List.length_cons]
    rw [← keysAt_length fun j hj => h j (List.mem_cons_of_mem _ hj)]
    rfl
/-- All have come, each once: the keys in some order. -/
theorem keysAt_all {es : List (α × Value)} {seen : List Nat} (hn : seen.Nodup) (hlt : ∀ i ∈ seen, i < es.length) (hall : ∀ i, i < es.length → i ∈ seen) : (keysAt es seen).Perm (es.map (·.1)) := by
  have hp : seen.Perm (List.range es.length) := by
    rw [List.perm_ext_iff_of_nodup hn List.nodup_range]
    intro i
    exact ⟨fun h => by simpa using hlt i h, fun h => hall i (by simpa using h)⟩
  have h1 : (keysAt es seen).Perm (keysAt es (List.range es.length)) := hp.filterMap _
  refine h1.trans (List.Perm.of_eq ?_)
  clear h1 hp hall hlt hn
  have key : ∀ (m : Nat), m ≤ es.length → keysAt es (List.range m) = (es.take m).map (·.1) := by
    intro m
    induction m with
    | zero => intro _; rfl
    | succ m ih =>
      intro hm
      rw [List.range_succ, keysAt_snoc (k := es[m].1) (v := es[m].2) (by rw [List.getElem?_eq_getElem (by omega)]), ih (by omega), List.take_succ_eq_append_getElem (by omega), List.map_append]
      rfl
  rw [key _ (Nat.le_refl _), List.take_length]
end
end Go.Proofs.Ytclgclcoblfddaa
