/- graph.turned, as graph.Of calls it. -/
import Derived.Test.YtdpfppibbnjemaaTurnedW
namespace Go.Proofs.Ytdpfppibbnjemaa
open Go.RowKit Go.Shelf
set_option linter.unusedVariables false
set_option linter.unusedSimpArgs false
theorem turned0_calls {n : Nat} (B : Option Addr) (cap : Nat) (l : List (List Int)) (w : World) (h : RV w n B l) (hn : n ≤ 1000) (hp : places n l) :
    Calls Try.prog 35 #[.slice B n cap, .slice none 0 0] w fun e w' => ∃ B' c', e = .returned (.slice B' n c') ∧ RVn w' n w.heap.size B' (turnedL l []) ∧ Ext w w' := by
  obtain ⟨R, h1, rfl, rfl⟩ := h
  exact turned_calls R B cap [] none 0 w hn h1 hp (.inl rfl) (fun t ht => by cases ht) (by simp)
theorem turned1_calls {n : Nat} (B : Option Addr) (cap : Nat) (l : List (List Int)) (q : Nat) (w : World) (h : RV w n B l) (hn : n ≤ 1000) (hp : places n l) (hq : w.cell? ⟨q, 0, none⟩ = some (.slice B n cap)) :
    Calls Try.prog 35 #[.slice B n cap, .slice (some ⟨q, 0, none⟩) 1 1] w fun e w' => ∃ B' c', e = .returned (.slice B' n c') ∧ RVn w' n w.heap.size B' (turnedL l [l]) ∧ Ext w w' := by
  obtain ⟨R, h1, rfl, rfl⟩ := h
  exact turned_calls R B cap [⟨B, cap, R⟩] (some ⟨q, 0, none⟩) 1 w hn h1 hp (.inr ⟨q, 0, rfl, fun j v hv => by
    cases j with
    | zero => cases hv; exact hq
    | succ j => cases hv⟩) (fun t ht => by rw [List.mem_singleton.1 ht]; exact ⟨h1, hp⟩) (by simp)
theorem rowsG_places {us : List LU} {nm : LU → List ByteArray} (hn : (us.map LU.name).Nodup) (hl : us.length ≤ 1000) (hk : ∀ u ∈ us, (nm u).length ≤ 1000) : places us.length (rowsG us nm) := by
  unfold rowsG
  refine ⟨by simp, fun r hr => ?_⟩
  obtain ⟨i, hi, rfl⟩ := List.getElem_of_mem hr
  rw [List.getElem_mapIdx]
  have hi' : i < us.length := by simpa using hi
  refine ⟨?_, fun x hx => ?_⟩
  · refine Nat.le_trans (sc_length _) (Nat.le_trans (hits_length us i _) ?_)
    have := hk us[i] (List.getElem_mem hi')
    omega
  · rw [mem_sc] at hx
    unfold hits at hx
    obtain ⟨h1, h2⟩ := List.mem_filter.1 hx
    obtain ⟨s, _, rfl⟩ := List.mem_map.1 h1
    simp only [Bool.and_eq_true, decide_eq_true_eq] at h2
    rcases idxU_lt (s := s) hn with h3 | ⟨k, u, h3, _, h4⟩
    · omega
    · have := (List.getElem?_eq_some_iff.1 h3).1
      omega
/-- A graph by value: ten tables of n rows. -/
def GV (W : World) (n : Nat) (cs : List Value) (ls : List (List (List Int))) : Prop := cs.length = 10 ∧ ls.length = 10 ∧ ∀ (k : Nat) (l : List (List Int)), ls[k]? = some l → ∃ A c, cs[k]? = some (Value.slice A n c) ∧ RV W n A l
theorem GV.ext {W W' : World} {n : Nat} {cs : List Value} {ls : List (List (List Int))} (h : GV W n cs ls) (hx : Ext W W') : GV W' n cs ls :=
  ⟨h.1, h.2.1, fun k l hk => by obtain ⟨A, c, h1, h2⟩ := h.2.2 k l hk; exact ⟨A, c, h1, h2.ext hx⟩⟩
def graphL (us : List LU) (nm : Nat → LU → List ByteArray) : List (List (List Int)) :=
  [rowsG us (nm 0), rowsG us (nm 1), rowsG us (nm 2), rowsG us (nm 3), rowsG us (nm 4), rowsG us (nm 5), turnedL (rowsG us (nm 6)) [rowsG us (nm 6)],
   turnedL (rowsG us (nm 0)) [], turnedL (rowsG us (nm 2)) [], turnedL (rowsG us (nm 3)) []]
end Go.Proofs.Ytdpfppibbnjemaa
