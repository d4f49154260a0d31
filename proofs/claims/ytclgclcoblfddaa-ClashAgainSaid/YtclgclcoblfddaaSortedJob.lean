/- slices.SortFunc(l, jobs.order), slices.SortedFunc(maps.Keys(m), jobs.order). -/
import Derived.Test.YtclgclcoblfddaaSortJob
namespace Go.Proofs.Ytclgclcoblfddaa
open Go.RowKit Go.Shelf Go.Sort
set_option linter.unusedVariables false
set_option linter.unusedSimpArgs false
def leJ (x y : Int × Int) : Bool := !(ltOf cmpJ) y x
theorem leJ_iff (x y : Int × Int) : leJ x y = true ↔ x.1 < y.1 ∨ x.1 = y.1 ∧ x.2 ≤ y.2 := by
  unfold leJ
  rw [ltOf_cmpJ]
  simp only [ltJ, Bool.not_eq_true', decide_eq_false_iff_not]
  omega
theorem leJ_trans (a b c : Int × Int) (h1 : leJ a b = true) (h2 : leJ b c = true) : leJ a c = true := by
  rw [leJ_iff] at *; omega
theorem leJ_total (a b : Int × Int) : (leJ a b || leJ b a) = true := by
  rw [Bool.or_eq_true, leJ_iff, leJ_iff]; omega
theorem leJ_anti (a b : Int × Int) (h1 : leJ a b = true) (h2 : leJ b a = true) : a = b := by
  rw [leJ_iff] at *
  obtain ⟨u, t⟩ := a
  obtain ⟨v, s⟩ := b
  simp only at *
  have : u = v := by omega
  have : t = s := by omega
  simp [*]
theorem sortJ_pairwise (l : List (Int × Int)) : (sortJ l).Pairwise fun a b => leJ a b = true := List.pairwise_mergeSort leJ_trans leJ_total l
theorem sortJ_perm (l : List (Int × Int)) : (sortJ l).Perm l := List.mergeSort_perm l _
theorem sortJ_eq {l l' : List (Int × Int)} (h : l.Perm l') : sortJ l = sortJ l' :=
  List.Perm.eq_of_pairwise (fun a b _ _ h1 h2 => leJ_anti a b h1 h2) (sortJ_pairwise l) (sortJ_pairwise l') (((sortJ_perm l).trans h).trans (sortJ_perm l').symm)
theorem sortJ_length (ss : List (Int × Int)) : (sortJ ss).length = ss.length := by unfold sortJ; exact List.length_mergeSort _
theorem putCells_take (F : Array Value) (cur : Array Value) (h : F.size ≤ cur.size) : (putCells id 0 F cur).toList.take F.size = F.toList ∧ (putCells id 0 F cur).size = cur.size := by
  constructor
  · apply List.ext_getElem?
    intro t
    unfold putCells
    rw [List.getElem?_take]
    by_cases ht : t < F.size
    · rw [if_pos ht, Array.getElem?_toList, Array.getElem?_mapIdx, Array.getElem?_eq_getElem (by omega), Array.getElem?_toList, Array.getElem?_eq_getElem ht]
      simp only [Option.map_some, Option.some.injEq]
      rw [if_pos ⟨Nat.zero_le _, by omega⟩, Nat.sub_zero, getElem!_pos F t ht]
      rfl
    · rw [if_neg ht, List.getElem?_eq_none (by simpa using ht)]
  · unfold putCells; simp
theorem sort_calls {base : Nat} {v : Value} {ss : List (Int × Int)} {w : World} (h : w.ownsRow base 32 2 v ss.length (cellsJ ss)) (hmax : ss.length ≤ 1000000) :
    Calls Try.prog 59 #[v, .func (.func 74) #[] #[]] w fun e w' => e = .returned (.tuple #[]) ∧ w'.ownsRow base 32 2 v (sortJ ss).length (cellsJ (sortJ ss)) ∧ w.grownBy w' v.ownBlock := by
  obtain ⟨hl, h2⟩ := h
  rcases h2 with ⟨rfl, h0⟩ | ⟨g, cap, cur, rfl, hb, hg, hn, hcap, hs, ht⟩
  · have : ss = [] := List.eq_nil_of_length_eq_zero h0
    subst this
    refine (AnyF.slices_SortFunc_none Try.sortJob none 0 _ w).mono ?_
    rintro e w' ⟨rfl, rfl⟩
    have hs : sortJ [] = [] := by simp [sortJ]
    rw [hs]
    exact ⟨rfl, World.ownsRow_nil _ _ _ _, rfl, rfl, rfl, Nat.le_refl _, fun _ _ _ => rfl⟩
  · have hcell : ∀ j, j < ss.length * 2 → w.cell? ⟨g, j, none⟩ = (cellsJ ss)[j]? := by
      intro j hj
      rw [← ht, List.getElem?_take, if_pos hj]
      simp [World.cell?, hg]
    have hH : HoldsK encJc 2 w g 0 ss.toArray := by
      intro j hj
      rw [size_flatK] at hj
      have hj' : j < ss.length * 2 := by simpa using hj
      rw [Nat.zero_add]
      refine ⟨?_, by simp [World.frozen?, hg]⟩
      rw [hcell j hj', ← flatK_cells, Array.getElem?_toList, Array.getElem?_eq_getElem (by rw [size_flatK]; exact hj), getElem!_pos _ j (by rw [size_flatK]; exact hj)]
      rfl
    have hlt : g < w.heap.size := (Array.getElem?_eq_some_iff.1 hg).1
    have hcon := AnyQ.slices_SortFunc_total Try.sortJob 2 Try.isAgg32 Try.sizeOf32 encJc (fun _ => rfl) (fun x u hu => by simp [encJc] at hu; rcases hu with rfl | rfl <;> rfl) cmpJ swoJ 74 #[] g 0 cap ss.toArray w
      (enters_of Try.func74 (by kernel_rfl) rfl) (cmpLays g 0 _ w) hH hlt (by simp; omega) totJ
    change Calls Try.prog 59 _ _ _ at hcon
    rw [List.size_toArray] at hcon
    refine hcon.mono ?_
    rintro e w' ⟨rfl, n, os, rfl⟩
    have hsj : (ss.toArray.toList.mergeSort fun x y => !(ltOf cmpJ) y x) = sortJ ss := rfl
    rw [hsj]
    have hfs : (flatK encJc 2 (sortJ ss).toArray).size = ss.length * 2 := by rw [size_flatK, List.size_toArray, sortJ_length]
    have hw : (sortWorldK encJc 2 w g 0 n (sortJ ss).toArray os).heap[g]? = some (.cells (putCells id 0 (flatK encJc 2 (sortJ ss).toArray) cur) 32 (0, 0)) := by
      show (w.heap.modify g (onCells (putCells id 0 (flatK encJc 2 (sortJ ss).toArray))) ++ os)[g]? = _
      rw [Array.getElem?_append_left (by simpa using hlt), Array.getElem?_modify, if_pos rfl, hg]
      rfl
    have hpt := putCells_take (flatK encJc 2 (sortJ ss).toArray) cur (by rw [hfs, hs]; exact Nat.mul_le_mul_right _ hn)
    refine ⟨rfl, ⟨cellsJ_length _, .inr ⟨g, cap, _, by rw [sortJ_length], hb, hw, by rw [sortJ_length]; exact hn, hcap, by rw [hpt.2]; exact hs, ?_⟩⟩, ?_⟩
    · rw [sortJ_length, ← hfs, hpt.1, flatK_cells]
    · refine ⟨rfl, rfl, rfl, ?_, fun k hk hne => ?_⟩
      · show w.heap.size ≤ (w.heap.modify g _ ++ os).size
        simp
      · show (w.heap.modify g _ ++ os)[k]? = _
        have hgk : g ≠ k := fun e => hne (by rw [← e]; rfl)
        rw [Array.getElem?_append_left (by simpa using hk), Array.getElem?_modify, if_neg hgk]
theorem keysf (b : Nat) (w : World) : Calls Try.prog 73 #[.map (some b)] w fun e w' => e = .returned (.func (.func 85) #[] #[.pointer (some ⟨w.heap.size, 0, none⟩)]) ∧ w' = w.alloc (.cells #[.map (some b)] 115) := by
  go_enter Try.func73, Try.ntmps73
  go_wp2_with fail
  go_ret
  exact ⟨rfl, rfl⟩
theorem collect_calls (g : Nat) (lb : Array Value) (eg : ∀ args w, (callFunc g args).run Try.prog w = .ok (.enter g args) w)
    (S : List (Int × Int) → Prop) (N : Nat) (hN : N ≤ 1000000) (w : World) (hseq : ∀ n, 1 ≤ n → SeqStopsK Fence.wide n Try.prog g lb (fun x : Int × Int => #[encJ x]) KeepsWalks S (fun _ => True) N w) :
    Calls Try.prog 44 #[.func (.func g) #[] lb] w fun e w' => ∃ (v : Value) (ss : List (Int × Int)), e = .returned v ∧ S ss ∧ w'.ownsRow w.heap.size 32 2 v ss.length (cellsJ ss) ∧ Below w.heap.size w w' := by
  have hA := Lib.hid (callsIn_wide.1 (appendSeq_in Fence.wide 3 trivial rfl (by omega) g lb trivial eg S N hN w (hseq 2 (by omega))))
  go_enter Try.func44, Try.ntmps44
  go_wp2_with (go_at_call 68; refine hA.out.mono ?_; rintro e w' ⟨v, ss, rfl, hS, hrow, hb⟩)
  go_ret
  exact ⟨v, ss, rfl, hS, hrow, hb⟩
theorem sortedFunc_calls (Bm b : Nat) (es : List ((Int × Int) × Value)) (w : World) (hBm : Bm < w.heap.size) (hm : w.cell? ⟨Bm, 0, none⟩ = some (.map (some b))) (hown : RMap encJ w b es) (hN : es.length ≤ 1000000) :
    Calls Try.prog 72 #[.func (.func 85) #[] #[.pointer (some ⟨Bm, 0, none⟩)], .func (.func 74) #[] #[]] w fun e w' => ∃ (v : Value) (ss : List (Int × Int)), e = .returned v ∧ ss = sortJ (es.map (·.1)) ∧ w'.ownsRow w.heap.size 32 2 v ss.length (cellsJ ss) ∧ Below w.heap.size w w' := by
  have hC := Lib.hid (collect_calls 85 #[.pointer (some ⟨Bm, 0, none⟩)] (enters_of Try.func85 (by kernel_rfl) rfl) _ _ hN w (fun n hn => keys_seq Fence.wide n trivial rfl hn Bm b es w hBm hm hown))
  go_enter Try.func72, Try.ntmps72
  go_wp2_with (first | (go_at_call 44; refine hC.out.mono ?_; rintro e w' ⟨v, ss, rfl, hS, hrow, hb⟩))
  have hlen : ss.length ≤ 1000000 := by rw [hS.length_eq]; simpa using hN
  refine (sort_calls hrow hlen).mono ?_
  rintro e w2 ⟨rfl, hr2, hg2⟩
  go_wp2_with fail
  go_ret
  exact ⟨v, sortJ ss, rfl, sortJ_eq hS, hr2, hb.grown hg2 hb.size (fun k e => (hrow.lt k e).1)⟩
end Go.Proofs.Ytclgclcoblfddaa
