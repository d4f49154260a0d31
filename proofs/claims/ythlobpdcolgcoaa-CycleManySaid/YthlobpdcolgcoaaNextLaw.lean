/- Plain: the rows of next; one item more; turned about. -/
import Derived.Test.YthlobpdcolgcoaaRingLaw
namespace Go.Proofs.Ythlobpdcolgcoaa
set_option linter.unusedVariables false
set_option linter.unusedSimpArgs false

theorem mem_next {af be : List (List Int)} {l : List It} {x y : Int} : y ∈ rowOf (nextL af be l) x ↔ ∃ i j : Nat, x = i ∧ y = j ∧ ∃ a b, l[i]? = some a ∧ l[j]? = some b ∧ ahd af be a b = true := by
  constructor
  · intro h
    obtain ⟨h0, h1⟩ := row_some h
    obtain ⟨i, rfl⟩ : ∃ i : Nat, x = i := ⟨x.toNat, by omega⟩
    rw [nextL_length] at h1
    have hi : i < l.length := by omega
    unfold rowOf at h
    rw [if_neg (by omega), Int.toNat_natCast, List.getD_eq_getElem?_getD, nextL, List.getElem?_map, List.getElem?_eq_getElem hi] at h
    simp only [Option.map_some, Option.getD_some] at h
    unfold rowTo at h
    obtain ⟨j, hj, rfl⟩ := List.mem_map.1 h
    obtain ⟨hj1, hj2⟩ := List.mem_filter.1 hj
    have hj3 : j < l.length := by simpa using hj1
    refine ⟨i, j, rfl, rfl, _, _, List.getElem?_eq_getElem hi, List.getElem?_eq_getElem hj3, ?_⟩
    rw [List.getD_eq_getElem?_getD, List.getElem?_eq_getElem hj3] at hj2
    exact hj2
  · rintro ⟨i, j, rfl, rfl, a, b, ha, hb, hab⟩
    have hj : j < l.length := (List.getElem?_eq_some_iff.1 hb).1
    unfold rowOf
    rw [if_neg (by omega), Int.toNat_natCast, List.getD_eq_getElem?_getD, nextL, List.getElem?_map, ha]
    simp only [Option.map_some, Option.getD_some]
    unfold rowTo
    refine List.mem_map.2 ⟨j, List.mem_filter.2 ⟨by simpa using hj, ?_⟩, rfl⟩
    rw [List.getD_eq_getElem?_getD, hb]
    exact hab
theorem next_more {af be : List (List Int)} {l : List It} (z : It) : ∀ x, ∀ y ∈ rowOf (nextL af be l) x, y ∈ rowOf (nextL af be (l ++ [z])) x := by
  intro x y h
  obtain ⟨i, j, rfl, rfl, a, b, ha, hb, hab⟩ := mem_next.1 h
  refine mem_next.2 ⟨i, j, rfl, rfl, a, b, ?_, ?_, hab⟩
  · rw [List.getElem?_append_left (List.getElem?_eq_some_iff.1 ha).1]
    exact ha
  · rw [List.getElem?_append_left (List.getElem?_eq_some_iff.1 hb).1]
    exact hb
theorem len_eq {tb tb' : List (List Int)} (h : RingL tb ≠ [] → RingL tb' ≠ [] ∧ (RingL tb').length ≤ (RingL tb).length) (k : RingL tb' ≠ [] → RingL tb ≠ [] ∧ (RingL tb).length ≤ (RingL tb').length) : (RingL tb').length = (RingL tb).length := by
  by_cases h0 : RingL tb = []
  · by_cases h1 : RingL tb' = []
    · rw [h0, h1]
    · exact absurd h0 (k h1).1
  · have a := h h0
    have b := k a.1
    omega
/-- Every edge turned about, both ways: rings as long. -/
theorem turned_len {tb tb' : List (List Int)} (h : ∀ x y, y ∈ rowOf tb x ↔ x ∈ rowOf tb' y) : (RingL tb').length = (RingL tb).length :=
  len_eq (RingL_turned fun x y => (h x y).1) (RingL_turned fun x y hy => (h y x).2 hy)
theorem same_len {tb tb' : List (List Int)} (h : ∀ x y, y ∈ rowOf tb x ↔ y ∈ rowOf tb' x) : (RingL tb').length = (RingL tb).length :=
  len_eq (RingL_more fun x y => (h x y).1) (RingL_more fun x y => (h x y).2)
theorem upB_swap (af be : List (List Int)) (a b : Int) : upB be af a b = upB af be b a := by
  unfold upB
  rw [Bool.or_comm]
/-- Items of one type. -/
def typed (l : List It) (t : Int) : List It := l.map fun i => ⟨i.u, t, i.m⟩
theorem typed_length (l : List It) (t : Int) : (typed l t).length = l.length := by simp [typed]
theorem typed_step {l : List It} {j : Nat} {u t : Int} {m : Bool} (h : l[j]? = some ⟨u, t, m⟩) (s : Int) : typed (l.take (j + 1)) s = typed (l.take j) s ++ [⟨u, s, m⟩] := by
  unfold typed
  rw [List.take_add_one, h, List.map_append]
  rfl
theorem mem_typed {af be : List (List Int)} {l : List It} {t : Int} {x y : Int} : y ∈ rowOf (nextL af be (typed l t)) x ↔ ∃ i j : Nat, x = i ∧ y = j ∧ ∃ a b, l[i]? = some a ∧ l[j]? = some b ∧ aheadB af be a.u t b.u t = true := by
  rw [mem_next]
  constructor
  · rintro ⟨i, j, rfl, rfl, a, b, ha, hb, hab⟩
    unfold typed at ha hb
    rw [List.getElem?_map] at ha hb
    obtain ⟨a', ha', rfl⟩ := Option.map_eq_some_iff.1 ha
    obtain ⟨b', hb', rfl⟩ := Option.map_eq_some_iff.1 hb
    exact ⟨i, j, rfl, rfl, a', b', ha', hb', hab⟩
  · rintro ⟨i, j, rfl, rfl, a, b, ha, hb, hab⟩
    refine ⟨i, j, rfl, rfl, ⟨a.u, t, a.m⟩, ⟨b.u, t, b.m⟩, ?_, ?_, hab⟩
    · unfold typed; rw [List.getElem?_map, ha]; rfl
    · unfold typed; rw [List.getElem?_map, hb]; rfl
theorem ahead_turn (af be : List (List Int)) (u v : Int) {t : Int} (ht : t ≠ 2) : aheadB be af u t v t = aheadB af be v t u t := by
  unfold aheadB
  rw [if_neg ht, if_neg ht, if_neg ht, if_neg ht]
  by_cases h : u = v
  · rw [if_pos h, if_pos h.symm]
  · rw [if_neg h, if_neg (fun e => h e.symm), upB_swap]
theorem ahead_stop (af be : List (List Int)) (u v : Int) : aheadB af be u 2 v 2 = aheadB af be v 1 u 1 := by
  unfold aheadB
  by_cases h : u = v
  · rw [if_pos h, if_pos h.symm]
  · rw [if_neg h, if_neg (show ¬ v = u from fun e => h e.symm)]
    simp
theorem ahead_again (af be : List (List Int)) (u v : Int) : aheadB af be u 3 v 3 = aheadB af be u 1 v 1 := by
  unfold aheadB
  rw [if_neg (by decide : ¬ (3 : Int) = 2), if_neg (by decide : ¬ (3 : Int) = 2), if_neg (by decide : ¬ (1 : Int) = 2), if_neg (by decide : ¬ (1 : Int) = 2)]
theorem turn_aux {af be af' be' : List (List Int)} {l : List It} {t s : Int} (h : ∀ u v, aheadB af be u t v t = aheadB af' be' v s u s) : (RingL (nextL af' be' (typed l s))).length = (RingL (nextL af be (typed l t))).length :=
  turned_len fun x y => by
    rw [mem_typed, mem_typed]
    constructor
    · rintro ⟨i, j, rfl, rfl, a, b, ha, hb, hab⟩
      exact ⟨j, i, rfl, rfl, b, a, hb, ha, by rw [← h]; exact hab⟩
    · rintro ⟨i, j, rfl, rfl, a, b, ha, hb, hab⟩
      exact ⟨j, i, rfl, rfl, b, a, hb, ha, by rw [h]; exact hab⟩
theorem same_aux {af be af' be' : List (List Int)} {l : List It} {t s : Int} (h : ∀ u v, aheadB af be u t v t = aheadB af' be' u s v s) : (RingL (nextL af' be' (typed l s))).length = (RingL (nextL af be (typed l t))).length :=
  same_len fun x y => by
    rw [mem_typed, mem_typed]
    simp only [h]
theorem turned_starts (af be : List (List Int)) (l : List It) : (RingL (nextL be af (typed l 1))).length = (RingL (nextL af be (typed l 1))).length := turn_aux fun u v => (ahead_turn af be v u (t := 1) (by decide)).symm
theorem turned_stops (af be : List (List Int)) (l : List It) : (RingL (nextL af be (typed l 2))).length = (RingL (nextL af be (typed l 1))).length := turn_aux fun u v => (ahead_stop af be v u).symm
theorem turned_again (af be : List (List Int)) (l : List It) : (RingL (nextL af be (typed l 3))).length = (RingL (nextL af be (typed l 1))).length := same_aux fun u v => (ahead_again af be u v).symm
end Go.Proofs.Ythlobpdcolgcoaa
