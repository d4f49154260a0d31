/- Plain: items sorted, each job once. -/
import Derived.Test.YtclgclcoblfddaaIt
import Derived.Test.YtclgclcoblfddaaSortedJob
namespace Go.Proofs.Ytclgclcoblfddaa
open Go.Shelf Go.Sort
set_option linter.unusedVariables false
set_option linter.unusedSimpArgs false

def jobOf (x : It) : Int × Int := (x.u, x.t)
def mustOf (l : List It) (k : Int × Int) : Bool := l.any fun x => decide (jobOf x = k) && x.m
def ltI (x y : It) : Bool := ltJ (jobOf x) (jobOf y)
def ins (x : It) : List It → List It
  | [] => [x]
  | y :: ys => if ltI y x then y :: ins x ys else if ltI x y then x :: y :: ys else ⟨y.u, y.t, y.m || x.m⟩ :: ys
def sortedL (l : List It) : List It := l.foldl (fun acc x => ins x acc) []
theorem ltJ_iff (a b : Int × Int) : ltJ a b = true ↔ a.1 < b.1 ∨ a.1 = b.1 ∧ a.2 < b.2 := by unfold ltJ; rw [decide_eq_true_iff]
theorem ltJ_trans {a b c : Int × Int} (h1 : ltJ a b = true) (h2 : ltJ b c = true) : ltJ a c = true := by rw [ltJ_iff] at *; omega
theorem ltJ_irrefl (a : Int × Int) : ltJ a a = false := by rw [← Bool.not_eq_true, ltJ_iff]; omega
theorem ltJ_tri {a b : Int × Int} (h1 : ltJ a b = false) (h2 : ltJ b a = false) : a = b := totJ a b (by rw [ltOf_cmpJ]; exact h1) (by rw [ltOf_cmpJ]; exact h2)
theorem ltJ_ne {a b : Int × Int} (h : ltJ a b = true) : a ≠ b := by
  rintro rfl
  rw [ltJ_irrefl] at h
  cases h
/-- Strictly rising. -/
def Rise (l : List It) : Prop := l.Pairwise fun x y => ltI x y = true
theorem mem_ins {x : It} : ∀ {l : List It}, ∀ y, y ∈ (ins x l).map jobOf ↔ y = jobOf x ∨ y ∈ l.map jobOf
  | [], y => by simp [ins]
  | z :: zs, y => by
    unfold ins
    by_cases h1 : ltI z x = true
    · rw [if_pos h1]
      simp only [List.map_cons, List.mem_cons, mem_ins]
      constructor
      · rintro (h | h | h) <;> simp [h]
      · rintro (h | h | h) <;> simp [h]
    · rw [if_neg h1]
      by_cases h2 : ltI x z = true
      · rw [if_pos h2]
        simp only [List.map_cons, List.mem_cons]
      · rw [if_neg h2]
        have e : jobOf z = jobOf x := ltJ_tri (by simpa [ltI] using h1) (by simpa [ltI] using h2)
        simp only [List.map_cons, List.mem_cons]
        have e2 : jobOf ⟨z.u, z.t, z.m || x.m⟩ = jobOf z := rfl
        rw [e2, e]
        constructor
        · rintro (h | h) <;> simp [h]
        · rintro (h | h | h) <;> simp [h]
theorem rise_ins {x : It} : ∀ {l : List It}, Rise l → Rise (ins x l)
  | [], _ => by simp [ins, Rise]
  | z :: zs, h => by
    obtain ⟨h0, h1⟩ := List.pairwise_cons.1 h
    unfold ins
    by_cases c1 : ltI z x = true
    · rw [if_pos c1]
      refine List.pairwise_cons.2 ⟨fun y hy => ?_, rise_ins h1⟩
      have : jobOf y ∈ (ins x zs).map jobOf := List.mem_map_of_mem hy
      rcases (mem_ins _).1 this with e | e
      · unfold ltI; rw [e]; exact c1
      · obtain ⟨y', hy', e⟩ := List.mem_map.1 e
        unfold ltI; rw [← e]; exact h0 y' hy'
    · rw [if_neg c1]
      by_cases c2 : ltI x z = true
      · rw [if_pos c2]
        exact List.pairwise_cons.2 ⟨fun y hy => by
          rcases List.mem_cons.1 hy with rfl | hy
          · exact c2
          · exact ltJ_trans c2 (h0 y hy), h⟩
      · rw [if_neg c2]
        exact List.pairwise_cons.2 ⟨fun y hy => h0 y hy, h1⟩
theorem must_ins {x : It} {k : Int × Int} : ∀ {l : List It}, mustOf (ins x l) k = (mustOf l k || (decide (jobOf x = k) && x.m))
  | [] => by simp [ins, mustOf]
  | z :: zs => by
    unfold ins
    by_cases c1 : ltI z x = true
    · rw [if_pos c1]
      have := must_ins (x := x) (k := k) (l := zs)
      unfold mustOf at *
      rw [List.any_cons, this, List.any_cons, Bool.or_assoc]
    · rw [if_neg c1]
      by_cases c2 : ltI x z = true
      · rw [if_pos c2]
        unfold mustOf
        rw [List.any_cons, Bool.or_comm]
      · rw [if_neg c2]
        have e : jobOf z = jobOf x := ltJ_tri (by simpa [ltI] using c1) (by simpa [ltI] using c2)
        have e2 : jobOf ⟨z.u, z.t, z.m || x.m⟩ = jobOf z := rfl
        unfold mustOf
        rw [List.any_cons, List.any_cons, e2, e]
        cases decide (jobOf x = k) <;> cases z.m <;> cases x.m <;> simp
/-- In a rising list a job stands once: it bears its own must. -/
theorem rise_must {l : List It} (h : Rise l) {x : It} (hx : x ∈ l) : mustOf l (jobOf x) = x.m := by
  induction l with
  | nil => cases hx
  | cons z zs ih =>
    obtain ⟨h0, h1⟩ := List.pairwise_cons.1 h
    unfold mustOf at *
    rw [List.any_cons]
    rcases List.mem_cons.1 hx with rfl | hx
    · have : zs.any (fun y => decide (jobOf y = jobOf x) && y.m) = false := by
        rw [List.any_eq_false]
        intro y hy
        have := ltJ_ne (h0 y hy)
        have hd : decide (jobOf y = jobOf x) = false := decide_eq_false fun e => this e.symm
        simp [hd]
      rw [this]; simp
    · have : jobOf z ≠ jobOf x := ltJ_ne (h0 x hx)
      rw [ih h1 hx]
      simp [this]
theorem sortedL_snoc (l : List It) (x : It) : sortedL (l ++ [x]) = ins x (sortedL l) := by unfold sortedL; rw [List.foldl_append]; rfl
theorem sortedL_facts (l : List It) : Rise (sortedL l) ∧ (∀ k, k ∈ (sortedL l).map jobOf ↔ k ∈ l.map jobOf) ∧ ∀ k, mustOf (sortedL l) k = mustOf l k := by
  have key : ∀ m, m ≤ l.length → Rise (sortedL (l.take m)) ∧ (∀ k, k ∈ (sortedL (l.take m)).map jobOf ↔ k ∈ (l.take m).map jobOf) ∧ ∀ k, mustOf (sortedL (l.take m)) k = mustOf (l.take m) k := by
    intro m
    induction m with
    | zero => intro _; exact ⟨List.Pairwise.nil, fun k => by simp [sortedL], fun k => by simp [sortedL]⟩
    | succ m ih =>
      intro hm
      obtain ⟨h1, h2, h3⟩ := ih (by omega)
      rw [List.take_succ_eq_append_getElem (by omega), sortedL_snoc]
      refine ⟨rise_ins h1, fun k => ?_, fun k => ?_⟩
      · rw [mem_ins, h2]
        simp only [List.map_append, List.mem_append, List.map_cons, List.map_nil, List.mem_singleton]
        exact Or.comm
      · rw [must_ins, h3]
        unfold mustOf
        rw [List.any_append]
        simp
  have := key l.length (Nat.le_refl _)
  rwa [List.take_length] at this
/-- What is strictly rising, has these jobs and their musts, is the sorted row. -/
theorem sortedL_of {l : List It} {ks : List (Int × Int)} (hn : ks.Nodup) (hk : ∀ k, k ∈ ks ↔ k ∈ l.map jobOf) : (sortJ ks).map (fun k => (⟨k.1, k.2, mustOf l k⟩ : It)) = sortedL l := by
  obtain ⟨h1, h2, h3⟩ := sortedL_facts l
  have hnd : ((sortedL l).map jobOf).Nodup := by
    rw [List.nodup_iff_pairwise_ne, List.pairwise_map]
    exact h1.imp fun h => ltJ_ne h
  have hp : ks.Perm ((sortedL l).map jobOf) := (List.perm_ext_iff_of_nodup hn hnd).2 fun k => by rw [hk, h2]
  have hs : sortJ ks = (sortedL l).map jobOf := by
    refine List.Perm.eq_of_pairwise (fun a b _ _ x y => leJ_anti a b x y) (sortJ_pairwise ks) ?_ ((sortJ_perm ks).trans hp)
    rw [List.pairwise_map]
    refine h1.imp fun {a b} h => ?_
    rw [leJ_iff]
    unfold ltI at h
    rw [ltJ_iff] at h
    omega
  rw [hs, List.map_map]
  conv => rhs; rw [← List.map_id (sortedL l)]
  apply List.map_congr_left
  intro x hx
  show (⟨x.u, x.t, mustOf l (jobOf x)⟩ : It) = x
  rw [← h3, rise_must h1 hx]
end Go.Proofs.Ytclgclcoblfddaa
