/- Sorting and making whole, plainly, without the print: what is whole stays; equal neighbours. -/
import Derived.Test.YtclgclcoblfddaaWholeL
import Derived.Test.YtclgclcoblfddaaSortL
import Derived.Test.YtclgclcoblfddaaCptJ
namespace Go.Proofs.Ytclgclcoblfddaa
set_option linter.unusedVariables false
set_option linter.unusedSimpArgs false
theorem tri (a : Int) : a = 1 ∨ a = 2 ∨ a = 3 ∨ knownB a = false := by
  unfold knownB
  by_cases h1 : 1 ≤ a
  · by_cases h2 : a ≤ 3
    · omega
    · simp [h2]
  · simp [h1]
theorem mrg_self (a : Int) : mrg a a = if knownB a then (a, true) else (0, false) := by
  rcases tri a with rfl | rfl | rfl | h <;> first | decide | (simp [mrg, *])
theorem rise_nodup {l : List It} (h : Rise l) : (l.map jobOf).Nodup := by
  unfold List.Nodup
  rw [List.pairwise_map]
  exact h.imp fun hxy => ltJ_ne hxy
theorem sortedL_mem {l l' : List It} (h : ∀ x, x ∈ l ↔ x ∈ l') : sortedL l = sortedL l' := by
  obtain ⟨h1, h2, h3⟩ := sortedL_facts l
  have hm : ∀ k, mustOf l k = mustOf l' k := fun k => by
    unfold mustOf
    rw [Bool.eq_iff_iff, List.any_eq_true, List.any_eq_true]
    exact ⟨fun ⟨x, hx, hp⟩ => ⟨x, (h x).1 hx, hp⟩, fun ⟨x, hx, hp⟩ => ⟨x, (h x).2 hx, hp⟩⟩
  have hk : ∀ k, k ∈ l.map jobOf ↔ k ∈ l'.map jobOf := fun k => by
    rw [List.mem_map, List.mem_map]
    exact ⟨fun ⟨x, hx, hp⟩ => ⟨x, (h x).1 hx, hp⟩, fun ⟨x, hx, hp⟩ => ⟨x, (h x).2 hx, hp⟩⟩
  rw [← sortedL_of (l := l) (rise_nodup h1) h2, ← sortedL_of (l := l') (rise_nodup h1) (fun k => (h2 k).trans (hk k))]
  exact List.map_congr_left fun k _ => by rw [hm]
theorem ins_last {x : It} : ∀ {l : List It}, (∀ y ∈ l, ltI y x = true) → ins x l = l ++ [x]
  | [], _ => rfl
  | y :: l, h => by
    rw [ins, if_pos (h y (by simp)), ins_last fun z hz => h z (by simp [hz])]
    rfl
theorem foldl_rise : ∀ (l acc : List It), Rise (acc ++ l) → l.foldl (fun acc x => ins x acc) acc = acc ++ l
  | [], acc, _ => by simp
  | x :: l, acc, h => by
    rw [List.foldl_cons, ins_last, foldl_rise l (acc ++ [x]) (by simpa using h)]
    · simp
    · intro y hy
      unfold Rise at h
      rw [List.pairwise_append] at h
      exact h.2.2 y hy x (by simp)
theorem sortedL_rise {l : List It} (h : Rise l) : sortedL l = l := by
  have := foldl_rise l [] (by simpa using h)
  simpa [sortedL] using this
/-- Units rise strictly. -/
def Units (l : List It) : Prop := l.Pairwise fun x y => x.u < y.u
theorem Units.rise {l : List It} (h : Units l) : Rise l := by
  unfold Units at h
  unfold Rise
  exact h.imp fun {a b} hxy => (ltJ_iff (jobOf a) (jobOf b)).2 (.inl hxy)
theorem run_of_rise {x : It} {r : List It} (h : Rise (x :: r)) : ∀ y ∈ afterOf x.u (x :: r), x.u < y.u := by
  have hd : ∀ {l : List It}, Rise l → (∀ y ∈ l, x.u ≤ y.u) → ∀ y ∈ afterOf x.u l, x.u < y.u := by
    intro l
    induction l with
    | nil => intro _ _ y hy; cases hy
    | cons z l ih =>
      intro hr hge y hy
      unfold Rise at hr
      rw [List.pairwise_cons] at hr
      unfold afterOf at hy
      by_cases hz : z.u = x.u
      · rw [List.dropWhile_cons_of_pos (by simp [hz])] at hy
        exact ih hr.2 (fun y hy => hge y (by simp [hy])) y hy
      · rw [List.dropWhile_cons_of_neg (by simp [hz])] at hy
        have h1 := hge z (by simp)
        rcases List.mem_cons.1 hy with rfl | hy
        · omega
        · have := (ltJ_iff _ _).1 (hr.1 y hy)
          simp only [jobOf] at this
          omega
  refine hd h fun y hy => ?_
  unfold Rise at h
  rw [List.pairwise_cons] at h
  rcases List.mem_cons.1 hy with rfl | hy
  · omega
  · have := (ltJ_iff _ _).1 (h.1 y hy)
    simp only [jobOf] at this
    omega
theorem after_rise {u : Int} {l : List It} (h : Rise l) : Rise (afterOf u l) := List.Pairwise.sublist (List.dropWhile_sublist _) h
theorem mrg_known {a b : Int} (h : (mrg a b).2 = true) : knownB (mrg a b).1 = true := by
  rcases tri a with rfl | rfl | rfl | h1 <;> rcases tri b with rfl | rfl | rfl | h2 <;> first | (simp [mrg, *] at h; done) | (revert h; decide) | (simp [mrg, *] at h)
theorem mrgs_known : ∀ (g : List It) (t : Int) (m ok : Bool), (ok = true → knownB t = true) → (mrgs t m ok g).2.2 = true → knownB (mrgs t m ok g).1 = true
  | [], t, m, ok, h, h2 => h h2
  | x :: g, t, m, ok, h, h2 => by
    rw [mrgs] at h2 ⊢
    refine mrgs_known g _ _ _ (fun hk => ?_) h2
    rw [Bool.and_eq_true] at hk
    exact mrg_known hk.2
/-- What is whole: units rise, types are known, units come from the row. -/
theorem whole_facts : ∀ (n : Nat) (s : List It), s.length ≤ n → Rise s → Units (wholeL s).1 ∧ (∀ x ∈ (wholeL s).1, knownB x.t = true ∧ ∃ y ∈ s, y.u = x.u)
  | _, [], _, _ => ⟨List.Pairwise.nil, fun x hx => by cases hx⟩
  | 0, x :: r, h, _ => by simp at h
  | n + 1, x :: r, h, hr => by
    have hlt := afterOf_lt x r
    have hlen : (afterOf x.u (x :: r)).length ≤ n := by simp at h; omega
    obtain ⟨h1, h2⟩ := whole_facts n _ hlen (after_rise (u := x.u) hr)
    have h3 := run_of_rise hr
    have hsub : ∀ y ∈ afterOf x.u (x :: r), y ∈ x :: r := fun y hy => (List.dropWhile_sublist _).subset hy
    rw [wholeL_cons]
    unfold glue
    split
    · rename_i hok
      refine ⟨List.pairwise_cons.2 ⟨fun y hy => ?_, h1⟩, fun y hy => ?_⟩
      · obtain ⟨_, z, hz, e⟩ := h2 y hy
        have := h3 z hz
        simp only
        omega
      · rcases List.mem_cons.1 hy with rfl | hy
        · exact ⟨mrgs_known _ _ _ _ (fun h => h) hok, x, by simp, rfl⟩
        · obtain ⟨a, z, hz, e⟩ := h2 y hy
          exact ⟨a, z, hsub z hz, e⟩
    · refine ⟨h1, fun y hy => ?_⟩
      obtain ⟨a, z, hz, e⟩ := h2 y hy
      exact ⟨a, z, hsub z hz, e⟩
theorem whole_whole : ∀ {l : List It}, Units l → (∀ x ∈ l, knownB x.t = true) → wholeL l = (l, [])
  | [], _, _ => rfl
  | x :: r, hu, hk => by
    unfold Units at hu
    rw [List.pairwise_cons] at hu
    have ih := whole_whole (l := r) hu.2 fun y hy => hk y (by simp [hy])
    have ht : List.takeWhile (fun y => decide (y.u = x.u)) r = [] ∧ List.dropWhile (fun y => decide (y.u = x.u)) r = r := by
      cases r with
      | nil => exact ⟨rfl, rfl⟩
      | cons y r =>
        have := hu.1 y (by simp)
        have hne : ¬ y.u = x.u := by omega
        exact ⟨List.takeWhile_cons_of_neg (by simp [hne]), List.dropWhile_cons_of_neg (by simp [hne])⟩
    have h1 : runOf x.u (x :: r) = [x] := by unfold runOf; rw [List.takeWhile_cons_of_pos (by simp), ht.1]
    have h2 : afterOf x.u (x :: r) = r := by unfold afterOf; rw [List.dropWhile_cons_of_pos (by simp), ht.2]
    have h3 := hk x (by simp)
    rw [wholeL_cons, h1, h2, ih]
    unfold glue
    simp [mrgs, mrg_self, h3]
theorem whole_len (s : List It) : (wholeL s).1.length + (wholeL s).2.length ≤ s.length := by
  have key : ∀ (n : Nat) (s : List It), s.length ≤ n → (wholeL s).1.length + (wholeL s).2.length ≤ s.length := by
    intro n
    induction n with
    | zero => intro s h; rw [List.eq_nil_of_length_eq_zero (Nat.le_zero.1 h)]; exact Nat.le_refl _
    | succ n ih =>
      intro s h
      cases s with
      | nil => exact Nat.le_refl _
      | cons x r =>
        have hlt := afterOf_lt x r
        have h1 := ih (afterOf x.u (x :: r)) (by simp at h; omega)
        have h2 : (runOf x.u (x :: r)).length + (afterOf x.u (x :: r)).length = (x :: r).length := by
          rw [← List.length_append]
          unfold runOf afterOf
          rw [List.takeWhile_append_dropWhile]
        have h3 : 1 ≤ (runOf x.u (x :: r)).length := by unfold runOf; rw [List.takeWhile_cons_of_pos (by simp)]; simp
        rw [wholeL_cons]
        unfold glue
        split
        · simp only [List.length_cons] at h2 ⊢; omega
        · simp only [List.length_append, List.length_map] at h2 ⊢; omega
  exact key _ s (Nat.le_refl _)
theorem whole_again (l : List It) : wholeL (sortedL (wholeL (sortedL l)).1) = ((wholeL (sortedL l)).1, []) := by
  obtain ⟨h1, h2⟩ := whole_facts _ (sortedL l) (Nat.le_refl _) (sortedL_facts l).1
  rw [sortedL_rise h1.rise]
  exact whole_whole h1 fun x hx => (h2 x hx).1
theorem comp_rise {l : List Jb} (h : l.Pairwise fun a b => leJ a b = true) : (compL l).Pairwise fun a b => ltJ a b = true := by
  have key : ∀ n (l : List Jb), l.length = n → (l.Pairwise fun a b => leJ a b = true) → (compL l).Pairwise fun a b => ltJ a b = true := by
    intro n
    induction n with
    | zero => intro l h _; rw [List.eq_nil_of_length_eq_zero h]; exact List.Pairwise.nil
    | succ n ih =>
      intro l h hp
      rcases List.eq_nil_or_concat l with h0 | ⟨i, y, h0⟩
      · subst h0; exact List.Pairwise.nil
      · rw [List.concat_eq_append] at h0
        subst h0
        rw [List.pairwise_append] at hp
        have hi := ih i (by simpa using h) hp.1
        rw [compL_snoc]
        split
        · exact hi
        · rename_i hne
          rw [List.pairwise_append]
          refine ⟨hi, List.pairwise_singleton _ _, fun a ha b hb => ?_⟩
          rw [List.mem_singleton.1 hb]
          have hle := hp.2.2 a ((compL_mem i a).1 ha) y List.mem_cons_self
          refine Classical.byContradiction fun hno => ?_
          have hay : a = y := by
            rw [leJ_iff] at hle
            rw [ltJ_iff] at hno
            obtain ⟨u, t⟩ := a
            obtain ⟨v, s⟩ := y
            simp only at *
            have : u = v := by omega
            have : t = s := by omega
            simp [*]
          subst hay
          rcases List.eq_nil_or_concat (compL i) with h1 | ⟨d, z, h1⟩
          · rw [h1] at ha; cases ha
          · rw [List.concat_eq_append] at h1
            have hz : z ∈ i := (compL_mem i z).1 (by rw [h1]; simp)
            have hzl := hp.2.2 z hz a List.mem_cons_self
            rw [h1] at ha hi hne
            rcases List.mem_append.1 ha with ha | ha
            · have hlt := (List.pairwise_append.1 hi).2.2 a ha z List.mem_cons_self
              rw [ltJ_iff] at hlt
              rw [leJ_iff] at hzl
              omega
            · rw [List.mem_singleton.1 ha] at hne
              simp at hne
  exact key _ l rfl h
theorem sortJ_rise {l : List Jb} (h : l.Pairwise fun a b => ltJ a b = true) : sortJ l = l := by
  refine List.Perm.eq_of_pairwise (fun a b _ _ x y => leJ_anti a b x y) (sortJ_pairwise l) ?_ (sortJ_perm l)
  exact h.imp fun {a b} h => by
    rw [leJ_iff]
    rw [ltJ_iff] at h
    omega
end Go.Proofs.Ytclgclcoblfddaa
