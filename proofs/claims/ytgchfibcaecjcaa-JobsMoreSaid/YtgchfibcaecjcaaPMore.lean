/- One item more, plainly. -/
import Derived.Test.YtgchfibcaecjcaaPSame
namespace Go.Proofs.Ytgchfibcaecjcaa
set_option linter.unusedVariables false
set_option linter.unusedSimpArgs false
theorem run_mem {u : Int} : ∀ {l : List It} {y : It}, y ∈ runOf u l → y.u = u
  | [], y, h => by cases h
  | z :: l, y, h => by
    by_cases hz : z.u = u
    · have e : runOf u (z :: l) = z :: runOf u l := by unfold runOf; rw [List.takeWhile_cons_of_pos (by simp [hz])]
      rw [e] at h
      rcases List.mem_cons.1 h with rfl | h
      · exact hz
      · exact run_mem h
    · have e : runOf u (z :: l) = [] := by unfold runOf; rw [List.takeWhile_cons_of_neg (by simp [hz])]
      rw [e] at h
      cases h
theorem run_all {u : Int} : ∀ {l : List It}, (∀ y ∈ l, y.u = u) → runOf u l = l ∧ afterOf u l = []
  | [], _ => ⟨rfl, rfl⟩
  | z :: l, h => by
    have hz := h z (by simp)
    obtain ⟨a, b⟩ := run_all (l := l) fun y hy => h y (by simp [hy])
    unfold runOf afterOf at *
    rw [List.takeWhile_cons_of_pos (by simp [hz]), List.dropWhile_cons_of_pos (by simp [hz]), a, b]
    exact ⟨rfl, rfl⟩
theorem whole_filter (p : Int → Bool) : ∀ (n : Nat) (s : List It), s.length ≤ n → Rise s → wholeL (s.filter fun y => p y.u) = ((wholeL s).1.filter fun y => p y.u, (wholeL s).2.filter fun y => p y.1)
  | _, [], _, _ => rfl
  | 0, x :: r, h, _ => by simp at h
  | n + 1, x :: r, h, hr => by
    have hlt := afterOf_lt x r
    have ih := whole_filter p n (afterOf x.u (x :: r)) (by simp at h; omega) (after_rise hr)
    have h3 := run_of_rise hr
    have hrun : ∀ y ∈ runOf x.u (x :: r), y.u = x.u := fun y hy => run_mem hy
    have hs : x :: r = runOf x.u (x :: r) ++ afterOf x.u (x :: r) := by unfold runOf afterOf; rw [List.takeWhile_append_dropWhile]
    have hhead : ∃ g', runOf x.u (x :: r) = x :: g' := ⟨_, by unfold runOf; rw [List.takeWhile_cons_of_pos (by simp)]⟩
    rw [wholeL_cons]
    generalize hg : runOf x.u (x :: r) = g at *
    generalize ha : afterOf x.u (x :: r) = q at *
    obtain ⟨g', hg'⟩ := hhead
    rw [hs, List.filter_append]
    cases hp : p x.u
    · have h1 : g.filter (fun y => p y.u) = [] := List.filter_eq_nil_iff.2 fun y hy => by rw [hrun y hy, hp]; simp
      rw [h1, List.nil_append, ih]
      unfold glue
      split
      · simp [hp]
      · have h2 : (g.map jobOf).filter (fun y => p y.1) = [] := List.filter_eq_nil_iff.2 fun y hy => by
          obtain ⟨z, hz, rfl⟩ := List.mem_map.1 hy
          simp [jobOf, hrun z hz, hp]
        rw [List.filter_append, h2, List.nil_append]
    · have h1 : g.filter (fun y => p y.u) = g := List.filter_eq_self.2 fun y hy => by rw [hrun y hy]; exact hp
      rw [h1]
      have h4 : ∀ y ∈ q.filter (fun y => p y.u), ¬ y.u = x.u := fun y hy => by
        have := h3 y (List.mem_filter.1 hy).1
        omega
      have hr2 : runOf x.u (g ++ q.filter fun y => p y.u) = g ∧ afterOf x.u (g ++ q.filter fun y => p y.u) = q.filter fun y => p y.u := by
        unfold runOf afterOf
        generalize q.filter (fun y => p y.u) = q' at *
        clear hg' hg ha hs h1 ih
        induction g with
        | nil =>
          cases q' with
          | nil => exact ⟨rfl, rfl⟩
          | cons z q' =>
            have := h4 z (by simp)
            exact ⟨List.takeWhile_cons_of_neg (by simp [this]), List.dropWhile_cons_of_neg (by simp [this])⟩
        | cons z g ihg =>
          have hz := hrun z (by simp)
          obtain ⟨a, b⟩ := ihg fun y hy => hrun y (by simp [hy])
          rw [List.cons_append, List.takeWhile_cons_of_pos (by simp [hz]), List.dropWhile_cons_of_pos (by simp [hz]), a, b]
          exact ⟨rfl, rfl⟩
      have hc : wholeL (g ++ q.filter fun y => p y.u) = glue x g (wholeL (q.filter fun y => p y.u)) := by
        have := wholeL_cons x (g' ++ q.filter fun y => p y.u)
        rw [← List.cons_append, ← hg', hr2.1, hr2.2] at this
        exact this
      rw [hc, ih]
      unfold glue
      split
      · simp [hp]
      · have h2 : (g.map jobOf).filter (fun y => p y.1) = g.map jobOf := List.filter_eq_self.2 fun y hy => by
          obtain ⟨z, hz, rfl⟩ := List.mem_map.1 hy
          simp [jobOf, hrun z hz, hp]
        rw [List.filter_append, h2]
theorem ins_other {x : It} : ∀ {l : List It}, (ins x l).filter (fun y => decide (¬ y.u = x.u)) = l.filter fun y => decide (¬ y.u = x.u)
  | [] => by simp [ins]
  | y :: l => by
    unfold ins
    split
    · rw [List.filter_cons, List.filter_cons, ins_other]
    · split
      · rw [List.filter_cons]; simp
      · rename_i h1 h2
        have := ltJ_tri (a := jobOf y) (b := jobOf x) (by simpa [ltI] using h1) (by simpa [ltI] using h2)
        have hu : y.u = x.u := congrArg Prod.fst this
        simp [hu]
theorem ins_low {x : It} : ∀ {l : List It}, (∀ y ∈ l, ltI x y = true) → ins x l = x :: l
  | [], _ => rfl
  | y :: l, h => by
    have h1 := h y (by simp)
    have h2 : ltI y x = false := by
      cases e : ltI y x
      · rfl
      · have := ltJ_trans (a := jobOf x) (b := jobOf y) (c := jobOf x) h1 e
        rw [ltJ_irrefl] at this
        cases this
    rw [ins, if_neg (by rw [h2]; simp), if_pos h1]
theorem ins_same {x : It} : ∀ {l : List It}, Rise l → (ins x l).filter (fun y => decide (y.u = x.u)) = ins x (l.filter fun y => decide (y.u = x.u))
  | [], _ => by simp [ins]
  | y :: l, hr => by
    unfold Rise at hr
    rw [List.pairwise_cons] at hr
    by_cases h1 : ltI y x = true
    · rw [ins, if_pos h1, List.filter_cons, List.filter_cons, ins_same hr.2]
      split
      · rw [ins, if_pos h1]
      · rfl
    · by_cases h2 : ltI x y = true
      · rw [ins, if_neg h1, if_pos h2, ins_low]
        · rw [List.filter_cons, if_pos (by simp)]
        · intro z hz
          rcases List.mem_cons.1 (List.mem_filter.1 hz).1 with rfl | hz
          · exact h2
          · exact ltJ_trans h2 (hr.1 z hz)
      · have := ltJ_tri (a := jobOf y) (b := jobOf x) (by simpa [ltI] using h1) (by simpa [ltI] using h2)
        have hu : y.u = x.u := congrArg Prod.fst this
        rw [ins, if_neg h1, if_neg h2, List.filter_cons, if_pos (by simp [hu]), List.filter_cons, if_pos (by simp [hu]), ins, if_neg h1, if_neg h2]
theorem ins_ge {x : It} : ∀ {l : List It}, l.length ≤ (ins x l).length
  | [] => by simp
  | y :: l => by
    have := ins_ge (x := x) (l := l)
    unfold ins
    split
    · simpa using this
    · split <;> simp
/-- Types that go together. -/
theorem mrg_class {t x z : Int} (h : (mrg t x).2 = true) : (mrg (mrg t x).1 z).2 = (mrg t z).2 := by
  rcases tri t with rfl | rfl | rfl | h1 <;> rcases tri x with rfl | rfl | rfl | h2 <;> rcases tri z with rfl | rfl | rfl | h3 <;> first | (simp [mrg, *] at h; done) | (revert h; decide) | (simp [mrg, *])
theorem mrgs_false : ∀ (g : List It) (t : Int) (m : Bool), (mrgs t m false g).2.2 = false
  | [], _, _ => rfl
  | x :: g, t, m => by rw [mrgs, Bool.false_and]; exact mrgs_false g _ _
theorem mrgs_ok : ∀ (g : List It) (t : Int) (m : Bool), (mrgs t m true g).2.2 = true ↔ ∀ x ∈ g, (mrg t x.t).2 = true
  | [], _, _ => by simp [mrgs]
  | x :: g, t, m => by
    rw [mrgs, Bool.true_and]
    cases h : (mrg t x.t).2
    · rw [mrgs_false]
      simp [h]
    · rw [mrgs_ok g]
      constructor
      · intro h1 y hy
        rcases List.mem_cons.1 hy with rfl | hy
        · exact h
        · rw [← mrg_class h]; exact h1 y hy
      · intro h1 y hy
        rw [mrg_class h]
        exact h1 y (by simp [hy])
/-- All of a unit go together. -/
def Fits (g : List It) : Prop := ∀ a ∈ g, ∀ b ∈ g, (mrg a.t b.t).2 = true
theorem mrg_via {a b c : Int} (h1 : (mrg a b).2 = true) (h2 : (mrg a c).2 = true) : (mrg b c).2 = true := by
  rcases tri a with rfl | rfl | rfl | h3 <;> rcases tri b with rfl | rfl | rfl | h4 <;> rcases tri c with rfl | rfl | rfl | h5 <;> first | decide | (simp [mrg, *] at h1; done) | (simp [mrg, *] at h2; done) | (revert h1; decide) | (revert h2; decide)
theorem ok_fits (h : It) (g : List It) : (mrgs h.t h.m (knownB h.t) (h :: g)).2.2 = true ↔ Fits (h :: g) := by
  cases hk : knownB h.t
  · rw [mrgs_false]
    constructor
    · intro h; cases h
    · intro hf
      have := hf h (by simp) h (by simp)
      rw [mrg_self, hk] at this
      cases this
  · rw [mrgs_ok]
    constructor
    · exact fun h1 a ha b hb => mrg_via (h1 a ha) (h1 b hb)
    · exact fun hf x hx => hf h (by simp) x hx
theorem fits_ins {x : It} {l : List It} (h : Fits (ins x l)) : Fits l := by
  have key : ∀ a ∈ l, ∃ a' ∈ ins x l, a'.t = a.t := fun a ha => by
    have h1 : jobOf a ∈ (ins x l).map jobOf := (mem_ins _).2 (.inr (List.mem_map_of_mem ha))
    obtain ⟨a', ha', e⟩ := List.mem_map.1 h1
    exact ⟨a', ha', congrArg Prod.snd e⟩
  intro a ha b hb
  obtain ⟨a', ha', ea⟩ := key a ha
  obtain ⟨b', hb', eb⟩ := key b hb
  rw [← ea, ← eb]
  exact h a' ha' b' hb'
/-- One unit's row alone. -/
theorem whole_unit {u : Int} : ∀ {g : List It}, (∀ y ∈ g, y.u = u) → (Fits g ∧ (wholeL g).2 = []) ∨ (¬ Fits g ∧ (wholeL g).2 = g.map jobOf)
  | [], _ => .inl ⟨fun a ha => (by cases ha), rfl⟩
  | x :: r, h => by
    have hx := h x (by simp)
    have h1 : runOf x.u (x :: r) = x :: r ∧ afterOf x.u (x :: r) = [] := run_all fun y hy => (h y hy).trans hx.symm
    rw [wholeL_cons, h1.1, h1.2]
    unfold glue
    cases hok : (mrgs x.t x.m (knownB x.t) (x :: r)).2.2
    · exact .inr ⟨fun hf => (by rw [(ok_fits x r).2 hf] at hok; cases hok), by simp [wholeL, wholeF]⟩
    · exact .inl ⟨(ok_fits x r).1 hok, by simp [wholeL, wholeF]⟩
theorem units_one {u : Int} : ∀ {l : List It}, Units l → (l.filter fun y => decide (y.u = u)).length ≤ 1
  | [], _ => by simp
  | x :: l, h => by
    unfold Units at h
    rw [List.pairwise_cons] at h
    rw [List.filter_cons]
    split
    · rename_i hx
      have hx : x.u = u := by simpa using hx
      have : l.filter (fun y => decide (y.u = u)) = [] := List.filter_eq_nil_iff.2 fun y hy => by
        have := h.1 y hy
        simp
        omega
      rw [this]
      simp
    · exact units_one h.2
def badOf (u : Int) (l : List (Int × Int)) : Nat := (l.filter fun y => decide (y.1 = u)).length
theorem bad_split (u : Int) (l : List (Int × Int)) : badOf u l + (l.filter fun y => decide (¬ y.1 = u)).length = l.length := by
  unfold badOf
  induction l with
  | nil => rfl
  | cons a l ih =>
    by_cases h : a.1 = u
    · simp [h] at ih ⊢; omega
    · simp [h] at ih ⊢; omega
/-- THE LAW: one item more says nothing of other units, and mends nothing of its own. -/
theorem more_law (l : List It) (x : It) :
    ((wholeL (sortedL (l ++ [x]))).1.filter fun y => decide (¬ y.u = x.u)) = ((wholeL (sortedL l)).1.filter fun y => decide (¬ y.u = x.u)) ∧
    badOf x.u (wholeL (sortedL l)).2 ≤ badOf x.u (wholeL (sortedL (l ++ [x]))).2 ∧
    (wholeL (sortedL (l ++ [x]))).2.length - badOf x.u (wholeL (sortedL (l ++ [x]))).2 = (wholeL (sortedL l)).2.length - badOf x.u (wholeL (sortedL l)).2 := by
  obtain ⟨hr, _, _⟩ := sortedL_facts l
  obtain ⟨hr', _, _⟩ := sortedL_facts (l ++ [x])
  rw [sortedL_snoc] at hr' ⊢
  generalize sortedL l = s at *
  have e1 := whole_filter (fun u => decide (¬ u = x.u)) _ s (Nat.le_refl _) hr
  have e2 := whole_filter (fun u => decide (¬ u = x.u)) _ (ins x s) (Nat.le_refl _) hr'
  have e3 := whole_filter (fun u => decide (u = x.u)) _ s (Nat.le_refl _) hr
  have e4 := whole_filter (fun u => decide (u = x.u)) _ (ins x s) (Nat.le_refl _) hr'
  rw [ins_other, e1] at e2
  rw [ins_same hr] at e4
  have e2a := congrArg Prod.fst e2
  have e2b := congrArg Prod.snd e2
  simp only at e2a e2b
  refine ⟨e2a.symm, ?_, ?_⟩
  · have hg : ∀ y ∈ s.filter (fun y => decide (y.u = x.u)), y.u = x.u := fun y hy => by simpa using (List.mem_filter.1 hy).2
    have hg' : ∀ y ∈ ins x (s.filter fun y => decide (y.u = x.u)), y.u = x.u := fun y hy => by
      have h1 := (mem_ins (x := x) (l := s.filter fun y => decide (y.u = x.u)) (jobOf y)).1 (List.mem_map_of_mem hy)
      rcases h1 with h1 | h1
      · exact congrArg Prod.fst h1
      · obtain ⟨z, hz, e⟩ := List.mem_map.1 h1
        rw [← hg z hz]
        exact (congrArg Prod.fst e).symm
    have b3 : badOf x.u (wholeL s).2 = (wholeL (s.filter fun y => decide (y.u = x.u))).2.length := by rw [e3]; rfl
    have b4 : badOf x.u (wholeL (ins x s)).2 = (wholeL (ins x (s.filter fun y => decide (y.u = x.u)))).2.length := by rw [e4]; rfl
    rw [b3, b4]
    rcases whole_unit hg with ⟨_, h1⟩ | ⟨h0, h1⟩
    · rw [h1]; simp
    · rcases whole_unit hg' with ⟨h2, h3⟩ | ⟨_, h3⟩
      · exact absurd (fits_ins h2) h0
      · rw [h1, h3, List.length_map, List.length_map]
        exact ins_ge
  · have s1 := bad_split x.u (wholeL s).2
    have s2 := bad_split x.u (wholeL (ins x s)).2
    rw [← e2b] at s2
    omega
end Go.Proofs.Ytgchfibcaecjcaa
