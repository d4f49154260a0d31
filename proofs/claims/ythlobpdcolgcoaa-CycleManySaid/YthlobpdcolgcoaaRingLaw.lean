/- Plain: the ring of a table is a ring, and none is shorter. -/
import Derived.Test.YthlobpdcolgcoaaRingAll
namespace Go.Proofs.Ythlobpdcolgcoaa
set_option linter.unusedVariables false
set_option linter.unusedSimpArgs false

theorem nextOn_ok {tb : List (List Int)} {home x : Int} {m : Nat} (h : dst tb home x = some ((m : Int) + 2)) :
    nextOn tb home x ((m : Int) + 1) ∈ rowOf tb x ∧ home < nextOn tb home x ((m : Int) + 1) ∧ dst tb home (nextOn tb home x ((m : Int) + 1)) = some ((m : Int) + 1) := by
  have h1 : isD tb home (m + 1) x := dst_isD.1 (by rw [h]; rfl)
  obtain ⟨j, hj, hd, hne⟩ := h1.step
  have hge := wk_home hd.1
  have hhit : hit tb home ((m : Int) + 1) j = true := by
    unfold hit
    rw [dst_isD.2 hd, decide_eq_true (by omega : home < j)]
    simp
  cases hf : (rowOf tb x).find? (hit tb home ((m : Int) + 1)) with
  | none =>
    have := List.find?_eq_none.1 hf j hj
    rw [hhit] at this
    simp at this
  | some k =>
    have e : nextOn tb home x ((m : Int) + 1) = k := by unfold nextOn; rw [hf]; rfl
    rw [e]
    have h2 := List.find?_some hf
    unfold hit at h2
    simp only [Bool.and_eq_true, decide_eq_true_eq] at h2
    exact ⟨List.mem_of_find?_eq_some hf, h2.1, h2.2⟩
/-- Each goes to the next one, the last to z. -/
def Goes (tb : List (List Int)) : List Int → Int → Prop
  | [], _ => True
  | [x], z => z ∈ rowOf tb x
  | x :: y :: l, z => y ∈ rowOf tb x ∧ Goes tb (y :: l) z
theorem ringFrom_goes {tb : List (List Int)} {home : Int} : ∀ (m : Nat) (x : Int), dst tb home x = some ((m : Int) + 1) → Goes tb (x :: ringFrom tb home m x) home ∧ ∀ y ∈ ringFrom tb home m x, home < y := by
  intro m
  induction m with
  | zero =>
    intro x h
    have := level_one.1 (by simpa using h : dst tb home x = some 1)
    exact ⟨this.2, fun y hy => by cases hy⟩
  | succ m ih =>
    intro x h
    obtain ⟨h1, h2, h3⟩ := nextOn_ok (m := m) (by rw [h]; rfl)
    obtain ⟨h4, h5⟩ := ih _ h3
    refine ⟨⟨h1, h4⟩, fun y hy => ?_⟩
    rcases List.mem_cons.1 hy with rfl | hy
    · exact h2
    · exact h5 y hy
theorem ringL_nil {tb : List (List Int)} {home : Int} : ringL tb home = [] ↔ dst tb home home = none := by
  unfold ringL
  cases dst tb home home <;> simp
theorem ringL_some {tb : List (List Int)} {home : Int} {d : Nat} (h : dst tb home home = some ((d : Int) + 1)) : ringL tb home = home :: ringFrom tb home d home := by
  unfold ringL
  rw [h]
  simp
theorem ringL_goes {tb : List (List Int)} {home : Int} (h : ringL tb home ≠ []) : Goes tb (ringL tb home) home ∧ (ringL tb home)[0]? = some home ∧ ∀ y ∈ ringL tb home, home ≤ y := by
  cases hd : dst tb home home with
  | none => exact absurd (ringL_nil.2 hd) h
  | some n =>
    obtain ⟨d, rfl, _⟩ := dst_some.1 hd
    obtain ⟨h1, h2⟩ := ringFrom_goes d home hd
    rw [ringL_some hd]
    refine ⟨h1, rfl, fun y hy => ?_⟩
    rcases List.mem_cons.1 hy with rfl | hy
    · omega
    · have := h2 y hy; omega
/-- The best ring of those from the first places. -/
theorem best_spec (tb : List (List Int)) : ∀ n : Nat, (bestTo tb n = [] → ∀ h : Nat, h < n → ringL tb h = []) ∧
    (bestTo tb n ≠ [] → (∃ h : Nat, h < n ∧ bestTo tb n = ringL tb h) ∧ ∀ h : Nat, h < n → ringL tb h ≠ [] → (bestTo tb n).length ≤ (ringL tb h).length) := by
  intro n
  induction n with
  | zero => exact ⟨fun _ h hh => absurd hh (by omega), fun h => absurd rfl h⟩
  | succ n ih =>
    obtain ⟨i1, i2⟩ := ih
    rw [bestTo]
    unfold stepBest
    split
    · rename_i hc
      refine ⟨fun h => absurd h hc.1, fun _ => ⟨⟨n, by omega, rfl⟩, fun h hh hr => ?_⟩⟩
      rcases (show h < n ∨ h = n by omega) with h1 | rfl
      · rcases hc.2 with h2 | h2
        · exact absurd (i1 h2 h h1) hr
        · by_cases h3 : bestTo tb n = []
          · exact absurd (i1 h3 h h1) hr
          · have := (i2 h3).2 h h1 hr; omega
      · exact Nat.le_refl _
    · rename_i hc
      constructor
      · intro h0 h hh
        rcases (show h < n ∨ h = n by omega) with h1 | rfl
        · exact i1 h0 h h1
        · by_cases hr : ringL tb h = []
          · exact hr
          · exact absurd ⟨hr, .inl h0⟩ hc
      · intro h0
        obtain ⟨⟨k, hk, e⟩, i3⟩ := i2 h0
        refine ⟨⟨k, by omega, e⟩, fun h hh hr => ?_⟩
        rcases (show h < n ∨ h = n by omega) with h1 | rfl
        · exact i3 h h1 hr
        · rcases Nat.lt_or_ge (ringL tb h).length (bestTo tb h).length with h2 | h2
          · exact absurd ⟨hr, .inr h2⟩ hc
          · exact h2
/-- A closed walk of m steps, told for ever. -/
def Per (tb : List (List Int)) (m : Nat) (f : Nat → Int) : Prop := 1 ≤ m ∧ (∀ i, f (i + 1) ∈ rowOf tb (f i)) ∧ ∀ i, f (i + m) = f i
theorem per_mul {tb : List (List Int)} {m : Nat} {f : Nat → Int} (h : Per tb m f) (i k : Nat) : f (i + m * k) = f i := by
  induction k with
  | zero => rfl
  | succ k ih => rw [Nat.mul_succ, ← Nat.add_assoc, h.2.2, ih]
theorem per_mod {tb : List (List Int)} {m : Nat} {f : Nat → Int} (h : Per tb m f) (i : Nat) : f i = f (i % m) := by
  have := per_mul h (i % m) (i / m)
  rw [Nat.mod_add_div] at this
  exact this
theorem least_below (f : Nat → Int) : ∀ m : Nat, 1 ≤ m → ∃ i, i < m ∧ ∀ j, j < m → f i ≤ f j := by
  intro m
  induction m with
  | zero => exact fun h => absurd h (by omega)
  | succ m ih =>
    intro _
    rcases Nat.eq_zero_or_pos m with rfl | hm
    · exact ⟨0, by omega, fun j hj => (show 0 = j by omega) ▸ Int.le_refl _⟩
    · obtain ⟨i, hi, h⟩ := ih hm
      rcases Int.lt_or_le (f m) (f i) with h1 | h1
      · refine ⟨m, by omega, fun j hj => ?_⟩
        rcases (show j < m ∨ j = m by omega) with h2 | rfl
        · have := h j h2; omega
        · exact Int.le_refl _
      · refine ⟨i, by omega, fun j hj => ?_⟩
        rcases (show j < m ∨ j = m by omega) with h2 | rfl
        · exact h j h2
        · exact h1
theorem per_ring {tb : List (List Int)} {m : Nat} {f : Nat → Int} (h : Per tb m f) : ∃ k : Nat, k < tb.length ∧ ringL tb k ≠ [] ∧ (ringL tb k).length ≤ m := by
  obtain ⟨i0, hi0, hmin⟩ := least_below f m h.1
  have hall : ∀ j, f i0 ≤ f j := fun j => by rw [per_mod h j]; exact hmin _ (Nat.mod_lt _ h.1)
  have hw : ∀ d, d < m → wk tb (f i0) d (f (i0 + m - 1 - d)) = true := by
    intro d
    induction d with
    | zero =>
      intro _
      rw [wk_zero]
      refine ⟨hall _, ?_⟩
      have := h.2.1 (i0 + m - 1 - 0)
      rw [show i0 + m - 1 - 0 + 1 = i0 + m by have := h.1; omega, h.2.2] at this
      exact this
    | succ d ih =>
      intro hd
      rw [wk_succ]
      refine ⟨hall _, f (i0 + m - 1 - d), ?_, ih (by omega)⟩
      have := h.2.1 (i0 + m - 1 - (d + 1))
      rw [show i0 + m - 1 - (d + 1) + 1 = i0 + m - 1 - d by omega] at this
      exact this
  have h1 := hw (m - 1) (by have := h.1; omega)
  rw [show i0 + m - 1 - (m - 1) = i0 by have := h.1; omega] at h1
  obtain ⟨e, he, hD⟩ := wk_isD h1
  obtain ⟨hx0, hxn⟩ := wk_row h1
  obtain ⟨k, hk⟩ : ∃ k : Nat, f i0 = k := ⟨(f i0).toNat, by omega⟩
  rw [hk] at hD
  have hr := ringL_some (dst_isD.2 hD)
  refine ⟨k, by omega, by rw [hr]; simp, ?_⟩
  rw [hr, List.length_cons, ringFrom_length]
  have := h.1
  omega
/-- What goes round is a closed walk. -/
theorem goes_at {tb : List (List Int)} : ∀ (l : List Int) (z : Int), Goes tb l z → ∀ i, i < l.length → ∃ x y, l[i]? = some x ∧ (l ++ [z])[i + 1]? = some y ∧ y ∈ rowOf tb x := by
  intro l
  induction l with
  | nil => exact fun z _ i hi => absurd hi (by simp)
  | cons a l ih =>
    intro z h i hi
    cases l with
    | nil =>
      obtain rfl : i = 0 := by simp at hi; omega
      exact ⟨a, z, rfl, rfl, h⟩
    | cons b l =>
      cases i with
      | zero => exact ⟨a, b, rfl, rfl, h.1⟩
      | succ i =>
        obtain ⟨x, y, h1, h2, h3⟩ := ih z h.2 i (by simpa using hi)
        exact ⟨x, y, h1, h2, h3⟩
theorem ring_step {tb : List (List Int)} {home : Int} (h : ringL tb home ≠ []) (i : Nat) (hi : i < (ringL tb home).length) :
    ∃ x y, (ringL tb home)[i]? = some x ∧ (ringL tb home)[(i + 1) % (ringL tb home).length]? = some y ∧ y ∈ rowOf tb x := by
  obtain ⟨h1, h2, _⟩ := ringL_goes h
  obtain ⟨x, y, k1, k2, k3⟩ := goes_at _ _ h1 i hi
  refine ⟨x, y, k1, ?_, k3⟩
  rcases Nat.lt_or_ge (i + 1) (ringL tb home).length with hlt | hge
  · rw [Nat.mod_eq_of_lt hlt]
    rw [List.getElem?_append_left hlt] at k2
    exact k2
  · have e : i + 1 = (ringL tb home).length := by omega
    rw [e, Nat.mod_self, h2]
    rw [e, List.getElem?_append_right (Nat.le_refl _), Nat.sub_self] at k2
    exact k2
theorem ring_per {tb : List (List Int)} {home : Int} (h : ringL tb home ≠ []) : Per tb (ringL tb home).length fun i => (ringL tb home).getD (i % (ringL tb home).length) 0 := by
  have hpos : 0 < (ringL tb home).length := List.length_pos_iff.2 h
  refine ⟨hpos, fun i => ?_, fun i => by simp only [Nat.add_mod_right]⟩
  obtain ⟨x, y, k1, k2, k3⟩ := ring_step h (i % (ringL tb home).length) (Nat.mod_lt _ hpos)
  simp only [List.getD_eq_getElem?_getD, k1]
  have : (i + 1) % (ringL tb home).length = (i % (ringL tb home).length + 1) % (ringL tb home).length := by rw [Nat.mod_add_mod]
  rw [this, k2]
  exact k3
theorem RingL_one {tb : List (List Int)} (h : RingL tb ≠ []) : ∃ k : Nat, k < tb.length ∧ RingL tb = ringL tb k ∧ ringL tb k ≠ [] := by
  obtain ⟨⟨k, hk, e⟩, _⟩ := (best_spec tb tb.length).2 h
  exact ⟨k, hk, e, by rw [← e]; exact h⟩
theorem RingL_least {tb : List (List Int)} {m : Nat} {f : Nat → Int} (h : Per tb m f) : RingL tb ≠ [] ∧ (RingL tb).length ≤ m := by
  obtain ⟨k, hk, hr, hl⟩ := per_ring h
  have hne : RingL tb ≠ [] := fun e => hr ((best_spec tb tb.length).1 e k hk)
  exact ⟨hne, Nat.le_trans ((best_spec tb tb.length).2 hne |>.2 k hk hr) hl⟩
theorem RingL_per {tb : List (List Int)} (h : RingL tb ≠ []) : ∃ f, Per tb (RingL tb).length f := by
  obtain ⟨k, _, e, hr⟩ := RingL_one h
  rw [e]
  exact ⟨_, ring_per hr⟩
/-- Where each edge of a table is one of another table, the other one's ring is no longer. -/
theorem RingL_more {tb tb' : List (List Int)} (h : ∀ x, ∀ y ∈ rowOf tb x, y ∈ rowOf tb' x) (hr : RingL tb ≠ []) : RingL tb' ≠ [] ∧ (RingL tb').length ≤ (RingL tb).length := by
  obtain ⟨f, hf⟩ := RingL_per hr
  exact RingL_least ⟨hf.1, fun i => h _ _ (hf.2.1 i), hf.2.2⟩
/-- Turned about: rings of the same length, or none. -/
theorem RingL_turned {tb tb' : List (List Int)} (h : ∀ x y, y ∈ rowOf tb x → x ∈ rowOf tb' y) (hr : RingL tb ≠ []) : RingL tb' ≠ [] ∧ (RingL tb').length ≤ (RingL tb).length := by
  obtain ⟨f, hf⟩ := RingL_per hr
  have hpos := hf.1
  refine RingL_least (f := fun i => f ((RingL tb).length - 1 - i % (RingL tb).length)) ⟨hpos, fun i => ?_, fun i => by simp only [Nat.add_mod_right]⟩
  generalize (RingL tb).length = m at *
  have hlt := Nat.mod_lt i hpos
  have hmod : (i + 1) % m = (i % m + 1) % m := by rw [Nat.mod_add_mod]
  simp only
  rw [hmod]
  rcases Nat.lt_or_ge (i % m + 1) m with h1 | h1
  · rw [Nat.mod_eq_of_lt h1]
    have := hf.2.1 (m - 1 - (i % m + 1))
    rw [show m - 1 - (i % m + 1) + 1 = m - 1 - i % m by omega] at this
    exact h _ _ this
  · rw [show i % m + 1 = m by omega, Nat.mod_self, Nat.sub_zero, show m - 1 - i % m = 0 by omega]
    have := hf.2.1 (m - 1)
    rw [show m - 1 + 1 = 0 + m by omega, hf.2.2 0] at this
    exact h _ _ this
end Go.Proofs.Ythlobpdcolgcoaa
