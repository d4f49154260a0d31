/- Plain: how many steps it is from a place to another one, in a table of rows. -/
import Derived.Test.YthlobpdcolgcoaaProg
namespace Go.Proofs.Ythlobpdcolgcoaa
set_option linter.unusedVariables false
set_option linter.unusedSimpArgs false

def rowOf (to : List (List Int)) (x : Int) : List Int := if x < 0 then [] else to.getD x.toNat []
/-- A walk of d + 1 steps from x to home, through places that are not below home. -/
def wk (to : List (List Int)) (home : Int) : Nat → Int → Bool
  | 0, x => decide (home ≤ x) && (rowOf to x).contains home
  | d + 1, x => decide (home ≤ x) && (rowOf to x).any (wk to home d)
def dst (to : List (List Int)) (home x : Int) : Option Int := ((List.range to.length).find? (fun d : Nat => wk to home d x)).map (fun d : Nat => (d : Int) + 1)
def isD (to : List (List Int)) (home : Int) (d : Nat) (x : Int) : Prop := wk to home d x = true ∧ ∀ i, i < d → wk to home i x = false

theorem row_some {to : List (List Int)} {x y : Int} (h : y ∈ rowOf to x) : 0 ≤ x ∧ x < to.length := by
  unfold rowOf at h
  split at h
  · cases h
  · refine ⟨by omega, ?_⟩
    rcases Nat.lt_or_ge x.toNat to.length with h1 | h1
    · omega
    · rw [List.getD_eq_getElem?_getD, List.getElem?_eq_none h1] at h
      cases h
theorem wk_home {to : List (List Int)} {home : Int} {d : Nat} {x : Int} (h : wk to home d x = true) : home ≤ x := by
  cases d <;> · simp only [wk, Bool.and_eq_true, decide_eq_true_eq] at h; exact h.1
theorem wk_row {to : List (List Int)} {home : Int} {d : Nat} {x : Int} (h : wk to home d x = true) : 0 ≤ x ∧ x < to.length := by
  cases d with
  | zero =>
    simp only [wk, Bool.and_eq_true] at h
    exact row_some (List.contains_iff_mem.1 h.2)
  | succ d =>
    simp only [wk, Bool.and_eq_true] at h
    obtain ⟨j, hj, _⟩ := List.any_eq_true.1 h.2
    exact row_some hj
theorem wk_zero {to : List (List Int)} {home x : Int} : wk to home 0 x = true ↔ home ≤ x ∧ home ∈ rowOf to x := by
  simp [wk]
theorem wk_succ {to : List (List Int)} {home x : Int} {d : Nat} : wk to home (d + 1) x = true ↔ home ≤ x ∧ ∃ j ∈ rowOf to x, wk to home d j = true := by
  simp [wk]
theorem isD.uniq {to : List (List Int)} {home : Int} {d e : Nat} {x : Int} (h : isD to home d x) (k : isD to home e x) : d = e := by
  rcases Nat.lt_trichotomy d e with h1 | h1 | h1
  · have := k.2 d h1
    rw [h.1] at this
    cases this
  · exact h1
  · have := h.2 e h1
    rw [k.1] at this
    cases this
theorem wk_isD {to : List (List Int)} {home x : Int} : ∀ {d : Nat}, wk to home d x = true → ∃ e, e ≤ d ∧ isD to home e x := by
  intro d
  induction d using Nat.strongRecOn with
  | _ d ih =>
    intro h
    by_cases hc : ∃ i, i < d ∧ wk to home i x = true
    · obtain ⟨i, hi, hw⟩ := hc
      obtain ⟨e, he, h2⟩ := ih i hi hw
      exact ⟨e, by omega, h2⟩
    · refine ⟨d, Nat.le_refl _, h, fun i hi => ?_⟩
      rw [← Bool.not_eq_true]
      exact fun hw => hc ⟨i, hi, hw⟩
/-- One step nearer. -/
theorem isD.step {to : List (List Int)} {home x : Int} {d : Nat} (h : isD to home (d + 1) x) : ∃ j ∈ rowOf to x, isD to home d j ∧ j ≠ home := by
  obtain ⟨hh, j, hj, hw⟩ := wk_succ.1 h.1
  refine ⟨j, hj, ⟨hw, fun i hi => ?_⟩, ?_⟩
  · rw [← Bool.not_eq_true]
    intro hwi
    have := h.2 (i + 1) (by omega)
    rw [wk_succ.2 ⟨hh, j, hj, hwi⟩] at this
    cases this
  · rintro rfl
    have := h.2 0 (by omega)
    rw [wk_zero.2 ⟨hh, hj⟩] at this
    cases this
/-- One step further. -/
theorem isD.back {to : List (List Int)} {home x j : Int} {d : Nat} (hx : home ≤ x) (hj : j ∈ rowOf to x) (h : isD to home d j) (hn : ∀ e, e ≤ d → ¬ isD to home e x) : isD to home (d + 1) x := by
  refine ⟨wk_succ.2 ⟨hx, j, hj, h.1⟩, fun i hi => ?_⟩
  rw [← Bool.not_eq_true]
  intro hw
  obtain ⟨e, he, h2⟩ := wk_isD hw
  exact hn e (by omega) h2

theorem nodup_le : ∀ (n : Nat) (l : List Int), l.Nodup → (∀ x ∈ l, 0 ≤ x ∧ x < (n : Int)) → l.length ≤ n := by
  intro n
  induction n with
  | zero =>
    intro l _ h
    cases l with
    | nil => simp
    | cons x l => have := h x (List.mem_cons_self); omega
  | succ n ih =>
    intro l hn h
    have h1 := ih (l.filter fun x => x != (n : Int)) (hn.filter _) (fun x hx => by
      have := List.mem_filter.1 hx
      have h2 := h x this.1
      have h3 : x ≠ n := by simpa using this.2
      omega)
    have h2 : l.length ≤ (l.filter fun x => x != (n : Int)).length + 1 := by
      clear ih h h1
      induction l with
      | nil => simp
      | cons x l ih =>
        rw [List.nodup_cons] at hn
        by_cases hx : x = n
        · subst hx
          have : l.filter (fun x => x != (n : Int)) = l := List.filter_eq_self.2 fun y hy => by
            have : y ≠ n := fun e => hn.1 (e ▸ hy)
            simpa using this
          rw [List.filter_cons, if_neg (by simp), this]
          simp
        · rw [List.filter_cons, if_pos (by simpa using hx)]
          have := ih hn.2
          simp only [List.length_cons]
          omega
    omega
theorem isD.chain {to : List (List Int)} {home : Int} : ∀ {d : Nat} {x : Int}, isD to home d x → ∃ l : List Int, l.length = d + 1 ∧ l.Nodup ∧ ∀ y ∈ l, (0 ≤ y ∧ y < (to.length : Int)) ∧ ∃ i, i ≤ d ∧ isD to home i y := by
  intro d
  induction d with
  | zero => exact fun {x} h => ⟨[x], rfl, by simp, fun y hy => by rw [List.mem_singleton.1 hy]; exact ⟨wk_row h.1, 0, Nat.le_refl _, h⟩⟩
  | succ d ih =>
    intro x h
    obtain ⟨j, _, hj, _⟩ := h.step
    obtain ⟨l, h1, h2, h3⟩ := ih hj
    refine ⟨x :: l, by simp [h1], List.nodup_cons.2 ⟨fun hx => ?_, h2⟩, fun y hy => ?_⟩
    · obtain ⟨_, i, hi, h4⟩ := h3 x hx
      have := h.uniq h4
      omega
    · rcases List.mem_cons.1 hy with rfl | hy
      · exact ⟨wk_row h.1, d + 1, Nat.le_refl _, h⟩
      · obtain ⟨h4, i, hi, h5⟩ := h3 y hy
        exact ⟨h4, i, by omega, h5⟩
theorem isD.lt {to : List (List Int)} {home : Int} {d : Nat} {x : Int} (h : isD to home d x) : d < to.length := by
  obtain ⟨l, h1, h2, h3⟩ := h.chain
  have := nodup_le to.length l h2 fun y hy => (h3 y hy).1
  omega
theorem dst_some {to : List (List Int)} {home x : Int} {n : Int} : dst to home x = some n ↔ ∃ d : Nat, n = (d : Int) + 1 ∧ isD to home d x := by
  unfold dst
  rw [Option.map_eq_some_iff]
  constructor
  · rintro ⟨d, hd, rfl⟩
    rw [List.find?_range_eq_some] at hd
    exact ⟨d, rfl, hd.1, fun i hi => by simpa using hd.2.2 i hi⟩
  · rintro ⟨d, rfl, hd⟩
    refine ⟨d, ?_, rfl⟩
    rw [List.find?_range_eq_some]
    exact ⟨hd.1, by simpa using hd.lt, fun i hi => by rw [hd.2 i hi]; rfl⟩
theorem dst_isD {to : List (List Int)} {home x : Int} {d : Nat} : dst to home x = some ((d : Int) + 1) ↔ isD to home d x := by
  rw [dst_some]
  constructor
  · rintro ⟨e, he, h⟩
    have : e = d := by omega
    exact this ▸ h
  · exact fun h => ⟨d, rfl, h⟩
theorem dst_none {to : List (List Int)} {home x : Int} (h : dst to home x = none) (d : Nat) : wk to home d x = false := by
  rw [← Bool.not_eq_true]
  intro hw
  obtain ⟨e, _, he⟩ := wk_isD hw
  rw [dst_isD.2 he] at h
  cases h
theorem dst_bound {to : List (List Int)} {home x n : Int} (h : dst to home x = some n) : 1 ≤ n ∧ n ≤ to.length ∧ home ≤ x ∧ 0 ≤ x ∧ x < to.length := by
  obtain ⟨d, rfl, hd⟩ := dst_some.1 h
  have := hd.lt
  have h1 := wk_home hd.1
  have h2 := wk_row hd.1
  omega

/-- What is known when the places nearer than n are. -/
def near (to : List (List Int)) (home n x : Int) : Option Int := (dst to home x).filter fun d => decide (d < n)
theorem near_some {to : List (List Int)} {home n x d : Int} : near to home n x = some d ↔ dst to home x = some d ∧ d < n := by
  unfold near
  rw [Option.filter_eq_some_iff]
  simp
/-- The first ring of places. -/
theorem level_one {to : List (List Int)} {home x : Int} : dst to home x = some 1 ↔ home ≤ x ∧ home ∈ rowOf to x := by
  have := @dst_isD to home x 0
  simp only [Int.natCast_zero, Int.zero_add] at this
  rw [this, ← wk_zero]
  exact ⟨fun h => h.1, fun h => ⟨h, fun i hi => absurd hi (by omega)⟩⟩
/-- The next ring of places. -/
theorem level_next {to : List (List Int)} {home n x : Int} (hn : 2 ≤ n) : dst to home x = some n ↔ near to home n x = none ∧ home ≤ x ∧ ∃ j ∈ rowOf to x, dst to home j = some (n - 1) ∧ j ≠ home := by
  obtain ⟨d, rfl⟩ : ∃ d : Nat, n = (d : Int) + 1 + 1 := ⟨(n - 2).toNat, by omega⟩
  have e : (d : Int) + 1 + 1 - 1 = (d : Int) + 1 := by omega
  rw [e]
  have e2 : (d : Int) + 1 + 1 = ((d + 1 : Nat) : Int) + 1 := by simp
  rw [e2, dst_isD]
  constructor
  · intro h
    obtain ⟨j, hj, h1, h2⟩ := h.step
    refine ⟨?_, wk_home h.1, j, hj, dst_isD.2 h1, h2⟩
    cases hq : near to home (((d + 1 : Nat) : Int) + 1) x with
    | none => rfl
    | some m =>
      obtain ⟨h3, h4⟩ := near_some.1 hq
      rw [dst_isD.2 h] at h3
      cases h3
      omega
  · rintro ⟨h1, h2, j, hj, h3, _⟩
    refine isD.back h2 hj (dst_isD.1 h3) fun e he hD => ?_
    have := near_some.2 ⟨dst_isD.2 hD, (by omega : (e : Int) + 1 < ((d + 1 : Nat) : Int) + 1)⟩
    rw [h1] at this
    cases this
end Go.Proofs.Ythlobpdcolgcoaa
