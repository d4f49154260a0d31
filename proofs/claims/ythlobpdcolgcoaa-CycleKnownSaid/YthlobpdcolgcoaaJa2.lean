/- Several texts of this claim, joined. -/
import Derived.Test.YthlobpdcolgcoaaJa1
import Derived.Lib.Walk
import Derived.RangeFuncBox
import Derived.RangeFuncNested
import Derived.RangeFuncBound
import Derived.RangeFuncCalls
import Derived.RangeFuncLeaves
import Derived.Shelf.RegionOpen
import Derived.OwnWalkIn
import Derived.TacticsInMore
import Derived.LoopNIn
import Derived.LoopIn
/- Plain: the ring of a table is a ring, and none is shorter. -/
namespace Go.Proofs.Ythlobpdcolgcoaa
set_option linter.unusedVariables false
set_option linter.unusedSimpArgs false

theorem nextOn_ok {tb : List (List Int)} {home x : Int} {m : Nat} (h : dst tb home x = some ((m : Int) + 2)) :
    nextOn tb home x ((m : Int) + 1) ∈ rowOf tb x ∧ home < nextOn tb home x ((m : Int) + 1) ∧ dst tb home (nextOn tb home x ((m : Int) + 1)) = some ((m : Int) + 1) := by
  have h1 : isD tb home (m + 1) x := dst_isD.1 (by rw [h]; rfl)
  obtain ⟨j, hj, hd, hne⟩ := h1.step
  have hge := wk_home hd.1
  have hhit : hit tb home ((m : Int) + 1) j = true := by
    unfold hit
    rw [dst_isD.2 hd, decide_eq_true (by omega : home < j)]
    simp
  cases hf : (rowOf tb x).find? (hit tb home ((m : Int) + 1)) with
  | none =>
    have := List.find?_eq_none.1 hf j hj
    rw [hhit] at this
    simp at this
  | some k =>
    have e : nextOn tb home x ((m : Int) + 1) = k := by unfold nextOn; rw [hf]; rfl
    rw [e]
    have h2 := List.find?_some hf
    unfold hit at h2
    simp only [Bool.and_eq_true, decide_eq_true_eq] at h2
    exact ⟨List.mem_of_find?_eq_some hf, h2.1, h2.2⟩
/-- Each goes to the next one, the last to z. -/
def Goes (tb : List (List Int)) : List Int → Int → Prop
  | [], _ => True
  | [x], z => z ∈ rowOf tb x
  | x :: y :: l, z => y ∈ rowOf tb x ∧ Goes tb (y :: l) z
theorem ringFrom_goes {tb : List (List Int)} {home : Int} : ∀ (m : Nat) (x : Int), dst tb home x = some ((m : Int) + 1) → Goes tb (x :: ringFrom tb home m x) home ∧ ∀ y ∈ ringFrom tb home m x, home < y := by
  intro m
  induction m with
  | zero =>
    intro x h
    have := level_one.1 (by simpa using h : dst tb home x = some 1)
    exact ⟨this.2, fun y hy => by cases hy⟩
  | succ m ih =>
    intro x h
    obtain ⟨h1, h2, h3⟩ := nextOn_ok (m := m) (by rw [h]; rfl)
    obtain ⟨h4, h5⟩ := ih _ h3
    refine ⟨⟨h1, h4⟩, fun y hy => ?_⟩
    rcases List.mem_cons.1 hy with rfl | hy
    · exact h2
    · exact h5 y hy
theorem ringL_nil {tb : List (List Int)} {home : Int} : ringL tb home = [] ↔ dst tb home home = none := by
  unfold ringL
  cases dst tb home home <;> simp
theorem ringL_some {tb : List (List Int)} {home : Int} {d : Nat} (h : dst tb home home = some ((d : Int) + 1)) : ringL tb home = home :: ringFrom tb home d home := by
  unfold ringL
  rw [h]
  simp
theorem ringL_goes {tb : List (List Int)} {home : Int} (h : ringL tb home ≠ []) : Goes tb (ringL tb home) home ∧ (ringL tb home)[0]? = some home ∧ ∀ y ∈ ringL tb home, home ≤ y := by
  cases hd : dst tb home home with
  | none => exact absurd (ringL_nil.2 hd) h
  | some n =>
    obtain ⟨d, rfl, _⟩ := dst_some.1 hd
    obtain ⟨h1, h2⟩ := ringFrom_goes d home hd
    rw [ringL_some hd]
    refine ⟨h1, rfl, fun y hy => ?_⟩
    rcases List.mem_cons.1 hy with rfl | hy
    · omega
    · have := h2 y hy; omega
/-- The best ring of those from the first places. -/
theorem best_spec (tb : List (List Int)) : ∀ n : Nat, (bestTo tb n = [] → ∀ h : Nat, h < n → ringL tb h = []) ∧
    (bestTo tb n ≠ [] → (∃ h : Nat, h < n ∧ bestTo tb n = ringL tb h) ∧ ∀ h : Nat, h < n → ringL tb h ≠ [] → (bestTo tb n).length ≤ (ringL tb h).length) := by
  intro n
  induction n with
  | zero => exact ⟨fun _ h hh => absurd hh (by omega), fun h => absurd rfl h⟩
  | succ n ih =>
    obtain ⟨i1, i2⟩ := ih
    rw [bestTo]
    unfold stepBest
    split
    · rename_i hc
      refine ⟨fun h => absurd h hc.1, fun _ => ⟨⟨n, by omega, rfl⟩, fun h hh hr => ?_⟩⟩
      rcases (show h < n ∨ h = n by omega) with h1 | rfl
      · rcases hc.2 with h2 | h2
        · exact absurd (i1 h2 h h1) hr
        · by_cases h3 : bestTo tb n = []
          · exact absurd (i1 h3 h h1) hr
          · have := (i2 h3).2 h h1 hr; omega
      · exact Nat.le_refl _
    · rename_i hc
      constructor
      · intro h0 h hh
        rcases (show h < n ∨ h = n by omega) with h1 | rfl
        · exact i1 h0 h h1
        · by_cases hr : ringL tb h = []
          · exact hr
          · exact absurd ⟨hr, .inl h0⟩ hc
      · intro h0
        obtain ⟨⟨k, hk, e⟩, i3⟩ := i2 h0
        refine ⟨⟨k, by omega, e⟩, fun h hh hr => ?_⟩
        rcases (show h < n ∨ h = n by omega) with h1 | rfl
        · exact i3 h h1 hr
        · rcases Nat.lt_or_ge (ringL tb h).length (bestTo tb h).length with h2 | h2
          · exact absurd ⟨hr, .inr h2⟩ hc
          · exact h2
/-- A closed walk of m steps, told for ever. -/
def Per (tb : List (List Int)) (m : Nat) (f : Nat → Int) : Prop := 1 ≤ m ∧ (∀ i, f (i + 1) ∈ rowOf tb (f i)) ∧ ∀ i, f (i + m) = f i
theorem per_mul {tb : List (List Int)} {m : Nat} {f : Nat → Int} (h : Per tb m f) (i k : Nat) : f (i + m * k) = f i := by
  induction k with
  | zero => rfl
  | succ k ih => rw [Nat.mul_succ, ← Nat.add_assoc, h.2.2, ih]
theorem per_mod {tb : List (List Int)} {m : Nat} {f : Nat → Int} (h : Per tb m f) (i : Nat) : f i = f (i % m) := by
  have := per_mul h (i % m) (i / m)
  rw [Nat.mod_add_div] at this
  exact this
theorem least_below (f : Nat → Int) : ∀ m : Nat, 1 ≤ m → ∃ i, i < m ∧ ∀ j, j < m → f i ≤ f j := by
  intro m
  induction m with
  | zero => exact fun h => absurd h (by omega)
  | succ m ih =>
    intro _
    rcases Nat.eq_zero_or_pos m with rfl | hm
    · exact ⟨0, by omega, fun j hj => (show 0 = j by omega) ▸ Int.le_refl _⟩
    · obtain ⟨i, hi, h⟩ := ih hm
      rcases Int.lt_or_le (f m) (f i) with h1 | h1
      · refine ⟨m, by omega, fun j hj => ?_⟩
        rcases (show j < m ∨ j = m by omega) with h2 | rfl
        · have := h j h2; omega
        · exact Int.le_refl _
      · refine ⟨i, by omega, fun j hj => ?_⟩
        rcases (show j < m ∨ j = m by omega) with h2 | rfl
        · exact h j h2
        · exact h1
theorem per_ring {tb : List (List Int)} {m : Nat} {f : Nat → Int} (h : Per tb m f) : ∃ k : Nat, k < tb.length ∧ ringL tb k ≠ [] ∧ (ringL tb k).length ≤ m := by
  obtain ⟨i0, hi0, hmin⟩ := least_below f m h.1
  have hall : ∀ j, f i0 ≤ f j := fun j => by rw [per_mod h j]; exact hmin _ (Nat.mod_lt _ h.1)
  have hw : ∀ d, d < m → wk tb (f i0) d (f (i0 + m - 1 - d)) = true := by
    intro d
    induction d with
    | zero =>
      intro _
      rw [wk_zero]
      refine ⟨hall _, ?_⟩
      have := h.2.1 (i0 + m - 1 - 0)
      rw [show i0 + m - 1 - 0 + 1 = i0 + m by have := h.1; omega, h.2.2] at this
      exact this
    | succ d ih =>
      intro hd
      rw [wk_succ]
      refine ⟨hall _, f (i0 + m - 1 - d), ?_, ih (by omega)⟩
      have := h.2.1 (i0 + m - 1 - (d + 1))
      rw [show i0 + m - 1 - (d + 1) + 1 = i0 + m - 1 - d by omega] at this
      exact this
  have h1 := hw (m - 1) (by have := h.1; omega)
  rw [show i0 + m - 1 - (m - 1) = i0 by have := h.1; omega] at h1
  obtain ⟨e, he, hD⟩ := wk_isD h1
  obtain ⟨hx0, hxn⟩ := wk_row h1
  obtain ⟨k, hk⟩ : ∃ k : Nat, f i0 = k := ⟨(f i0).toNat, by omega⟩
  rw [hk] at hD
  have hr := ringL_some (dst_isD.2 hD)
  refine ⟨k, by omega, by rw [hr]; simp, ?_⟩
  rw [hr, List.length_cons, ringFrom_length]
  have := h.1
  omega
/-- What goes round is a closed walk. -/
theorem goes_at {tb : List (List Int)} : ∀ (l : List Int) (z : Int), Goes tb l z → ∀ i, i < l.length → ∃ x y, l[i]? = some x ∧ (l ++ [z])[i + 1]? = some y ∧ y ∈ rowOf tb x := by
  intro l
  induction l with
  | nil => exact fun z _ i hi => absurd hi (by simp)
  | cons a l ih =>
    intro z h i hi
    cases l with
    | nil =>
      obtain rfl : i = 0 := by simp at hi; omega
      exact ⟨a, z, rfl, rfl, h⟩
    | cons b l =>
      cases i with
      | zero => exact ⟨a, b, rfl, rfl, h.1⟩
      | succ i =>
        obtain ⟨x, y, h1, h2, h3⟩ := ih z h.2 i (by simpa using hi)
        exact ⟨x, y, h1, h2, h3⟩
theorem ring_step {tb : List (List Int)} {home : Int} (h : ringL tb home ≠ []) (i : Nat) (hi : i < (ringL tb home).length) :
    ∃ x y, (ringL tb home)[i]? = some x ∧ (ringL tb home)[(i + 1) % (ringL tb home).length]? = some y ∧ y ∈ rowOf tb x := by
  obtain ⟨h1, h2, _⟩ := ringL_goes h
  obtain ⟨x, y, k1, k2, k3⟩ := goes_at _ _ h1 i hi
  refine ⟨x, y, k1, ?_, k3⟩
  rcases Nat.lt_or_ge (i + 1) (ringL tb home).length with hlt | hge
  · rw [Nat.mod_eq_of_lt hlt]
    rw [List.getElem?_append_left hlt] at k2
    exact k2
  · have e : i + 1 = (ringL tb home).length := by omega
    rw [e, Nat.mod_self, h2]
    rw [e, List.getElem?_append_right (Nat.le_refl _), Nat.sub_self] at k2
    exact k2
theorem ring_per {tb : List (List Int)} {home : Int} (h : ringL tb home ≠ []) : Per tb (ringL tb home).length fun i => (ringL tb home).getD (i % (ringL tb home).length) 0 := by
  have hpos : 0 < (ringL tb home).length := List.length_pos_iff.2 h
  refine ⟨hpos, fun i => ?_, fun i => by simp only [Nat.add_mod_right]⟩
  obtain ⟨x, y, k1, k2, k3⟩ := ring_step h (i % (ringL tb home).length) (Nat.mod_lt _ hpos)
  simp only [List.getD_eq_getElem?_getD, k1]
  have : (i + 1) % (ringL tb home).length = (i % (ringL tb home).length + 1) % (ringL tb home).length := by rw [Nat.mod_add_mod]
  rw [this, k2]
  exact k3
theorem RingL_one {tb : List (List Int)} (h : RingL tb ≠ []) : ∃ k : Nat, k < tb.length ∧ RingL tb = ringL tb k ∧ ringL tb k ≠ [] := by
  obtain ⟨⟨k, hk, e⟩, _⟩ := (best_spec tb tb.length).2 h
  exact ⟨k, hk, e, by rw [← e]; exact h⟩
theorem RingL_least {tb : List (List Int)} {m : Nat} {f : Nat → Int} (h : Per tb m f) : RingL tb ≠ [] ∧ (RingL tb).length ≤ m := by
  obtain ⟨k, hk, hr, hl⟩ := per_ring h
  have hne : RingL tb ≠ [] := fun e => hr ((best_spec tb tb.length).1 e k hk)
  exact ⟨hne, Nat.le_trans ((best_spec tb tb.length).2 hne |>.2 k hk hr) hl⟩
theorem RingL_per {tb : List (List Int)} (h : RingL tb ≠ []) : ∃ f, Per tb (RingL tb).length f := by
  obtain ⟨k, _, e, hr⟩ := RingL_one h
  rw [e]
  exact ⟨_, ring_per hr⟩
/-- Where each edge of a table is one of another table, the other one's ring is no longer. -/
theorem RingL_more {tb tb' : List (List Int)} (h : ∀ x, ∀ y ∈ rowOf tb x, y ∈ rowOf tb' x) (hr : RingL tb ≠ []) : RingL tb' ≠ [] ∧ (RingL tb').length ≤ (RingL tb).length := by
  obtain ⟨f, hf⟩ := RingL_per hr
  exact RingL_least ⟨hf.1, fun i => h _ _ (hf.2.1 i), hf.2.2⟩
/-- Turned about: rings of the same length, or none. -/
theorem RingL_turned {tb tb' : List (List Int)} (h : ∀ x y, y ∈ rowOf tb x → x ∈ rowOf tb' y) (hr : RingL tb ≠ []) : RingL tb' ≠ [] ∧ (RingL tb').length ≤ (RingL tb).length := by
  obtain ⟨f, hf⟩ := RingL_per hr
  have hpos := hf.1
  refine RingL_least (f := fun i => f ((RingL tb).length - 1 - i % (RingL tb).length)) ⟨hpos, fun i => ?_, fun i => by simp only [Nat.add_mod_right]⟩
  generalize (RingL tb).length = m at *
  have hlt := Nat.mod_lt i hpos
  have hmod : (i + 1) % m = (i % m + 1) % m := by rw [Nat.mod_add_mod]
  simp only
  rw [hmod]
  rcases Nat.lt_or_ge (i % m + 1) m with h1 | h1
  · rw [Nat.mod_eq_of_lt h1]
    have := hf.2.1 (m - 1 - (i % m + 1))
    rw [show m - 1 - (i % m + 1) + 1 = m - 1 - i % m by omega] at this
    exact h _ _ this
  · rw [show i % m + 1 = m by omega, Nat.mod_self, Nat.sub_zero, show m - 1 - i % m = 0 by omega]
    have := hf.2.1 (m - 1)
    rw [show m - 1 + 1 = 0 + m by omega, hf.2.2 0] at this
    exact h _ _ this
end Go.Proofs.Ythlobpdcolgcoaa
/- Plain: what Order tells: the least that is free, again and again; whole just if nothing goes round. -/
namespace Go.Proofs.Ythlobpdcolgcoaa
set_option linter.unusedVariables false
set_option linter.unusedSimpArgs false

/-- How many are still ahead of i, of the first m places, but those of G. -/
def ld (tb : List (List Int)) (G : List Int) (i : Int) : Nat → Int
  | 0 => 0
  | k + 1 => ld tb G i k + (if (k : Int) ∈ G then 0 else ((tb.getD k []).count i : Int))
theorem ld_nonneg (tb : List (List Int)) (G : List Int) (i : Int) : ∀ m, 0 ≤ ld tb G i m
  | 0 => Int.le_refl _
  | m + 1 => by
    have := ld_nonneg tb G i m
    unfold ld
    split <;> omega
theorem ld_zero (tb : List (List Int)) (G : List Int) (i : Int) : ∀ m, ld tb G i m = 0 ↔ ∀ k : Nat, k < m → (k : Int) ∈ G ∨ i ∉ tb.getD k []
  | 0 => by simp [ld]
  | m + 1 => by
    have ih := ld_zero tb G i m
    have h0 := ld_nonneg tb G i m
    unfold ld
    constructor
    · intro h k hk
      split at h
      · rename_i hm
        rcases (show k < m ∨ k = m by omega) with h1 | rfl
        · exact ih.1 (by omega) k h1
        · exact .inl hm
      · rcases (show k < m ∨ k = m by omega) with h1 | rfl
        · exact ih.1 (by omega) k h1
        · right
          rw [← List.count_eq_zero]
          omega
    · intro h
      have h1 := ih.2 fun k hk => h k (by omega)
      rw [h1]
      split
      · rfl
      · rename_i hm
        rcases h m (by omega) with h2 | h2
        · exact absurd h2 hm
        · rw [List.count_eq_zero.2 h2]; rfl
theorem ld_cons (tb : List (List Int)) (G : List Int) (i : Int) {p : Nat} (hp : (p : Int) ∉ G) : ∀ m, ld tb ((p : Int) :: G) i m = ld tb G i m - (if p < m then ((tb.getD p []).count i : Int) else 0)
  | 0 => by simp [ld]
  | m + 1 => by
    have ih := ld_cons tb G i hp m
    unfold ld
    rw [ih]
    by_cases hpm : m = p
    · subst hpm
      rw [if_pos (List.mem_cons_self), if_neg (Nat.lt_irrefl m), if_neg hp, if_pos (by omega)]
      omega
    · by_cases hm : (m : Int) ∈ G
      · rw [if_pos (List.mem_cons_of_mem _ hm), if_pos hm]
        by_cases h1 : p < m
        · rw [if_pos h1, if_pos (by omega)]; omega
        · rw [if_neg h1, if_neg (by omega)]; omega
      · rw [if_neg (show ¬ ((m : Int) ∈ (p : Int) :: G) from fun h => by
          rcases List.mem_cons.1 h with h | h
          · omega
          · exact hm h), if_neg hm]
        by_cases h1 : p < m
        · rw [if_pos h1, if_pos (by omega)]; omega
        · rw [if_neg h1, if_neg (by omega)]; omega
theorem getD_set_self' {ws : List Int} {k : Nat} (hk : k < ws.length) (v : Int) : (ws.set k v).getD k 0 = v := by
  rw [List.getD_eq_getElem?_getD, List.getElem?_set_self hk]; rfl
theorem getD_set_ne' {ws : List Int} {k i : Nat} (hk : k ≠ i) (v : Int) : (ws.set k v).getD i 0 = ws.getD i 0 := by
  rw [List.getD_eq_getElem?_getD, List.getElem?_set_ne hk, List.getD_eq_getElem?_getD]
theorem bumpAll_length (d : Int) : ∀ (row ws : List Int), (bumpAll ws row d).length = ws.length
  | [], ws => rfl
  | x :: row, ws => by
    show (bumpAll (bump ws x.toNat d) row d).length = ws.length
    rw [bumpAll_length d row]
    simp [bump]
theorem bumpAll_get (d : Int) : ∀ (row ws : List Int), (∀ x ∈ row, 0 ≤ x ∧ x < ws.length) → ∀ i : Nat, i < ws.length → (bumpAll ws row d).getD i 0 = ws.getD i 0 + d * (row.count (i : Int) : Int)
  | [], ws, _, i, hi => by simp [bumpAll]
  | x :: row, ws, h, i, hi => by
    show (bumpAll (bump ws x.toNat d) row d).getD i 0 = _
    have hl : (bump ws x.toNat d).length = ws.length := by simp [bump]
    rw [bumpAll_get d row _ (fun y hy => by rw [hl]; exact h y (List.mem_cons_of_mem _ hy)) i (by rw [hl]; exact hi)]
    have hx := h x List.mem_cons_self
    unfold bump
    by_cases hxi : x = (i : Int)
    · subst hxi
      rw [Int.toNat_natCast, getD_set_self' hi, List.count_cons_self, Int.natCast_add, Int.mul_add]
      omega
    · rw [getD_set_ne' (by omega), List.count_cons_of_ne (by simpa using hxi)]
/-- Rows of places that there are. -/
def Ent (tb : List (List Int)) : Prop := ∀ r ∈ tb, ∀ x ∈ r, 0 ≤ x ∧ x < tb.length
theorem Ent.row {tb : List (List Int)} (h : Ent tb) (k : Nat) : ∀ x ∈ tb.getD k [], 0 ≤ x ∧ x < tb.length := by
  intro x hx
  rw [List.getD_eq_getElem?_getD] at hx
  cases hk : tb[k]? with
  | none => rw [hk] at hx; cases hx
  | some r => rw [hk] at hx; exact h r (List.mem_of_getElem? hk) x hx
theorem degTo_len (tb : List (List Int)) : ∀ m, (degTo tb m).length = tb.length
  | 0 => by simp [degTo]
  | m + 1 => by rw [degTo, bumpAll_length, degTo_len tb m]
theorem degTo_get {tb : List (List Int)} (h : Ent tb) (i : Nat) (hi : i < tb.length) : ∀ m, (degTo tb m).getD i 0 = ld tb [] (i : Int) m
  | 0 => by simp [degTo, ld, List.getD_eq_getElem?_getD, List.getElem?_replicate, hi]
  | m + 1 => by
    rw [degTo, bumpAll_get 1 _ _ (fun x hx => by rw [degTo_len]; exact h.row m x hx) i (by rw [degTo_len]; exact hi), degTo_get h i hi m, ld, if_neg (by simp)]
    omega
/-- Is i not gone, and all that is ahead of it gone? -/
def freeB (tb : List (List Int)) (G : List Int) (i : Nat) : Bool := !G.contains (i : Int) && (List.range tb.length).all fun k => G.contains (k : Int) || !(tb.getD k []).contains (i : Int)
theorem freeB_iff {tb : List (List Int)} {G : List Int} {i : Nat} : freeB tb G i = true ↔ (i : Int) ∉ G ∧ ld tb G (i : Int) tb.length = 0 := by
  rw [ld_zero]
  simp [freeB]
def ordG (tb : List (List Int)) : Nat → List Int → Option (List Int)
  | 0, _ => some []
  | j + 1, G => match (List.range tb.length).find? (freeB tb G) with
    | none => none
    | some p => (ordG tb j ((p : Int) :: G)).map ((p : Int) :: ·)
def OInv (tb : List (List Int)) (ws G : List Int) : Prop := ws.length = tb.length ∧ ∀ i : Nat, i < tb.length → ((i : Int) ∈ G → ws.getD i 0 < 0) ∧ ((i : Int) ∉ G → ws.getD i 0 = ld tb G (i : Int) tb.length)
theorem OInv.free {tb : List (List Int)} {ws G : List Int} (h : OInv tb ws G) {i : Nat} (hi : i < tb.length) : freeB tb G i = decide (ws.getD i 0 = 0) := by
  rw [Bool.eq_iff_iff, freeB_iff, decide_eq_true_iff]
  obtain ⟨h1, h2⟩ := h.2 i hi
  constructor
  · rintro ⟨a, b⟩
    rw [h2 a, b]
  · intro e
    by_cases hg : (i : Int) ∈ G
    · have := h1 hg; omega
    · exact ⟨hg, by rw [← h2 hg]; exact e⟩
theorem find_idx (ws : List Int) : (List.range ws.length).find? (fun i => decide (ws.getD i 0 = 0)) = if idx ws 0 < 0 then none else some (idx ws 0).toNat := by
  unfold idx
  by_cases hm : (0 : Int) ∈ ws
  · have hlt := List.idxOf_lt_length_of_mem hm
    rw [if_pos hm, if_neg (by omega), Int.toNat_natCast, List.find?_range_eq_some]
    refine ⟨?_, by simpa using hlt, fun j hj => ?_⟩
    · rw [decide_eq_true_iff, List.getD_eq_getElem?_getD, List.getElem?_eq_getElem hlt]
      exact List.getElem_idxOf hlt
    · have hj2 : j < ws.length := by omega
      rw [Bool.not_eq_true', decide_eq_false_iff_not, List.getD_eq_getElem?_getD, List.getElem?_eq_getElem hj2]
      have := List.not_of_lt_findIdx (p := (· == (0 : Int))) (xs := ws) (i := j) hj
      simpa using this
  · rw [if_neg hm, if_pos (by omega), List.find?_eq_none]
    intro i hi
    have hi : i < ws.length := by simpa using hi
    rw [decide_eq_true_iff, List.getD_eq_getElem?_getD, List.getElem?_eq_getElem hi]
    intro e
    exact hm (by simp only [Option.getD_some] at e; rw [← e]; exact List.getElem_mem hi)
theorem find_congr {α : Type} {p q : α → Bool} : ∀ (l : List α), (∀ x ∈ l, p x = q x) → l.find? p = l.find? q
  | [], _ => rfl
  | a :: l, h => by
    rw [List.find?_cons, List.find?_cons, h a List.mem_cons_self, find_congr l fun x hx => h x (List.mem_cons_of_mem _ hx)]
theorem row_getD (tb : List (List Int)) (p : Nat) : rowOf tb (p : Int) = tb.getD p [] := by
  unfold rowOf
  rw [if_neg (by omega), Int.toNat_natCast]
theorem OInv.step {tb : List (List Int)} (he : Ent tb) {ws G : List Int} (h : OInv tb ws G) {p : Nat} (hp : p < tb.length) (hf : freeB tb G p = true) : OInv tb (bumpAll (ws.set p (-1)) (rowOf tb p) (-1)) ((p : Int) :: G) := by
  have hpG := (freeB_iff.1 hf).1
  have hr : ∀ x ∈ rowOf tb p, 0 ≤ x ∧ x < (ws.set p (-1)).length := by
    rw [row_getD, List.length_set, h.1]
    exact he.row p
  refine ⟨by rw [bumpAll_length, List.length_set, h.1], fun i hi => ?_⟩
  rw [bumpAll_get (-1) _ _ hr i (by rw [List.length_set, h.1]; exact hi)]
  obtain ⟨h1, h2⟩ := h.2 i hi
  by_cases hip : i = p
  · subst hip
    rw [getD_set_self' (by rw [h.1]; exact hi)]
    exact ⟨fun _ => by omega, fun hn => absurd List.mem_cons_self hn⟩
  · rw [getD_set_ne' (Ne.symm hip)]
    constructor
    · intro hm
      rcases List.mem_cons.1 hm with e | hm
      · omega
      · have := h1 hm; omega
    · intro hn
      have hg : (i : Int) ∉ G := fun hm => hn (List.mem_cons_of_mem _ hm)
      rw [h2 hg, ld_cons tb G i hpG, if_pos hp, row_getD]
      omega
theorem ordS_ordG {tb : List (List Int)} (he : Ent tb) : ∀ (j : Nat) (ws G : List Int), OInv tb ws G → ordS tb j ws = ordG tb j G
  | 0, _, _, _ => rfl
  | j + 1, ws, G, h => by
    rw [ordS, ordG, find_congr (q := fun i => decide (ws.getD i 0 = 0)) _ (fun i hi => h.free (by simpa using hi)), ← h.1, find_idx]
    by_cases hn : idx ws 0 < 0
    · rw [if_pos hn, if_pos hn]
    · rw [if_neg hn, if_neg hn]
      have hlt := idx_range hn
      obtain ⟨p, hp⟩ : ∃ p : Nat, idx ws 0 = p := ⟨(idx ws 0).toNat, by omega⟩
      rw [hp] at hlt hn ⊢
      simp only [Int.toNat_natCast] at hlt ⊢
      have hpn : p < tb.length := by rw [← h.1]; exact hlt
      have hf : freeB tb G p = true := by
        rw [h.free hpn, decide_eq_true_iff]
        have := find_idx ws
        rw [if_neg (by rw [hp]; exact hn), hp, Int.toNat_natCast] at this
        have := List.find?_some this
        simpa using this
      rw [ordS_ordG he j _ _ (h.step he hpn hf)]
theorem OrderL_ordG {tb : List (List Int)} (he : Ent tb) : OrderL tb = (ordG tb tb.length []).getD [] := by
  unfold OrderL
  rw [ordS_ordG he _ _ [] ⟨degTo_len _ _, fun i hi => ⟨fun h => (by cases h), fun _ => degTo_get he i hi _⟩⟩]
/-- A right order: each there, once, behind all that are ahead of it. -/
def TopoFrom (tb : List (List Int)) (G o : List Int) : Prop := ∀ (i : Nat) (x : Int), o[i]? = some x → 0 ≤ x ∧ x < tb.length ∧ x ∉ G ∧ x ∉ o.take i ∧ ∀ k : Nat, k < tb.length → x ∈ rowOf tb k → (k : Int) ∈ G ∨ (k : Int) ∈ o.take i
theorem ordG_topo {tb : List (List Int)} : ∀ (j : Nat) (G o : List Int), ordG tb j G = some o → o.length = j ∧ TopoFrom tb G o
  | 0, G, o, h => by
    cases h
    exact ⟨rfl, fun i x hx => by simp at hx⟩
  | j + 1, G, o, h => by
    rw [ordG] at h
    cases hf : (List.range tb.length).find? (freeB tb G) with
    | none => rw [hf] at h; cases h
    | some p =>
      rw [hf] at h
      simp only [Option.map_eq_some_iff] at h
      obtain ⟨o', ho', rfl⟩ := h
      obtain ⟨hl, ht⟩ := ordG_topo j _ o' ho'
      have hfr := List.find?_some hf
      have hpn : p < tb.length := by simpa using List.mem_of_find?_eq_some hf
      obtain ⟨hg, hz⟩ := freeB_iff.1 hfr
      have hz := (ld_zero _ _ _ _).1 hz
      refine ⟨by simp [hl], fun i x hx => ?_⟩
      cases i with
      | zero =>
        simp only [List.getElem?_cons_zero, Option.some.injEq] at hx
        subst hx
        refine ⟨by omega, by omega, hg, by simp, fun k hk hx => ?_⟩
        rw [row_getD] at hx
        rcases hz k hk with h | h
        · exact .inl h
        · exact absurd hx h
      | succ i =>
        simp only [List.getElem?_cons_succ] at hx
        obtain ⟨a, b, c, d, e⟩ := ht i x hx
        refine ⟨a, b, fun hm => c (List.mem_cons_of_mem _ hm), ?_, fun k hk hx => ?_⟩
        · rw [List.take_succ_cons, List.mem_cons]
          rintro (rfl | hm)
          · exact c List.mem_cons_self
          · exact d hm
        · rw [List.take_succ_cons]
          rcases e k hk hx with h | h
          · rcases List.mem_cons.1 h with h | h
            · right; rw [h]; exact List.mem_cons_self
            · exact .inl h
          · exact .inr (List.mem_cons_of_mem _ h)
theorem pigeon : ∀ (n : Nat) (f : Nat → Nat), (∀ i, i ≤ n → f i < n) → ∃ a b, a < b ∧ b ≤ n ∧ f a = f b
  | 0, f, h => absurd (h 0 (Nat.le_refl _)) (Nat.not_lt_zero _)
  | n + 1, f, h => by
    by_cases hx : ∃ a, a ≤ n ∧ f a = f (n + 1)
    · obtain ⟨a, ha, e⟩ := hx
      exact ⟨a, n + 1, by omega, by omega, e⟩
    · have hne : ∀ a, a ≤ n → f a ≠ f (n + 1) := fun a ha e => hx ⟨a, ha, e⟩
      obtain ⟨a, b, hab, hb, e⟩ := pigeon n (fun i => if f i = n then f (n + 1) else f i) (fun i hi => by
        have h1 := h i (by omega)
        have h2 := h (n + 1) (by omega)
        have h3 := hne i hi
        by_cases c : f i = n
        · rw [if_pos c]; omega
        · rw [if_neg c]; omega)
      refine ⟨a, b, hab, by omega, ?_⟩
      have ha3 := hne a (by omega)
      have hb3 := hne b hb
      by_cases ca : f a = n
      · by_cases cb : f b = n
        · omega
        · rw [if_pos ca, if_neg cb] at e; omega
      · by_cases cb : f b = n
        · rw [if_neg ca, if_pos cb] at e; omega
        · rw [if_neg ca, if_neg cb] at e; exact e
/-- A list that is too short leaves a place out. -/
theorem left_out {n : Nat} {G : List Int} (h : G.length < n) : ∃ i : Nat, i < n ∧ (i : Int) ∉ G := by
  apply Classical.byContradiction
  intro hno
  have hall : ∀ i : Nat, i < n → (i : Int) ∈ G := fun i hi => Classical.byContradiction fun hn => hno ⟨i, hi, hn⟩
  obtain ⟨a, b, hab, hb, e⟩ := pigeon G.length (fun i => G.idxOf (i : Int)) (fun i hi => List.idxOf_lt_length_of_mem (hall i (by omega)))
  have ha := hall a (by omega)
  have hb := hall b (by omega)
  have h1 := List.getElem_idxOf (List.idxOf_lt_length_of_mem ha)
  have h2 := List.getElem_idxOf (List.idxOf_lt_length_of_mem hb)
  have : (a : Int) = b := by rw [← h1, ← h2]; congr 1
  omega
/-- As many unlike places as there are are all of them. -/
theorem all_in {n : Nat} {o : List Int} (hl : o.length = n) (h : ∀ (i : Nat) (x : Int), o[i]? = some x → 0 ≤ x ∧ x < n ∧ x ∉ o.take i) (k : Nat) (hk : k < n) : (k : Int) ∈ o := by
  apply Classical.byContradiction
  intro hno
  have get : ∀ i, i < n → o[i]? = some (o.getD i 0) := fun i hi => by rw [List.getD_eq_getElem?_getD, List.getElem?_eq_getElem (by omega)]; rfl
  obtain ⟨a, b, hab, hb, e⟩ := pigeon n (fun i => if i < n then (o.getD i 0).toNat else k) (fun i hi => by
    by_cases c : i < n
    · have := h i _ (get i c)
      simp only [if_pos c]; omega
    · simp only [if_neg c]; exact hk)
  have ha : a < n := by omega
  have h1 := h a _ (get a ha)
  have e : (if a < n then (o.getD a 0).toNat else k) = (if b < n then (o.getD b 0).toNat else k) := e
  rw [if_pos ha] at e
  by_cases c : b < n
  · have h2 := h b _ (get b c)
    rw [if_pos c] at e
    have e' : o.getD a 0 = o.getD b 0 := by omega
    apply h2.2.2
    rw [← e']
    have : (o.take b)[a]? = some (o.getD a 0) := by rw [List.getElem?_take, if_pos hab, get a ha]
    exact List.mem_of_getElem? this
  · rw [if_neg c] at e
    apply hno
    have : (k : Int) = o.getD a 0 := by omega
    rw [this]
    exact List.mem_of_getElem? (get a ha)
/-- A walk back that never ends goes round. -/
theorem back_per {tb : List (List Int)} {y : Nat → Nat} (hy : ∀ t, y t < tb.length) (hs : ∀ t, (y t : Int) ∈ rowOf tb (y (t + 1) : Int)) : ∃ m f, Per tb m f := by
  obtain ⟨a, b, hab, hb, e⟩ := pigeon tb.length y (fun i _ => hy i)
  refine ⟨b - a, fun i => (y (b - i % (b - a)) : Int), by omega, fun i => ?_, fun i => by simp only [Nat.add_mod_right]⟩
  have hlt := Nat.mod_lt i (show 0 < b - a by omega)
  have hmod : (i + 1) % (b - a) = (i % (b - a) + 1) % (b - a) := by rw [Nat.mod_add_mod]
  simp only
  rw [hmod]
  generalize i % (b - a) = r at *
  rcases Nat.lt_or_ge (r + 1) (b - a) with h1 | h1
  · rw [Nat.mod_eq_of_lt h1]
    have := hs (b - (r + 1))
    rw [show b - (r + 1) + 1 = b - r by omega] at this
    exact this
  · rw [show r + 1 = b - a by omega, Nat.mod_self, Nat.sub_zero, show b - r = a + 1 by omega, ← e]
    exact hs a
theorem ordG_none {tb : List (List Int)} : ∀ (j : Nat) (G : List Int), G.length + j = tb.length → ordG tb j G = none → ∃ m f, Per tb m f
  | 0, G, _, h => by cases h
  | j + 1, G, hl, h => by
    rw [ordG] at h
    cases hf : (List.range tb.length).find? (freeB tb G) with
    | some p =>
      rw [hf] at h
      simp only [Option.map_eq_none_iff] at h
      exact ordG_none j _ (by simp; omega) h
    | none =>
      obtain ⟨i0, hi0, hg0⟩ := left_out (n := tb.length) (G := G) (by omega)
      have step : ∀ i : Nat, i < tb.length ∧ (i : Int) ∉ G → ∃ k : Nat, (k < tb.length ∧ (k : Int) ∉ G) ∧ (i : Int) ∈ rowOf tb (k : Int) := by
        rintro i ⟨hi, hg⟩
        have h1 := (List.find?_eq_none.1 hf) i (by simpa using hi)
        have h2 : ¬ (ld tb G (i : Int) tb.length = 0) := fun e => h1 (freeB_iff.2 ⟨hg, e⟩)
        rw [ld_zero] at h2
        obtain ⟨k, hk⟩ := Classical.not_forall.1 h2
        obtain ⟨hkn, hk⟩ := Classical.not_imp.1 hk
        have hk := not_or.1 hk
        exact ⟨k, ⟨hkn, hk.1⟩, by rw [row_getD]; exact Classical.not_not.1 hk.2⟩
      let S := { i : Nat // i < tb.length ∧ (i : Int) ∉ G }
      let nx : S → S := fun s => ⟨Classical.choose (step s.1 s.2), (Classical.choose_spec (step s.1 s.2)).1⟩
      have hnx : ∀ s : S, (s.1 : Int) ∈ rowOf tb ((nx s).1 : Int) := fun s => (Classical.choose_spec (step s.1 s.2)).2
      let y : Nat → S := fun t => Nat.rec ⟨i0, hi0, hg0⟩ (fun _ s => nx s) t
      exact back_per (y := fun t => (y t).1) (fun t => (y t).2.1) (fun t => hnx (y t))
theorem topo_noper {tb : List (List Int)} {o : List Int} (hl : o.length = tb.length) (h : TopoFrom tb [] o) {m : Nat} {f : Nat → Int} (hp : Per tb m f) : False := by
  have hin : ∀ i, 0 ≤ f i ∧ f i < tb.length := fun i => row_some (hp.2.1 i)
  have hall := all_in hl fun i x hx => ⟨(h i x hx).1, (h i x hx).2.1, (h i x hx).2.2.2.1⟩
  have key : ∀ (p : Nat) (i : Nat), o[p]? = some (f i) → False := by
    intro p
    induction p using Nat.strongRecOn with
    | ind p ih =>
      intro i hi
      obtain ⟨q, hq⟩ : ∃ q, f q ∈ o.take p := by
        have h1 := hp.2.1 (i + m - 1)
        rw [show i + m - 1 + 1 = i + m by have := hp.1; omega, hp.2.2 i] at h1
        have h2 := hin (i + m - 1)
        have h3 := (h p _ hi).2.2.2.2 (f (i + m - 1)).toNat (by omega) (by rw [Int.toNat_of_nonneg h2.1]; exact h1)
        rw [Int.toNat_of_nonneg h2.1] at h3
        rcases h3 with h3 | h3
        · cases h3
        · exact ⟨_, h3⟩
      obtain ⟨t, ht⟩ := List.getElem?_of_mem hq
      rw [List.getElem?_take] at ht
      split at ht
      · rename_i htp
        exact ih t htp q ht
      · cases ht
  have h0 := hin 0
  have := hall (f 0).toNat (by omega)
  rw [Int.toNat_of_nonneg h0.1] at this
  obtain ⟨p, hp'⟩ := List.getElem?_of_mem this
  exact key p 0 hp'
/-- An order is told just if nothing goes round; and it is a right one. -/
theorem order_whole {tb : List (List Int)} (he : Ent tb) (hr : RingL tb = []) : (OrderL tb).length = tb.length ∧ TopoFrom tb [] (OrderL tb) := by
  rw [OrderL_ordG he]
  cases h : ordG tb tb.length [] with
  | none =>
    obtain ⟨m, f, hp⟩ := ordG_none _ _ (by simp) h
    exact absurd hr (RingL_least hp).1
  | some o => exact ordG_topo _ _ _ h
theorem order_none {tb : List (List Int)} (he : Ent tb) (hr : RingL tb ≠ []) : OrderL tb = [] := by
  rw [OrderL_ordG he]
  cases h : ordG tb tb.length [] with
  | none => rfl
  | some o =>
    obtain ⟨hl, ht⟩ := ordG_topo _ _ _ h
    obtain ⟨f, hp⟩ := RingL_per hr
    exact (topo_noper hl ht hp).elim
end Go.Proofs.Ythlobpdcolgcoaa
/- Regions that draw their order, where two operations are left in either order: a tree of steps. -/
namespace Go.Proofs.Ythlobpdcolgcoaa
open Go.RowKit
set_option linter.unusedVariables false

inductive Mix where
  | nil : Mix
  | read : Nat → Mix → Mix
  | one : Nat → Mix → Mix
  | fork : Nat → Nat → Mix → Mix → Mix
section
variable {P : Program} {ops : Array Oper} {md : Region.Mode} {S : World → Prop} {Q : Exit → Act → World → Prop}

def forkB (md : Region.Mode) (ops : Array Oper) : Nat → Mix → Array Bool → Bool
  | 0, .nil, listed => (Region.ready md ops listed).isEmpty
  | f + 1, .read i r, listed => (Region.ready md ops listed).contains i && Region.free md ops listed i && decide (i < ops.size) && forkB md ops f r (listed.setIfInBounds i true)
  | f + 1, .one i r, listed => decide (Region.ready md ops listed = [i]) && decide (i < ops.size) && forkB md ops f r (listed.setIfInBounds i true)
  | f + 1, .fork i j r1 r2, listed => decide (Region.ready md ops listed = [i, j]) && decide (i < ops.size) && decide (j < ops.size) && forkB md ops f r1 (listed.setIfInBounds i true) && forkB md ops f r2 (listed.setIfInBounds j true)
  | _, _, _ => false
def wpFork (P : Program) (ops : Array Oper) (Q : Exit → Act → World → Prop) (S : World → Prop) : Mix → Act → World → Prop
  | .nil, a, w => Q .normal a w
  | .read i r, a, w => ∃ o v, ops[i]? = some o ∧ YieldsIf P ops S o v a ∧ wpFork P ops Q S r (a.put o.dst v) w
  | .one i r, a, w => wpOp P ops Q i (fun a' w' => S w' ∧ wpFork P ops Q S r a' w') a w
  | .fork i j r1 r2, a, w => wpOp P ops Q i (fun a' w' => S w' ∧ wpFork P ops Q S r1 a' w') a w ∧ wpOp P ops Q j (fun a' w' => S w' ∧ wpFork P ops Q S r2 a' w') a w

theorem wpAnyT_fork (hsel : Region.noSelect ops = true) (hQ : ∀ c a d v w, Q (.panic c) (a.put d v) w → Q (.panic c) a w)
    (hwt : ∀ listed, HeadInv md ops ops.size listed → ∀ i, i < ops.size → listed.getD i true = false → ∀ j ∈ Region.ready md ops listed, j < ops.size) :
    ∀ (f : Nat) (st : Mix) (listed : Array Bool) (a : Act) (w : World), HeadInv md ops ops.size listed → S w → forkB md ops f st listed = true → wpFork P ops Q S st a w → wpAnyT P md ops Q S ops.size f listed a w
  | 0, .nil, listed, a, w, _, _, hB, h => ⟨by simpa [forkB] using hB, h⟩
  | f + 1, .read i r, listed, a, w, inv, hS, hB, h => by
    simp only [forkB, Bool.and_eq_true, decide_eq_true_eq] at hB
    obtain ⟨⟨⟨hr, hf⟩, hin⟩, hB'⟩ := hB
    obtain ⟨o, v, ho, hy, hk⟩ := h
    have hr' : i ∈ Region.ready md ops listed := by simpa using hr
    exact wpAnyT_first ho (Region.noSelect_spec hsel) (fun c a w => hQ c a o.dst v w) hwt hin f listed a w inv (Region.free_spec ho hf) hr' hy hS
      (wpAnyT_fork hsel hQ hwt f r _ _ _ (inv.set hr' hin) hS hB' hk)
  | f + 1, .one i r, listed, a, w, inv, hS, hB, h => by
    simp only [forkB, Bool.and_eq_true, decide_eq_true_eq] at hB
    obtain ⟨⟨hr, hin⟩, hB'⟩ := hB
    refine ⟨fun h0 => (by rw [h0] at hr; cases hr), fun j hj => ?_⟩
    have hj' := hj
    rw [hr] at hj
    obtain rfl : j = i := by simpa using hj
    exact wpOp_mono (fun a' w' h' => ⟨fun _ => h'.1, wpAnyT_fork hsel hQ hwt f r _ a' w' (inv.set hj' hin) h'.1 hB' h'.2⟩) h
  | f + 1, .fork i j r1 r2, listed, a, w, inv, hS, hB, h => by
    simp only [forkB, Bool.and_eq_true, decide_eq_true_eq] at hB
    obtain ⟨⟨⟨⟨hr, hin⟩, hjn⟩, hB1⟩, hB2⟩ := hB
    refine ⟨fun h0 => (by rw [h0] at hr; cases hr), fun k hk => ?_⟩
    have hk' := hk
    rw [hr] at hk
    rcases List.mem_cons.1 hk with rfl | hk
    · exact wpOp_mono (fun a' w' h' => ⟨fun _ => h'.1, wpAnyT_fork hsel hQ hwt f r1 _ a' w' (inv.set hk' hin) h'.1 hB1 h'.2⟩) h.1
    · obtain rfl : k = j := by simpa using hk
      exact wpOp_mono (fun a' w' h' => ⟨fun _ => h'.1, wpAnyT_fork hsel hQ hwt f r2 _ a' w' (inv.set hk' hjn) h'.1 hB2 h'.2⟩) h.2
  | 0, .read _ _, _, _, _, _, _, hB, _ => by simp [forkB] at hB
  | 0, .one _ _, _, _, _, _, _, hB, _ => by simp [forkB] at hB
  | 0, .fork _ _ _ _, _, _, _, _, _, hB, _ => by simp [forkB] at hB
  | _ + 1, .nil, _, _, _, _, _, hB, _ => by simp [forkB] at hB

def forkAllB (ops : Array Oper) (st : Mix) : Bool := Region.noSelect ops && forkB .any ops ops.size st (Array.replicate ops.size false)
theorem wp_region_fork {id : Nat} {a : Act} {w : World} {l : List Oper} (S : World → Prop) (st : Mix) (hm : P.follows .mixedOrders = true) (hB : forkAllB l.toArray st = true) (hS : S { w with drawn := w.drawn + 1 })
    (h : wpFork P l.toArray (Q0 Q) S st a { w with drawn := w.drawn + 1 }) : (Code.region id l.toArray true).wp P Q a w := by
  simp only [forkAllB, Bool.and_eq_true] at hB
  obtain ⟨hsel, hB⟩ := hB
  refine Code.wp_mono Q0_le (wp_region_any hm ?_)
  have inv0 : HeadInv .any l.toArray l.toArray.size (Array.replicate l.toArray.size false) :=
    ⟨by simp, fun j oj _ hl => (by rw [getD_replicate_false] at hl; cases hl), fun t _ ht => getD_in (by simpa using ht) (getD_replicate_false _ _)⟩
  exact wpAny_of_T _ _ _ _ (wpAnyT_fork (P := P) (md := .any) (Q := Q0 Q) (S := S) hsel (fun c a d v w h => h) (fun listed inv i hin hun j hj => by
    obtain ⟨_, oj, hoj, _⟩ := mem_ready.1 hj
    exact (Array.getElem?_eq_some_iff.1 hoj).1) _ st _ a _ inv0 hS hB h)

theorem fork_nil {a : Act} {w : World} (h : Q .normal a w) : wpFork P ops Q S .nil a w := h
/-- All orders end in one state: what follows is walked once. -/
def QTo (a0 : Act) (R : World → Prop) : Exit → Act → World → Prop := fun e a w => e = .normal ∧ a = a0 ∧ R w
theorem wp_region_fork_to {id : Nat} {a a0 : Act} {w : World} {l : List Oper} (S R : World → Prop) (st : Mix) (hm : P.follows .mixedOrders = true) (hB : forkAllB l.toArray st = true) (hS : S { w with drawn := w.drawn + 1 })
    (h : wpFork P l.toArray (Q0 (QTo a0 R)) S st a { w with drawn := w.drawn + 1 }) (k : ∀ W, R W → Q .normal a0 W) : (Code.region id l.toArray true).wp P Q a w :=
  Code.wp_mono (fun e' a' w' h' => by obtain ⟨rfl, rfl, hR⟩ := h'; exact k w' hR) (wp_region_fork (Q := QTo a0 R) S st hm hB hS h)
theorem fork_gen {r : Mix} {a : Act} {w : World} (R : World → Prop) (hR : R w) (h : ∀ w', R w' → wpFork P ops Q S r a w') : wpFork P ops Q S r a w := h w hR
theorem fork_read {l : List Oper} {i : Nat} {r : Mix} {a : Act} {w : World} {o : Oper} (x : Value) (a' : Act) (ho : l[i]? = some o) (hw : Region.wanted o (yielded l.toArray a.tmps) = true) (h1 : ∀ W, S W → (execOp a.eval o).run P W = .ok (.value x) W)
    (hp : a.put o.dst x = a') (h : wpFork P l.toArray Q S r a' w) : wpFork P l.toArray Q S (.read i r) a w := ⟨o, x, by simpa using ho, .inl ⟨hw, h1⟩, hp ▸ h⟩
theorem fork_skip {l : List Oper} {i : Nat} {r : Mix} {a : Act} {w : World} {o : Oper} (a' : Act) (ho : l[i]? = some o) (hw : Region.wanted o (yielded l.toArray a.tmps) = false)
    (hp : a.put o.dst undef = a') (h : wpFork P l.toArray Q S r a' w) : wpFork P l.toArray Q S (.read i r) a w := ⟨o, undef, by simpa using ho, .inr ⟨hw, rfl⟩, hp ▸ h⟩
theorem fork_one {l : List Oper} {i : Nat} {r : Mix} {a : Act} {w : World} {o : Oper} (ho : l[i]? = some o)
    (h : ∀ K : Act → World → Prop, (∀ a' w', (S w' ∧ wpFork P l.toArray Q S r a' w') → K a' w') → wpList P l.toArray (Exit.then K Q) [o] a w) : wpFork P l.toArray Q S (.one i r) a w :=
  wpOp_of_list (by simpa using ho) (h _ fun _ _ h => h)
theorem fork_two {l : List Oper} {i j : Nat} {r1 r2 : Mix} {a : Act} {w : World} {o1 o2 : Oper} (ho1 : l[i]? = some o1) (ho2 : l[j]? = some o2)
    (h1 : ∀ K : Act → World → Prop, (∀ a' w', (S w' ∧ wpFork P l.toArray Q S r1 a' w') → K a' w') → wpList P l.toArray (Exit.then K Q) [o1] a w)
    (h2 : ∀ K : Act → World → Prop, (∀ a' w', (S w' ∧ wpFork P l.toArray Q S r2 a' w') → K a' w') → wpList P l.toArray (Exit.then K Q) [o2] a w) : wpFork P l.toArray Q S (.fork i j r1 r2) a w :=
  ⟨wpOp_of_list (by simpa using ho1) (h1 _ fun _ _ h => h), wpOp_of_list (by simpa using ho2) (h2 _ fun _ _ h => h)⟩
end
end Go.Proofs.Ythlobpdcolgcoaa
/- Regions that draw their order: what only reads is taken first; each read has its own condition, which must stand only behind those operations that may come ahead of it. -/
namespace Go.Proofs.Ythlobpdcolgcoaa
open Go.RowKit
set_option linter.unusedVariables false
section
variable {P : Program} {ops : Array Oper} {md : Region.Mode} {S : Nat → World → Prop} {Q : Exit → Act → World → Prop}
/-- May operation i come behind operation j? -/
def mayB (md : Region.Mode) (ops : Array Oper) (j i : Nat) : Bool := match ops[j]? with
  | some o => o.after.all fun e => !(Region.binds md e) || decide (e.on ≠ i)
  | none => true
def wpAnyD (P : Program) (md : Region.Mode) (ops : Array Oper) (Q : Exit → Act → World → Prop) (S : Nat → World → Prop) : Nat → Array Bool → Act → World → Prop
  | 0, listed, a, w => Region.ready md ops listed = [] ∧ Q .normal a w
  | fuel + 1, listed, a, w =>
    (Region.ready md ops listed = [] → Q .normal a w) ∧
    ∀ i ∈ Region.ready md ops listed, wpOp P ops Q i (fun a' w' => (∀ k, mayB md ops i k = true → S k w → S k w') ∧ wpAnyD P md ops Q S fuel (listed.setIfInBounds i true) a' w') a w
theorem wpAny_of_D : ∀ (fuel : Nat) (listed : Array Bool) (a : Act) (w : World), wpAnyD P md ops Q S fuel listed a w → wpAny P md ops Q fuel listed a w
  | 0, _, _, _, h => h
  | fuel + 1, _, _, _, h => ⟨h.1, fun i hi => wpOp_mono (fun a' w' h' => wpAny_of_D fuel _ a' w' h'.2) (h.2 i hi)⟩
theorem may_of_ready {listed : Array Bool} {j k : Nat} (hj : j ∈ Region.ready md ops listed) (hk : listed.getD k true = false) : mayB md ops j k = true := by
  obtain ⟨hjun, oj, hoj, hall⟩ := mem_ready.1 hj
  unfold mayB
  rw [hoj]
  simp only [Array.all_eq_true_iff_forall_mem, Bool.or_eq_true, Bool.not_eq_true', decide_eq_true_eq]
  intro e he
  by_cases hb : Region.binds md e = true
  · right
    intro heq
    have h1 := hall e he hb
    rw [heq, getD_both hk] at h1
    cases h1
  · left
    simpa using hb
theorem getD_old {listed : Array Bool} {i k : Nat} (hk : (listed.setIfInBounds i true).getD k true = false) : listed.getD k true = false := by
  by_cases hik : i = k
  · subst hik
    by_cases hs : i < listed.size
    · simp [Array.getD, hs] at hk
    · simp [Array.getD, hs] at hk
  · rwa [getD_set_ne true hik] at hk
theorem wpAnyD_first {i : Nat} {oi : Oper} {v : Value} (hi : ops[i]? = some oi) (hsel : ∀ (j : Nat) (o : Oper) cs b, ops[j]? = some o → o.op ≠ .select cs b)
    (hQ : ∀ c a w, Q (.panic c) (a.put oi.dst v) w → Q (.panic c) a w) :
    ∀ (fuel : Nat) (listed : Array Bool) (a : Act) (w : World), 
      (∀ j oj, ops[j]? = some oj → j ≠ i → listed.getD j true = false → (∀ e ∈ oj.after, Region.binds md e = true → e.on ≠ i) → oi.apart ops oj = true) →
      i ∈ Region.ready md ops listed → YieldsIf P ops (S i) oi v a → S i w →
      wpAnyD P md ops Q S fuel (listed.setIfInBounds i true) (a.put oi.dst v) w → wpAnyD P md ops Q S (fuel + 1) listed a w := by
  intro fuel
  induction fuel with
  | zero =>
    intro listed a w _ hr hy hS H
    refine ⟨fun h => (by rw [h] at hr; cases hr), fun j hj => ?_⟩
    by_cases hji : j = i
    · subst hji; exact hy.wpOp hi hS ⟨fun _ _ h => h, H⟩
    · have := ready_mono hj hji
      rw [H.1] at this
      cases this
  | succ fuel ih =>
    intro listed a w hfree hr hy hS H
    have hun := (mem_ready.1 hr).1
    refine ⟨fun h => (by rw [h] at hr; cases hr), fun j hj => ?_⟩
    by_cases hji : j = i
    · subst hji; exact hy.wpOp hi hS ⟨fun _ _ h => h, H⟩
    · have h1 := H.2 j (ready_mono hj hji)
      obtain ⟨hjun, oj, hoj, hall⟩ := mem_ready.1 hj
      have hnot : ∀ e ∈ oj.after, Region.binds md e = true → e.on ≠ i := fun e he hb heq => by
        have h1 := hall e he hb
        rw [heq, getD_both hun] at h1
        cases h1
      have h2 := wpOp_putIf hoj (hfree j oj hoj hji hjun hnot) (fun cs b => hsel i oi cs b hi) (fun cs b => hsel j oj cs b hoj) hQ hy h1
      have hfree' : ∀ k ok, ops[k]? = some ok → k ≠ i → (listed.setIfInBounds j true).getD k true = false →
          (∀ e ∈ ok.after, Region.binds md e = true → e.on ≠ i) → oi.apart ops ok = true := fun k ok hk hki hun hno => hfree k ok hk hki (getD_old hun) hno
      refine wpOp_mono (fun a' w' h3 => ?_) h2
      obtain ⟨h3, h4, h5⟩ := h3
      refine ⟨h4, ih (listed.setIfInBounds j true) a' w' hfree' (ready_mono hr (Ne.symm hji)) h3 (h4 i (may_of_ready hj hun) hS) ?_⟩
      rw [Array.setIfInBounds_comm _ _ hji]
      exact h5
def wpMixD (P : Program) (ops : Array Oper) (Q : Exit → Act → World → Prop) (S : Nat → World → Prop) : List (Nat × Bool) → Act → World → Prop
  | [], a, w => Q .normal a w
  | (i, true) :: r, a, w => ∃ o v, ops[i]? = some o ∧ YieldsIf P ops (S i) o v a ∧ wpMixD P ops Q S r (a.put o.dst v) w
  | (i, false) :: r, a, w => wpOp P ops Q i (fun a' w' => (∀ k, mayB .any ops i k = true → S k w → S k w') ∧ wpMixD P ops Q S r a' w') a w
theorem wpAnyD_mix (hsel : Region.noSelect ops = true) (hQ : ∀ c a d v w, Q (.panic c) (a.put d v) w → Q (.panic c) a w) :
    ∀ (st : List (Nat × Bool)) (listed : Array Bool) (a : Act) (w : World), (∀ k, listed.getD k true = false → S k w) → mixB .any ops ops.size st listed = true → wpMixD P ops Q S st a w → wpAnyD P .any ops Q S st.length listed a w
  | [], listed, a, w, _, hB, h => ⟨by simpa [mixB] using hB, h⟩
  | (i, true) :: r, listed, a, w, hS, hB, h => by
    simp only [mixB, Bool.and_eq_true, decide_eq_true_eq] at hB
    obtain ⟨⟨⟨hr, hf⟩, hin⟩, hB'⟩ := hB
    obtain ⟨o, v, ho, hy, hk⟩ := h
    have hr' : i ∈ Region.ready .any ops listed := by simpa using hr
    exact wpAnyD_first ho (Region.noSelect_spec hsel) (fun c a w => hQ c a o.dst v w) r.length listed a w (Region.free_spec ho hf) hr' hy (hS i (mem_ready.1 hr').1)
      (wpAnyD_mix hsel hQ r _ _ _ (fun k hk => hS k (getD_old hk)) hB' hk)
  | (i, false) :: r, listed, a, w, hS, hB, h => by
    simp only [mixB, Bool.and_eq_true, decide_eq_true_eq] at hB
    refine ⟨fun h0 => by rw [h0] at hB; exact absurd hB.1.1 (by simp), fun j hj => ?_⟩
    have hj' := hj
    rw [hB.1.1] at hj
    have : j = i := by simpa using hj
    subst this
    exact wpOp_mono (fun a' w' h' => ⟨h'.1, wpAnyD_mix hsel hQ r _ a' w' (fun k hk => h'.1 k (may_of_ready hj' (getD_old hk)) (hS k (getD_old hk))) hB.2 h'.2⟩) h
theorem wp_region_mixD {id : Nat} {a : Act} {w : World} {l : List Oper} (S : Nat → World → Prop) (st : List (Nat × Bool)) (hm : P.follows .mixedOrders = true) (hB : mixAllB l.toArray st = true) (hS : ∀ k, S k { w with drawn := w.drawn + 1 })
    (h : wpMixD P l.toArray (Q0 Q) S st a { w with drawn := w.drawn + 1 }) : (Code.region id l.toArray true).wp P Q a w := by
  simp only [mixAllB, Bool.and_eq_true, decide_eq_true_eq] at hB
  obtain ⟨⟨hsel, hlen⟩, hB⟩ := hB
  refine Code.wp_mono Q0_le (wp_region_any hm ?_)
  have h1 := wpAnyD_mix (P := P) (Q := Q0 Q) (S := S) hsel (fun c a d v w h => h) st (Array.replicate l.toArray.size false) a _ (fun k _ => hS k) hB h
  rw [hlen] at h1
  exact wpAny_of_D _ _ _ _ h1
theorem mixD_nil {a : Act} {w : World} (h : Q .normal a w) : wpMixD P ops Q S [] a w := h
theorem mixD_read {l : List Oper} {i : Nat} {r : List (Nat × Bool)} {a : Act} {w : World} {o : Oper} (x : Value) (a' : Act) (ho : l[i]? = some o) (hw : Region.wanted o (yielded l.toArray a.tmps) = true) (h1 : ∀ W, S i W → (execOp a.eval o).run P W = .ok (.value x) W)
    (hp : a.put o.dst x = a') (h : wpMixD P l.toArray Q S r a' w) : wpMixD P l.toArray Q S ((i, true) :: r) a w := ⟨o, x, by simpa using ho, .inl ⟨hw, h1⟩, hp ▸ h⟩
theorem mixD_skip {l : List Oper} {i : Nat} {r : List (Nat × Bool)} {a : Act} {w : World} {o : Oper} (a' : Act) (ho : l[i]? = some o) (hw : Region.wanted o (yielded l.toArray a.tmps) = false)
    (hp : a.put o.dst undef = a') (h : wpMixD P l.toArray Q S r a' w) : wpMixD P l.toArray Q S ((i, true) :: r) a w := ⟨o, undef, by simpa using ho, .inr ⟨hw, rfl⟩, hp ▸ h⟩
theorem mixD_loud {l : List Oper} {i : Nat} {r : List (Nat × Bool)} {a : Act} {w : World} {o : Oper} (ho : l[i]? = some o)
    (h : ∀ K : Act → World → Prop, (∀ a' w', ((∀ k, mayB .any l.toArray i k = true → S k w → S k w') ∧ wpMixD P l.toArray Q S r a' w') → K a' w') → wpList P l.toArray (Exit.then K Q) [o] a w) : wpMixD P l.toArray Q S ((i, false) :: r) a w :=
  wpOp_of_list (by simpa using ho) (h _ fun _ _ h => h)
/-- What comes last needs no condition any more. -/
theorem mixD_to {id : Nat} {a a0 : Act} {w : World} {l : List Oper} (S : Nat → World → Prop) (R : World → Prop) (st : List (Nat × Bool)) (hm : P.follows .mixedOrders = true) (hB : mixAllB l.toArray st = true) (hS : ∀ k, S k { w with drawn := w.drawn + 1 })
    (h : wpMixD P l.toArray (Q0 (fun e a w => e = .normal ∧ a = a0 ∧ R w)) S st a { w with drawn := w.drawn + 1 }) (k : ∀ W, R W → Q .normal a0 W) : (Code.region id l.toArray true).wp P Q a w :=
  Code.wp_mono (fun e' a' w' h' => by obtain ⟨rfl, rfl, hR⟩ := h'; exact k w' hR) (wp_region_mixD (Q := fun e a w => e = .normal ∧ a = a0 ∧ R w) S st hm hB hS h)
end
end Go.Proofs.Ythlobpdcolgcoaa
/- Insertion sort of few ints, in place. -/
namespace Go.Proofs.Ythlobpdcolgcoaa
open Go.RowKit Go.Lib
set_option linter.unusedVariables false
set_option linter.unusedSimpArgs false

theorem less_calls (x y : Int) (w : World) : Calls Try.prog 46 #[.int .i64 x, .int .i64 y] w fun e w' => e = .returned (.bool (decide (x < y))) ∧ w' = w := by
  go_enter Try.func46, Try.ntmps46
  go_wp2
  all_goals
    go_ret
    refine ⟨?_, rfl⟩
    simp_all

/-- Rising, up to m. -/
def Srt (ys : List Int) (m : Nat) : Prop := ∀ p q, p < q → q < m → ys.getD p 0 ≤ ys.getD q 0
/-- Rising up to i but for place j, which is not above those behind it. -/
def Ins (ys : List Int) (i j : Nat) : Prop := (∀ p q, p < q → q ≤ i → p ≠ j → q ≠ j → ys.getD p 0 ≤ ys.getD q 0) ∧ ∀ q, j < q → q ≤ i → ys.getD j 0 ≤ ys.getD q 0
theorem Ins.start {ys : List Int} {i : Nat} (h : Srt ys i) : Ins ys i i :=
  ⟨fun p q hpq hq hp hqi => h p q hpq (by omega), fun q h1 h2 => by omega⟩
theorem Ins.stop0 {ys : List Int} {i : Nat} (h : Ins ys i 0) : Srt ys (i + 1) := fun p q hpq hq => by
  by_cases hp : p = 0
  · subst hp; exact h.2 q hpq (by omega)
  · exact h.1 p q hpq (by omega) hp (by omega)
theorem Ins.stop {ys : List Int} {i j : Nat} (h : Ins ys i (j + 1)) (hge : ys.getD j 0 ≤ ys.getD (j + 1) 0) : Srt ys (i + 1) := fun p q hpq hq => by
  by_cases hp : p = j + 1
  · subst hp; exact h.2 q hpq (by omega)
  · by_cases hq' : q = j + 1
    · subst hq'
      rcases (show p < j ∨ p = j by omega) with h1 | rfl
      · exact Int.le_trans (h.1 p j h1 (by omega) (by omega) (by omega)) hge
      · exact hge
    · exact h.1 p q hpq (by omega) hp hq'
def swp (ys : List Int) (j : Nat) : List Int := (ys.set (j + 1) (ys.getD j 0)).set j (ys.getD (j + 1) 0)
theorem swp_length (ys : List Int) (j : Nat) : (swp ys j).length = ys.length := by simp [swp]
theorem swp_get {ys : List Int} {j : Nat} (hj : j + 1 < ys.length) (k : Nat) : (swp ys j).getD k 0 = if k = j then ys.getD (j + 1) 0 else if k = j + 1 then ys.getD j 0 else ys.getD k 0 := by
  unfold swp
  by_cases h1 : k = j
  · subst h1
    rw [if_pos rfl, getD_set_self' (by rw [List.length_set]; omega)]
  · rw [if_neg h1, getD_set_ne' (Ne.symm h1)]
    by_cases h2 : k = j + 1
    · subst h2
      rw [if_pos rfl, getD_set_self' hj]
    · rw [if_neg h2, getD_set_ne' (Ne.symm h2)]
theorem Ins.step {ys : List Int} {i j : Nat} (h : Ins ys i (j + 1)) (hj : j + 1 < ys.length) (hji : j + 1 ≤ i) (hlt : ys.getD (j + 1) 0 < ys.getD j 0) : Ins (swp ys j) i j := by
  refine ⟨fun p q hpq hq hp hqj => ?_, fun q h1 h2 => ?_⟩
  · rw [swp_get hj, swp_get hj, if_neg hp, if_neg hqj]
    by_cases e1 : p = j + 1
    · rw [if_pos e1, if_neg (by omega)]
      exact h.1 j q (by omega) hq (by omega) (by omega)
    · rw [if_neg e1]
      by_cases e2 : q = j + 1
      · rw [if_pos e2]
        exact h.1 p j (by omega) (by omega) e1 (by omega)
      · rw [if_neg e2]
        exact h.1 p q hpq hq e1 e2
  · rw [swp_get hj, swp_get hj, if_pos rfl, if_neg (by omega)]
    by_cases e : q = j + 1
    · rw [if_pos e]; omega
    · rw [if_neg e]
      exact h.2 q (by omega) h2
theorem swp_perm {ys : List Int} {j : Nat} (hj : j + 1 < ys.length) : (swp ys j).Perm ys := by
  induction ys generalizing j with
  | nil => simp at hj
  | cons a ys ih =>
    cases j with
    | zero =>
      cases ys with
      | nil => simp at hj
      | cons b ys => exact List.Perm.swap a b ys
    | succ j =>
      have := ih (j := j) (by simpa using hj)
      exact this.cons a
theorem ints_set_app (ys : List Int) (rest : List Value) (k : Nat) (v : Int) (hk : k < ys.length) : (ints ys ++ rest).set k (.int .i64 v) = ints (ys.set k v) ++ rest := by
  rw [List.set_append_left _ _ (by rw [ints_length]; exact hk), ints_set]
theorem ints_app_get (ys : List Int) (rest : List Value) {k : Nat} (hk : k < ys.length) : (ints ys ++ rest)[k]? = some (.int .i64 (ys.getD k 0)) := by
  rw [List.getElem?_append_left (by rw [ints_length]; exact hk)]
  simp [ints, List.getD_eq_getElem?_getD, List.getElem?_eq_getElem hk]

theorem swp_cells {zs : List Int} {j : Nat} {x y : Int} (rest : List Value) (hj : j + 1 < zs.length) (hx : zs.getD (j + 1) 0 = x) (hy : zs.getD j 0 = y) :
    ((ints zs ++ rest).set (j + 1) (.int .i64 y)).set j (.int .i64 x) = ints (swp zs j) ++ rest := by
  rw [ints_set_app _ _ _ _ hj, ints_set_app _ _ _ _ (by rw [List.length_set]; omega), swp, hx, hy]

set_option maxRecDepth 100000 in
set_option maxHeartbeats 4000000 in
theorem isort_calls (g n c : Nat) (xs : List Int) (rest : List Value) (T : TypeId) (w : World) (hb : Blk w g (ints xs ++ rest) T) (hn : xs.length = n) (hn12 : n ≤ 12) :
    Calls Try.prog 40 #[.slice (some ⟨g, 0, none⟩) n c, .int .i64 0, .int .i64 n] w fun e w' => e = .returned (.tuple #[]) ∧ ∃ ys : List Int, ys.Perm xs ∧ Srt ys n ∧ Blk w' g (ints ys ++ rest) T ∧ But g w w' := by
  have HL := Lib.hid fun x y W => less_calls x y W
  go_enter Try.func40, Try.ntmps40
  go_upto_region 1 with (fail)
  go_loopw [6, 7] (fun v u W => ∃ (i : Nat) (ys : List Int), v = .int .i64 ((i : Int) + 1) ∧ i ≤ n ∧ ys.Perm xs ∧ Srt ys (i + 1) ∧ Blk W g (ints ys ++ rest) T ∧ But g w W) (fun v _ _ => n + 1 - (RowKit.intOf v).toNat)
  case atStart => exact ⟨0, xs, rfl, by omega, .refl _, fun p q h1 h2 => by omega, hb, But.refl _ _⟩
  case round =>
    obtain ⟨i, ys, rfl, hi, hp, hs, hB, hw⟩ := hrel
    have hlen : ys.length = n := by rw [hp.length_eq, hn]
    by_cases hlt : i + 1 < n
    · have hlti : (i : Int) + 1 < n := by omega
      go_upto_region 4 with (fail)
      go_loopw [7] (fun v W => ∃ (j : Nat) (zs : List Int), v = .int .i64 (j : Int) ∧ j ≤ i + 1 ∧ zs.Perm xs ∧ Ins zs (i + 1) j ∧ Blk W g (ints zs ++ rest) T ∧ But g w W) (fun v _ => (RowKit.intOf v).toNat)
      case atStart => exact ⟨i + 1, ys, by first | rfl | go_num, Nat.le_refl _, hp, Ins.start hs, hB, hw⟩
      case round =>
        clear hp hs hB hw hlen
        obtain ⟨j, zs, rfl, hj, hp, hs, hB, hw⟩ := hrel
        have hlen : zs.length = n := by rw [hp.length_eq, hn]
        cases j with
        | zero =>
          go_upto_region 4 with (fail)
          refine wp_region_mixAll (fun W => Ext wr W) [(0, true), (1, true), (2, true), (3, true), (4, true), (5, true), (6, true), (7, true), (8, true), (9, true), (10, true), (11, true), (12, true), (13, false), (14, true)] (by kernel_rfl) (by kernel_rfl) ((Ext.refl wr).drew) ?_
          (repeat (first | (apply mix_read; (case ho => rfl); (case hw => rfl); (case h1 => intro W' hx; (try dsimp only at hx); go_simp; (try go_bits); with_reducible rfl); (case hp => go_simp; first | done | with_reducible rfl)) | (apply mix_skip; (case ho => rfl); (case hw => rfl); (case hp => go_simp; first | done | with_reducible rfl))))
          refine mix_loud rfl ?_; intro KY hKY
          go_wp2_with fail
          refine ⟨(Ext.refl wr).drew, ?_⟩
          (repeat (first | (apply mix_read; (case ho => rfl); (case hw => rfl); (case h1 => intro W' hx; (try dsimp only at hx); go_simp; (try go_bits); with_reducible rfl); (case hp => go_simp; first | done | with_reducible rfl)) | (apply mix_skip; (case ho => rfl); (case hw => rfl); (case hp => go_simp; first | done | with_reducible rfl))))
          refine mix_nil ?_; unfold Q0
          go_wp2_with fail
          go_roundw
          case rel => exact ⟨i + 1, zs, by go_num, by omega, hp, hs.stop0, hB.drew, hw.drew⟩
          case measure => first | (simp [RowKit.intOf]; done) | (simp [RowKit.intOf]; omega)
        | succ j =>
          have k1 : (0 : Int) < (j : Int) + 1 := by omega
          have k2 : (j : Int) + 1 < n := by omega
          have k3 : (j : Int) < n := by omega
          have k4 : ((j : Int) + 1).toNat = j + 1 := by omega
          have k5 : (0 : Int) ≤ (j : Int) + 1 := by omega
          have c1 : ∀ W', Ext wr W' → W'.cell? ⟨g, j + 1, none⟩ = some (.int .i64 (zs.getD (j + 1) 0)) := fun W' hW => (hB.ext hW).cell _ (ints_app_get zs rest (by omega))
          have c0 : ∀ W', Ext wr W' → W'.cell? ⟨g, j, none⟩ = some (.int .i64 (zs.getD j 0)) := fun W' hW => (hB.ext hW).cell _ (ints_app_get zs rest (by omega))
          obtain ⟨x, hx⟩ : ∃ x, zs.getD (j + 1) 0 = x := ⟨_, rfl⟩
          obtain ⟨y, hy⟩ : ∃ y, zs.getD j 0 = y := ⟨_, rfl⟩
          rw [hx] at c1
          rw [hy] at c0
          have HX := Lib.hid hx
          have HY := Lib.hid hy
          clear hx hy
          by_cases hxy : x < y
          · have hd : decide (x < y) = true := decide_eq_true hxy
            go_upto_region 4 with (fail)
            refine wp_region_mixAll (fun W => Ext wr W) [(0, true), (1, true), (2, true), (3, true), (4, true), (5, true), (6, true), (7, true), (8, true), (9, true), (10, true), (11, true), (12, true), (13, false), (14, true)] (by kernel_rfl) (by kernel_rfl) ((Ext.refl wr).drew) ?_
            (repeat (first | (apply mix_read; (case ho => rfl); (case hw => rfl); (case h1 => intro W' hx; (try dsimp only at hx); go_simp; (try go_bits); with_reducible rfl); (case hp => go_simp; first | done | with_reducible rfl)) | (apply mix_skip; (case ho => rfl); (case hw => rfl); (case hp => go_simp; first | done | with_reducible rfl))))
            refine mix_loud rfl ?_; intro KY hKY
            go_wp2_with fail
            refine (HL.out _ _ _).mono ?_
            rintro e W1 ⟨rfl, rfl⟩
            go_wp2_with fail
            refine ⟨(Ext.refl wr).drew, ?_⟩
            (repeat (first | (apply mix_read; (case ho => rfl); (case hw => rfl); (case h1 => intro W' hx; (try dsimp only at hx); go_simp; (try go_bits); with_reducible rfl); (case hp => go_simp; first | done | with_reducible rfl)) | (apply mix_skip; (case ho => rfl); (case hw => rfl); (case hp => go_simp; first | done | with_reducible rfl))))
            refine mix_nil ?_; unfold Q0
            have z1 := hB.frozen (j + 1)
            have z0 := hB.frozen j
            go_upto_region 6 with (fail)
            have e1 := c1 _ (Ext.refl _).drew.drew
            have e0 := c0 _ (Ext.refl _).drew.drew
            refine wp_region_mixD (fun k W => (k = 9 ∨ k = 13) → Ext wr W) [(0, true), (1, true), (2, true), (3, true), (4, true), (5, true), (6, true), (7, true), (8, true), (9, true), (10, true), (11, true), (12, true), (13, true), (14, true), (15, false), (16, true), (17, false)] (by kernel_rfl) (by kernel_rfl) (fun k _ => (Ext.refl wr).drew.drew) ?_
            iterate 9 (apply mixD_read; (case ho => rfl); (case hw => rfl); (case h1 => intro W' hx; (try dsimp only at hx); go_simp; (try go_bits); with_reducible rfl); (case hp => go_simp; first | done | with_reducible rfl))
            (apply mixD_read; (case ho => rfl); (case hw => rfl); (case h1 => intro W' hx; have hx := hx (by decide); go_simp; (try go_bits); with_reducible rfl); (case hp => go_simp; first | done | with_reducible rfl))
            iterate 3 (apply mixD_read; (case ho => rfl); (case hw => rfl); (case h1 => intro W' hx; (try dsimp only at hx); go_simp; (try go_bits); with_reducible rfl); (case hp => go_simp; first | done | with_reducible rfl))
            (apply mixD_read; (case ho => rfl); (case hw => rfl); (case h1 => intro W' hx; have hx := hx (by decide); go_simp; (try go_bits); with_reducible rfl); (case hp => go_simp; first | done | with_reducible rfl))
            iterate 1 (apply mixD_read; (case ho => rfl); (case hw => rfl); (case h1 => intro W' hx; (try dsimp only at hx); go_simp; (try go_bits); with_reducible rfl); (case hp => go_simp; first | done | with_reducible rfl))
            refine mixD_loud rfl ?_; intro KY hKY
            obtain ⟨W9, hW9⟩ : ∃ W9, ({ wr.drew with drawn := wr.drew.drawn + 1 } : World) = W9 := ⟨_, rfl⟩
            have hB9 : Blk W9 g (ints zs ++ rest) T := hW9 ▸ hB.drew.drew
            have hw9 : But g w W9 := hW9 ▸ hw.drew.drew
            have e1 : W9.cell? ⟨g, j + 1, none⟩ = some (.int .i64 x) := hW9 ▸ c1 _ (Ext.refl _).drew.drew
            have e0 : W9.cell? ⟨g, j, none⟩ = some (.int .i64 y) := hW9 ▸ c0 _ (Ext.refl _).drew.drew
            have z1 := hB9.frozen (j + 1)
            have z0 := hB9.frozen j
            rw [hW9]
            clear hW9 c1 c0
            go_wp2_with fail
            refine ⟨fun k hk _ hk' => ?_, ?_⟩
            · rcases hk' with rfl | rfl <;> exact absurd hk (Bool.eq_false_iff.1 (by kernel_rfl))
            iterate 1 (apply mixD_read; (case ho => rfl); (case hw => rfl); (case h1 => intro W' hx; (try dsimp only at hx); go_simp; (try go_bits); with_reducible rfl); (case hp => go_simp; first | done | with_reducible rfl))
            refine mixD_loud rfl ?_; intro KY hKY
            go_wp2_with fail
            refine ⟨fun k hk _ hk' => ?_, ?_⟩
            · rcases hk' with rfl | rfl <;> exact absurd hk (Bool.eq_false_iff.1 (by kernel_rfl))
            refine mixD_nil ?_; unfold Q0
            go_wp2_with fail
            go_roundw
            case rel => exact ⟨j, swp zs j, by first | rfl | go_num, by omega, (swp_perm (by omega)).trans hp, hs.step (by omega) (by omega) (by rw [HX.out, HY.out]; exact hxy), ((hB9.set (j + 1) _).set j _).congr (swp_cells rest (by omega) HX.out HY.out), (hw9.set (j + 1) _).set j _⟩
            case measure => first | (simp [RowKit.intOf]; done) | (simp [RowKit.intOf]; omega)
          · have hd : decide (x < y) = false := decide_eq_false hxy
            go_upto_region 4 with (fail)
            refine wp_region_mixAll (fun W => Ext wr W) [(0, true), (1, true), (2, true), (3, true), (4, true), (5, true), (6, true), (7, true), (8, true), (9, true), (10, true), (11, true), (12, true), (13, false), (14, true)] (by kernel_rfl) (by kernel_rfl) ((Ext.refl wr).drew) ?_
            (repeat (first | (apply mix_read; (case ho => rfl); (case hw => rfl); (case h1 => intro W' hx; (try dsimp only at hx); go_simp; (try go_bits); with_reducible rfl); (case hp => go_simp; first | done | with_reducible rfl)) | (apply mix_skip; (case ho => rfl); (case hw => rfl); (case hp => go_simp; first | done | with_reducible rfl))))
            refine mix_loud rfl ?_; intro KY hKY
            go_wp2_with fail
            refine (HL.out _ _ _).mono ?_
            rintro e W1 ⟨rfl, rfl⟩
            go_wp2_with fail
            refine ⟨(Ext.refl wr).drew, ?_⟩
            (repeat (first | (apply mix_read; (case ho => rfl); (case hw => rfl); (case h1 => intro W' hx; (try dsimp only at hx); go_simp; (try go_bits); with_reducible rfl); (case hp => go_simp; first | done | with_reducible rfl)) | (apply mix_skip; (case ho => rfl); (case hw => rfl); (case hp => go_simp; first | done | with_reducible rfl))))
            refine mix_nil ?_; unfold Q0
            go_wp2_with fail
            go_roundw
            case rel => exact ⟨i + 1, zs, by go_num, by omega, hp, hs.stop (by rw [HX.out, HY.out]; omega), hB.drew, hw.drew⟩
            case measure => first | (simp [RowKit.intOf]; done) | (simp [RowKit.intOf]; omega)
    · have hlti : ¬ (i : Int) + 1 < n := by omega
      go_wp2_with fail
      go_end0
      exact ⟨rfl, ys, hp, fun p q h1 h2 => hs p q h1 (by omega), hB, hw⟩
end Go.Proofs.Ythlobpdcolgcoaa
/- slices.Sort of at most 12 ints. -/
namespace Go.Proofs.Ythlobpdcolgcoaa
open Go.RowKit Go.Lib
set_option linter.unusedVariables false
set_option linter.unusedSimpArgs false

set_option maxHeartbeats 4000000 in
set_option maxRecDepth 100000 in
theorem len64_calls (x : Int) (w : World) (h0 : 0 ≤ x) (h1 : x ≤ 12) : Calls Try.prog 50 #[.int .u64 x] w fun e w' => (∃ r, e = .returned (.int .i64 r)) ∧ w' = w := by
  have k1 : ¬ 4294967296 ≤ x := by omega
  have k2 : ¬ 65536 ≤ x := by omega
  have k3 : ¬ 256 ≤ x := by omega
  go_enter Try.func50, Try.ntmps50
  go_wp2
  all_goals
    go_ret
    exact ⟨⟨_, rfl⟩, rfl⟩
theorem len_calls (x : Int) (w : World) (h0 : 0 ≤ x) (h1 : x ≤ 12) : Calls Try.prog 36 #[.int .u64 x] w fun e w' => (∃ r, e = .returned (.int .i64 r)) ∧ w' = w := by
  go_enter Try.func36, Try.ntmps36
  go_wp2_with (go_at_call 50; refine (len64_calls x _ h0 h1).mono ?_; rintro e w' ⟨⟨r, rfl⟩, rfl⟩)
  go_ret
  exact ⟨⟨_, rfl⟩, rfl⟩
set_option maxHeartbeats 4000000 in
set_option maxRecDepth 100000 in
theorem pdq_calls (g n c : Nat) (r : Int) (xs : List Int) (rest : List Value) (T : TypeId) (w : World) (hb : Blk w g (ints xs ++ rest) T) (hn : xs.length = n) (hn12 : n ≤ 12) :
    Calls Try.prog 35 #[.slice (some ⟨g, 0, none⟩) n c, .int .i64 0, .int .i64 n, .int .i64 r] w fun e w' => e = .returned (.tuple #[]) ∧ ∃ ys : List Int, ys.Perm xs ∧ Srt ys n ∧ Blk w' g (ints ys ++ rest) T ∧ But g w w' := by
  have k1 : (n : Int) ≤ 12 := by omega
  have k2 : ¬ (12 : Int) < n := by omega
  have HI := Lib.hid (isort_calls g n c xs rest T w hb hn hn12)
  go_enter Try.func35, Try.ntmps35
  go_wp2_with fail
  refine wp_loop_once ?_
  go_wp2_with fail
  refine HI.out.mono ?_
  rintro e w' ⟨rfl, h⟩
  go_wp2_with fail
  (try simp only [Exit.inBlock, Exit.then])
  refine bodyPost_ret (results_none rfl _ _ _) rfl ?_
  exact ⟨rfl, h⟩
set_option maxHeartbeats 4000000 in
set_option maxRecDepth 100000 in
/-- slices.Sort of few ints, in place. -/
theorem sort_calls (g n c : Nat) (xs : List Int) (rest : List Value) (T : TypeId) (w : World) (hb : Blk w g (ints xs ++ rest) T) (hn : xs.length = n) (hn12 : n ≤ 12) :
    Calls Try.prog 30 #[.slice (some ⟨g, 0, none⟩) n c] w fun e w' => e = .returned (.tuple #[]) ∧ ∃ ys : List Int, ys.Perm xs ∧ Srt ys n ∧ Blk w' g (ints ys ++ rest) T ∧ But g w w' := by
  have HP := Lib.hid fun r => pdq_calls g n c r xs rest T w hb hn hn12
  have HL := Lib.hid (len_calls n w (by omega) (by omega))
  have hmod : (n : Int) % 18446744073709551616 = n := by omega
  go_enter Try.func30, Try.ntmps30
  go_wp2_with (go_at_call 36; refine HL.out.mono ?_; rintro e w1 ⟨⟨r, rfl⟩, rfl⟩)
  refine (HP.out _).mono ?_
  rintro e w' ⟨rfl, h⟩
  go_wp2_with fail
  go_end0
  exact ⟨rfl, h⟩
theorem isort_nil (A : Option Addr) (c : Nat) (w : World) : Calls Try.prog 40 #[.slice A 0 c, .int .i64 0, .int .i64 0] w fun e w' => e = .returned (.tuple #[]) ∧ w' = w := by
  go_enter Try.func40, Try.ntmps40
  go_wp2_with fail
  refine wp_loop_once ?_
  go_wp2_with fail
  go_end0
  exact ⟨rfl, rfl⟩
set_option maxHeartbeats 4000000 in
set_option maxRecDepth 100000 in
theorem pdq_nil (A : Option Addr) (c : Nat) (r : Int) (w : World) : Calls Try.prog 35 #[.slice A 0 c, .int .i64 0, .int .i64 0, .int .i64 r] w fun e w' => e = .returned (.tuple #[]) ∧ w' = w := by
  have HI := Lib.hid (isort_nil A c w)
  go_enter Try.func35, Try.ntmps35
  go_wp2_with fail
  refine wp_loop_once ?_
  go_wp2_with fail
  refine HI.out.mono ?_
  rintro e w' ⟨rfl, rfl⟩
  go_wp2_with fail
  (try simp only [Exit.inBlock, Exit.then])
  refine bodyPost_ret (results_none rfl _ _ _) rfl ?_
  exact ⟨rfl, rfl⟩
theorem sort_nil (A : Option Addr) (c : Nat) (w : World) : Calls Try.prog 30 #[.slice A 0 c] w fun e w' => e = .returned (.tuple #[]) ∧ w' = w := by
  have HP := Lib.hid fun r => pdq_nil A c r w
  have HL := Lib.hid (len_calls 0 w (by omega) (by omega))
  go_enter Try.func30, Try.ntmps30
  go_wp2_with (go_at_call 36; refine HL.out.mono ?_; rintro e w1 ⟨⟨r, rfl⟩, rfl⟩)
  refine (HP.out _).mono ?_
  rintro e w' ⟨rfl, rfl⟩
  go_wp2_with fail
  go_end0
  exact ⟨rfl, rfl⟩
end Go.Proofs.Ythlobpdcolgcoaa
/- slices.Backward of ints, as an iterator. -/
namespace Go.Proofs.Ythlobpdcolgcoaa
open Go.RowKit Go.Shelf
set_option linter.unusedVariables false
set_option linter.unusedSimpArgs false
attribute [local go_sem] Oper.semAt_some

def bk (ys : List Int) : List (Int × Int) := ((List.range ys.length).map fun i : Nat => ((i : Int), ys.getD i 0)).reverse
theorem bk_length (ys : List Int) : (bk ys).length = ys.length := by simp [bk]
theorem bk_get (ys : List Int) {k : Nat} (hk : k < ys.length) : (bk ys)[ys.length - (k + 1)]? = some ((k : Int), ys.getD k 0) := by
  unfold bk
  rw [List.getElem?_reverse (by simp; omega)]
  simp only [List.length_map, List.length_range]
  rw [show ys.length - 1 - (ys.length - (k + 1)) = k by omega, List.getElem?_map, List.getElem?_range hk]
  rfl
theorem bk_take (ys : List Int) {k : Nat} (hk : k < ys.length) : (bk ys).take (ys.length - k) = (bk ys).take (ys.length - (k + 1)) ++ [((k : Int), ys.getD k 0)] := by
  rw [show ys.length - k = ys.length - (k + 1) + 1 by omega, List.take_add_one, bk_get ys hk]
  rfl
abbrev BkE (ys : List Int) := { x : Int × Int // x ∈ bk ys }
def bkA (ys : List Int) : List (BkE ys) := (bk ys).attach
theorem bkA_length (ys : List Int) : (bkA ys).length = ys.length := by rw [bkA, List.length_attach, bk_length]
theorem bkA_map (ys : List Int) : (bkA ys).map (·.1) = bk ys := List.attach_map_subtype_val _
theorem bkA_take (ys : List Int) {k : Nat} (hk : k < ys.length) : ∃ x : BkE ys, x.1 = ((k : Int), ys.getD k 0) ∧ (bkA ys).take (ys.length - k) = (bkA ys).take (ys.length - (k + 1)) ++ [x] := by
  have hlt : ys.length - (k + 1) < (bkA ys).length := by rw [bkA_length]; omega
  refine ⟨(bkA ys)[ys.length - (k + 1)], ?_, ?_⟩
  · have h1 : ((bkA ys).map (·.1))[ys.length - (k + 1)]? = some ((k : Int), ys.getD k 0) := by rw [bkA_map]; exact bk_get ys hk
    rw [List.getElem?_map, List.getElem?_eq_getElem hlt] at h1
    exact Option.some.inj h1
  · rw [show ys.length - k = ys.length - (k + 1) + 1 by omega, List.take_add_one, List.getElem?_eq_getElem hlt]
    rfl
/-- The iterator's box and the row are as they were. -/
def KpB (Bm g : Nat) (A B : World) : Prop := B.heap[Bm]? = A.heap[Bm]? ∧ B.heap[g]? = A.heap[g]?
theorem KpB.trans {Bm g : Nat} {A B C : World} (h : KpB Bm g A B) (k : KpB Bm g B C) : KpB Bm g A C := ⟨k.1.trans h.1, k.2.trans h.2⟩
theorem KpB.cell {Bm g : Nat} {A B : World} (h : KpB Bm g A B) (o : Nat) : B.cell? ⟨Bm, o, none⟩ = A.cell? ⟨Bm, o, none⟩ := by simp [World.cell?, h.1]

set_option maxRecDepth 100000 in
set_option maxHeartbeats 1000000 in
theorem back_seq (F : Fence) (n : Nat) (hF : F.fn 37) (hro : F.round = none) (hn : 1 ≤ n) (Bm g c : Nat) (A : Option Addr) (ys : List Int) (rest : List Value) (T : TypeId) (w : World) (hBm : Bm < w.heap.size)
    (hm : w.cell? ⟨Bm, 0, none⟩ = some (.slice A ys.length c)) (hr : ys ≠ [] → A = some ⟨g, 0, none⟩ ∧ g < w.heap.size ∧ Blk w g (ints ys ++ rest) T) (hl : ys.length ≤ 1000000) :
    SeqStopsK F n Try.prog 37 #[.pointer (some ⟨Bm, 0, none⟩)] (fun x : BkE ys => #[.int .i64 x.1.1, .int .i64 x.1.2]) (KpB Bm g) (fun xs => xs = bkA ys) (fun xs => xs <+: bkA ys) ys.length w := by
  intro l J Jx W hW hJ hJx hY h0
  have hm' : W.cell? ⟨Bm, 0, none⟩ = some (.slice A ys.length c) := (hW.cell (p := ⟨Bm, 0, none⟩) hBm).trans hm
  have hr' : ys ≠ [] → A = some ⟨g, 0, none⟩ ∧ Blk W g (ints ys ++ rest) T := fun h => by
    obtain ⟨h1, h2, h3⟩ := hr h
    exact ⟨h1, (hW.block g h2).trans h3⟩
  refine callsIn_of_wp Try.func37 rfl hF ?_ hro
  simp only [Try.ntmps37, List.size_toArray, List.length_cons, List.length_nil, Nat.reduceAdd, Nat.reduceSub, Array.replicate_succ, Array.replicate_zero, List.push_toArray, List.append_toArray, List.nil_append, List.cons_append]
  gi_wp2
  gi_loopw [3] (fun v wr => ∃ m : Nat, m ≤ ys.length ∧ v = .int .i64 ((m : Int) - 1) ∧ J ((bkA ys).take (ys.length - m)) wr ∧ wr.cell? ⟨Bm, 0, none⟩ = some (.slice A ys.length c) ∧ (ys ≠ [] → A = some ⟨g, 0, none⟩ ∧ Blk wr g (ints ys ++ rest) T))
    (fun v wr => ((RowKit.intOf v) + 1).toNat)
  case atStart =>
    exact ⟨ys.length, Nat.le_refl _, rfl, by rw [Nat.sub_self]; exact h0, hm', hr'⟩
  case round =>
    obtain ⟨m, hml, rfl, hJs, hc, hrow⟩ := hrel
    cases m with
    | zero =>
      gi_wp2
      go_end0
      exact ⟨⟨_, rfl⟩, .inl ⟨_, rfl, by rw [show ys.length - 0 = (bkA ys).length by rw [bkA_length]; rfl, List.take_length] at hJs; exact hJs⟩⟩
    | succ m =>
      have e : ((m + 1 : Nat) : Int) - 1 = (m : Int) := by omega
      rw [e]
      have hne : ys ≠ [] := by intro h; rw [h] at hml; simp at hml
      obtain ⟨rfl, hB⟩ := hrow hne
      have hcell := hB.cell m (ints_app_get ys rest (by omega))
      obtain ⟨y, hy0⟩ : ∃ y, ys.getD m 0 = y := ⟨_, rfl⟩
      obtain ⟨x, hx, hbt⟩ := bkA_take ys (k := m) (by omega)
      rw [hy0] at hcell hx
      obtain ⟨fn, tmps, assign, body, hy, hR⟩ := hY _ x _ hJs (by rw [List.length_take, bkA_length]; omega)
      rw [hx] at hy
      have hy : (Instr.yield l #[.int .i64 m, .int .i64 y]).run Try.prog wr = _ := hy
      have k1 : (0 : Int) ≤ m := by omega
      have k2 : (m : Int) < ys.length := by omega
      clear hY hm' hr' hy0
      gi_wp2
      refine hR.mono ?_
      rintro e W3 (⟨rfl, hJ4, hk3⟩ | ⟨rfl, hJx⟩)
      · gi_wp2
        go_roundw
        case rel => exact ⟨m, by omega, by go_num, by rw [hbt]; exact hJ4, (hk3.cell 0).trans hc, fun _ => ⟨by first | trivial | rfl, hk3.2.trans hB⟩⟩
        case measure => first | (simp [RowKit.intOf]; done) | (simp [RowKit.intOf]; omega)
      · gi_wp2
        refine bodyPost_ret (results_none rfl _ _ _) rfl ?_
        exact ⟨⟨_, rfl⟩, .inr ⟨_, by rw [← hbt]; exact List.take_prefix _ _, hJx⟩⟩
end Go.Proofs.Ythlobpdcolgcoaa
/- Plain: the rows of next; one item more; turned about. -/
namespace Go.Proofs.Ythlobpdcolgcoaa
set_option linter.unusedVariables false
set_option linter.unusedSimpArgs false

theorem mem_next {af be : List (List Int)} {l : List It} {x y : Int} : y ∈ rowOf (nextL af be l) x ↔ ∃ i j : Nat, x = i ∧ y = j ∧ ∃ a b, l[i]? = some a ∧ l[j]? = some b ∧ ahd af be a b = true := by
  constructor
  · intro h
    obtain ⟨h0, h1⟩ := row_some h
    obtain ⟨i, rfl⟩ : ∃ i : Nat, x = i := ⟨x.toNat, by omega⟩
    rw [nextL_length] at h1
    have hi : i < l.length := by omega
    unfold rowOf at h
    rw [if_neg (by omega), Int.toNat_natCast, List.getD_eq_getElem?_getD, nextL, List.getElem?_map, List.getElem?_eq_getElem hi] at h
    simp only [Option.map_some, Option.getD_some] at h
    unfold rowTo at h
    obtain ⟨j, hj, rfl⟩ := List.mem_map.1 h
    obtain ⟨hj1, hj2⟩ := List.mem_filter.1 hj
    have hj3 : j < l.length := by simpa using hj1
    refine ⟨i, j, rfl, rfl, _, _, List.getElem?_eq_getElem hi, List.getElem?_eq_getElem hj3, ?_⟩
    rw [List.getD_eq_getElem?_getD, List.getElem?_eq_getElem hj3] at hj2
    exact hj2
  · rintro ⟨i, j, rfl, rfl, a, b, ha, hb, hab⟩
    have hj : j < l.length := (List.getElem?_eq_some_iff.1 hb).1
    unfold rowOf
    rw [if_neg (by omega), Int.toNat_natCast, List.getD_eq_getElem?_getD, nextL, List.getElem?_map, ha]
    simp only [Option.map_some, Option.getD_some]
    unfold rowTo
    refine List.mem_map.2 ⟨j, List.mem_filter.2 ⟨by simpa using hj, ?_⟩, rfl⟩
    rw [List.getD_eq_getElem?_getD, hb]
    exact hab
theorem next_more {af be : List (List Int)} {l : List It} (z : It) : ∀ x, ∀ y ∈ rowOf (nextL af be l) x, y ∈ rowOf (nextL af be (l ++ [z])) x := by
  intro x y h
  obtain ⟨i, j, rfl, rfl, a, b, ha, hb, hab⟩ := mem_next.1 h
  refine mem_next.2 ⟨i, j, rfl, rfl, a, b, ?_, ?_, hab⟩
  · rw [List.getElem?_append_left (List.getElem?_eq_some_iff.1 ha).1]
    exact ha
  · rw [List.getElem?_append_left (List.getElem?_eq_some_iff.1 hb).1]
    exact hb
theorem len_eq {tb tb' : List (List Int)} (h : RingL tb ≠ [] → RingL tb' ≠ [] ∧ (RingL tb').length ≤ (RingL tb).length) (k : RingL tb' ≠ [] → RingL tb ≠ [] ∧ (RingL tb).length ≤ (RingL tb').length) : (RingL tb').length = (RingL tb).length := by
  by_cases h0 : RingL tb = []
  · by_cases h1 : RingL tb' = []
    · rw [h0, h1]
    · exact absurd h0 (k h1).1
  · have a := h h0
    have b := k a.1
    omega
/-- Every edge turned about, both ways: rings as long. -/
theorem turned_len {tb tb' : List (List Int)} (h : ∀ x y, y ∈ rowOf tb x ↔ x ∈ rowOf tb' y) : (RingL tb').length = (RingL tb).length :=
  len_eq (RingL_turned fun x y => (h x y).1) (RingL_turned fun x y hy => (h y x).2 hy)
theorem same_len {tb tb' : List (List Int)} (h : ∀ x y, y ∈ rowOf tb x ↔ y ∈ rowOf tb' x) : (RingL tb').length = (RingL tb).length :=
  len_eq (RingL_more fun x y => (h x y).1) (RingL_more fun x y => (h x y).2)
theorem upB_swap (af be : List (List Int)) (a b : Int) : upB be af a b = upB af be b a := by
  unfold upB
  rw [Bool.or_comm]
/-- Items of one type. -/
def typed (l : List It) (t : Int) : List It := l.map fun i => ⟨i.u, t, i.m⟩
theorem typed_length (l : List It) (t : Int) : (typed l t).length = l.length := by simp [typed]
theorem typed_step {l : List It} {j : Nat} {u t : Int} {m : Bool} (h : l[j]? = some ⟨u, t, m⟩) (s : Int) : typed (l.take (j + 1)) s = typed (l.take j) s ++ [⟨u, s, m⟩] := by
  unfold typed
  rw [List.take_add_one, h, List.map_append]
  rfl
theorem mem_typed {af be : List (List Int)} {l : List It} {t : Int} {x y : Int} : y ∈ rowOf (nextL af be (typed l t)) x ↔ ∃ i j : Nat, x = i ∧ y = j ∧ ∃ a b, l[i]? = some a ∧ l[j]? = some b ∧ aheadB af be a.u t b.u t = true := by
  rw [mem_next]
  constructor
  · rintro ⟨i, j, rfl, rfl, a, b, ha, hb, hab⟩
    unfold typed at ha hb
    rw [List.getElem?_map] at ha hb
    obtain ⟨a', ha', rfl⟩ := Option.map_eq_some_iff.1 ha
    obtain ⟨b', hb', rfl⟩ := Option.map_eq_some_iff.1 hb
    exact ⟨i, j, rfl, rfl, a', b', ha', hb', hab⟩
  · rintro ⟨i, j, rfl, rfl, a, b, ha, hb, hab⟩
    refine ⟨i, j, rfl, rfl, ⟨a.u, t, a.m⟩, ⟨b.u, t, b.m⟩, ?_, ?_, hab⟩
    · unfold typed; rw [List.getElem?_map, ha]; rfl
    · unfold typed; rw [List.getElem?_map, hb]; rfl
theorem ahead_turn (af be : List (List Int)) (u v : Int) {t : Int} (ht : t ≠ 2) : aheadB be af u t v t = aheadB af be v t u t := by
  unfold aheadB
  rw [if_neg ht, if_neg ht, if_neg ht, if_neg ht]
  by_cases h : u = v
  · rw [if_pos h, if_pos h.symm]
  · rw [if_neg h, if_neg (fun e => h e.symm), upB_swap]
theorem ahead_stop (af be : List (List Int)) (u v : Int) : aheadB af be u 2 v 2 = aheadB af be v 1 u 1 := by
  unfold aheadB
  by_cases h : u = v
  · rw [if_pos h, if_pos h.symm]
  · rw [if_neg h, if_neg (show ¬ v = u from fun e => h e.symm)]
    simp
theorem ahead_again (af be : List (List Int)) (u v : Int) : aheadB af be u 3 v 3 = aheadB af be u 1 v 1 := by
  unfold aheadB
  rw [if_neg (by decide : ¬ (3 : Int) = 2), if_neg (by decide : ¬ (3 : Int) = 2), if_neg (by decide : ¬ (1 : Int) = 2), if_neg (by decide : ¬ (1 : Int) = 2)]
theorem turn_aux {af be af' be' : List (List Int)} {l : List It} {t s : Int} (h : ∀ u v, aheadB af be u t v t = aheadB af' be' v s u s) : (RingL (nextL af' be' (typed l s))).length = (RingL (nextL af be (typed l t))).length :=
  turned_len fun x y => by
    rw [mem_typed, mem_typed]
    constructor
    · rintro ⟨i, j, rfl, rfl, a, b, ha, hb, hab⟩
      exact ⟨j, i, rfl, rfl, b, a, hb, ha, by rw [← h]; exact hab⟩
    · rintro ⟨i, j, rfl, rfl, a, b, ha, hb, hab⟩
      exact ⟨j, i, rfl, rfl, b, a, hb, ha, by rw [h]; exact hab⟩
theorem same_aux {af be af' be' : List (List Int)} {l : List It} {t s : Int} (h : ∀ u v, aheadB af be u t v t = aheadB af' be' u s v s) : (RingL (nextL af' be' (typed l s))).length = (RingL (nextL af be (typed l t))).length :=
  same_len fun x y => by
    rw [mem_typed, mem_typed]
    simp only [h]
theorem turned_starts (af be : List (List Int)) (l : List It) : (RingL (nextL be af (typed l 1))).length = (RingL (nextL af be (typed l 1))).length := turn_aux fun u v => (ahead_turn af be v u (t := 1) (by decide)).symm
theorem turned_stops (af be : List (List Int)) (l : List It) : (RingL (nextL af be (typed l 2))).length = (RingL (nextL af be (typed l 1))).length := turn_aux fun u v => (ahead_stop af be v u).symm
theorem turned_again (af be : List (List Int)) (l : List It) : (RingL (nextL af be (typed l 3))).length = (RingL (nextL af be (typed l 1))).length := same_aux fun u v => (ahead_again af be u v).symm
end Go.Proofs.Ythlobpdcolgcoaa
/- Rows of items that a call owns: append of one. -/
namespace Go.Proofs.Ythlobpdcolgcoaa
open Go.RowKit Go.Lib
set_option linter.unusedVariables false
set_option linter.unusedSimpArgs false

/-- Rows of items that a call owns, each in a block of its own, none in block q. -/
structure IR (W : World) (M q : Nat) (rs : List (Value × List It)) : Prop where
  own : ∀ (i : Nat) (v : Value) (l : List It), rs[i]? = some (v, l) → W.ownsRow M 30 3 v l.length (itCells l)
  off : ∀ (i : Nat) (v : Value) (l : List It), rs[i]? = some (v, l) → v.ownBlock ≠ some q
  apart : ∀ (i j : Nat) (v : Value) (l : List It) (v' : Value) (l' : List It) (k : Nat), i ≠ j → rs[i]? = some (v, l) → rs[j]? = some (v', l') → v.ownBlock = some k → v'.ownBlock ≠ some k
  low : M ≤ W.heap.size
theorem IR.nil3 (W : World) (M q : Nat) (hM : M ≤ W.heap.size) : IR W M q [(.slice none 0 0, []), (.slice none 0 0, []), (.slice none 0 0, [])] := by
  have key : ∀ (i : Nat) (v : Value) (l : List It), ([(.slice none 0 0, []), (.slice none 0 0, []), (.slice none 0 0, [])] : List (Value × List It))[i]? = some (v, l) → v = .slice none 0 0 ∧ l = [] := by
    intro i v l h
    match i, h with
    | 0, h => cases h; exact ⟨rfl, rfl⟩
    | 1, h => cases h; exact ⟨rfl, rfl⟩
    | 2, h => cases h; exact ⟨rfl, rfl⟩
  refine ⟨fun i v l hi => ?_, fun i v l hi => ?_, fun i j v l v' l' k _ hi _ hk => ?_, hM⟩
  · obtain ⟨rfl, rfl⟩ := key i v l hi
    exact World.ownsRow_nil _ _ _ _
  · obtain ⟨rfl, rfl⟩ := key i v l hi
    simp [Value.ownBlock]
  · obtain ⟨rfl, rfl⟩ := key i v l hi
    cases hk
theorem IR.ext {W W' : World} {M q : Nat} {rs : List (Value × List It)} (h : IR W M q rs) (hx : Ext W W') : IR W' M q rs :=
  ⟨fun i v l hi => Owns.ext (h.own i v l hi) hx, h.off, h.apart, Nat.le_trans h.low hx.size⟩
theorem IR.fresh {W : World} {M q : Nat} {rs : List (Value × List It)} (h : IR W M q rs) {q' : Nat} (hq : W.heap.size ≤ q') : IR W M q' rs :=
  ⟨h.own, fun i v l hi e => by have := ((h.own i v l hi).lt q' e).2; omega, h.apart, h.low⟩
theorem IR.set {W : World} {M q : Nat} {rs : List (Value × List It)} (h : IR W M q rs) (j : Nat) (u : Value) : IR (W.setCell ⟨q, j, none⟩ u) M q rs :=
  ⟨fun i v l hi => (h.own i v l hi).kept (But.grown ((But.refl q W).set j u)) (.inr (h.off i v l hi)), h.off, h.apart, by rw [World.size_setCell]; exact h.low⟩
theorem IR.step {W W1 : World} {M q : Nat} {rs : List (Value × List It)} (h : IR W M q rs) {i : Nat} {v v' : Value} {l l' : List It} (hi : rs[i]? = some (v, l)) (hq : q < W.heap.size)
    (hown : W1.ownsRow M 30 3 v' l'.length (itCells l')) (hg : W.grownBy W1 v.ownBlock) (hs : ∀ k, v'.ownBlock = some k → v.ownBlock = some k ∨ W.heap.size ≤ k) : IR W1 M q (rs.set i (v', l')) := by
  have hlt := (List.getElem?_eq_some_iff.1 hi).1
  have oldlt : ∀ (j : Nat) (u : Value) (ys : List It), rs[j]? = some (u, ys) → ∀ k, u.ownBlock = some k → k < W.heap.size := fun j u ys hj k hk => ((h.own j u ys hj).lt k hk).2
  refine ⟨fun j u ys hj => ?_, fun j u ys hj e => ?_, fun j1 j2 u1 y1 u2 y2 k hne hj1 hj2 hu1 hu2 => ?_, Nat.le_trans h.low hg.size⟩
  · by_cases hij : i = j
    · subst hij
      rw [List.getElem?_set_self hlt] at hj
      cases hj
      exact hown
    · rw [List.getElem?_set_ne hij] at hj
      refine (h.own j u ys hj).kept hg ?_
      cases hu : u.ownBlock with
      | none => exact .inl rfl
      | some k => exact .inr (fun e => h.apart i j v l u ys k hij hi hj e.symm hu)
  · by_cases hij : i = j
    · subst hij
      rw [List.getElem?_set_self hlt] at hj
      cases hj
      rcases hs q e with h1 | h1
      · exact h.off i v l hi h1
      · omega
    · rw [List.getElem?_set_ne hij] at hj
      exact h.off j u ys hj e
  · by_cases h1 : i = j1
    · subst h1
      rw [List.getElem?_set_self hlt] at hj1
      rw [List.getElem?_set_ne hne] at hj2
      cases hj1
      rcases hs k hu1 with h3 | h3
      · exact h.apart i j2 v l u2 y2 k hne hi hj2 h3 hu2
      · have := oldlt j2 u2 y2 hj2 k hu2; omega
    · rw [List.getElem?_set_ne h1] at hj1
      by_cases h2 : i = j2
      · subst h2
        rw [List.getElem?_set_self hlt] at hj2
        cases hj2
        rcases hs k hu2 with h3 | h3
        · exact h.apart i j1 v l u1 y1 k h1 hi hj1 h3 hu1
        · have := oldlt j1 u1 y1 hj1 k hu1; omega
      · rw [List.getElem?_set_ne h2] at hj2
        exact h.apart j1 j2 u1 y1 u2 y2 k hne hj1 hj2 hu1 hu2
end Go.Proofs.Ythlobpdcolgcoaa
/- Plain: what CycleMany asks of the ring and of the order. -/
namespace Go.Proofs.Ythlobpdcolgcoaa
open Go.RowKit Go.Lib
set_option linter.unusedVariables false
set_option linter.unusedSimpArgs false

theorem next_ent (af be : List (List Int)) (l : List It) : Ent (nextL af be l) := by
  intro r hr x hx
  obtain ⟨a, _, rfl⟩ := List.mem_map.1 hr
  obtain ⟨j, hj, rfl⟩ := List.mem_map.1 hx
  have := List.mem_range.1 (List.mem_filter.1 hj).1
  rw [nextL_length]
  exact ⟨Int.natCast_nonneg _, by simpa using this⟩
/-- Each of the ring is ahead of the next, and none is below the first. -/
theorem many_ring {af be : List (List Int)} {l : List It} {i : Nat} (hi : i < (RingL (nextL af be l)).length) :
    ∃ p q z : Nat, ∃ a b : It, (RingL (nextL af be l))[i]? = some (p : Int) ∧ (RingL (nextL af be l))[(i + 1) % (RingL (nextL af be l)).length]? = some (q : Int) ∧ (RingL (nextL af be l))[0]? = some (z : Int) ∧ z ≤ p ∧ p < l.length ∧ q < l.length ∧ l[p]? = some a ∧ l[q]? = some b ∧ ahd af be a b = true := by
  have hne : RingL (nextL af be l) ≠ [] := by intro e; rw [e] at hi; simp at hi
  obtain ⟨k, hk, e, hr⟩ := RingL_one hne
  rw [e] at hi ⊢
  obtain ⟨x, y, h1, h2, h3⟩ := ring_step hr i hi
  obtain ⟨p, q, rfl, rfl, a, b, ha, hb, hab⟩ := mem_next.1 h3
  obtain ⟨_, h4, h5⟩ := ringL_goes hr
  have := h5 p (List.mem_of_getElem? h1)
  exact ⟨p, q, k, a, b, h1, h2, h4, by omega, (List.getElem?_eq_some_iff.1 ha).1, (List.getElem?_eq_some_iff.1 hb).1, ha, hb, hab⟩
theorem many_none {af be : List (List Int)} {l : List It} (h : RingL (nextL af be l) = []) : (OrderL (nextL af be l)).length = l.length := by
  rw [(order_whole (next_ent af be l) h).1, nextL_length]
theorem many_some {af be : List (List Int)} {l : List It} (h : RingL (nextL af be l) ≠ []) : OrderL (nextL af be l) = [] := order_none (next_ent af be l) h
theorem many_len (af be : List (List Int)) (l : List It) : (OrderL (nextL af be l)).length ≤ l.length := by
  by_cases h : RingL (nextL af be l) = []
  · rw [many_none h]; exact Nat.le_refl _
  · rw [many_some h]; simp
/-- Each of the order is one that is not told before, and all that are ahead of it are. -/
theorem many_order {af be : List (List Int)} {l : List It} {i : Nat} (hi : i < (OrderL (nextL af be l)).length) :
    ∃ p : Nat, ∃ a : It, (OrderL (nextL af be l))[i]? = some (p : Int) ∧ p < l.length ∧ l[p]? = some a ∧ (p : Int) ∉ (OrderL (nextL af be l)).take i ∧ ∀ (k : Nat) (b : It), l[k]? = some b → ahd af be b a = true → (k : Int) ∈ (OrderL (nextL af be l)).take i := by
  have h : RingL (nextL af be l) = [] := by
    by_cases h : RingL (nextL af be l) = []
    · exact h
    · rw [many_some h] at hi; simp at hi
  have ht := (order_whole (next_ent af be l) h).2
  obtain ⟨h1, h2, _, h3, h4⟩ := ht i _ (List.getElem?_eq_getElem hi)
  generalize he : (OrderL (nextL af be l))[i] = x at *
  obtain ⟨p, rfl⟩ : ∃ p : Nat, x = p := ⟨x.toNat, by omega⟩
  rw [nextL_length] at h2
  have hp : p < l.length := by omega
  refine ⟨p, l[p], by rw [List.getElem?_eq_getElem hi, he], hp, List.getElem?_eq_getElem hp, h3, fun k b hk hab => ?_⟩
  have hkl := (List.getElem?_eq_some_iff.1 hk).1
  rcases h4 k (by rw [nextL_length]; exact hkl) (mem_next.2 ⟨k, p, rfl, rfl, b, _, hk, List.getElem?_eq_getElem hp, hab⟩) with h5 | h5
  · cases h5
  · exact h5
theorem many_more (af be : List (List Int)) (l : List It) (z : It) : RingL (nextL af be l) = [] ∨ (RingL (nextL af be (l ++ [z])) ≠ [] ∧ (RingL (nextL af be (l ++ [z]))).length ≤ (RingL (nextL af be l)).length) := by
  by_cases h : RingL (nextL af be l) = []
  · exact .inl h
  · exact .inr (RingL_more (next_more z) h)
theorem many_rlen (af be : List (List Int)) (l : List It) : (RingL (nextL af be l)).length ≤ l.length := by
  by_cases h : RingL (nextL af be l) = []
  · rw [h]; simp
  · obtain ⟨k, hk, e, hr⟩ := RingL_one h
    rw [e]
    cases hd : dst (nextL af be l) k k with
    | none => exact absurd (ringL_nil.2 hd) hr
    | some n =>
      obtain ⟨d, rfl, hd'⟩ := dst_some.1 hd
      have := hd'.lt
      rw [nextL_length] at this
      rw [ringL_some hd, List.length_cons, ringFrom_length]
      omega
/-- All of it, of a ring r, an order o and a ring s of one item more. -/
structure ManyP (af be : List (List Int)) (l : List It) (r o s : List Int) : Prop where
  ring : ∀ i, i < r.length → ∃ p q z : Nat, ∃ a b : It, r[i]? = some (p : Int) ∧ r[(i + 1) % r.length]? = some (q : Int) ∧ r[0]? = some (z : Int) ∧ z ≤ p ∧ p < l.length ∧ q < l.length ∧ l[p]? = some a ∧ l[q]? = some b ∧ ahd af be a b = true
  none : r = [] → o.length = l.length
  some : r ≠ [] → o = [] ∧ 0 < l.length
  len : o.length ≤ l.length
  rlen : r.length ≤ l.length
  order : ∀ i, i < o.length → ∃ p : Nat, ∃ a : It, o[i]? = .some (p : Int) ∧ p < l.length ∧ l[p]? = .some a ∧ (p : Int) ∉ o.take i ∧ ∀ (k : Nat) (b : It), l[k]? = .some b → ahd af be b a = true → (k : Int) ∈ o.take i
  more : r = [] ∨ (s ≠ [] ∧ s.length ≤ r.length)
theorem many_p (af be : List (List Int)) (l : List It) (z : It) : ManyP af be l (RingL (nextL af be l)) (OrderL (nextL af be l)) (RingL (nextL af be (l ++ [z]))) :=
  ⟨fun i hi => many_ring hi, many_none, fun h => ⟨many_some h, by
    obtain ⟨p, q, z, a, b, _, _, _, _, h1, _⟩ := many_ring (i := 0) (List.length_pos_iff.2 h)
    omega⟩, many_len af be l, many_rlen af be l, fun i hi => many_order hi, many_more af be l z⟩
/-- Which have been seen. -/
def seenL (o : List Int) : List Value := (List.range 64).map fun (k : Nat) => .bool (decide ((k : Int) ∈ o))
theorem seenL_length (o : List Int) : (seenL o).length = 64 := by simp [seenL]
theorem seenL_get (o : List Int) {k : Nat} (hk : k < 64) : (seenL o)[k]? = some (.bool (decide ((k : Int) ∈ o))) := by simp [seenL, hk]
theorem seenL_nil : seenL [] = List.replicate 64 (.bool false) := by
  refine List.ext_getElem? fun i => ?_
  by_cases hi : i < 64
  · rw [seenL_get _ hi, List.getElem?_replicate, if_pos hi]; simp
  · rw [List.getElem?_eq_none (by rw [seenL_length]; omega), List.getElem?_replicate, if_neg hi]
theorem seenL_set (o : List Int) (p : Nat) (hp : p < 64) : (seenL o).set p (.bool true) = seenL (o ++ [(p : Int)]) := by
  refine List.ext_getElem? fun i => ?_
  rw [List.getElem?_set]
  by_cases hi : i < 64
  · by_cases hpi : p = i
    · subst hpi
      rw [if_pos rfl, if_pos (by rw [seenL_length]; exact hp), seenL_get _ hp]
      simp
    · rw [if_neg hpi, seenL_get _ hi, seenL_get _ hi]
      have : ((i : Int) ∈ o ++ [(p : Int)]) ↔ (i : Int) ∈ o := by
        simp only [List.mem_append, List.mem_singleton]
        constructor
        · rintro (h | h)
          · exact h
          · omega
        · exact .inl
      simp only [this]
  · rw [List.getElem?_eq_none (by rw [seenL_length]; omega)]
    split
    · omega
    · rw [List.getElem?_eq_none (by rw [seenL_length]; omega)]
theorem RdI.of1 {W : World} {g : Nat} {u t : Int} {m : Bool} {T : TypeId} (h : Blk W g [.int .i64 u, .int .u8 t, .bool m] T) : RdI W (some ⟨g, 0, none⟩) [⟨u, t, m⟩] := by
  refine .inr ⟨g, 0, rfl, fun j u' t' m' hj => ?_⟩
  cases j with
  | zero => cases hj; exact ⟨h.cell 0 rfl, h.cell 1 rfl, h.cell 2 rfl⟩
  | succ j => simp at hj
theorem itCells_append (a b : List It) : itCells (a ++ b) = itCells a ++ itCells b := by simp [itCells]
/-- append(v, l...) of items. -/
theorem wpList_append_its {w : World} {ops : Array Oper} {rest : List Oper} {o : Oper} {a : Act} {Q : Exit → Act → World → Prop} (hgd : o.guard = none) (s x : Operand)
    (ho : o.op = .call { callee := .builtin .append, args := #[s, x], argTypes := #[31, 31] }) (base : Nat)
    (v : Value) (l : List It) (hs : a.eval s = v) (hown : w.ownsRow base 30 3 v l.length (itCells l))
    (B : Option Addr) (c : Nat) (ys : List It) (hx : a.eval x = .slice B ys.length c) (hr : RdI w B ys)
    (hbig : l.length + ys.length ≤ 100000000) (hbase : base ≤ w.heap.size)
    (h : ∀ v' w', w'.ownsRow base 30 3 v' (l ++ ys).length (itCells (l ++ ys)) → w.grownBy w' v.ownBlock → (∀ k, v'.ownBlock = some k → v.ownBlock = some k ∨ w.heap.size ≤ k) → wpList Try.prog ops Q rest (a.put o.dst v') w') : wpList Try.prog ops Q (o :: rest) a w := by
  obtain ⟨inf, hi, hz, hsz, hby⟩ := info_parts infoItem
  by_cases h0 : ys = []
  · subst h0
    obtain ⟨A, cap, rfl, hn, _, _⟩ := OwnsI.rd hown
    refine wpList_plain hgd fun K hK => ?_
    unfold Oper.wp
    have hrun := run_append_zero (t := 31) (ty := o.type) Try.underlying31 hi A B l.length cap c hn w
    simp only [List.length_nil] at hx
    simp [execOp, ho, resolve, invoke, builtin, hs, hx, hrun, Result.andThen]
    exact hK _ _ (h _ w (by simpa using hown) ⟨rfl, rfl, rfl, Nat.le_refl _, fun _ _ _ => rfl⟩ (fun k hk => .inl hk))
  · rcases hr with hr | ⟨b, off, rfl, hc⟩
    · exact absurd hr h0
    · refine wpList_append_row hgd s x _ ho base _ inf _ 3 24 Try.underlying31 hi hz hsz hby rfl (by decide) v l.length (itCells l) hs hown ⟨b, off, none⟩ ys.length c (itCells ys) hx (by rw [itCells_length]) ?_ ?_ (List.length_pos_iff.2 h0) (by unfold maxLen; omega) (by omega) hbase (fun v' w' h2 h3 h4 => h v' w' ?_ h3 h4)
      · intro j y hj
        have : (⟨b, off, none⟩ : Addr).add j = ⟨b, off + j, none⟩ := by unfold Addr.add; split <;> simp_all
        rw [this]
        have hjl := (List.getElem?_eq_some_iff.1 hj).1
        rw [itCells_length] at hjl
        have hq : j / 3 < ys.length := by omega
        have hy : ys[j / 3]? = some ys[j / 3] := List.getElem?_eq_getElem hq
        generalize ys[j / 3] = z at hy
        obtain ⟨u, t, m⟩ := z
        obtain ⟨k1, k2, k3⟩ := itCells_get ys _ u t m hy
        obtain ⟨c1, c2, c3⟩ := hc _ u t m hy
        rcases (show j = j / 3 * 3 ∨ j = j / 3 * 3 + 1 ∨ j = j / 3 * 3 + 2 by omega) with e | e | e
        · rw [e] at hj ⊢; rw [k1] at hj; cases hj; exact c1
        · rw [e] at hj ⊢; rw [k2] at hj; cases hj; exact c2
        · rw [e] at hj ⊢; rw [k3] at hj; cases hj; exact c3
      · intro y hy
        obtain ⟨z, _, hz⟩ := List.mem_flatMap.1 hy
        simp only [List.mem_cons, List.not_mem_nil, or_false] at hz
        rcases hz with rfl | rfl | rfl <;> rfl
      · rw [itCells_append, List.length_append]
        exact h2
end Go.Proofs.Ythlobpdcolgcoaa
/- Chapter 23: Victim, of few items. -/
namespace Go.Proofs.Ythlobpdcolgcoaa
open Go.RowKit Go.Shelf Go.Lib
set_option linter.unusedVariables false
set_option linter.unusedSimpArgs false
attribute [local go_sem] Oper.semAt_some

def mustAt (l : List It) (x : Int) : Bool := (l.getD x.toNat dIt).m
/-- The last place of the ring that need not be; -1: none. -/
def vic (l : List It) (r : List Int) : Int := r.foldl (fun a x => if mustAt l x then a else max a x) (-1)
theorem fold_none {m : Int → Bool} : ∀ (r : List Int) (a : Int), (∀ y ∈ r, m y = true) → r.foldl (fun a x => if m x then a else max a x) a = a
  | [], _, _ => rfl
  | y :: r, a, h => by
    rw [List.foldl_cons, if_pos (h y List.mem_cons_self)]
    exact fold_none r a fun z hz => h z (List.mem_cons_of_mem _ hz)
theorem fold_max {m : Int → Bool} {x : Int} : ∀ (r : List Int) (a : Int), a ≤ x → (∀ y ∈ r, m y = false → y ≤ x) → (a = x ∨ (x ∈ r ∧ m x = false)) → r.foldl (fun a x => if m x then a else max a x) a = x
  | [], a, _, _, h => by
    rcases h with h | ⟨h, _⟩
    · exact h
    · cases h
  | y :: r, a, ha, hr, h => by
    rw [List.foldl_cons]
    have hr' : ∀ z ∈ r, m z = false → z ≤ x := fun z hz => hr z (List.mem_cons_of_mem _ hz)
    cases hm : m y with
    | true =>
      rw [if_pos rfl]
      refine fold_max r a ha hr' (h.imp_right fun h => ⟨?_, h.2⟩)
      rcases List.mem_cons.1 h.1 with e | e
      · rw [e, hm] at h; cases h.2
      · exact e
    | false =>
      rw [if_neg (by simp)]
      have hy := hr y List.mem_cons_self hm
      refine fold_max r _ (by omega) hr' ?_
      rcases h with h | ⟨h1, h2⟩
      · left; omega
      · rcases List.mem_cons.1 h1 with e | e
        · left; omega
        · right; exact ⟨e, h2⟩
theorem vic_none {l : List It} {r ys : List Int} (hp : ys.Perm r) (h : ∀ x ∈ bkA ys, mustAt l x.1.2 = true) : vic l r = -1 := by
  refine fold_none r _ fun y hy => ?_
  have hy := hp.symm.subset hy
  obtain ⟨i, hi⟩ := List.getElem?_of_mem hy
  have hlt := (List.getElem?_eq_some_iff.1 hi).1
  have hmem : ((i : Int), ys.getD i 0) ∈ bk ys := List.mem_of_getElem? (bk_get ys hlt)
  have : mustAt l (ys.getD i 0) = true := h ⟨_, hmem⟩ (List.mem_attach _ _)
  rw [List.getD_eq_getElem?_getD, hi] at this
  exact this
theorem vic_some {l : List It} {r ys : List Int} {pre : List (BkE ys)} {x : BkE ys} (hp : ys.Perm r) (hs : Srt ys ys.length) (h0 : ∀ y ∈ r, 0 ≤ y) (hpre : pre ++ [x] <+: bkA ys) (hall : ∀ y ∈ pre, mustAt l y.1.2 = true) (hx : mustAt l x.1.2 = false) : vic l r = x.1.2 := by
  obtain ⟨tl, htl⟩ := hpre
  have hlen := congrArg List.length htl
  rw [bkA_length] at hlen
  simp only [List.length_append, List.length_cons, List.length_nil] at hlen
  have key : ∀ k (hk : k < ys.length), ((bkA ys)[ys.length - (k + 1)]?).map (·.1) = some ((k : Int), ys.getD k 0) := fun k hk => by
    rw [← List.getElem?_map, bkA_map]; exact bk_get ys hk
  -- x stands at place p from the end
  have hxk : x.1 = (((ys.length - 1 - pre.length : Nat) : Int), ys.getD (ys.length - 1 - pre.length) 0) := by
    have h1 := key (ys.length - 1 - pre.length) (by omega)
    rw [show ys.length - (ys.length - 1 - pre.length + 1) = pre.length by omega, ← htl] at h1
    rw [List.append_assoc, List.getElem?_append_right (Nat.le_refl _)] at h1
    simpa using h1
  have hx2 : x.1.2 = ys.getD (ys.length - 1 - pre.length) 0 := by rw [hxk]
  have hxr : x.1.2 ∈ r := by
    rw [hx2]
    refine hp.subset ?_
    rw [List.getD_eq_getElem?_getD, List.getElem?_eq_getElem (by omega)]
    exact List.getElem_mem _
  refine fold_max r _ (by have := h0 _ hxr; omega) (fun y hy hm => ?_) (.inr ⟨hxr, hx⟩)
  obtain ⟨j, hj⟩ := List.getElem?_of_mem (hp.symm.subset hy)
  have hjl := (List.getElem?_eq_some_iff.1 hj).1
  have hyj : ys.getD j 0 = y := by rw [List.getD_eq_getElem?_getD, hj]; rfl
  rcases Nat.lt_or_ge (ys.length - 1 - pre.length) j with h1 | h1
  · have h2 := key j hjl
    rw [← htl, List.getElem?_append_left (by simp; omega), List.getElem?_append_left (by omega)] at h2
    obtain ⟨z, hz, e⟩ := Option.map_eq_some_iff.1 h2
    have := hall z (List.mem_of_getElem? hz)
    rw [e] at this
    simp only [hyj, hm] at this
    cases this
  · rw [hx2, ← hyj]
    rcases Nat.lt_or_ge j (ys.length - 1 - pre.length) with h2 | h2
    · exact hs j _ h2 (by omega)
    · have : j = ys.length - 1 - pre.length := by omega
      rw [this]; exact Int.le_refl _

/-- A row that a call owns, sorted in place. -/
theorem sort_row {base : Nat} {r : List Int} {B : Option Addr} {c : Nat} {w : World} (h : RdO base w B c r) (hl : r.length ≤ 12) :
    Calls Try.prog 30 #[.slice B r.length c] w fun e w' => e = .returned (.tuple #[]) ∧ ∃ (ys : List Int) (g : Nat) (rest : List Value) (T : TypeId), ys.Perm r ∧ Srt ys r.length ∧ (ys ≠ [] → B = some ⟨g, 0, none⟩ ∧ base ≤ g ∧ g < w'.heap.size ∧ Blk w' g (ints ys ++ rest) T) ∧ ∀ a, Ext a w → a.heap.size ≤ base → Ext a w' := by
  obtain ⟨_, hlen, hv⟩ := h
  rcases hv with ⟨hv, h0⟩ | ⟨g, cap, cur, hv, hb, hg, hn, hcap, hcs, htk⟩
  · have hr0 : r = [] := List.eq_nil_of_length_eq_zero h0
    subst hr0
    refine (sort_nil B c w).mono ?_
    rintro e w' ⟨rfl, rfl⟩
    exact ⟨rfl, [], 0, [], 3, .refl _, fun p q h1 h2 => by simp at h2, fun h => absurd rfl h, fun a ha _ => ha⟩
  · cases hv
    have hcur : cur.toList = ints r ++ cur.toList.drop r.length := by
      have := List.take_append_drop r.length cur.toList
      rw [Nat.mul_one] at htk
      rw [htk] at this
      exact this.symm
    have hblk : Blk w g (ints r ++ cur.toList.drop r.length) 3 := by
      unfold Blk
      rw [← hcur]
      exact hg
    refine (sort_calls g r.length c r _ _ w hblk rfl hl).mono ?_
    rintro e w' ⟨rfl, ys, hp, hs, hb', hx⟩
    exact ⟨rfl, ys, g, _, _, hp, hs, fun _ => ⟨rfl, hb, hb'.lt, hb'⟩, fun a ha hab => But.toExt ha hx (Nat.le_trans hab hb)⟩
theorem backF (A : Option Addr) (n c : Nat) (w : World) : Calls Try.prog 31 #[.slice A n c] w fun e w' => e = .returned (.func (.func 37) #[] #[.pointer (some ⟨w.heap.size, 0, none⟩)]) ∧ w' = w.alloc (.cells #[.slice A n c] 40) := by
  go_enter Try.func31, Try.ntmps31
  go_wp2_with fail
  go_ret
  exact ⟨rfl, rfl⟩
theorem bk_mem {ys : List Int} {x : Int × Int} (h : x ∈ bk ys) : x.2 ∈ ys := by
  unfold bk at h
  rw [List.mem_reverse] at h
  obtain ⟨i, hi, rfl⟩ := List.mem_map.1 h
  have hi : i < ys.length := by simpa using hi
  rw [List.getD_eq_getElem?_getD, List.getElem?_eq_getElem hi]
  exact List.getElem_mem hi
theorem rowVic : isRowT Try.prog 26 2 := ⟨by kernel_rfl, by kernel_rfl⟩
theorem run_loadVar_one {P : Program} {T T' : TypeId} {d : TypeDesc} (hu : P.underlying T = some d) (hd : (match d with | .struct _ | .array _ _ => true | _ => false) = false) (hi : (P.info? T).map (·.size) = some 1) {g : Nat} {v : Value} {w : World} (hb : Blk w g [v] T') :
    (loadVar T ⟨g, 0, none⟩).run P w = .ok v w := by
  have hc := hb.cell 0 rfl
  cases d <;> simp_all [loadVar, isAgg, run_underlying hu, Sem.run_bind, Result.andThen, load] <;> simp [Sem.run, hc]
theorem results_ccc {tm : Array Value} {W : World} {G : Nat} {u t e : Int} {b : Bool} (h4 : tm.getD 4 undef = .pointer (some ⟨G + 1 + 1, 0, none⟩)) (h5 : tm.getD 5 undef = .pointer (some ⟨G + 1 + 1 + 1, 0, none⟩)) (h6 : tm.getD 6 undef = .pointer (some ⟨G + 1 + 1 + 1 + 1, 0, none⟩))
    (k4 : Blk W (G + 1 + 1) [.int .i64 u, .int .u8 t] 26) (k5 : Blk W (G + 1 + 1 + 1) [.bool b] 4) (k6 : Blk W (G + 1 + 1 + 1 + 1) [.int .i64 e] 48) :
    (results Try.f20 tm).run Try.prog W = .ok (.tuple #[.agg #[.int .i64 u, .int .u8 t], .bool b, .int .i64 e]) W := by
  have h4' : tm[4]?.getD undef = .pointer (some ⟨G + 1 + 1, 0, none⟩) := by simpa using h4
  have h5' : tm[5]?.getD undef = .pointer (some ⟨G + 1 + 1 + 1, 0, none⟩) := by simpa using h5
  have h6' : tm[6]?.getD undef = .pointer (some ⟨G + 1 + 1 + 1 + 1, 0, none⟩) := by simpa using h6
  simp [results, Try.results20, h4', h5', h6', asAddr, run_loadVar_blk rowVic k4, run_loadVar_one Try.underlying4 rfl (by kernel_rfl) k5, run_loadVar_one Try.underlying48 rfl (by kernel_rfl) k6]
theorem vic_leave {tm : Array Value} {G D : Nat} {W w : World} {u t e : Int} {b : Bool} {R : Ending → World → Prop} (h4 : tm.getD 4 undef = .pointer (some ⟨G + 1 + 1, 0, none⟩)) (h5 : tm.getD 5 undef = .pointer (some ⟨G + 1 + 1 + 1, 0, none⟩)) (h6 : tm.getD 6 undef = .pointer (some ⟨G + 1 + 1 + 1 + 1, 0, none⟩))
    (k4 : Blk W (G + 1 + 1) [.int .i64 u, .int .u8 t] 26) (k5 : Blk W (G + 1 + 1 + 1) [.bool b] 4) (k6 : Blk W (G + 1 + 1 + 1 + 1) [.int .i64 e] 48)
    (hD : G + 1 + 1 + 1 + 1 < D) (hK : W.heap[D]? = some (.deferred (some []))) (hB : Below G w W)
    (hR : ∀ W', Below G w W' → R (.returned (.tuple #[.agg #[.int .i64 u, .int .u8 t], .bool b, .int .i64 e])) W') : bodyPostM Fence.wide 3 Try.prog Try.f20 R .ret { tmps := tm, defers := [{ target := .collected D, args := #[] }] } W := by
  have keep : ∀ (k : Nat) (vs : List Value) (T' : TypeId), k < D → Blk W k vs T' → Blk (W.putObj D (.deferred none)) k vs T' := fun k vs T' hk hb => by
    unfold Blk at hb ⊢
    rw [← hb]
    simp [World.putObj, Array.getElem?_setIfInBounds_ne (show D ≠ k by omega)]
  refine ⟨by simp, .inl ⟨_, _, rfl, run_takeDeferred hK, ?_⟩⟩
  refine ⟨_, results_ccc h4 h5 h6 (keep _ _ _ (by omega) k4) (keep _ _ _ (by omega) k5) (keep _ _ _ (by omega) k6), hR _ ?_⟩
  refine hB.grown (row := some D) (grownBy_putObj' W D _) (by have := k6.lt; omega) (fun k e => by cases e; omega)
/-- While it looks: all of those before must be. -/
structure VI (l : List It) (ys : List Int) (W3 : World) (pre : List (BkE ys)) (W : World) : Prop where
  all : ∀ y ∈ pre, mustAt l y.1.2 = true
  old : Below W3.heap.size W3 W
/-- One is found. -/
structure VX (l : List It) (ys : List Int) (G : Nat) (w : World) (code : Code) (pre : List (BkE ys)) (W : World) : Prop where
  code : code = .ret
  out : ∃ q x, pre = q ++ [x] ∧ (∀ y ∈ q, mustAt l y.1.2 = true) ∧ mustAt l x.1.2 = false ∧ Blk W (G + 1 + 1) [.int .i64 (l.getD x.1.2.toNat dIt).u, .int .u8 (l.getD x.1.2.toNat dIt).t] 26 ∧ Blk W (G + 1 + 1 + 1) [.bool true] 4 ∧ Blk W (G + 1 + 1 + 1 + 1) [.int .i64 0] 48
  old : Below G w W
/-- What Victim tells. -/
def vicV (l : List It) (r : List Int) : Int × Int × Bool × Int := if 0 ≤ vic l r then ((l.getD (vic l r).toNat dIt).u, (l.getD (vic l r).toNat dIt).t, true, 0) else (0, 0, false, if r = [] then 0 else 230)
set_option maxRecDepth 100000 in
set_option maxHeartbeats 8000000 in
theorem victim_calls (cs : List Value) (af be : List (List Int)) (l : List It) (A : Option Addr) (cap : Nat) (w : World) (h : GR w cs af be) (hr : RdI w A l) (hlen : l.length ≤ 8) (hcap : l.length ≤ cap) :
    Calls Try.prog 20 #[.agg cs.toArray, .slice A l.length cap] w fun e w' => e = .returned (.tuple #[.agg #[.int .i64 (vicV l (RingL (nextL af be l))).1, .int .u8 (vicV l (RingL (nextL af be l))).2.1], .bool (vicV l (RingL (nextL af be l))).2.2.1, .int .i64 (vicV l (RingL (nextL af be l))).2.2.2]) ∧ Ext w w' := by
  have hl : cs.length = 10 := by obtain ⟨_, _, _, _, _, _, h0, _⟩ := h; exact h0
  have HT := Lib.hid (rowG cs.length hl)
  clear hl
  refine (callsIn_wide (n := 3)).1 (callsIn_of_wp_marks Try.func20 rfl trivial ?_ rfl)
  simp only [Try.ntmps20, List.size_toArray, List.length_cons, List.length_nil, Nat.reduceAdd, Nat.reduceSub, Array.replicate_succ, Array.replicate_zero, List.push_toArray, List.append_toArray, List.nil_append, List.cons_append]
  refine wpIn_wide.2 ?_
  go_upto_region 1 with (fail)
  refine wp_gen (fun W => Blk W w.heap.size cs 24 ∧ Blk W (w.heap.size + 1) [.slice A l.length cap] 31 ∧ Blk W (w.heap.size + 1 + 1) [.int .i64 0, .int .u8 0] 26 ∧ Blk W (w.heap.size + 1 + 1 + 1) [.bool false] 4 ∧ Blk W (w.heap.size + 1 + 1 + 1 + 1) [.int .i64 0] 48 ∧ GR W cs af be ∧ RdI W A l ∧ Ext w W)
    ⟨((((Blk.newAt _ _ _ _ rfl).alloc _).alloc _).alloc _).alloc _, (((Blk.newAt _ [.slice A l.length cap] _ _ (by simp)).alloc _).alloc _).alloc _, ((Blk.newAt _ [.int .i64 0, .int .u8 0] _ _ (by simp)).alloc _).alloc _, (Blk.newAt _ [.bool false] _ _ (by simp)).alloc _, Blk.newAt _ [.int .i64 0] _ _ (by simp), h.ext ((((((Ext.refl w).alloc _).alloc _).alloc _).alloc _).alloc _), hr.ext ((((((Ext.refl w).alloc _).alloc _).alloc _).alloc _).alloc _), (((((Ext.refl w).alloc _).alloc _).alloc _).alloc _).alloc _⟩ ?_
  obtain ⟨G, hG⟩ : ∃ G, w.heap.size = G := ⟨_, rfl⟩
  rw [hG]
  clear h hr
  rintro W0 ⟨bG, bL, b4, b5, b6, h, hr, hx0⟩
  have cL := bL.cell 0 rfl
  go_wp2_with (refine wpList_load_blk rfl 24 (.tmp 2) rfl G rfl HT.out bG ?_)
  have hrl := many_rlen af be l
  have hr0 : ∀ y ∈ RingL (nextL af be l), 0 ≤ y := by
    intro y hy
    obtain ⟨i, hi⟩ := List.getElem?_of_mem hy
    obtain ⟨p, _, _, _, _, e, _⟩ := many_ring (List.getElem?_eq_some_iff.1 hi).1
    rw [hi] at e
    cases e
    omega
  have hrn : ∀ y ∈ RingL (nextL af be l), y < l.length := by
    intro y hy
    obtain ⟨i, hi⟩ := List.getElem?_of_mem hy
    obtain ⟨p, _, _, _, _, e, _, _, _, hp, _⟩ := many_ring (List.getElem?_eq_some_iff.1 hi).1
    rw [hi] at e
    cases e
    omega
  refine (Ring_calls cs af be l A cap W0 h hr (by omega) hcap).mono ?_
  rintro e W1 ⟨B, c, rfl, ho, x1⟩
  generalize hre : RingL (nextL af be l) = r at *
  go_wp2_with fail
  refine (sort_row ho (by omega)).mono ?_
  rintro e W2 ⟨rfl, ys, g, rest, T, hp, hs, hrow, hext⟩
  have x2 : Ext W0 W2 := hext W0 x1 (Nat.le_refl _)
  clear ho x1 hext
  go_wp2_with fail
  refine (backF _ _ _ _).mono ?_
  rintro e W3 ⟨rfl, hW3⟩
  have hlr := hp.length_eq
  have hm3 : W3.cell? ⟨W2.heap.size, 0, none⟩ = some (.slice B ys.length c) := by rw [hW3, hlr]; simp
  have hsz3 : W2.heap.size < W3.heap.size := by rw [hW3, World.size_alloc]; omega
  obtain ⟨g, hgl, hrow3⟩ : ∃ g, g < W3.heap.size ∧ (ys ≠ [] → B = some ⟨g, 0, none⟩ ∧ Blk W3 g (ints ys ++ rest) T) := by
    by_cases hy : ys = []
    · exact ⟨W2.heap.size, hsz3, fun h => absurd hy h⟩
    · obtain ⟨h1, h2, h3, h4⟩ := hrow hy
      exact ⟨g, by omega, fun _ => ⟨h1, by rw [hW3]; exact h4.alloc _⟩⟩
  have x3 : Ext W0 W3 := by rw [hW3]; exact x2.alloc _
  obtain ⟨Bm, hBm⟩ : ∃ Bm, W2.heap.size = Bm := ⟨_, rfl⟩
  rw [hBm] at hm3 hsz3 ⊢
  have hle : W0.heap.size ≤ Bm := by rw [← hBm]; exact x2.size
  clear hrow x2 hW3 hBm
  go_wp2_with fail
  refine (wpIn_wide (n := 3)).1 ?_
  have hG0 : W0.heap.size ≤ W3.heap.size := x3.size
  have hG5 : G + 1 + 1 + 1 + 1 < W0.heap.size := b6.lt
  refine wpIn_rangeFunc_ownH (F := Fence.wide) (n := 3) rfl (by omega) (gf := 37) (lb := #[.pointer (some ⟨Bm, 0, none⟩)]) rfl trivial (enters_of Try.func37 (by kernel_rfl) rfl)
    (back_seq Fence.wide 2 trivial rfl (by omega) Bm g c B ys rest T W3 hsz3 hm3 (fun hne => ⟨(hrow3 hne).1, hgl, (hrow3 hne).2⟩) (by omega)) (fun h k => KpB.trans h k)
    (fun W l' o o' hl' ho hc _ => ?kb) (Below.refl _ W3) (fun _ => rfl)
    (VI l ys W3) (VX l ys G w)
    (fun s W W' row hs hg hr' => ⟨hs.all, hs.old.grown hg hs.old.size (fun k e => (hr' k e).1)⟩)
    ?hIx
    ⟨(fun y hy => (by cases hy)), Below.refl _ W3⟩
    (fun x a' W => a' = { tmps := #[.agg cs.toArray, .slice A l.length cap, .pointer (some ⟨G, 0, none⟩), .pointer (some ⟨G + 1, 0, none⟩), .pointer (some ⟨G + 1 + 1, 0, none⟩), .pointer (some ⟨G + 1 + 1 + 1, 0, none⟩), .pointer (some ⟨G + 1 + 1 + 1 + 1, 0, none⟩), .slice B r.length c, undef, .int .i64 x.1.2, .agg cs.toArray, .slice A l.length cap, .slice B r.length c, .slice B r.length c, .tuple #[], .slice B r.length c, .func (.func 37) #[] #[.pointer (some ⟨Bm, 0, none⟩)], .int .i64 x.1.1, .int .i64 x.1.2, undef, undef, undef, undef, undef, undef, undef, undef, undef, undef, undef, undef, undef, undef, undef, undef], defers := [] })
    (fun x a' _ _ _ _ hs _ _ => hs)
    ?assign ?body ?done ?stop
  case kb => exact ⟨by simp [World.putObj, Array.getElem?_setIfInBounds_ne (show l' ≠ Bm by omega)], by simp [World.putObj, Array.getElem?_setIfInBounds_ne (show l' ≠ g by omega)]⟩
  case hIx =>
    rintro code pre W W' row ⟨rfl, ⟨q, x, e, hall, hx, k4, k5, k6⟩, hB⟩ hg hr'
    have keep : ∀ (k : Nat) (vs : List Value) (T' : TypeId), k < W3.heap.size → Blk W k vs T' → Blk W' k vs T' := fun k vs T' hk hb => (hg.block k hb.lt (fun e => by have := (hr' k e.symm).1; omega)).trans hb
    exact ⟨rfl, ⟨q, x, e, hall, hx, keep _ _ _ (by omega) k4, keep _ _ _ (by omega) k5, keep _ _ _ (by omega) k6⟩, hB.grown hg (by have := k6.lt; omega) (fun k e => by have := (hr' k e).1; omega)⟩
  case assign =>
    rintro l' pre x W K ⟨hall, hB⟩ hK
    gi_wp2
    exact hK _ _ (KeepsFrom.refl _ _) ⟨rfl, rfl⟩ ⟨hall, hB⟩ rfl
  case body =>
    rintro l' pre ⟨⟨i, y⟩, hxm⟩ a' W hl' ⟨rec, hrec⟩ ⟨hall, hB⟩ rfl hlt
    have hxr := hp.subset (bk_mem hxm)
    have h0x := hr0 _ hxr
    have hnx := hrn _ hxr
    obtain ⟨p, rfl⟩ : ∃ p : Nat, y = p := ⟨y.toNat, by simp only at h0x; omega⟩
    have hpl : p < l.length := by simp only at hnx; omega
    have hpli : (p : Int) < l.length := by omega
    have k0 : (0 : Int) ≤ p := by omega
    obtain ⟨bl, ol, u, t, m, rfl, he, f1, f2, f3⟩ := (hr.ext (x3.trans hB)).at hpl
    have cL' : W.cell? ⟨G + 1, 0, none⟩ = some (.slice (some ⟨bl, ol, none⟩) l.length cap) := (bL.ext (x3.trans hB)).cell 0 rfl
    have hget : l.getD p dIt = ⟨u, t, m⟩ := by rw [List.getD_eq_getElem?_getD, he]; rfl
    have hmust : mustAt l (p : Int) = m := by unfold mustAt; rw [Int.toNat_natCast, hget]
    have q4 := b4.ext (x3.trans hB)
    have q5 := b5.ext (x3.trans hB)
    have q6 := b6.ext (x3.trans hB)
    cases m
    · have d40 := q4.cell 0 rfl
      have d41 := q4.cell 1 rfl
      have d5 := q5.cell 0 rfl
      have d6 := q6.cell 0 rfl
      have z40 := q4.frozen 0
      have z41 := q4.frozen 1
      have z5 := q5.frozen 0
      have z6 := q6.frozen 0
      gi_wp2
      refine ⟨((((KeepsOthers.setCell _ _ _).trans (KeepsOthers.setCell _ _ _)).trans (KeepsOthers.setCell _ _ _)).trans (KeepsOthers.setCell _ _ _)).from _, rfl, ⟨pre, _, rfl, hall, hmust, ?_, ?_, ?_⟩, ?_⟩
      · simp only [Int.toNat_natCast, hget]
        exact (((q4.set 0 _).set 1 _).other (show _ ≠ _ by simp only [ne_eq]; omega) _).other (show _ ≠ _ by simp only [ne_eq]; omega) _
      · exact ((((q5.other (show _ ≠ _ by simp only [ne_eq]; omega) _).other (show _ ≠ _ by simp only [ne_eq]; omega) _).set 0 _).other (show _ ≠ _ by simp only [ne_eq]; omega) _)
      · exact ((((q6.other (show _ ≠ _ by simp only [ne_eq]; omega) _).other (show _ ≠ _ by simp only [ne_eq]; omega) _).other (show _ ≠ _ by simp only [ne_eq]; omega) _).set 0 _)
      · rw [← hG]
        exact ((((hx0.trans (x3.trans hB)).setCell (show _ ≤ _ by simp only; omega) _).setCell (show _ ≤ _ by simp only; omega) _).setCell (show _ ≤ _ by simp only; omega) _).setCell (show _ ≤ _ by simp only; omega) _
    · gi_wp2
      refine ⟨KeepsFrom.refl _ _, ⟨rfl, rfl⟩, fun y hy => ?_, hB⟩
      rcases List.mem_append.1 hy with hy | hy
      · exact hall y hy
      · rw [List.mem_singleton.1 hy]; exact hmust
  case done =>
    rintro D xs W hD rfl ⟨hall, hB⟩ hK
    have hv : vic l r = -1 := vic_none hp hall
    have x4 := x3.trans hB
    have q4 := b4.ext x4
    have q5 := b5.ext x4
    have q6 := b6.ext x4
    have hBG : Below G w W := by rw [← hG]; exact hx0.trans x4
    have vv : vicV l r = (0, 0, false, if r = [] then 0 else 230) := by unfold vicV; rw [hv, if_neg (by omega)]
    by_cases hne : r = []
    · subst hne
      rw [if_pos rfl] at vv
      clear hrow3 hall
      have d40 := q4.cell 0 rfl
      have d41 := q4.cell 1 rfl
      have d5 := q5.cell 0 rfl
      have d6 := q6.cell 0 rfl
      have z40 := q4.frozen 0
      have z41 := q4.frozen 1
      have z5 := q5.frozen 0
      have z6 := q6.frozen 0
      go_wp2_with fail
      refine vic_leave (G := G) (D := D) (u := 0) (t := 0) (b := false) (e := 0) rfl rfl rfl ?_ ?_ ?_ (by omega) ?_ ?_ (fun W' hW' => ⟨by rw [hre, vv], by rw [← hG] at hW'; exact hW'⟩)
      · exact (((q4.set 0 _).set 1 _).other (show _ ≠ _ by simp only [ne_eq]; omega) _).other (show _ ≠ _ by simp only [ne_eq]; omega) _
      · exact (((q5.other (show _ ≠ _ by simp only [ne_eq]; omega) _).other (show _ ≠ _ by simp only [ne_eq]; omega) _).set 0 _).other (show _ ≠ _ by simp only [ne_eq]; omega) _
      · exact (((q6.other (show _ ≠ _ by simp only [ne_eq]; omega) _).other (show _ ≠ _ by simp only [ne_eq]; omega) _).other (show _ ≠ _ by simp only [ne_eq]; omega) _).set 0 _
      · exact ((((KeepsOthers.setCell _ _ _).trans (KeepsOthers.setCell _ _ _)).trans (KeepsOthers.setCell _ _ _)).trans (KeepsOthers.setCell _ _ _)).same D _ hK rfl
      · rw [← hG]
        exact ((((hx0.trans x4).setCell (show _ ≤ _ by simp only; omega) _).setCell (show _ ≤ _ by simp only; omega) _).setCell (show _ ≤ _ by simp only; omega) _).setCell (show _ ≤ _ by simp only; omega) _
    · have hpos : (0 : Int) < r.length := by have := List.length_pos_iff.2 hne; omega
      have hpos' : 0 < r.length := by omega
      rw [if_neg hne] at vv
      clear hrow3 hall
      have d40 := q4.cell 0 rfl
      have d41 := q4.cell 1 rfl
      have d5 := q5.cell 0 rfl
      have d6 := q6.cell 0 rfl
      have z40 := q4.frozen 0
      have z41 := q4.frozen 1
      have z5 := q5.frozen 0
      have z6 := q6.frozen 0
      go_wp2_with fail
      refine vic_leave (G := G) (D := D) (u := 0) (t := 0) (b := false) (e := 230) rfl rfl rfl ?_ ?_ ?_ (by omega) ?_ ?_ (fun W' hW' => ⟨by rw [hre, vv], by rw [← hG] at hW'; exact hW'⟩)
      · exact (((q4.set 0 _).set 1 _).other (show _ ≠ _ by simp only [ne_eq]; omega) _).other (show _ ≠ _ by simp only [ne_eq]; omega) _
      · exact (((q5.other (show _ ≠ _ by simp only [ne_eq]; omega) _).other (show _ ≠ _ by simp only [ne_eq]; omega) _).set 0 _).other (show _ ≠ _ by simp only [ne_eq]; omega) _
      · exact (((q6.other (show _ ≠ _ by simp only [ne_eq]; omega) _).other (show _ ≠ _ by simp only [ne_eq]; omega) _).other (show _ ≠ _ by simp only [ne_eq]; omega) _).set 0 _
      · exact ((((KeepsOthers.setCell _ _ _).trans (KeepsOthers.setCell _ _ _)).trans (KeepsOthers.setCell _ _ _)).trans (KeepsOthers.setCell _ _ _)).same D _ hK rfl
      · rw [← hG]
        exact ((((hx0.trans x4).setCell (show _ ≤ _ by simp only; omega) _).setCell (show _ ≤ _ by simp only; omega) _).setCell (show _ ≤ _ by simp only; omega) _).setCell (show _ ≤ _ by simp only; omega) _
  case stop =>
    rintro D code pre W hD hpre ⟨rfl, ⟨q, x, rfl, hall, hx, k4, k5, k6⟩, hB⟩ hK
    have hs' : Srt ys ys.length := by rw [hlr]; exact hs
    have hv : vic l r = x.1.2 := vic_some hp hs' hr0 hpre hall hx
    have hxr := hr0 _ (hp.subset (bk_mem x.2))
    have vv : vicV l r = ((l.getD x.1.2.toNat dIt).u, (l.getD x.1.2.toNat dIt).t, true, 0) := by unfold vicV; rw [hv, if_pos hxr]
    refine wpIn_wide.2 ?_
    go_wp2_with fail
    refine vic_leave (G := G) (D := D) rfl rfl rfl k4 k5 k6 (by omega) hK hB (fun W' hW' => ⟨by rw [hre, vv], by rw [← hG] at hW'; exact hW'⟩)
end Go.Proofs.Ythlobpdcolgcoaa
/- Plain: the first ring that is found by trying, of fewest steps first, is the ring told. -/
namespace Go.Proofs.Ythlobpdcolgcoaa
set_option linter.unusedVariables false
set_option linter.unusedSimpArgs false

/-- A way from home on. -/
structure Way (tb : List (List Int)) (home : Int) (way : List Int) (x : Int) : Prop where
  first : way[0]? = some home
  last : way[way.length - 1]? = some x
  step : ∀ i y z, way[i]? = some y → way[i + 1]? = some z → z ∈ rowOf tb y
  above : ∀ (i : Nat) y, way[i]? = some y → home ≤ y
theorem Way.pos {tb : List (List Int)} {home x : Int} {way : List Int} (h : Way tb home way x) : 0 < way.length := by
  have := h.first
  exact (List.getElem?_eq_some_iff.1 this).1
theorem Way.one (tb : List (List Int)) (home : Int) : Way tb home [home] home :=
  ⟨rfl, rfl, fun i y z h k => by simp at k, fun i y h => by
    cases i with
    | zero => simp only [List.getElem?_cons_zero, Option.some.injEq] at h; omega
    | succ i => simp at h⟩
theorem Way.more {tb : List (List Int)} {home x k : Int} {way : List Int} (h : Way tb home way x) (hk : k ∈ rowOf tb x) (hh : home < k) : Way tb home (way ++ [k]) k := by
  have hp := h.pos
  refine ⟨?_, ?_, fun i y z hy hz => ?_, fun i y hy => ?_⟩
  · rw [List.getElem?_append_left hp]; exact h.first
  · simp
  · rcases Nat.lt_trichotomy (i + 1) way.length with h1 | h1 | h1
    · rw [List.getElem?_append_left h1] at hz
      rw [List.getElem?_append_left (by omega)] at hy
      exact h.step i y z hy hz
    · rw [List.getElem?_append_left (by omega)] at hy
      rw [List.getElem?_append_right (by omega), h1] at hz
      simp only [Nat.sub_self, List.getElem?_cons_zero, Option.some.injEq] at hz
      have := h.last
      rw [← h1, Nat.add_sub_cancel, hy] at this
      cases this
      subst hz
      exact hk
    · rw [List.getElem?_eq_none (by simp; omega)] at hz
      cases hz
  · rcases Nat.lt_or_ge i way.length with h1 | h1
    · rw [List.getElem?_append_left h1] at hy
      exact h.above i y hy
    · rw [List.getElem?_append_right h1] at hy
      rcases Nat.eq_zero_or_pos (i - way.length) with h2 | h2
      · rw [h2] at hy
        simp only [List.getElem?_cons_zero, Option.some.injEq] at hy
        omega
      · rw [List.getElem?_eq_none (by simp; omega)] at hy
        cases hy
/-- A walk on from a place of the way is one from home. -/
theorem Way.back {tb : List (List Int)} {home x : Int} {way : List Int} (h : Way tb home way x) {e : Nat} : ∀ (i : Nat) (y : Int), way[i]? = some y → wk tb home e y = true → wk tb home (e + i) home = true
  | 0, y, hy, hw => by
    rw [h.first] at hy
    cases hy
    exact hw
  | i + 1, y, hy, hw => by
    have hlt := (List.getElem?_eq_some_iff.1 hy).1
    have hv : way[i]? = some (way[i]'(by omega)) := List.getElem?_eq_getElem (by omega)
    have := h.back (e := e + 1) i _ hv (wk_succ.2 ⟨h.above i _ hv, y, h.step i _ _ hv hy, hw⟩)
    rw [show e + (i + 1) = e + 1 + i by omega]
    exact this

/-- The trying: s + 1 steps to go. -/
def tryK (f : Int → List Int) (l : List Int) : List Int := match l.find? fun k => decide (f k ≠ []) with
  | none => []
  | some k => f k
def goR (E : Int → Int → Bool) (n : Nat) (home : Int) : Nat → List Int → Int → List Int
  | 0, way, x => if E x home then way else []
  | s + 1, way, x => tryK (fun k => if decide (home < k) && E x k && !way.contains k then goR E n home s (way ++ [k]) k else []) ((List.range n).map Int.ofNat)
/-- A row that tells E. -/
def IsRow (E : Int → Int → Bool) (tb : List (List Int)) : Prop := ∀ x : Nat, x < tb.length → rowOf tb (x : Int) = ((List.range tb.length).map Int.ofNat).filter (E (x : Int))
theorem find_filter {α : Type} (p q : α → Bool) : ∀ l : List α, (l.filter p).find? q = l.find? fun x => p x && q x
  | [] => rfl
  | a :: l => by
    rw [List.filter_cons, List.find?_cons]
    cases hp : p a with
    | true => rw [if_pos rfl, List.find?_cons, find_filter p q l]; simp
    | false => rw [if_neg (by simp), find_filter p q l]; simp
theorem find_congr' {α : Type} {p q : α → Bool} : ∀ (l : List α), (∀ x ∈ l, p x = q x) → l.find? p = l.find? q
  | [], _ => rfl
  | a :: l, h => by
    rw [List.find?_cons, List.find?_cons, h a List.mem_cons_self, find_congr' l fun x hx => h x (List.mem_cons_of_mem _ hx)]
theorem IsRow.mem {E : Int → Int → Bool} {tb : List (List Int)} (h : IsRow E tb) {x : Nat} (hx : x < tb.length) {k : Int} : k ∈ rowOf tb (x : Int) ↔ (∃ j : Nat, j < tb.length ∧ k = j) ∧ E x k = true := by
  rw [h x hx, List.mem_filter]
  constructor
  · rintro ⟨a, b⟩
    obtain ⟨j, hj, rfl⟩ := List.mem_map.1 a
    exact ⟨⟨j, by simpa using hj, rfl⟩, b⟩
  · rintro ⟨⟨j, hj, rfl⟩, b⟩
    exact ⟨List.mem_map.2 ⟨j, by simpa using hj, rfl⟩, b⟩
theorem ways_in {tb : List (List Int)} {home x : Int} {way : List Int} {s n : Nat} (hw : Way tb home way x) (hn : way.length + s = n) (hl : ∀ d, wk tb home d home = true → n ≤ d + 1) (hx : home ≤ x) {e : Nat} (h : wk tb home e x = true) : s ≤ e := by
  have hp := hw.pos
  have := hl _ (hw.back _ x hw.last h)
  omega
theorem goR_eq {E : Int → Int → Bool} {tb : List (List Int)} (hE : IsRow E tb) {home : Nat} {n : Nat} (hl : ∀ d, wk tb home d home = true → n ≤ d + 1) : ∀ (s : Nat) (way : List Int) (x : Nat), x < tb.length → Way tb home way x → way.length + s = n →
    goR E tb.length home s way x = if dst tb home x = some ((s : Int) + 1) then way ++ ringFrom tb home s x else [] := by
  intro s
  induction s with
  | zero =>
    intro way x hx hw hn
    have ha := hw.above _ _ hw.last
    rw [goR]
    have e : E x home = true ↔ dst tb home x = some (((0 : Nat) : Int) + 1) := by
      rw [show (((0 : Nat) : Int) + 1) = 1 from rfl, level_one]
      constructor
      · intro h
        refine ⟨ha, ?_⟩
        have hh := (List.getElem?_eq_some_iff.1 hw.first)
        rw [hE.mem hx]
        exact ⟨⟨home, by omega, rfl⟩, h⟩
      · rintro ⟨_, h⟩
        exact ((hE.mem hx).1 h).2
    by_cases h : E x home = true
    · rw [if_pos h, if_pos (e.1 h), ringFrom, List.append_nil]
    · rw [if_neg h, if_neg (fun k => h (e.2 k))]
  | succ s ih =>
    intro way x hx hw hn
    have ha := hw.above _ _ hw.last
    -- what each candidate gives
    have cand : ∀ k : Int, k ∈ (List.range tb.length).map Int.ofNat → (if decide ((home : Int) < k) && E x k && !way.contains k then goR E tb.length home s (way ++ [k]) k else []) = if E x k && hit tb home ((s : Int) + 1) k then way ++ k :: ringFrom tb home s k else [] := by
      intro k hk
      obtain ⟨j, hj, rfl⟩ := List.mem_map.1 hk
      have hj : j < tb.length := by simpa using hj
      by_cases h1 : (home : Int) < (j : Int)
      case neg =>
        rw [if_neg (by simp [h1]), if_neg (by simp [hit, h1])]
      by_cases h2 : E x j = true
      case neg =>
        rw [if_neg (by simp [h2]), if_neg (by simp [h2])]
      have hmem : (j : Int) ∈ rowOf tb (x : Int) := (hE.mem hx).2 ⟨⟨j, hj, rfl⟩, h2⟩
      by_cases h3 : way.contains (j : Int) = true
      · rw [if_neg (by
          rw [show (Int.ofNat j) = (j : Int) from rfl, h3]
          simp)]
        rw [if_neg]
        intro hc
        simp only [Bool.and_eq_true, hit, decide_eq_true_eq] at hc
        have hd : isD tb home s j := dst_isD.1 hc.2.2
        obtain ⟨i, hi⟩ := List.getElem?_of_mem (List.contains_iff_mem.1 h3)
        have := hl _ (hw.back i _ hi hd.1)
        have := (List.getElem?_eq_some_iff.1 hi).1
        omega
      · rw [if_pos (by simp [h1, h2] at h3 ⊢; exact h3)]
        rw [show Int.ofNat j = (j : Int) from rfl, ih _ j hj (hw.more hmem h1) (by simp; omega)]
        by_cases h4 : dst tb home j = some ((s : Int) + 1)
        · rw [if_pos h4, if_pos (by simp [h2, hit, h1, h4])]
          simp
        · rw [if_neg h4, if_neg (by simp [hit, h4])]
    have hrow := hE x hx
    have key : goR E tb.length home (s + 1) way x = match (rowOf tb (x : Int)).find? (hit tb home ((s : Int) + 1)) with
        | none => []
        | some k => way ++ k :: ringFrom tb home s k := by
      rw [goR, tryK, find_congr' (q := fun k => E x k && hit tb home ((s : Int) + 1) k) _ (fun k hk => by
        rw [cand k hk]
        by_cases hc : (E x k && hit tb home ((s : Int) + 1) k) = true
        · rw [if_pos hc, hc]; simp
        · rw [if_neg hc]; simp at hc ⊢; exact hc), hrow, find_filter]
      generalize hg : List.find? (fun k => E x k && hit tb home ((s : Int) + 1) k) ((List.range tb.length).map Int.ofNat) = g
      cases g with
      | none => rfl
      | some k =>
        dsimp only
        rw [cand k (List.mem_of_find?_eq_some hg), if_pos (List.find?_some hg)]
    rw [key]
    cases hf : (rowOf tb (x : Int)).find? (hit tb home ((s : Int) + 1)) with
    | none =>
      rw [if_neg]
      intro hd
      obtain ⟨h1, h2, h3⟩ := nextOn_ok (m := s) (by rw [hd]; rfl)
      have := List.find?_eq_none.1 hf _ h1
      simp [hit, h2, h3] at this
    | some k =>
      have h1 := List.find?_some hf
      have hm := List.mem_of_find?_eq_some hf
      simp only [hit, Bool.and_eq_true, decide_eq_true_eq] at h1
      have hd : isD tb home s k := dst_isD.1 h1.2
      have hw' : wk tb home (s + 1) x = true := wk_succ.2 ⟨ha, k, hm, hd.1⟩
      have hdx : dst tb home x = some (((s + 1 : Nat) : Int) + 1) := by
        obtain ⟨e, he, hq⟩ := wk_isD hw'
        have := ways_in hw hn hl ha hq.1
        obtain rfl : e = s + 1 := by omega
        exact dst_isD.2 hq
      rw [if_pos hdx, ringFrom, nextOn, hf]
      rfl
/-- The first of the homes, of so many steps. -/
def ringN (E : Int → Int → Bool) (n s : Nat) : List Int := tryK (fun i => goR E n i s [i] i) ((List.range n).map Int.ofNat)
def refRing (E : Int → Int → Bool) (n : Nat) : Nat → Nat → List Int
  | _, 0 => []
  | s, j + 1 => if ringN E n s ≠ [] then ringN E n s else refRing E n (s + 1) j
theorem ringN_eq {E : Int → Int → Bool} {tb : List (List Int)} (hE : IsRow E tb) {s : Nat} (hl : ∀ (h : Nat) d, wk tb h d h = true → s ≤ d) :
    (ringN E tb.length s = [] ∧ ∀ (h : Nat) d, wk tb h d h = true → s + 1 ≤ d) ∨ (ringN E tb.length s ≠ [] ∧ ringN E tb.length s = RingL tb) := by
  have one : ∀ h : Nat, h < tb.length → goR E tb.length h s [(h : Int)] h = if dst tb h h = some ((s : Int) + 1) then ringL tb h else [] := by
    intro h hh
    rw [goR_eq hE (n := s + 1) (fun d hd => by have := hl h d hd; omega) s [(h : Int)] h hh (Way.one tb h) (by simp; omega)]
    split
    · rename_i hd
      rw [ringL_some hd]; rfl
    · rfl
  unfold ringN tryK
  cases hf : ((List.range tb.length).map Int.ofNat).find? (fun k => decide (goR E tb.length k s [k] k ≠ [])) with
  | none =>
    refine .inl ⟨rfl, fun h d hw => ?_⟩
    have := hl h d hw
    rcases Nat.lt_or_ge s d with h1 | h1
    · exact h1
    · obtain rfl : d = s := by omega
      have hh : h < tb.length := by have := wk_row hw; omega
      have := List.find?_eq_none.1 hf h (List.mem_map.2 ⟨h, by simpa using hh, rfl⟩)
      rw [one h hh, if_pos (dst_isD.2 ⟨hw, fun i hi => by
        rw [← Bool.not_eq_true]
        intro hwi
        have := hl h i hwi
        omega⟩)] at this
      refine absurd ?_ this
      rw [decide_eq_true_iff]
      rw [ringL_some (d := d) (dst_isD.2 ⟨hw, fun i hi => by
        rw [← Bool.not_eq_true]
        intro hwi
        have := hl h i hwi
        omega⟩)]
      simp
  | some k =>
    refine .inr ?_
    obtain ⟨h, hh, rfl⟩ : ∃ h : Nat, h < tb.length ∧ k = h := by
      obtain ⟨j, hj, rfl⟩ := List.mem_map.1 (List.mem_of_find?_eq_some hf)
      exact ⟨j, by simpa using hj, rfl⟩
    have hne := List.find?_some hf
    rw [decide_eq_true_iff] at hne
    refine ⟨hne, ?_⟩
    simp only
    have hd : dst tb h h = some ((s : Int) + 1) := by
      rw [one h hh] at hne
      by_cases hd : dst tb h h = some ((s : Int) + 1)
      · exact hd
      · rw [if_neg hd] at hne; exact absurd rfl hne
    rw [one h hh, if_pos hd]
    -- h is the first home of the least rings
    have hlen : ∀ i : Nat, ringL tb i ≠ [] → s + 1 ≤ (ringL tb i).length ∧ (i < h → s + 1 < (ringL tb i).length) := by
      intro i hi
      cases hdi : dst tb i i with
      | none => exact absurd (ringL_nil.2 hdi) hi
      | some m =>
        obtain ⟨d, rfl, hd'⟩ := dst_some.1 hdi
        have h1 := hl i d hd'.1
        have h2 : (ringL tb i).length = d + 1 := by rw [ringL_some hdi]; simp [ringFrom_length]
        refine ⟨by omega, fun hlt => ?_⟩
        rcases Nat.lt_or_ge s d with h3 | h3
        · omega
        · obtain rfl : d = s := by omega
          obtain ⟨_, fs, bs, he, hno⟩ := List.find?_eq_some_iff_append.1 hf
          have hmem : (i : Int) ∈ fs := by
            have h4 : ((List.range tb.length).map Int.ofNat)[i]? = some (i : Int) := by rw [List.getElem?_map, List.getElem?_range (by omega)]; rfl
            have h5 : ((List.range tb.length).map Int.ofNat)[fs.length]? = some (h : Int) := by rw [he]; simp
            have h6 : fs.length = h := by
              have h7 : fs.length < tb.length := by
                have := congrArg List.length he
                simp at this
                omega
              rw [List.getElem?_map, List.getElem?_range h7] at h5
              simp at h5
              omega
            rw [he, List.getElem?_append_left (by omega)] at h4
            exact List.mem_of_getElem? h4
          have := hno _ hmem
          rw [one i (by omega), if_pos hdi] at this
          simp [hi] at this
    have hrl : (ringL tb h).length = s + 1 := by rw [ringL_some hd]; simp [ringFrom_length]
    have hne' : ringL tb h ≠ [] := by intro e; rw [e] at hrl; simp at hrl
    -- the best of the first m homes
    have best : ∀ m, m ≤ tb.length → if h < m then bestTo tb m = ringL tb h else (bestTo tb m = [] ∨ s + 1 < (bestTo tb m).length) := by
      intro m
      induction m with
      | zero => intro _; rw [if_neg (by omega)]; exact .inl rfl
      | succ m ih =>
        intro hm
        have ih := ih (by omega)
        rw [bestTo, stepBest]
        rcases Nat.lt_trichotomy h m with h1 | h1 | h1
        · rw [if_pos h1] at ih
          rw [if_pos (by omega), ih, if_neg]
          rintro ⟨ha, hb⟩
          rcases hb with hb | hb
          · exact hne' hb
          · have := (hlen m ha).1; omega
        · subst h1
          rw [if_neg (by omega)] at ih
          have hc : ringL tb h ≠ [] ∧ (bestTo tb h = [] ∨ (ringL tb h).length < (bestTo tb h).length) := ⟨hne', ih.imp_right fun e => by omega⟩
          rw [if_pos (by omega), if_pos hc]
        · rw [if_neg (by omega)] at ih
          rw [if_neg (by omega)]
          split
          · rename_i hc
            exact .inr ((hlen m hc.1).2 h1)
          · exact ih
    have := best tb.length (Nat.le_refl _)
    rw [if_pos hh] at this
    exact this.symm
theorem refRing_eq {E : Int → Int → Bool} {tb : List (List Int)} (hE : IsRow E tb) : ∀ (j s : Nat), (∀ (h : Nat) d, wk tb h d h = true → s ≤ d) → tb.length ≤ s + j → refRing E tb.length s j = RingL tb
  | 0, s, hl, hj => by
    rw [refRing]
    by_cases hr : RingL tb = []
    · exact hr.symm
    · obtain ⟨k, hk, e, hne⟩ := RingL_one hr
      cases hdi : dst tb k k with
      | none => exact absurd (ringL_nil.2 hdi) hne
      | some m =>
        obtain ⟨d, rfl, hd'⟩ := dst_some.1 hdi
        have := hl k d hd'.1
        have := hd'.lt
        omega
  | j + 1, s, hl, hj => by
    rw [refRing]
    rcases ringN_eq hE hl with ⟨e, h⟩ | ⟨e, h⟩
    · rw [if_neg (by simp [e])]
      exact refRing_eq hE j (s + 1) h (by omega)
    · rw [if_pos e]
      exact h
end Go.Proofs.Ythlobpdcolgcoaa
