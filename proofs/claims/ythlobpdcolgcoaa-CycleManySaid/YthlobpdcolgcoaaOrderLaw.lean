/- Plain: what Order tells: the least that is free, again and again; whole just if nothing goes round. -/
import Derived.Test.YthlobpdcolgcoaaOrder
import Derived.Test.YthlobpdcolgcoaaRingLaw
namespace Go.Proofs.Ythlobpdcolgcoaa
set_option linter.unusedVariables false
set_option linter.unusedSimpArgs false

/-- How many are still ahead of i, of the first m places, but those of G. -/
def ld (tb : List (List Int)) (G : List Int) (i : Int) : Nat → Int
  | 0 => 0
  | k + 1 => ld tb G i k + (if (k : Int) ∈ G then 0 else ((tb.getD k []).count i : Int))
theorem ld_nonneg (tb : List (List Int)) (G : List Int) (i : Int) : ∀ m, 0 ≤ ld tb G i m
  | 0 => Int.le_refl _
  | m + 1 => by
    have := ld_nonneg tb G i m
    unfold ld
    split <;> omega
theorem ld_zero (tb : List (List Int)) (G : List Int) (i : Int) : ∀ m, ld tb G i m = 0 ↔ ∀ k : Nat, k < m → (k : Int) ∈ G ∨ i ∉ tb.getD k []
  | 0 => by simp [ld]
  | m + 1 => by
    have ih := ld_zero tb G i m
    have h0 := ld_nonneg tb G i m
    unfold ld
    constructor
    · intro h k hk
      split at h
      · rename_i hm
        rcases (show k < m ∨ k = m by omega) with h1 | rfl
        · exact ih.1 (by omega) k h1
        · exact .inl hm
      · rcases (show k < m ∨ k = m by omega) with h1 | rfl
        · exact ih.1 (by omega) k h1
        · right
          rw [← List.count_eq_zero]
          omega
    · intro h
      have h1 := ih.2 fun k hk => h k (by omega)
      rw [h1]
      split
      · rfl
      · rename_i hm
        rcases h m (by omega) with h2 | h2
        · exact absurd h2 hm
        · rw [List.count_eq_zero.2 h2]; rfl
theorem ld_cons (tb : List (List Int)) (G : List Int) (i : Int) {p : Nat} (hp : (p : Int) ∉ G) : ∀ m, ld tb ((p : Int) :: G) i m = ld tb G i m - (if p < m then ((tb.getD p []).count i : Int) else 0)
  | 0 => by simp [ld]
  | m + 1 => by
    have ih := ld_cons tb G i hp m
    unfold ld
    rw [ih]
    by_cases hpm : m = p
    · subst hpm
      rw [if_pos (List.mem_cons_self), if_neg (Nat.lt_irrefl m), if_neg hp, if_pos (by omega)]
      omega
    · by_cases hm : (m : Int) ∈ G
      · rw [if_pos (List.mem_cons_of_mem _ hm), if_pos hm]
        by_cases h1 : p < m
        · rw [if_pos h1, if_pos (by omega)]; omega
        · rw [if_neg h1, if_neg (by omega)]; omega
      · rw [if_neg (show ¬ ((m : Int) ∈ (p : Int) :: G) from fun h => by
          rcases List.mem_cons.1 h with h | h
          · omega
          · exact hm h), if_neg hm]
        by_cases h1 : p < m
        · rw [if_pos h1, if_pos (by omega)]; omega
        · rw [if_neg h1, if_neg (by omega)]; omega
theorem getD_set_self' {ws : List Int} {k : Nat} (hk : k < ws.length) (v : Int) : (ws.set k v).getD k 0 = v := by
  rw [List.getD_eq_getElem?_getD, List.getElem?_set_self hk]; rfl
theorem getD_set_ne' {ws : List Int} {k i : Nat} (hk : k ≠ i) (v : Int) : (ws.set k v).getD i 0 = ws.getD i 0 := by
  rw [List.getD_eq_getElem?_getD, List.getElem?_set_ne hk, List.getD_eq_getElem?_getD]
theorem bumpAll_length (d : Int) : ∀ (row ws : List Int), (bumpAll ws row d).length = ws.length
  | [], ws => rfl
  | x :: row, ws => by
    show (bumpAll (bump ws x.toNat d) row d).length = ws.length
    rw [bumpAll_length d row]
    simp [bump]
theorem bumpAll_get (d : Int) : ∀ (row ws : List Int), (∀ x ∈ row, 0 ≤ x ∧ x < ws.length) → ∀ i : Nat, i < ws.length → (bumpAll ws row d).getD i 0 = ws.getD i 0 + d * (row.count (i : Int) : Int)
  | [], ws, _, i, hi => by simp [bumpAll]
  | x :: row, ws, h, i, hi => by
    show (bumpAll (bump ws x.toNat d) row d).getD i 0 = _
    have hl : (bump ws x.toNat d).length = ws.length := by simp [bump]
    rw [bumpAll_get d row _ (fun y hy => by rw [hl]; exact h y (List.mem_cons_of_mem _ hy)) i (by rw [hl]; exact hi)]
    have hx := h x List.mem_cons_self
    unfold bump
    by_cases hxi : x = (i : Int)
    · subst hxi
      rw [Int.toNat_natCast, getD_set_self' hi, List.count_cons_self, Int.natCast_add, Int.mul_add]
      omega
    · rw [getD_set_ne' (by omega), List.count_cons_of_ne (by simpa using hxi)]
/-- Rows of places that there are. -/
def Ent (tb : List (List Int)) : Prop := ∀ r ∈ tb, ∀ x ∈ r, 0 ≤ x ∧ x < tb.length
theorem Ent.row {tb : List (List Int)} (h : Ent tb) (k : Nat) : ∀ x ∈ tb.getD k [], 0 ≤ x ∧ x < tb.length := by
  intro x hx
  rw [List.getD_eq_getElem?_getD] at hx
  cases hk : tb[k]? with
  | none => rw [hk] at hx; cases hx
  | some r => rw [hk] at hx; exact h r (List.mem_of_getElem? hk) x hx
theorem degTo_len (tb : List (List Int)) : ∀ m, (degTo tb m).length = tb.length
  | 0 => by simp [degTo]
  | m + 1 => by rw [degTo, bumpAll_length, degTo_len tb m]
theorem degTo_get {tb : List (List Int)} (h : Ent tb) (i : Nat) (hi : i < tb.length) : ∀ m, (degTo tb m).getD i 0 = ld tb [] (i : Int) m
  | 0 => by simp [degTo, ld, List.getD_eq_getElem?_getD, List.getElem?_replicate, hi]
  | m + 1 => by
    rw [degTo, bumpAll_get 1 _ _ (fun x hx => by rw [degTo_len]; exact h.row m x hx) i (by rw [degTo_len]; exact hi), degTo_get h i hi m, ld, if_neg (by simp)]
    omega
/-- Is i not gone, and all that is ahead of it gone? -/
def freeB (tb : List (List Int)) (G : List Int) (i : Nat) : Bool := !G.contains (i : Int) && (List.range tb.length).all fun k => G.contains (k : Int) || !(tb.getD k []).contains (i : Int)
theorem freeB_iff {tb : List (List Int)} {G : List Int} {i : Nat} : freeB tb G i = true ↔ (i : Int) ∉ G ∧ ld tb G (i : Int) tb.length = 0 := by
  rw [ld_zero]
  simp [freeB]
def ordG (tb : List (List Int)) : Nat → List Int → Option (List Int)
  | 0, _ => some []
  | j + 1, G => match (List.range tb.length).find? (freeB tb G) with
    | none => none
    | some p => (ordG tb j ((p : Int) :: G)).map ((p : Int) :: ·)
def OInv (tb : List (List Int)) (ws G : List Int) : Prop := ws.length = tb.length ∧ ∀ i : Nat, i < tb.length → ((i : Int) ∈ G → ws.getD i 0 < 0) ∧ ((i : Int) ∉ G → ws.getD i 0 = ld tb G (i : Int) tb.length)
theorem OInv.free {tb : List (List Int)} {ws G : List Int} (h : OInv tb ws G) {i : Nat} (hi : i < tb.length) : freeB tb G i = decide (ws.getD i 0 = 0) := by
  rw [Bool.eq_iff_iff, freeB_iff, decide_eq_true_iff]
  obtain ⟨h1, h2⟩ := h.2 i hi
  constructor
  · rintro ⟨a, b⟩
    rw [h2 a, b]
  · intro e
    by_cases hg : (i : Int) ∈ G
    · have := h1 hg; omega
    · exact ⟨hg, by rw [← h2 hg]; exact e⟩
theorem find_idx (ws : List Int) : (List.range ws.length).find? (fun i => decide (ws.getD i 0 = 0)) = if idx ws 0 < 0 then none else some (idx ws 0).toNat := by
  unfold idx
  by_cases hm : (0 : Int) ∈ ws
  · have hlt := List.idxOf_lt_length_of_mem hm
    rw [if_pos hm, if_neg (by omega), Int.toNat_natCast, List.find?_range_eq_some]
    refine ⟨?_, by simpa using hlt, fun j hj => ?_⟩
    · rw [decide_eq_true_iff, List.getD_eq_getElem?_getD, List.getElem?_eq_getElem hlt]
      exact List.getElem_idxOf hlt
    · have hj2 : j < ws.length := by omega
      rw [Bool.not_eq_true', decide_eq_false_iff_not, List.getD_eq_getElem?_getD, List.getElem?_eq_getElem hj2]
      have := List.not_of_lt_findIdx (p := (· == (0 : Int))) (xs := ws) (i := j) hj
      simpa using this
  · rw [if_neg hm, if_pos (by omega), List.find?_eq_none]
    intro i hi
    have hi : i < ws.length := by simpa using hi
    rw [decide_eq_true_iff, List.getD_eq_getElem?_getD, List.getElem?_eq_getElem hi]
    intro e
    exact hm (by simp only [Option.getD_some] at e; rw [← e]; exact List.getElem_mem hi)
theorem find_congr {α : Type} {p q : α → Bool} : ∀ (l : List α), (∀ x ∈ l, p x = q x) → l.find? p = l.find? q
  | [], _ => rfl
  | a :: l, h => by
    rw [List.find?_cons, List.find?_cons, h a List.mem_cons_self, find_congr l fun x hx => h x (List.mem_cons_of_mem _ hx)]
theorem row_getD (tb : List (List Int)) (p : Nat) : rowOf tb (p : Int) = tb.getD p [] := by
  unfold rowOf
  rw [if_neg (by omega), Int.toNat_natCast]
theorem OInv.step {tb : List (List Int)} (he : Ent tb) {ws G : List Int} (h : OInv tb ws G) {p : Nat} (hp : p < tb.length) (hf : freeB tb G p = true) : OInv tb (bumpAll (ws.set p (-1)) (rowOf tb p) (-1)) ((p : Int) :: G) := by
  have hpG := (freeB_iff.1 hf).1
  have hr : ∀ x ∈ rowOf tb p, 0 ≤ x ∧ x < (ws.set p (-1)).length := by
    rw [row_getD, List.length_set, h.1]
    exact he.row p
  refine ⟨by rw [bumpAll_length, List.length_set, h.1], fun i hi => ?_⟩
  rw [bumpAll_get (-1) _ _ hr i (by rw [List.length_set, h.1]; exact hi)]
  obtain ⟨h1, h2⟩ := h.2 i hi
  by_cases hip : i = p
  · subst hip
    rw [getD_set_self' (by rw [h.1]; exact hi)]
    exact ⟨fun _ => by omega, fun hn => absurd List.mem_cons_self hn⟩
  · rw [getD_set_ne' (Ne.symm hip)]
    constructor
    · intro hm
      rcases List.mem_cons.1 hm with e | hm
      · omega
      · have := h1 hm; omega
    · intro hn
      have hg : (i : Int) ∉ G := fun hm => hn (List.mem_cons_of_mem _ hm)
      rw [h2 hg, ld_cons tb G i hpG, if_pos hp, row_getD]
      omega
theorem ordS_ordG {tb : List (List Int)} (he : Ent tb) : ∀ (j : Nat) (ws G : List Int), OInv tb ws G → ordS tb j ws = ordG tb j G
  | 0, _, _, _ => rfl
  | j + 1, ws, G, h => by
    rw [ordS, ordG, find_congr (q := fun i => decide (ws.getD i 0 = 0)) _ (fun i hi => h.free (by simpa using hi)), ← h.1, find_idx]
    by_cases hn : idx ws 0 < 0
    · rw [if_pos hn, if_pos hn]
    · rw [if_neg hn, if_neg hn]
      have hlt := idx_range hn
      obtain ⟨p, hp⟩ : ∃ p : Nat, idx ws 0 = p := ⟨(idx ws 0).toNat, by omega⟩
      rw [hp] at hlt hn ⊢
      simp only [Int.toNat_natCast] at hlt ⊢
      have hpn : p < tb.length := by rw [← h.1]; exact hlt
      have hf : freeB tb G p = true := by
        rw [h.free hpn, decide_eq_true_iff]
        have := find_idx ws
        rw [if_neg (by rw [hp]; exact hn), hp, Int.toNat_natCast] at this
        have := List.find?_some this
        simpa using this
      rw [ordS_ordG he j _ _ (h.step he hpn hf)]
theorem OrderL_ordG {tb : List (List Int)} (he : Ent tb) : OrderL tb = (ordG tb tb.length []).getD [] := by
  unfold OrderL
  rw [ordS_ordG he _ _ [] ⟨degTo_len _ _, fun i hi => ⟨fun h => (by cases h), fun _ => degTo_get he i hi _⟩⟩]
/-- A right order: each there, once, behind all that are ahead of it. -/
def TopoFrom (tb : List (List Int)) (G o : List Int) : Prop := ∀ (i : Nat) (x : Int), o[i]? = some x → 0 ≤ x ∧ x < tb.length ∧ x ∉ G ∧ x ∉ o.take i ∧ ∀ k : Nat, k < tb.length → x ∈ rowOf tb k → (k : Int) ∈ G ∨ (k : Int) ∈ o.take i
theorem ordG_topo {tb : List (List Int)} : ∀ (j : Nat) (G o : List Int), ordG tb j G = some o → o.length = j ∧ TopoFrom tb G o
  | 0, G, o, h => by
    cases h
    exact ⟨rfl, fun i x hx => by simp at hx⟩
  | j + 1, G, o, h => by
    rw [ordG] at h
    cases hf : (List.range tb.length).find? (freeB tb G) with
    | none => rw [hf] at h; cases h
    | some p =>
      rw [hf] at h
      simp only [Option.map_eq_some_iff] at h
      obtain ⟨o', ho', rfl⟩ := h
      obtain ⟨hl, ht⟩ := ordG_topo j _ o' ho'
      have hfr := List.find?_some hf
      have hpn : p < tb.length := by simpa using List.mem_of_find?_eq_some hf
      obtain ⟨hg, hz⟩ := freeB_iff.1 hfr
      have hz := (ld_zero _ _ _ _).1 hz
      refine ⟨by simp [hl], fun i x hx => ?_⟩
      cases i with
      | zero =>
        simp only [List.getElem?_cons_zero, Option.some.injEq] at hx
        subst hx
        refine ⟨by omega, by omega, hg, by simp, fun k hk hx => ?_⟩
        rw [row_getD] at hx
        rcases hz k hk with h | h
        · exact .inl h
        · exact absurd hx h
      | succ i =>
        simp only [List.getElem?_cons_succ] at hx
        obtain ⟨a, b, c, d, e⟩ := ht i x hx
        refine ⟨a, b, fun hm => c (List.mem_cons_of_mem _ hm), ?_, fun k hk hx => ?_⟩
        · rw [List.take_succ_cons, List.mem_cons]
          rintro (rfl | hm)
          · exact c List.mem_cons_self
          · exact d hm
        · rw [List.take_succ_cons]
          rcases e k hk hx with h | h
          · rcases List.mem_cons.1 h with h | h
            · right; rw [h]; exact List.mem_cons_self
            · exact .inl h
          · exact .inr (List.mem_cons_of_mem _ h)
theorem pigeon : ∀ (n : Nat) (f : Nat → Nat), (∀ i, i ≤ n → f i < n) → ∃ a b, a < b ∧ b ≤ n ∧ f a = f b
  | 0, f, h => absurd (h 0 (Nat.le_refl _)) (Nat.not_lt_zero _)
  | n + 1, f, h => by
    by_cases hx : ∃ a, a ≤ n ∧ f a = f (n + 1)
    · obtain ⟨a, ha, e⟩ := hx
      exact ⟨a, n + 1, by omega, by omega, e⟩
    · have hne : ∀ a, a ≤ n → f a ≠ f (n + 1) := fun a ha e => hx ⟨a, ha, e⟩
      obtain ⟨a, b, hab, hb, e⟩ := pigeon n (fun i => if f i = n then f (n + 1) else f i) (fun i hi => by
        have h1 := h i (by omega)
        have h2 := h (n + 1) (by omega)
        have h3 := hne i hi
        by_cases c : f i = n
        · rw [if_pos c]; omega
        · rw [if_neg c]; omega)
      refine ⟨a, b, hab, by omega, ?_⟩
      have ha3 := hne a (by omega)
      have hb3 := hne b hb
      by_cases ca : f a = n
      · by_cases cb : f b = n
        · omega
        · rw [if_pos ca, if_neg cb] at e; omega
      · by_cases cb : f b = n
        · rw [if_neg ca, if_pos cb] at e; omega
        · rw [if_neg ca, if_neg cb] at e; exact e
/-- A list that is too short leaves a place out. -/
theorem left_out {n : Nat} {G : List Int} (h : G.length < n) : ∃ i : Nat, i < n ∧ (i : Int) ∉ G := by
  apply Classical.byContradiction
  intro hno
  have hall : ∀ i : Nat, i < n → (i : Int) ∈ G := fun i hi => Classical.byContradiction fun hn => hno ⟨i, hi, hn⟩
  obtain ⟨a, b, hab, hb, e⟩ := pigeon G.length (fun i => G.idxOf (i : Int)) (fun i hi => List.idxOf_lt_length_of_mem (hall i (by omega)))
  have ha := hall a (by omega)
  have hb := hall b (by omega)
  have h1 := List.getElem_idxOf (List.idxOf_lt_length_of_mem ha)
  have h2 := List.getElem_idxOf (List.idxOf_lt_length_of_mem hb)
  have : (a : Int) = b := by rw [← h1, ← h2]; congr 1
  omega
/-- As many unlike places as there are are all of them. -/
theorem all_in {n : Nat} {o : List Int} (hl : o.length = n) (h : ∀ (i : Nat) (x : Int), o[i]? = some x → 0 ≤ x ∧ x < n ∧ x ∉ o.take i) (k : Nat) (hk : k < n) : (k : Int) ∈ o := by
  apply Classical.byContradiction
  intro hno
  have get : ∀ i, i < n → o[i]? = some (o.getD i 0) := fun i hi => by rw [List.getD_eq_getElem?_getD, List.getElem?_eq_getElem (by omega)]; rfl
  obtain ⟨a, b, hab, hb, e⟩ := pigeon n (fun i => if i < n then (o.getD i 0).toNat else k) (fun i hi => by
    by_cases c : i < n
    · have := h i _ (get i c)
      simp only [if_pos c]; omega
    · simp only [if_neg c]; exact hk)
  have ha : a < n := by omega
  have h1 := h a _ (get a ha)
  have e : (if a < n then (o.getD a 0).toNat else k) = (if b < n then (o.getD b 0).toNat else k) := e
  rw [if_pos ha] at e
  by_cases c : b < n
  · have h2 := h b _ (get b c)
    rw [if_pos c] at e
    have e' : o.getD a 0 = o.getD b 0 := by omega
    apply h2.2.2
    rw [← e']
    have : (o.take b)[a]? = some (o.getD a 0) := by rw [List.getElem?_take, if_pos hab, get a ha]
    exact List.mem_of_getElem? this
  · rw [if_neg c] at e
    apply hno
    have : (k : Int) = o.getD a 0 := by omega
    rw [this]
    exact List.mem_of_getElem? (get a ha)
/-- A walk back that never ends goes round. -/
theorem back_per {tb : List (List Int)} {y : Nat → Nat} (hy : ∀ t, y t < tb.length) (hs : ∀ t, (y t : Int) ∈ rowOf tb (y (t + 1) : Int)) : ∃ m f, Per tb m f := by
  obtain ⟨a, b, hab, hb, e⟩ := pigeon tb.length y (fun i _ => hy i)
  refine ⟨b - a, fun i => (y (b - i % (b - a)) : Int), by omega, fun i => ?_, fun i => by simp only [Nat.add_mod_right]⟩
  have hlt := Nat.mod_lt i (show 0 < b - a by omega)
  have hmod : (i + 1) % (b - a) = (i % (b - a) + 1) % (b - a) := by rw [Nat.mod_add_mod]
  simp only
  rw [hmod]
  generalize i % (b - a) = r at *
  rcases Nat.lt_or_ge (r + 1) (b - a) with h1 | h1
  · rw [Nat.mod_eq_of_lt h1]
    have := hs (b - (r + 1))
    rw [show b - (r + 1) + 1 = b - r by omega] at this
    exact this
  · rw [show r + 1 = b - a by omega, Nat.mod_self, Nat.sub_zero, show b - r = a + 1 by omega, ← e]
    exact hs a
theorem ordG_none {tb : List (List Int)} : ∀ (j : Nat) (G : List Int), G.length + j = tb.length → ordG tb j G = none → ∃ m f, Per tb m f
  | 0, G, _, h => by cases h
  | j + 1, G, hl, h => by
    rw [ordG] at h
    cases hf : (List.range tb.length).find? (freeB tb G) with
    | some p =>
      rw [hf] at h
      simp only [Option.map_eq_none_iff] at h
      exact ordG_none j _ (by simp; omega) h
    | none =>
      obtain ⟨i0, hi0, hg0⟩ := left_out (n := tb.length) (G := G) (by omega)
      have step : ∀ i : Nat, i < tb.length ∧ (i : Int) ∉ G → ∃ k : Nat, (k < tb.length ∧ (k : Int) ∉ G) ∧ (i : Int) ∈ rowOf tb (k : Int) := by
        rintro i ⟨hi, hg⟩
        have h1 := (List.find?_eq_none.1 hf) i (by simpa using hi)
        have h2 : ¬ (ld tb G (i : Int) tb.length = 0) := fun e => h1 (freeB_iff.2 ⟨hg, e⟩)
        rw [ld_zero] at h2
        obtain ⟨k, hk⟩ := Classical.not_forall.1 h2
        obtain ⟨hkn, hk⟩ := Classical.not_imp.1 hk
        have hk := not_or.1 hk
        exact ⟨k, ⟨hkn, hk.1⟩, by rw [row_getD]; exact Classical.not_not.1 hk.2⟩
      let S := { i : Nat // i < tb.length ∧ (i : Int) ∉ G }
      let nx : S → S := fun s => ⟨Classical.choose (step s.1 s.2), (Classical.choose_spec (step s.1 s.2)).1⟩
      have hnx : ∀ s : S, (s.1 : Int) ∈ rowOf tb ((nx s).1 : Int) := fun s => (Classical.choose_spec (step s.1 s.2)).2
      let y : Nat → S := fun t => Nat.rec ⟨i0, hi0, hg0⟩ (fun _ s => nx s) t
      exact back_per (y := fun t => (y t).1) (fun t => (y t).2.1) (fun t => hnx (y t))
theorem topo_noper {tb : List (List Int)} {o : List Int} (hl : o.length = tb.length) (h : TopoFrom tb [] o) {m : Nat} {f : Nat → Int} (hp : Per tb m f) : False := by
  have hin : ∀ i, 0 ≤ f i ∧ f i < tb.length := fun i => row_some (hp.2.1 i)
  have hall := all_in hl fun i x hx => ⟨(h i x hx).1, (h i x hx).2.1, (h i x hx).2.2.2.1⟩
  have key : ∀ (p : Nat) (i : Nat), o[p]? = some (f i) → False := by
    intro p
    induction p using Nat.strongRecOn with
    | ind p ih =>
      intro i hi
      obtain ⟨q, hq⟩ : ∃ q, f q ∈ o.take p := by
        have h1 := hp.2.1 (i + m - 1)
        rw [show i + m - 1 + 1 = i + m by have := hp.1; omega, hp.2.2 i] at h1
        have h2 := hin (i + m - 1)
        have h3 := (h p _ hi).2.2.2.2 (f (i + m - 1)).toNat (by omega) (by rw [Int.toNat_of_nonneg h2.1]; exact h1)
        rw [Int.toNat_of_nonneg h2.1] at h3
        rcases h3 with h3 | h3
        · cases h3
        · exact ⟨_, h3⟩
      obtain ⟨t, ht⟩ := List.getElem?_of_mem hq
      rw [List.getElem?_take] at ht
      split at ht
      · rename_i htp
        exact ih t htp q ht
      · cases ht
  have h0 := hin 0
  have := hall (f 0).toNat (by omega)
  rw [Int.toNat_of_nonneg h0.1] at this
  obtain ⟨p, hp'⟩ := List.getElem?_of_mem this
  exact key p 0 hp'
/-- An order is told just if nothing goes round; and it is a right one. -/
theorem order_whole {tb : List (List Int)} (he : Ent tb) (hr : RingL tb = []) : (OrderL tb).length = tb.length ∧ TopoFrom tb [] (OrderL tb) := by
  rw [OrderL_ordG he]
  cases h : ordG tb tb.length [] with
  | none =>
    obtain ⟨m, f, hp⟩ := ordG_none _ _ (by simp) h
    exact absurd hr (RingL_least hp).1
  | some o => exact ordG_topo _ _ _ h
theorem order_none {tb : List (List Int)} (he : Ent tb) (hr : RingL tb ≠ []) : OrderL tb = [] := by
  rw [OrderL_ordG he]
  cases h : ordG tb tb.length [] with
  | none => rfl
  | some o =>
    obtain ⟨hl, ht⟩ := ordG_topo _ _ _ h
    obtain ⟨f, hp⟩ := RingL_per hr
    exact (topo_noper hl ht hp).elim
end Go.Proofs.Ythlobpdcolgcoaa
