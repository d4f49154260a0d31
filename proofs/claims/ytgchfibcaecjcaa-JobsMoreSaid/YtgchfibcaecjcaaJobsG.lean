/- The printed predicates of rows of items in memory, as the ones that jobs' contracts speak of. -/
import Derived.Test.YtgchfibcaecjcaaPx0
import Derived.Test.YtgchfibcaecjcaaJa1
namespace Go.Proofs.Ytgchfibcaecjcaa
open Go.RowKit Go.Proofs.YtgchfibcaecjcaaW.PrintWords
set_option linter.unusedVariables false
set_option linter.unusedSimpArgs false

theorem spot_none {w : World} {a : Addr} {v : Value} (h : w.cell? a = some v) : a.spot = none := by
  unfold World.cell? at h
  split at h
  · split at h
    · cases h
    · rename_i hs
      cases e : a.spot with
      | none => rfl
      | some x => rw [e] at hs; simp at hs
  · cases h
theorem add_of {a : Addr} (h : a.spot = none) (j : Nat) : a.add j = ⟨a.block, a.off + j, none⟩ := by
  obtain ⟨b, o, s⟩ := a
  simp only at h
  subst h
  unfold Addr.add
  split
  · rename_i hj; subst hj; rfl
  · rfl
/-- Items, as the contracts have them. -/
def its (l : List P.S39) : List It := l.map fun x => ⟨x.f0.f0, x.f0.f1, x.f1⟩
theorem its_length (l : List P.S39) : (its l).length = l.length := by simp [its]
theorem rdi_of {w : World} {A : Option Addr} {n : Nat} {l : List P.S39} (h : Kd.C P.k39 w A n l) : RdI w A (its l) := by
  obtain ⟨hl, hn, hc⟩ := h
  subst hl
  rcases Nat.eq_zero_or_pos l.length with h0 | hp
  · left
    rw [List.eq_nil_of_length_eq_zero h0]; rfl
  · obtain ⟨ad, rfl, hd⟩ := hc hp
    obtain ⟨c, hcl, hcv, hcc⟩ := hd 0 l[0] (List.getElem?_eq_getElem hp)
    have hcv := P.k39_open hcv
    have hs : ad.spot = none := by
      have := hcc 0 _ (by rw [hcv]; rfl)
      have := spot_none this
      simp [Addr.add] at this
      exact this
    right
    refine ⟨ad.block, ad.off, ?_, ?_⟩
    · obtain ⟨b, o, s⟩ := ad
      simp only at hs
      rw [hs]
    · intro j u t m hv
      unfold its at hv
      rw [List.getElem?_map] at hv
      cases hj : l[j]? with
      | none => rw [hj] at hv; cases hv
      | some x =>
        rw [hj] at hv
        cases hv
        obtain ⟨c, hcl, hcv, hcc⟩ := hd j x hj
        have hcv := P.k39_open hcv
        have hz : P.k39.sz = 3 := rfl
        have c0 := hcc 0 _ (by rw [hcv]; rfl)
        have c1 := hcc 1 _ (by rw [hcv]; rfl)
        have c2 := hcc 2 _ (by rw [hcv]; rfl)
        rw [add_of hs, hz] at c0 c1 c2
        exact ⟨by simpa using c0, by simpa [Nat.add_assoc] using c1, by simpa [Nat.add_assoc] using c2⟩
def ofIt (x : It) : P.S39 := ⟨⟨x.u, x.t⟩, x.m⟩
def ofJob (x : Int × Int) : P.S35 := ⟨x.1, x.2⟩
theorem itCells_part (l : List It) {j : Nat} {x : It} (h : l[j]? = some x) : ((itCells l).drop (j * 3)).take 3 = [.int .i64 x.u, .int .u8 x.t, .bool x.m] := by
  obtain ⟨h0, h1, h2⟩ := itCells_get l j x.u x.t x.m h
  apply List.ext_getElem?
  intro i
  rw [List.getElem?_take]
  split
  · rename_i hi
    rw [List.getElem?_drop]
    match i, hi with
    | 0, _ => exact h0
    | 1, _ => exact h1
    | 2, _ => exact h2
  · rename_i hi
    rw [List.getElem?_eq_none (by simp; omega)]
theorem cellsJ_part (l : List (Int × Int)) {j : Nat} {x : Int × Int} (h : l[j]? = some x) : ((cellsJ l).drop (j * 2)).take 2 = [.int .i64 x.1, .int .u8 x.2] := by
  obtain ⟨h0, h1⟩ := cellsJ_get l j x.1 x.2 h
  apply List.ext_getElem?
  intro i
  rw [List.getElem?_take]
  split
  · rename_i hi
    rw [List.getElem?_drop]
    match i, hi with
    | 0, _ => exact h0
    | 1, _ => exact h1
  · rename_i hi
    rw [List.getElem?_eq_none (by simp; omega)]
theorem kdR_items {base : Nat} {W : World} {v : Value} {xs : List It} (h : W.ownsRow base 39 3 v xs.length (itCells xs)) : Kd.R P.k39 39 W base (fun _ => True) v (xs.map ofIt) := by
  refine ⟨fun _ _ => trivial, itCells xs, ?_, ?_, ?_⟩
  · rw [List.length_map]; exact h
  · show (itCells xs).length = (xs.map ofIt).length * 3
    rw [itCells_length, List.length_map]
  · intro j p hj
    rw [List.getElem?_map] at hj
    cases hx : xs[j]? with
    | none => rw [hx] at hj; cases hj
    | some x =>
      rw [hx] at hj
      cases hj
      show P.k39.M W base _ (ofIt x) (((itCells xs).drop (j * 3)).take 3)
      rw [itCells_part xs hx]
      exact P.k39_mkM W base _ (ofIt x)
theorem kdR_jobs {base : Nat} {W : World} {v : Value} {xs : List (Int × Int)} (h : W.ownsRow base 35 2 v xs.length (cellsJ xs)) : Kd.R P.k35 35 W base (fun _ => True) v (xs.map ofJob) := by
  refine ⟨fun _ _ => trivial, cellsJ xs, ?_, ?_, ?_⟩
  · rw [List.length_map]; exact h
  · show (cellsJ xs).length = (xs.map ofJob).length * 2
    rw [h.1, List.length_map]
  · intro j p hj
    rw [List.getElem?_map] at hj
    cases hx : xs[j]? with
    | none => rw [hx] at hj; cases hj
    | some x =>
      rw [hx] at hj
      cases hj
      show P.k35.M W base _ (ofJob x) (((cellsJ xs).drop (j * 2)).take 2)
      rw [cellsJ_part xs hx]
      exact P.k35_mkM W base _ (ofJob x)
end Go.Proofs.Ytgchfibcaecjcaa
namespace Go.Proofs.Ytgchfibcaecjcaa.P
open Go.RowKit Go.Proofs.YtgchfibcaecjcaaW.PrintWords Go.Proofs.Ytgchfibcaecjcaa
def jobs_Sorted.f (l0 : List S39) : Option (List S39) := if l0.length ≤ 1000000 then some ((sortedL (its l0)).map ofIt) else none
theorem jobs_Sorted.calls (A0 : Option Addr) (c0 : Nat) (l0 : List S39) (r : List S39) (w : World) (hr0 : Kd.C k39 w A0 l0.length l0) (hc0 : l0.length ≤ c0) (h : jobs_Sorted.f l0 = some r) :
    Calls Try.prog 10 #[.slice A0 l0.length c0] w fun e w' => ∃ v0_ : Value, e = .returned (v0_) ∧ Kd.R k39 39 w' w.heap.size (fun _ => True) v0_ r ∧ Below w.heap.size w w' := by
  unfold jobs_Sorted.f at h
  split at h
  · rename_i hl
    cases h
    have := Sorted_calls (its l0) A0 c0 w (rdi_of hr0) (by rw [its_length]; exact hl)
    rw [its_length] at this
    refine this.mono ?_
    rintro e w' ⟨v, rfl, ho, hx⟩
    exact ⟨_, rfl, kdR_items ho, hx⟩
  · cases h
def jobs_Whole.f (l0 : List S39) : Option (List S39 × List S35) := if l0.length ≤ 1000000 then some ((wholeL (sortedL (its l0))).1.map ofIt, (wholeL (sortedL (its l0))).2.map ofJob) else none
theorem jobs_Whole.calls (A0 : Option Addr) (c0 : Nat) (l0 : List S39) (r1 : List S39) (r2 : List S35) (w : World) (hr0 : Kd.C k39 w A0 l0.length l0) (hc0 : l0.length ≤ c0) (h : jobs_Whole.f l0 = some (r1, r2)) :
    Calls Try.prog 11 #[.slice A0 l0.length c0] w fun e w' => ∃ v0_ v1_ : Value, e = .returned (.tuple #[v0_, v1_]) ∧ Kd.R k39 39 w' w.heap.size (fun _ => True) v0_ r1 ∧ Kd.R k35 35 w' w.heap.size (fun _ => True) v1_ r2 ∧ Below w.heap.size w w' := by
  unfold jobs_Whole.f at h
  split at h
  · rename_i hl
    cases h
    have := Whole_calls (its l0) A0 c0 w (rdi_of hr0) (by rw [its_length]; exact hl)
    rw [its_length] at this
    refine this.mono ?_
    rintro e w' ⟨v1, v2, rfl, h1, h2, hx⟩
    exact ⟨_, _, rfl, kdR_items h1, kdR_jobs h2, hx⟩
  · cases h
end Go.Proofs.Ytgchfibcaecjcaa.P
