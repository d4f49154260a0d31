/- The document's Ring and Order, as plain functions. -/
import Derived.Test.YthlobpdcolgcoaaPAhead
import Derived.Test.YthlobpdcolgcoaaPx6
namespace Go.Proofs.Ythlobpdcolgcoaa
open Go.RowKit Go.Proofs.Ythlobpdcolgcoaa.P Go.Proofs.YthlobpdcolgcoaaW.PrintWords
set_option linter.unusedVariables false
set_option linter.unusedSimpArgs false
def rfI (x : It) : S34 := ⟨x.u, x.t, x.m⟩
/-- Who is ahead of whom, by places. -/
def EE (af be : List (List Int)) (l : List It) (x y : Int) : Bool := ahd af be (l.getD x.toNat dIt) (l.getD y.toNat dIt)
def rowE (E : Int → Int → Bool) (n i : Nat) : List Bool := (List.range n).map fun (j : Nat) => E (i : Int) (j : Int)
def tabE (E : Int → Int → Bool) (n : Nat) : List (List Bool) := (List.range n).map fun (i : Nat) => rowE E n i
theorem rr_at {l : List It} {i : Nat} (h : i < l.length) : rd_T34 (l.map rfI) (i : Int) = rfI (l.getD i dIt) := by
  unfold rd_T34
  rw [Int.toNat_natCast, List.getD_eq_getElem?_getD, List.getD_eq_getElem?_getD, List.getElem?_map, List.getElem?_eq_getElem h]
  rfl
theorem rowE_length (E : Int → Int → Bool) (n i : Nat) : (rowE E n i).length = n := by simp [rowE]
theorem tabE_length (E : Int → Int → Bool) (n : Nat) : (tabE E n).length = n := by simp [tabE]
theorem rowE_at {E : Int → Int → Bool} {n i j : Nat} (hj : j < n) : rdOf false (rowE E n i) (j : Int) = E (i : Int) (j : Int) := by
  unfold rdOf rowE
  rw [Int.toNat_natCast, List.getD_eq_getElem?_getD, List.getElem?_map, List.getElem?_range hj]
  rfl
theorem tabE_at {E : Int → Int → Bool} {n i : Nat} (hi : i < n) : rd_L7 (tabE E n) (i : Int) = rowE E n i := by
  unfold rd_L7 tabE
  rw [Int.toNat_natCast, List.getD_eq_getElem?_getD, List.getElem?_map, List.getElem?_range hi]
  rfl
def partRow (E : Int → Int → Bool) (n i c : Nat) : List Bool := (List.range n).map fun (j : Nat) => if j < c then E (i : Int) (j : Int) else false
theorem partRow_zero (E : Int → Int → Bool) (n i : Nat) : partRow E n i 0 = List.replicate n false := by
  refine List.ext_getElem? fun j => ?_
  unfold partRow
  rw [List.getElem?_map, List.getElem?_replicate]
  by_cases hj : j < n
  · rw [List.getElem?_range hj, if_pos hj]; rfl
  · rw [List.getElem?_eq_none (by simpa using hj), if_neg hj]; rfl
theorem partRow_all (E : Int → Int → Bool) (n i : Nat) : partRow E n i n = rowE E n i := by
  unfold partRow rowE
  refine List.map_congr_left fun j hj => ?_
  rw [if_pos (by simpa using hj)]
theorem partRow_set (E : Int → Int → Bool) {n i c : Nat} (hc : c < n) : (partRow E n i c).set c (E (i : Int) (c : Int)) = partRow E n i (c + 1) := by
  refine List.ext_getElem? fun j => ?_
  have hl : (partRow E n i c).length = n := by simp [partRow]
  by_cases hj : j < n
  · by_cases hjc : c = j
    · subst hjc
      rw [List.getElem?_set_self (by omega)]
      unfold partRow
      rw [List.getElem?_map, List.getElem?_range hj]
      simp
    · rw [List.getElem?_set_ne hjc]
      unfold partRow
      rw [List.getElem?_map, List.getElem?_map, List.getElem?_range hj]
      simp only [Option.map_some]
      congr 1
      by_cases h1 : j < c
      · rw [if_pos h1, if_pos (by omega)]
      · rw [if_neg h1, if_neg (by omega)]
  · rw [List.getElem?_eq_none (by rw [List.length_set]; omega), List.getElem?_eq_none (by simp [partRow]; omega)]
theorem table_l1 {af be : List (List Int)} (h1 : Big af) (h2 : Big be) {l : List It} (hl : l.length ≤ 64) {i : Nat} (hi : i < l.length) {x5 : List (List Bool)} (hx5 : x5.length ≤ 64) {r : List (List Bool)}
    (hr : Ev (fun k => clepsydraref23_table.l0 k (l.map rfI) (x5 ++ [rowE (EE af be l) l.length i]) ((i + 1 : Nat) : Int) af be) r) :
    ∀ (m c : Nat), m = l.length - c → c ≤ l.length → Ev (fun k => clepsydraref23_table.l1 k (l.map rfI) x5 (i : Int) (partRow (EE af be l) l.length i c) (c : Int) af be) r := by
  intro m
  induction m with
  | zero =>
    intro c hm hc
    obtain rfl : c = l.length := by omega
    refine hr.next fun k => ?_
    rw [clepsydraref23_table.l1, if_neg (by simp), if_pos (by omega), wrap_lt hi (by omega), partRow_all]
  | succ m ih =>
    intro c hm hc
    have hcl : c < l.length := by omega
    have e := Ev.bind (ahead_f h1 h2 (l.getD i dIt).u (l.getD i dIt).t (l.getD c dIt).u (l.getD c dIt).t (l.getD i dIt).m (l.getD c dIt).m)
      (f := fun k t144 => clepsydraref23_table.l1 k (l.map rfI) x5 (i : Int) ((partRow (EE af be l) l.length i c).set c t144) ((c + 1 : Nat) : Int) af be) (r := r) (by
        have := ih (c + 1) (by omega) (by omega)
        rw [← partRow_set _ hcl] at this
        exact this)
    refine e.next fun k => ?_
    rw [clepsydraref23_table.l1, if_pos (by simpa using hcl), if_pos (by omega), if_pos (by simpa using hi), if_pos (by omega), rr_at hi, rr_at hcl, wrap_lt hcl (by omega)]
    congr 1
    funext t
    rw [if_pos (by simpa [partRow] using hcl), Int.toNat_natCast]
theorem table_l0 {af be : List (List Int)} (h1 : Big af) (h2 : Big be) {l : List It} (hl : l.length ≤ 64) :
    ∀ (m i : Nat), m = l.length - i → i ≤ l.length → Ev (fun k => clepsydraref23_table.l0 k (l.map rfI) ((List.range i).map fun (i : Nat) => rowE (EE af be l) l.length i) (i : Int) af be) (tabE (EE af be l) l.length) := by
  intro m
  induction m with
  | zero =>
    intro i hm hi
    obtain rfl : i = l.length := by omega
    refine (Ev.const _).next fun k => ?_
    rw [clepsydraref23_table.l0, if_neg (by simp)]
    rfl
  | succ m ih =>
    intro i hm hi
    have hil : i < l.length := by omega
    have h3 := ih (i + 1) (by omega) (by omega)
    rw [List.range_succ, List.map_append] at h3
    have h4 := table_l1 h1 h2 hl hil (x5 := (List.range i).map fun (i : Nat) => rowE (EE af be l) l.length i) (by simp; omega) h3 _ 0 rfl (Nat.zero_le _)
    rw [partRow_zero] at h4
    refine h4.next fun k => ?_
    rw [clepsydraref23_table.l0, if_pos (by simpa using hil), if_pos (by omega), if_pos (by simp; omega)]
    simp
theorem table_f {af be : List (List Int)} (h1 : Big af) (h2 : Big be) {l : List It} (hl : l.length ≤ 64) : Ev (fun k => clepsydraref23_table.f k af be (l.map rfI)) (tabE (EE af be l) l.length) := by
  have := table_l0 h1 h2 hl _ 0 rfl (Nat.zero_le _)
  refine this.congr fun k => ?_
  unfold clepsydraref23_table.f
  rfl

/-- The first of the tries. -/
def tryN (f : Int → List Int) : Nat → Nat → List Int
  | _, 0 => []
  | c, m + 1 => if f (c : Int) ≠ [] then f (c : Int) else tryN f (c + 1) m
theorem tryN_eq (f : Int → List Int) : ∀ (m c : Nat), tryK f ((List.range' c m).map Int.ofNat) = tryN f c m
  | 0, c => rfl
  | m + 1, c => by
    rw [List.range'_succ, List.map_cons, tryN]
    unfold tryK
    rw [List.find?_cons]
    by_cases h : f (c : Int) = []
    · rw [show decide (f (Int.ofNat c) ≠ []) = false from by simp [h], if_neg (by simp [h])]
      exact tryN_eq f m (c + 1)
    · rw [show decide (f (Int.ofNat c) ≠ []) = true from by simp [h], if_pos h]
      rfl
theorem tryN_skip (f : Int → List Int) : ∀ (d c m : Nat), (∀ k : Nat, c ≤ k → k < c + d → f (k : Int) = []) → tryN f c (d + m) = tryN f (c + d) m
  | 0, c, m, _ => by rw [Nat.zero_add, Nat.add_zero]
  | d + 1, c, m, h => by
    rw [show d + 1 + m = (d + m) + 1 by omega, tryN, if_neg (by simp [h c (Nat.le_refl _) (by omega)]), tryN_skip f d (c + 1) m (fun k h1 h2 => h k (by omega) (by omega))]
    congr 1
    omega
theorem way_last {way : List Int} {x : Int} (h : way[way.length - 1]? = some x) : 0 < way.length := by
  rcases Nat.eq_zero_or_pos way.length with h0 | h0
  · rw [List.eq_nil_of_length_eq_zero h0] at h; cases h
  · exact h0
/-- What a candidate gives. -/
def cand (E : Int → Int → Bool) (n : Nat) (home : Int) (s : Nat) (way : List Int) (x : Int) (k : Int) : List Int := if decide (home < k) && E x k && !way.contains k then goR E n home s (way ++ [k]) k else []
theorem goR_succ (E : Int → Int → Bool) {n home : Nat} (hh : home < n) (s : Nat) (way : List Int) (x : Int) : goR E n home (s + 1) way x = tryN (cand E n home s way x) (home + 1) (n - (home + 1)) := by
  rw [goR, List.range_eq_range', tryN_eq]
  have := tryN_skip (cand E n home s way x) (home + 1) 0 (n - (home + 1)) (fun k _ hk => by
    unfold cand
    rw [if_neg]
    have : ¬ (home : Int) < (k : Int) := by omega
    simp [this])
  rw [Nat.zero_add, show home + 1 + (n - (home + 1)) = n by omega] at this
  exact this
theorem goes_l1 {E : Int → Int → Bool} {n : Nat} (way : List Int) (hw : way.length ≤ 100) {home : Nat} {a3 : Int} {x c : Nat} (hx : x < n) (hc : c < n) {r : List Int}
    (h : Ev (fun k => if E x c = true then clepsydraref23_goes.j2 k (tabE E n) way home a3 home x c (!way.contains (c : Int)) else clepsydraref23_goes.j2 k (tabE E n) way home a3 home x c false) r) :
    ∀ (m i : Nat) (b : Bool), m = way.length - i → i ≤ way.length → (b || (way.drop i).contains (c : Int)) = way.contains (c : Int) → Ev (fun k => clepsydraref23_goes.l1 k (tabE E n) way home a3 home x c b i) r := by
  intro m
  induction m with
  | zero =>
    intro i b hm hi hb
    obtain rfl : i = way.length := by omega
    rw [List.drop_length, show ([] : List Int).contains (c : Int) = false from rfl, Bool.or_false] at hb
    subst hb
    refine h.next fun k => ?_
    rw [clepsydraref23_goes.l1, if_neg (by omega), if_pos (by omega), if_pos (by rw [tabE_length]; omega), if_pos (by omega), tabE_at hx, if_pos (by rw [rowE_length]; omega), rowE_at hc]
  | succ m ih =>
    intro i b hm hi hb
    have hil : i < way.length := by omega
    obtain ⟨y, hy⟩ : ∃ y, way[i]? = some y := ⟨_, List.getElem?_eq_getElem hil⟩
    have hd : way.drop i = y :: way.drop (i + 1) := by
      rw [List.drop_eq_getElem_cons hil]
      congr 1
      rw [List.getElem?_eq_getElem hil] at hy
      exact Option.some.inj hy
    rw [hd, List.contains_cons] at hb
    cases b
    · have e : ((y == (c : Int)) || (way.drop (i + 1)).contains (c : Int)) = way.contains (c : Int) := by
        rw [← hb, Bool.false_or]
        congr 1
        rw [Bool.eq_iff_iff, beq_iff_eq, beq_iff_eq]
        exact eq_comm
      refine (ih (i + 1) _ (by omega) (by omega) e).next fun k => ?_
      rw [clepsydraref23_goes.l1, if_pos (by omega), if_neg (by simp), if_pos (by omega), rd_at' hy, wrap_lt hil (by omega)]
    · have e : (true || (way.drop (i + 1)).contains (c : Int)) = way.contains (c : Int) := by rw [← hb]; simp
      refine (ih (i + 1) true (by omega) (by omega) e).next fun k => ?_
      rw [clepsydraref23_goes.l1, if_pos (by omega), if_pos rfl, wrap_lt hil (by omega)]
theorem goes_f {E : Int → Int → Bool} {n home : Nat} (hn : n ≤ 60) (hh : home < n) : ∀ (s : Nat) (way : List Int) (x : Nat), x < n → way[way.length - 1]? = some (x : Int) → way.length + s ≤ 100 →
    Ev (fun k => clepsydraref23_goes.f k (tabE E n) way (home : Int) ((s + 1 : Nat) : Int) (home : Int)) (goR E n home s way x)
  | 0, way, x, hx, hw, hb => by
    have hp := way_last hw
    have hwr : wrap64 ((way.length : Int) - 1) = ((way.length - 1 : Nat) : Int) := by rw [wrap64_in' _ (by omega)]; omega
    refine (Ev.const _).next fun k => ?_
    rw [clepsydraref23_goes.f, hwr, if_pos (by omega), if_pos (by omega), if_pos (by simp), rd_at' hw, if_pos (by omega), if_pos (by rw [tabE_length]; omega), if_pos (by omega), tabE_at hx, if_pos (by rw [rowE_length]; omega), rowE_at hh, goR]
    by_cases h : E x home = true
    · rw [if_pos h, if_pos h]
    · rw [if_neg h, if_neg h]
  | s + 1, way, x, hx, hw, hb => by
    have hp := way_last hw
    have hwr : wrap64 ((way.length : Int) - 1) = ((way.length - 1 : Nat) : Int) := by rw [wrap64_in' _ (by omega)]; omega
    have loop : ∀ (m c : Nat), m = n - c → c ≤ n → home < c → Ev (fun k => clepsydraref23_goes.l0 k (tabE E n) way (home : Int) ((s + 1 + 1 : Nat) : Int) (home : Int) (x : Int) (c : Int)) (tryN (cand E n home s way x) c m) := by
      intro m
      induction m with
      | zero =>
        intro c hm hc _
        obtain rfl : c = n := by omega
        refine (Ev.const _).next fun k => ?_
        rw [clepsydraref23_goes.l0, if_neg (by rw [tabE_length]; omega)]
        rfl
      | succ m ih =>
        intro c hm hc hhc
        have hcn : c < n := by omega
        have hnext := ih (c + 1) (by omega) (by omega) (by omega)
        have hhci : (home : Int) < (c : Int) := by omega
        -- behind the test
        have key : Ev (fun k => if E x c = true then clepsydraref23_goes.j2 k (tabE E n) way home ((s + 1 + 1 : Nat) : Int) home x c (!way.contains (c : Int)) else clepsydraref23_goes.j2 k (tabE E n) way home ((s + 1 + 1 : Nat) : Int) home x c false) (tryN (cand E n home s way x) c (m + 1)) := by
          have no : cand E n home s way x c = [] → Ev (fun k => clepsydraref23_goes.j2 k (tabE E n) way home ((s + 1 + 1 : Nat) : Int) home x c false) (tryN (cand E n home s way x) c (m + 1)) := fun hc0 => by
            rw [tryN, if_neg (by simp [hc0])]
            refine hnext.next fun k => ?_
            rw [clepsydraref23_goes.j2, if_neg (by simp), wrap_lt hcn (by omega)]
          by_cases hE : E x c = true
          · simp only [if_pos hE]
            by_cases hs : way.contains (c : Int) = true
            · rw [hs]
              exact no (by unfold cand; rw [if_neg]; simp only [hs]; simp)
            · have hs' : way.contains (c : Int) = false := by simpa using hs
              rw [hs']
              have hcand : cand E n home s way x c = goR E n home s (way ++ [(c : Int)]) c := by unfold cand; rw [if_pos (by rw [hs', hE, decide_eq_true hhci]; rfl)]
              have hrec := goes_f hn hh s (way ++ [(c : Int)]) c hcn (by simp) (by simp; omega) (E := E)
              have e : Ev (fun k => (clepsydraref23_goes.f k (tabE E n) (way ++ [(c : Int)]) home ((s + 1 : Nat) : Int) home).bind fun t161 => if (t161.length : Int) > 0 then some t161 else clepsydraref23_goes.l0 k (tabE E n) way home ((s + 1 + 1 : Nat) : Int) home x ((c + 1 : Nat) : Int)) (tryN (cand E n home s way x) c (m + 1)) := by
                refine Ev.bind hrec ?_
                rw [tryN, hcand]
                by_cases h0 : goR E n home s (way ++ [(c : Int)]) c = []
                · rw [if_neg (by simp [h0])]
                  simp only [h0]
                  exact hnext
                · rw [if_pos h0]
                  have : ((goR E n home s (way ++ [(c : Int)]) c).length : Int) > 0 := by have := List.length_pos_iff.2 h0; omega
                  simp only [if_pos this]
                  exact Ev.const _
              refine e.next fun k => ?_
              rw [clepsydraref23_goes.j2, if_pos (show (!false) = true from rfl), if_pos (by simp; omega), Option.bind_some, if_pos (by simp; omega), List.nil_append, wrap_lt hcn (by omega), show wrap64 (((s + 1 + 1 : Nat) : Int) - 1) = ((s + 1 : Nat) : Int) by rw [wrap64_in' _ (by omega)]; omega]
          · simp only [if_neg hE]
            exact no (by unfold cand; rw [if_neg]; simp [hE])
        refine (goes_l1 way (by omega) hx hcn key _ 0 false rfl (Nat.zero_le _) (by simp)).next fun k => ?_
        rw [clepsydraref23_goes.l0, if_pos (by rw [tabE_length]; omega)]
        rfl
    have h := loop _ (home + 1) rfl (by omega) (by omega)
    rw [goR_succ E hh]
    refine h.next fun k => ?_
    rw [clepsydraref23_goes.f, hwr, if_pos (by omega), if_pos (by omega), if_neg (by omega), rd_at' hw, wrap_lt hh (by omega)]
end Go.Proofs.Ythlobpdcolgcoaa
