/- JobsWhole, as a plain law. -/
import Derived.Test.YtgchfibcaecjcaaPx8
import Derived.Test.YtgchfibcaecjcaaPRefW
import Derived.Test.YtgchfibcaecjcaaPSame
namespace Go.Proofs.Ytgchfibcaecjcaa
open Go.RowKit Go.Proofs.Ytgchfibcaecjcaa.P Go.Proofs.YtgchfibcaecjcaaW.PrintWords
set_option linter.unusedVariables false
set_option linter.unusedSimpArgs false
theorem its_of (l : List It) : its (l.map ofIt) = l := by
  unfold its
  rw [List.map_map]
  exact List.map_id _
theorem of_its (l : List S39) : (its l).map ofIt = l := by
  unfold its
  rw [List.map_map]
  exact List.map_id _
theorem ri_at {l : List It} {i : Nat} {x : It} (h : l[i]? = some x) : rd_T39 (l.map ofIt) (i : Int) = ofIt x := by
  unfold rd_T39
  rw [Int.toNat_natCast, List.getD_eq_getElem?_getD, List.getElem?_map, h]
  rfl
theorem rj_at {l : List (Int × Int)} {i : Nat} {x : Int × Int} (h : l[i]? = some x) : rd_T35 (l.map ofJob) (i : Int) = ofJob x := by
  unfold rd_T35
  rw [Int.toNat_natCast, List.getD_eq_getElem?_getD, List.getElem?_map, h]
  rfl
theorem plain_l0 {l : List It} (hl : l.length < 1000000) : ∀ (n i : Nat) (acc : List S37), n = l.length - i → i ≤ l.length → acc.length ≤ i →
    Ev (fun k => clepsydralaw20_plain.l0 k (l.map ofIt) acc (i : Int)) (acc ++ (l.drop i).map rf) := by
  intro n
  induction n with
  | zero =>
    intro i acc hn hi ha
    have : i = l.length := by omega
    subst this
    refine (Ev.const _).next fun k => ?_
    rw [clepsydralaw20_plain.l0, if_neg (by simp), List.drop_eq_nil_of_le (Nat.le_refl _)]
    simp
  | succ n ih =>
    intro i acc hn hi ha
    have hil : i < l.length := by omega
    obtain ⟨x, hx⟩ : ∃ x, l[i]? = some x := ⟨_, List.getElem?_eq_getElem hil⟩
    have hd : l.drop i = x :: l.drop (i + 1) := by
      rw [List.drop_eq_getElem_cons hil]
      congr 1
      rw [List.getElem?_eq_getElem hil] at hx
      exact Option.some.inj hx
    have h1 := ih (i + 1) (acc ++ [rf x]) (by omega) (by omega) (by simp; omega)
    rw [List.append_assoc] at h1
    rw [hd]
    refine h1.next fun k => ?_
    rw [clepsydralaw20_plain.l0, if_pos (by simpa using hil), if_pos (by omega), if_pos (by omega), ri_at hx, wrap_succ (by omega)]
    rfl
theorem plain_f (l : List It) (hl : l.length < 1000000) : Ev (fun k => clepsydralaw20_plain.f k (l.map ofIt)) (l.map rf) := by
  have := plain_l0 hl _ 0 [] rfl (Nat.zero_le _) (Nat.le_refl _)
  have h : Ev (fun k => clepsydralaw20_plain.l0 k (l.map ofIt) [] ((0 : Nat) : Int)) (l.map rf) := by simpa using this
  exact h.congr fun k => rfl
theorem same_l0 {l : List It} (hl : l.length < 1000000) : ∀ (n i : Nat), n = l.length - i → i ≤ l.length → Ev (fun k => clepsydralaw20_same.l0 k (l.map rf) (l.map rf) (i : Int)) true := by
  intro n
  induction n with
  | zero =>
    intro i hn hi
    have : i = l.length := by omega
    subst this
    refine (Ev.const _).next fun k => ?_
    rw [clepsydralaw20_same.l0, if_neg (by simp)]
  | succ n ih =>
    intro i hn hi
    have hil : i < l.length := by omega
    refine (ih (i + 1) (by omega) (by omega)).next fun k => ?_
    rw [clepsydralaw20_same.l0, if_pos (by simpa using hil), if_pos (by omega), if_pos (by simpa using hil), wrap_succ (by omega), if_neg (by simp)]
theorem same_f (l : List It) (hl : l.length < 1000000) : Ev (fun k => clepsydralaw20_same.f k (l.map rf) (l.map rf)) true :=
  (same_l0 hl _ 0 rfl (Nat.zero_le _)).congr fun k => by unfold clepsydralaw20_same.f; rw [if_pos rfl]; rfl
theorem sorted_g (l : List It) (hl : l.length < 1000000) : jobs_Sorted.f (l.map ofIt) = some ((sortedL l).map ofIt) := by
  unfold jobs_Sorted.f
  rw [if_pos (by rw [List.length_map]; omega), its_of]
theorem whole_g (l : List It) (hl : l.length < 1000000) : jobs_Whole.f (l.map ofIt) = some ((wholeL (sortedL l)).1.map ofIt, (wholeL (sortedL l)).2.map ofJob) := by
  unfold jobs_Whole.f
  rw [if_pos (by rw [List.length_map]; omega), its_of]
theorem works_ev : Ev (fun k => clepsydralaw20_works.f k) true := ⟨1, fun k hk => works_f (by omega)⟩
/-- The places of the turned row. -/
def turnAt (n t j : Nat) : Nat := (n - 1 - j + t) % n
theorem turn_turn {n t i : Nat} (hi : i < n) : turnAt n t (turnAt n t i) = i ∧ turnAt n t i < n := by
  unfold turnAt
  have hn : 0 < n := by omega
  have h1 := Nat.div_add_mod (n - 1 - i + t) n
  have h2 := Nat.mod_lt (n - 1 - i + t) hn
  generalize (n - 1 - i + t) % n = q at *
  generalize (n - 1 - i + t) / n = d at *
  refine ⟨?_, h2⟩
  have h3 : n - 1 - q + t = i + n * d := by omega
  rw [h3, Nat.add_mul_mod_self_left, Nat.mod_eq_of_lt hi]
def turned (l : List It) (t : Nat) : List It := (List.range l.length).map fun j => l.getD (turnAt l.length t j) ⟨0, 0, false⟩
theorem turned_mem (l : List It) (t : Nat) (x : It) : x ∈ turned l t ↔ x ∈ l := by
  unfold turned
  rw [List.mem_map]
  constructor
  · rintro ⟨j, hj, rfl⟩
    have hj := List.mem_range.1 hj
    have hlt := (turn_turn (t := t) hj).2
    rw [List.getD_eq_getElem?_getD, List.getElem?_eq_getElem hlt]
    exact List.getElem_mem hlt
  · intro hx
    obtain ⟨i, hi⟩ := List.getElem?_of_mem hx
    have hil := (List.getElem?_eq_some_iff.1 hi).1
    obtain ⟨h1, h2⟩ := turn_turn (t := t) hil
    refine ⟨turnAt l.length t i, List.mem_range.2 h2, ?_⟩
    rw [h1, List.getD_eq_getElem?_getD, hi]
    rfl
theorem turn_int {n t i : Nat} (hi : i < n) (hn : n ≤ 60) (ht : t ≤ 255) : Int.tmod (wrap64 ((wrap64 ((wrap64 ((n : Int) - 1)) - (i : Int))) + (wrap64 (t : Int)))) (n : Int) = ((turnAt n t i : Nat) : Int) := by
  have e1 : wrap64 ((n : Int) - 1) = (n : Int) - 1 := wrap64_in' _ (by omega)
  have e2 : wrap64 ((n : Int) - 1 - (i : Int)) = (n : Int) - 1 - (i : Int) := wrap64_in' _ (by omega)
  have e3 : wrap64 (t : Int) = (t : Int) := wrap64_in' _ (by omega)
  have e4 : wrap64 ((n : Int) - 1 - (i : Int) + (t : Int)) = (n : Int) - 1 - (i : Int) + (t : Int) := wrap64_in' _ (by omega)
  rw [e1, e2, e3, e4, show (n : Int) - 1 - (i : Int) + (t : Int) = ((n - 1 - i + t : Nat) : Int) by omega]
  unfold turnAt
  rw [Int.ofNat_tmod]
theorem JobsWhole_l1 {l : List It} (hl : l.length ≤ 60) {t : Nat} (ht : t ≤ 255) (x8 : List S35) (h8 : x8.length = (wholeL (sortedL l)).2.length) :
    ∀ (n i : Nat), n = l.length - i → i ≤ l.length →
      Ev (fun k => clepsydralaw20_JobsWhole.l1 k (l.map ofIt) (t : Int) ((wholeL (sortedL l)).1.map ofIt) x8 ((wholeL (sortedL l)).1.map rf) (((turned l t).take i).map ofIt) (i : Int)) true := by
  have htl : (turned l t).length = l.length := by unfold turned; simp
  intro n
  induction n with
  | zero =>
    intro i hn hi
    have : i = l.length := by omega
    subst this
    rw [List.take_of_length_le (by omega)]
    have hs : sortedL (turned l t) = sortedL l := sortedL_mem (turned_mem l t)
    have hal : (wholeL (sortedL l)).1.length < 1000000 := by
      have h1 := whole_len (sortedL l)
      have h2 := sortedL_len l
      omega
    have hw1 := whole_g (turned l t) (by omega)
    have hw2 := whole_g (wholeL (sortedL l)).1 hal
    rw [hs] at hw1
    rw [whole_again] at hw2
    have e : Ev (fun k => (some ((wholeL (sortedL l)).1.map ofIt, (wholeL (sortedL l)).2.map ofJob)).bind fun bt250 => ((some ((wholeL (sortedL l)).1.map ofIt, (([] : List (Int × Int))).map ofJob)).bind fun bt256 => ((clepsydralaw20_plain.f k bt250.1).bind fun t262 => ((clepsydralaw20_same.f k t262 ((wholeL (sortedL l)).1.map rf)).bind fun t265 => (if t265 = true then (if (bt250.2.length : Int) = (x8.length : Int) then ((clepsydralaw20_plain.f k bt256.1).bind fun t266 => ((clepsydralaw20_same.f k t266 ((wholeL (sortedL l)).1.map rf)).bind fun t269 => (if t269 = true then (if (bt256.2.length : Int) = 0 then ((clepsydralaw20_works.f k).bind fun t270 => (some t270)) else (some false)) else (some false)))) else (some false)) else (some false)))))) true := by
      simp only [Option.bind_some]
      refine Ev.bind (plain_f _ hal) ?_
      refine Ev.bind (same_f _ hal) ?_
      rw [List.length_map, h8]
      simp only [if_true]
      refine Ev.bind (plain_f _ hal) ?_
      refine Ev.bind (same_f _ hal) ?_
      simp only [if_true, List.map_nil, List.length_nil]
      exact Ev.bind works_ev (Ev.const _)
    refine e.next fun k => ?_
    rw [clepsydralaw20_JobsWhole.l1, if_neg (by simp), hw1, hw2]
  | succ n ih =>
    intro i hn hi
    have hil : i < l.length := by omega
    have hT := turn_int hil hl ht
    obtain ⟨_, hlt⟩ := turn_turn (t := t) hil
    obtain ⟨x, hx⟩ : ∃ x, l[turnAt l.length t i]? = some x := ⟨_, List.getElem?_eq_getElem hlt⟩
    have htk : ((turned l t).take (i + 1)).map ofIt = ((turned l t).take i).map ofIt ++ [ofIt x] := by
      rw [List.take_succ_eq_append_getElem (by omega), List.map_append]
      congr 1
      unfold turned
      simp [hx]
    have h1 := ih (i + 1) (by omega) (by omega)
    rw [htk] at h1
    refine h1.next fun k => ?_
    have c1 : ((turned l t).take i).map ofIt = ((turned l t).take i).map ofIt := rfl
    have c2 : (((turned l t).take i).map ofIt).length ≤ 60 := by rw [List.length_map, List.length_take]; omega
    rw [clepsydralaw20_JobsWhole.l1]
    simp only [List.length_map]
    rw [if_pos (by omega), if_neg (by omega), hT, if_pos (by omega), if_pos (by omega), if_pos (by rw [List.length_take]; omega), ri_at hx, wrap_succ (by omega)]
    try rfl
theorem JobsWhole_l0 {x0 x7 : List S39} {x1 : Int} {x9 : List S37} {b : List It} (hb : b.length < 1000000)
    (h : Ev (fun k => clepsydralaw20_JobsWhole.l1 k x0 x1 x7 ((b.map jobOf).map ofJob) x9 [] 0) true) :
    ∀ (n i : Nat), n = b.length - i → i ≤ b.length → Ev (fun k => clepsydralaw20_JobsWhole.l0 k x0 x1 x7 ((b.map jobOf).map ofJob) x9 (b.map rf) (i : Int)) true := by
  intro n
  induction n with
  | zero =>
    intro i hn hi
    have : i = b.length := by omega
    subst this
    refine h.next fun k => ?_
    rw [clepsydralaw20_JobsWhole.l0, if_neg (by simp)]
  | succ n ih =>
    intro i hn hi
    have hil : i < b.length := by omega
    obtain ⟨x, hx⟩ : ∃ x, b[i]? = some x := ⟨_, List.getElem?_eq_getElem hil⟩
    have hj : (b.map jobOf)[i]? = some (jobOf x) := by rw [List.getElem?_map, hx]; rfl
    refine (ih (i + 1) (by omega) (by omega)).next fun k => ?_
    rw [clepsydralaw20_JobsWhole.l0, if_pos (by simpa using hil), if_pos (by omega), if_pos (by simpa using hil), rj_at hj, rd_at hx, wrap_succ (by omega)]
    simp [ofJob, jobOf, rf]
theorem JobsWhole_f (l : List It) (t : Nat) (ht : t ≤ 255) : Ev (fun k => clepsydralaw20_JobsWhole.f k (l.map ofIt) (t : Int)) true := by
  by_cases hl : l.length > 60
  · refine (Ev.bind works_ev (f := fun k t => some t) (Ev.const _)).congr fun k => ?_
    unfold clepsydralaw20_JobsWhole.f
    rw [if_pos (by rw [List.length_map]; omega)]
  · have hl60 : l.length ≤ 60 := by omega
    have hl6 : l.length < 1000000 := by omega
    have hsl : (sortedL l).length < 1000000 := Nat.lt_of_le_of_lt (sortedL_len l) hl6
    have hal : (wholeL (sortedL l)).1.length < 1000000 := Nat.lt_of_le_of_lt (Nat.le_trans (by have := whole_len (sortedL l); omega) (sortedL_len l)) hl6
    have hR : wholeR (sortedL l) = ((wholeL (sortedL l)).1, (wholeR (sortedL l)).2) := by rw [wholeL_R]
    have hbad : (wholeL (sortedL l)).2 = (wholeR (sortedL l)).2.map jobOf := by rw [wholeL_R]
    have hbl : (wholeR (sortedL l)).2.length < 1000000 := by
      have h1 := whole_len (sortedL l)
      rw [hbad, List.length_map] at h1
      omega
    have hl1 := JobsWhole_l1 hl60 ht ((wholeL (sortedL l)).2.map ofJob) (by rw [List.length_map]) _ 0 rfl (Nat.zero_le _)
    have hl0 := JobsWhole_l0 (x0 := l.map ofIt) (x1 := (t : Int)) (x7 := (wholeL (sortedL l)).1.map ofIt) (x9 := (wholeL (sortedL l)).1.map rf) hbl (by rw [← hbad]; exact hl1) _ 0 rfl (Nat.zero_le _)
    rw [← hbad] at hl0
    have hj0 : Ev (fun k => clepsydralaw20_JobsWhole.j0 k (l.map ofIt) (t : Int) ((wholeL (sortedL l)).1.map ofIt) ((wholeL (sortedL l)).2.map ofJob) ((wholeL (sortedL l)).1.map rf) ((wholeR (sortedL l)).2.map rf) false) true := hl0.next fun k => by
      rw [clepsydralaw20_JobsWhole.j0, if_neg (by simp)]
      rfl
    have hw := refWhole_f l hl6
    rw [hR] at hw
    have e : Ev (fun k => (clepsydralaw20_plain.f k (l.map ofIt)).bind fun t209 => ((some ((sortedL l).map ofIt)).bind fun t212 => ((some ((wholeL (sortedL l)).1.map ofIt, (wholeL (sortedL l)).2.map ofJob)).bind fun bt215 => ((clepsydraref20_Whole.f k t209).bind fun bt221 => ((clepsydralaw20_plain.f k t212).bind fun t227 => ((clepsydraref20_Sorted.f k t209).bind fun t230 => ((clepsydralaw20_same.f k t227 t230).bind fun t233 => (if t233 = true then ((clepsydralaw20_plain.f k bt215.1).bind fun t234 => ((clepsydralaw20_same.f k t234 bt221.1).bind fun t237 => (if t237 = true then (if (bt215.2.length : Int) = (bt221.2.length : Int) then ((clepsydralaw20_plain.f k (l.map ofIt)).bind fun t238 => ((clepsydralaw20_same.f k t238 t209).bind fun t241 => (clepsydralaw20_JobsWhole.j0 k (l.map ofIt) (t : Int) bt215.1 bt215.2 bt221.1 bt221.2 (!t241)))) else (clepsydralaw20_JobsWhole.j0 k (l.map ofIt) (t : Int) bt215.1 bt215.2 bt221.1 bt221.2 true)) else (clepsydralaw20_JobsWhole.j0 k (l.map ofIt) (t : Int) bt215.1 bt215.2 bt221.1 bt221.2 true)))) else (clepsydralaw20_JobsWhole.j0 k (l.map ofIt) (t : Int) bt215.1 bt215.2 bt221.1 bt221.2 true))))))))) true := by
      refine Ev.bind (plain_f l hl6) ?_
      simp only [Option.bind_some]
      refine Ev.bind hw ?_
      refine Ev.bind (plain_f _ hsl) ?_
      refine Ev.bind (refSorted_f l hl6) ?_
      refine Ev.bind (same_f _ hsl) ?_
      simp only [if_true]
      refine Ev.bind (plain_f _ hal) ?_
      refine Ev.bind (same_f _ hal) ?_
      simp only [if_true]
      have hlen : ((((wholeL (sortedL l)).2.map ofJob).length : Nat) : Int) = ((((wholeR (sortedL l)).2.map rf).length : Nat) : Int) := by rw [hbad]; simp
      simp only [if_pos hlen]
      refine Ev.bind (plain_f l hl6) ?_
      refine Ev.bind (same_f l hl6) ?_
      exact hj0
    refine e.congr fun k => ?_
    unfold clepsydralaw20_JobsWhole.f
    rw [if_neg (by rw [List.length_map]; omega), sorted_g l hl6, whole_g l hl6]
end Go.Proofs.Ytgchfibcaecjcaa
