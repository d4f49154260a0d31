/- JobsMore, as a plain law. -/
import Derived.Test.YtgchfibcaecjcaaPx10
import Derived.Test.YtgchfibcaecjcaaPLawW
import Derived.Test.YtgchfibcaecjcaaPMore
namespace Go.Proofs.Ytgchfibcaecjcaa
open Go.RowKit Go.Proofs.Ytgchfibcaecjcaa.P Go.Proofs.YtgchfibcaecjcaaW.PrintWords
set_option linter.unusedVariables false
set_option linter.unusedSimpArgs false
theorem others_l0 {l : List It} (u : Int) (hl : l.length < 1000000) : ∀ (n i : Nat) (acc : List S39), n = l.length - i → i ≤ l.length → acc.length ≤ i →
    Ev (fun k => clepsydralaw20_others.l0 k (l.map ofIt) u acc (i : Int)) (acc ++ ((l.drop i).filter fun y => decide (¬ y.u = u)).map ofIt) := by
  intro n
  induction n with
  | zero =>
    intro i acc hn hi ha
    have : i = l.length := by omega
    subst this
    refine (Ev.const _).next fun k => ?_
    rw [clepsydralaw20_others.l0, if_neg (by simp), List.drop_eq_nil_of_le (Nat.le_refl _)]
    simp
  | succ n ih =>
    intro i acc hn hi ha
    have hil : i < l.length := by omega
    obtain ⟨x, hx⟩ : ∃ x, l[i]? = some x := ⟨_, List.getElem?_eq_getElem hil⟩
    have hd : l.drop i = x :: l.drop (i + 1) := by
      rw [List.drop_eq_getElem_cons hil]
      congr 1
      rw [List.getElem?_eq_getElem hil] at hx
      exact Option.some.inj hx
    rw [hd, List.filter_cons]
    by_cases hu : x.u = u
    · rw [if_neg (by simp [hu])]
      refine (ih (i + 1) acc (by omega) (by omega) (by omega)).next fun k => ?_
      rw [clepsydralaw20_others.l0, if_pos (by simpa using hil), if_pos (by omega), ri_at hx]
      rw [if_pos (show (ofIt x).f0.f0 = u from hu), wrap_succ (by omega)]
    · rw [if_pos (by simp [hu])]
      have h1 := ih (i + 1) (acc ++ [ofIt x]) (by omega) (by omega) (by simp; omega)
      rw [List.append_assoc] at h1
      refine h1.next fun k => ?_
      rw [clepsydralaw20_others.l0, if_pos (by simpa using hil), if_pos (by omega), ri_at hx]
      rw [if_neg (show ¬ (ofIt x).f0.f0 = u from hu), if_pos (by omega), wrap_succ (by omega)]
theorem others_f (l : List It) (u : Int) (hl : l.length < 1000000) : Ev (fun k => clepsydralaw20_others.f k (l.map ofIt) u) ((l.filter fun y => decide (¬ y.u = u)).map ofIt) := by
  have := others_l0 u hl _ 0 [] rfl (Nat.zero_le _) (Nat.le_refl _)
  have h : Ev (fun k => clepsydralaw20_others.l0 k (l.map ofIt) u [] ((0 : Nat) : Int)) ((l.filter fun y => decide (¬ y.u = u)).map ofIt) := by simpa using this
  exact h.congr fun k => rfl
theorem badOf_cons (u : Int) (a : Int × Int) (l : List (Int × Int)) : badOf u (a :: l) = (if a.1 = u then 1 else 0) + badOf u l := by
  unfold badOf
  rw [List.filter_cons]
  by_cases h : a.1 = u <;> simp [h]
  omega
theorem units_split (u : Int) (l : List It) : (l.filter fun y => decide (y.u = u)).length + (l.filter fun y => decide (¬ y.u = u)).length = l.length := by
  induction l with
  | nil => rfl
  | cons a l ih =>
    by_cases h : a.u = u
    · simp [h] at ih ⊢; omega
    · simp [h] at ih ⊢; omega
theorem JobsMore_l1 {b b' : List (Int × Int)} (hb : b'.length < 1000000) (hb0 : b.length < 1000000) (x : It) (m : Nat) (hm : m ≤ b.length) (hge : m ≤ badOf x.u b') (heq : b'.length - badOf x.u b' = b.length - m) :
    ∀ (n i c : Nat), n = b'.length - i → i ≤ b'.length → c + badOf x.u (b'.drop i) = badOf x.u b' → Ev (fun k => clepsydralaw20_JobsMore.l1 k (b.map ofJob) (b'.map ofJob) (m : Int) (c : Int) (i : Int) x.u x.t x.m) true := by
  have hle : badOf x.u b' ≤ b'.length := List.length_filter_le _ _
  intro n
  induction n with
  | zero =>
    intro i c hn hi hc
    have : i = b'.length := by omega
    subst this
    rw [List.drop_eq_nil_of_le (Nat.le_refl _)] at hc
    have hc : c = badOf x.u b' := by simpa [badOf] using hc
    refine (Ev.bind works_ev (f := fun k t => some t) (Ev.const _)).next fun k => ?_
    rw [clepsydralaw20_JobsMore.l1, if_neg (by simp), if_pos (by omega)]
    simp only [List.length_map]
    rw [wrap64_in' _ (by omega), wrap64_in' _ (by omega)]
    have h1 : ((b'.length : Int) - (c : Int)) = (b.length : Int) - (m : Int) := by omega
    by_cases h0 : (m : Int) = 0
    · rw [if_pos h0, if_pos h1]
    · rw [if_neg h0, if_pos (by omega), if_pos h1]
  | succ n ih =>
    intro i c hn hi hc
    have hil : i < b'.length := by omega
    obtain ⟨y, hy⟩ : ∃ y, b'[i]? = some y := ⟨_, List.getElem?_eq_getElem hil⟩
    have hd : b'.drop i = y :: b'.drop (i + 1) := by
      rw [List.drop_eq_getElem_cons hil]
      congr 1
      rw [List.getElem?_eq_getElem hil] at hy
      exact Option.some.inj hy
    rw [hd, badOf_cons] at hc
    by_cases hu : y.1 = x.u
    · rw [if_pos hu] at hc
      refine (ih (i + 1) (c + 1) (by omega) (by omega) (by omega)).next fun k => ?_
      rw [clepsydralaw20_JobsMore.l1, if_pos (by simpa using hil), if_pos (by omega), rj_at hy]
      rw [if_pos (show (ofJob y).f0 = x.u from hu), wrap_succ (by omega), wrap_succ (by omega)]
    · rw [if_neg hu] at hc
      refine (ih (i + 1) c (by omega) (by omega) (by omega)).next fun k => ?_
      rw [clepsydralaw20_JobsMore.l1, if_pos (by simpa using hil), if_pos (by omega), rj_at hy]
      rw [if_neg (show ¬ (ofJob y).f0 = x.u from hu), wrap_succ (by omega)]
theorem JobsMore_l0 {b : List (Int × Int)} {x9 : List S35} (hb : b.length < 1000000) (x : It)
    (h : Ev (fun k => clepsydralaw20_JobsMore.l1 k (b.map ofJob) x9 ((badOf x.u b : Nat) : Int) 0 0 x.u x.t x.m) true) :
    ∀ (n i c : Nat), n = b.length - i → i ≤ b.length → c + badOf x.u (b.drop i) = badOf x.u b → Ev (fun k => clepsydralaw20_JobsMore.l0 k (b.map ofJob) x9 (c : Int) 0 (i : Int) x.u x.t x.m) true := by
  have hle : badOf x.u b ≤ b.length := List.length_filter_le _ _
  intro n
  induction n with
  | zero =>
    intro i c hn hi hc
    have : i = b.length := by omega
    subst this
    rw [List.drop_eq_nil_of_le (Nat.le_refl _)] at hc
    have hc : c = badOf x.u b := by simpa [badOf] using hc
    subst hc
    refine h.next fun k => ?_
    rw [clepsydralaw20_JobsMore.l0, if_neg (by simp)]
  | succ n ih =>
    intro i c hn hi hc
    have hil : i < b.length := by omega
    obtain ⟨y, hy⟩ : ∃ y, b[i]? = some y := ⟨_, List.getElem?_eq_getElem hil⟩
    have hd : b.drop i = y :: b.drop (i + 1) := by
      rw [List.drop_eq_getElem_cons hil]
      congr 1
      rw [List.getElem?_eq_getElem hil] at hy
      exact Option.some.inj hy
    rw [hd, badOf_cons] at hc
    by_cases hu : y.1 = x.u
    · rw [if_pos hu] at hc
      refine (ih (i + 1) (c + 1) (by omega) (by omega) (by omega)).next fun k => ?_
      rw [clepsydralaw20_JobsMore.l0, if_pos (by simpa using hil), if_pos (by omega), rj_at hy]
      rw [if_pos (show (ofJob y).f0 = x.u from hu), wrap_succ (by omega), wrap_succ (by omega)]
    · rw [if_neg hu] at hc
      refine (ih (i + 1) c (by omega) (by omega) (by omega)).next fun k => ?_
      rw [clepsydralaw20_JobsMore.l0, if_pos (by simpa using hil), if_pos (by omega), rj_at hy]
      rw [if_neg (show ¬ (ofJob y).f0 = x.u from hu), wrap_succ (by omega)]
theorem JobsMore_f (l : List It) (x : It) : Ev (fun k => clepsydralaw20_JobsMore.f k (l.map ofIt) x.u x.t x.m) true := by
  by_cases hl : l.length > 60
  · refine (Ev.bind works_ev (f := fun k t => some t) (Ev.const _)).congr fun k => ?_
    unfold clepsydralaw20_JobsMore.f
    rw [if_pos (by rw [List.length_map]; omega)]
  · have hl6 : l.length < 1000000 := by omega
    have hl6' : (l ++ [x]).length < 1000000 := by rw [List.length_append, List.length_singleton]; omega
    obtain ⟨m1, m2, m3⟩ := more_law l x
    obtain ⟨u1, _⟩ := whole_facts _ (sortedL l) (Nat.le_refl _) (sortedL_facts l).1
    obtain ⟨u2, _⟩ := whole_facts _ (sortedL (l ++ [x])) (Nat.le_refl _) (sortedL_facts (l ++ [x])).1
    have n1 := whole_len (sortedL l)
    have n2 := sortedL_len l
    have n3 := whole_len (sortedL (l ++ [x]))
    have n4 := sortedL_len (l ++ [x])
    have hw1 := whole_g l hl6
    have hw2 := whole_g (l ++ [x]) hl6'
    rw [List.length_append, List.length_singleton] at n4
    generalize wholeL (sortedL l) = q at *
    generalize wholeL (sortedL (l ++ [x])) = q' at *
    obtain ⟨a, b⟩ := q
    obtain ⟨a', b'⟩ := q'
    simp only at m1 m2 m3 u1 u2 n1 n3 hw1 hw2
    have o1 := units_one (u := x.u) u1
    have o2 := units_one (u := x.u) u2
    have p1 := units_split x.u a
    have p2 := units_split x.u a'
    have hbl : badOf x.u b ≤ b.length := List.length_filter_le _ _
    have hl1 := JobsMore_l1 (b := b) (b' := b') (by omega) (by omega) x (badOf x.u b) hbl m2 m3 _ 0 0 rfl (Nat.zero_le _) (by simp)
    have hl0 := JobsMore_l0 (b := b) (x9 := b'.map ofJob) (by omega) x hl1 _ 0 0 rfl (Nat.zero_le _) (by simp)
    have hj0 : Ev (fun k => clepsydralaw20_JobsMore.j0 k (b.map ofJob) (b'.map ofJob) false x.u x.t x.m) true := hl0.next fun k => by
      rw [clepsydralaw20_JobsMore.j0, if_neg (by simp)]
      rfl
    have f1 : (a.filter fun y => decide (¬ y.u = x.u)).length < 1000000 := by omega
    have e : Ev (fun k => ((clepsydralaw20_others.f k (a.map ofIt) x.u).bind fun t313 => ((clepsydralaw20_plain.f k t313).bind fun t316 => ((clepsydralaw20_others.f k (a'.map ofIt) x.u).bind fun t319 => ((clepsydralaw20_plain.f k t319).bind fun t322 => ((clepsydralaw20_same.f k t316 t322).bind fun t325 => (if t325 = true then ((clepsydralaw20_others.f k (a.map ofIt) x.u).bind fun t326 => (if (wrap64 (((a.map ofIt).length : Int) - (t326.length : Int))) > 1 then (clepsydralaw20_JobsMore.j0 k (b.map ofJob) (b'.map ofJob) true x.u x.t x.m) else ((clepsydralaw20_others.f k (a'.map ofIt) x.u).bind fun t329 => (clepsydralaw20_JobsMore.j0 k (b.map ofJob) (b'.map ofJob) (decide ((wrap64 (((a'.map ofIt).length : Int) - (t329.length : Int))) > 1)) x.u x.t x.m)))) else (clepsydralaw20_JobsMore.j0 k (b.map ofJob) (b'.map ofJob) true x.u x.t x.m)))))))) true := by
      refine Ev.bind (others_f a x.u (by omega)) ?_
      refine Ev.bind (plain_f _ f1) ?_
      refine Ev.bind (others_f a' x.u (by omega)) ?_
      rw [m1]
      refine Ev.bind (plain_f _ f1) ?_
      refine Ev.bind (same_f _ f1) ?_
      simp only [if_true]
      refine Ev.bind (others_f a x.u (by omega)) ?_
      simp only [List.length_map]
      have hneg : ¬ wrap64 ((a.length : Int) - ((a.filter fun y => decide (¬ y.u = x.u)).length : Int)) > 1 := by
        rw [wrap64_in' _ (by omega)]; omega
      simp only [if_neg hneg]
      refine Ev.bind (others_f a' x.u (by omega)) ?_
      simp only [List.length_map]
      have hdec : decide (wrap64 ((a'.length : Int) - ((a'.filter fun y => decide (¬ y.u = x.u)).length : Int)) > 1) = false := by
        rw [wrap64_in' _ (by omega), decide_eq_false_iff_not]
        omega
      rw [hdec]
      exact hj0
    refine e.congr fun k => ?_
    have hap : ([] : List S39) ++ l.map ofIt ++ [(⟨⟨x.u, x.t⟩, x.m⟩ : S39)] = (l ++ [x]).map ofIt := by simp [ofIt]
    unfold clepsydralaw20_JobsMore.f
    rw [if_neg (by rw [List.length_map]; omega), hw1]
    simp only [Option.bind_some]
    rw [if_pos (by simp; omega), if_pos (by simp; omega), hap, hw2]
    rfl
end Go.Proofs.Ytgchfibcaecjcaa
