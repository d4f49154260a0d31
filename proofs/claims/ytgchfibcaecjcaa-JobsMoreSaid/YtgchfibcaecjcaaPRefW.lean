/- The reference's Whole, as a plain function. -/
import Derived.Test.YtgchfibcaecjcaaPx7
import Derived.Test.YtgchfibcaecjcaaPRef
import Derived.Test.YtgchfibcaecjcaaPRefM
namespace Go.Proofs.Ytgchfibcaecjcaa
open Go.RowKit Go.Proofs.Ytgchfibcaecjcaa.P Go.Proofs.YtgchfibcaecjcaaW.PrintWords
set_option linter.unusedVariables false
set_option linter.unusedSimpArgs false
def glueR (x : It) (g : List It) (q : List It × List It) : List It × List It :=
  if (mrgs x.t x.m (knownB x.t) g).2.2 then (⟨x.u, (mrgs x.t x.m (knownB x.t) g).1, (mrgs x.t x.m (knownB x.t) g).2.1⟩ :: q.1, q.2) else (q.1, g ++ q.2)
def wholeRF : Nat → List It → List It × List It
  | 0, _ => ([], [])
  | k + 1, [] => ([], [])
  | k + 1, x :: r => glueR x (runOf x.u (x :: r)) (wholeRF k (afterOf x.u (x :: r)))
def wholeR (s : List It) : List It × List It := wholeRF s.length s
theorem wholeRF_le : ∀ (k : Nat) (s : List It), s.length ≤ k → wholeRF k s = wholeR s
  | 0, s, h => by rw [List.eq_nil_of_length_eq_zero (Nat.le_zero.1 h)]; rfl
  | k + 1, [], h => rfl
  | k + 1, x :: r, h => by
    have h1 := afterOf_lt x r
    unfold wholeR
    rw [List.length_cons, wholeRF, wholeRF]
    have h2 : r.length ≤ k := by simpa using h
    rw [wholeRF_le k _ (by omega)]
    rcases Nat.lt_or_ge r.length (k + 1) with h3 | h3
    · rw [wholeRF_le r.length _ h1]
    · omega
theorem wholeR_cons (x : It) (r : List It) : wholeR (x :: r) = glueR x (runOf x.u (x :: r)) (wholeR (afterOf x.u (x :: r))) := by
  rw [← wholeRF_le (r.length + 1) (x :: r) (Nat.le_refl _), wholeRF, wholeRF_le _ _ (afterOf_lt x r)]
theorem wholeF_R : ∀ (k : Nat) (s : List It), wholeF k s = ((wholeRF k s).1, (wholeRF k s).2.map jobOf)
  | 0, s => rfl
  | k + 1, [] => rfl
  | k + 1, x :: r => by
    rw [wholeF, wholeRF, wholeF_R k]
    unfold glue glueR
    split
    · rfl
    · simp
theorem wholeL_R (s : List It) : wholeL s = ((wholeR s).1, (wholeR s).2.map jobOf) := wholeF_R _ _
theorem whole_l2 {s : List It} (hs : s.length < 1000000) {ok : Bool} {e : Nat} {R : List S37 × List S37} (he : e ≤ s.length) (x5 : List S37) :
    ∀ (n i : Nat) (x6 : List S37), n = e - i → i ≤ e → x6.length ≤ i → Ev (fun k => clepsydraref20_Whole.l0 k (s.map rf) x5 (x6 ++ if ok then [] else ((s.drop i).take (e - i)).map rf) (e : Int)) R →
      Ev (fun k => clepsydraref20_Whole.l2 k (s.map rf) x5 x6 (i : Int) (e : Int) ok) R := by
  intro n
  induction n with
  | zero =>
    intro i x6 hn hi h6 h
    have : i = e := by omega
    subst this
    refine h.next fun k => ?_
    rw [clepsydraref20_Whole.l2, if_neg (by omega)]
    cases ok <;> simp
  | succ n ih =>
    intro i x6 hn hi h6 h
    have hie : i < e := by omega
    have hil : i < s.length := by omega
    obtain ⟨x, hx⟩ : ∃ x, s[i]? = some x := ⟨_, List.getElem?_eq_getElem hil⟩
    have c1 : (i : Int) < (e : Int) := by omega
    cases ok
    · have hd : (s.drop i).take (e - i) = x :: (s.drop (i + 1)).take (e - (i + 1)) := by
        rw [List.drop_eq_getElem_cons hil, show e - i = (e - (i + 1)) + 1 by omega, List.take_succ_cons]
        congr 1
        rw [List.getElem?_eq_getElem hil] at hx
        exact Option.some.inj hx
      refine (ih (i + 1) (x6 ++ [rf x]) (by omega) (by omega) (by simp; omega) (by simpa [hd] using h)).next fun k => ?_
      rw [clepsydraref20_Whole.l2, if_pos c1, if_neg (by simp), if_pos (by omega), if_pos (by simpa using hil), if_pos (by omega), rd_at hx, wrap_succ (by omega)]
    · refine (ih (i + 1) x6 (by omega) (by omega) (by omega) (by simpa using h)).next fun k => ?_
      rw [clepsydraref20_Whole.l2, if_pos c1, if_pos rfl, wrap_succ (by omega)]
theorem whole_l1 {s : List It} (hs : s.length < 1000000) {i : Nat} {x : It} (hx : s[i]? = some x) (x5 x6 : List S37) {R : List S37 × List S37} :
    ∀ (n j : Nat) (t : Int) (m ok : Bool), n = s.length - j → j ≤ s.length →
      Ev (fun k => clepsydraref20_Whole.j2 k (s.map rf) x5 x6 (i : Int) ((j + (runOf x.u (s.drop j)).length : Nat) : Int) (mrgs t m ok (runOf x.u (s.drop j))).2.2 x.u (mrgs t m ok (runOf x.u (s.drop j))).1 (mrgs t m ok (runOf x.u (s.drop j))).2.1) R →
      Ev (fun k => clepsydraref20_Whole.l1 k (s.map rf) x5 x6 (i : Int) (j : Int) ok x.u t m) R := by
  have hil := (List.getElem?_eq_some_iff.1 hx).1
  intro n
  induction n with
  | zero =>
    intro j t m ok hn hj h
    rw [List.drop_eq_nil_of_le (by omega)] at h
    refine h.next fun k => ?_
    rw [clepsydraref20_Whole.l1, if_neg (by simp; omega)]
    rfl
  | succ n ih =>
    intro j t m ok hn hj h
    have hjl : j < s.length := by omega
    obtain ⟨y, hy⟩ : ∃ y, s[j]? = some y := ⟨_, List.getElem?_eq_getElem hjl⟩
    have hd : s.drop j = y :: s.drop (j + 1) := by
      rw [List.drop_eq_getElem_cons hjl]
      congr 1
      rw [List.getElem?_eq_getElem hjl] at hy
      exact Option.some.inj hy
    have c1 : (j : Int) < ((s.map rf).length : Int) := by simpa using hjl
    have c2 : (i : Int) < ((s.map rf).length : Int) := by simpa using hil
    by_cases hu : y.u = x.u
    · have hr : runOf x.u (s.drop j) = y :: runOf x.u (s.drop (j + 1)) := by rw [hd]; unfold runOf; rw [List.takeWhile_cons_of_pos (by simp [hu])]
      rw [hr] at h
      simp only [mrgs, List.length_cons] at h
      have h2 := ih (j + 1) (mrg t y.t).1 (m || y.m) (ok && (mrg t y.t).2) (by omega) (by omega) (by rw [show j + 1 + (runOf x.u (s.drop (j + 1))).length = j + ((runOf x.u (s.drop (j + 1))).length + 1) by omega]; exact h)
      refine h2.next fun k => ?_
      rw [clepsydraref20_Whole.l1, if_pos c1, if_pos (by omega), if_pos (by omega), if_pos c2, rd_at hx, rd_at hy]
      simp only [rf, if_pos hu, refMerge_f, Option.bind_some, wrap_succ (show j ≤ 1000000000000000000 by omega)]
      cases ok <;> cases m <;> simp
    · have hr : runOf x.u (s.drop j) = [] := by rw [hd]; unfold runOf; rw [List.takeWhile_cons_of_neg (by simp [hu])]
      rw [hr] at h
      refine h.next fun k => ?_
      rw [clepsydraref20_Whole.l1, if_pos c1, if_pos (by omega), if_pos (by omega), if_pos c2, rd_at hx, rd_at hy]
      simp only [rf, mrgs, List.length_nil, Nat.add_zero]
      exact if_neg hu
theorem run_append (u : Int) (s : List It) : runOf u s ++ afterOf u s = s := List.takeWhile_append_dropWhile
theorem whole_l0 {s : List It} (hs : s.length < 1000000) : ∀ (n i : Nat) (x5 x6 : List S37), n = s.length - i → i ≤ s.length → x5.length ≤ i → x6.length ≤ i →
    Ev (fun k => clepsydraref20_Whole.l0 k (s.map rf) x5 x6 (i : Int)) (x5 ++ (wholeR (s.drop i)).1.map rf, x6 ++ (wholeR (s.drop i)).2.map rf) := by
  intro n
  induction n using Nat.strongRecOn with
  | _ n ih =>
    intro i x5 x6 hn hi h5 h6
    by_cases hil : i < s.length
    · obtain ⟨x, hx⟩ : ∃ x, s[i]? = some x := ⟨_, List.getElem?_eq_getElem hil⟩
      have hd : s.drop i = x :: s.drop (i + 1) := by
        rw [List.drop_eq_getElem_cons hil]
        congr 1
        rw [List.getElem?_eq_getElem hil] at hx
        exact Option.some.inj hx
      obtain ⟨e, hee⟩ : ∃ e, i + (runOf x.u (s.drop i)).length = e := ⟨_, rfl⟩
      have hrl : (runOf x.u (s.drop i)).length ≤ (s.drop i).length := (List.takeWhile_sublist _).length_le
      have hr1 : 1 ≤ (runOf x.u (s.drop i)).length := by rw [hd]; unfold runOf; rw [List.takeWhile_cons_of_pos (by simp)]; simp
      rw [List.length_drop] at hrl
      have hel : e ≤ s.length := by omega
      have happ := run_append x.u (s.drop i)
      have hafter : afterOf x.u (s.drop i) = s.drop e := by
        have := congrArg (List.drop (runOf x.u (s.drop i)).length) happ
        rw [List.drop_left, List.drop_drop] at this
        rw [this, ← hee]
      have htake : (s.drop i).take (e - i) = runOf x.u (s.drop i) := by
        have h1 := congrArg (List.take (runOf x.u (s.drop i)).length) happ
        rw [List.take_left] at h1
        rw [show e - i = (runOf x.u (s.drop i)).length by omega, ← h1]
      have hW : wholeR (s.drop i) = glueR x (runOf x.u (s.drop i)) (wholeR (s.drop e)) := by
        have := wholeR_cons x (s.drop (i + 1))
        rw [← hd, hafter] at this
        exact this
      have hj2 : Ev (fun k => clepsydraref20_Whole.j2 k (s.map rf) x5 x6 (i : Int) (e : Int) (mrgs x.t x.m (knownB x.t) (runOf x.u (s.drop i))).2.2 x.u (mrgs x.t x.m (knownB x.t) (runOf x.u (s.drop i))).1 (mrgs x.t x.m (knownB x.t) (runOf x.u (s.drop i))).2.1) (x5 ++ (wholeR (s.drop i)).1.map rf, x6 ++ (wholeR (s.drop i)).2.map rf) := by
        rw [hW]
        unfold glueR
        cases hok : (mrgs x.t x.m (knownB x.t) (runOf x.u (s.drop i))).2.2
        · have := ih (s.length - e) (by omega) e x5 (x6 ++ (runOf x.u (s.drop i)).map rf) rfl hel (by omega) (by rw [List.length_append, List.length_map]; omega)
          have h3 : Ev (fun k => clepsydraref20_Whole.j3 k (s.map rf) x5 x6 (i : Int) (e : Int) false) (x5 ++ (wholeR (s.drop e)).1.map rf, x6 ++ (runOf x.u (s.drop i) ++ (wholeR (s.drop e)).2).map rf) :=
            (whole_l2 (ok := false) hs hel x5 (e - i) i x6 rfl (by omega) h6 (by simpa [htake] using this)).next fun k => by rw [clepsydraref20_Whole.j3]
          exact h3.next fun k => by rw [clepsydraref20_Whole.j2, if_neg (by simp)]
        · have := ih (s.length - e) (by omega) e (x5 ++ [rf ⟨x.u, (mrgs x.t x.m (knownB x.t) (runOf x.u (s.drop i))).1, (mrgs x.t x.m (knownB x.t) (runOf x.u (s.drop i))).2.1⟩]) x6 rfl hel (by simp; omega) (by omega)
          have h3 : Ev (fun k => clepsydraref20_Whole.j3 k (s.map rf) (x5 ++ [rf ⟨x.u, (mrgs x.t x.m (knownB x.t) (runOf x.u (s.drop i))).1, (mrgs x.t x.m (knownB x.t) (runOf x.u (s.drop i))).2.1⟩]) x6 (i : Int) (e : Int) true) (x5 ++ (⟨x.u, (mrgs x.t x.m (knownB x.t) (runOf x.u (s.drop i))).1, (mrgs x.t x.m (knownB x.t) (runOf x.u (s.drop i))).2.1⟩ :: (wholeR (s.drop e)).1).map rf, x6 ++ (wholeR (s.drop e)).2.map rf) :=
            (whole_l2 (ok := true) hs hel _ (e - i) i x6 rfl (by omega) h6 (by simpa using this)).next fun k => by rw [clepsydraref20_Whole.j3]
          exact h3.next fun k => by
            rw [clepsydraref20_Whole.j2, if_pos rfl, if_pos (by omega)]
            rfl
      rw [← hee] at hj2
      refine (whole_l1 hs hx x5 x6 (s.length - i) i x.t x.m (knownB x.t) rfl hi hj2).next fun k => ?_
      rw [clepsydraref20_Whole.l0, if_pos (by simpa using hil), if_pos (by omega), rd_at hx]
      simp only [rf, refKnown_f, Option.bind_some]
    · have : i = s.length := by omega
      subst this
      refine (Ev.const _).next fun k => ?_
      rw [clepsydraref20_Whole.l0, if_neg (by simp), List.drop_eq_nil_of_le (Nat.le_refl _)]
      simp [wholeR, wholeRF]
theorem refWhole_f (l : List It) (hl : l.length < 1000000) : Ev (fun k => clepsydraref20_Whole.f k (l.map rf)) ((wholeR (sortedL l)).1.map rf, (wholeR (sortedL l)).2.map rf) := by
  have h1 := refSorted_f l hl
  have h2 := whole_l0 (s := sortedL l) (Nat.lt_of_le_of_lt (sortedL_len l) hl) _ 0 [] [] rfl (Nat.zero_le _) (Nat.le_refl _) (Nat.le_refl _)
  exact (Ev.bind h1 (f := fun k t => clepsydraref20_Whole.l0 k t [] [] 0) (by simpa using h2)).congr fun k => rfl
end Go.Proofs.Ytgchfibcaecjcaa
