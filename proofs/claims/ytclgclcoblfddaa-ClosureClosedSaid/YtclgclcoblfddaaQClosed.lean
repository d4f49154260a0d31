/- Chapter 21: the document's Closed, as a plain function; ClosureClosed. -/
import Derived.Test.YtclgclcoblfddaaPx16
import Derived.Test.YtclgclcoblfddaaQHas
namespace Go.Proofs.Ytclgclcoblfddaa
open Go.RowKit Go.Proofs.Ytclgclcoblfddaa.P Go.Proofs.YtclgclcoblfddaaW.PrintWords
set_option linter.unusedVariables false
set_option linter.unusedSimpArgs false
theorem items_l0 {l : List It} (hl : l.length ≤ 1000000) : ∀ (n i : Nat), n = l.length - i → i ≤ l.length →
    Ev (fun k => clepsydralaw21_items.l0 k (l.map ofIt) ((l.take i).map rf) (i : Int)) (l.map rf) := by
  intro n
  induction n with
  | zero =>
    intro i hn hi
    have : i = l.length := by omega
    subst this
    refine (Ev.const _).next fun k => ?_
    rw [clepsydralaw21_items.l0, if_neg (by simp), List.take_of_length_le (Nat.le_refl _)]
  | succ n ih =>
    intro i hn hi
    have hil : i < l.length := by omega
    obtain ⟨x, hx⟩ := get_lt hil
    have h1 := ih (i + 1) (by omega) (by omega)
    rw [take_at hx, List.map_append] at h1
    refine h1.next fun k => ?_
    rw [clepsydralaw21_items.l0, if_pos (by simpa using hil), if_pos (by omega), if_pos (by rw [List.length_map, List.length_take]; omega), ri_at hx, wrap_succ (by omega)]
    rfl
theorem items_f {l : List It} (hl : l.length ≤ 1000000) : Ev (fun k => clepsydralaw21_items.f k (l.map ofIt)) (l.map rf) :=
  (items_l0 hl _ 0 rfl (Nat.zero_le _)).congr fun k => rfl
theorem closed_l2 {g : GL} {on : List Bool} {l ps : List It} (hl : l.length ≤ 10000) {i j : Nat} {x p : It} (hx : l[i]? = some x) (hp : ps[j]? = some p) (hm : p.m = true) {r : Bool}
    (hj : j ≤ 10000) (next : okPull l x p = true → Ev (fun k => clepsydraref21_Closed.l1 k on (l.map rf) (i : Int) (ps.map rf) ((j + 1 : Nat) : Int) g.req g.wants g.binds g.conf g.reqBy g.bound g.parts) r) (stop : okPull l x p = false → r = false) :
    ∀ (n q : Nat), n = l.length - q → q ≤ l.length →
      Ev (fun k => clepsydraref21_Closed.l2 k on (l.map rf) (i : Int) (ps.map rf) (j : Int) (decide (jobOf p ∈ (l.take q).map jobOf)) (mustOf (l.take q) (jobOf p)) (q : Int) g.req g.wants g.binds g.conf g.reqBy g.bound g.parts) r := by
  have hil := (List.getElem?_eq_some_iff.1 hx).1
  have hjl := (List.getElem?_eq_some_iff.1 hp).1
  intro n
  induction n with
  | zero =>
    intro q hn hq
    have : q = l.length := by omega
    subst this
    rw [List.take_of_length_le (Nat.le_refl _)]
    have c1 : ¬ ((l.length : Nat) : Int) < ((l.map rf).length : Int) := by simp
    have c2 : (0 : Int) ≤ (i : Nat) := by omega
    have c3 : (i : Int) < ((l.map rf).length : Int) := by simpa using hil
    have hk : okPull l x p = (decide (jobOf p ∈ l.map jobOf) && (!x.m || mustOf l (jobOf p))) := by unfold okPull; rw [hm]; rfl
    cases ho : okPull l x p
    · rw [stop ho]
      rw [ho] at hk
      refine (Ev.const _).next fun k => ?_
      rw [clepsydraref21_Closed.l2, if_neg c1]
      cases h1 : decide (jobOf p ∈ l.map jobOf)
      · rw [if_neg (by simp)]
      · rw [h1, Bool.true_and] at hk
        have hk2 := Bool.or_eq_false_iff.1 hk.symm
        rw [if_pos rfl, if_pos c2, if_pos c3, rd_at hx, if_pos (show (rf x).f2 = true by simpa [rf] using hk2.1), if_neg (by rw [hk2.2]; simp)]
    · have h9 := next ho
      rw [ho] at hk
      have hk1 := Bool.and_eq_true_iff.1 hk.symm
      refine h9.next fun k => ?_
      rw [clepsydraref21_Closed.l2, if_neg c1, if_pos hk1.1, if_pos c2, if_pos c3, rd_at hx, wrap_succ (by omega)]
      cases hxm : x.m
      · rw [if_neg (show ¬ (rf x).f2 = true by simp [rf, hxm])]
      · rw [if_pos (show (rf x).f2 = true by simp [rf, hxm])]
        have := hk1.2
        rw [hxm] at this
        rw [if_pos (by simpa using this)]
  | succ n ih =>
    intro q hn hq
    have hql : q < l.length := by omega
    obtain ⟨y, hy⟩ := get_lt hql
    have h1 := ih (q + 1) (by omega) (by omega)
    rw [take_at hy, List.map_append, mustOf_snoc] at h1
    have c1 : (q : Int) < ((l.map rf).length : Int) := by simpa using hql
    have c2 : (0 : Int) ≤ (q : Nat) := by omega
    have c3 : (0 : Int) ≤ (j : Nat) := by omega
    have c4 : (j : Int) < ((ps.map rf).length : Int) := by simpa using hjl
    refine h1.next fun k => ?_
    rw [clepsydraref21_Closed.l2, if_pos c1, if_pos c2, if_pos c3, if_pos c4, rd_at hy, rd_at hp, wrap_succ (by omega)]
    by_cases hj : jobOf y = jobOf p
    · have e1 : (rf y).f0 = (rf p).f0 := congrArg Prod.fst hj
      have e2 : (rf y).f1 = (rf p).f1 := congrArg Prod.snd hj
      rw [if_pos e1, if_pos e2]
      have e3 : decide (jobOf p ∈ (l.take q).map jobOf ++ [y].map jobOf) = true := by rw [← hj]; simp
      rw [e3, hj]
      simp only [decide_true, Bool.true_and]
      cases hmo : mustOf (l.take q) (jobOf p)
      · rw [if_neg (by simp)]; rfl
      · rw [if_pos rfl]; rfl
    · have e3 : decide (jobOf p ∈ (l.take q).map jobOf ++ [y].map jobOf) = decide (jobOf p ∈ (l.take q).map jobOf) := decide_eq_decide.2 ⟨fun h => by
        rcases List.mem_append.1 h with h | h
        · exact h
        · exact absurd (List.mem_singleton.1 h).symm hj, fun h => List.mem_append_left _ h⟩
      rw [e3, decide_eq_false hj, Bool.false_and, Bool.or_false]
      by_cases e1 : (rf y).f0 = (rf p).f0
      · rw [if_pos e1, if_neg (show ¬ (rf y).f1 = (rf p).f1 from fun e2 => hj (Prod.ext e1 e2))]
      · rw [if_neg e1]
theorem closed_l1 {g : GL} {on : List Bool} {l ps : List It} (hl : l.length ≤ 10000) (hps : ps.length ≤ 10000) {i : Nat} {x : It} (hx : l[i]? = some x) {r : Bool}
    (hr : Ev (fun k => clepsydraref21_Closed.l0 k on (l.map rf) ((i + 1 : Nat) : Int) g.req g.wants g.binds g.conf g.reqBy g.bound g.parts) r) :
    ∀ (n j : Nat), n = ps.length - j → j ≤ ps.length →
      Ev (fun k => clepsydraref21_Closed.l1 k on (l.map rf) (i : Int) (ps.map rf) (j : Int) g.req g.wants g.binds g.conf g.reqBy g.bound g.parts) ((ps.drop j).all (okPull l x) && r) := by
  have hil := (List.getElem?_eq_some_iff.1 hx).1
  intro n
  induction n with
  | zero =>
    intro j hn hj
    have : j = ps.length := by omega
    subst this
    rw [List.drop_eq_nil_of_le (Nat.le_refl _), List.all_nil, Bool.true_and]
    refine hr.next fun k => ?_
    rw [clepsydraref21_Closed.l1, if_neg (by simp), wrap_succ (by omega)]
  | succ n ih =>
    intro j hn hj
    have hjl : j < ps.length := by omega
    obtain ⟨p, hp⟩ := get_lt hjl
    have h1 := ih (j + 1) (by omega) (by omega)
    rw [drop_at hp, List.all_cons]
    have c1 : (j : Int) < ((ps.map rf).length : Int) := by simpa using hjl
    have c2 : (0 : Int) ≤ (j : Nat) := by omega
    cases hm : p.m
    · have ho : okPull l x p = true := by unfold okPull; rw [hm]; rfl
      rw [ho, Bool.true_and]
      refine h1.next fun k => ?_
      rw [clepsydraref21_Closed.l1, if_pos c1, if_pos c2, rd_at hp, if_neg (show ¬ (rf p).f2 = true by simp [rf, hm]), wrap_succ (by omega)]
    · have h2 := closed_l2 (g := g) (on := on) hl hx hp hm (r := okPull l x p && ((ps.drop (j + 1)).all (okPull l x)) && r) (by omega) (fun ho => by rw [ho, Bool.true_and]; exact h1) (fun ho => by rw [ho]; rfl) _ 0 rfl (Nat.zero_le _)
      refine h2.next fun k => ?_
      rw [clepsydraref21_Closed.l1, if_pos c1, if_pos c2, rd_at hp, if_pos (show (rf p).f2 = true by simp [rf, hm])]
      rfl
theorem closed_l0 {g : GL} (hg : okG g = true) {on : List Bool} {l : List It} (hl : l.length ≤ 10000) : ∀ (n i : Nat), n = l.length - i → i ≤ l.length →
      Ev (fun k => clepsydraref21_Closed.l0 k on (l.map rf) (i : Int) g.req g.wants g.binds g.conf g.reqBy g.bound g.parts) ((l.drop i).all (okItem (pullJ g on) l)) := by
  intro n
  induction n with
  | zero =>
    intro i hn hi
    have : i = l.length := by omega
    subst this
    rw [List.drop_eq_nil_of_le (Nat.le_refl _)]
    refine (Ev.const _).next fun k => ?_
    rw [clepsydraref21_Closed.l0, if_neg (by simp)]
    rfl
  | succ n ih =>
    intro i hn hi
    have hil : i < l.length := by omega
    obtain ⟨x, hx⟩ := get_lt hil
    have h1 := ih (i + 1) (by omega) (by omega)
    rw [drop_at hx, List.all_cons]
    have h2 := closed_l1 (g := g) (on := on) hl (by have := pullJ_lenG hg on (jobOf x); omega) hx h1 _ 0 rfl (Nat.zero_le _) (ps := pullJ g on (jobOf x))
    rw [List.drop_zero] at h2
    have h3 := Ev.bind (refPulls_f hg on x.u x.t x.m) (f := fun k t421 => clepsydraref21_Closed.l1 k on (l.map rf) (i : Int) t421 0 g.req g.wants g.binds g.conf g.reqBy g.bound g.parts) h2
    refine h3.next fun k => ?_
    rw [clepsydraref21_Closed.l0, if_pos (by simpa using hil), if_pos (by omega), rd_at hx]
    rfl
theorem refClosed_f {g : GL} (hg : okG g = true) (on : List Bool) {l : List It} (hl : l.length ≤ 10000) : Ev (fun k => clepsydraref21_Closed.f k g.req g.wants g.binds g.conf g.reqBy g.bound g.parts on (l.map rf)) (closedL (pullJ g on) l) := by
  have := closed_l0 hg (on := on) hl _ 0 rfl (Nat.zero_le _)
  rw [List.drop_zero] at this
  exact this.congr fun k => rfl
theorem of_its (l : List S34) : (its l).map ofIt = l := by
  unfold its
  rw [List.map_map]
  exact List.map_id _
theorem closed_law (l0 l1 l2 l3 l4 l5 l6 l7 l8 l9 : List (List Int)) (on : List Bool) (l : List S34)
    (h0 : l0.length ≤ 9223372036854775807) (h1 : l1.length ≤ 9223372036854775807) (h2 : l2.length ≤ 9223372036854775807) (h6 : l6.length ≤ 9223372036854775807) (h7 : l7.length ≤ 9223372036854775807) (h8 : l8.length ≤ 9223372036854775807) (h9 : l9.length ≤ 9223372036854775807) :
    Ev (fun k => clepsydralaw21_ClosureClosed.f k l0 l1 l2 l3 l4 l5 l6 l7 l8 l9 on l) true := by
  have hj : Ev (fun k => clepsydralaw21_ClosureClosed.j0 k on l true l0 l1 l2 l3 l4 l5 l6 l7 l8 l9) true := (Ev.const _).next fun k => by
    rw [clepsydralaw21_ClosureClosed.j0, if_pos rfl]; rfl
  unfold clepsydralaw21_ClosureClosed.f
  refine Ev.bind (few_f l0 l1 l2 l3 l4 l5 l6 l7 l8 l9 on [] h0 h1 h2 h6 h7 h8 h9) ?_
  cases hf : (fewG ⟨l0, l1, l2, l6, l7, l8, l9⟩ && (decide (on.length ≤ 14) && decide (([] : List S32).length ≤ 30)))
  · exact hj.congr fun k => if_neg (by simp)
  simp only [Bool.and_eq_true, decide_eq_true_eq] at hf
  by_cases c0 : (l.length : Int) > 30
  · exact hj.congr fun k => by rw [if_pos rfl, decide_eq_true c0]
  have hok := few_okG hf.1
  have hon : on.length ≤ 1000 := by have := hf.2.1; omega
  have hlen : l.length ≤ 30 := by omega
  obtain ⟨c, rfl⟩ : ∃ c : List It, l = c.map ofIt := ⟨its l, (of_its l).symm⟩
  rw [List.length_map] at hlen
  have hits : its (c.map ofIt) = c := by unfold its; rw [List.map_map]; exact List.map_id _
  have e := refClosed_f (okG_of hok) on (l := c) (by omega)
  have e1 : Ev (fun k => (clepsydralaw21_items.f k (c.map ofIt)).bind fun t456 => ((clepsydraref21_Closed.f k l0 l1 l2 l6 l7 l8 l9 on t456).bind fun t459 => (if (closedL (pullJ ⟨l0, l1, l2, l6, l7, l8, l9⟩ on) c == t459) = true then ((clepsydralaw21_works.f).bind fun t460 => (some t460)) else (some false)))) true := by
    refine Ev.bind (items_f (by omega)) (Ev.bind e ?_)
    exact (Ev.const _).congr fun k => by rw [if_pos (by simp)]; rfl
  have e2 : Ev (fun k => clepsydralaw21_ClosureClosed.j0 k on (c.map ofIt) false l0 l1 l2 l3 l4 l5 l6 l7 l8 l9) true := e1.next fun k => by
    rw [clepsydralaw21_ClosureClosed.j0, if_neg (by simp)]
    unfold closure_Closed.f
    rw [if_pos ⟨hok, hon, by rw [List.length_map]; omega⟩, hits]
    rfl
  exact e2.congr fun k => by rw [if_pos rfl, decide_eq_false c0]
end Go.Proofs.Ytclgclcoblfddaa
