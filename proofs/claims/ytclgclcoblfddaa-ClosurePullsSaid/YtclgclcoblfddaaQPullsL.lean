/- ClosurePulls, as a plain law. -/
import Derived.Test.YtclgclcoblfddaaPx18
import Derived.Test.YtclgclcoblfddaaQLists
import Derived.Test.YtclgclcoblfddaaQStopL
namespace Go.Proofs.Ytclgclcoblfddaa
open Go.RowKit Go.Proofs.Ytclgclcoblfddaa.P Go.Proofs.YtclgclcoblfddaaW.PrintWords
set_option linter.unusedVariables false
set_option linter.unusedSimpArgs false
theorem ru_at {l : List It} {i : Nat} {x : It} (h : l[i]? = some x) : rd_T55 (l.map ofPull) (i : Int) = ofPull x := by
  unfold rd_T55
  rw [Int.toNat_natCast, List.getD_eq_getElem?_getD, List.getElem?_map, h]
  rfl
theorem bansL_len (g : GL) (on : List Bool) (ban all : List Jb) : (bansL g on ban all).length ≤ all.length := by
  unfold bansL
  refine Nat.le_trans (compL_len _) ?_
  rw [sortJ_length]
  exact List.length_filter_le _ _
theorem pulls_law (l0 l1 l2 l3 l4 l5 l6 l7 l8 l9 : List (List Int)) (on : List Bool) (u t : Int) (ban all : List S32)
    (h0 : l0.length ≤ 9223372036854775807) (h1 : l1.length ≤ 9223372036854775807) (h2 : l2.length ≤ 9223372036854775807) (h6 : l6.length ≤ 9223372036854775807) (h7 : l7.length ≤ 9223372036854775807) (h8 : l8.length ≤ 9223372036854775807) (h9 : l9.length ≤ 9223372036854775807) :
    Ev (fun k => clepsydralaw21_ClosurePulls.f k l0 l1 l2 l3 l4 l5 l6 l7 l8 l9 on u t ban all) true := by
  have hj : Ev (fun k => clepsydralaw21_ClosurePulls.j0 k on ban all true l0 l1 l2 l3 l4 l5 l6 l7 l8 l9 u t) true := (Ev.const _).next fun k => by
    rw [clepsydralaw21_ClosurePulls.j0, if_pos rfl]; rfl
  unfold clepsydralaw21_ClosurePulls.f
  refine Ev.bind (few_f l0 l1 l2 l3 l4 l5 l6 l7 l8 l9 on ban h0 h1 h2 h6 h7 h8 h9) ?_
  cases hf : (fewG ⟨l0, l1, l2, l6, l7, l8, l9⟩ && (decide (on.length ≤ 14) && decide (ban.length ≤ 30)))
  · exact hj.congr fun k => if_neg (by simp)
  simp only [Bool.and_eq_true, decide_eq_true_eq] at hf
  by_cases c0 : (all.length : Int) > 30
  · exact hj.congr fun k => by rw [if_pos rfl, decide_eq_true c0]
  have hok := few_okG hf.1
  have hg := okG_of hok
  have hon : on.length ≤ 1000 := by have := hf.2.1; omega
  have hbl : ban.length ≤ 30 := hf.2.2
  have hal : all.length ≤ 30 := by omega
  obtain ⟨bj, rfl⟩ : ∃ c : List Jb, ban = c.map ofJob := ⟨jbs ban, (of_jbs ban).symm⟩
  obtain ⟨aj, rfl⟩ : ∃ c : List Jb, all = c.map ofJob := ⟨jbs all, (of_jbs all).symm⟩
  rw [List.length_map] at hbl hal
  obtain ⟨g, hgd⟩ : ∃ g : GL, g = ⟨l0, l1, l2, l6, l7, l8, l9⟩ := ⟨_, rfl⟩
  have hpl := pullJ_lenG hg on (u, t)
  have hba := bansL_len ⟨l0, l1, l2, l6, l7, l8, l9⟩ on bj aj
  have hbans : closure_Bans.f l0 l1 l2 l3 l4 l5 l6 l7 l8 l9 on (bj.map ofJob) (aj.map ofJob) = some ((bansL ⟨l0, l1, l2, l6, l7, l8, l9⟩ on bj aj).map ofJob) := by
    unfold closure_Bans.f
    rw [if_pos ⟨hok, hon, by rw [List.length_map]; omega, by rw [List.length_map]; omega⟩, jbs_of, jbs_of]
  have hrb := refBans_f hg (on := on) (ban := bj.map itF) (all := aj.map itF) (by rw [List.length_map]; omega) (by rw [List.length_map]; omega)
  rw [← bansL_items] at hrb
  have tail : Ev (fun k => (clepsydralaw21_plain.f l0 l1 l2 l3 l4 l5 l6 l7 l8 l9).bind fun bt482 => ((clepsydralaw21_job.f u t).bind fun bt504 => ((clepsydraref21_Pulls.f k bt482.1 bt482.2.1 bt482.2.2.1 bt482.2.2.2.1 bt482.2.2.2.2.1 bt482.2.2.2.2.2.1 bt482.2.2.2.2.2.2 on bt504.1 bt504.2.1 bt504.2.2).bind fun t507 => ((clepsydralaw21_same.f k ((pullJ ⟨l0, l1, l2, l6, l7, l8, l9⟩ on (u, t)).map rf) t507).bind fun t510 => (if t510 = true then ((closure_Bans.f l0 l1 l2 l3 l4 l5 l6 l7 l8 l9 on (bj.map ofJob) (aj.map ofJob)).bind fun t511 => ((clepsydralaw21_all.f k t511).bind fun t514 => ((clepsydralaw21_all.f k (bj.map ofJob)).bind fun t517 => ((clepsydralaw21_all.f k (aj.map ofJob)).bind fun t520 => ((clepsydraref21_Bans.f k bt482.1 bt482.2.1 bt482.2.2.1 bt482.2.2.2.1 bt482.2.2.2.2.1 bt482.2.2.2.2.2.1 bt482.2.2.2.2.2.2 on t517 t520).bind fun t523 => ((clepsydralaw21_same.f k t514 t523).bind fun t526 => (if t526 = true then ((clepsydralaw21_works.f).bind fun t527 => (some t527)) else (some false)))))))) else (some false)))))) true := by
    refine Ev.bind (Ev.const (l0, l1, l2, l6, l7, l8, l9)) (Ev.bind (Ev.const (u, t, false)) (Ev.bind (refPulls_f hg on u t false) (Ev.bind (same_f (by omega)) ?_)))
    have e2 : Ev (fun k => (closure_Bans.f l0 l1 l2 l3 l4 l5 l6 l7 l8 l9 on (bj.map ofJob) (aj.map ofJob)).bind fun t511 => ((clepsydralaw21_all.f k t511).bind fun t514 => ((clepsydralaw21_all.f k (bj.map ofJob)).bind fun t517 => ((clepsydralaw21_all.f k (aj.map ofJob)).bind fun t520 => ((clepsydraref21_Bans.f k l0 l1 l2 l6 l7 l8 l9 on t517 t520).bind fun t523 => ((clepsydralaw21_same.f k t514 t523).bind fun t526 => (if t526 = true then ((clepsydralaw21_works.f).bind fun t527 => (some t527)) else (some false)))))))) true := by
      refine Ev.bind (Ev.of fun _ => hbans) (Ev.bind (all_f (by omega)) (Ev.bind (all_f (by omega)) (Ev.bind (all_f (by omega)) (Ev.bind hrb (Ev.bind (same_f (by rw [List.length_map]; omega)) ?_)))))
      exact (Ev.const _).congr fun k => by rw [if_pos rfl]; rfl
    exact e2.congr fun k => by rw [if_pos rfl]
  have loop : ∀ (n i : Nat), n = (pullJ ⟨l0, l1, l2, l6, l7, l8, l9⟩ on (u, t)).length - i → i ≤ (pullJ ⟨l0, l1, l2, l6, l7, l8, l9⟩ on (u, t)).length →
      Ev (fun k => clepsydralaw21_ClosurePulls.l0 k on (bj.map ofJob) (aj.map ofJob) ((pullJ ⟨l0, l1, l2, l6, l7, l8, l9⟩ on (u, t)).map ofPull) (((pullJ ⟨l0, l1, l2, l6, l7, l8, l9⟩ on (u, t)).take i).map rf) (i : Int) l0 l1 l2 l3 l4 l5 l6 l7 l8 l9 u t) true := by
    intro n
    induction n with
    | zero =>
      intro i hn hi
      have : i = (pullJ ⟨l0, l1, l2, l6, l7, l8, l9⟩ on (u, t)).length := by omega
      subst this
      refine tail.next fun k => ?_
      rw [clepsydralaw21_ClosurePulls.l0, if_neg (by simp), List.take_of_length_le (Nat.le_refl _)]
    | succ n ih =>
      intro i hn hi
      have hil : i < (pullJ ⟨l0, l1, l2, l6, l7, l8, l9⟩ on (u, t)).length := by omega
      obtain ⟨x, hx⟩ := get_lt hil
      have e1 := ih (i + 1) (by omega) (by omega)
      rw [take_at hx, List.map_append] at e1
      refine e1.next fun k => ?_
      rw [clepsydralaw21_ClosurePulls.l0, if_pos (by simpa using hil), if_pos (by omega), if_pos (by rw [List.length_map, List.length_take]; omega), ru_at hx, wrap_succ (by omega)]
      rfl
  have e2 : Ev (fun k => clepsydralaw21_ClosurePulls.j0 k on (bj.map ofJob) (aj.map ofJob) false l0 l1 l2 l3 l4 l5 l6 l7 l8 l9 u t) true := (loop _ 0 rfl (Nat.zero_le _)).next fun k => by
    rw [clepsydralaw21_ClosurePulls.j0, if_neg (by simp)]
    unfold closure_Pulls.f
    rw [if_pos ⟨hok, hon⟩]
    rfl
  exact e2.congr fun k => by rw [if_pos rfl, decide_eq_false c0]
end Go.Proofs.Ytclgclcoblfddaa
