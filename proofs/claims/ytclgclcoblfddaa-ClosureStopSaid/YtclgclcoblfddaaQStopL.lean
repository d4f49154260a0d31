/- ClosureStop, as a plain law. -/
import Derived.Test.YtclgclcoblfddaaQStop
namespace Go.Proofs.Ytclgclcoblfddaa
open Go.RowKit Go.Proofs.Ytclgclcoblfddaa.P Go.Proofs.YtclgclcoblfddaaW.PrintWords
set_option linter.unusedVariables false
set_option linter.unusedSimpArgs false
theorem stop_off (g : GL) (n : Nat) {u : Int} (h0 : 0 ≤ u) (h1 : u < n) : ofL g (List.replicate n false) [] (u, 2) = ([⟨u, 2, true⟩], true) := by
  obtain ⟨bad, hb, h⟩ := ofL_nil (g := g) (on := List.replicate n false) (a := (u, 2)) h0 (by rw [List.length_replicate]; exact h1) rfl
  have hT := pull_tame g (List.replicate n false)
  rw [h]
  congr 1
  have hr : ∀ x, x ∈ reachL (pullJ g (List.replicate n false)) (jobsU (List.replicate n false).length) bad (u, 2) ↔ x = (u, 2) := fun x => by
    constructor
    · intro hx
      refine ((reach_mem hT bad (u, 2) x).1 hx).least (T := fun y => y = (u, 2)) (fun y hy => List.mem_singleton.1 hy) fun y z hy hz => ?_
      obtain ⟨⟨p, hp, rfl⟩, _⟩ := mem_pullE.1 hz
      rw [hy, pulls_off] at hp
      cases hp
    · rintro rfl
      exact (reach_mem hT bad _ _).2 (.base (List.mem_singleton.2 rfl))
  have hm : (u, 2) ∈ mustL (pullJ g (List.replicate n false)) (jobsU (List.replicate n false).length) bad (u, 2) := (must_mem hT bad _ _).2 (.base (List.mem_singleton.2 rfl))
  have : sortedL ((reachL (pullJ g (List.replicate n false)) (jobsU (List.replicate n false).length) bad (u, 2)).map fun k => (⟨k.1, k.2, decide (k ∈ mustL (pullJ g (List.replicate n false)) (jobsU (List.replicate n false).length) bad (u, 2))⟩ : It)) = sortedL [⟨u, 2, true⟩] := by
    refine sortedL_of_mem fun x => ?_
    rw [List.mem_map, List.mem_singleton]
    constructor
    · rintro ⟨k, hk, rfl⟩
      rw [(hr k).1 hk, decide_eq_true hm]
    · rintro rfl
      exact ⟨(u, 2), (hr _).2 rfl, by rw [decide_eq_true hm]⟩
  rw [this]
  rfl
theorem stop_all (g : GL) (on : List Bool) {u : Int} (h0 : 0 ≤ u) (h1 : u < on.length) : (ofL g on [] (u, 2)).2 = true ∧ ∀ x ∈ (ofL g on [] (u, 2)).1, x.t = 2 ∧ x.m = true := by
  obtain ⟨bad, hb, h⟩ := ofL_nil (g := g) (on := on) (a := (u, 2)) h0 h1 rfl
  have hT := pull_tame g on
  rw [h]
  refine ⟨rfl, fun x hx => ?_⟩
  obtain ⟨q1, q2⟩ := sorted_mem_iff hx
  have hin : jobOf x ∈ reachL (pullJ g on) (jobsU on.length) bad (u, 2) := by
    obtain ⟨y, hy, e⟩ := List.mem_map.1 q1
    obtain ⟨k, hk, rfl⟩ := List.mem_map.1 hy
    have : k = jobOf x := e
    rw [← this]; exact hk
  have ht := reach_types hT bad (u, 2) (fun k => k.2 = 2) rfl (fun k hk p hp => by
    obtain ⟨ku, kt⟩ := k
    simp only at hk
    subst hk
    exact (pulls_stop hp).1) _ hin
  refine ⟨ht, ?_⟩
  have hmust : jobOf x ∈ mustL (pullJ g on) (jobsU on.length) bad (u, 2) := by
    refine (must_mem hT bad _ _).2 (((reach_mem hT bad _ _).1 hin).least (T := fun k => Rc (mustE (pullJ g on) bad) [(u, 2)] k ∧ k.2 = 2) (fun y hy => ⟨.base hy, by rw [List.mem_singleton.1 hy]⟩) fun y z hy hz => ?_).1
    obtain ⟨⟨p, hp, rfl⟩, hb⟩ := mem_pullE.1 hz
    obtain ⟨yu, yt⟩ := y
    obtain ⟨hy1, hy2⟩ := hy
    simp only at hy2
    subst hy2
    obtain ⟨p1, p2⟩ := pulls_stop hp
    exact ⟨hy1.step (mem_mustE.2 ⟨⟨p, hp, p2, rfl⟩, hb⟩), p1⟩
  rw [q2, mustOf_made, decide_eq_true hin, decide_eq_true hmust]
  rfl
theorem start_all (g : GL) (on : List Bool) {u : Int} (h0 : 0 ≤ u) (h1 : u < on.length) : (ofL g on [] (u, 1)).2 = true ∧ ∀ x ∈ (ofL g on [] (u, 1)).1, x.t ≠ 3 := by
  obtain ⟨bad, hb, h⟩ := ofL_nil (g := g) (on := on) (a := (u, 1)) h0 h1 rfl
  have hT := pull_tame g on
  rw [h]
  refine ⟨rfl, fun x hx => ?_⟩
  obtain ⟨q1, q2⟩ := sorted_mem_iff hx
  have hin : jobOf x ∈ reachL (pullJ g on) (jobsU on.length) bad (u, 1) := by
    obtain ⟨y, hy, e⟩ := List.mem_map.1 q1
    obtain ⟨k, hk, rfl⟩ := List.mem_map.1 hy
    have : k = jobOf x := e
    rw [← this]; exact hk
  have ht := reach_types hT bad (u, 1) (fun k => k.2 = 1 ∨ k.2 = 2) (.inl rfl) (fun k hk p hp => pulls_start hk hp) _ hin
  have ht : x.t = 1 ∨ x.t = 2 := ht
  omega
theorem stop_l1 (c : List It) (hc : c.length < 1000000) (hct : ∀ x ∈ c, x.t ≠ 3) : ∀ (n i : Nat), n = c.length - i → i ≤ c.length → Ev (fun k => clepsydralaw21_ClosureStop.l1 k (c.map ofIt) (i : Int)) true := by
  intro n
  induction n with
  | zero =>
    intro i hn hi
    have : i = c.length := by omega
    subst this
    refine (Ev.const _).next fun k => ?_
    rw [clepsydralaw21_ClosureStop.l1, if_neg (by simp)]
    rfl
  | succ n ih =>
    intro i hn hi
    have hil : i < c.length := by omega
    obtain ⟨x, hx⟩ : ∃ x, c[i]? = some x := ⟨_, List.getElem?_eq_getElem hil⟩
    refine (ih (i + 1) (by omega) (by omega)).next fun k => ?_
    rw [clepsydralaw21_ClosureStop.l1, if_pos (by simpa using hil), if_pos (by omega), ri_at hx, if_neg (show ¬ (ofIt x).f0.f1 = 3 from hct x (List.mem_of_getElem? hx)), wrap_succ (by omega)]
theorem stop_l0 (b c : List It) (hb : b.length < 1000000) (hc : c.length < 1000000) (hbt : ∀ x ∈ b, x.t = 2 ∧ x.m = true) (hct : ∀ x ∈ c, x.t ≠ 3) : ∀ (n i : Nat), n = b.length - i → i ≤ b.length → Ev (fun k => clepsydralaw21_ClosureStop.l0 k (b.map ofIt) (c.map ofIt) (i : Int)) true := by
  intro n
  induction n with
  | zero =>
    intro i hn hi
    have : i = b.length := by omega
    subst this
    refine (stop_l1 c hc hct _ 0 rfl (Nat.zero_le _)).next fun k => ?_
    rw [clepsydralaw21_ClosureStop.l0, if_neg (by simp)]
    rfl
  | succ n ih =>
    intro i hn hi
    have hil : i < b.length := by omega
    obtain ⟨x, hx⟩ : ∃ x, b[i]? = some x := ⟨_, List.getElem?_eq_getElem hil⟩
    obtain ⟨h1, h2⟩ := hbt x (List.mem_of_getElem? hx)
    refine (ih (i + 1) (by omega) (by omega)).next fun k => ?_
    rw [clepsydralaw21_ClosureStop.l0, if_pos (by simpa using hil), if_pos (by omega), ri_at hx, if_pos (show (ofIt x).f0.f1 = 2 from h1), if_pos (show (ofIt x).f1 = true from h2), wrap_succ (by omega)]
/-- How long Of's answer may be. -/
theorem growF_len {α : Type} [DecidableEq α] (E : α → List α) : ∀ (n : Nat) (l : List α), (growF E n l).length ≤ l.length + n
  | 0, l => Nat.le_refl _
  | n + 1, l => by
    unfold growF
    split
    · omega
    · rename_i y _
      have := growF_len E n (l ++ [y])
      rw [List.length_append] at this
      simp only [List.length_cons, List.length_nil] at this
      refine Nat.le_trans this ?_
      omega
theorem ofL_len (g : GL) (on : List Bool) (ban : List Jb) (a : Jb) : (ofL g on ban a).1.length ≤ 1 + 3 * on.length := by
  unfold ofL
  split
  · split
    · simp
    · refine Nat.le_trans (sortedL_len _) ?_
      rw [List.length_map]
      unfold reachL growL
      refine Nat.le_trans (growF_len _ _ _) ?_
      rw [jobsU_length]
      simp
  · simp
theorem stop_law (l0 l1 l2 l3 l4 l5 l6 l7 l8 l9 : List (List Int)) (on : List Bool) (u : Int)
    (h0 : l0.length ≤ 9223372036854775807) (h1 : l1.length ≤ 9223372036854775807) (h2 : l2.length ≤ 9223372036854775807) (h6 : l6.length ≤ 9223372036854775807) (h7 : l7.length ≤ 9223372036854775807) (h8 : l8.length ≤ 9223372036854775807) (h9 : l9.length ≤ 9223372036854775807) :
    Ev (fun k => clepsydralaw21_ClosureStop.f k l0 l1 l2 l3 l4 l5 l6 l7 l8 l9 on u) true := by
  have hj : Ev (fun k => clepsydralaw21_ClosureStop.j0 k on u true l0 l1 l2 l3 l4 l5 l6 l7 l8 l9) true := (Ev.const _).next fun k => by
    rw [clepsydralaw21_ClosureStop.j0, if_pos rfl]; rfl
  unfold clepsydralaw21_ClosureStop.f
  refine Ev.bind (few_f l0 l1 l2 l3 l4 l5 l6 l7 l8 l9 on [] h0 h1 h2 h6 h7 h8 h9) ?_
  cases hf : (fewG ⟨l0, l1, l2, l6, l7, l8, l9⟩ && (decide (on.length ≤ 14) && decide (([] : List S32).length ≤ 30)))
  · exact hj.congr fun k => if_neg (by simp)
  simp only [Bool.and_eq_true, decide_eq_true_eq] at hf
  by_cases c0 : u < 0
  · exact hj.congr fun k => by rw [if_pos rfl, if_pos c0]
  by_cases c1 : u ≥ (on.length : Int)
  · exact hj.congr fun k => by rw [if_pos rfl, if_neg c0, decide_eq_true c1]
  have hok := few_okG hf.1
  have hon : on.length ≤ 1000 := by have := hf.2.1; omega
  have hof : ∀ on' : List Bool, on'.length ≤ 1000 → ∀ t, closure_Of.f l0 l1 l2 l3 l4 l5 l6 l7 l8 l9 on' u t [] = some ((ofL ⟨l0, l1, l2, l6, l7, l8, l9⟩ on' [] (u, t)).1.map ofIt, (ofL ⟨l0, l1, l2, l6, l7, l8, l9⟩ on' [] (u, t)).2) := fun on' h t => by
    unfold closure_Of.f
    rw [if_pos ⟨hok, h, by simp⟩]
    rfl
  obtain ⟨b1, b2⟩ := stop_all ⟨l0, l1, l2, l6, l7, l8, l9⟩ on (u := u) (by omega) (by omega)
  obtain ⟨d1, d2⟩ := start_all ⟨l0, l1, l2, l6, l7, l8, l9⟩ on (u := u) (by omega) (by omega)
  have lb := ofL_len ⟨l0, l1, l2, l6, l7, l8, l9⟩ on [] (u, 2)
  have lc := ofL_len ⟨l0, l1, l2, l6, l7, l8, l9⟩ on [] (u, 1)
  have e := stop_l0 _ _ (by omega) (by omega) b2 d2 _ 0 rfl (Nat.zero_le _)
  have e1 : Ev (fun k => clepsydralaw21_ClosureStop.j1 k ((ofL ⟨l0, l1, l2, l6, l7, l8, l9⟩ on [] (u, 2)).1.map ofIt) ((ofL ⟨l0, l1, l2, l6, l7, l8, l9⟩ on [] (u, 1)).1.map ofIt) false) true := e.next fun k => by
    rw [clepsydralaw21_ClosureStop.j1, if_neg (by simp)]
    rfl
  have e2 : Ev (fun k => clepsydralaw21_ClosureStop.j0 k on u false l0 l1 l2 l3 l4 l5 l6 l7 l8 l9) true := e1.next fun k => by
    rw [clepsydralaw21_ClosureStop.j0, if_neg (by simp), if_pos (by omega), if_pos (by omega)]
    rw [hof _ (by simp; omega), hof _ hon, hof _ hon]
    simp only [Option.bind_some]
    rw [Int.toNat_natCast, stop_off _ _ (by omega) (by omega)]
    simp [rd_T34, ofIt, b1, d1]
  exact e2.congr fun k => by rw [if_pos rfl, if_neg c0, decide_eq_false c1]
end Go.Proofs.Ytclgclcoblfddaa
