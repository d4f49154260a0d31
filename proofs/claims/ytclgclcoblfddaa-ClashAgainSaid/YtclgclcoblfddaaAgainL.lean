/- Chapter 22: with all banned that was banned the same is freed: the plain law. -/
import Derived.Test.YtclgclcoblfddaaFree
import Derived.Test.YtclgclcoblfddaaWSame
namespace Go.Proofs.Ytclgclcoblfddaa
open Go.RowKit Go.Shelf
set_option linter.unusedVariables false
set_option linter.unusedSimpArgs false
theorem rc_base {α : Type} {E : α → List α} {S S' : List α} (h : ∀ x, x ∈ S → x ∈ S') {x : α} (hx : Rc E S x) : Rc E S' x := hx.mono h fun _ _ h => h
theorem spoil_ban {P : Jb → List It} {ban ban' all : List Jb} (h : ∀ x, x ∈ ban ↔ x ∈ ban') (x : Jb) : x ∈ spoilL P ban all ↔ x ∈ spoilL P ban' all := by
  rw [spoil_mem, spoil_mem]
  exact ⟨rc_base fun x => (h x).1, rc_base fun x => (h x).2⟩
/-- What is pulled in goes by who is banned, not by how they stand. -/
theorem ofL_ban (g : GL) (on : List Bool) (a : Jb) {ban ban' : List Jb} (h : ∀ x, x ∈ ban ↔ x ∈ ban') : ofL g on ban a = ofL g on ban' a := by
  have e : (fun x => decide (x ∈ spoilL (pullJ g on) ban (reachL (pullJ g on) (jobsU on.length) (fun _ => false) a))) = fun x => decide (x ∈ spoilL (pullJ g on) ban' (reachL (pullJ g on) (jobsU on.length) (fun _ => false) a)) :=
    funext fun x => decide_eq_decide.2 (spoil_ban h x)
  unfold ofL
  rw [e]
  by_cases hb : a ∈ spoilL (pullJ g on) ban (reachL (pullJ g on) (jobsU on.length) (fun _ => false) a)
  · rw [if_pos hb, if_pos ((spoil_ban h a).1 hb)]
  · rw [if_neg hb, if_neg fun h' => hb ((spoil_ban h a).2 h')]
theorem comp_comp (l : List Jb) : compL (sortJ (compL (sortJ l))) = compL (sortJ l) := by
  have h := comp_rise (sortJ_pairwise l)
  rw [sortJ_rise h]
  have key : ∀ n (l : List Jb), l.length = n → (l.Pairwise fun a b => ltJ a b = true) → compL l = l := by
    intro n
    induction n with
    | zero => intro l h _; rw [List.eq_nil_of_length_eq_zero h]; rfl
    | succ n ih =>
      intro l h hp
      rcases List.eq_nil_or_concat l with h0 | ⟨i, y, h0⟩
      · subst h0; rfl
      · rw [List.concat_eq_append] at h0
        subst h0
        rw [List.pairwise_append] at hp
        rw [compL_snoc, ih i (by simpa using h) hp.1, if_neg]
        intro hl
        exact ltJ_ne (hp.2.2 y (List.mem_of_getLast? hl) y List.mem_cons_self) rfl
  exact key _ _ rfl h
theorem comp_mem (l : List Jb) (x : Jb) : x ∈ compL (sortJ l) ↔ x ∈ l := by rw [compL_mem]; exact (sortJ_perm l).mem_iff
theorem vict_code (l : List It) : (victL l).2.2 = 0 ∨ (victL l).2.2 = 220 := by
  unfold victL
  split
  · exact .inl rfl
  · split
    · exact .inr rfl
    · exact .inl rfl
/-- What the loop ends with. -/
theorem freeF_ends (g : GL) (on : List Bool) (a : Jb) : ∀ (n : Nat) (bans : List Jb), leftJ on.length bans < n →
    freeF g on a n bans = ([], [], 220) ∨ ∃ ex : List Jb, (∀ x ∈ ex, x ∈ jobsU on.length) ∧ (bans ++ ex).length + leftJ on.length (bans ++ ex) ≤ bans.length + leftJ on.length bans ∧ (ofL g on (bans ++ ex) a).2 = true ∧ (victL (ofL g on (bans ++ ex) a).1).2.2 = 0 ∧ (victL (ofL g on (bans ++ ex) a).1).2.1 = false ∧
      freeF g on a n bans = ((wholeL (sortedL (ofL g on (bans ++ ex) a).1)).1, compL (sortJ (bans ++ ex)), 0) := by
  intro n
  induction n with
  | zero => intro bans h; omega
  | succ n ih =>
    intro bans hlt
    rw [freeF]
    by_cases h1 : (ofL g on bans a).2 = true
    · rw [if_pos h1]
      by_cases h2 : (victL (ofL g on bans a).1).2.2 = 0
      · rw [if_pos h2]
        by_cases h3 : (victL (ofL g on bans a).1).2.1 = true
        · rw [if_pos h3]
          obtain ⟨k1, k2⟩ := of_listed (vict_mem h3)
          have hl := leftJ_add k1 k2
          rcases ih (bans ++ [(victL (ofL g on bans a).1).1]) (by omega) with h | ⟨ex, e1, e0, e2, e3, e4, e5⟩
          · exact .inl h
          · rw [List.append_assoc] at e0 e2 e3 e4 e5
            refine .inr ⟨_, fun x hx => ?_, ?_, e2, e3, e4, e5⟩
            · rcases List.mem_append.1 hx with hx | hx
              · rw [List.mem_singleton.1 hx]; exact k1
              · exact e1 x hx
            · have hla : (bans ++ [(victL (ofL g on bans a).1).1]).length = bans.length + 1 := by simp
              omega
        · rw [if_neg h3]
          refine .inr ⟨[], fun x hx => (by cases hx), by simp, ?_⟩
          rw [List.append_nil]
          exact ⟨h1, h2, Bool.not_eq_true _ ▸ h3, rfl⟩
      · rw [if_neg h2]
        rcases vict_code (ofL g on bans a).1 with h | h
        · exact absurd h h2
        · rw [h]; exact .inl rfl
    · rw [if_neg h1]; exact .inl rfl
/-- All that ClashAgain asks. -/
theorem free_again (g : GL) (on : List Bool) (ban : List Jb) (a : Jb) (hin : 0 ≤ a.1 ∧ a.1 < on.length ∧ knownB a.2 = true) :
    freeL g on ban a = ([], [], 220) ∨ (freeL g on ban a).2.2 = 0 ∧ freeL g on (freeL g on ban a).2.1 a = freeL g on ban a ∧ victL (freeL g on ban a).1 = ((0, 0), false, 0) ∧ (∀ x ∈ ban, x ∈ (freeL g on ban a).2.1) ∧
      (freeL g on ban a).2.1.length ≤ ban.length + 3 * on.length ∧ (freeL g on ban a).1.length ≤ 1 + 3 * on.length := by
  have e : ∀ b, freeL g on b a = freeF g on a (leftJ on.length b + 1) b := fun b => by unfold freeL; rw [if_pos hin]
  rw [e]
  rcases freeF_ends g on a _ ban (Nat.lt_succ_self _) with h | ⟨ex, e1, e0, e2, e3, e4, e5⟩
  · exact .inl h
  · rw [e5, e]
    dsimp only
    have hm : ∀ x, x ∈ compL (sortJ (ban ++ ex)) ↔ x ∈ ban ++ ex := comp_mem _
    have hl := leftJ_le on.length ban
    refine .inr ⟨rfl, ?_, ?_, fun x hx => (hm x).2 (List.mem_append_left _ hx), ?_, ?_⟩
    · rw [freeF, ofL_ban g on a hm, if_pos e2, if_pos e3, if_neg (by rw [e4]; decide), comp_comp]
    · unfold victL
      rw [whole_again]
    · have h1 := compL_len (sortJ (ban ++ ex))
      rw [sortJ_length] at h1
      omega
    · have h1 := whole_len (sortedL (ofL g on (ban ++ ex) a).1)
      have h2 := sortedL_len (ofL g on (ban ++ ex) a).1
      have h3 := ofL_len' g on (ban ++ ex) a
      omega
end Go.Proofs.Ytclgclcoblfddaa
