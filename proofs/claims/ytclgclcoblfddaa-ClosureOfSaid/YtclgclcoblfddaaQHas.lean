/- Chapter 21: the document's Has; lists turned. -/
import Derived.Test.YtclgclcoblfddaaQPulls
import Derived.Test.YtclgclcoblfddaaQStopL
namespace Go.Proofs.Ytclgclcoblfddaa
open Go.RowKit Go.Proofs.Ytclgclcoblfddaa.P Go.Proofs.YtclgclcoblfddaaW.PrintWords
set_option linter.unusedVariables false
set_option linter.unusedSimpArgs false
theorem drop_at {α : Type} {l : List α} {i : Nat} {x : α} (h : l[i]? = some x) : l.drop i = x :: l.drop (i + 1) := by
 have hil := (List.getElem?_eq_some_iff.1 h).1
 rw [List.drop_eq_getElem_cons hil]
 congr 1
 rw [List.getElem?_eq_getElem hil] at h
 exact Option.some.inj h
theorem take_at {α : Type} {l : List α} {i : Nat} {x : α} (h : l[i]? = some x) : l.take (i + 1) = l.take i ++ [x] := by
 have hil := (List.getElem?_eq_some_iff.1 h).1
 rw [List.take_succ_eq_append_getElem hil]
 congr 2
 rw [List.getElem?_eq_getElem hil] at h
 exact Option.some.inj h
theorem get_lt {α : Type} {l : List α} {i : Nat} (h : i < l.length) : ∃ x, l[i]? = some x := ⟨_, List.getElem?_eq_getElem h⟩
theorem pullJ_lenG {g : GL} (hg : okG g = true) (on : List Bool) (j : Jb) : (Zcc g on j).length ≤ 7000 := by
 unfold okG at hg
 simp only [Bool.and_eq_true] at hg
 obtain ⟨⟨⟨⟨⟨⟨k0, k1⟩, k2⟩, k3⟩, k4⟩, k5⟩, k6⟩ := hg
 unfold Zcc pullsL
 split
 ·rename_i h
  obtain ⟨n, hn⟩ : ∃ n : Nat, j.1 = n := ⟨j.1.toNat, by omega⟩
  rw [hn]
  have l0 := Zdz (on := on) k0 n 1 true false
  have l1 := Zdz (on := on) k1 n 1 false false
  have l2 := Zdz (on := on) k2 n 1 true false
  have l3 := Zdz (on := on) k3 n 2 true false
  have l4 := Zdz (on := on) k4 n j.2 true true
  have l5 := Zdz (on := on) k5 n j.2 true true
  have l6 := Zdz (on := on) k6 n j.2 true true
  split <;> split <;> simp only [Zeb, List.flatMap_cons, List.flatMap_nil, List.append_nil, List.nil_append, List.length_append, List.length_nil] <;> omega
 ·simp
theorem okG_of {l0 l1 l2 l6 l7 l8 l9 : List (List Int)} (h : (Zci l0 && Zci l1 && Zci l2 && Zci l6 && Zci l7 && Zci l8 && Zci l9) = true) : okG ⟨l0, l1, l2, l6, l7, l8, l9⟩ = true := h
theorem has_l0 {l : List It} (hl : l.length ≤ 1000000) (u t : Int) (m : Bool) : ∀ (n i : Nat), n = l.length - i → i ≤ l.length →
  ∃ r : Int, Ev (fun k => Zak.l0 k (l.map rf) (i : Int) u t m) r ∧ ((r < 0 ∧ (u, t) ∉ (l.drop i).map Zaz) ∨ (0 ≤ r ∧ (u, t) ∈ (l.drop i).map Zaz ∧ ∃ x, l[r.toNat]? = some x ∧ Zaz x = (u, t))) := by
 intro n
 induction n with
 | zero =>
  intro i hn hi
  have : i = l.length := by omega
  subst this
  refine ⟨-1, (Ev.const _).next fun k => ?_, .inl ⟨by omega, by rw [List.drop_eq_nil_of_le (Nat.le_refl _)]; simp⟩⟩
  rw [Zak.l0, if_neg (by simp)]
 | succ n ih =>
  intro i hn hi
  have hil : i < l.length := by omega
  obtain ⟨x, hx⟩ := get_lt hil
  have c1 : (i : Int) < ((l.map rf).length : Int) := by simpa using hil
  have c2 : (0 : Int) ≤ (i : Nat) := by omega
  rw [drop_at hx, List.map_cons]
  by_cases hj : Zaz x = (u, t)
  ·refine ⟨i, (Ev.const _).next fun k => ?_, .inr ⟨c2, by rw [hj]; simp, x, by rw [Int.toNat_natCast]; exact hx, hj⟩⟩
   have h1 : (rf x).f0 = u := congrArg Prod.fst hj
   have h2 : (rf x).f1 = t := congrArg Prod.snd hj
   rw [Zak.l0, if_pos c1, if_pos c2, rd_at hx, if_pos h1, if_pos h2]
  ·obtain ⟨r, hr, hs⟩ := ih (i + 1) (by omega) (by omega)
   have hj' : (u, t) ≠ Zaz x := fun e => hj e.symm
   refine ⟨r, hr.next fun k => ?_, ?_⟩
   ·rw [Zak.l0, if_pos c1, if_pos c2, rd_at hx, wrap_succ (by omega)]
    by_cases h1 : (rf x).f0 = u
    ·rw [if_pos h1, if_neg (show ¬ (rf x).f1 = t from fun h2 => hj (Prod.ext h1 h2))]
    ·rw [if_neg h1]
   ·rcases hs with ⟨h1, h2⟩ | ⟨h1, h2, h3⟩
    ·exact .inl ⟨h1, fun h => by rcases List.mem_cons.1 h with h | h; exact hj' h; exact h2 h⟩
    ·exact .inr ⟨h1, List.mem_cons_of_mem _ h2, h3⟩
theorem has_f {l : List It} (hl : l.length ≤ 1000000) (u t : Int) (m : Bool) :
  ∃ r : Int, Ev (fun k => Zak.f k (l.map rf) u t m) r ∧ ((r < 0 ∧ (u, t) ∉ l.map Zaz) ∨ (0 ≤ r ∧ (u, t) ∈ l.map Zaz ∧ ∃ x, l[r.toNat]? = some x ∧ Zaz x = (u, t))) := by
 obtain ⟨r, h1, h2⟩ := has_l0 hl u t m _ 0 rfl (Nat.zero_le _)
 rw [List.drop_zero] at h2
 exact ⟨r, h1.congr fun k => rfl, h2⟩
end Go.Proofs.Ytclgclcoblfddaa
