/- Chapter 21: the document's order and Sorted, as plain functions. -/
import Derived.Test.YtclgclcoblfddaaPx9
import Derived.Test.YtclgclcoblfddaaJa1
import Derived.Test.YtclgclcoblfddaaEv
namespace Go.Proofs.Ytclgclcoblfddaa
open Go.RowKit Go.Proofs.Ytclgclcoblfddaa.P Go.Proofs.YtclgclcoblfddaaW.PrintWords
set_option linter.unusedVariables false
set_option linter.unusedSimpArgs false
theorem less_f (x y : It) : Zbs.f x.u x.t x.m y.u y.t y.m = some (ltI x y) := by
 unfold Zbs.f ltI
 cases h : ltJ (Zaz x) (Zaz y)
 ·have h2 : ¬ _ := fun e => absurd ((ltJ_iff _ _).2 e) (by rw [h]; simp)
  simp only [Zaz] at h2
  have h3 : ¬ x.u < y.u := by omega
  rw [if_neg h3]
  by_cases h4 : x.u = y.u
  ·have h5 : ¬ x.t < y.t := by omega
   simp [h4, h5]
  ·simp [h4]
 ·have h2 := (ltJ_iff _ _).1 h
  simp only [Zaz] at h2
  by_cases h3 : x.u < y.u
  ·simp [h3]
  ·have h4 : x.u = y.u := by omega
   have h5 : x.t < y.t := by omega
   simp [h4, h5]
def rf (x : It) : S44 := ⟨x.u, x.t, x.m⟩
theorem rd_at {l : List It} {i : Nat} {x : It} (h : l[i]? = some x) : Zaf (l.map rf) (i : Int) = rf x := by
 unfold Zaf
 rw [Int.toNat_natCast, List.getD_eq_getElem?_getD, List.getElem?_map, h]
 rfl
theorem refSorted_l1 {l acc : List It} {i : Nat} {x : It} {r : List S44} (hx : l[i]? = some x) (hi : i < 1000000) (hacc : acc.length < 1000000) :
  ∀ (n j : Nat), n = acc.length - j → j ≤ acc.length → Ev (fun k => Zab.l0 k (l.map rf) ((acc.take j ++ ins x (acc.drop j)).map rf) ((i + 1 : Nat) : Int)) r →
   Ev (fun k => Zab.l1 k (l.map rf) (acc.map rf) (i : Int) (j : Int)) r := by
 have hil := (List.getElem?_eq_some_iff.1 hx).1
 intro n
 induction n with
 | zero =>
  intro j hn hj he
  have hj2 : j = acc.length := by omega
  subst hj2
  refine he.next fun k => ?_
  have c1 : ¬ ((acc.length : Nat) : Int) < ((acc.map rf).length : Int) := by simp
  have c2 : (0 : Int) ≤ (acc.length : Nat) := by omega
  have c3 : ((acc.length : Nat) : Int) ≤ ((acc.map rf).length : Int) := by simp
  have c4 : (0 : Int) ≤ (i : Nat) := by omega
  have c5 : (i : Int) < ((l.map rf).length : Int) := by simpa using hil
  rw [Zab.l1, if_neg c1, if_pos c2, if_pos c3, rd_at hx]
  simp only [Option.bind_some, Int.toNat_natCast, List.length_map, List.drop_eq_nil_of_le, List.take_of_length_le, Nat.le_refl, List.append_nil, List.length_nil, List.length_append, Nat.zero_add, Nat.add_zero, List.nil_append, List.length_singleton]
  rw [if_pos (by omega), if_pos c4, if_pos (by simpa using hil), if_pos (by omega), if_pos (by omega), wrap_succ (by omega)]
  simp [ins, rf]
 | succ n ih =>
  intro j hn hj he
  have hjl : j < acc.length := by omega
  obtain ⟨y, hy⟩ : ∃ y, acc[j]? = some y := ⟨_, List.getElem?_eq_getElem hjl⟩
  have c1 : (j : Int) < ((acc.map rf).length : Int) := by simp; omega
  have c2 : (0 : Int) ≤ (j : Nat) := by omega
  have c4 : (0 : Int) ≤ (i : Nat) := by omega
  have c5 : (i : Int) < ((l.map rf).length : Int) := by simpa using hil
  have hd : acc.drop j = y :: acc.drop (j + 1) := by
   rw [List.drop_eq_getElem_cons hjl]
   congr 1
   rw [List.getElem?_eq_getElem hjl] at hy
   exact Option.some.inj hy
  have ht : acc.take (j + 1) = acc.take j ++ [y] := by rw [List.take_succ_eq_append_getElem hjl]; congr 2; rw [List.getElem?_eq_getElem hjl] at hy; exact Option.some.inj hy
  have e1 := less_f y x
  have e2 := less_f x y
  cases h1 : ltI y x
  ·rw [hd, ins, if_neg (by rw [h1]; simp)] at he
   cases h2 : ltI x y
   ·rw [if_neg (by rw [h2]; simp)] at he
    refine he.next fun k => ?_
    have hset : (acc.map rf).set j ⟨y.u, y.t, y.m || x.m⟩ = (acc.take j ++ ⟨y.u, y.t, y.m || x.m⟩ :: acc.drop (j + 1)).map rf := by
     rw [show (⟨y.u, y.t, y.m || x.m⟩ : S44) = rf ⟨y.u, y.t, y.m || x.m⟩ from rfl, ← List.map_set, List.set_eq_take_append_cons_drop, if_pos hjl]
    rw [Zab.l1, if_pos c1, if_pos c2, if_pos c4, if_pos c5, rd_at hx, rd_at hy]
    simp only [rf, e1, e2, h1, h2, Option.bind_some, Bool.false_eq_true, if_false, wrap_succ (show i ≤ 1000000000000000000 by omega), Int.toNat_natCast]
    rw [← hset]
    cases hm : y.m <;> simp
   ·rw [if_pos h2] at he
    refine he.next fun k => ?_
    rw [Zab.l1, if_pos c1, if_pos c2, if_pos c4, if_pos c5, rd_at hx, rd_at hy]
    simp only [rf, e1, e2, h1, h2, Option.bind_some, Bool.false_eq_true, if_false, if_true, wrap_succ (show i ≤ 1000000000000000000 by omega), Int.toNat_natCast]
    have c3 : (j : Int) ≤ ((acc.map rf).length : Int) := by simp; omega
    rw [if_pos c3]
    have l1 : ((acc.map rf).drop j).length ≤ 1000000 := by simp; omega
    have l2 : ((acc.map rf).take j).length ≤ 1000000 := by simp; omega
    simp only [List.nil_append, List.length_nil, Nat.zero_add, List.length_append, List.length_singleton]
    rw [if_pos (by omega), if_pos (by omega), if_pos (by omega)]
    rw [← hd]
    simp [rf]
  ·rw [hd, ins, if_pos h1] at he
   have := ih (j + 1) (by omega) (by omega) (by rw [ht]; simpa using he)
   refine this.next fun k => ?_
   rw [Zab.l1, if_pos c1, if_pos c2, if_pos c4, if_pos c5, rd_at hx, rd_at hy]
   simp only [rf, e1, h1, Option.bind_some, if_true, wrap_succ (show j ≤ 1000000000000000000 by omega)]
theorem refSorted_l0 {l : List It} (hl : l.length < 1000000) : ∀ (n i : Nat) (acc : List It), n = l.length - i → i ≤ l.length → acc.length ≤ i →
  Ev (fun k => Zab.l0 k (l.map rf) (acc.map rf) (i : Int)) (((l.drop i).foldl (fun acc x => ins x acc) acc).map rf) := by
 intro n
 induction n with
 | zero =>
  intro i acc hn hi ha
  have hi2 : i = l.length := by omega
  subst hi2
  refine (Ev.const _).next fun k => ?_
  rw [Zab.l0, if_neg (by simp), List.drop_eq_nil_of_le (Nat.le_refl _)]
  rfl
 | succ n ih =>
  intro i acc hn hi ha
  have hil : i < l.length := by omega
  obtain ⟨x, hx⟩ : ∃ x, l[i]? = some x := ⟨_, List.getElem?_eq_getElem hil⟩
  have hd : l.drop i = x :: l.drop (i + 1) := by
   rw [List.drop_eq_getElem_cons hil]
   congr 1
   rw [List.getElem?_eq_getElem hil] at hx
   exact Option.some.inj hx
  have h1 := ih (i + 1) (ins x acc) (by omega) (by omega) (Nat.le_trans (ins_len x acc) (by omega))
  rw [hd, List.foldl_cons]
  refine (refSorted_l1 hx (by omega) (by omega) acc.length 0 rfl (by omega) (by simpa using h1)).next fun k => ?_
  rw [Zab.l0, if_pos (by simpa using hil)]
  rfl
theorem refSorted_f (l : List It) (hl : l.length < 1000000) : Ev (fun k => Zab.f k (l.map rf)) ((Zcf l).map rf) :=
 (refSorted_l0 hl l.length 0 [] rfl (Nat.zero_le _) (Nat.le_refl _)).congr fun k => rfl
end Go.Proofs.Ytclgclcoblfddaa
