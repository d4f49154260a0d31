/- Chapter 21: few; ClosureStop, plainly. -/
import Derived.Test.YtclgclcoblfddaaPx5
import Derived.Test.YtclgclcoblfddaaEv
import Derived.Test.YtclgclcoblfddaaBrG
namespace Go.Proofs.Ytclgclcoblfddaa
open Go.RowKit Go.Proofs.Ytclgclcoblfddaa.P Go.Proofs.YtclgclcoblfddaaW.PrintWords
set_option linter.unusedVariables false
set_option linter.unusedSimpArgs false
def Zdi (l : List (List Int)) : Bool := (l.all fun r => decide (r.length ≤ 20)) && decide (l.length ≤ 20)
theorem few_ok {l : List (List Int)} (h : Zdi l = true) : Zci l = true := by
 unfold Zdi at h
 unfold Zci
 simp only [Bool.and_eq_true, decide_eq_true_eq, List.all_eq_true] at *
 exact ⟨by omega, fun r hr => by have := h.1 r hr; omega⟩
theorem rdL1_at {l : List (List Int)} {i : Nat} {r : List Int} (h : l[i]? = some r) : Zea l (i : Int) = r := by
 unfold Zea
 rw [Int.toNat_natCast, List.getD_eq_getElem?_getD, h]
 rfl
theorem rows_l0 (l : List (List Int)) (hl : l.length ≤ 9223372036854775807) : ∀ (n i : Nat), n = l.length - i → i ≤ l.length → Ev (fun k => Zad.l0 k l (i : Int)) (((l.drop i).all fun r => decide (r.length ≤ 20)) && decide (l.length ≤ 20)) := by
 intro n
 induction n with
 | zero =>
  intro i hn hi
  have : i = l.length := by omega
  subst this
  refine (Ev.const _).next fun k => ?_
  rw [Zad.l0, if_neg (by omega), List.drop_eq_nil_of_le (Nat.le_refl _)]
  simp only [List.all_nil, Bool.true_and]
  congr 1
  exact decide_eq_decide.2 (by omega)
 | succ n ih =>
  intro i hn hi
  have hil : i < l.length := by omega
  obtain ⟨x, hx⟩ : ∃ x, l[i]? = some x := ⟨_, List.getElem?_eq_getElem hil⟩
  have hd : l.drop i = x :: l.drop (i + 1) := by
   rw [List.drop_eq_getElem_cons hil]
   congr 1
   rw [List.getElem?_eq_getElem hil] at hx
   exact Option.some.inj hx
  have hw : wrap64 ((i : Int) + 1) = ((i + 1 : Nat) : Int) := by unfold wrap64; omega
  rw [hd, List.all_cons]
  by_cases h : x.length ≤ 20
  ·rw [decide_eq_true h, Bool.true_and]
   refine (ih (i + 1) (by omega) (by omega)).next fun k => ?_
   rw [Zad.l0, if_pos (by omega), if_pos (by omega), rdL1_at hx, if_neg (by omega), hw]
  ·rw [decide_eq_false h, Bool.false_and, Bool.false_and]
   refine (Ev.const _).next fun k => ?_
   rw [Zad.l0, if_pos (by omega), if_pos (by omega), rdL1_at hx, if_pos (by omega)]
theorem rows_f (l : List (List Int)) (hl : l.length ≤ 9223372036854775807) : Ev (fun k => Zad.f k l) (Zdi l) := by
 have := rows_l0 l hl _ 0 rfl (Nat.zero_le _)
 rw [List.drop_zero] at this
 exact this.congr fun k => rfl
def fewG (g : GL) : Bool := Zdi g.req && Zdi g.wants && Zdi g.binds && Zdi g.conf && Zdi g.reqBy && Zdi g.bound && Zdi g.parts
theorem Ev.and {f : Nat → Option Bool} {g : Nat → Option Bool} {a b : Bool} (hf : Ev f a) (hg : a = true → Ev g b) : Ev (fun k => (f k).bind fun t => if t = true then g k else some false) (a && b) := by
 refine Ev.bind hf ?_
 cases a with
 | true => rw [Bool.true_and]; exact (hg rfl).congr fun k => if_pos rfl
 | false => exact (Ev.const _).congr fun k => if_neg (by simp)
theorem few_f (l0 l1 l2 l3 l4 l5 l6 l7 l8 l9 : List (List Int)) (on : List Bool) (l : List S32)
  (h0 : l0.length ≤ 9223372036854775807) (h1 : l1.length ≤ 9223372036854775807) (h2 : l2.length ≤ 9223372036854775807) (h6 : l6.length ≤ 9223372036854775807) (h7 : l7.length ≤ 9223372036854775807) (h8 : l8.length ≤ 9223372036854775807) (h9 : l9.length ≤ 9223372036854775807) :
  Ev (fun k => Zcu.f k l0 l1 l2 l3 l4 l5 l6 l7 l8 l9 on l) (fewG ⟨l0, l1, l2, l6, l7, l8, l9⟩ && (decide (on.length ≤ 14) && decide (l.length ≤ 30))) := by
 have e : Ev (fun k => (Zad.f k l0).bind fun t103 => (if t103 = true then ((Zad.f k l1).bind fun t104 => (if t104 = true then ((Zad.f k l2).bind fun t105 => (if t105 = true then ((Zad.f k l6).bind fun t106 => (if t106 = true then ((Zad.f k l7).bind fun t107 => (if t107 = true then ((Zad.f k l8).bind fun t108 => (if t108 = true then ((Zad.f k l9).bind fun t109 => (if t109 = true then (if (on.length : Int) ≤ 14 then (some (decide ((l.length : Int) ≤ 30))) else (some false)) else (some false))) else (some false))) else (some false))) else (some false))) else (some false))) else (some false))) else (some false)))
   (Zdi l0 && (Zdi l1 && (Zdi l2 && (Zdi l6 && (Zdi l7 && (Zdi l8 && (Zdi l9 && (decide (on.length ≤ 14) && decide (l.length ≤ 30))))))))) := by
  refine Ev.and (rows_f l0 h0) fun _ => Ev.and (rows_f l1 h1) fun _ => Ev.and (rows_f l2 h2) fun _ => Ev.and (rows_f l6 h6) fun _ => Ev.and (rows_f l7 h7) fun _ => Ev.and (rows_f l8 h8) fun _ => Ev.and (rows_f l9 h9) fun _ => ?_
  by_cases h : on.length ≤ 14
  ·rw [decide_eq_true h, Bool.true_and, if_pos (by omega)]
   rw [show decide ((l.length : Int) ≤ 30) = decide (l.length ≤ 30) from decide_eq_decide.2 (by omega)]
   exact Ev.const _
  ·rw [decide_eq_false h, Bool.false_and, if_neg (by omega)]
   exact Ev.const _
 have e2 : (Zdi l0 && (Zdi l1 && (Zdi l2 && (Zdi l6 && (Zdi l7 && (Zdi l8 && (Zdi l9 && (decide (on.length ≤ 14) && decide (l.length ≤ 30))))))))) = (fewG ⟨l0, l1, l2, l6, l7, l8, l9⟩ && (decide (on.length ≤ 14) && decide (l.length ≤ 30))) := by
  unfold fewG; simp [Bool.and_assoc]
 rw [e2] at e
 exact e.congr fun k => rfl
theorem few_okG {l0 l1 l2 l6 l7 l8 l9 : List (List Int)} (h : fewG ⟨l0, l1, l2, l6, l7, l8, l9⟩ = true) : (Zci l0 && Zci l1 && Zci l2 && Zci l6 && Zci l7 && Zci l8 && Zci l9) = true := by
 unfold fewG at h
 simp only [Bool.and_eq_true] at *
 exact ⟨⟨⟨⟨⟨⟨few_ok h.1.1.1.1.1.1, few_ok h.1.1.1.1.1.2⟩, few_ok h.1.1.1.1.2⟩, few_ok h.1.1.1.2⟩, few_ok h.1.1.2⟩, few_ok h.1.2⟩, few_ok h.2⟩
theorem ri_at {l : List It} {i : Nat} {x : It} (h : l[i]? = some x) : Zby (l.map ofIt) (i : Int) = ofIt x := by
 unfold Zby
 rw [Int.toNat_natCast, List.getD_eq_getElem?_getD, List.getElem?_map, h]
 rfl
theorem sorted_mem_iff {l : List It} {x : It} : x ∈ Zcf l → Zaz x ∈ l.map Zaz ∧ x.m = Zch l (Zaz x) := fun hx => by
 obtain ⟨h1, h2, h3⟩ := sortedL_facts l
 exact ⟨(h2 _).1 (List.mem_map_of_mem hx), by rw [← h3, rise_must h1 hx]⟩
theorem mustOf_made {f : Jb → Bool} {l : List Jb} {k : Jb} : Zch (l.map fun k => (⟨k.1, k.2, f k⟩ : It)) k = (decide (k ∈ l) && f k) := by
 unfold Zch
 rw [Bool.eq_iff_iff, List.any_eq_true]
 simp only [List.mem_map, Bool.and_eq_true, decide_eq_true_eq]
 constructor
 ·rintro ⟨x, ⟨y, hy, rfl⟩, h1, h2⟩
  have : y = k := h1
  subst this
  exact ⟨hy, h2⟩
 ·rintro ⟨h1, h2⟩
  exact ⟨⟨k.1, k.2, f k⟩, ⟨k, h1, rfl⟩, rfl, h2⟩
end Go.Proofs.Ytclgclcoblfddaa
