/- Chapter 21: lists of jobs turned to items; two lists that are the same. -/
import Derived.Test.YtclgclcoblfddaaPx13
import Derived.Test.YtclgclcoblfddaaQBans
namespace Go.Proofs.Ytclgclcoblfddaa
open Go.RowKit Go.Proofs.Ytclgclcoblfddaa.P Go.Proofs.YtclgclcoblfddaaW.PrintWords
set_option linter.unusedVariables false
set_option linter.unusedSimpArgs false
theorem rj_at {l : List Jb} {i : Nat} {x : Jb} (h : l[i]? = some x) : rd_T32 (l.map ofJob) (i : Int) = ofJob x := by
  unfold rd_T32
  rw [Int.toNat_natCast, List.getD_eq_getElem?_getD, List.getElem?_map, h]
  rfl
theorem of_jbs (l : List S32) : (jbs l).map ofJob = l := by
  unfold jbs
  rw [List.map_map]
  exact List.map_id _
theorem jbs_of (l : List Jb) : jbs (l.map ofJob) = l := by
  unfold jbs
  rw [List.map_map]
  exact List.map_id _
theorem all_l0 {l : List Jb} (hl : l.length ≤ 1000000) : ∀ (n i : Nat), n = l.length - i → i ≤ l.length →
    Ev (fun k => Zbk.l0 k (l.map ofJob) (((l.take i).map itF).map rf) (i : Int)) ((l.map itF).map rf) := by
  intro n
  induction n with
  | zero =>
    intro i hn hi
    have : i = l.length := by omega
    subst this
    refine (Ev.const _).next fun k => ?_
    rw [Zbk.l0, if_neg (by simp), List.take_of_length_le (Nat.le_refl _)]
  | succ n ih =>
    intro i hn hi
    have hil : i < l.length := by omega
    obtain ⟨x, hx⟩ := get_lt hil
    have h1 := ih (i + 1) (by omega) (by omega)
    rw [take_at hx, List.map_append, List.map_append] at h1
    refine h1.next fun k => ?_
    rw [Zbk.l0, if_pos (by simpa using hil), if_pos (by omega), rj_at hx]
    unfold Zbn.f
    rw [Option.bind_some, if_pos (by rw [List.length_map, List.length_map, List.length_take]; omega), wrap_succ (by omega)]
    rfl
theorem all_f {l : List Jb} (hl : l.length ≤ 1000000) : Ev (fun k => Zbk.f k (l.map ofJob)) ((l.map itF).map rf) :=
  (all_l0 hl _ 0 rfl (Nat.zero_le _)).congr fun k => rfl
theorem same_l0 {l : List It} (hl : l.length ≤ 1000000) : ∀ (n i : Nat), n = l.length - i → i ≤ l.length →
    Ev (fun k => Zbf.l0 k (l.map rf) (l.map rf) (i : Int)) true := by
  intro n
  induction n with
  | zero =>
    intro i hn hi
    have : i = l.length := by omega
    subst this
    refine (Ev.const _).next fun k => ?_
    rw [Zbf.l0, if_neg (by simp)]
  | succ n ih =>
    intro i hn hi
    have hil : i < l.length := by omega
    refine (ih (i + 1) (by omega) (by omega)).next fun k => ?_
    have c1 : (i : Int) < ((l.map rf).length : Int) := by simpa using hil
    rw [Zbf.l0, if_pos c1, if_pos (by omega), if_pos c1, wrap_succ (by omega)]
    simp
theorem same_f {l : List It} (hl : l.length ≤ 1000000) : Ev (fun k => Zbf.f k (l.map rf) (l.map rf)) true :=
  (same_l0 hl _ 0 rfl (Nat.zero_le _)).congr fun k => by
    unfold Zbf.f
    rw [if_pos rfl]
    rfl
end Go.Proofs.Ytclgclcoblfddaa
