/- Chapter 21: items turned to the document's. -/
import Derived.Test.YtclgclcoblfddaaPx13
import Derived.Test.YtclgclcoblfddaaQHas
namespace Go.Proofs.Ytclgclcoblfddaa
open Go.RowKit Go.Proofs.Ytclgclcoblfddaa.P Go.Proofs.YtclgclcoblfddaaW.PrintWords
set_option linter.unusedVariables false
set_option linter.unusedSimpArgs false
theorem items_l0 {l : List It} (hl : l.length ≤ 1000000) : ∀ (n i : Nat), n = l.length - i → i ≤ l.length →
    Ev (fun k => Zba.l0 k (l.map ofIt) ((l.take i).map rf) (i : Int)) (l.map rf) := by
  intro n
  induction n with
  | zero =>
    intro i hn hi
    have : i = l.length := by omega
    subst this
    refine (Ev.const _).next fun k => ?_
    rw [Zba.l0, if_neg (by simp), List.take_of_length_le (Nat.le_refl _)]
  | succ n ih =>
    intro i hn hi
    have hil : i < l.length := by omega
    obtain ⟨x, hx⟩ := get_lt hil
    have h1 := ih (i + 1) (by omega) (by omega)
    rw [take_at hx, List.map_append] at h1
    refine h1.next fun k => ?_
    rw [Zba.l0, if_pos (by simpa using hil), if_pos (by omega), if_pos (by rw [List.length_map, List.length_take]; omega), ri_at hx, wrap_succ (by omega)]
    rfl
theorem items_f {l : List It} (hl : l.length ≤ 1000000) : Ev (fun k => Zba.f k (l.map ofIt)) (l.map rf) :=
  (items_l0 hl _ 0 rfl (Nat.zero_le _)).congr fun k => rfl
theorem its_ofIt (c : List It) : its (c.map ofIt) = c := by
  unfold its
  rw [List.map_map]
  exact List.map_id _
end Go.Proofs.Ytclgclcoblfddaa
