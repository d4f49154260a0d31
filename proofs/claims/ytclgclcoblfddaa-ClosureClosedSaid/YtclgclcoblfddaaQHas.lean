/- Chapter 21: the document's Has; lists turned. -/
import Derived.Test.YtclgclcoblfddaaQPulls
import Derived.Test.YtclgclcoblfddaaQStopL
namespace Go.Proofs.Ytclgclcoblfddaa
open Go.RowKit Go.Proofs.Ytclgclcoblfddaa.P Go.Proofs.YtclgclcoblfddaaW.PrintWords
set_option linter.unusedVariables false
set_option linter.unusedSimpArgs false
theorem drop_at {α : Type} {l : List α} {i : Nat} {x : α} (h : l[i]? = some x) : l.drop i = x :: l.drop (i + 1) := by
  have hil := (List.getElem?_eq_some_iff.1 h).1
  rw [List.drop_eq_getElem_cons hil]
  congr 1
  rw [List.getElem?_eq_getElem hil] at h
  exact Option.some.inj h
theorem take_at {α : Type} {l : List α} {i : Nat} {x : α} (h : l[i]? = some x) : l.take (i + 1) = l.take i ++ [x] := by
  have hil := (List.getElem?_eq_some_iff.1 h).1
  rw [List.take_succ_eq_append_getElem hil]
  congr 2
  rw [List.getElem?_eq_getElem hil] at h
  exact Option.some.inj h
theorem get_lt {α : Type} {l : List α} {i : Nat} (h : i < l.length) : ∃ x, l[i]? = some x := ⟨_, List.getElem?_eq_getElem h⟩
theorem pullJ_lenG {g : GL} (hg : okG g = true) (on : List Bool) (j : Jb) : (pullJ g on j).length ≤ 7000 := by
  unfold okG at hg
  simp only [Bool.and_eq_true] at hg
  obtain ⟨⟨⟨⟨⟨⟨k0, k1⟩, k2⟩, k3⟩, k4⟩, k5⟩, k6⟩ := hg
  unfold pullJ pullsL
  split
  · rename_i h
    obtain ⟨n, hn⟩ : ∃ n : Nat, j.1 = n := ⟨j.1.toNat, by omega⟩
    rw [hn]
    have l0 := plRow_len (on := on) k0 n 1 true false
    have l1 := plRow_len (on := on) k1 n 1 false false
    have l2 := plRow_len (on := on) k2 n 1 true false
    have l3 := plRow_len (on := on) k3 n 2 true false
    have l4 := plRow_len (on := on) k4 n j.2 true true
    have l5 := plRow_len (on := on) k5 n j.2 true true
    have l6 := plRow_len (on := on) k6 n j.2 true true
    split <;> split <;> simp only [plPut, List.flatMap_cons, List.flatMap_nil, List.append_nil, List.nil_append, List.length_append, List.length_nil] <;> omega
  · simp
theorem okG_of {l0 l1 l2 l6 l7 l8 l9 : List (List Int)} (h : (okRows l0 && okRows l1 && okRows l2 && okRows l6 && okRows l7 && okRows l8 && okRows l9) = true) : okG ⟨l0, l1, l2, l6, l7, l8, l9⟩ = true := h
end Go.Proofs.Ytclgclcoblfddaa
