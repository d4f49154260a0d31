/- Chapter 21: the document's reach, as a plain function. -/
import Derived.Test.YtclgclcoblfddaaPx11
import Derived.Test.YtclgclcoblfddaaQHas
namespace Go.Proofs.Ytclgclcoblfddaa
open Go.RowKit Go.Proofs.Ytclgclcoblfddaa.P Go.Proofs.YtclgclcoblfddaaW.PrintWords
set_option linter.unusedVariables false
set_option linter.unusedSimpArgs false
def bIn (bad : List It) (y : Jb) : Bool := decide (y ∈ bad.map jobOf)
structure RL (E : Jb → List Jb) (U : List Jb) (a : Jb) (L : List It) : Prop where
  start : a ∈ L.map jobOf
  nod : (L.map jobOf).Nodup
  sub : ∀ x ∈ L.map jobOf, x ∈ a :: U
  rc : ∀ x ∈ L.map jobOf, Rc E [a] x
  mf : ∀ x ∈ L, x.m = false
theorem RL.len {E : Jb → List Jb} {U : List Jb} {a : Jb} {L : List It} (h : RL E U a L) : L.length ≤ 1 + U.length := by
  have := nodup_len h.nod h.sub
  rw [List.length_map, List.length_cons] at this
  omega
theorem RL.add {E : Jb → List Jb} {U : List Jb} {a x y : Jb} {L : List It} (h : RL E U a L) (hx : x ∈ L.map jobOf) (hy : y ∈ E x) (hU : y ∈ U) (hn : y ∉ L.map jobOf) : RL E U a (L ++ [⟨y.1, y.2, false⟩]) := by
  have e : (L ++ [(⟨y.1, y.2, false⟩ : It)]).map jobOf = L.map jobOf ++ [y] := by rw [List.map_append]; rfl
  refine ⟨?_, ?_, ?_, ?_, ?_⟩
  · rw [e]; exact List.mem_append_left _ h.start
  · rw [e]
    exact List.nodup_append.2 ⟨h.nod, by simp, fun u hu v hv e' => by rw [List.mem_singleton.1 hv] at e'; exact hn (e' ▸ hu)⟩
  · rw [e]
    intro z hz
    rcases List.mem_append.1 hz with hz | hz
    · exact h.sub z hz
    · rw [List.mem_singleton.1 hz]; exact List.mem_cons_of_mem _ hU
  · rw [e]
    intro z hz
    rcases List.mem_append.1 hz with hz | hz
    · exact h.rc z hz
    · rw [List.mem_singleton.1 hz]; exact (h.rc x hx).step hy
  · intro z hz
    rcases List.mem_append.1 hz with hz | hz
    · exact h.mf z hz
    · rw [List.mem_singleton.1 hz]
end Go.Proofs.Ytclgclcoblfddaa
