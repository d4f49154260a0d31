/- Short names for what the printed texts say often: a fact of an elder world, in a world that only grew. -/
import Derived.Test.YtclgclcoblfddaaPx0
namespace Go.Proofs.Ytclgclcoblfddaa.P
open Go.RowKit Go.Proofs.YtclgclcoblfddaaW.PrintWords Go.Proofs.YtclgclcoblfddaaW.PrintLast Go.Proofs.YtclgclcoblfddaaW.PrintMore
set_option linter.unusedVariables false
structure Upw (w w' : World) : Prop where
  up : Below w.heap.size w w'
instance upRefl (w : World) : Nonempty (Upw w w) := ⟨⟨Below.refl _ _⟩⟩
instance upAlloc (w w' : World) (o : Obj) [h : Nonempty (Upw w w')] : Nonempty (Upw w (w'.alloc o)) := ⟨⟨below_alloc (h.elim fun x => x.up) o⟩⟩
instance upDrew (w w' : World) [h : Nonempty (Upw w w')] : Nonempty (Upw w w'.drew) := ⟨⟨below_drew1 (h.elim fun x => x.up)⟩⟩
instance upDrewN (w w' : World) (n : Nat) [h : Nonempty (Upw w w')] : Nonempty (Upw w (w'.drewN n)) := ⟨⟨pw_below_drewN (h.elim fun x => x.up) n⟩⟩
theorem s0_ {α : Type _} {l : List α} {i : Nat} {a : α} : l.toArray.setIfInBounds i a = (l.set i a).toArray := List.setIfInBounds_toArray ..
theorem s1_ {α : Type _} {a b : α} {l : List α} : (a :: l).set 0 b = b :: l := List.set_cons_zero
theorem s2_ {α : Type _} {a b : α} {l : List α} {n : Nat} : (a :: l).set (n + 1) b = a :: l.set n b := List.set_cons_succ
section
variable {α : Type} {d : Kd α} {e : Nat} {w w0 w1 w2 : World} {base : Nat} {ok : Nat → Prop} {v : Value} {xs : List α}
theorem RD (h : Aside0 (d.R e w base ok v xs)) [u : Nonempty (Upw w w1)] : d.R e w1 base ok v xs := Kd.R_below h.out (u.elim fun x => x.up)
theorem BD (h : Aside0 (Below w0.heap.size w0 w)) [u : Nonempty (Upw w w1)] : Below w0.heap.size w0 w1 := below_step h.out (u.elim fun x => x.up)
theorem CD {A : Option Addr} {n : Nat} (h : d.C w A n xs) [u : Nonempty (Upw w w1)] : d.C w1 A n xs := Kd.C_below h (u.elim fun x => x.up)
theorem RB (h : Aside0 (d.R e w base ok v xs)) (hb : Below w1.heap.size w1 w2) [u : Nonempty (Upw w w1)] : Aside0 (d.R e w2 base ok v xs) := ⟨Kd.R_below (RD h) hb⟩
theorem RE {u : Value} (h : Aside0 (d.R e w base ok v xs)) (hb : Below w1.heap.size w1 w2) (hu : ∀ k, u.ownBlock = some k → w1.heap.size ≤ k) [i : Nonempty (Upw w w1)] : Aside0 (d.R e w2 base (fun k => ok k ∧ some k ≠ u.ownBlock) v xs) := ⟨Kd.R_elder' (RD h) hu hb⟩
theorem BS (h : Aside0 (Below w0.heap.size w0 w)) (hb : Below w1.heap.size w1 w2) [u : Nonempty (Upw w w1)] : Aside0 (Below w0.heap.size w0 w2) := ⟨below_step (BD h) hb⟩
end
end Go.Proofs.Ytclgclcoblfddaa.P
