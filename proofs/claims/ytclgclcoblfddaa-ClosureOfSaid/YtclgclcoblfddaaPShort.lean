/- Short names for what the printed texts say often: a fact of an elder world, in a world that only grew. -/
import Derived.Test.YtclgclcoblfddaaPx0
namespace Go.Proofs.Ytclgclcoblfddaa.P
open Go.RowKit Go.Proofs.YtclgclcoblfddaaW.PrintWords Go.Proofs.YtclgclcoblfddaaW.PrintLast Go.Proofs.YtclgclcoblfddaaW.PrintMore
set_option linter.unusedVariables false
structure Upw (w w' : World) : Prop where
  up : Below w.heap.size w w'
instance upRefl (w : World) : Nonempty (Upw w w) := ⟨⟨Below.refl _ _⟩⟩
instance upAlloc (w w' : World) (o : Obj) [h : Nonempty (Upw w w')] : Nonempty (Upw w (w'.alloc o)) := ⟨⟨Zau (h.elim fun x => x.up) o⟩⟩
instance upDrew (w w' : World) [h : Nonempty (Upw w w')] : Nonempty (Upw w w'.drew) := ⟨⟨Zal (h.elim fun x => x.up)⟩⟩
instance upDrewN (w w' : World) (n : Nat) [h : Nonempty (Upw w w')] : Nonempty (Upw w (w'.drewN n)) := ⟨⟨Zaj (h.elim fun x => x.up) n⟩⟩
theorem s0_ {α : Type _} {l : List α} {i : Nat} {a : α} : l.toArray.setIfInBounds i a = (l.set i a).toArray := List.setIfInBounds_toArray ..
theorem s1_ {α : Type _} {a b : α} {l : List α} : (a :: l).set 0 b = b :: l := List.set_cons_zero
theorem s2_ {α : Type _} {a b : α} {l : List α} {n : Nat} : (a :: l).set (n + 1) b = a :: l.set n b := List.set_cons_succ
section
variable {α : Type} {d : Kd α} {e : Nat} {w w0 w1 w2 : World} {base : Nat} {ok : Nat → Prop} {v : Value} {xs : List α}
theorem RD (h : Za (d.R e w base ok v xs)) [u : Nonempty (Upw w w1)] : d.R e w1 base ok v xs := Kd.R_below h.out (u.elim fun x => x.up)
theorem BD (h : Za (Below w0.heap.size w0 w)) [u : Nonempty (Upw w w1)] : Below w0.heap.size w0 w1 := Zbb h.out (u.elim fun x => x.up)
theorem CD {A : Option Addr} {n : Nat} (h : d.C w A n xs) [u : Nonempty (Upw w w1)] : d.C w1 A n xs := Kd.Zav h (u.elim fun x => x.up)
theorem RB (h : Za (d.R e w base ok v xs)) (hb : Below w1.heap.size w1 w2) [u : Nonempty (Upw w w1)] : Za (d.R e w2 base ok v xs) := ⟨Kd.R_below (RD h) hb⟩
theorem RE {u : Value} (h : Za (d.R e w base ok v xs)) (hb : Below w1.heap.size w1 w2) (hu : ∀ k, u.ownBlock = some k → w1.heap.size ≤ k) [i : Nonempty (Upw w w1)] : Za (d.R e w2 base (fun k => ok k ∧ some k ≠ u.ownBlock) v xs) := ⟨Kd.R_elder' (RD h) hu hb⟩
theorem BS (h : Za (Below w0.heap.size w0 w)) (hb : Below w1.heap.size w1 w2) [u : Nonempty (Upw w w1)] : Za (Below w0.heap.size w0 w2) := ⟨Zbb (BD h) hb⟩
theorem VD (h : Za (d.V e w base ok v xs)) [u : Nonempty (Upw w w1)] : d.V e w1 base ok v xs := Kd.Zbh h.out (u.elim fun x => x.up)
end
theorem KB {w w1 : World} {g : Nat} {o : Obj} (h : Za (w.heap[g]? = some o)) [u : Nonempty (Upw w w1)] : w1.heap[g]? = some o := Zam h.out (u.elim fun x => x.up)
theorem cz2 {w : World} {g : Nat} {t : TypeId} {a0 a1 : Value} (h : Za (w.heap[g]? = some (.cells #[a0, a1] t (0, 0)))) : w.cell? ⟨g, 0, none⟩ = some a0 ∧ w.cell? ⟨g, 1, none⟩ = some a1 ∧ w.frozen? ⟨g, 0, none⟩ = false ∧ w.frozen? ⟨g, 1, none⟩ = false := ⟨(Zah h.out 0).trans rfl, (Zah h.out 1).trans rfl, Zcd h.out 0, Zcd h.out 1⟩
theorem cz3 {w : World} {g : Nat} {t : TypeId} {a0 a1 a2 : Value} (h : Za (w.heap[g]? = some (.cells #[a0, a1, a2] t (0, 0)))) : w.cell? ⟨g, 0, none⟩ = some a0 ∧ w.cell? ⟨g, 1, none⟩ = some a1 ∧ w.cell? ⟨g, 2, none⟩ = some a2 ∧ w.frozen? ⟨g, 0, none⟩ = false ∧ w.frozen? ⟨g, 1, none⟩ = false ∧ w.frozen? ⟨g, 2, none⟩ = false := ⟨(Zah h.out 0).trans rfl, (Zah h.out 1).trans rfl, (Zah h.out 2).trans rfl, Zcd h.out 0, Zcd h.out 1, Zcd h.out 2⟩
theorem cz7 {w : World} {g : Nat} {t : TypeId} {a0 a1 a2 a3 a4 a5 a6 : Value} (h : Za (w.heap[g]? = some (.cells #[a0, a1, a2, a3, a4, a5, a6] t (0, 0)))) : w.cell? ⟨g, 0, none⟩ = some a0 ∧ w.cell? ⟨g, 1, none⟩ = some a1 ∧ w.cell? ⟨g, 2, none⟩ = some a2 ∧ w.cell? ⟨g, 3, none⟩ = some a3 ∧ w.cell? ⟨g, 4, none⟩ = some a4 ∧ w.cell? ⟨g, 5, none⟩ = some a5 ∧ w.cell? ⟨g, 6, none⟩ = some a6 ∧ w.frozen? ⟨g, 0, none⟩ = false ∧ w.frozen? ⟨g, 1, none⟩ = false ∧ w.frozen? ⟨g, 2, none⟩ = false ∧ w.frozen? ⟨g, 3, none⟩ = false ∧ w.frozen? ⟨g, 4, none⟩ = false ∧ w.frozen? ⟨g, 5, none⟩ = false ∧ w.frozen? ⟨g, 6, none⟩ = false := ⟨(Zah h.out 0).trans rfl, (Zah h.out 1).trans rfl, (Zah h.out 2).trans rfl, (Zah h.out 3).trans rfl, (Zah h.out 4).trans rfl, (Zah h.out 5).trans rfl, (Zah h.out 6).trans rfl, Zcd h.out 0, Zcd h.out 1, Zcd h.out 2, Zcd h.out 3, Zcd h.out 4, Zcd h.out 5, Zcd h.out 6⟩
theorem cz10 {w : World} {g : Nat} {t : TypeId} {a0 a1 a2 a3 a4 a5 a6 a7 a8 a9 : Value} (h : Za (w.heap[g]? = some (.cells #[a0, a1, a2, a3, a4, a5, a6, a7, a8, a9] t (0, 0)))) : w.cell? ⟨g, 0, none⟩ = some a0 ∧ w.cell? ⟨g, 1, none⟩ = some a1 ∧ w.cell? ⟨g, 2, none⟩ = some a2 ∧ w.cell? ⟨g, 3, none⟩ = some a3 ∧ w.cell? ⟨g, 4, none⟩ = some a4 ∧ w.cell? ⟨g, 5, none⟩ = some a5 ∧ w.cell? ⟨g, 6, none⟩ = some a6 ∧ w.cell? ⟨g, 7, none⟩ = some a7 ∧ w.cell? ⟨g, 8, none⟩ = some a8 ∧ w.cell? ⟨g, 9, none⟩ = some a9 ∧ w.frozen? ⟨g, 0, none⟩ = false ∧ w.frozen? ⟨g, 1, none⟩ = false ∧ w.frozen? ⟨g, 2, none⟩ = false ∧ w.frozen? ⟨g, 3, none⟩ = false ∧ w.frozen? ⟨g, 4, none⟩ = false ∧ w.frozen? ⟨g, 5, none⟩ = false ∧ w.frozen? ⟨g, 6, none⟩ = false ∧ w.frozen? ⟨g, 7, none⟩ = false ∧ w.frozen? ⟨g, 8, none⟩ = false ∧ w.frozen? ⟨g, 9, none⟩ = false := ⟨(Zah h.out 0).trans rfl, (Zah h.out 1).trans rfl, (Zah h.out 2).trans rfl, (Zah h.out 3).trans rfl, (Zah h.out 4).trans rfl, (Zah h.out 5).trans rfl, (Zah h.out 6).trans rfl, (Zah h.out 7).trans rfl, (Zah h.out 8).trans rfl, (Zah h.out 9).trans rfl, Zcd h.out 0, Zcd h.out 1, Zcd h.out 2, Zcd h.out 3, Zcd h.out 4, Zcd h.out 5, Zcd h.out 6, Zcd h.out 7, Zcd h.out 8, Zcd h.out 9⟩
end Go.Proofs.Ytclgclcoblfddaa.P
