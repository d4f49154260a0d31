/- Arguments of any shape that came in, in the printed form. -/
import Derived.Test.YtclgclcoblfddaaPx0
import Derived.ProofKit
import Derived.OpenShut
import Derived.ChangeOld
import Derived.ChangeSlices
namespace Go.Proofs.Ytclgclcoblfddaa
open Go.ChangeShapes Go.WideShapes Go.ChangeAt Go.RowKit Go.Proofs.YtclgclcoblfddaaW.PrintWords
set_option linter.unusedVariables false
section
variable {H : Type} {enc : TypeId × Value → H} {P : Program} {w : World} {base : Nat} {spare : Nat → Bool} {held : Bool} {α : Type}
theorem addr_add_add (a : Addr) (i j : Nat) : (a.add i).add j = a.add (i + j) := by
 unfold Addr.add
 by_cases hi : i = 0
 ·subst hi; simp
 ·by_cases hj : j = 0
  ·subst hj; simp [hi]
  ·simp [hi, hj, Nat.add_assoc]
def Opens (enc : TypeId × Value → H) (P : Program) (w : World) (base : Nat) (spare : Nat → Bool) (held : Bool) (d : Kd α) (t : TypeId) : Prop :=
 P.cellsOf t = d.sz ∧ ∀ fuel cs x, DataW.trod enc P w base spare held fuel t cs = some x → ∃ v, d.K w v cs
theorem opens_int {t : TypeId} {k : IntKind} (ht : P.underlying t = some (.int k)) (hc : P.cellsOf t = 1) : Opens enc P w base spare held (Kd.int k) t :=
 ⟨hc, fun fuel cs x h => by obtain ⟨n, rfl, _⟩ := DataW.trod_int ht h; exact ⟨n, rfl⟩⟩
theorem opens_bool {t : TypeId} (ht : P.underlying t = some .bool) (hc : P.cellsOf t = 1) : Opens enc P w base spare held Kd.bool t :=
 ⟨hc, fun fuel cs x h => by obtain ⟨n, rfl, _⟩ := DataW.trod_bool ht h; exact ⟨n, rfl⟩⟩
theorem cells_at {ad : Addr} : ∀ {n : Nat} {cs : List Value}, w.cells? base ad n = some cs → cs.length = n ∧ ∀ i u, cs[i]? = some u → w.cell? (ad.add i) = some u := by
 intro n cs h
 unfold World.cells? at h
 split at h
 ·have key : ∀ (l : List Nat) (cs : List Value), l.mapM (fun i => w.cell? (ad.add i)) = some cs → cs.length = l.length ∧ ∀ (j : Nat) u, cs[j]? = some u → ∃ i, l[j]? = some i ∧ w.cell? (ad.add i) = some u := by
   intro l
   induction l with
   | nil =>
    intro cs h
    rw [List.mapM_nil] at h
    cases h
    exact ⟨rfl, fun j u hj => by cases hj⟩
   | cons a l ih =>
    intro cs h
    rw [List.mapM_cons] at h
    obtain ⟨b, hb, h⟩ := Option.bind_eq_some_iff.1 h
    obtain ⟨bs, hbs, h⟩ := Option.bind_eq_some_iff.1 h
    cases h
    obtain ⟨h1, h2⟩ := ih bs hbs
    refine ⟨by simp [h1], fun j u hj => ?_⟩
    cases j with
    | zero => cases hj; exact ⟨a, rfl, hb⟩
    | succ j => exact h2 j u (by simpa using hj)
  obtain ⟨h1, h2⟩ := key _ _ h
  refine ⟨by simpa using h1, fun i u hi => ?_⟩
  obtain ⟨k, hk, hu⟩ := h2 i u hi
  have hlt : i < n := by have := (List.getElem?_eq_some_iff.1 hk).1; simpa using this
  rw [List.getElem?_range hlt] at hk
  cases hk
  exact hu
 ·cases h
theorem opens_slice {d : Kd α} {t e : TypeId} (ht : P.underlying t = some (.slice e)) (hc : P.cellsOf t = 1) (hd : Opens enc P w base spare held d e) : Opens enc P w base spare held (Kd.slice e d) t := by
 refine ⟨hc, fun fuel cs x h => ?_⟩
 rcases DataW.trod_slice ht h with ⟨h0, _⟩ | ⟨a, len, cap, elems, rest, n, _, hcs, _, hb, hl, hm, hlen, hel, _, _⟩
 ·exact ⟨[], none, 0, h0, Nat.le_refl _, rfl, by simp, fun h => absurd h (by simp)⟩
 ·have one : ∀ j : Fin len, ∃ v : α, ∃ c, c.length = d.sz ∧ d.K w v c ∧ ∀ i u, c[i]? = some u → w.cell? (a.add (j * d.sz + i)) = some u := by
   intro j
   have h3 := hel j j.2
   have hj2 : (j : Nat) < elems.length := by have := j.2; omega
   rw [List.getElem?_eq_getElem hj2, hd.1] at h3
   obtain ⟨cs1, h4, h5⟩ := Option.bind_eq_some_iff.1 h3
   obtain ⟨v, hv⟩ := hd.2 _ _ _ h5
   obtain ⟨q1, q2⟩ := cells_at h4
   exact ⟨v, cs1, q1, hv, fun i u hi => by rw [← addr_add_add]; exact q2 i u hi⟩
  let f : Fin len → α := fun j => Classical.choose (one j)
  have hf : ∀ j, ∃ c, c.length = d.sz ∧ d.K w (f j) c ∧ ∀ i u, c[i]? = some u → w.cell? (a.add (j * d.sz + i)) = some u := fun j => Classical.choose_spec (one j)
  have hlf : (List.ofFn f).length = len := List.length_ofFn
  refine ⟨List.ofFn f, some a, cap, by rw [hcs, hlf], by rw [hlf]; exact hl, rfl, by rw [hlf]; unfold maxLen at hm; omega, fun _ => ⟨a, rfl, fun j p hj => ?_⟩⟩
  have hjl : j < len := by have := (List.getElem?_eq_some_iff.1 hj).1; rw [hlf] at this; exact this
  rw [List.getElem?_eq_getElem (by rw [hlf]; exact hjl), List.getElem_ofFn] at hj
  have hp : f ⟨j, hjl⟩ = p := Option.some.inj hj
  obtain ⟨c, h1, h2, h3⟩ := hf ⟨j, hjl⟩
  rw [hp] at h2
  exact ⟨c, h1, h2, h3⟩
theorem open_kd {d : Kd α} {t e : TypeId} {r : Reach} {b0 : Nat} {v : Value} {dd : DataW H} {p : List MemPlace} (ht : P.underlying t = some (.slice e)) (hc : P.cellsOf t = 1) (hd : Opens enc P w base spare held d e)
  (hv : Value.okWide P w r b0 t v) (h : DataW.Trod enc P w base spare held t v dd p) : ∃ (l : List α) (A : Option Addr) (cap : Nat), v = .slice A l.length cap ∧ Kd.C d w A l.length l ∧ l.length ≤ cap := by
 obtain ⟨a, len, cap, rfl⟩ := okWide_slice ht hv
 obtain ⟨fuel, hf⟩ := h
 obtain ⟨l, hl⟩ := (opens_slice ht hc hd).2 _ _ _ hf
 obtain ⟨A, c, he, hlc, hC⟩ : ∃ A c, (Value.slice a len cap).cells.toList = [.slice A l.length c] ∧ l.length ≤ c ∧ Kd.C d w A l.length l := hl
 have : [Value.slice a len cap] = [.slice A l.length c] := by simpa [Value.cells] using he
 cases this
 exact ⟨l, _, _, rfl, hC, hlc⟩
theorem cell_kd {d : Kd α} {t e : TypeId} {cs : List Value} {i n : Nat} {y : DataW H × List MemPlace} (ht : P.underlying t = some (.slice e)) (hc : P.cellsOf t = 1) (hd : Opens enc P w base spare held d e)
  (h : DataW.trod enc P w base spare held n t ((cs.drop i).take 1) = some y) : ∃ (l : List α) (A : Option Addr) (cap : Nat), cs[i]? = some (.slice A l.length cap) ∧ Kd.C d w A l.length l ∧ l.length ≤ cap := by
 obtain ⟨l, hl⟩ := (opens_slice ht hc hd).2 _ _ _ h
 obtain ⟨A, c, he, hlc, hC⟩ : ∃ A c, (cs.drop i).take 1 = [.slice A l.length c] ∧ l.length ≤ c ∧ Kd.C d w A l.length l := hl
 refine ⟨l, A, c, ?_, hC, hlc⟩
 have : ((cs.drop i).take 1)[0]? = some (.slice A l.length c) := by rw [he]; rfl
 rw [List.getElem?_take, if_pos (by omega), List.getElem?_drop] at this
 exact this
end
end Go.Proofs.Ytclgclcoblfddaa
