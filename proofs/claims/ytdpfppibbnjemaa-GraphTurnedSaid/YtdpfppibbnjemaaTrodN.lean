/- Chapter 19: units that came in. -/
import Derived.Test.YtdpfppibbnjemaaRows
import Derived.Test.YtdpfppibbnjemaaNamed
import Derived.ProofKit
import Derived.OpenShut
import Derived.ChangeOld
import Derived.ChangeSlices
namespace Go.Proofs.Ytdpfppibbnjemaa
open Go.ChangeShapes Go.WideShapes Go.ChangeAt Go.RowKit
set_option linter.unusedVariables false
set_option maxRecDepth 100000
section
variable {H : Type} {enc : TypeId × Value → H} {w : World} {base : Nat} {spare : Nat → Bool} {held : Bool}
theorem spotless {w : World} {ad : Addr} {v : Value} (h : w.cell? ad = some v) : ad = ⟨ad.block, ad.off, none⟩ := by
  unfold World.cell? at h
  split at h
  · split at h
    · cases h
    · rename_i hs
      cases ad with
      | mk b o s =>
        cases s with
        | none => rfl
        | some x => exact absurd rfl hs
  · cases h
theorem add_plain (b o j : Nat) : (⟨b, o, none⟩ : Addr).add j = ⟨b, o + j, none⟩ := by
  unfold Addr.add
  split
  · rename_i e; rw [e]; rfl
  · rfl
theorem addr_add_add (a : Addr) (i j : Nat) : (a.add i).add j = a.add (i + j) := by
  unfold Addr.add
  by_cases hi : i = 0
  · subst hi; simp
  · by_cases hj : j = 0
    · subst hj; simp [hi]
    · simp [hi, hj, Nat.add_assoc]
theorem cells_at {ad : Addr} : ∀ {n : Nat} {cs : List Value}, w.cells? base ad n = some cs → cs.length = n ∧ ∀ i u, cs[i]? = some u → w.cell? (ad.add i) = some u := by
  intro n cs h
  unfold World.cells? at h
  split at h
  · have key : ∀ (l : List Nat) (cs : List Value), l.mapM (fun i => w.cell? (ad.add i)) = some cs → cs.length = l.length ∧ ∀ (j : Nat) u, cs[j]? = some u → ∃ i, l[j]? = some i ∧ w.cell? (ad.add i) = some u := by
      intro l
      induction l with
      | nil =>
        intro cs h
        rw [List.mapM_nil] at h
        cases h
        exact ⟨rfl, fun j u hj => by cases hj⟩
      | cons a l ih =>
        intro cs h
        rw [List.mapM_cons] at h
        obtain ⟨b, hb, h⟩ := Option.bind_eq_some_iff.1 h
        obtain ⟨bs, hbs, h⟩ := Option.bind_eq_some_iff.1 h
        cases h
        obtain ⟨h1, h2⟩ := ih bs hbs
        refine ⟨by simp [h1], fun j u hj => ?_⟩
        cases j with
        | zero => cases hj; exact ⟨a, rfl, hb⟩
        | succ j => exact h2 j u (by simpa using hj)
    obtain ⟨h1, h2⟩ := key _ _ h
    refine ⟨by simpa using h1, fun i u hi => ?_⟩
    obtain ⟨k, hk, hu⟩ := h2 i u hi
    have hlt : i < n := by have := (List.getElem?_eq_some_iff.1 hk).1; simpa using this
    rw [List.getElem?_range hlt] at hk
    cases hk
    exact hu
  · cases h
/-- What came in of a slice, element by element. -/
theorem open_elems {t e : TypeId} {n fuel : Nat} {cs : List Value} {x : DataW H × List MemPlace} {α : Type} (R : α → List Value → Prop) (ht : Try.prog.underlying t = some (.slice e)) (hc : Try.prog.cellsOf e = n)
    (hR : ∀ fuel cs x, DataW.trod enc Try.prog w base spare held fuel e cs = some x → ∃ v, R v cs) (h : DataW.trod enc Try.prog w base spare held fuel t cs = some x) :
    ∃ (l : List α) (A : Option Addr) (cap : Nat), cs = [.slice A l.length cap] ∧ l.length ≤ maxLen ∧ (l = [] ∨ ∃ a, A = some a ∧ ∀ (j : Nat) (v : α), l[j]? = some v → ∃ c, c.length = n ∧ R v c ∧ ∀ i u, c[i]? = some u → w.cell? (a.add (j * n + i)) = some u) ∧ ∀ v ∈ l, ∃ c, R v c := by
  rcases DataW.trod_slice ht h with ⟨h0, _⟩ | ⟨a, len, cap, elems, rest, m, _, hcs, _, hb, hl, hm, hlen, hel, _, _⟩
  · exact ⟨[], none, 0, h0, by simp, .inl rfl, fun v hv => by cases hv⟩
  · have one : ∀ j : Fin len, ∃ v : α, ∃ c, c.length = n ∧ R v c ∧ ∀ i u, c[i]? = some u → w.cell? (a.add (j * n + i)) = some u := by
      intro j
      have h3 := hel j j.2
      have hj2 : (j : Nat) < elems.length := by have := j.2; omega
      rw [List.getElem?_eq_getElem hj2, hc] at h3
      obtain ⟨cs1, h4, h5⟩ := Option.bind_eq_some_iff.1 h3
      obtain ⟨v, hv⟩ := hR _ _ _ h5
      obtain ⟨q1, q2⟩ := cells_at h4
      exact ⟨v, cs1, q1, hv, fun i u hi => by rw [← addr_add_add]; exact q2 i u hi⟩
    let f : Fin len → α := fun j => Classical.choose (one j)
    have hf : ∀ j, ∃ c, c.length = n ∧ R (f j) c ∧ ∀ i u, c[i]? = some u → w.cell? (a.add (j * n + i)) = some u := fun j => Classical.choose_spec (one j)
    have hlf : (List.ofFn f).length = len := List.length_ofFn
    have hget : ∀ (j : Nat) (v : α), (List.ofFn f)[j]? = some v → ∃ hj : j < len, v = f ⟨j, hj⟩ := fun j v hj => by
      have hjl : j < len := by have := (List.getElem?_eq_some_iff.1 hj).1; rw [hlf] at this; exact this
      rw [List.getElem?_eq_getElem (by rw [hlf]; exact hjl), List.getElem_ofFn] at hj
      exact ⟨hjl, (Option.some.inj hj).symm⟩
    refine ⟨List.ofFn f, some a, cap, by rw [hcs, hlf], by rw [hlf]; omega, .inr ⟨a, rfl, fun j v hj => ?_⟩, fun v hv => ?_⟩
    · obtain ⟨hjl, rfl⟩ := hget j v hj
      exact hf ⟨j, hjl⟩
    · obtain ⟨j, hj⟩ := List.getElem?_of_mem hv
      obtain ⟨hjl, rfl⟩ := hget j v hj
      obtain ⟨c, _, h, _⟩ := hf ⟨j, hjl⟩
      exact ⟨c, h⟩
theorem open_strs {fuel : Nat} {cs : List Value} {x : DataW H × List MemPlace} (h : DataW.trod enc Try.prog w base spare held fuel 39 cs = some x) : ∃ s : SK, cs = [s.val] ∧ RdV w s.A (s.ss.map .string) ∧ s.ss.length ≤ maxLen := by
  obtain ⟨l, A, cap, rfl, h1, h2, _⟩ := open_elems (α := ByteArray) (n := 1) (fun s cs => cs = [.string s]) Try.underlying39 (by kernel_rfl) (fun fuel cs x h => by obtain ⟨s, rfl, _⟩ := DataW.trod_string Try.underlying9 h; exact ⟨s, rfl⟩) h
  refine ⟨⟨A, cap, l⟩, rfl, ?_, h1⟩
  rcases h2 with rfl | ⟨a, rfl, hc⟩
  · exact .inl rfl
  · cases l with
    | nil => exact .inl rfl
    | cons s0 l =>
      obtain ⟨c, _, rfl, hc0⟩ := hc 0 s0 rfl
      have hs := spotless (hc0 0 _ rfl)
      have ha : a = ⟨a.block, a.off, none⟩ := by
        have e : a.add (0 * 1 + 0) = a := by simp [Addr.add]
        rwa [e] at hs
      refine .inr ⟨a.block, a.off, congrArg some ha, fun j v hj => ?_⟩
      rw [List.getElem?_map] at hj
      obtain ⟨s, hs, rfl⟩ := Option.map_eq_some_iff.1 hj
      obtain ⟨c, _, rfl, hc1⟩ := hc j s hs
      have := hc1 0 _ rfl
      rw [Nat.mul_one, Nat.add_zero, ha, add_plain] at this
      exact this
theorem open_row {fuel : Nat} {cs : List Value} {x : DataW H × List MemPlace} (h : DataW.trod enc Try.prog w base spare held fuel 55 cs = some x) : ∃ r : NR, cs = r.cells ∧ r.ok w ∧ ∀ s ∈ r.ks, s.ss.length ≤ maxLen := by
  obtain ⟨xs, n, _, _, hlen, hxl, hel⟩ := DataW.trod_struct Try.underlying55 h
  have h8 : Try.prog.cellsOf 55 = 8 := by kernel_rfl
  rw [h8] at hlen
  have e0 : DataW.trod enc Try.prog w base spare held n 9 ((cs.drop 0).take (Try.prog.cellsOf 9)) = xs[0]? := hel 0 _ rfl
  have e1 : DataW.trod enc Try.prog w base spare held n 53 ((cs.drop 1).take (Try.prog.cellsOf 53)) = xs[1]? := hel 1 _ rfl
  have hx : ∀ i, i < 2 → ∃ y, xs[i]? = some y := fun i hi => ⟨_, List.getElem?_eq_getElem (by rw [hxl]; exact hi)⟩
  obtain ⟨y0, hy0⟩ := hx 0 (by omega)
  obtain ⟨y1, hy1⟩ := hx 1 (by omega)
  have hc0 : Try.prog.cellsOf 9 = 1 := by kernel_rfl
  have hc1 : Try.prog.cellsOf 53 = 7 := by kernel_rfl
  have hc2 : Try.prog.cellsOf 39 = 1 := by kernel_rfl
  rw [hy0, hc0] at e0
  rw [hy1, hc1] at e1
  obtain ⟨nm, hnm, _⟩ := DataW.trod_string Try.underlying9 e0
  obtain ⟨ys, m, _, _, _, hyl, hye⟩ := DataW.trod_array Try.underlying53 e1
  match cs, hlen with
  | [c0, c1, c2, c3, c4, c5, c6, c7], _ =>
    have one : ∀ i, i < 7 → ∃ s : SK, ([c1, c2, c3, c4, c5, c6, c7].drop i).take 1 = [s.val] ∧ RdV w s.A (s.ss.map .string) ∧ s.ss.length ≤ maxLen := fun i hi => by
      have h1 := hye i hi
      rw [hc2, Nat.mul_one, List.getElem?_eq_getElem (by rw [hyl]; exact hi)] at h1
      exact open_strs h1
    obtain ⟨s0, a0, b0, d0⟩ := one 0 (by omega)
    obtain ⟨s1, a1, b1, d1⟩ := one 1 (by omega)
    obtain ⟨s2, a2, b2, d2⟩ := one 2 (by omega)
    obtain ⟨s3, a3, b3, d3⟩ := one 3 (by omega)
    obtain ⟨s4, a4, b4, d4⟩ := one 4 (by omega)
    obtain ⟨s5, a5, b5, d5⟩ := one 5 (by omega)
    obtain ⟨s6, a6, b6, d6⟩ := one 6 (by omega)
    simp only [List.drop_zero, List.drop_succ_cons, List.take_succ_cons, List.take_zero, List.cons.injEq, and_true] at a0 a1 a2 a3 a4 a5 a6 hnm
    subst a0 a1 a2 a3 a4 a5 a6 hnm
    refine ⟨⟨nm, [s0, s1, s2, s3, s4, s5, s6]⟩, rfl, ⟨rfl, fun s hs => ?_⟩, fun s hs => ?_⟩
    · simp only [List.mem_cons, List.not_mem_nil, or_false] at hs
      rcases hs with rfl | rfl | rfl | rfl | rfl | rfl | rfl <;> assumption
    · simp only [List.mem_cons, List.not_mem_nil, or_false] at hs
      rcases hs with rfl | rfl | rfl | rfl | rfl | rfl | rfl <;> assumption
theorem open_named {r : Reach} {b0 : Nat} {v : Value} {d : DataW H} {p : List MemPlace} (hv : Value.okWide Try.prog w r b0 22 v) (h : DataW.Trod enc Try.prog w base spare held 22 v d p) :
    ∃ (l : List NR) (A : Option Addr) (cap : Nat), v = .slice A l.length cap ∧ RdN w A l ∧ l.length ≤ maxLen ∧ ∀ x ∈ l, ∀ s ∈ x.ks, s.ss.length ≤ maxLen := by
  obtain ⟨a, len, cap, rfl⟩ := okWide_slice Try.underlying22 hv
  obtain ⟨fuel, hf⟩ := h
  obtain ⟨l, A, c, he, hl, h1, h2⟩ := open_elems (α := NR) (n := 8) (fun x cs => cs = x.cells ∧ x.ok w ∧ ∀ s ∈ x.ks, s.ss.length ≤ maxLen) Try.underlying22 (by kernel_rfl) (fun fuel cs x h => open_row h) hf
  have e : [Value.slice a len cap] = [.slice A l.length c] := by simpa [Value.cells] using he
  cases e
  refine ⟨l, _, _, rfl, ⟨?_, fun x hx => by obtain ⟨_, _, h, _⟩ := h2 x hx; exact h⟩, hl, fun x hx => by obtain ⟨_, _, _, h⟩ := h2 x hx; exact h⟩
  rcases h1 with h1 | ⟨a, rfl, hc⟩
  · exact .inl h1
  · cases l with
    | nil => exact .inl rfl
    | cons x0 l =>
      obtain ⟨c, _, ⟨rfl, _⟩, hc0⟩ := hc 0 x0 rfl
      have hs := spotless (hc0 0 _ rfl)
      have ha : a = ⟨a.block, a.off, none⟩ := by
        have e : a.add (0 * 8 + 0) = a := by simp [Addr.add]
        rwa [e] at hs
      refine .inr ⟨a.block, a.off, congrArg some ha, fun j x hj i u hu => ?_⟩
      obtain ⟨c, _, ⟨rfl, _⟩, hc1⟩ := hc j x hj
      have := hc1 i u hu
      rw [ha, add_plain, ← Nat.add_assoc] at this
      exact this
end
end Go.Proofs.Ytdpfppibbnjemaa
