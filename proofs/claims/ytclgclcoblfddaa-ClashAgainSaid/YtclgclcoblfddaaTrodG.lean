/- Graphs, rows of bools and of jobs that came in, by hand (no print). -/
import Derived.Test.YtclgclcoblfddaaRowC0
import Derived.Test.YtclgclcoblfddaaPulls
import Derived.Test.YtclgclcoblfddaaSorted
import Derived.Test.YtclgclcoblfddaaReachL
namespace Go.Proofs.Ytclgclcoblfddaa
open Go.ChangeShapes Go.WideShapes Go.ChangeAt Go.RowKit
set_option linter.unusedVariables false
set_option maxRecDepth 100000
section
variable {H : Type} {enc : TypeId × Value → H} {w : World} {base : Nat} {spare : Nat → Bool} {held : Bool}
theorem addr_add_add (a : Addr) (i j : Nat) : (a.add i).add j = a.add (i + j) := by
  unfold Addr.add
  by_cases hi : i = 0
  · subst hi; simp
  · by_cases hj : j = 0
    · subst hj; simp [hi]
    · simp [hi, hj, Nat.add_assoc]
theorem cells_at {ad : Addr} : ∀ {n : Nat} {cs : List Value}, w.cells? base ad n = some cs → cs.length = n ∧ ∀ i u, cs[i]? = some u → w.cell? (ad.add i) = some u := by
  intro n cs h
  unfold World.cells? at h
  split at h
  · have key : ∀ (l : List Nat) (cs : List Value), l.mapM (fun i => w.cell? (ad.add i)) = some cs → cs.length = l.length ∧ ∀ (j : Nat) u, cs[j]? = some u → ∃ i, l[j]? = some i ∧ w.cell? (ad.add i) = some u := by
      intro l
      induction l with
      | nil =>
        intro cs h
        rw [List.mapM_nil] at h
        cases h
        exact ⟨rfl, fun j u hj => by cases hj⟩
      | cons a l ih =>
        intro cs h
        rw [List.mapM_cons] at h
        obtain ⟨b, hb, h⟩ := Option.bind_eq_some_iff.1 h
        obtain ⟨bs, hbs, h⟩ := Option.bind_eq_some_iff.1 h
        cases h
        obtain ⟨h1, h2⟩ := ih bs hbs
        refine ⟨by simp [h1], fun j u hj => ?_⟩
        cases j with
        | zero => cases hj; exact ⟨a, rfl, hb⟩
        | succ j => exact h2 j u (by simpa using hj)
    obtain ⟨h1, h2⟩ := key _ _ h
    refine ⟨by simpa using h1, fun i u hi => ?_⟩
    obtain ⟨k, hk, hu⟩ := h2 i u hi
    have hlt : i < n := by have := (List.getElem?_eq_some_iff.1 hk).1; simpa using this
    rw [List.getElem?_range hlt] at hk
    cases hk
    exact hu
  · cases h
/-- What came in of a slice, element by element. -/
theorem open_elems {t e : TypeId} {n fuel : Nat} {cs : List Value} {x : DataW H × List MemPlace} {α : Type} (R : α → List Value → Prop) (ht : Try.prog.underlying t = some (.slice e)) (hc : Try.prog.cellsOf e = n)
    (hR : ∀ fuel cs x, DataW.trod enc Try.prog w base spare held fuel e cs = some x → ∃ v, R v cs) (h : DataW.trod enc Try.prog w base spare held fuel t cs = some x) :
    ∃ (l : List α) (A : Option Addr) (cap : Nat), cs = [.slice A l.length cap] ∧ l.length ≤ maxLen ∧ (l = [] ∨ ∃ a, A = some a ∧ ∀ (j : Nat) (v : α), l[j]? = some v → ∃ c, c.length = n ∧ R v c ∧ ∀ i u, c[i]? = some u → w.cell? (a.add (j * n + i)) = some u) ∧ ∀ v ∈ l, ∃ c, R v c := by
  rcases DataW.trod_slice ht h with ⟨h0, _⟩ | ⟨a, len, cap, elems, rest, m, _, hcs, _, hb, hl, hm, hlen, hel, _, _⟩
  · exact ⟨[], none, 0, h0, by simp, .inl rfl, fun v hv => by cases hv⟩
  · have one : ∀ j : Fin len, ∃ v : α, ∃ c, c.length = n ∧ R v c ∧ ∀ i u, c[i]? = some u → w.cell? (a.add (j * n + i)) = some u := by
      intro j
      have h3 := hel j j.2
      have hj2 : (j : Nat) < elems.length := by have := j.2; omega
      rw [List.getElem?_eq_getElem hj2, hc] at h3
      obtain ⟨cs1, h4, h5⟩ := Option.bind_eq_some_iff.1 h3
      obtain ⟨v, hv⟩ := hR _ _ _ h5
      obtain ⟨q1, q2⟩ := cells_at h4
      exact ⟨v, cs1, q1, hv, fun i u hi => by rw [← addr_add_add]; exact q2 i u hi⟩
    let f : Fin len → α := fun j => Classical.choose (one j)
    have hf : ∀ j, ∃ c, c.length = n ∧ R (f j) c ∧ ∀ i u, c[i]? = some u → w.cell? (a.add (j * n + i)) = some u := fun j => Classical.choose_spec (one j)
    have hlf : (List.ofFn f).length = len := List.length_ofFn
    have hget : ∀ (j : Nat) (v : α), (List.ofFn f)[j]? = some v → ∃ hj : j < len, v = f ⟨j, hj⟩ := fun j v hj => by
      have hjl : j < len := by have := (List.getElem?_eq_some_iff.1 hj).1; rw [hlf] at this; exact this
      rw [List.getElem?_eq_getElem (by rw [hlf]; exact hjl), List.getElem_ofFn] at hj
      exact ⟨hjl, (Option.some.inj hj).symm⟩
    refine ⟨List.ofFn f, some a, cap, by rw [hcs, hlf], by rw [hlf]; omega, .inr ⟨a, rfl, fun j v hj => ?_⟩, fun v hv => ?_⟩
    · obtain ⟨hjl, rfl⟩ := hget j v hj
      exact hf ⟨j, hjl⟩
    · obtain ⟨j, hj⟩ := List.getElem?_of_mem hv
      obtain ⟨hjl, rfl⟩ := hget j v hj
      obtain ⟨c, _, h, _⟩ := hf ⟨j, hjl⟩
      exact ⟨c, h⟩
/-- Elements of one cell. -/
theorem flat_rdv {α : Type} {f : α → Value} {R : α → List Value → Prop} (hf : ∀ v c, R v c → c = [f v]) {A : Option Addr} {l : List α}
    (h : l = [] ∨ ∃ a, A = some a ∧ ∀ (j : Nat) (v : α), l[j]? = some v → ∃ c, c.length = 1 ∧ R v c ∧ ∀ i u, c[i]? = some u → w.cell? (a.add (j * 1 + i)) = some u) : RdV w A (l.map f) := by
  rcases h with rfl | ⟨a, rfl, hc⟩
  · exact .inl rfl
  · cases l with
    | nil => exact .inl rfl
    | cons s0 l =>
      obtain ⟨c, _, hr, hc0⟩ := hc 0 s0 rfl
      obtain rfl := hf _ _ hr
      have hs := spotless (hc0 0 _ rfl)
      have ha : a = ⟨a.block, a.off, none⟩ := by
        have e : a.add (0 * 1 + 0) = a := by simp [Addr.add]
        rwa [e] at hs
      refine .inr ⟨a.block, a.off, congrArg some ha, fun j v hj => ?_⟩
      rw [List.getElem?_map] at hj
      obtain ⟨s, hs, rfl⟩ := Option.map_eq_some_iff.1 hj
      obtain ⟨c, _, hr, hc1⟩ := hc j s hs
      obtain rfl := hf _ _ hr
      have := hc1 0 _ rfl
      rw [Nat.mul_one, Nat.add_zero, ha, add_plain] at this
      exact this
/-- A row of places. -/
theorem open_ints {fuel : Nat} {cs : List Value} {x : DataW H × List MemPlace} (h : DataW.trod enc Try.prog w base spare held fuel 60 cs = some x) : ∃ r : Row, cs = [r.val] ∧ RdV w r.A (ints r.xs) ∧ r.xs.length ≤ maxLen := by
  obtain ⟨l, A, cap, rfl, h1, h2, _⟩ := open_elems (α := Int) (n := 1) (fun s cs => cs = [.int .i64 s]) Try.underlying60 (by kernel_rfl) (fun fuel cs x h => by obtain ⟨s, rfl, _⟩ := DataW.trod_int Try.underlying3 h; exact ⟨s, rfl⟩) h
  exact ⟨⟨A, cap, l⟩, rfl, flat_rdv (fun _ _ h => h) h2, h1⟩
/-- A table that came in, however great. -/
def Tb.rd (w : World) (b : Tb) : Prop := RdR w b.A b.rs ∧ b.rs.length ≤ maxLen ∧ ∀ r ∈ b.rs, r.xs.length ≤ maxLen
theorem open_tab {fuel : Nat} {cs : List Value} {x : DataW H × List MemPlace} (h : DataW.trod enc Try.prog w base spare held fuel 22 cs = some x) : ∃ b : Tb, cs = [b.v] ∧ b.rd w := by
  obtain ⟨l, A, cap, rfl, h1, h2, h3⟩ := open_elems (α := Row) (n := 1) (fun r cs => cs = [r.val] ∧ RdV w r.A (ints r.xs) ∧ r.xs.length ≤ maxLen) Try.underlying22 (by kernel_rfl) (fun fuel cs x h => open_ints h) h
  exact ⟨⟨A, l, cap⟩, rfl, ⟨flat_rdv (fun _ _ h => h.1) h2, fun r hr => by obtain ⟨_, _, h, _⟩ := h3 r hr; exact h⟩, h1, fun r hr => by obtain ⟨_, _, _, h⟩ := h3 r hr; exact h⟩
/-- A graph that came in. -/
structure G7.rd (W : World) (G : G7) : Prop where
  k0 : G.t0.rd W
  k1 : G.t1.rd W
  k2 : G.t2.rd W
  k6 : G.t6.rd W
  k7 : G.t7.rd W
  k8 : G.t8.rd W
  k9 : G.t9.rd W
theorem open_graph {r : Reach} {b0 : Nat} {v : Value} {d : DataW H} {p : List MemPlace}
    (hv : Value.okWide Try.prog w r b0 24 v) (h : DataW.Trod enc Try.prog w base spare held 24 v d p) : ∃ G : G7, v = .agg G.cs.toArray ∧ G.rd w := by
  unfold Value.okWide at hv
  rw [Try.underlying24] at hv
  obtain ⟨cs, rfl, hsz, _⟩ := hv
  obtain ⟨fuel, hf⟩ := h
  obtain ⟨xs, n, _, _, hlen, hxl, hel⟩ := DataW.trod_struct Try.underlying24 hf
  have hcs : (Value.agg cs).cells = cs := rfl
  rw [hcs] at hlen hel
  have h10 : Try.prog.cellsOf 24 = 10 := by kernel_rfl
  rw [h10] at hlen
  have hc22 : Try.prog.cellsOf 22 = 1 := by kernel_rfl
  have hx : ∀ i, i < 10 → ∃ y, xs[i]? = some y := fun i hi => ⟨_, List.getElem?_eq_getElem (by rw [hxl]; exact hi)⟩
  have one : ∀ i, i < 10 → DataW.trod enc Try.prog w base spare held n 22 ((cs.toList.drop i).take (Try.prog.cellsOf 22)) = xs[i]? → ∃ b : Tb, cs.toList[i]? = some b.v ∧ b.rd w := by
    intro i hi e
    obtain ⟨y, hy⟩ := hx i hi
    rw [hy, hc22] at e
    obtain ⟨b, h1, h2⟩ := open_tab e
    exact ⟨b, part_one h1, h2⟩
  obtain ⟨b0, e0, t0⟩ := one 0 (by omega) (hel 0 _ rfl)
  obtain ⟨b1, e1, t1⟩ := one 1 (by omega) (hel 1 _ rfl)
  obtain ⟨b2, e2, t2⟩ := one 2 (by omega) (hel 2 _ rfl)
  obtain ⟨b3, e3, t3⟩ := one 3 (by omega) (hel 3 _ rfl)
  obtain ⟨b4, e4, t4⟩ := one 4 (by omega) (hel 4 _ rfl)
  obtain ⟨b5, e5, t5⟩ := one 5 (by omega) (hel 5 _ rfl)
  obtain ⟨b6, e6, t6⟩ := one 6 (by omega) (hel 6 _ rfl)
  obtain ⟨b7, e7, t7⟩ := one 7 (by omega) (hel 7 _ rfl)
  obtain ⟨b8, e8, t8⟩ := one 8 (by omega) (hel 8 _ rfl)
  obtain ⟨b9, e9, t9⟩ := one 9 (by omega) (hel 9 _ rfl)
  refine ⟨⟨b0, b1, b2, b3.v, b4.v, b5.v, b6, b7, b8, b9⟩, ?_, ⟨t0, t1, t2, t6, t7, t8, t9⟩⟩
  obtain ⟨l⟩ := cs
  match l, hlen with
  | [a0, a1, a2, a3, a4, a5, a6, a7, a8, a9], _ =>
    cases e0; cases e1; cases e2; cases e3; cases e4; cases e5; cases e6; cases e7; cases e8; cases e9
    rfl
theorem open_slice {α : Type} {t e : TypeId} {n : Nat} {R : α → List Value → Prop} {r : Reach} {b0 : Nat} {v : Value} {d : DataW H} {p : List MemPlace} (ht : Try.prog.underlying t = some (.slice e)) (hc : Try.prog.cellsOf e = n)
    (hR : ∀ fuel cs x, DataW.trod enc Try.prog w base spare held fuel e cs = some x → ∃ v, R v cs) (hv : Value.okWide Try.prog w r b0 t v) (h : DataW.Trod enc Try.prog w base spare held t v d p) :
    ∃ (l : List α) (A : Option Addr) (cap : Nat), v = .slice A l.length cap ∧ l.length ≤ cap ∧ l.length ≤ maxLen ∧ (l = [] ∨ ∃ a, A = some a ∧ ∀ (j : Nat) (v : α), l[j]? = some v → ∃ c, c.length = n ∧ R v c ∧ ∀ i u, c[i]? = some u → w.cell? (a.add (j * n + i)) = some u) := by
  obtain ⟨a, len, cap, rfl⟩ := okWide_slice ht hv
  obtain ⟨fuel, hf⟩ := h
  have hlc : len ≤ cap := by
    rcases DataW.trod_slice ht hf with ⟨h0, _⟩ | ⟨a', len', cap', _, _, _, _, h1, _, _, h2, _⟩
    · have e : [Value.slice a len cap] = [.slice none 0 0] := by simpa [Value.cells] using h0
      cases e
      exact Nat.le_refl _
    · have e : [Value.slice a len cap] = [.slice (some a') len' cap'] := by simpa [Value.cells] using h1
      cases e
      exact h2
  obtain ⟨l, A, c, he, hl, h1, _⟩ := open_elems R ht hc hR hf
  have e : [Value.slice a len cap] = [.slice A l.length c] := by simpa [Value.cells] using he
  cases e
  exact ⟨l, _, _, rfl, hlc, hl, h1⟩
theorem open_bools {r : Reach} {b0 : Nat} {v : Value} {d : DataW H} {p : List MemPlace}
    (hv : Value.okWide Try.prog w r b0 25 v) (h : DataW.Trod enc Try.prog w base spare held 25 v d p) :
    ∃ (l : List Bool) (A : Option Addr) (cap : Nat), v = .slice A l.length cap ∧ l.length ≤ cap ∧ l.length ≤ maxLen ∧ RdV w A (l.map .bool) := by
  obtain ⟨l, A, cap, h1, h2, h3, h4⟩ := open_slice (α := Bool) (n := 1) (R := fun s cs => cs = [.bool s]) Try.underlying25 (by kernel_rfl) (fun fuel cs x h => by obtain ⟨s, rfl, _⟩ := DataW.trod_bool Try.underlying4 h; exact ⟨s, rfl⟩) hv h
  exact ⟨l, A, cap, h1, h2, h3, flat_rdv (fun _ _ h => h) h4⟩
theorem trod_job {fuel : Nat} {cs : List Value} {x : DataW H × List MemPlace} (h : DataW.trod enc Try.prog w base spare held fuel 32 cs = some x) : ∃ j : Jb, cs = [.int .i64 j.1, .int .u8 j.2] := by
  obtain ⟨xs, n, _, _, hlen, hxl, hel⟩ := DataW.trod_struct Try.underlying32 h
  have h2 : Try.prog.cellsOf 32 = 2 := by kernel_rfl
  have hci : Try.prog.cellsOf 3 = 1 := by kernel_rfl
  have hcu : Try.prog.cellsOf 5 = 1 := by kernel_rfl
  rw [h2] at hlen
  have e0 : DataW.trod enc Try.prog w base spare held n 3 ((cs.drop 0).take (Try.prog.cellsOf 3)) = xs[0]? := hel 0 _ rfl
  have e1 : DataW.trod enc Try.prog w base spare held n 5 ((cs.drop 1).take (Try.prog.cellsOf 5)) = xs[1]? := hel 1 _ rfl
  have hx : ∀ i, i < 2 → ∃ y, xs[i]? = some y := fun i hi => ⟨_, List.getElem?_eq_getElem (by rw [hxl]; exact hi)⟩
  obtain ⟨y0, hy0⟩ := hx 0 (by omega)
  obtain ⟨y1, hy1⟩ := hx 1 (by omega)
  rw [hy0, hci] at e0
  rw [hy1, hcu] at e1
  obtain ⟨u, hu, _⟩ := DataW.trod_int Try.underlying3 e0
  obtain ⟨t, ht, _⟩ := DataW.trod_int Try.underlying5 e1
  match cs, hlen with
  | [a, b], _ =>
    simp at hu ht
    subst hu ht
    exact ⟨(u, t), rfl⟩
theorem open_jobs {r : Reach} {b0 : Nat} {v : Value} {d : DataW H} {p : List MemPlace}
    (hv : Value.okWide Try.prog w r b0 36 v) (h : DataW.Trod enc Try.prog w base spare held 36 v d p) :
    ∃ (l : List Jb) (A : Option Addr) (cap : Nat), v = .slice A l.length cap ∧ l.length ≤ cap ∧ l.length ≤ maxLen ∧ RdJ w A l := by
  obtain ⟨l, A, cap, h1, h2, h3, h4⟩ := open_slice (α := Jb) (n := 2) (R := fun j cs => cs = [.int .i64 j.1, .int .u8 j.2]) Try.underlying36 (by kernel_rfl) (fun fuel cs x h => trod_job h) hv h
  refine ⟨l, A, cap, h1, h2, h3, ?_⟩
  rcases h4 with h4 | ⟨a, rfl, hc⟩
  · exact .inl h4
  · cases l with
    | nil => exact .inl rfl
    | cons x0 l =>
      obtain ⟨c, _, rfl, hc0⟩ := hc 0 x0 rfl
      have hs := spotless (hc0 0 _ rfl)
      have ha : a = ⟨a.block, a.off, none⟩ := by
        have e : a.add (0 * 2 + 0) = a := by simp [Addr.add]
        rwa [e] at hs
      refine .inr ⟨a.block, a.off, congrArg some ha, fun j u t hj => ?_⟩
      obtain ⟨c, _, rfl, hc1⟩ := hc j (u, t) hj
      have g0 := hc1 0 _ rfl
      have g1 := hc1 1 _ rfl
      rw [ha, add_plain] at g0 g1
      rw [← Nat.add_assoc] at g0 g1
      exact ⟨g0, g1⟩
end
end Go.Proofs.Ytclgclcoblfddaa
