/- Chapter 23: what CycleKnown needs: the laws as contracts, graphs that the law builds. -/
import Derived.Test.YthlobpdcolgcoaaPLawR
import Derived.Test.YthlobpdcolgcoaaLawMany
import Derived.Test.YthlobpdcolgcoaaGraphK
namespace Go.Proofs.Ythlobpdcolgcoaa
open Go.RowKit Go.Maps Go.Lib Go.Proofs.YthlobpdcolgcoaaW.PrintWords
set_option linter.unusedVariables false
set_option linter.unusedSimpArgs false

/-- A row that the law has built, in none of the blocks that it writes. -/
def RowV (W : World) (N : Nat → Prop) (u : Value) : Prop := ∃ (A : Option Addr) (xs : List Int) (c : Nat), u = .slice A xs.length c ∧ xs.length ≤ c ∧ xs.length ≤ 100 ∧ (xs ≠ [] → ∃ h, A = some ⟨h, 0, none⟩ ∧ N h ∧ Blk W h (ints xs) 3)
theorem RowV.nil (W : World) (N : Nat → Prop) (A : Option Addr) (c : Nat) : RowV W N (.slice A 0 c) := ⟨A, [], c, rfl, Nat.zero_le _, by simp, fun h => absurd rfl h⟩
theorem RowV.keep {W W' : World} {N N' : Nat → Prop} {u : Value} (h : RowV W N u) (hk : ∀ k, N k → k < W.heap.size → N' k ∧ W'.heap[k]? = W.heap[k]?) : RowV W' N' u := by
  obtain ⟨A, xs, c, e, h1, h2, h3⟩ := h
  refine ⟨A, xs, c, e, h1, h2, fun hne => ?_⟩
  obtain ⟨h, hA, hN, hb⟩ := h3 hne
  obtain ⟨k1, k2⟩ := hk h hN hb.lt
  exact ⟨h, hA, k1, k2.trans hb⟩
theorem RowV.ext {W W' : World} {N : Nat → Prop} {u : Value} (h : RowV W N u) (hx : Ext W W') : RowV W' N u := h.keep fun k hN hk => ⟨hN, hx.block k hk⟩
theorem RowV.new {W : World} {N : Nat → Prop} {h : Nat} {xs : List Int} (hb : Blk W h (ints xs) 3) (hN : N h) (hl : xs.length ≤ 100) (c : Nat) (hc : xs.length ≤ c) : RowV W N (.slice (some ⟨h, 0, none⟩) xs.length c) :=
  ⟨_, xs, c, rfl, hc, hl, fun _ => ⟨h, rfl, hN, hb⟩⟩
theorem RowV.kd {W : World} {N : Nat → Prop} {u : Value} (h : RowV W N u) : ∃ (A : Option Addr) (xs : List Int) (c : Nat), u = .slice A xs.length c ∧ xs.length ≤ c ∧ Kd.C (Kd.int .i64) W A xs.length xs := by
  obtain ⟨A, xs, c, e, h1, h2, h3⟩ := h
  refine ⟨A, xs, c, e, h1, rfl, by omega, fun hp => ?_⟩
  obtain ⟨h, hA, _, hb⟩ := h3 (List.length_pos_iff.1 hp)
  refine ⟨_, hA, fun j p hj => ⟨[.int .i64 p], rfl, rfl, fun i v hi => ?_⟩⟩
  have hz : (Kd.int IntKind.i64).sz = 1 := rfl
  cases i with
  | zero =>
    cases hi
    rw [hz, Nat.mul_one, Nat.add_zero, add_of rfl, Nat.zero_add]
    exact hb.cell j (by simp [ints, hj])
  | succ i => simp at hi
/-- A table of such rows. -/
theorem tabK_of {W : World} {N : Nat → Prop} {A : Option Addr} {vs : List Value} {c : Nat} (h : RdV W A vs) (hv : ∀ v ∈ vs, RowV W N v) (hl : vs.length ≤ 100) (hc : vs.length ≤ c) : TabK W (.slice A vs.length c) := by
  have one : ∀ j : Fin vs.length, ∃ xs : List Int, ∃ (A : Option Addr) (c : Nat), vs[j] = .slice A xs.length c ∧ xs.length ≤ c ∧ Kd.C (Kd.int .i64) W A xs.length xs := by
    intro j
    obtain ⟨A, xs, c, e, h1, h2⟩ := (hv _ (List.getElem_mem j.2)).kd
    exact ⟨xs, A, c, e, h1, h2⟩
  let f : Fin vs.length → List Int := fun j => Classical.choose (one j)
  have hf : ∀ j, ∃ (A : Option Addr) (c : Nat), vs[j] = .slice A (f j).length c ∧ (f j).length ≤ c ∧ Kd.C (Kd.int .i64) W A (f j).length (f j) := fun j => Classical.choose_spec (one j)
  have hlf : (List.ofFn f).length = vs.length := List.length_ofFn
  refine ⟨List.ofFn f, A, c, by rw [hlf], ⟨rfl, by rw [hlf]; omega, fun hp => ?_⟩, by rw [hlf]; exact hc⟩
  rcases h with h | ⟨b, o, rfl, hcl⟩
  · rw [hlf, h] at hp; simp at hp
  · refine ⟨_, rfl, fun j p hj => ?_⟩
    have hjl : j < vs.length := by have := (List.getElem?_eq_some_iff.1 hj).1; rw [hlf] at this; exact this
    rw [List.getElem?_eq_getElem (by rw [hlf]; exact hjl), List.getElem_ofFn] at hj
    have hp' : f ⟨j, hjl⟩ = p := Option.some.inj hj
    obtain ⟨A', c', e, h1, h2⟩ := hf ⟨j, hjl⟩
    rw [hp'] at e h1 h2
    refine ⟨[.slice A' p.length c'], rfl, ⟨A', c', rfl, h1, h2⟩, fun i u hi => ?_⟩
    have hz : (Kd.slice 3 (Kd.int IntKind.i64)).sz = 1 := rfl
    cases i with
    | zero =>
      cases hi
      rw [hz, Nat.mul_one, Nat.add_zero, add_of rfl]
      exact hcl j _ (by rw [List.getElem?_eq_getElem hjl]; exact congrArg some e)
    | succ i => simp at hi
theorem TabK.ext {W W' : World} {v : Value} (h : TabK W v) (hx : Ext W W') : TabK W' v := by
  obtain ⟨l, A, c, e, h1, h2⟩ := h
  exact ⟨l, A, c, e, Kd.C_below h1 hx, h2⟩
theorem TabK.nil (W : World) : TabK W (.slice none 0 0) := ⟨[], none, 0, rfl, ⟨rfl, by simp, fun h => by simp at h⟩, Nat.zero_le _⟩
def csK (v4 v5 : Value) : List Value := [.slice none 0 0, .slice none 0 0, .slice none 0 0, .slice none 0 0, v4, v5, .slice none 0 0, .slice none 0 0, .slice none 0 0, .slice none 0 0]
theorem gr_of {W : World} {v4 v5 : Value} (h4 : TabK W v4) (h5 : TabK W v5) : ∃ af be, GR W (csK v4 v5) af be := by
  obtain ⟨l4, A4, c4, rfl, k4, q4⟩ := h4
  obtain ⟨l5, A5, c5, rfl, k5, q5⟩ := h5
  obtain ⟨rs1, e1, r1, b1, n1⟩ := rdr_of k4
  obtain ⟨rs2, e2, r2, b2, n2⟩ := rdr_of k5
  refine ⟨l4, l5, A4, c4, rs1, A5, c5, rs2, rfl, ?_, ?_, r1, r2, e1, e2, b1, b2, n1, n2⟩
  · rw [← e1, rows_length]; rfl
  · rw [← e2, rows_length]; rfl
def ofIt (i : It) : P.S30 := ⟨⟨i.u, i.t⟩, i.m⟩
theorem kdC_items {w : World} {A : Option Addr} {l : List It} (h : RdI w A l) (hl : l.length ≤ 9223372036854775807) : Kd.C P.k30 w A l.length (l.map ofIt) := by
  refine ⟨by rw [List.length_map], hl, fun hp => ?_⟩
  rcases h with h | ⟨b, o, hA, hc⟩
  · rw [h] at hp; simp at hp
  · refine ⟨⟨b, o, none⟩, hA, fun j x hj => ?_⟩
    rw [List.getElem?_map] at hj
    cases hx : l[j]? with
    | none => rw [hx] at hj; cases hj
    | some i =>
      rw [hx] at hj
      cases hj
      obtain ⟨f0, f1, f2⟩ := hc j i.u i.t i.m hx
      refine ⟨[.int .i64 i.u, .int .u8 i.t, .bool i.m], rfl, P.k30_mk w (ofIt i), fun m v hm => ?_⟩
      have hz : P.k30.sz = 3 := rfl
      rw [hz, add_of rfl]
      match m, hm with
      | 0, hm => cases hm; exact f0
      | 1, hm => cases hm; exact f1
      | 2, hm => cases hm; exact f2
theorem big_of' {w : World} {A : Option Addr} {l : List (List Int)} (h : Kd.C (Kd.slice 3 (Kd.int .i64)) w A l.length l) : Big l := by
  obtain ⟨rs, rfl, _, h1, h2⟩ := rdr_of h
  refine ⟨by rw [rows_length]; exact h2, fun r hr => ?_⟩
  obtain ⟨x, hx, rfl⟩ := List.mem_map.1 hr
  exact h1 x hx
/-- The laws of this chapter, of a graph that the law has built. -/
theorem kn_ahead {W : World} {v4 v5 : Value} (h4 : TabK W v4) (h5 : TabK W v5) (u t v s : Int) :
    Calls Try.prog 3 #[.agg (csK v4 v5).toArray, .agg #[.int .i64 u, .int .u8 t], .agg #[.int .i64 v, .int .u8 s]] W fun e w' => e = .returned (.bool true) ∧ Ext W w' := by
  obtain ⟨af, be, h⟩ := gr_of h4 h5
  exact law_ahead _ af be u t v s W h
theorem kn_many {W : World} {v4 v5 : Value} (h4 : TabK W v4) (h5 : TabK W v5) {l : List It} {A : Option Addr} {cap : Nat} (hr : RdI W A l) (hcap : l.length ≤ cap) (hl : l.length ≤ 100) (u t : Int) (m : Bool) :
    Calls Try.prog 4 #[.agg (csK v4 v5).toArray, .slice A l.length cap, .agg #[.int .i64 u, .int .u8 t, .bool m]] W fun e w' => e = .returned (.bool true) ∧ Ext W w' := by
  obtain ⟨af, be, h⟩ := gr_of h4 h5
  exact law_many _ af be l u t m A cap W h hr hcap (by omega)
theorem kn_ring {W : World} {v4 v5 : Value} (h4 : TabK W v4) (h5 : TabK W v5) {l : List It} {A : Option Addr} {cap : Nat} (hr : RdI W A l) (hcap : l.length ≤ cap) (hl : l.length ≤ 100) :
    Calls Try.prog 6 #[.agg (csK v4 v5).toArray, .slice A l.length cap] W fun e w' => e = .returned (.bool true) ∧ Ext W w' := by
  obtain ⟨l4, A4, c4, rfl, k4, q4⟩ := h4
  obtain ⟨l5, A5, c5, rfl, k5, q5⟩ := h5
  have hn : Kd.C (Kd.slice 3 (Kd.int .i64)) W none ([] : List (List Int)).length [] := ⟨rfl, by simp, fun h => by simp at h⟩
  have z : ([] : List (List Int)).length ≤ 0 := Nat.le_refl _
  obtain ⟨k, hk⟩ := (ring_law [] [] [] [] l4 l5 [] [] [] [] (big_of' k4) (big_of' k5) (l.map ofIt)).one
  have hC : Kd.C P.k30 W A (l.map ofIt).length (l.map ofIt) := by rw [List.length_map]; exact kdC_items hr (by omega)
  have := P.clepsydralaw23_CycleRing.calls k none 0 [] none 0 [] none 0 [] none 0 [] A4 c4 l4 A5 c5 l5 none 0 [] none 0 [] none 0 [] none 0 [] A cap (l.map ofIt) true W hn z hn z hn z hn z k4 q4 k5 q5 hn z hn z hn z hn z hC (by rw [List.length_map]; exact hcap) hk
  rw [List.length_map] at this
  exact this
/-- The first graphs: two rows of two. -/
structure K1 (W : World) (q g1 g2 : Nat) : Prop where
  bq : Blk W q (csK (.slice (some ⟨g1, 0, none⟩) 2 2) (.slice (some ⟨g2, 0, none⟩) 2 2)) 24
  rows : ∃ vs1 vs2 : List Value, vs1.length = 2 ∧ vs2.length = 2 ∧ Blk W g1 vs1 40 ∧ Blk W g2 vs2 40 ∧ ∀ v ∈ vs1 ++ vs2, RowV W (fun h => h ≠ q ∧ h ≠ g1 ∧ h ≠ g2) v
  ne : q ≠ g1 ∧ q ≠ g2 ∧ g1 ≠ g2
theorem K1.tab1 {W : World} {q g1 g2 : Nat} (h : K1 W q g1 g2) : TabK W (.slice (some ⟨g1, 0, none⟩) 2 2) := by
  obtain ⟨vs1, vs2, l1, l2, b1, b2, hv⟩ := h.rows
  have := tabK_of (c := 2) (Blk.rdv b1) (fun v hv' => hv v (List.mem_append_left _ hv')) (by omega) (by omega)
  rwa [l1] at this
theorem K1.tab2 {W : World} {q g1 g2 : Nat} (h : K1 W q g1 g2) : TabK W (.slice (some ⟨g2, 0, none⟩) 2 2) := by
  obtain ⟨vs1, vs2, l1, l2, b1, b2, hv⟩ := h.rows
  have := tabK_of (c := 2) (Blk.rdv b2) (fun v hv' => hv v (List.mem_append_right _ hv')) (by omega) (by omega)
  rwa [l2] at this
theorem K1.ext {W W' : World} {q g1 g2 : Nat} (h : K1 W q g1 g2) (hx : Ext W W') : K1 W' q g1 g2 := by
  obtain ⟨vs1, vs2, l1, l2, b1, b2, hv⟩ := h.rows
  exact ⟨h.bq.ext hx, ⟨vs1, vs2, l1, l2, b1.ext hx, b2.ext hx, fun v hv' => (hv v hv').ext hx⟩, h.ne⟩
theorem K1.facts {W : World} {q g1 g2 : Nat} (h : K1 W q g1 g2) : (∃ u, ∀ o, (W.alloc o).cell? ⟨g1, 0, none⟩ = some u) ∧ (∃ u, ∀ o, (W.alloc o).cell? ⟨g1, 1, none⟩ = some u) ∧ (∃ u, ∀ o, (W.alloc o).cell? ⟨g2, 0, none⟩ = some u) ∧ (∃ u, ∀ o, (W.alloc o).cell? ⟨g2, 1, none⟩ = some u) ∧
    W.cell? ⟨q, 4, none⟩ = some (.slice (some ⟨g1, 0, none⟩) 2 2) ∧ W.cell? ⟨q, 5, none⟩ = some (.slice (some ⟨g2, 0, none⟩) 2 2) ∧ (∀ o i, (W.alloc o).frozen? ⟨g1, i, none⟩ = false) ∧ ∀ o i, (W.alloc o).frozen? ⟨g2, i, none⟩ = false := by
  obtain ⟨vs1, vs2, l1, l2, b1, b2, hv⟩ := h.rows
  have at' : ∀ (g : Nat) (vs : List Value) (i : Nat), vs.length = 2 → i < 2 → Blk W g vs 40 → ∃ u, ∀ o, (W.alloc o).cell? ⟨g, i, none⟩ = some u := fun g vs i hl hi hb => ⟨vs[i]'(by omega), fun o => (hb.alloc o).cell i (List.getElem?_eq_getElem (by omega))⟩
  exact ⟨at' _ _ 0 l1 (by omega) b1, at' _ _ 1 l1 (by omega) b1, at' _ _ 0 l2 (by omega) b2, at' _ _ 1 l2 (by omega) b2, h.bq.cell 4 rfl, h.bq.cell 5 rfl, fun o => (b1.alloc o).frozen, fun o => (b2.alloc o).frozen⟩
/-- A new row is put into a place of the first table, or of the second one. -/
theorem K1.put1 {W : World} {q g1 g2 : Nat} (h : K1 W q g1 g2) (i : Nat) (xs : List Int) (hl : xs.length ≤ 100) :
    K1 ((W.alloc (.cells (ints xs).toArray 3)).setCell ⟨g1, i, none⟩ (.slice (some ⟨W.heap.size, 0, none⟩) xs.length xs.length)) q g1 g2 := by
  obtain ⟨vs1, vs2, l1, l2, b1, b2, hv⟩ := h.rows
  obtain ⟨n1, n2, n3⟩ := h.ne
  have hq := h.bq.lt
  have hg1 := b1.lt
  have hg2 := b2.lt
  have keep : ∀ (k : Nat), k ≠ g1 → k < W.heap.size → ((W.alloc (.cells (ints xs).toArray 3)).setCell ⟨g1, i, none⟩ (.slice (some ⟨W.heap.size, 0, none⟩) xs.length xs.length)).heap[k]? = W.heap[k]? := fun k hk hlt =>
    (((But.refl g1 _).set i _).block k (by rw [World.size_alloc]; omega) hk).trans (((Ext.refl W).alloc _).block k hlt)
  refine ⟨(keep q n1 hq).trans h.bq, ⟨vs1.set i _, vs2, by simp [l1], l2, (b1.alloc _).set i _, (keep g2 (Ne.symm n3) hg2).trans b2, fun v hv' => ?_⟩, h.ne⟩
  have old : ∀ v ∈ vs1 ++ vs2, RowV ((W.alloc (.cells (ints xs).toArray 3)).setCell ⟨g1, i, none⟩ (.slice (some ⟨W.heap.size, 0, none⟩) xs.length xs.length)) (fun h => h ≠ q ∧ h ≠ g1 ∧ h ≠ g2) v := fun v hv' => (hv v hv').keep fun k hN hk => ⟨hN, keep k hN.2.1 hk⟩
  rcases List.mem_append.1 hv' with hv' | hv'
  · rcases List.mem_or_eq_of_mem_set hv' with hv' | rfl
    · exact old v (List.mem_append_left _ hv')
    · exact RowV.new ((Blk.new W (ints xs) _).other (show W.heap.size ≠ g1 by omega) _) ⟨by omega, by omega, by omega⟩ hl _ (Nat.le_refl _)
  · exact old v (List.mem_append_right _ hv')
theorem K1.put2 {W : World} {q g1 g2 : Nat} (h : K1 W q g1 g2) (i : Nat) (xs : List Int) (hl : xs.length ≤ 100) :
    K1 ((W.alloc (.cells (ints xs).toArray 3)).setCell ⟨g2, i, none⟩ (.slice (some ⟨W.heap.size, 0, none⟩) xs.length xs.length)) q g1 g2 := by
  obtain ⟨vs1, vs2, l1, l2, b1, b2, hv⟩ := h.rows
  obtain ⟨n1, n2, n3⟩ := h.ne
  have hq := h.bq.lt
  have hg1 := b1.lt
  have hg2 := b2.lt
  have keep : ∀ (k : Nat), k ≠ g2 → k < W.heap.size → ((W.alloc (.cells (ints xs).toArray 3)).setCell ⟨g2, i, none⟩ (.slice (some ⟨W.heap.size, 0, none⟩) xs.length xs.length)).heap[k]? = W.heap[k]? := fun k hk hlt =>
    (((But.refl g2 _).set i _).block k (by rw [World.size_alloc]; omega) hk).trans (((Ext.refl W).alloc _).block k hlt)
  refine ⟨(keep q n2 hq).trans h.bq, ⟨vs1, vs2.set i _, l1, by simp [l2], (keep g1 n3 hg1).trans b1, (b2.alloc _).set i _, fun v hv' => ?_⟩, h.ne⟩
  have old : ∀ v ∈ vs1 ++ vs2, RowV ((W.alloc (.cells (ints xs).toArray 3)).setCell ⟨g2, i, none⟩ (.slice (some ⟨W.heap.size, 0, none⟩) xs.length xs.length)) (fun h => h ≠ q ∧ h ≠ g1 ∧ h ≠ g2) v := fun v hv' => (hv v hv').keep fun k hN hk => ⟨hN, keep k hN.2.2 hk⟩
  rcases List.mem_append.1 hv' with hv' | hv'
  · exact old v (List.mem_append_left _ hv')
  · rcases List.mem_or_eq_of_mem_set hv' with hv' | rfl
    · exact old v (List.mem_append_right _ hv')
    · exact RowV.new ((Blk.new W (ints xs) _).other (show W.heap.size ≠ g2 by omega) _) ⟨by omega, by omega, by omega⟩ hl _ (Nat.le_refl _)
end Go.Proofs.Ythlobpdcolgcoaa
