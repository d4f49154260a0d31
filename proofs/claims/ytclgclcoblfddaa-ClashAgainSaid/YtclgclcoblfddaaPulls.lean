/- Chapter 21: Pulls. -/
import Derived.Test.YtclgclcoblfddaaPut
import Derived.Test.YtclgclcoblfddaaWholeA
namespace Go.Proofs.Ytclgclcoblfddaa
open Go.RowKit Go.Shelf
set_option linter.unusedVariables false
set_option linter.unusedSimpArgs false

theorem Blk.rdv {W : World} {g : Nat} {cs : List Value} {T : TypeId} (h : Blk W g cs T) : RdV W (some ⟨g, 0, none⟩) cs := .inr ⟨g, 0, rfl, fun j v hv => by rw [Nat.zero_add]; exact h.cell j hv⟩
/-- A graph: the tables that are read. -/
structure G7 where
  t0 : Tb
  t1 : Tb
  t2 : Tb
  v3 : Value
  v4 : Value
  v5 : Value
  t6 : Tb
  t7 : Tb
  t8 : Tb
  t9 : Tb
def G7.cs (G : G7) : List Value := [G.t0.v, G.t1.v, G.t2.v, G.v3, G.v4, G.v5, G.t6.v, G.t7.v, G.t8.v, G.t9.v]
structure G7.ok (W : World) (G : G7) : Prop where
  k0 : G.t0.ok W
  k1 : G.t1.ok W
  k2 : G.t2.ok W
  k6 : G.t6.ok W
  k7 : G.t7.ok W
  k8 : G.t8.ok W
  k9 : G.t9.ok W
/-- .. plainly. -/
structure GL where
  req : List (List Int)
  wants : List (List Int)
  binds : List (List Int)
  conf : List (List Int)
  reqBy : List (List Int)
  bound : List (List Int)
  parts : List (List Int)
def G7.l (G : G7) : GL := ⟨G.t0.l, G.t1.l, G.t2.l, G.t6.l, G.t7.l, G.t8.l, G.t9.l⟩
def pullsL (g : GL) (on : List Bool) (u t : Int) : List It :=
  if 0 ≤ u ∧ u < on.length ∧ knownB t = true then
    (if t = 2 then [] else plPut on u 1 true false [g.req, g.binds] ++ plPut on u 1 false false [g.wants] ++ plPut on u 2 true false [g.conf]) ++
    (if t = 1 then [] else plPut on u t true true [g.reqBy, g.bound, g.parts])
  else []
/-- What stands while Pulls runs. -/
structure PSt (w0 : World) (G : G7) (Aon : Option Addr) (con : Nat) (on : List Bool) (u t : Int) (l : List It) (W : World) : Prop where
  box : ∃ v, Boxed W (w0.heap.size + 1 + 1 + 1) 53 v ∧ W.ownsRow w0.heap.size 55 3 v l.length (itCells l) ∧ ∀ k, v.ownBlock = some k → w0.heap.size + 1 + 1 + 1 < k
  bg : Blk W w0.heap.size G.cs 24
  bon : Boxed W (w0.heap.size + 1) 25 (.slice Aon on.length con)
  bj : Blk W (w0.heap.size + 1 + 1) [.int .i64 u, .int .u8 t] 32
  bel : Below w0.heap.size w0 W
theorem PSt.keep {w0 W W' : World} {G : G7} {Aon : Option Addr} {con : Nat} {on : List Bool} {u t : Int} {l : List It} (h : PSt w0 G Aon con on u t l W) (hx : Ext W W') : PSt w0 G Aon con on u t l W' := by
  obtain ⟨v, h1, h2, h3⟩ := h.box
  exact ⟨⟨v, Boxed.keep h1 hx, Owns.ext h2 hx, h3⟩, h.bg.ext hx, Boxed.keep h.bon hx, h.bj.ext hx, h.bel.trans (hx.mono h.bel.size)⟩
theorem PSt.fresh {w0 W : World} {G : G7} {Aon : Option Addr} {con : Nat} {on : List Bool} {u t : Int} {l : List It} (h : PSt w0 G Aon con on u t l W) (o : Obj) (v : Value) (hv : Boxed (W.alloc o) (w0.heap.size + 1 + 1 + 1) 53 v) : v.ownBlock ≠ some W.heap.size := by
  obtain ⟨v', h1, h2, h3⟩ := h.box
  have e : v = v' := by
    have := (show _ = _ from hv).symm.trans (h1.alloc o)
    simpa using this
  subst e
  intro e
  have := (h2.lt _ e).2
  omega
theorem PSt.big {w0 W : World} {G : G7} {Aon : Option Addr} {con : Nat} {on : List Bool} {u t : Int} {l : List It} (h : PSt w0 G Aon con on u t l W) : w0.heap.size + 1 + 1 + 1 < W.heap.size := by
  obtain ⟨v', h1, _⟩ := h.box
  exact h1.lt
theorem put_step (w0 W : World) (G : G7) (Aon : Option Addr) (con : Nat) (on : List Bool) (u : Nat) (t : Int) (l : List It) (h : PSt w0 G Aon con on u t l W) (hob : RdV w0 Aon (on.map .bool)) (hol : on.length ≤ 1000) (hne : on ≠ [])
    (t' : Int) (m only : Bool) (tbs : List Tb) (htb : ∀ tb ∈ tbs, tb.ok w0) (htl : tbs.length ≤ 10) (hl : l.length ≤ 100000) (b3 c3 : Nat) (hb3 : Blk W b3 (tbs.map Tb.v) 22) (h3 : w0.heap.size + 1 + 1 + 1 < b3) (hnew : ∀ v, Boxed W (w0.heap.size + 1 + 1 + 1) 53 v → v.ownBlock ≠ some b3) :
    Calls Try.prog 52 #[.int .u8 t', .bool m, .bool only, .slice (some ⟨b3, 0, none⟩) tbs.length c3, .pointer (some ⟨w0.heap.size + 1 + 1, 0, none⟩), .pointer (some ⟨w0.heap.size + 1, 0, none⟩), .pointer (some ⟨w0.heap.size + 1 + 1 + 1, 0, none⟩)] W
      fun e W' => (∃ v, e = .returned v) ∧ PSt w0 G Aon con on u t (l ++ plPut on u t' m only (tbs.map Tb.l)) W' := by
  obtain ⟨v, bv, ov, cv⟩ := h.box
  have hlt := bv.lt
  have hold : Below w0.heap.size w0 W := h.bel
  have hobW : ∀ a, Aon = some a → a.block < w0.heap.size := by
    intro a ha
    rcases hob with hr | ⟨b, o, e, hc⟩
    · exact absurd (List.map_eq_nil_iff.1 hr) hne
    · rw [e] at ha; cases ha
      obtain ⟨x, hx⟩ := List.exists_mem_of_ne_nil _ hne
      obtain ⟨j, hj⟩ := List.getElem?_of_mem hx
      have h9 := World.cell?_lt (hc j (.bool x) (by rw [List.getElem?_map, hj]; rfl))
      exact h9
  have hRd : RdV W Aon (on.map .bool) := by
    rcases hob with hr | ⟨b, o, e, hc⟩
    · exact .inl hr
    · exact .inr ⟨b, o, e, fun j y hy => by
        have h1 := hc j y hy
        have h2 : b < w0.heap.size := World.cell?_lt h1
        rw [← h1]; simp [World.cell?, hold.block b h2]⟩
  refine (callsIn_wide.1 (put_calls 3 (Nat.le_refl _) w0.heap.size (w0.heap.size + 1 + 1) (w0.heap.size + 1) (w0.heap.size + 1 + 1 + 1) u con c3 t' m only on Aon (some ⟨b3, 0, none⟩) tbs l v w0 W (h.bj.cell 0 rfl) h.bon hRd hol bv ov (by omega) (Blk.rdv hb3) htb hold (Nat.le_refl _) (by omega) (by omega)
    (fun e => by have := cv _ e; omega) (fun e => by have := cv _ e; omega) (by omega) (fun a ha => ⟨by have := hobW a ha; omega, fun e => by have := hobW a ha; have := cv _ e; omega⟩) (fun a ha => by cases ha; exact ⟨by simp only; omega, hnew v bv⟩) hl htl)).mono ?_
  rintro e W' ⟨hr, hP⟩
  refine ⟨hr, ?_⟩
  have keepB : ∀ k, k < w0.heap.size + 1 + 1 + 1 → W'.heap[k]? = W.heap[k]? := fun k hk => hP.kp k ⟨by omega, by omega, fun e => by have := cv _ e; omega⟩
  obtain ⟨v', h1, h2, h3'⟩ := hP.box
  exact ⟨⟨v', h1, h2, fun k hk => by
    rcases h3' k hk with h4 | h4
    · exact cv k h4
    · omega⟩, (keepB _ (by omega)).trans h.bg, (keepB _ (by omega)).trans h.bon, (keepB _ (by omega)).trans h.bj, h.bel.trans hP.bel⟩
set_option maxRecDepth 100000 in
set_option maxHeartbeats 4000000 in
theorem pulls_calls (w : World) (G : G7) (Aon : Option Addr) (con : Nat) (on : List Bool) (u t : Int) (hG : G.ok w) (hob : RdV w Aon (on.map .bool)) (hol : on.length ≤ 1000) :
    Calls Try.prog 24 #[.agg G.cs.toArray, .slice Aon on.length con, .agg #[.int .i64 u, .int .u8 t]] w
      fun e w' => ∃ v, e = .returned v ∧ w'.ownsRow w.heap.size 55 3 v (pullsL G.l on u t).length (itCells (pullsL G.l on u t)) ∧ Below w.heap.size w w' := by
  have KN := Lib.hid known_calls
  have HN := Lib.hid hob
  have HG := Lib.hid hG
  clear hob hG
  by_cases h0 : 0 ≤ u
  case neg =>
    have hu : u < 0 := by omega
    rw [show pullsL G.l on u t = [] from if_neg (by omega)]
    go_enter Try.func24, Try.ntmps24
    go_wp2_with fail
    go_ret
    exact ⟨_, rfl, World.ownsRow_nil _ _ _ _, (((Ext.refl w).alloc _).alloc _).alloc _⟩
  obtain ⟨p, rfl⟩ : ∃ p : Nat, u = p := ⟨u.toNat, by omega⟩
  by_cases h1 : p < on.length
  case neg =>
    have hu : ¬ (p : Int) < on.length := by omega
    have hu' : (on.length : Int) ≤ p := by omega
    rw [show pullsL G.l on p t = [] from if_neg (by omega)]
    go_enter Try.func24, Try.ntmps24
    go_wp2_with fail
    go_ret
    exact ⟨_, rfl, World.ownsRow_nil _ _ _ _, (((Ext.refl w).alloc _).alloc _).alloc _⟩
  have hu : (p : Int) < on.length := by omega
  have hu' : ¬ (on.length : Int) ≤ p := by omega
  cases hk : knownB t
  case false =>
    rw [show pullsL G.l on p t = [] from if_neg (by rw [hk]; simp)]
    go_enter Try.func24, Try.ntmps24
    go_wp2_with fail
    refine (KN.out _ _).mono ?_
    rintro e W ⟨rfl, rfl⟩
    rw [hk]
    go_wp2_with fail
    go_ret
    exact ⟨_, rfl, World.ownsRow_nil _ _ _ _, (((Ext.refl w).alloc _).alloc _).alloc _⟩
  have hp0 : pullsL G.l on p t = (if t = 2 then [] else plPut on p 1 true false [G.t0.l, G.t2.l] ++ plPut on p 1 false false [G.t1.l] ++ plPut on p 2 true false [G.t6.l]) ++ (if t = 1 then [] else plPut on p t true true [G.t7.l, G.t8.l, G.t9.l]) := if_pos ⟨h0, hu, hk⟩
  rw [hp0]
  clear hp0
  have HNE := Lib.hid (show on ≠ [] from fun e => by rw [e] at h1; simp at h1)
  have HB := Lib.hid fun (t' : Int) (m only : Bool) (tbs : List Tb) (h : ∀ tb ∈ tbs, tb.ok w) => (plPut_length on p t' m only 1000 (tbs.map Tb.l) (by
    intro tb htm r hr
    obtain ⟨tb', h1, rfl⟩ := List.mem_map.1 htm
    obtain ⟨r', h2, rfl⟩ := List.mem_map.1 hr
    exact (h tb' h1).2.2 r' h2))
  simp only [List.length_map] at HB
  have ht : t = 1 ∨ t = 2 ∨ t = 3 := by
    simp only [knownB, Bool.and_eq_true, decide_eq_true_eq] at hk
    omega
  go_enter Try.func24, Try.ntmps24
  go_wp2_with fail
  refine (KN.out _ _).mono ?_
  rintro e W ⟨rfl, rfl⟩
  rw [hk]
  go_upto_region 5 with (fail)
  refine wp_gen (fun W => PSt w G Aon con on p t [] W) ?_ ?_
  · have hs : ((w.alloc (.cells G.cs.toArray 24)).alloc (.cells #[.slice Aon on.length con] 25)).heap.size = w.heap.size + 1 + 1 := by simp
    refine ⟨⟨.slice none 0 0, ?_, World.ownsRow_nil _ _ _ _, fun k h => by cases h⟩, ?_, ?_, ?_, ((((Ext.refl w).alloc _).alloc _).alloc _).alloc _⟩
    · have := Boxed.new (((w.alloc (.cells G.cs.toArray 24)).alloc (.cells #[.slice Aon on.length con] 25)).alloc (.cells #[.int .i64 p, .int .u8 t] 32)) 53 (.slice none 0 0)
      simp only [World.size_alloc] at this
      exact this
    · exact (((Blk.newAt w G.cs _ _ rfl).alloc _).alloc _).alloc _
    · have := ((Boxed.new (w.alloc (.cells G.cs.toArray 24)) 25 (.slice Aon on.length con)).alloc (.cells #[.int .i64 p, .int .u8 t] 32)).alloc (.cells #[.slice none 0 0] 53)
      simp only [World.size_alloc] at this
      exact this
    · exact (Blk.newAt ((w.alloc (.cells G.cs.toArray 24)).alloc (.cells #[.slice Aon on.length con] 25)) [.int .i64 p, .int .u8 t] _ _ hs.symm).alloc _
  intro W0 hP
  clear hk
  rcases ht with rfl | rfl | rfl
  · skip
    have g0 : W0.cell? ⟨w.heap.size, 0, none⟩ = some (.slice G.t0.A G.t0.rs.length G.t0.c) := hP.bg.cell 0 rfl
    have g1 : W0.cell? ⟨w.heap.size, 1, none⟩ = some (.slice G.t1.A G.t1.rs.length G.t1.c) := hP.bg.cell 1 rfl
    have g2 : W0.cell? ⟨w.heap.size, 2, none⟩ = some (.slice G.t2.A G.t2.rs.length G.t2.c) := hP.bg.cell 2 rfl
    have g6 : W0.cell? ⟨w.heap.size, 6, none⟩ = some (.slice G.t6.A G.t6.rs.length G.t6.c) := hP.bg.cell 6 rfl
    have g7 : W0.cell? ⟨w.heap.size, 7, none⟩ = some (.slice G.t7.A G.t7.rs.length G.t7.c) := hP.bg.cell 7 rfl
    have g8 : W0.cell? ⟨w.heap.size, 8, none⟩ = some (.slice G.t8.A G.t8.rs.length G.t8.c) := hP.bg.cell 8 rfl
    have g9 : W0.cell? ⟨w.heap.size, 9, none⟩ = some (.slice G.t9.A G.t9.rs.length G.t9.c) := hP.bg.cell 9 rfl
    have gj : W0.cell? ⟨w.heap.size + 1 + 1, 1, none⟩ = some (.int .u8 1) := hP.bj.cell 1 rfl
    go_wp2_with fail
    clear g0 g1 g2 g6 g7 g8 g9 gj
    refine (put_step w _ G Aon con on p 1 _ (hP.keep ((Ext.refl _).alloc _)) HN.out hol HNE.out 1 true false [G.t0, G.t2] (List.forall_mem_cons.2 ⟨HG.out.k0, (List.forall_mem_cons.2 ⟨HG.out.k2, (fun _ h => by cases h)⟩)⟩) (by simp) (by
      simp only [List.length_append, List.length_nil]
      omega) W0.heap.size 2 (Blk.newAt W0 [.slice G.t0.A G.t0.rs.length G.t0.c, .slice G.t2.A G.t2.rs.length G.t2.c] _ _ rfl) hP.big (fun v hv => hP.fresh _ v hv)).mono ?_
    rintro e W1 ⟨⟨v0, rfl⟩, hP1⟩
    clear hP
    have hP := hP1
    clear hP1
    have g0 : W1.cell? ⟨w.heap.size, 0, none⟩ = some (.slice G.t0.A G.t0.rs.length G.t0.c) := hP.bg.cell 0 rfl
    have g1 : W1.cell? ⟨w.heap.size, 1, none⟩ = some (.slice G.t1.A G.t1.rs.length G.t1.c) := hP.bg.cell 1 rfl
    have g2 : W1.cell? ⟨w.heap.size, 2, none⟩ = some (.slice G.t2.A G.t2.rs.length G.t2.c) := hP.bg.cell 2 rfl
    have g6 : W1.cell? ⟨w.heap.size, 6, none⟩ = some (.slice G.t6.A G.t6.rs.length G.t6.c) := hP.bg.cell 6 rfl
    have g7 : W1.cell? ⟨w.heap.size, 7, none⟩ = some (.slice G.t7.A G.t7.rs.length G.t7.c) := hP.bg.cell 7 rfl
    have g8 : W1.cell? ⟨w.heap.size, 8, none⟩ = some (.slice G.t8.A G.t8.rs.length G.t8.c) := hP.bg.cell 8 rfl
    have g9 : W1.cell? ⟨w.heap.size, 9, none⟩ = some (.slice G.t9.A G.t9.rs.length G.t9.c) := hP.bg.cell 9 rfl
    have gj : W1.cell? ⟨w.heap.size + 1 + 1, 1, none⟩ = some (.int .u8 1) := hP.bj.cell 1 rfl
    go_wp2_with fail
    clear g0 g1 g2 g6 g7 g8 g9 gj
    refine (put_step w _ G Aon con on p 1 _ (hP.keep ((Ext.refl _).alloc _)) HN.out hol HNE.out 1 false false [G.t1] (List.forall_mem_cons.2 ⟨HG.out.k1, (fun _ h => by cases h)⟩) (by simp) (by
      simp only [List.length_append, List.length_nil]
      have b0 := HB.out 1 true false [G.t0, G.t2] (List.forall_mem_cons.2 ⟨HG.out.k0, (List.forall_mem_cons.2 ⟨HG.out.k2, (fun _ h => by cases h)⟩)⟩)
      simp only [List.length_cons, List.length_nil] at b0
      omega) W1.heap.size 1 (Blk.newAt W1 [.slice G.t1.A G.t1.rs.length G.t1.c] _ _ rfl) hP.big (fun v hv => hP.fresh _ v hv)).mono ?_
    rintro e W2 ⟨⟨v1, rfl⟩, hP1⟩
    clear hP
    have hP := hP1
    clear hP1
    have g0 : W2.cell? ⟨w.heap.size, 0, none⟩ = some (.slice G.t0.A G.t0.rs.length G.t0.c) := hP.bg.cell 0 rfl
    have g1 : W2.cell? ⟨w.heap.size, 1, none⟩ = some (.slice G.t1.A G.t1.rs.length G.t1.c) := hP.bg.cell 1 rfl
    have g2 : W2.cell? ⟨w.heap.size, 2, none⟩ = some (.slice G.t2.A G.t2.rs.length G.t2.c) := hP.bg.cell 2 rfl
    have g6 : W2.cell? ⟨w.heap.size, 6, none⟩ = some (.slice G.t6.A G.t6.rs.length G.t6.c) := hP.bg.cell 6 rfl
    have g7 : W2.cell? ⟨w.heap.size, 7, none⟩ = some (.slice G.t7.A G.t7.rs.length G.t7.c) := hP.bg.cell 7 rfl
    have g8 : W2.cell? ⟨w.heap.size, 8, none⟩ = some (.slice G.t8.A G.t8.rs.length G.t8.c) := hP.bg.cell 8 rfl
    have g9 : W2.cell? ⟨w.heap.size, 9, none⟩ = some (.slice G.t9.A G.t9.rs.length G.t9.c) := hP.bg.cell 9 rfl
    have gj : W2.cell? ⟨w.heap.size + 1 + 1, 1, none⟩ = some (.int .u8 1) := hP.bj.cell 1 rfl
    go_wp2_with fail
    clear g0 g1 g2 g6 g7 g8 g9 gj
    refine (put_step w _ G Aon con on p 1 _ (hP.keep ((Ext.refl _).alloc _)) HN.out hol HNE.out 2 true false [G.t6] (List.forall_mem_cons.2 ⟨HG.out.k6, (fun _ h => by cases h)⟩) (by simp) (by
      simp only [List.length_append, List.length_nil]
      have b0 := HB.out 1 true false [G.t0, G.t2] (List.forall_mem_cons.2 ⟨HG.out.k0, (List.forall_mem_cons.2 ⟨HG.out.k2, (fun _ h => by cases h)⟩)⟩)
      simp only [List.length_cons, List.length_nil] at b0
      have b1 := HB.out 1 false false [G.t1] (List.forall_mem_cons.2 ⟨HG.out.k1, (fun _ h => by cases h)⟩)
      simp only [List.length_cons, List.length_nil] at b1
      omega) W2.heap.size 1 (Blk.newAt W2 [.slice G.t6.A G.t6.rs.length G.t6.c] _ _ rfl) hP.big (fun v hv => hP.fresh _ v hv)).mono ?_
    rintro e W3 ⟨⟨v2, rfl⟩, hP1⟩
    clear hP
    have hP := hP1
    clear hP1
    have gj : W3.cell? ⟨w.heap.size + 1 + 1, 1, none⟩ = some (.int .u8 1) := hP.bj.cell 1 rfl
    obtain ⟨v, bv, ov, _⟩ := hP.box
    have cv := bv.cell
    go_wp2_with fail
    go_ret
    refine ⟨_, rfl, ?_, hP.bel⟩
    simpa using ov
  · skip
    have g0 : W0.cell? ⟨w.heap.size, 0, none⟩ = some (.slice G.t0.A G.t0.rs.length G.t0.c) := hP.bg.cell 0 rfl
    have g1 : W0.cell? ⟨w.heap.size, 1, none⟩ = some (.slice G.t1.A G.t1.rs.length G.t1.c) := hP.bg.cell 1 rfl
    have g2 : W0.cell? ⟨w.heap.size, 2, none⟩ = some (.slice G.t2.A G.t2.rs.length G.t2.c) := hP.bg.cell 2 rfl
    have g6 : W0.cell? ⟨w.heap.size, 6, none⟩ = some (.slice G.t6.A G.t6.rs.length G.t6.c) := hP.bg.cell 6 rfl
    have g7 : W0.cell? ⟨w.heap.size, 7, none⟩ = some (.slice G.t7.A G.t7.rs.length G.t7.c) := hP.bg.cell 7 rfl
    have g8 : W0.cell? ⟨w.heap.size, 8, none⟩ = some (.slice G.t8.A G.t8.rs.length G.t8.c) := hP.bg.cell 8 rfl
    have g9 : W0.cell? ⟨w.heap.size, 9, none⟩ = some (.slice G.t9.A G.t9.rs.length G.t9.c) := hP.bg.cell 9 rfl
    have gj : W0.cell? ⟨w.heap.size + 1 + 1, 1, none⟩ = some (.int .u8 2) := hP.bj.cell 1 rfl
    go_wp2_with fail
    clear g0 g1 g2 g6 g7 g8 g9 gj
    refine (put_step w _ G Aon con on p 2 _ (hP.keep ((Ext.refl _).alloc _)) HN.out hol HNE.out 2 true true [G.t7, G.t8, G.t9] (List.forall_mem_cons.2 ⟨HG.out.k7, (List.forall_mem_cons.2 ⟨HG.out.k8, (List.forall_mem_cons.2 ⟨HG.out.k9, (fun _ h => by cases h)⟩)⟩)⟩) (by simp) (by
      simp only [List.length_append, List.length_nil]
      omega) W0.heap.size 3 (Blk.newAt W0 [.slice G.t7.A G.t7.rs.length G.t7.c, .slice G.t8.A G.t8.rs.length G.t8.c, .slice G.t9.A G.t9.rs.length G.t9.c] _ _ rfl) hP.big (fun v hv => hP.fresh _ v hv)).mono ?_
    rintro e W1 ⟨⟨v0, rfl⟩, hP1⟩
    clear hP
    have hP := hP1
    clear hP1
    have gj : W1.cell? ⟨w.heap.size + 1 + 1, 1, none⟩ = some (.int .u8 2) := hP.bj.cell 1 rfl
    obtain ⟨v, bv, ov, _⟩ := hP.box
    have cv := bv.cell
    go_wp2_with fail
    go_ret
    refine ⟨_, rfl, ?_, hP.bel⟩
    simpa using ov
  · skip
    have g0 : W0.cell? ⟨w.heap.size, 0, none⟩ = some (.slice G.t0.A G.t0.rs.length G.t0.c) := hP.bg.cell 0 rfl
    have g1 : W0.cell? ⟨w.heap.size, 1, none⟩ = some (.slice G.t1.A G.t1.rs.length G.t1.c) := hP.bg.cell 1 rfl
    have g2 : W0.cell? ⟨w.heap.size, 2, none⟩ = some (.slice G.t2.A G.t2.rs.length G.t2.c) := hP.bg.cell 2 rfl
    have g6 : W0.cell? ⟨w.heap.size, 6, none⟩ = some (.slice G.t6.A G.t6.rs.length G.t6.c) := hP.bg.cell 6 rfl
    have g7 : W0.cell? ⟨w.heap.size, 7, none⟩ = some (.slice G.t7.A G.t7.rs.length G.t7.c) := hP.bg.cell 7 rfl
    have g8 : W0.cell? ⟨w.heap.size, 8, none⟩ = some (.slice G.t8.A G.t8.rs.length G.t8.c) := hP.bg.cell 8 rfl
    have g9 : W0.cell? ⟨w.heap.size, 9, none⟩ = some (.slice G.t9.A G.t9.rs.length G.t9.c) := hP.bg.cell 9 rfl
    have gj : W0.cell? ⟨w.heap.size + 1 + 1, 1, none⟩ = some (.int .u8 3) := hP.bj.cell 1 rfl
    go_wp2_with fail
    clear g0 g1 g2 g6 g7 g8 g9 gj
    refine (put_step w _ G Aon con on p 3 _ (hP.keep ((Ext.refl _).alloc _)) HN.out hol HNE.out 1 true false [G.t0, G.t2] (List.forall_mem_cons.2 ⟨HG.out.k0, (List.forall_mem_cons.2 ⟨HG.out.k2, (fun _ h => by cases h)⟩)⟩) (by simp) (by
      simp only [List.length_append, List.length_nil]
      omega) W0.heap.size 2 (Blk.newAt W0 [.slice G.t0.A G.t0.rs.length G.t0.c, .slice G.t2.A G.t2.rs.length G.t2.c] _ _ rfl) hP.big (fun v hv => hP.fresh _ v hv)).mono ?_
    rintro e W1 ⟨⟨v0, rfl⟩, hP1⟩
    clear hP
    have hP := hP1
    clear hP1
    have g0 : W1.cell? ⟨w.heap.size, 0, none⟩ = some (.slice G.t0.A G.t0.rs.length G.t0.c) := hP.bg.cell 0 rfl
    have g1 : W1.cell? ⟨w.heap.size, 1, none⟩ = some (.slice G.t1.A G.t1.rs.length G.t1.c) := hP.bg.cell 1 rfl
    have g2 : W1.cell? ⟨w.heap.size, 2, none⟩ = some (.slice G.t2.A G.t2.rs.length G.t2.c) := hP.bg.cell 2 rfl
    have g6 : W1.cell? ⟨w.heap.size, 6, none⟩ = some (.slice G.t6.A G.t6.rs.length G.t6.c) := hP.bg.cell 6 rfl
    have g7 : W1.cell? ⟨w.heap.size, 7, none⟩ = some (.slice G.t7.A G.t7.rs.length G.t7.c) := hP.bg.cell 7 rfl
    have g8 : W1.cell? ⟨w.heap.size, 8, none⟩ = some (.slice G.t8.A G.t8.rs.length G.t8.c) := hP.bg.cell 8 rfl
    have g9 : W1.cell? ⟨w.heap.size, 9, none⟩ = some (.slice G.t9.A G.t9.rs.length G.t9.c) := hP.bg.cell 9 rfl
    have gj : W1.cell? ⟨w.heap.size + 1 + 1, 1, none⟩ = some (.int .u8 3) := hP.bj.cell 1 rfl
    go_wp2_with fail
    clear g0 g1 g2 g6 g7 g8 g9 gj
    refine (put_step w _ G Aon con on p 3 _ (hP.keep ((Ext.refl _).alloc _)) HN.out hol HNE.out 1 false false [G.t1] (List.forall_mem_cons.2 ⟨HG.out.k1, (fun _ h => by cases h)⟩) (by simp) (by
      simp only [List.length_append, List.length_nil]
      have b0 := HB.out 1 true false [G.t0, G.t2] (List.forall_mem_cons.2 ⟨HG.out.k0, (List.forall_mem_cons.2 ⟨HG.out.k2, (fun _ h => by cases h)⟩)⟩)
      simp only [List.length_cons, List.length_nil] at b0
      omega) W1.heap.size 1 (Blk.newAt W1 [.slice G.t1.A G.t1.rs.length G.t1.c] _ _ rfl) hP.big (fun v hv => hP.fresh _ v hv)).mono ?_
    rintro e W2 ⟨⟨v1, rfl⟩, hP1⟩
    clear hP
    have hP := hP1
    clear hP1
    have g0 : W2.cell? ⟨w.heap.size, 0, none⟩ = some (.slice G.t0.A G.t0.rs.length G.t0.c) := hP.bg.cell 0 rfl
    have g1 : W2.cell? ⟨w.heap.size, 1, none⟩ = some (.slice G.t1.A G.t1.rs.length G.t1.c) := hP.bg.cell 1 rfl
    have g2 : W2.cell? ⟨w.heap.size, 2, none⟩ = some (.slice G.t2.A G.t2.rs.length G.t2.c) := hP.bg.cell 2 rfl
    have g6 : W2.cell? ⟨w.heap.size, 6, none⟩ = some (.slice G.t6.A G.t6.rs.length G.t6.c) := hP.bg.cell 6 rfl
    have g7 : W2.cell? ⟨w.heap.size, 7, none⟩ = some (.slice G.t7.A G.t7.rs.length G.t7.c) := hP.bg.cell 7 rfl
    have g8 : W2.cell? ⟨w.heap.size, 8, none⟩ = some (.slice G.t8.A G.t8.rs.length G.t8.c) := hP.bg.cell 8 rfl
    have g9 : W2.cell? ⟨w.heap.size, 9, none⟩ = some (.slice G.t9.A G.t9.rs.length G.t9.c) := hP.bg.cell 9 rfl
    have gj : W2.cell? ⟨w.heap.size + 1 + 1, 1, none⟩ = some (.int .u8 3) := hP.bj.cell 1 rfl
    go_wp2_with fail
    clear g0 g1 g2 g6 g7 g8 g9 gj
    refine (put_step w _ G Aon con on p 3 _ (hP.keep ((Ext.refl _).alloc _)) HN.out hol HNE.out 2 true false [G.t6] (List.forall_mem_cons.2 ⟨HG.out.k6, (fun _ h => by cases h)⟩) (by simp) (by
      simp only [List.length_append, List.length_nil]
      have b0 := HB.out 1 true false [G.t0, G.t2] (List.forall_mem_cons.2 ⟨HG.out.k0, (List.forall_mem_cons.2 ⟨HG.out.k2, (fun _ h => by cases h)⟩)⟩)
      simp only [List.length_cons, List.length_nil] at b0
      have b1 := HB.out 1 false false [G.t1] (List.forall_mem_cons.2 ⟨HG.out.k1, (fun _ h => by cases h)⟩)
      simp only [List.length_cons, List.length_nil] at b1
      omega) W2.heap.size 1 (Blk.newAt W2 [.slice G.t6.A G.t6.rs.length G.t6.c] _ _ rfl) hP.big (fun v hv => hP.fresh _ v hv)).mono ?_
    rintro e W3 ⟨⟨v2, rfl⟩, hP1⟩
    clear hP
    have hP := hP1
    clear hP1
    have g0 : W3.cell? ⟨w.heap.size, 0, none⟩ = some (.slice G.t0.A G.t0.rs.length G.t0.c) := hP.bg.cell 0 rfl
    have g1 : W3.cell? ⟨w.heap.size, 1, none⟩ = some (.slice G.t1.A G.t1.rs.length G.t1.c) := hP.bg.cell 1 rfl
    have g2 : W3.cell? ⟨w.heap.size, 2, none⟩ = some (.slice G.t2.A G.t2.rs.length G.t2.c) := hP.bg.cell 2 rfl
    have g6 : W3.cell? ⟨w.heap.size, 6, none⟩ = some (.slice G.t6.A G.t6.rs.length G.t6.c) := hP.bg.cell 6 rfl
    have g7 : W3.cell? ⟨w.heap.size, 7, none⟩ = some (.slice G.t7.A G.t7.rs.length G.t7.c) := hP.bg.cell 7 rfl
    have g8 : W3.cell? ⟨w.heap.size, 8, none⟩ = some (.slice G.t8.A G.t8.rs.length G.t8.c) := hP.bg.cell 8 rfl
    have g9 : W3.cell? ⟨w.heap.size, 9, none⟩ = some (.slice G.t9.A G.t9.rs.length G.t9.c) := hP.bg.cell 9 rfl
    have gj : W3.cell? ⟨w.heap.size + 1 + 1, 1, none⟩ = some (.int .u8 3) := hP.bj.cell 1 rfl
    go_wp2_with fail
    clear g0 g1 g2 g6 g7 g8 g9 gj
    refine (put_step w _ G Aon con on p 3 _ (hP.keep ((Ext.refl _).alloc _)) HN.out hol HNE.out 3 true true [G.t7, G.t8, G.t9] (List.forall_mem_cons.2 ⟨HG.out.k7, (List.forall_mem_cons.2 ⟨HG.out.k8, (List.forall_mem_cons.2 ⟨HG.out.k9, (fun _ h => by cases h)⟩)⟩)⟩) (by simp) (by
      simp only [List.length_append, List.length_nil]
      have b0 := HB.out 1 true false [G.t0, G.t2] (List.forall_mem_cons.2 ⟨HG.out.k0, (List.forall_mem_cons.2 ⟨HG.out.k2, (fun _ h => by cases h)⟩)⟩)
      simp only [List.length_cons, List.length_nil] at b0
      have b1 := HB.out 1 false false [G.t1] (List.forall_mem_cons.2 ⟨HG.out.k1, (fun _ h => by cases h)⟩)
      simp only [List.length_cons, List.length_nil] at b1
      have b2 := HB.out 2 true false [G.t6] (List.forall_mem_cons.2 ⟨HG.out.k6, (fun _ h => by cases h)⟩)
      simp only [List.length_cons, List.length_nil] at b2
      omega) W3.heap.size 3 (Blk.newAt W3 [.slice G.t7.A G.t7.rs.length G.t7.c, .slice G.t8.A G.t8.rs.length G.t8.c, .slice G.t9.A G.t9.rs.length G.t9.c] _ _ rfl) hP.big (fun v hv => hP.fresh _ v hv)).mono ?_
    rintro e W4 ⟨⟨v3, rfl⟩, hP1⟩
    clear hP
    have hP := hP1
    clear hP1
    have gj : W4.cell? ⟨w.heap.size + 1 + 1, 1, none⟩ = some (.int .u8 3) := hP.bj.cell 1 rfl
    obtain ⟨v, bv, ov, _⟩ := hP.box
    have cv := bv.cell
    go_wp2_with fail
    go_ret
    refine ⟨_, rfl, ?_, hP.bel⟩
    simpa using ov
end Go.Proofs.Ytclgclcoblfddaa
