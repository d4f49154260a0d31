/- Chapter 23: which job comes ahead: the package's and the document's. -/
import Derived.Test.YthlobpdcolgcoaaHas
namespace Go.Proofs.Ythlobpdcolgcoaa
open Go.RowKit Go.Lib
set_option linter.unusedVariables false
set_option linter.unusedSimpArgs false

def upB (af be : List (List Int)) (a b : Int) : Bool := hasB af b a || hasB be a b
def aheadB (af be : List (List Int)) (u t v s : Int) : Bool :=
  if u = v then false else if t = 2 then (if s = 2 then upB af be v u else upB af be u v || upB af be v u) else if s = 2 then false else upB af be u v

/-- A graph by value: two of its rows read so. -/
def GR (W : World) (cs : List Value) (af be : List (List Int)) : Prop :=
  ∃ A1 c1 rs1 A2 c2 rs2, cs.length = 10 ∧ cs[4]? = some (.slice A1 (rs1 : List Row).length c1) ∧ cs[5]? = some (.slice A2 (rs2 : List Row).length c2) ∧ RdR W A1 rs1 ∧ RdR W A2 rs2 ∧ rows rs1 = af ∧ rows rs2 = be ∧
    (∀ r ∈ rs1, r.xs.length ≤ 9223372036854775807) ∧ (∀ r ∈ rs2, r.xs.length ≤ 9223372036854775807) ∧ rs1.length ≤ 9223372036854775807 ∧ rs2.length ≤ 9223372036854775807
theorem GR.ext {W W' : World} {cs : List Value} {af be : List (List Int)} (h : GR W cs af be) (hx : Ext W W') : GR W' cs af be := by
  obtain ⟨A1, c1, rs1, A2, c2, rs2, h0, h1, h2, h3, h4, r⟩ := h
  exact ⟨A1, c1, rs1, A2, c2, rs2, h0, h1, h2, h3.ext hx, h4.ext hx, r⟩

theorem gahead_calls (cs : List Value) (af be : List (List Int)) (a b : Int) (w : World) (h : GR w cs af be) :
    Calls Try.prog 22 #[.agg cs.toArray, .int .i64 a, .int .i64 b] w fun e w' => e = .returned (.bool (upB af be a b)) ∧ Ext w w' := by
  obtain ⟨A1, c1, rs1, A2, c2, rs2, h0, h1, h2, h3, h4, rfl, rfl, h5, h6, h7, h8⟩ := h
  have hb : Blk (w.alloc (.cells cs.toArray 24)) w.heap.size cs 24 := Blk.new _ _ _
  have e4 := hb.cell 4 h1
  have e5 := hb.cell 5 h2
  have hx : Ext w (w.alloc (.cells cs.toArray 24)) := (Ext.refl w).alloc _
  have C1 := Lib.hid (has_calls rs1 b a A1 c1 _ (h3.ext hx) h5)
  have C2 := Lib.hid (has_calls rs2 a b A2 c2 _ (h4.ext hx) h6)
  clear h0 h1 h2 h3 h4 h5 h6 h7 h8
  unfold upB
  generalize hasB (rows rs1) b a = p at *
  generalize hasB (rows rs2) a b = q at *
  cases p
  · go_enter Try.func22, Try.ntmps22
    go_wp2_with fail
    refine C1.out.mono ?_
    rintro e W1 ⟨rfl, rfl⟩
    go_wp2_with fail
    refine C2.out.mono ?_
    rintro e W1 ⟨rfl, rfl⟩
    go_wp2_with fail
    go_ret
    exact ⟨rfl, hx⟩
  · go_enter Try.func22, Try.ntmps22
    go_wp2_with fail
    refine C1.out.mono ?_
    rintro e W1 ⟨rfl, rfl⟩
    go_wp2_with fail
    go_ret
    exact ⟨rfl, hx⟩

theorem runits_calls (A1 : Option Addr) (c1 : Nat) (rs1 : List Row) (A2 : Option Addr) (c2 : Nat) (rs2 : List Row) (a b : Int) (w : World) (h3 : RdR w A1 rs1) (h4 : RdR w A2 rs2)
    (h5 : ∀ r ∈ rs1, r.xs.length ≤ 9223372036854775807) (h6 : ∀ r ∈ rs2, r.xs.length ≤ 9223372036854775807) :
    Calls Try.prog 23 #[.agg #[.slice A1 rs1.length c1, .slice A2 rs2.length c2], .int .i64 a, .int .i64 b] w fun e w' => e = .returned (.bool (upB (rows rs1) (rows rs2) a b)) ∧ Ext w w' := by
  have hx : Ext w (w.alloc (.cells #[.slice A1 rs1.length c1, .slice A2 rs2.length c2] 38)) := (Ext.refl w).alloc _
  have C1 := Lib.hid (rhas_calls rs1 b a A1 c1 _ (h3.ext hx) h5)
  have C2 := Lib.hid (rhas_calls rs2 a b A2 c2 _ (h4.ext hx) h6)
  clear h3 h4 h5 h6
  unfold upB
  generalize hasB (rows rs1) b a = p at *
  generalize hasB (rows rs2) a b = q at *
  cases p
  · go_enter Try.func23, Try.ntmps23
    go_wp2_with fail
    refine C1.out.mono ?_
    rintro e W1 ⟨rfl, rfl⟩
    go_wp2_with fail
    refine C2.out.mono ?_
    rintro e W1 ⟨rfl, rfl⟩
    go_wp2_with fail
    go_ret
    exact ⟨rfl, hx⟩
  · go_enter Try.func23, Try.ntmps23
    go_wp2_with fail
    refine C1.out.mono ?_
    rintro e W1 ⟨rfl, rfl⟩
    go_wp2_with fail
    go_ret
    exact ⟨rfl, hx⟩

theorem rowG (n : Nat) (h : n = 10) : isRowT Try.prog 24 n := h ▸ ⟨by kernel_rfl, by kernel_rfl⟩

theorem ahead_calls (cs : List Value) (af be : List (List Int)) (u t v s : Int) (w : World) (h : GR w cs af be) :
    Calls Try.prog 11 #[.agg cs.toArray, .agg #[.int .i64 u, .int .u8 t], .agg #[.int .i64 v, .int .u8 s]] w fun e w' => e = .returned (.bool (aheadB af be u t v s)) ∧ Ext w w' := by
  have hl : cs.length = 10 := by obtain ⟨_, _, _, _, _, _, h0, _⟩ := h; exact h0
  have HT := Lib.hid (rowG cs.length hl)
  have C := Lib.hid fun (a b : Int) W hW => gahead_calls cs af be a b W hW
  unfold aheadB
  obtain ⟨p, hp⟩ : ∃ p, upB af be u v = p := ⟨_, rfl⟩
  obtain ⟨q, hq⟩ : ∃ q, upB af be v u = q := ⟨_, rfl⟩
  have C1 := Lib.hid fun W hW => hp ▸ C.out u v W hW
  have C2 := Lib.hid fun W hW => hq ▸ C.out v u W hW
  rw [hp, hq]
  clear C hp hq hl
  obtain ⟨t2, ht2⟩ : ∃ x, (t == 2) = x := ⟨_, rfl⟩
  obtain ⟨s2, hs2⟩ : ∃ x, (s == 2) = x := ⟨_, rfl⟩
  obtain ⟨uv, huv⟩ : ∃ x, (u == v) = x := ⟨_, rfl⟩
  have E : (if u = v then false else if t = 2 then (if s = 2 then q else p || q) else if s = 2 then false else p) = (if uv then false else if t2 then (if s2 then q else p || q) else if s2 then false else p) := by
    rw [← ht2, ← hs2, ← huv]
    simp
  rw [E]
  clear E
  go_enter Try.func11, Try.ntmps11
  go_upto_region 1 with (fail)
  refine wp_gen (fun W => Blk W w.heap.size cs 24 ∧ W.cell? ⟨w.heap.size + 1, 0, none⟩ = some (.int .i64 u) ∧ W.cell? ⟨w.heap.size + 1, 1, none⟩ = some (.int .u8 t) ∧ W.cell? ⟨w.heap.size + 1 + 1, 0, none⟩ = some (.int .i64 v) ∧ W.cell? ⟨w.heap.size + 1 + 1, 1, none⟩ = some (.int .u8 s) ∧ GR W cs af be ∧ Ext w W)
    ⟨((Blk.new w cs _).alloc _).alloc _, by go_simp, by go_simp, by go_simp, by go_simp, h.ext ((((Ext.refl w).alloc _).alloc _).alloc _), (((Ext.refl w).alloc _).alloc _).alloc _⟩ ?_
  obtain ⟨G, hG⟩ : ∃ G, w.heap.size = G := ⟨_, rfl⟩
  rw [hG]
  clear hG h
  rintro W0 ⟨hb, f1, f2, f3, f4, h, hx0⟩
  have e1 : ∀ W', Ext W0 W' → W'.cell? ⟨G + 1, 0, none⟩ = some (.int .i64 u) := fun W' h => h.cell f1
  have e2 : ∀ W', Ext W0 W' → W'.cell? ⟨G + 1 + 1, 0, none⟩ = some (.int .i64 v) := fun W' h => h.cell f3
  refine wp_region_ext (by kernel_rfl) (by kernel_rfl) ?_
  (apply quiet_onep; (case hw => rfl); (case h1 => intro W' hx; exact quietAt_load_blk (T := 24) (x := .tmp 3) rfl rfl HT.out (Blk.ext hb hx)); (case hp => go_simp; first | done | with_reducible rfl))
  iterate 4 (apply quiet_onep; (case hw => rfl); (case h1 => intro W' hx; go_simp; (try go_bits); with_reducible rfl); (case hp => go_simp; first | done | with_reducible rfl))
  (apply quiet_onep; (case hw => rfl); (case h1 => intro W' hx; go_simp; go_at_call 22; refine ((C1.out _ (h.ext hx))).mono ?_; rintro e w'' ⟨rfl, hx2⟩; exact ⟨rfl, hx.trans hx2⟩); (case hp => go_simp; first | done | with_reducible rfl))
  (apply quiet_onep; (case hw => rfl); (case h1 => intro W' hx; exact quietAt_load_blk (T := 24) (x := .tmp 3) rfl rfl HT.out (Blk.ext hb hx)); (case hp => go_simp; first | done | with_reducible rfl))
  iterate 4 (apply quiet_onep; (case hw => rfl); (case h1 => intro W' hx; go_simp; (try go_bits); with_reducible rfl); (case hp => go_simp; first | done | with_reducible rfl))
  (apply quiet_onep; (case hw => rfl); (case h1 => intro W' hx; go_simp; go_at_call 22; refine ((C2.out _ (h.ext hx))).mono ?_; rintro e w'' ⟨rfl, hx2⟩; exact ⟨rfl, hx.trans hx2⟩); (case hp => go_simp; first | done | with_reducible rfl))
  iterate 2 (apply quiet_onep; (case hw => rfl); (case h1 => intro W' hx; go_simp; (try go_bits); with_reducible rfl); (case hp => go_simp; first | done | with_reducible rfl))
  refine wpQuiet_nil ?_
  intro W1 hx1
  have g1 := e1 W1 hx1
  have g2 := hx1.cell f2
  have g3 := e2 W1 hx1
  have g4 := hx1.cell f4
  have hx2 := hx0.trans hx1
  clear e1 e2 f1 f2 f3 f4 hb h HT C1 C2 hx1 hx0
  go_upto_region 2 with (fail)
  refine wp_region_mixAll (fun W => W = W1.drew) [(0, true), (1, true), (2, true), (3, true), (4, true), (5, true), (6, false), (7, false)] (by kernel_rfl) (by kernel_rfl) (rfl) ?_
  iterate 6 (apply mix_read; (case ho => rfl); (case hw => rfl); (case h1 => intro W' hx; subst hx; go_simp; (try go_bits); with_reducible rfl); (case hp => go_simp; first | done | with_reducible rfl))
  iterate 2 (refine mix_loud rfl ?_; intro KY hKY; go_wp2_with fail; refine ⟨rfl, ?_⟩)
  refine mix_nil ?_; unfold Q0
  cases uv
  · cases t2
    · cases s2
      · go_wp2_with fail
        go_ret
        exact ⟨rfl, hx2.drew⟩
      · go_wp2_with fail
        go_ret
        exact ⟨rfl, hx2.drew⟩
    · cases s2
      · cases p
        · go_wp2_with fail
          go_ret
          exact ⟨rfl, hx2.drew⟩
        · go_wp2_with fail
          go_ret
          exact ⟨rfl, hx2.drew⟩
      · go_wp2_with fail
        go_ret
        exact ⟨rfl, hx2.drew⟩
  · go_wp2_with fail
    go_ret
    exact ⟨rfl, hx2.drew⟩
end Go.Proofs.Ythlobpdcolgcoaa
