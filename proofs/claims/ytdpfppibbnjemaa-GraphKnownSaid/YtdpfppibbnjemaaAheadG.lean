/- Who stands ahead of whom: graph.Graph's Ahead. -/
import Derived.Test.YtdpfppibbnjemaaHasG
namespace Go.Proofs.Ytdpfppibbnjemaa
open Go.RowKit Go.Lib
set_option linter.unusedVariables false
set_option linter.unusedSimpArgs false

def upB (af be : List (List Int)) (a b : Int) : Bool := hasB af b a || hasB be a b
/-- A graph by value: two of its rows read so. -/
def GR (W : World) (cs : List Value) (af be : List (List Int)) : Prop :=
  ∃ A1 c1 rs1 A2 c2 rs2, cs.length = 10 ∧ cs[4]? = some (.slice A1 (rs1 : List Row).length c1) ∧ cs[5]? = some (.slice A2 (rs2 : List Row).length c2) ∧ RdR W A1 rs1 ∧ RdR W A2 rs2 ∧ rows rs1 = af ∧ rows rs2 = be ∧
    (∀ r ∈ rs1, r.xs.length ≤ 9223372036854775807) ∧ (∀ r ∈ rs2, r.xs.length ≤ 9223372036854775807) ∧ rs1.length ≤ 9223372036854775807 ∧ rs2.length ≤ 9223372036854775807
theorem GR.ext {W W' : World} {cs : List Value} {af be : List (List Int)} (h : GR W cs af be) (hx : Ext W W') : GR W' cs af be := by
  obtain ⟨A1, c1, rs1, A2, c2, rs2, h0, h1, h2, h3, h4, r⟩ := h
  exact ⟨A1, c1, rs1, A2, c2, rs2, h0, h1, h2, h3.ext hx, h4.ext hx, r⟩

theorem gahead_calls (cs : List Value) (af be : List (List Int)) (a b : Int) (w : World) (h : GR w cs af be) :
    Calls Try.prog 19 #[.agg cs.toArray, .int .i64 a, .int .i64 b] w fun e w' => e = .returned (.bool (upB af be a b)) ∧ Ext w w' := by
  obtain ⟨A1, c1, rs1, A2, c2, rs2, h0, h1, h2, h3, h4, rfl, rfl, h5, h6, h7, h8⟩ := h
  have hb : Blk (w.alloc (.cells cs.toArray 31)) w.heap.size cs 31 := Blk.new _ _ _
  have e4 := hb.cell 4 h1
  have e5 := hb.cell 5 h2
  have hx : Ext w (w.alloc (.cells cs.toArray 31)) := (Ext.refl w).alloc _
  have C1 := Lib.hid (has_calls rs1 b a A1 c1 _ (h3.ext hx) h5)
  have C2 := Lib.hid (has_calls rs2 a b A2 c2 _ (h4.ext hx) h6)
  clear h0 h1 h2 h3 h4 h5 h6 h7 h8
  unfold upB
  generalize hasB (rows rs1) b a = p at *
  generalize hasB (rows rs2) a b = q at *
  cases p
  · go_enter Try.func19, Try.ntmps19
    go_wp2_with fail
    refine C1.out.mono ?_
    rintro e W1 ⟨rfl, rfl⟩
    go_wp2_with fail
    refine C2.out.mono ?_
    rintro e W1 ⟨rfl, rfl⟩
    go_wp2_with fail
    go_ret
    exact ⟨rfl, hx⟩
  · go_enter Try.func19, Try.ntmps19
    go_wp2_with fail
    refine C1.out.mono ?_
    rintro e W1 ⟨rfl, rfl⟩
    go_wp2_with fail
    go_ret
    exact ⟨rfl, hx⟩

theorem rowG (n : Nat) (h : n = 10) : isRowT Try.prog 31 n := h ▸ ⟨by kernel_rfl, by kernel_rfl⟩

end Go.Proofs.Ytdpfppibbnjemaa
