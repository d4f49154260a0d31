/- Chapter 23: few and Ring. -/
import Derived.Test.YthlobpdcolgcoaaRing
import Derived.Lib.BufferMore
namespace Go.Proofs.Ythlobpdcolgcoaa
open Go.RowKit Go.Maps Go.Lib
set_option linter.unusedVariables false
set_option linter.unusedSimpArgs false

theorem run_slice_full {P : Program} {t e : TypeId} {k : Nat} (ht : P.underlying t = some (.slice e)) (hs : (P.info? e).map (·.size) = some k) (A : Option Addr) (len cap : Nat) (kh : IntKind) (h : Nat) (h2 : h ≤ cap) (w : World) :
    (Instr.sliceAt t (.slice A len cap) none (some (.int kh h)) none).run P w = .ok (.slice A h cap) w := by
  have he : P.elem t = e := by simp [Program.elem, ht]
  have ht' : P.underlying t = some (.slice (P.elem t)) := by rw [he]; exact ht
  have hz : (sizeOf (P.elem t)).run P w = .ok k w := by
    rw [he]
    cases hq : P.info? e with
    | none => simp [hq] at hs
    | some i => simp [hq] at hs; simp [sizeOf, typeInfo, hq, hs]
  rw [run_sliceAt_slice w t _ _ _ _ ht', run_slice_h w t A len cap ht' kh h (by omega) (by omega), hz]
  have : A.map (fun x => x.add 0) = A := by cases A <;> simp [Addr.add]
  simp [Result.andThen, sliced, this]
theorem wpList_slice_full {P : Program} {w : World} {ops : Array Oper} {rest : List Oper} {o : Oper} {a : Act} {Q : Exit → Act → World → Prop} (hw : Region.wanted o (yielded ops a.tmps) = true) (t : TypeId) (x hi : Operand) (ho : o.op = .slice t x none (some hi) none)
    {e : TypeId} {k : Nat} (ht : P.underlying t = some (.slice e)) (hs : (P.info? e).map (·.size) = some k) (A : Option Addr) (len cap : Nat) (hx : a.eval x = .slice A len cap) (kh : IntKind) (h : Nat) (hh : a.eval hi = .int kh h) (h2 : h ≤ cap)
    (hk : wpList P ops Q rest (a.put o.dst (.slice A h cap)) w) : wpList P ops Q (o :: rest) a w := by
  unfold wpList
  rw [if_pos hw]
  refine .inl ?_
  unfold Oper.wp
  simp only [execOp, ho, hx, hh, Option.map_some, Option.map_none, Sem.run_bind, run_slice_full ht hs A len cap kh h h2 w, Result.andThen]
  exact hk
theorem fewl_calls (n cap : Nat) (A : Option Addr) (w : World) (hn : n ≤ 64) (hc : n ≤ cap) :
    Calls Try.prog 25 #[.slice A n cap] w fun e w' => e = .returned (.slice A n cap) ∧ w' = w := by
  have hmin : min (n : Int) 64 = n := by omega
  go_enter Try.func25, Try.ntmps25
  go_wp2_with (refine wpList_slice_full (k := 3) rfl 31 (.tmp 3) (.tmp 6) rfl Try.underlying31 (by kernel_rfl) A n cap rfl .i64 n (by first | rfl | simpa using hmin) hc ?_)
  go_ret
  exact ⟨rfl, rfl⟩

theorem read_load_blk {P : Program} {W : World} {a : Act} {o : Oper} {T T' : TypeId} {x : Operand} (ho : o.op = .load T x) {g : Nat} {cs : List Value} (hx : a.eval x = .pointer (some ⟨g, 0, none⟩)) (hT : isRowT P T cs.length) (hb : Blk W g cs T') :
    (execOp a.eval o).run P W = .ok (.value (.agg cs.toArray)) W := by
  simp only [execOp, ho, hx, Sem.run_bind, run_loadAt_blk hT hb, Result.andThen]
  rfl
def stepBest (best r : List Int) : List Int := if r ≠ [] ∧ (best = [] ∨ r.length < best.length) then r else best
def bestTo (tb : List (List Int)) : Nat → List Int
  | 0 => []
  | h + 1 => stepBest (bestTo tb h) (ringL tb h)
def RingL (tb : List (List Int)) : List Int := bestTo tb tb.length
theorem nextL_length (af be : List (List Int)) (l : List It) : (nextL af be l).length = l.length := by simp [nextL]
theorem rows_of {rs : List Row} {af be : List (List Int)} {l : List It} (h : rows rs = nextL af be l) (hl : rs.length = l.length) (hlen : l.length ≤ 64) :
    (∀ r ∈ rs, r.xs.length ≤ 64) ∧ ∀ r ∈ rs, ∀ x ∈ r.xs, 0 ≤ x ∧ x < rs.length := by
  have key : ∀ r ∈ rs, ∃ a, r.xs = rowTo af be l a l.length := by
    intro r hr
    have : r.xs ∈ rows rs := List.mem_map.2 ⟨r, hr, rfl⟩
    rw [h] at this
    obtain ⟨a, _, ha⟩ := List.mem_map.1 this
    exact ⟨a, ha.symm⟩
  refine ⟨fun r hr => ?_, fun r hr x hx => ?_⟩
  · obtain ⟨a, ha⟩ := key r hr
    rw [ha]
    exact Nat.le_trans (rowTo_length _ _ _ _ _) hlen
  · obtain ⟨a, ha⟩ := key r hr
    rw [ha] at hx
    obtain ⟨j, hj, rfl⟩ := List.mem_map.1 hx
    have := List.mem_range.1 (List.mem_filter.1 hj).1
    rw [hl]
    exact ⟨Int.natCast_nonneg _, by simpa using this⟩

theorem nil_eql (A : Option Addr) (n c : Nat) (W : World) : (binOp .eql 40 (.slice A n c) (.slice none 0 0)).run Try.prog W = .ok (.bool A.isNone) W := by
  cases A with
  | none => exact Lib.run_eql_slice_nil_nil W n c Try.underlying40
  | some a => exact Lib.run_eql_slice_some_nil W a n c Try.underlying40
set_option maxRecDepth 100000 in
set_option maxHeartbeats 2000000 in
theorem Ring_calls (cs : List Value) (af be : List (List Int)) (l : List It) (A : Option Addr) (cap : Nat) (w : World) (h : GR w cs af be) (hr : RdI w A l) (hlen : l.length ≤ 64) (hcap : l.length ≤ cap) :
    Calls Try.prog 14 #[.agg cs.toArray, .slice A l.length cap] w fun e w' => ∃ B c, e = .returned (.slice B (RingL (nextL af be l)).length c) ∧ RdO w.heap.size w' B c (RingL (nextL af be l)) ∧ Ext w w' := by
  have hl : cs.length = 10 := by obtain ⟨_, _, _, _, _, _, h0, _⟩ := h; exact h0
  have HT := Lib.hid (rowG cs.length hl)
  have HF := Lib.hid fun W => fewl_calls l.length cap A W hlen hcap
  have HN := Lib.hid fun W hW => next_calls cs af be l A cap W (h.ext hW) (hr.ext (W' := W) hW) hlen
  have hrl0 := nextL_length af be l
  have hro := fun rs hrows hrl => rows_of (rs := rs) (af := af) (be := be) (l := l) hrows hrl hlen
  obtain ⟨tb, htb⟩ : ∃ tb, nextL af be l = tb := ⟨_, rfl⟩
  rw [htb] at HN hrl0 hro ⊢
  go_enter Try.func14, Try.ntmps14
  go_upto_region 1 with (fail)
  refine wp_gen (fun W => Blk W w.heap.size cs 24 ∧ Ext w W) ⟨Blk.new w cs _, (Ext.refl w).alloc _⟩ ?_
  obtain ⟨G, hG⟩ : ∃ G, w.heap.size = G := ⟨_, rfl⟩
  rw [hG]
  clear hG h hr
  rintro W0 ⟨hb, hx0⟩
  refine wp_region_mix (fun W => Blk W G cs 24) 3 [(0, true), (1, true), (2, false), (3, false), (4, false)] (by kernel_rfl) (by kernel_rfl) (hb.drew) ?_
  (apply mix_read; (case ho => rfl); (case hw => rfl); (case h1 => intro W' hx; exact read_load_blk rfl rfl (HT.out) hx); (case hp => go_simp; first | done | with_reducible rfl))
  (apply mix_read; (case ho => rfl); (case hw => rfl); (case h1 => intro W' hx; (try dsimp only at hx); go_simp; (try go_bits); with_reducible rfl); (case hp => go_simp; first | done | with_reducible rfl))
  refine mix_loud rfl ?_; intro KY hKY
  go_wp2_with fail
  refine (HF.out _).mono ?_
  rintro e W1 ⟨rfl, rfl⟩
  go_wp2_with fail
  refine ⟨hb.drew, ?_⟩
  refine mix_end 3 (by kernel_rfl) (by kernel_rfl) ?_; simp only [List.take_succ_cons, List.take_zero, List.drop_succ_cons, List.drop_zero]; unfold Q0
  go_wp2_with fail
  refine (HN.out _ hx0.drew).mono ?_
  rintro e W1 ⟨B, c, rs, rfl, hR, hrows, hrl, hx1⟩
  go_wp2_with fail
  obtain ⟨hrow, hent⟩ := hro rs hrows hrl
  have hxw : Ext w W1 := hx0.drew.trans hx1
  have HG := Lib.hid fun (home : Nat) W hW (hh : home < l.length) => by
    have := ring_calls rs B c home W (hR.ext (W' := W) hW) (by omega) hrow hent (by omega)
    rw [hrl, hrows] at this
    exact this
  clear HN HF HT hb
  go_upto_region 4 with (fail)
  go_loopw [15, 6] (fun i v W => ∃ (k : Nat) (B' : Option Addr) (c' : Nat), k ≤ l.length ∧ i = .int .i64 k ∧ v = .slice B' (bestTo tb k).length c' ∧ RdO w.heap.size W B' c' (bestTo tb k) ∧ (bestTo tb k = [] → B' = none ∧ c' = 0) ∧ Ext W1 W) (fun i _ _ => l.length - (RowKit.intOf i).toNat)
  case atStart => exact ⟨0, none, 0, by omega, rfl, rfl, RdO.nil _ _, fun _ => ⟨rfl, rfl⟩, Ext.refl _⟩
  case round =>
    obtain ⟨k, B', c', hk, rfl, rfl, hrd, hnil, hx⟩ := hrel
    by_cases hlt : k < l.length
    · have hlti : (k : Int) < l.length := by omega
      have G1 := Lib.hid (HG.out k wr hx hlt)
      obtain ⟨best, hbest⟩ : ∃ b, bestTo tb k = b := ⟨_, rfl⟩
      have HB := Lib.hid (show bestTo tb (k + 1) = stepBest best (ringL tb k) by rw [bestTo, hbest])
      rw [hbest] at hrd hnil ⊢
      obtain ⟨r, hrr⟩ : ∃ r, ringL tb k = r := ⟨_, rfl⟩
      rw [hrr] at G1 HB
      clear hbest hrr
      go_wp2_with fail
      refine G1.out.mono ?_
      rintro e W2 ⟨B2, c2, rfl, hrd2, hx2⟩
      have hxx := hx.trans hx2
      have hrdd := hrd.ext hx2
      have hrd2 := hrd2.lower (Nat.le_trans hxw.size hx.size)
      clear hrd hx hx2 G1
      by_cases hr0 : r = []
      · subst hr0
        have HS := Lib.hid (show stepBest best [] = best by simp [stepBest])
        go_wp2_with fail
        go_roundw
        case rel => exact ⟨k + 1, B', c', by omega, by go_num, by rw [HB.out, HS.out], by rw [HB.out, HS.out]; exact hrdd, by rw [HB.out, HS.out]; exact hnil, hxx⟩
        case measure => simp [RowKit.intOf]; omega
      · have hrl0 : 0 < r.length := List.length_pos_iff.2 hr0
        have hrli : (0 : Int) < r.length := by omega
        by_cases hb0 : best = []
        · obtain ⟨rfl, rfl⟩ := hnil hb0
          subst hb0
          have HS := Lib.hid (show stepBest [] r = r by simp [stepBest, hr0])
          clear hnil
          have hcmp := nil_eql none 0 0
          rw [Option.isNone_none] at hcmp
          go_wp2_with fail
          go_roundw
          case rel => exact ⟨k + 1, B2, c2, by omega, by go_num, by rw [HB.out, HS.out], by rw [HB.out, HS.out]; exact hrd2, by rw [HB.out, HS.out]; exact fun h => absurd h hr0, hxx⟩
          case measure => simp [RowKit.intOf]; omega
        · obtain ⟨b9, o9, rfl, _⟩ := hrdd.1.at (i := 0) (by rw [ints_length]; exact List.length_pos_iff.2 hb0)
          by_cases hless : r.length < best.length
          · have hlessi : (r.length : Int) < best.length := by omega
            have HS := Lib.hid (show stepBest best r = r by simp [stepBest, hr0, hless])
            clear hnil
            have hcmp := nil_eql (some ⟨b9, o9, none⟩) best.length c'
            rw [Option.isNone_some] at hcmp
            go_wp2_with fail
            go_roundw
            case rel => exact ⟨k + 1, B2, c2, by omega, by go_num, by rw [HB.out, HS.out], by rw [HB.out, HS.out]; exact hrd2, by rw [HB.out, HS.out]; exact fun h => absurd h hr0, hxx⟩
            case measure => simp [RowKit.intOf]; omega
          · have hlessi : ¬ (r.length : Int) < best.length := by omega
            have HS := Lib.hid (show stepBest best r = best by simp [stepBest, hb0, hless])
            clear hnil
            have hcmp := nil_eql (some ⟨b9, o9, none⟩) best.length c'
            rw [Option.isNone_some] at hcmp
            go_wp2_with fail
            go_roundw
            case rel => exact ⟨k + 1, _, c', by omega, by go_num, by rw [HB.out, HS.out], by rw [HB.out, HS.out]; exact hrdd, by rw [HB.out, HS.out]; exact fun h => absurd h hb0, hxx⟩
            case measure => simp [RowKit.intOf]; omega
    · obtain rfl : k = l.length := by omega
      have HR := Lib.hid (show RingL tb = bestTo tb l.length by unfold RingL; rw [hrl0])
      go_wp2_with fail
      go_ret
      exact ⟨B', c', by rw [HR.out]; rfl, by rw [HR.out]; exact hrd, hxw.trans hx⟩
end Go.Proofs.Ythlobpdcolgcoaa
