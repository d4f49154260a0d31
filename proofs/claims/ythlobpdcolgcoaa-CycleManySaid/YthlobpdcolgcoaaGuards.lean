/- Chapter 23: few; two rows the same; the document's Ahead. -/
import Derived.Test.YthlobpdcolgcoaaItems
namespace Go.Proofs.Ythlobpdcolgcoaa
open Go.RowKit Go.Lib
set_option linter.unusedVariables false
set_option linter.unusedSimpArgs false

def shortB (n : Nat) (l : List (List Int)) : Bool := l.all fun r => decide (r.length ≤ n)
def fewB (af be : List (List Int)) : Bool := shortB 100 af && shortB 100 be && (decide (af.length ≤ 100) && decide (be.length ≤ 100))
theorem rows_short {rs : List Row} {i : Nat} {B : Option Addr} {c : Nat} {xs : List Int} (he : rs[i]? = some ⟨B, c, xs⟩) (h : ¬ xs.length ≤ 100) : shortB 100 (rows rs) = false := by
  rw [← Bool.not_eq_true]
  intro e
  have := List.all_eq_true.1 e xs (List.mem_of_getElem? (i := i) (by rw [rows_get, he]; rfl))
  simp only [decide_eq_true_eq] at this
  exact h this
theorem rows_step {rs : List Row} {i : Nat} {B : Option Addr} {c : Nat} {xs : List Int} (he : rs[i]? = some ⟨B, c, xs⟩) (h : xs.length ≤ 100) (hall : shortB 100 ((rows rs).take i) = true) : shortB 100 ((rows rs).take (i + 1)) = true := by
  unfold shortB at *
  rw [List.take_add_one, rows_get, he, List.all_append, hall]
  simpa using h

set_option maxHeartbeats 1000000 in
theorem few_calls (cs : List Value) (af be : List (List Int)) (w : World) (h : GR w cs af be) :
    Calls Try.prog 8 #[.agg cs.toArray] w fun e w' => e = .returned (.bool (fewB af be)) ∧ Ext w w' := by
  obtain ⟨A1, c1, rs1, A2, c2, rs2, h0, h1, h2, h3, h4, rfl, rfl, h5, h6, h7, h8⟩ := h
  have hb : Blk (w.alloc (.cells cs.toArray 24)) w.heap.size cs 24 := Blk.new _ _ _
  have e4 := hb.cell 4 h1
  have e5 := hb.cell 5 h2
  have hx : Ext w (w.alloc (.cells cs.toArray 24)) := (Ext.refl w).alloc _
  have h3' := h3.ext hx
  have h4' := h4.ext hx
  obtain ⟨q, hq⟩ : ∃ q, fewB (rows rs1) (rows rs2) = q := ⟨_, rfl⟩
  have HQ := Lib.hid hq
  rw [hq]
  clear hq
  go_enter Try.func8, Try.ntmps8
  go_wp2_with fail
  refine wp_gen (fun W => Ext w W ∧ RdR W A1 rs1 ∧ RdR W A2 rs2 ∧ W.cell? ⟨w.heap.size, 4, none⟩ = some (.slice A1 rs1.length c1) ∧ W.cell? ⟨w.heap.size, 5, none⟩ = some (.slice A2 rs2.length c2)) ⟨hx, h3', h4', e4, e5⟩ ?_
  clear e4 e5 h3' h4' hx hb h3 h4 h1 h2 h0
  obtain ⟨G, hG⟩ : ∃ G, w.heap.size = G := ⟨_, rfl⟩
  rw [hG]
  clear hG
  rintro W0 ⟨hx, hr1, hr2, e4, e5⟩
  go_loop [3] (fun i => ∃ j : Nat, j ≤ rs1.length ∧ i = .int .i64 j ∧ shortB 100 ((rows rs1).take j) = true) (fun i => rs1.length - (RowKit.intOf i).toNat)
  case atStart => exact ⟨0, by omega, rfl, rfl⟩
  case round =>
    obtain ⟨j, hj, rfl, hall⟩ := hrel
    by_cases hlt : j < rs1.length
    · have hlti : (j : Int) < rs1.length := by omega
      obtain ⟨b, o, B, c, xs, rfl, he, hcell, hrd⟩ := hr1.at hlt
      by_cases hs : xs.length ≤ 100
      · have hsi : ¬ 100 < (xs.length : Int) := by omega
        have HA := Lib.hid (rows_step he hs hall)
        clear hall
        go_wp2_with fail
        go_round
        case rel => exact ⟨j + 1, by omega, by go_num, HA.out⟩
        case measure => simp [RowKit.intOf]; omega
      · have hsi : 100 < (xs.length : Int) := by omega
        have HA := Lib.hid (rows_short he hs)
        clear hall
        go_wp2_with fail
        go_ret
        exact ⟨by rw [← HQ.out, fewB, HA.out]; rfl, hx⟩
    · obtain rfl : j = rs1.length := by omega
      rw [← rows_length, List.take_of_length_le (Nat.le_refl _)] at hall
      have H1 := Lib.hid hall
      clear hall
      go_wp2_with fail
      go_loop [4] (fun i => ∃ j : Nat, j ≤ rs2.length ∧ i = .int .i64 j ∧ shortB 100 ((rows rs2).take j) = true) (fun i => rs2.length - (RowKit.intOf i).toNat)
      case atStart => exact ⟨0, by omega, rfl, rfl⟩
      case round =>
        obtain ⟨j, hj, rfl, hall⟩ := hrel
        by_cases hlt : j < rs2.length
        · have hlti : (j : Int) < rs2.length := by omega
          obtain ⟨b, o, B, c, xs, rfl, he, hcell, hrd⟩ := hr2.at hlt
          by_cases hs : xs.length ≤ 100
          · have hsi : ¬ 100 < (xs.length : Int) := by omega
            have HA := Lib.hid (rows_step he hs hall)
            clear hall
            go_wp2_with fail
            go_round
            case rel => exact ⟨j + 1, by omega, by go_num, HA.out⟩
            case measure => simp [RowKit.intOf]; omega
          · have hsi : 100 < (xs.length : Int) := by omega
            have HA := Lib.hid (rows_short he hs)
            clear hall
            go_wp2_with fail
            go_ret
            exact ⟨by rw [← HQ.out, fewB, HA.out, Bool.and_false]; rfl, hx⟩
        · obtain rfl : j = rs2.length := by omega
          rw [← rows_length, List.take_of_length_le (Nat.le_refl _)] at hall
          have H2 := Lib.hid hall
          clear hall
          have hq := HQ.out
          rw [fewB, H1.out, H2.out, Bool.and_self, Bool.true_and, rows_length, rows_length] at hq
          by_cases l1 : (rs1.length : Int) ≤ 100
          · by_cases l2 : (rs2.length : Int) ≤ 100
            · rw [decide_eq_true (by omega : rs1.length ≤ 100), decide_eq_true (by omega : rs2.length ≤ 100)] at hq
              have HQ2 := Lib.hid hq
              clear hq
              go_wp2_with fail
              go_ret
              exact ⟨by rw [← HQ2.out]; rfl, hx⟩
            · rw [decide_eq_false (by omega : ¬ rs2.length ≤ 100), Bool.and_false] at hq
              have HQ2 := Lib.hid hq
              clear hq
              go_wp2_with fail
              go_ret
              exact ⟨by rw [← HQ2.out]; rfl, hx⟩
          · rw [decide_eq_false (by omega : ¬ rs1.length ≤ 100), Bool.false_and] at hq
            have HQ2 := Lib.hid hq
            clear hq
            go_wp2_with fail
            go_ret
            exact ⟨by rw [← HQ2.out]; rfl, hx⟩

theorem same_calls (xs ys : List Int) (A B : Option Addr) (c d : Nat) (w : World) (h1 : RdV w A (ints xs)) (h2 : RdV w B (ints ys)) (hl : xs.length ≤ 9223372036854775807) (hl2 : ys.length ≤ 9223372036854775807) :
    Calls Try.prog 18 #[.slice A xs.length c, .slice B ys.length d] w fun e w' => e = .returned (.bool (decide (xs = ys))) ∧ Ext w w' := by
  by_cases hlen : xs.length = ys.length
  · have HL := Lib.hid hlen
    obtain ⟨q, hq⟩ : ∃ q, decide (xs = ys) = q := ⟨_, rfl⟩
    have HQ := Lib.hid hq
    rw [hq]
    clear hq
    rw [← hlen]
    clear hlen
    go_enter Try.func18, Try.ntmps18
    go_wp2_with fail
    go_loopw [5] (fun i W => ∃ j : Nat, j ≤ xs.length ∧ i = .int .i64 j ∧ xs.take j = ys.take j ∧ Ext w W ∧ RdV W A (ints xs) ∧ RdV W B (ints ys)) (fun i _ => xs.length - (RowKit.intOf i).toNat)
    case atStart => exact ⟨0, by omega, rfl, by simp, Ext.refl w, h1, h2⟩
    case round =>
      clear h1 h2
      obtain ⟨j, hj, rfl, heq, hx, h1, h2⟩ := hrel
      have HE := Lib.hid heq
      clear heq
      by_cases hlt : j < xs.length
      · have hlti : (j : Int) < xs.length := by omega
        obtain ⟨b1, o1, rfl, k1⟩ := h1.at (i := j) (by rw [ints_length]; exact hlt)
        obtain ⟨b2, o2, rfl, k2⟩ := h2.at (i := j) (by rw [ints_length, ← HL.out]; exact hlt)
        obtain ⟨x, hx1⟩ : ∃ x, xs[j]? = some x := ⟨_, List.getElem?_eq_getElem hlt⟩
        obtain ⟨y, hy1⟩ : ∃ y, ys[j]? = some y := ⟨_, List.getElem?_eq_getElem (by rw [← HL.out]; exact hlt)⟩
        have f1 := k1 j (.int .i64 x) (by rw [ints_get, hx1]; rfl)
        have f2 := k2 j (.int .i64 y) (by rw [ints_get, hy1]; rfl)
        by_cases hxy : x = y
        · subst hxy
          go_upto_region 6 with (fail)
          refine wp_region_mixAll (fun W => W = wr.drew) [(0, true), (1, true), (2, true), (3, true), (4, true), (5, true), (6, true), (7, true), (8, true)] (by kernel_rfl) (by kernel_rfl) (rfl) ?_
          repeat (apply mix_read; (case ho => rfl); (case hw => rfl); (case h1 => intro W' hx; subst hx; go_simp; (try go_bits); with_reducible rfl); (case hp => go_simp; first | done | with_reducible rfl))
          refine mix_nil ?_; unfold Q0
          go_wp2_with fail
          go_roundw
          case rel => exact ⟨j + 1, by omega, by go_num, by rw [List.take_add_one, List.take_add_one, HE.out, hx1, hy1], hx.drew, h1.ext (Ext.refl _).drew, h2.ext (Ext.refl _).drew⟩
          case measure => simp [RowKit.intOf]; omega
        · have hb : (x == y) = false := by simpa using hxy
          go_upto_region 6 with (fail)
          refine wp_region_mixAll (fun W => W = wr.drew) [(0, true), (1, true), (2, true), (3, true), (4, true), (5, true), (6, true), (7, true), (8, true)] (by kernel_rfl) (by kernel_rfl) (rfl) ?_
          repeat (apply mix_read; (case ho => rfl); (case hw => rfl); (case h1 => intro W' hx; subst hx; go_simp; (try go_bits); with_reducible rfl); (case hp => go_simp; first | done | with_reducible rfl))
          refine mix_nil ?_; unfold Q0
          go_wp2_with fail
          go_ret
          exact ⟨by rw [← HQ.out, decide_eq_false (by rintro rfl; rw [hx1] at hy1; cases hy1; exact hxy rfl)]; rfl, hx.drew⟩
      · obtain rfl : j = xs.length := by omega
        go_wp2_with fail
        go_ret
        exact ⟨by
          have he := HE.out
          rw [List.take_of_length_le (Nat.le_refl _), HL.out, List.take_of_length_le (Nat.le_refl _)] at he
          rw [← HQ.out, decide_eq_true he]; rfl, hx⟩
  · have hli : ¬ (xs.length : Int) = ys.length := by omega
    have hbi : ((xs.length : Int) == ys.length) = false := by simpa using hli
    rw [decide_eq_false (by rintro rfl; exact hlen rfl)]
    go_enter Try.func18, Try.ntmps18
    go_wp2_with fail
    go_ret
    exact ⟨rfl, Ext.refl w⟩
end Go.Proofs.Ythlobpdcolgcoaa
