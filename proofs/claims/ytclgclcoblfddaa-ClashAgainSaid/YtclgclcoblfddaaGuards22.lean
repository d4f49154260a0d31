/- Chapter 22: few. -/
import Derived.Test.YtclgclcoblfddaaTrodG
import Derived.Test.YtclgclcoblfddaaMix
namespace Go.Proofs.Ytclgclcoblfddaa
open Go.RowKit Go.Lib
set_option linter.unusedVariables false
set_option linter.unusedSimpArgs false
def rowsB (l : List (List Int)) : Bool := l.all (fun r => decide (r.length ≤ 20)) && decide (l.length ≤ 20)
theorem rows22_calls (b : Tb) (w : World) (hb : b.rd w) : Calls Try.prog 62 #[b.v] w fun e w' => e = .returned (.bool (rowsB b.l)) ∧ w' = w := by
  obtain ⟨A, rs, cap⟩ := b
  obtain ⟨hr, hl, hrl⟩ := hb
  unfold maxLen at hl hrl
  simp only [Tb.v, Tb.l] at *
  obtain ⟨q, hq⟩ : ∃ q, rowsB (rows rs) = q := ⟨_, rfl⟩
  have HQ := Lib.hid hq
  rw [hq]
  clear hq
  go_enter Try.func62, Try.ntmps62
  go_wp2_with fail
  go_loopw [3] (fun i W => ∃ j : Nat, j ≤ rs.length ∧ i = .int .i64 j ∧ ((rows rs).take j).all (fun r => decide (r.length ≤ 20)) = true ∧ W = w) (fun i _ => rs.length - (RowKit.intOf i).toNat)
  case atStart => exact ⟨0, by omega, rfl, rfl, rfl⟩
  case round =>
    obtain ⟨j, hj, rfl, hall, rfl⟩ := hrel
    by_cases hlt : j < rs.length
    · have hlti : (j : Int) < rs.length := by omega
      obtain ⟨b, o, B, c, xs, rfl, he, hcell, hrd⟩ := hr.at hlt
      have hget : (rows rs)[j]? = some xs := by rw [rows_get, he]; rfl
      by_cases hs : xs.length ≤ 20
      · have hsi : ¬ 20 < (xs.length : Int) := by omega
        have HA := Lib.hid (show ((rows rs).take (j + 1)).all (fun r => decide (r.length ≤ 20)) = true by rw [List.take_add_one, hget, List.all_append, hall]; simpa using hs)
        clear hall
        go_wp2_with fail
        go_roundw
        case rel => exact ⟨j + 1, by omega, by go_num, HA.out, trivial⟩
        case measure => simp [RowKit.intOf]; omega
      · have hsi : 20 < (xs.length : Int) := by omega
        clear hall
        go_wp2_with fail
        go_ret
        refine ⟨?_, rfl⟩
        have : rowsB (rows rs) = false := by
          rw [← Bool.not_eq_true]
          intro h
          unfold rowsB at h
          rw [Bool.and_eq_true] at h
          have := List.all_eq_true.1 h.1 xs (List.mem_of_getElem? hget)
          simp only [decide_eq_true_eq] at this
          exact hs this
        rw [← HQ.out, this]
        rfl
    · obtain rfl : j = rs.length := by omega
      rw [← rows_length, List.take_of_length_le (Nat.le_refl _)] at hall
      have hq := HQ.out
      rw [rowsB, hall, Bool.true_and, rows_length] at hq
      have HQ2 := Lib.hid hq
      clear hall hq
      by_cases l1 : (rs.length : Int) ≤ 20
      · go_wp2_with fail
        go_ret
        exact ⟨by rw [← HQ2.out, decide_eq_true (by omega : rs.length ≤ 20)]; rfl, rfl⟩
      · go_wp2_with fail
        go_ret
        exact ⟨by rw [← HQ2.out, decide_eq_false (by omega : ¬ rs.length ≤ 20)]; rfl, rfl⟩
def fewB (g : GL) (n m : Nat) : Bool := rowsB g.req && rowsB g.wants && rowsB g.binds && rowsB g.conf && rowsB g.reqBy && rowsB g.bound && rowsB g.parts && decide (n ≤ 14) && decide (m ≤ 30)
theorem Tb.rd.ext {w W : World} {b : Tb} (h : b.rd w) (hx : Ext w W) : b.rd W := ⟨h.1.ext hx, h.2⟩
theorem Tb.rd.ok {w : World} {b : Tb} (h : b.rd w) (hs : rowsB b.l = true) : b.ok w := by
  unfold rowsB at hs
  rw [Bool.and_eq_true, List.all_eq_true, decide_eq_true_iff] at hs
  refine ⟨h.1, ?_, fun r hr => ?_⟩
  · have := hs.2
    unfold Tb.l at this
    rw [rows_length] at this
    omega
  · have := hs.1 r.xs (List.mem_map_of_mem hr)
    simp only [decide_eq_true_eq] at this
    omega
set_option maxRecDepth 100000 in
set_option maxHeartbeats 4000000 in
theorem few22_calls (G : G7) (Aon Ab : Option Addr) (n m con cb : Nat) (w : World) (h : G.rd w) (hn : n ≤ maxLen) (hm : m ≤ maxLen) :
    Calls Try.prog 28 #[.agg G.cs.toArray, .slice Aon n con, .slice Ab m cb] w fun e w' => e = .returned (.bool (fewB G.l n m)) ∧ Ext w w' := by
  obtain ⟨h0, h1, h2, h6, h7, h8, h9⟩ := h
  unfold maxLen at hn hm
  have hx : Ext w (w.alloc (.cells G.cs.toArray 24)) := (Ext.refl w).alloc _
  have hb : Blk (w.alloc (.cells G.cs.toArray 24)) w.heap.size G.cs 24 := Blk.new _ _ _
  have C0 := Lib.hid (rows22_calls G.t0 _ (h0.ext hx))
  have C1 := Lib.hid (rows22_calls G.t1 _ (h1.ext hx))
  have C2 := Lib.hid (rows22_calls G.t2 _ (h2.ext hx))
  have C6 := Lib.hid (rows22_calls G.t6 _ (h6.ext hx))
  have C7 := Lib.hid (rows22_calls G.t7 _ (h7.ext hx))
  have C8 := Lib.hid (rows22_calls G.t8 _ (h8.ext hx))
  have C9 := Lib.hid (rows22_calls G.t9 _ (h9.ext hx))
  obtain ⟨t0, t1, t2, v3, v4, v5, t6, t7, t8, t9⟩ := G
  simp only [fewB, G7.l, G7.cs] at *
  have d0 := hb.cell 0 rfl
  have d1 := hb.cell 1 rfl
  have d2 := hb.cell 2 rfl
  have d6 := hb.cell 6 rfl
  have d7 := hb.cell 7 rfl
  have d8 := hb.cell 8 rfl
  have d9 := hb.cell 9 rfl
  clear h0 h1 h2 h6 h7 h8 h9 hb
  have HX := Lib.hid hx
  clear hx
  generalize rowsB t0.l = r0 at *
  generalize rowsB t1.l = r1 at *
  generalize rowsB t2.l = r2 at *
  generalize rowsB t6.l = r6 at *
  generalize rowsB t7.l = r7 at *
  generalize rowsB t8.l = r8 at *
  generalize rowsB t9.l = r9 at *
  go_enter Try.func28, Try.ntmps28
  go_upto_region 1 with (fail)
  refine wp_gen (fun W => W = w.alloc (.cells #[t0.v, t1.v, t2.v, v3, v4, v5, t6.v, t7.v, t8.v, t9.v] 24)) rfl ?_
  rintro W0 hW0
  rw [← hW0] at d0 d1 d2 d6 d7 d8 d9 C0 C1 C2 C6 C7 C8 C9 HX
  generalize w.heap.size = q at *
  clear hW0
  cases r0
  · (go_wp2_with (go_at_call 62; (first | (with_reducible refine C0.out.mono ?_) | (with_reducible refine C1.out.mono ?_) | (with_reducible refine C2.out.mono ?_) | (with_reducible refine C6.out.mono ?_) | (with_reducible refine C7.out.mono ?_) | (with_reducible refine C8.out.mono ?_) | (with_reducible refine C9.out.mono ?_)); rintro e W ⟨rfl, rfl⟩); go_ret; exact ⟨rfl, HX.out⟩)
  · cases r1
    · (go_wp2_with (go_at_call 62; (first | (with_reducible refine C0.out.mono ?_) | (with_reducible refine C1.out.mono ?_) | (with_reducible refine C2.out.mono ?_) | (with_reducible refine C6.out.mono ?_) | (with_reducible refine C7.out.mono ?_) | (with_reducible refine C8.out.mono ?_) | (with_reducible refine C9.out.mono ?_)); rintro e W ⟨rfl, rfl⟩); go_ret; exact ⟨rfl, HX.out⟩)
    · cases r2
      · (go_wp2_with (go_at_call 62; (first | (with_reducible refine C0.out.mono ?_) | (with_reducible refine C1.out.mono ?_) | (with_reducible refine C2.out.mono ?_) | (with_reducible refine C6.out.mono ?_) | (with_reducible refine C7.out.mono ?_) | (with_reducible refine C8.out.mono ?_) | (with_reducible refine C9.out.mono ?_)); rintro e W ⟨rfl, rfl⟩); go_ret; exact ⟨rfl, HX.out⟩)
      · cases r6
        · (go_wp2_with (go_at_call 62; (first | (with_reducible refine C0.out.mono ?_) | (with_reducible refine C1.out.mono ?_) | (with_reducible refine C2.out.mono ?_) | (with_reducible refine C6.out.mono ?_) | (with_reducible refine C7.out.mono ?_) | (with_reducible refine C8.out.mono ?_) | (with_reducible refine C9.out.mono ?_)); rintro e W ⟨rfl, rfl⟩); go_ret; exact ⟨rfl, HX.out⟩)
        · cases r7
          · (go_wp2_with (go_at_call 62; (first | (with_reducible refine C0.out.mono ?_) | (with_reducible refine C1.out.mono ?_) | (with_reducible refine C2.out.mono ?_) | (with_reducible refine C6.out.mono ?_) | (with_reducible refine C7.out.mono ?_) | (with_reducible refine C8.out.mono ?_) | (with_reducible refine C9.out.mono ?_)); rintro e W ⟨rfl, rfl⟩); go_ret; exact ⟨rfl, HX.out⟩)
          · cases r8
            · (go_wp2_with (go_at_call 62; (first | (with_reducible refine C0.out.mono ?_) | (with_reducible refine C1.out.mono ?_) | (with_reducible refine C2.out.mono ?_) | (with_reducible refine C6.out.mono ?_) | (with_reducible refine C7.out.mono ?_) | (with_reducible refine C8.out.mono ?_) | (with_reducible refine C9.out.mono ?_)); rintro e W ⟨rfl, rfl⟩); go_ret; exact ⟨rfl, HX.out⟩)
            · cases r9
              · (go_wp2_with (go_at_call 62; (first | (with_reducible refine C0.out.mono ?_) | (with_reducible refine C1.out.mono ?_) | (with_reducible refine C2.out.mono ?_) | (with_reducible refine C6.out.mono ?_) | (with_reducible refine C7.out.mono ?_) | (with_reducible refine C8.out.mono ?_) | (with_reducible refine C9.out.mono ?_)); rintro e W ⟨rfl, rfl⟩); go_ret; exact ⟨rfl, HX.out⟩)
              · by_cases hn14 : (n : Int) ≤ 14
                · (go_wp2_with (go_at_call 62; (first | (with_reducible refine C0.out.mono ?_) | (with_reducible refine C1.out.mono ?_) | (with_reducible refine C2.out.mono ?_) | (with_reducible refine C6.out.mono ?_) | (with_reducible refine C7.out.mono ?_) | (with_reducible refine C8.out.mono ?_) | (with_reducible refine C9.out.mono ?_)); rintro e W ⟨rfl, rfl⟩); go_ret; exact ⟨by rw [decide_eq_true (by omega : n ≤ 14), show decide (m ≤ 30) = decide ((m : Int) ≤ 30) from decide_eq_decide.2 (by omega)]; rfl, HX.out⟩)
                · (go_wp2_with (go_at_call 62; (first | (with_reducible refine C0.out.mono ?_) | (with_reducible refine C1.out.mono ?_) | (with_reducible refine C2.out.mono ?_) | (with_reducible refine C6.out.mono ?_) | (with_reducible refine C7.out.mono ?_) | (with_reducible refine C8.out.mono ?_) | (with_reducible refine C9.out.mono ?_)); rintro e W ⟨rfl, rfl⟩); go_ret; exact ⟨by rw [decide_eq_false (by omega : ¬ n ≤ 14)]; rfl, HX.out⟩)
end Go.Proofs.Ytclgclcoblfddaa
