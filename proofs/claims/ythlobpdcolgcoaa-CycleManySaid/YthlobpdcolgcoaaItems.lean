/- Chapter 23: items in memory; the law's guards; the document's Ahead. -/
import Derived.Test.YthlobpdcolgcoaaAhead
import Derived.Test.YthlobpdcolgcoaaIt
namespace Go.Proofs.Ythlobpdcolgcoaa
open Go.RowKit Go.Lib
set_option linter.unusedVariables false
set_option linter.unusedSimpArgs false

def unitB (n1 n2 : Nat) (x : It) : Bool := decide (0 ≤ x.u) && decide (x.u < n1) && decide (x.u < n2)
theorem units_calls (cs : List Value) (af be : List (List Int)) (l : List It) (A : Option Addr) (cap : Nat) (w : World) (h : GR w cs af be) (hr : RdI w A l) (hlen : l.length ≤ 9223372036854775807) :
    Calls Try.prog 9 #[.agg cs.toArray, .slice A l.length cap] w fun e w' => e = .returned (.bool (l.all (unitB af.length be.length))) ∧ Ext w w' := by
  obtain ⟨A1, c1, rs1, A2, c2, rs2, h0, h1, h2, h3, h4, rfl, rfl, h5, h6, h7, h8⟩ := h
  have hb : Blk (w.alloc (.cells cs.toArray 24)) w.heap.size cs 24 := Blk.new _ _ _
  have e4 := hb.cell 4 h1
  have e5 := hb.cell 5 h2
  have hx : Ext w (w.alloc (.cells cs.toArray 24)) := (Ext.refl w).alloc _
  have hr2 := hr.ext hx
  rw [rows_length, rows_length]
  generalize rs1.length = n1 at *
  generalize rs2.length = n2 at *
  clear h0 h1 h2 h3 h4 h5 h6 hr hb
  go_enter Try.func9, Try.ntmps9
  go_wp2_with fail
  refine wp_gen (fun W => Ext w W ∧ RdI W A l ∧ W.cell? ⟨w.heap.size, 4, none⟩ = some (.slice A1 n1 c1) ∧ W.cell? ⟨w.heap.size, 5, none⟩ = some (.slice A2 n2 c2)) ⟨hx, hr2, e4, e5⟩ ?_
  clear e4 e5 hr2 hx
  obtain ⟨G, hG⟩ : ∃ G, w.heap.size = G := ⟨_, rfl⟩
  rw [hG]
  clear hG
  rintro W0 ⟨hx, hr, e4, e5⟩
  go_loopw [5] (fun i W => ∃ j : Nat, j ≤ l.length ∧ i = .int .i64 j ∧ (l.take j).all (unitB n1 n2) = true ∧ Ext w W ∧ RdI W A l ∧ W.cell? ⟨G, 4, none⟩ = some (.slice A1 n1 c1) ∧ W.cell? ⟨G, 5, none⟩ = some (.slice A2 n2 c2)) (fun i _ => l.length - (RowKit.intOf i).toNat)
  case atStart => exact ⟨0, by omega, rfl, by simp, hx, hr, e4, e5⟩
  case round =>
    clear hx hr e4 e5
    obtain ⟨j, hj, rfl, hall, hx, hr, e4, e5⟩ := hrel
    by_cases hlt : j < l.length
    · have hlti : (j : Int) < l.length := by omega
      obtain ⟨b, o, u, t, m, rfl, he, f1, f2, f3⟩ := hr.at hlt
      have HA := Lib.hid hall
      clear hall
      by_cases a1 : u < 0
      · go_upto_region 4 with (fail)
        refine wp_region_mixAll (fun W => W = wr.drew) [(0, true), (1, true), (2, true), (3, true), (4, true), (5, true), (6, true), (7, true), (8, true), (9, true), (10, true), (11, true), (12, true), (13, true), (14, true), (15, true), (16, true), (17, true), (18, true), (19, true), (20, true), (21, true), (22, true), (23, true), (24, true), (25, true), (26, true), (27, true), (28, true), (29, true), (30, true)] (by kernel_rfl) (by kernel_rfl) (rfl) ?_
        repeat (first | (apply mix_read; (case ho => rfl); (case hw => rfl); (case h1 => intro W' hx; subst hx; go_simp; (try go_bits); with_reducible rfl); (case hp => go_simp; first | done | with_reducible rfl)) | (apply mix_skip; (case ho => rfl); (case hw => rfl); (case hp => go_simp; first | done | with_reducible rfl)))
        refine mix_nil ?_; unfold Q0
        go_wp2_with fail
        go_ret
        have : l.all (unitB n1 n2) = false := by
          rw [← Bool.not_eq_true]
          intro hh
          have := List.all_eq_true.1 hh _ (List.mem_of_getElem? he)
          simp [unitB] at this
          omega
        exact ⟨by rw [this]; rfl, hx.drew⟩
      · by_cases a2 : (n1 : Int) ≤ u
        · go_upto_region 4 with (fail)
          refine wp_region_mixAll (fun W => W = wr.drew) [(0, true), (1, true), (2, true), (3, true), (4, true), (5, true), (6, true), (7, true), (8, true), (9, true), (10, true), (11, true), (12, true), (13, true), (14, true), (15, true), (16, true), (17, true), (18, true), (19, true), (20, true), (21, true), (22, true), (23, true), (24, true), (25, true), (26, true), (27, true), (28, true), (29, true), (30, true)] (by kernel_rfl) (by kernel_rfl) (rfl) ?_
          repeat (first | (apply mix_read; (case ho => rfl); (case hw => rfl); (case h1 => intro W' hx; subst hx; go_simp; (try go_bits); with_reducible rfl); (case hp => go_simp; first | done | with_reducible rfl)) | (apply mix_skip; (case ho => rfl); (case hw => rfl); (case hp => go_simp; first | done | with_reducible rfl)))
          refine mix_nil ?_; unfold Q0
          go_wp2_with fail
          go_ret
          have : l.all (unitB n1 n2) = false := by
            rw [← Bool.not_eq_true]
            intro hh
            have := List.all_eq_true.1 hh _ (List.mem_of_getElem? he)
            simp [unitB] at this
            omega
          exact ⟨by rw [this]; rfl, hx.drew⟩
        · by_cases a3 : (n2 : Int) ≤ u
          · go_upto_region 4 with (fail)
            refine wp_region_mixAll (fun W => W = wr.drew) [(0, true), (1, true), (2, true), (3, true), (4, true), (5, true), (6, true), (7, true), (8, true), (9, true), (10, true), (11, true), (12, true), (13, true), (14, true), (15, true), (16, true), (17, true), (18, true), (19, true), (20, true), (21, true), (22, true), (23, true), (24, true), (25, true), (26, true), (27, true), (28, true), (29, true), (30, true)] (by kernel_rfl) (by kernel_rfl) (rfl) ?_
            repeat (first | (apply mix_read; (case ho => rfl); (case hw => rfl); (case h1 => intro W' hx; subst hx; go_simp; (try go_bits); with_reducible rfl); (case hp => go_simp; first | done | with_reducible rfl)) | (apply mix_skip; (case ho => rfl); (case hw => rfl); (case hp => go_simp; first | done | with_reducible rfl)))
            refine mix_nil ?_; unfold Q0
            go_wp2_with fail
            go_ret
            have : l.all (unitB n1 n2) = false := by
              rw [← Bool.not_eq_true]
              intro hh
              have := List.all_eq_true.1 hh _ (List.mem_of_getElem? he)
              simp [unitB] at this
              omega
            exact ⟨by rw [this]; rfl, hx.drew⟩
          · go_upto_region 4 with (fail)
            refine wp_region_mixAll (fun W => W = wr.drew) [(0, true), (1, true), (2, true), (3, true), (4, true), (5, true), (6, true), (7, true), (8, true), (9, true), (10, true), (11, true), (12, true), (13, true), (14, true), (15, true), (16, true), (17, true), (18, true), (19, true), (20, true), (21, true), (22, true), (23, true), (24, true), (25, true), (26, true), (27, true), (28, true), (29, true), (30, true)] (by kernel_rfl) (by kernel_rfl) (rfl) ?_
            repeat (first | (apply mix_read; (case ho => rfl); (case hw => rfl); (case h1 => intro W' hx; subst hx; go_simp; (try go_bits); with_reducible rfl); (case hp => go_simp; first | done | with_reducible rfl)) | (apply mix_skip; (case ho => rfl); (case hw => rfl); (case hp => go_simp; first | done | with_reducible rfl)))
            refine mix_nil ?_; unfold Q0
            go_wp2_with fail
            go_roundw
            case rel => exact ⟨j + 1, by omega, by go_num, by
              rw [List.take_add_one, he, List.all_append, HA.out]
              simp [unitB]
              omega, hx.drew, hr.ext ((Ext.refl _).drew), ((Ext.refl wr).drew).cell e4, ((Ext.refl wr).drew).cell e5⟩
            case measure => simp [RowKit.intOf]; omega
    · obtain rfl : j = l.length := by omega
      rw [List.take_of_length_le (Nat.le_refl _)] at hall
      have HA := Lib.hid hall
      clear hall
      go_wp2_with fail
      go_ret
      exact ⟨by rw [HA.out]; rfl, hx⟩
end Go.Proofs.Ythlobpdcolgcoaa
