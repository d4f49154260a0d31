/- clepsydrakit.SameInts. -/
import Derived.Test.YtdpfppibbnjemaaMem
namespace Go.Proofs.Ytdpfppibbnjemaa
open Go.RowKit Go.Lib
set_option linter.unusedVariables false
set_option linter.unusedSimpArgs false
theorem same_calls (xs ys : List Int) (A B : Option Addr) (c d : Nat) (w : World) (h1 : RdV w A (ints xs)) (h2 : RdV w B (ints ys)) (hl : xs.length ≤ 9223372036854775807) (hl2 : ys.length ≤ 9223372036854775807) :
    Calls Try.prog 16 #[.slice A xs.length c, .slice B ys.length d] w fun e w' => e = .returned (.bool (decide (xs = ys))) ∧ Ext w w' := by
  by_cases hlen : xs.length = ys.length
  · have HL := Lib.hid hlen
    obtain ⟨q, hq⟩ : ∃ q, decide (xs = ys) = q := ⟨_, rfl⟩
    have HQ := Lib.hid hq
    rw [hq]
    clear hq
    rw [← hlen]
    clear hlen
    go_enter Try.func16, Try.ntmps16
    go_wp2_with fail
    go_loopw [5] (fun i W => ∃ j : Nat, j ≤ xs.length ∧ i = .int .i64 j ∧ xs.take j = ys.take j ∧ Ext w W ∧ RdV W A (ints xs) ∧ RdV W B (ints ys)) (fun i _ => xs.length - (RowKit.intOf i).toNat)
    case atStart => exact ⟨0, by omega, rfl, by simp, Ext.refl w, h1, h2⟩
    case round =>
      clear h1 h2
      obtain ⟨j, hj, rfl, heq, hx, h1, h2⟩ := hrel
      have HE := Lib.hid heq
      clear heq
      by_cases hlt : j < xs.length
      · have hlti : (j : Int) < xs.length := by omega
        obtain ⟨b1, o1, rfl, k1⟩ := h1.at (i := j) (by rw [ints_length]; exact hlt)
        obtain ⟨b2, o2, rfl, k2⟩ := h2.at (i := j) (by rw [ints_length, ← HL.out]; exact hlt)
        obtain ⟨x, hx1⟩ : ∃ x, xs[j]? = some x := ⟨_, List.getElem?_eq_getElem hlt⟩
        obtain ⟨y, hy1⟩ : ∃ y, ys[j]? = some y := ⟨_, List.getElem?_eq_getElem (by rw [← HL.out]; exact hlt)⟩
        have f1 := k1 j (.int .i64 x) (by rw [ints_get, hx1]; rfl)
        have f2 := k2 j (.int .i64 y) (by rw [ints_get, hy1]; rfl)
        by_cases hxy : x = y
        · subst hxy
          go_upto_region 6 with (fail)
          refine wp_region_mixAll (fun W => W = wr.drew) [(0, true), (1, true), (2, true), (3, true), (4, true), (5, true), (6, true), (7, true), (8, true)] (by kernel_rfl) (by kernel_rfl) (rfl) ?_
          repeat (apply mix_read; (case ho => rfl); (case hw => rfl); (case h1 => intro W' hx; subst hx; go_simp; (try go_bits); with_reducible rfl); (case hp => go_simp; first | done | with_reducible rfl))
          refine mix_nil ?_; unfold Q0
          go_wp2_with fail
          go_roundw
          case rel => exact ⟨j + 1, by omega, by go_num, by rw [List.take_add_one, List.take_add_one, HE.out, hx1, hy1], hx.drew, h1.ext (Ext.refl _).drew, h2.ext (Ext.refl _).drew⟩
          case measure => simp [RowKit.intOf]; omega
        · have hb : (x == y) = false := by simpa using hxy
          go_upto_region 6 with (fail)
          refine wp_region_mixAll (fun W => W = wr.drew) [(0, true), (1, true), (2, true), (3, true), (4, true), (5, true), (6, true), (7, true), (8, true)] (by kernel_rfl) (by kernel_rfl) (rfl) ?_
          repeat (apply mix_read; (case ho => rfl); (case hw => rfl); (case h1 => intro W' hx; subst hx; go_simp; (try go_bits); with_reducible rfl); (case hp => go_simp; first | done | with_reducible rfl))
          refine mix_nil ?_; unfold Q0
          go_wp2_with fail
          go_ret
          exact ⟨by rw [← HQ.out, decide_eq_false (by rintro rfl; rw [hx1] at hy1; cases hy1; exact hxy rfl)]; rfl, hx.drew⟩
      · obtain rfl : j = xs.length := by omega
        go_wp2_with fail
        go_ret
        exact ⟨by
          have he := HE.out
          rw [List.take_of_length_le (Nat.le_refl _), HL.out, List.take_of_length_le (Nat.le_refl _)] at he
          rw [← HQ.out, decide_eq_true he]; rfl, hx⟩
  · have hli : ¬ (xs.length : Int) = ys.length := by omega
    have hbi : ((xs.length : Int) == ys.length) = false := by simpa using hli
    rw [decide_eq_false (by rintro rfl; exact hlen rfl)]
    go_enter Try.func16, Try.ntmps16
    go_wp2_with fail
    go_ret
    exact ⟨rfl, Ext.refl w⟩
end Go.Proofs.Ytdpfppibbnjemaa
