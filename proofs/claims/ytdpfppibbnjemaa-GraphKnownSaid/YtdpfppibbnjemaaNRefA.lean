/- Chapter 19: the document's Ahead; SameNames. -/
import Derived.Test.YtdpfppibbnjemaaNRef
namespace Go.Proofs.Ytdpfppibbnjemaa
open Go.RowKit Go.Shelf
set_option linter.unusedVariables false
set_option linter.unusedSimpArgs false
def aheadN (l : List NR) (a b : Int) : Bool := decide (0 ≤ a ∧ 0 ≤ b ∧ a < l.length ∧ b < l.length) && (nmB l b.toNat a.toNat 4 || nmB l a.toNat b.toNat 5)
set_option maxRecDepth 100000 in
set_option maxHeartbeats 2000000 in
theorem rahead_calls (l : List NR) (A : Option Addr) (cap : Nat) (a b : Int) (w : World) (hr : RdN w A l) (hs : Small l) :
    Calls Try.prog 20 #[.slice A l.length cap, .int .i64 a, .int .i64 b] w fun e w' => e = .returned (.bool (aheadN l a b)) ∧ Ext w w' := by
  by_cases hin : 0 ≤ a ∧ 0 ≤ b ∧ a < l.length ∧ b < l.length
  · have hE : aheadN l a b = (nmB l b.toNat a.toNat 4 || nmB l a.toNat b.toNat 5) := by unfold aheadN; rw [decide_eq_true hin, Bool.true_and]
    rw [hE]
    obtain ⟨h1, h2, h3, h4⟩ := hin
    obtain ⟨a, rfl⟩ : ∃ n : Nat, a = n := ⟨a.toNat, by omega⟩
    obtain ⟨b, rfl⟩ : ∃ n : Nat, b = n := ⟨b.toNat, by omega⟩
    simp only [Int.toNat_natCast]
    have n1 : ¬ (a : Int) < 0 := by omega
    have n2 : ¬ (b : Int) < 0 := by omega
    have n3 : ¬ (l.length : Int) ≤ a := by omega
    have n4 : ¬ (l.length : Int) ≤ b := by omega
    have H1 := Lib.hid (rhas_calls l A cap b a 4 w hr hs (by omega) (by omega) (by omega))
    have H2 := Lib.hid fun W (hx : Ext w W) => rhas_calls l A cap a b 5 W (hr.ext hx) hs (by omega) (by omega) (by omega)
    clear hr hs hE
    have tok : True := trivial
    cases hp : nmB l b a 4 with
    | true =>
      rw [hp] at H1
      clear hp
      go_enter Try.func20, Try.ntmps20
      go_wp2_with (go_at_call 36; have _t := tok; refine H1.out.mono ?_; rintro e w1 ⟨rfl, hx1⟩; clear tok)
      go_ret
      exact ⟨rfl, hx1⟩
    | false =>
      rw [hp] at H1
      clear hp
      obtain ⟨p, hp⟩ : ∃ p, nmB l a b 5 = p := ⟨_, rfl⟩
      rw [hp] at H2 ⊢
      clear hp
      go_enter Try.func20, Try.ntmps20
      go_wp2_with (first | (go_at_call 36; have _t := tok; refine H1.out.mono ?_; rintro e w1 ⟨rfl, hx1⟩; clear tok) | (go_at_call 36; refine (H2.out _ hx1).mono ?_; rintro e w2 ⟨rfl, hx2⟩))
      go_ret
      exact ⟨by simp, hx1.trans hx2⟩
  · have hE : aheadN l a b = false := by unfold aheadN; rw [decide_eq_false hin]; rfl
    rw [hE]
    clear hE hr
    by_cases h1 : a < 0
    · clear hin
      go_enter Try.func20, Try.ntmps20
      go_wp2_with fail
      go_ret
      exact ⟨rfl, Ext.refl w⟩
    · by_cases h2 : b < 0
      · clear hin
        go_enter Try.func20, Try.ntmps20
        go_wp2_with fail
        go_ret
        exact ⟨rfl, Ext.refl w⟩
      · by_cases h3 : (l.length : Int) ≤ a
        · clear hin
          go_enter Try.func20, Try.ntmps20
          go_wp2_with fail
          go_ret
          exact ⟨rfl, Ext.refl w⟩
        · have h4 : (l.length : Int) ≤ b := by omega
          clear hin
          go_enter Try.func20, Try.ntmps20
          go_wp2_with fail
          go_ret
          exact ⟨rfl, Ext.refl w⟩
set_option maxRecDepth 100000 in
set_option maxHeartbeats 1000000 in
theorem sameNames_calls (xs : List ByteArray) (A B : Option Addr) (c d : Nat) (w : World) (h1 : RdV w A (xs.map .string)) (h2 : RdV w B (xs.map .string)) (hl : xs.length ≤ 1000000) :
    Calls Try.prog 18 #[.slice A xs.length c, .slice B xs.length d] w fun e w' => e = .returned (.bool true) ∧ Ext w w' := by
  go_enter Try.func18, Try.ntmps18
  go_wp2_with fail
  go_loopw [5] (fun i W => ∃ j : Nat, j ≤ xs.length ∧ i = .int .i64 j ∧ Ext w W) (fun i _ => xs.length - (RowKit.intOf i).toNat)
  case atStart => exact ⟨0, by omega, rfl, Ext.refl w⟩
  case round =>
    obtain ⟨j, hj, rfl, hx⟩ := hrel
    by_cases hlt : j < xs.length
    · have hlti : (j : Int) < xs.length := by omega
      obtain ⟨b1, o1, rfl, k1⟩ := (h1.ext hx).at (i := j) (by simpa using hlt)
      obtain ⟨b2, o2, rfl, k2⟩ := (h2.ext hx).at (i := j) (by simpa using hlt)
      obtain ⟨x, hx1⟩ : ∃ x, xs[j]? = some x := ⟨_, List.getElem?_eq_getElem hlt⟩
      have f1 := k1 j (.string x) (by rw [List.getElem?_map, hx1]; rfl)
      have f2 := k2 j (.string x) (by rw [List.getElem?_map, hx1]; rfl)
      clear k1 k2 hx1
      go_upto_region 6 with (fail)
      refine wp_region_mixAll (fun W => W = wr.drew) [(0, true), (1, true), (2, true), (3, true), (4, true), (5, true), (6, true), (7, true), (8, true)] (by kernel_rfl) (by kernel_rfl) (rfl) ?_
      repeat (apply mix_read; (case ho => rfl); (case hw => rfl); (case h1 => intro W' hx; subst hx; go_simp; (try go_bits); with_reducible rfl); (case hp => go_simp; first | done | with_reducible rfl))
      refine mix_nil ?_; unfold Q0
      go_wp2_with fail
      go_roundw
      case rel => exact ⟨j + 1, by omega, by go_num, hx.drew⟩
      case measure => simp [RowKit.intOf]; omega
    · obtain rfl : j = xs.length := by omega
      go_wp2_with fail
      go_ret
      exact ⟨rfl, hx⟩
end Go.Proofs.Ytdpfppibbnjemaa
