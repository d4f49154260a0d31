/- Chapter 16: the contract of stamp.Put. -/
import Derived.Test.YthgepclmlhbbaaaStampPut2
namespace Go.Proofs.Ythgepclmlhbbaaa
open Go.RowKit
set_option linter.unusedVariables false
set_option linter.unusedSimpArgs false

def GotSt (s : ByteArray) (u : Int) (second : Value) (w : World) (e : Ending) (w' : World) : Prop :=
  ∃ g cap, e = .returned (.tuple #[.slice (some ⟨g, 0, none⟩) 32 cap, second]) ∧ w.heap.size ≤ g ∧ 32 ≤ cap ∧ RdA w' g 0 (nums8 (stampOf s u)) ∧ Ext w w'

theorem OwnF.rd {w : World} {base n : Nat} {v : Value} {xs : List Int} (h : OwnF w base v n (nums8 xs)) : ∃ A cap, v = .slice A n cap ∧ n ≤ cap ∧ xs.length = n ∧ RdV w A (nums8 xs) := by
  obtain ⟨A, cap, rfl, h1, h2, h3⟩ := h.shape
  refine ⟨A, cap, rfl, h1, by simpa [nums8] using h2, ?_⟩
  rcases h3 with ⟨h3, _⟩ | ⟨g, rfl, _, h3⟩
  · exact .inl h3
  · exact .inr ⟨g, 0, rfl, fun j u e => by rw [Nat.zero_add]; exact h3 j u e⟩
theorem OwnF.rdG {w : World} {base n : Nat} {v : Value} {xs : List Int} (h : OwnF w base v n (nums8 xs)) (hn : 0 < n) : ∃ g cap, v = .slice (some ⟨g, 0, none⟩) n cap ∧ base ≤ g ∧ n ≤ cap ∧ RdA w g 0 (nums8 xs) := by
  obtain ⟨A, cap, rfl, h1, h2, h3⟩ := h.shape
  rcases h3 with ⟨h3, _⟩ | ⟨g, rfl, hb, h3⟩
  · rw [h3] at h2
    simp at h2
    omega
  · exact ⟨g, cap, rfl, hb, h1, fun j u e => by rw [Nat.zero_add]; exact h3 j u e⟩

set_option maxHeartbeats 1000000 in
theorem put_no (s : ByteArray) (hs : s.size ≤ 1000000) (u : Int) (h : okSt s u = false) (w : World) :
    Calls Try.prog 9 #[.string s, .int .i64 u] w fun e w' => e = .returned (.tuple #[.slice none 0 0, .int .i64 2]) ∧ Ext w w' := by
  have HA := Lib.hid fun W => right_calls s hs W
  unfold okSt at h
  obtain ⟨b, hb⟩ : ∃ b, okNm s = b := ⟨_, rfl⟩
  rw [hb] at HA h
  clear hb
  cases b
  · clear h
    go_enter Try.func9, Try.ntmps9
    go_wp2_with fail
    refine (HA.out _).mono ?_
    rintro e W1 ⟨rfl, x1⟩
    go_wp2_with fail
    go_ret2
    exact ⟨rfl, x1⟩
  · by_cases h0 : u < 0
    · clear h
      go_enter Try.func9, Try.ntmps9
      go_wp2_with fail
      refine (HA.out _).mono ?_
      rintro e W1 ⟨rfl, x1⟩
      go_wp2_with fail
      go_ret2
      exact ⟨rfl, x1⟩
    · have h1 : ¬ u < 7258118400000000 := by
        intro h1
        rw [decide_eq_true (by omega : 0 ≤ u), decide_eq_true h1] at h
        cases h
      have h2 : 7258118400000000 ≤ u := by omega
      clear h
      go_enter Try.func9, Try.ntmps9
      go_wp2_with fail
      refine (HA.out _).mono ?_
      rintro e W1 ⟨rfl, x1⟩
      go_wp2_with fail
      go_ret2
      exact ⟨rfl, x1⟩

theorem sumK (msg : List Int) (A : Option Addr) (cap : Nat) (w : World) (hr : RdV w A (nums8 msg)) (hlen : msg.length ≤ 4611686018427387904) :
    Calls Try.prog 16 #[.agg (nums8 stampKey).toArray, .slice A msg.length cap] w fun e w' => e = .returned (.int .u64 (sipSum stampKey msg)) ∧ Ext w w' := ssum_calls stampKey rfl msg A cap w hr hlen

set_option maxHeartbeats 1000000 in
theorem put_yes (s : ByteArray) (hs : s.size ≤ 1000000) (u : Int) (h : okSt s u = true) (w : World) :
    Calls Try.prog 9 #[.string s, .int .i64 u] w (GotSt s u (.int .i64 0) w) := by
  have HA := Lib.hid fun W => right_calls s hs W
  unfold okSt at h
  simp only [Bool.and_eq_true, decide_eq_true_eq] at h
  obtain ⟨⟨h1, h0⟩, h2⟩ := h
  rw [h1] at HA
  clear h1
  have h0' : ¬ u < 0 := by omega
  have h2' : ¬ 7258118400000000 ≤ u := by omega
  go_enter Try.func9, Try.ntmps9
  go_wp2_with fail
  refine (HA.out _).mono ?_
  rintro e W1 ⟨rfl, x1⟩
  clear HA
  have hmk : ∀ (W : World), (W.alloc (.cells (nums8 magicL).toArray 5 (8, 9))).heap[W.heap.size]? = some (.cells (nums8 magicL).toArray 5 (8, 9)) := fun W => heap_alloc_new W _
  go_upto_region 4 with (refine wpList_convert_const rfl 23 5 (.tmp 19) rfl Try.underlying23 Try.underlying5 (nums8 magicL).toArray W1.heap.size 8 8 rfl rfl (by simp) ?_; refine wpList_gen (fun W => OwnF W w.heap.size (.slice (some ⟨W1.heap.size, 0, none⟩) 8 8) 8 (nums8 magicL) ∧ Ext w W) ⟨.inr ⟨_, rfl, x1.size, hmk W1, rfl, by unfold maxLen; omega⟩, x1.alloc _⟩ ?_; rintro W2 ⟨hown, x2⟩)
  have hb := Blk.new W2 [.slice (some ⟨W1.heap.size, 0, none⟩) 8 8] 23
  refine wp_gen (fun W => Blk W W2.heap.size [.slice (some ⟨W1.heap.size, 0, none⟩) 8 8] 23 ∧ OwnF W w.heap.size (.slice (some ⟨W1.heap.size, 0, none⟩) 8 8) 8 (nums8 magicL) ∧ Ext w W) ⟨hb, hown.ext ((Ext.refl _).alloc _), x2.alloc _⟩ ?_
  have hBw : w.heap.size ≤ W2.heap.size := x2.size
  clear hb hown x2 x1 hmk
  obtain ⟨B, hB⟩ : ∃ B, W2.heap.size = B := ⟨_, rfl⟩
  obtain ⟨g0, hg0⟩ : ∃ g, W1.heap.size = g := ⟨_, rfl⟩
  rw [hB] at hBw ⊢
  rw [hg0]
  clear hB hg0
  rintro W3 ⟨hb, hown, x3⟩
  have K1 := Lib.hid (show ∀ A cap W, RdV W A (nums8 (bytesOf s)) → Calls Try.prog 16 #[.agg (nums8 stampKey).toArray, .slice A s.size cap] W fun e w' => e = .returned (.int .u64 (sipSum stampKey (bytesOf s))) ∧ Ext W w' from fun A cap W hr => by
    have := sumK (bytesOf s) A cap W hr (by rw [bytesOf_length]; omega)
    rwa [bytesOf_length] at this)
  obtain ⟨N1, hN1⟩ : ∃ N, sipSum stampKey (bytesOf s) = N := ⟨_, rfl⟩
  rw [hN1] at K1
  go_wp2_with fail
  refine (key_calls _).mono ?_
  rintro e W4 ⟨rfl, x4⟩
  go_wp2_with (refine wpList_bytes rfl (.tmp 24) 9 23 5 s rfl rfl Try.underlying9 Try.underlying23 Try.underlying5 ?_; intro cap1 W5 hcap1 x5 hr5)
  refine (K1.out _ _ _ (.inr ⟨_, 0, rfl, hr5⟩)).mono ?_
  rintro e W6 ⟨rfl, x6⟩
  have x36 := (x4.trans x5).trans x6
  replace hb := hb.ext x36
  replace hown := hown.ext x36
  replace x3 := x3.trans x36
  clear x4 x5 x6 x36 hr5 K1
  go_wp2_with fail
  refine (put_calls N1 B w.heap.size _ 8 magicL W6 hb hown hBw x3.size (by omega)).mono ?_
  rintro e W7 ⟨v7, rfl, hb7, hown7, b7⟩
  replace x3 := x3.below b7 (Nat.le_refl _)
  clear b7 hb hown
  have hNu : IntKind.u64.wrap u = u := by simp [IntKind.wrap, IntKind.signed, IntKind.bits]; omega
  go_wp2_with fail
  refine (put_calls u B w.heap.size v7 16 _ W7 hb7 hown7 hBw x3.size (by omega)).mono ?_
  rintro e W8 ⟨v8, rfl, hb8, hown8, b8⟩
  replace x3 := x3.below b8 (Nat.le_refl _)
  have hst : magicL ++ le8 8 N1 ++ le8 8 u = stHead s u := by rw [← hN1]; rfl
  rw [hst] at hown8
  clear b8 hb7 hown7 hst hN1
  obtain ⟨A8, cap8, rfl, hc8, hl8, hr8⟩ := hown8.rd
  have K2 := Lib.hid (show ∀ W, RdV W A8 (nums8 (stHead s u)) → Calls Try.prog 16 #[.agg (nums8 stampKey).toArray, .slice A8 24 cap8] W fun e w' => e = .returned (.int .u64 (sipSum stampKey (stHead s u))) ∧ Ext W w' from fun W hr => by
    have := sumK (stHead s u) A8 cap8 W hr (by rw [stHead_length]; omega)
    rwa [stHead_length] at this)
  have hst2 : Hid (stHead s u ++ le8 8 (sipSum stampKey (stHead s u)) = stampOf s u) := Lib.hid rfl
  obtain ⟨N2, hN2⟩ : ∃ N, sipSum stampKey (stHead s u) = N := ⟨_, rfl⟩
  rw [hN2] at K2 hst2
  have hcl : ∀ W', Ext W8 W' → W'.cell? ⟨B, 0, none⟩ = some (.slice A8 24 cap8) := fun W' hx => hx.cell (hb8.cell 0 rfl)
  have HR8 := Lib.hid hr8
  clear hr8 hN2 hl8 hc8
  go_upto_region 7 with (fail)
  refine wp_region_ext_tail 4 (by kernel_rfl) (by kernel_rfl) ?_; simp only [List.take_succ_cons, List.take_zero, List.drop_succ_cons, List.drop_zero]
  (apply quiet_onep; (case hw => rfl); (case h1 => intro W' hx; go_simp; (try go_bits); with_reducible rfl); (case hp => go_simp; first | done | with_reducible rfl))
  (apply quiet_onep; (case hw => rfl); (case h1 => intro W' hx; go_simp; go_at_call 17; refine ((key_calls _)).mono ?_; rintro e w'' ⟨rfl, hx2⟩; exact ⟨rfl, hx.trans hx2⟩); (case hp => go_simp; first | done | with_reducible rfl))
  (apply quiet_onep; (case hw => rfl); (case h1 => intro W' hx; go_simp; (try go_bits); with_reducible rfl); (case hp => go_simp; first | done | with_reducible rfl))
  (apply quiet_onep; (case hw => rfl); (case h1 => intro W' hx; go_simp; go_at_call 16; refine ((K2.out _ (HR8.out.ext hx))).mono ?_; rintro e w'' ⟨rfl, hx2⟩; exact ⟨rfl, hx.trans hx2⟩); (case hp => go_simp; first | done | with_reducible rfl))
  refine wpQuiet_nil ?_
  intro W9 x9
  clear hcl
  go_wp2_with fail
  refine (put_calls N2 B w.heap.size _ 24 _ W9 (hb8.ext x9) (hown8.ext x9) hBw (x3.trans x9).size (by omega)).mono ?_
  rintro e W10 ⟨v10, rfl, hb10, hown10, b10⟩
  replace x3 := (x3.trans x9).below b10 (Nat.le_refl _)
  rw [hst2.out] at hown10
  obtain ⟨g, cap, rfl, hg, hcap, hrd⟩ := hown10.rdG (by omega)
  have c0 := hb10.cell 0 rfl
  clear hb10 hown10 b10 hb8 hown8 x9
  have HR := Lib.hid hrd
  clear hrd
  go_wp2_with fail
  go_ret2
  exact ⟨g, cap, rfl, hg, hcap, HR.out, x3⟩
end Go.Proofs.Ythgepclmlhbbaaa
