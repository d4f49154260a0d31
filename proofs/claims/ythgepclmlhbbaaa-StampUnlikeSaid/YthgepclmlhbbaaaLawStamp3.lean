/- Chapter 16: the law StampUnlike at any arguments. -/
import Derived.Test.YthgepclmlhbbaaaStampAny
namespace Go.Proofs.Ythgepclmlhbbaaa
open Go.RowKit
set_option linter.unusedVariables false
set_option linter.unusedSimpArgs false

theorem stamp_take16 (s : ByteArray) (u : Int) : (stampOf s u).take 16 = magicL ++ le8 8 (sipSum stampKey (bytesOf s)) := by
  have h : stampOf s u = (magicL ++ le8 8 (sipSum stampKey (bytesOf s))) ++ (le8 8 u ++ le8 8 (sipSum stampKey (stHead s u))) := by
    unfold stampOf stHead
    rw [List.append_assoc, List.append_assoc, List.append_assoc]
  have hl : (magicL ++ le8 8 (sipSum stampKey (bytesOf s))).length = 16 := by simp [le8_length, magicL]
  rw [h, List.take_left' hl]
theorem le8_inj (a b : Int) (ha0 : 0 ≤ a) (ha1 : a < 7258118400000000) (hb0 : 0 ≤ b) (hb1 : b < 7258118400000000) (h : le8 8 a = le8 8 b) : a = b := by
  rw [← leN_le8 a ha0 ha1, ← leN_le8 b hb0 hb1, h]
theorem str_eq (xs ys : List Int) (hx : Bytes xs) (hy : Bytes ys) : ((strOfNums xs).toList == (strOfNums ys).toList) = decide (xs = ys) := by
  rw [Lib.strOfNums_toList, Lib.strOfNums_toList, eqB _ _ hx hy]
theorem RdA.mid {W : World} {b o : Nat} {l : List Int} (h : RdA W b o (nums8 l)) (i n : Nat) : RdA W b (o + i) (nums8 ((l.drop i).take n)) := by
  have := RdA.sub h i n
  rwa [show ((nums8 l).drop i).take n = nums8 ((l.drop i).take n) by simp [nums8, List.map_drop, List.map_take]] at this
/-- The strings of a stamp's bytes, in every later world. -/
theorem stamp_strs (s : ByteArray) (u : Int) (g c : Nat) (w W : World) (hr : RdA w g 0 (nums8 (stampOf s u))) (hx : Ext w W) :
    (convert 23 9 (.slice (some ⟨g, 0, none⟩) 32 c)).run Try.prog W = .ok (.string (strOfNums (stampOf s u))) W ∧
    (convert 23 9 (.slice (some ⟨g, 0, none⟩) 16 c)).run Try.prog W = .ok (.string (strOfNums (magicL ++ le8 8 (sipSum stampKey (bytesOf s))))) W ∧
    (convert 23 9 (.slice (some ⟨g, 16, none⟩) 8 (c - 16))).run Try.prog W = .ok (.string (strOfNums (le8 8 u))) W := by
  have H := fun (A : Option Addr) (xs : List Int) (h : RdV W A (nums8 xs)) (cap : Nat) => run_string_of (P := Try.prog) Try.underlying23 Try.underlying5 Try.underlying9 h cap
  have h1 := H (some ⟨g, 0, none⟩) (stampOf s u) (.inr ⟨g, 0, rfl, hr.ext hx⟩) c
  have h2 := H (some ⟨g, 0, none⟩) ((stampOf s u).take 16) (.inr ⟨g, 0, rfl, (by
    intro j v e
    refine (hr.ext hx) j v ?_
    simp only [nums8, List.getElem?_map, List.getElem?_take] at e ⊢
    split at e
    · exact e
    · cases e)⟩) c
  have h3 := H (some ⟨g, 16, none⟩) (((stampOf s u).drop 16).take 8) (.inr ⟨g, 16, rfl, by have := (hr.ext hx).mid 16 8; rwa [Nat.zero_add] at this⟩) (c - 16)
  rw [stamp_time] at h3
  rw [stamp_take16] at h2
  rw [stampOf_length] at h1
  have e2 : (magicL ++ le8 8 (sipSum stampKey (bytesOf s))).length = 16 := by simp [le8_length, magicL]
  rw [e2] at h2
  rw [le8_length] at h3
  exact ⟨h1, h2, h3⟩

attribute [local irreducible] stampOf
set_option maxRecDepth 100000 in
set_option maxHeartbeats 4000000 in
theorem law_unlike (s : ByteArray) (a b : Int) (w : World) :
    Calls Try.prog 6 #[.string s, .int .i64 a, .int .i64 b] w fun e w' => e = .returned (.bool true) ∧ Ext w w' := by
  by_cases h200 : 200 < s.size
  · have hi : (200 : Int) < s.size := by omega
    go_enter Try.func6, Try.ntmps6
    go_wp2_with fail
    refine (works_calls _).mono ?_
    rintro e W1 ⟨rfl, x1⟩
    go_wp2_with fail
    go_ret
    exact ⟨rfl, x1⟩
  have hi : ¬ (200 : Int) < s.size := by omega
  have hs : s.size ≤ 1000000 := by omega
  cases ha : okSt s a with
  | false =>
    have P1 := Lib.hid fun W => put_no s hs a ha W
    cases hb : okSt s b with
    | false =>
      have P2 := Lib.hid fun W => put_no s hs b hb W
      clear ha hb
      go_enter Try.func6, Try.ntmps6
      go_wp2_with fail
      refine (P1.out _).mono ?_
      rintro e W1 ⟨rfl, x1⟩
      go_wp2_with fail
      refine (P2.out _).mono ?_
      rintro e W2 ⟨rfl, x2⟩
      go_wp2_with fail
      refine (works_calls _).mono ?_
      rintro e W3 ⟨rfl, x3⟩
      go_wp2_with fail
      go_ret
      exact ⟨rfl, (x1.trans x2).trans x3⟩
    | true =>
      have P2 := Lib.hid fun W => put_yes s hs b hb W
      clear ha hb
      go_enter Try.func6, Try.ntmps6
      go_wp2_with fail
      refine (P1.out _).mono ?_
      rintro e W1 ⟨rfl, x1⟩
      go_wp2_with fail
      refine (P2.out _).mono ?_
      rintro e W2 ⟨g2, c2, rfl, hg2, hc2, r2, x2⟩
      clear r2
      go_wp2_with fail
      refine (works_calls _).mono ?_
      rintro e W3 ⟨rfl, x3⟩
      go_wp2_with fail
      go_ret
      exact ⟨rfl, (x1.trans x2).trans x3⟩
  | true =>
    have P1 := Lib.hid fun W => put_yes s hs a ha W
    cases hb : okSt s b with
    | false =>
      have P2 := Lib.hid fun W => put_no s hs b hb W
      clear ha hb
      go_enter Try.func6, Try.ntmps6
      go_wp2_with fail
      refine (P1.out _).mono ?_
      rintro e W1 ⟨g1, c1, rfl, hg1, hc1, r1, x1⟩
      clear r1
      go_wp2_with fail
      refine (P2.out _).mono ?_
      rintro e W2 ⟨rfl, x2⟩
      go_wp2_with fail
      refine (works_calls _).mono ?_
      rintro e W3 ⟨rfl, x3⟩
      go_wp2_with fail
      go_ret
      exact ⟨rfl, (x1.trans x2).trans x3⟩
    | true =>
      have P2 := Lib.hid fun W => put_yes s hs b hb W
      obtain ⟨hn, ha0, ha1⟩ := okSt_bounds ha
      obtain ⟨_, hb0, hb1⟩ := okSt_bounds hb
      have T1 := Lib.hid fun W g c hc hr => take_loop s hs hn (stampOf s a) (stampOf_length s a) (stampOf_bytes s a) g 0 c hc W hr
      have T2 := Lib.hid fun W g c hc hr => take_loop s hs hn (stampOf s b) (stampOf_length s b) (stampOf_bytes s b) g 0 c hc W hr
      unfold Took at T1 T2
      rw [take_other s s a ha0 ha1, if_pos ⟨ha, rfl⟩] at T1
      rw [take_other s s b hb0 hb1, if_pos ⟨hb, rfl⟩] at T2
      unfold takeV at T1 T2
      have hab : (stampOf s a = stampOf s b) ↔ a = b := ⟨fun h => le8_inj a b ha0 ha1 hb0 hb1 (by rw [← stamp_time s a, h, stamp_time s b]), fun h => by rw [h]⟩
      have hlab : (le8 8 a = le8 8 b) ↔ a = b := ⟨fun h => le8_inj a b ha0 ha1 hb0 hb1 h, fun h => by rw [h]⟩
      have q1 := str_eq _ _ (stampOf_bytes s a) (stampOf_bytes s b)
      rw [decide_eq_decide.2 hab] at q1
      have q2 := str_eq _ _ (le8_bytes 8 a) (le8_bytes 8 b)
      rw [decide_eq_decide.2 hlab] at q2
      obtain ⟨q, hq⟩ : ∃ q : Bool, decide (a = b) = q := ⟨_, rfl⟩
      rw [hq] at q1 q2
      have q3 : (a == b) = q := by rw [← hq]; simp [BEq.beq]
      have HS := Lib.hid fun g c w W h1 h2 => stamp_strs s a g c w W h1 h2
      have HS' := Lib.hid fun g c w W h1 h2 => stamp_strs s b g c w W h1 h2
      obtain ⟨M, hM⟩ : ∃ M, strOfNums (magicL ++ le8 8 (sipSum stampKey (bytesOf s))) = M := ⟨_, rfl⟩
      obtain ⟨X, hX⟩ : ∃ X, strOfNums (stampOf s a) = X := ⟨_, rfl⟩
      obtain ⟨Y, hY⟩ : ∃ Y, strOfNums (stampOf s b) = Y := ⟨_, rfl⟩
      obtain ⟨X2, hX2⟩ : ∃ X, strOfNums (le8 8 a) = X := ⟨_, rfl⟩
      obtain ⟨Y2, hY2⟩ : ∃ Y, strOfNums (le8 8 b) = Y := ⟨_, rfl⟩
      rw [hX, hY] at q1
      rw [hX2, hY2] at q2
      simp only [hM, hX, hX2] at HS
      simp only [hM, hY, hY2] at HS'
      have qq : (q == q) = true := by simp
      have mm : (M.toList == M.toList) = true := by simp
      have eaa : (a != a) = false := by simp
      have ebb : (b != b) = false := by simp
      clear hM hX hY hX2 hY2 hq hab hlab ha hb
      go_enter Try.func6, Try.ntmps6
      go_wp2_with fail
      refine (P1.out _).mono ?_
      rintro e W1 ⟨g1, c1, rfl, hg1, hc1, r1, x1⟩
      go_wp2_with fail
      refine (P2.out _).mono ?_
      rintro e W2 ⟨g2, c2, rfl, hg2, hc2, r2, x2⟩
      have r1' := r1.ext x2
      clear r1
      go_wp2_with fail
      refine (T1.out _ _ _ hc1 r1').mono ?_
      rintro e W3 ⟨rfl, x3⟩
      go_wp2_with fail
      refine (T2.out _ _ _ hc2 (r2.ext x3)).mono ?_
      rintro e W4 ⟨rfl, x4⟩
      have F := HS.out g1 c1 W4
      have F' := HS'.out g2 c2 W4
      have f1 : ∀ W, Ext W4 W → _ := fun W hx => (F W ((r1'.ext x3).ext x4) hx).1
      have f2 : ∀ W, Ext W4 W → _ := fun W hx => (F W ((r1'.ext x3).ext x4) hx).2.1
      have f3 : ∀ W, Ext W4 W → _ := fun W hx => (F W ((r1'.ext x3).ext x4) hx).2.2
      have k1 : ∀ W, Ext W4 W → _ := fun W hx => (F' W ((r2.ext x3).ext x4) hx).1
      have k2 : ∀ W, Ext W4 W → _ := fun W hx => (F' W ((r2.ext x3).ext x4) hx).2.1
      have k3 : ∀ W, Ext W4 W → _ := fun W hx => (F' W ((r2.ext x3).ext x4) hx).2.2
      have hx := ((x1.trans x2).trans x3).trans x4
      have d1 : (16 : Int) ≤ c1 := by omega
      have d2 : (16 : Int) ≤ c2 := by omega
      have d3 : (24 : Int) ≤ c1 := by omega
      have d4 : (24 : Int) ≤ c2 := by omega
      have d5 : ¬ c1 = 16 := by omega
      have d6 : ¬ c2 = 16 := by omega
      have hW4 := Lib.hid hx
      clear F F' r1' r2 x1 x2 x3 x4 HS HS' P1 P2 T1 T2 hx
      go_upto_region 11 with (fail)
      refine wp_region_ext_tail 29 (by kernel_rfl) (by kernel_rfl) ?_; simp only [List.take_succ_cons, List.take_zero, List.drop_succ_cons, List.drop_zero]
      (apply quiet_onep; (case hw => rfl); (case h1 => intro W' hx; go_simp; (try go_bits); with_reducible rfl); (case hp => go_simp; first | done | with_reducible rfl))
      (apply quiet_onep; (case hw => rfl); (case h1 => intro W' hx; go_simp; (try go_bits); with_reducible rfl); (case hp => go_simp; first | done | with_reducible rfl))
      (apply quiet_onep; (case hw => rfl); (case h1 => intro W' hx; go_simp; (try go_bits); with_reducible rfl); (case hp => go_simp; first | done | with_reducible rfl))
      (apply quiet_onep; (case hw => rfl); (case h1 => intro W' hx; go_simp; (try go_bits); with_reducible rfl); (case hp => go_simp; first | done | with_reducible rfl))
      (apply quiet_onep; (case hw => rfl); (case h1 => intro W' hx; go_simp; (try go_bits); with_reducible rfl); (case hp => go_simp; first | done | with_reducible rfl))
      (apply quiet_onep; (case hw => rfl); (case h1 => intro W' hx; go_simp; (try go_bits); with_reducible rfl); (case hp => go_simp; first | done | with_reducible rfl))
      (apply quiet_onep; (case hw => rfl); (case h1 => intro W' hx; go_simp; (try go_bits); with_reducible rfl); (case hp => go_simp; first | done | with_reducible rfl))
      (apply quiet_onep; (case hw => rfl); (case h1 => intro W' hx; go_simp; (try go_bits); with_reducible rfl); (case hp => go_simp; first | done | with_reducible rfl))
      (apply quiet_onep; (case hw => rfl); (case h1 => intro W' hx; go_simp; (try go_bits); with_reducible rfl); (case hp => go_simp; first | done | with_reducible rfl))
      (apply quiet_onep; (case hw => rfl); (case h1 => intro W' hx; go_simp; (try go_bits); with_reducible rfl); (case hp => go_simp; first | done | with_reducible rfl))
      (apply quiet_onep; (case hw => rfl); (case h1 => intro W' hx; go_simp; (try go_bits); with_reducible rfl); (case hp => go_simp; first | done | with_reducible rfl))
      (apply quiet_onep; (case hw => rfl); (case h1 => intro W' hx; go_simp; (try go_bits); with_reducible rfl); (case hp => go_simp; first | done | with_reducible rfl))
      (apply quiet_onep; (case hw => rfl); (case h1 => intro W' hx; go_simp; (try go_bits); with_reducible rfl); (case hp => go_simp; first | done | with_reducible rfl))
      (apply quiet_onep; (case hw => rfl); (case h1 => intro W' hx; go_simp; (try go_bits); with_reducible rfl); (case hp => go_simp; first | done | with_reducible rfl))
      (apply quiet_onep; (case hw => rfl); (case h1 => intro W' hx; go_simp; (try go_bits); with_reducible rfl); (case hp => go_simp; first | done | with_reducible rfl))
      (apply quiet_onep; (case hw => rfl); (case h1 => intro W' hx; go_simp; (try go_bits); with_reducible rfl); (case hp => go_simp; first | done | with_reducible rfl))
      (apply quiet_onep; (case hw => rfl); (case h1 => intro W' hx; go_simp; (try go_bits); with_reducible rfl); (case hp => go_simp; first | done | with_reducible rfl))
      (apply quiet_onep; (case hw => rfl); (case h1 => intro W' hx; go_simp; (try go_bits); with_reducible rfl); (case hp => go_simp; first | done | with_reducible rfl))
      (apply quiet_onep; (case hw => rfl); (case h1 => intro W' hx; go_simp; (try go_bits); with_reducible rfl); (case hp => go_simp; first | done | with_reducible rfl))
      (apply quiet_onep; (case hw => rfl); (case h1 => intro W' hx; go_simp; (try go_bits); with_reducible rfl); (case hp => go_simp; first | done | with_reducible rfl))
      (apply quiet_onep; (case hw => rfl); (case h1 => intro W' hx; go_simp; (try go_bits); with_reducible rfl); (case hp => go_simp; first | done | with_reducible rfl))
      (apply quiet_onep; (case hw => rfl); (case h1 => intro W' hx; go_simp; (try go_bits); with_reducible rfl); (case hp => go_simp; first | done | with_reducible rfl))
      (apply quiet_onep; (case hw => rfl); (case h1 => intro W' hx; go_simp; (try go_bits); with_reducible rfl); (case hp => go_simp; first | done | with_reducible rfl))
      (apply quiet_onep; (case hw => rfl); (case h1 => intro W' hx; go_simp; (try go_bits); with_reducible rfl); (case hp => go_simp; first | done | with_reducible rfl))
      (apply quiet_onep; (case hw => rfl); (case h1 => intro W' hx; go_simp; (try go_bits); with_reducible rfl); (case hp => go_simp; first | done | with_reducible rfl))
      (apply quiet_onep; (case hw => rfl); (case h1 => intro W' hx; go_simp; (try go_bits); with_reducible rfl); (case hp => go_simp; first | done | with_reducible rfl))
      (apply quiet_onep; (case hw => rfl); (case h1 => intro W' hx; go_simp; (try go_bits); with_reducible rfl); (case hp => go_simp; first | done | with_reducible rfl))
      (apply quiet_onep; (case hw => rfl); (case h1 => intro W' hx; go_simp; (try go_bits); with_reducible rfl); (case hp => go_simp; first | done | with_reducible rfl))
      (apply quiet_onep; (case hw => rfl); (case h1 => intro W' hx; go_simp; (try go_bits); with_reducible rfl); (case hp => go_simp; first | done | with_reducible rfl))
      refine wpQuiet_nil ?_
      intro W5 x5
      clear f1 f2 f3 k1 k2 k3
      go_wp2_with fail
      refine (works_calls _).mono ?_
      rintro e W6 ⟨rfl, x6⟩
      go_wp2_with fail
      go_ret
      exact ⟨rfl, (hW4.out.trans x5).trans x6⟩
end Go.Proofs.Ythgepclmlhbbaaa
