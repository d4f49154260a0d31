/- Chapter 16: the contracts of both Takes. -/
import Derived.Test.YthgepclmlhbbaaaStampRef
import Derived.Lib.Bytes
namespace Go.Proofs.Ythgepclmlhbbaaa
open Go.RowKit
set_option linter.unusedVariables false
set_option linter.unusedSimpArgs false

def leN : List Int → Int
  | [] => 0
  | c :: r => c + 256 * leN r
theorem leN_snoc : ∀ (l : List Int) (c : Int), leN (l ++ [c]) = leN l + c * 256 ^ l.length
  | [], c => by simp [leN]
  | d :: l, c => by
    have ih := leN_snoc l c
    simp only [List.cons_append, leN, ih, List.length_cons]
    rw [Int.pow_succ, Int.mul_add]
    have : 256 * (c * 256 ^ l.length) = c * (256 ^ l.length * 256) := by
      rw [← Int.mul_assoc, Int.mul_comm 256 c, Int.mul_assoc, Int.mul_comm 256]
    omega
theorem leN_range : ∀ (l : List Int), Bytes l → 0 ≤ leN l ∧ leN l < 256 ^ l.length
  | [], _ => by simp [leN]
  | d :: l, h => by
    have ih := leN_range l (fun c hc => h c (List.mem_cons_of_mem _ hc))
    have hd := h d (List.mem_cons_self)
    obtain ⟨d0, d1⟩ := hd
    obtain ⟨h0, h1⟩ := ih
    simp only [leN, List.length_cons, Int.pow_succ]
    omega
def timeOf (l : List Int) : Int := wrap64 (leN ((l.drop 16).take 8))
def takeOf (s : ByteArray) (l : List Int) : Option Int := if l.length = 32 ∧ okSt s (timeOf l) = true ∧ stampOf s (timeOf l) = l then some (timeOf l) else none

theorem eqB (xs ys : List Int) (hx : Bytes xs) (hy : Bytes ys) : (Lib.bytesOf xs == Lib.bytesOf ys) = decide (xs = ys) := by
  rw [Bool.eq_iff_iff, beq_iff_eq, decide_eq_true_eq]
  constructor
  · intro h
    have h1 : (Lib.bytesOf xs).map (fun c => ((c.toNat : Nat) : Int)) = xs := bytesOf_strOf xs hx
    have h2 : (Lib.bytesOf ys).map (fun c => ((c.toNat : Nat) : Int)) = ys := bytesOf_strOf ys hy
    rw [← h1, ← h2, h]
  · rintro rfl
    rfl

set_option maxHeartbeats 1000000 in
theorem take_bad (s : ByteArray) (hs : s.size ≤ 1000000) (h : okNm s = false) (A : Option Addr) (n cap : Nat) (w : World) :
    Calls Try.prog 13 #[.string s, .slice A n cap] w fun e w' => e = .returned (.tuple #[.int .i64 0, .int .i64 2]) ∧ Ext w w' := by
  have HA := Lib.hid fun W => right_calls s hs W
  rw [h] at HA
  clear h
  go_enter Try.func13, Try.ntmps13
  go_wp2_with fail
  refine (HA.out _).mono ?_
  rintro e W1 ⟨rfl, x1⟩
  go_wp2_with fail
  go_ret2
  exact ⟨rfl, x1⟩
set_option maxHeartbeats 1000000 in
theorem take_long (s : ByteArray) (hs : s.size ≤ 1000000) (h : okNm s = true) (A : Option Addr) (n cap : Nat) (hn : n ≠ 32) (w : World) :
    Calls Try.prog 13 #[.string s, .slice A n cap] w fun e w' => e = .returned (.tuple #[.int .i64 0, .int .i64 160]) ∧ Ext w w' := by
  have HA := Lib.hid fun W => right_calls s hs W
  rw [h] at HA
  have h32 : ((n : Int) != 32) = true := by rw [bne_iff_ne]; omega
  clear h hn
  go_enter Try.func13, Try.ntmps13
  go_wp2_with fail
  refine (HA.out _).mono ?_
  rintro e W1 ⟨rfl, x1⟩
  go_wp2_with fail
  go_ret2
  exact ⟨rfl, x1⟩

def takeV (r : Option Int) (yes no : Value) : Value := match r with | some u => .tuple #[.int .i64 u, yes] | none => .tuple #[.int .i64 0, no]
def Took (s : ByteArray) (l : List Int) (yes no : Value) (w : World) (e : Ending) (w' : World) : Prop := e = .returned (takeV (takeOf s l) yes no) ∧ Ext w w'

set_option maxHeartbeats 2000000 in
theorem take_loop (s : ByteArray) (hs : s.size ≤ 1000000) (h : okNm s = true) (l : List Int) (hl : l.length = 32) (hlb : Bytes l) (b o cap : Nat) (hcap : 32 ≤ cap) (w : World) (hr : RdA w b o (nums8 l)) :
    Calls Try.prog 13 #[.string s, .slice (some ⟨b, o, none⟩) 32 cap] w (Took s l (.int .i64 0) (.int .i64 160) w) := by
  have HA := Lib.hid fun W => right_calls s hs W
  rw [h] at HA
  have hc24 : (24 : Int) ≤ cap := by omega
  have hc16 : ¬ cap = 16 := by omega
  have HL := Lib.hid hl
  have HRd := Lib.hid hr
  clear h hl hr
  go_enter Try.func13, Try.ntmps13
  go_wp2_with fail
  refine (HA.out _).mono ?_
  rintro e W1 ⟨rfl, x1⟩
  go_wp2_with fail
  go_loop [6, 7, 8, 22] (fun n _ _ i => ∃ k : Nat, k ≤ 8 ∧ i = .int .i64 k ∧ n = .int .u64 (leN ((l.drop 16).take k))) (fun _ _ _ i => 8 - (intOf i).toNat)
  case atStart => exact ⟨0, by omega, rfl, rfl⟩
  case round =>
    obtain ⟨k, hk, rfl, rfl⟩ := hrel
    by_cases hlt : k < 8
    · have hlti : (k : Int) < 8 := by omega
      obtain ⟨c, hc⟩ : ∃ c, l[16 + k]? = some c := ⟨_, List.getElem?_eq_getElem (by rw [HL.out]; omega)⟩
      have hcB := hlb.at_ hc
      have c0 := x1.cell (HRd.out (16 + k) _ (nums8_get hc))
      rw [← Nat.add_assoc] at c0
      obtain ⟨c00, c01⟩ := hcB
      obtain ⟨n, hn⟩ : ∃ n, leN ((l.drop 16).take k) = n := ⟨_, rfl⟩
      rw [hn]
      have hn0 : 0 ≤ n ∧ n < 256 ^ k := by
        have h1 := leN_range ((l.drop 16).take k) (fun c hc => hlb c (List.mem_of_mem_drop (List.mem_of_mem_take hc)))
        rw [hn, List.length_take, List.length_drop, HL.out, Nat.min_eq_left (by omega)] at h1
        exact h1
      have HN0 := Lib.hid hn0
      have HN := Lib.hid hn
      have Hc := Lib.hid hc
      clear hn hn0 hc
      have hor : bits .or .u64 n (IntKind.u64.wrap (c * 2 ^ (8 * k))) = leN ((l.drop 16).take (k + 1)) := by
        have h1 : (IntKind.u64.wrap c) = c := by simp [IntKind.wrap, IntKind.signed, IntKind.bits]; omega
        have h2 : (2 : Int) ^ (8 * k) = 256 ^ k := by rw [Int.pow_mul]; rfl
        have h3 : ((2 ^ (8 * k) : Nat) : Int) = (256 : Int) ^ k := by rw [← h2]; simp
        have h4 := or_step n c (256 ^ k) (8 * k) h3.symm HN0.out.1 HN0.out.2 ⟨c00, c01⟩ (by
          rcases (show k = 0 ∨ k = 1 ∨ k = 2 ∨ k = 3 ∨ k = 4 ∨ k = 5 ∨ k = 6 ∨ k = 7 by omega) with rfl | rfl | rfl | rfl | rfl | rfl | rfl | rfl <;> decide)
        rw [h1] at h4
        rw [h2, h4, List.take_add_one, List.getElem?_drop, Hc.out]
        simp only [Option.toList_some]
        rw [leN_snoc, HN.out, List.length_take, List.length_drop, HL.out, Nat.min_eq_left (by omega)]
      have HO := Lib.hid hor
      clear hor
      go_wp2_with fail
      go_round
      case rel => exact ⟨k + 1, by omega, by go_num, by rw [HO.out]⟩
      case measure => simp [intOf]; omega
    · obtain rfl : k = 8 := by omega
      have hT : timeOf l = wrap64 (leN ((l.drop 16).take 8)) := rfl
      obtain ⟨n, hn⟩ : ∃ n, leN ((l.drop 16).take 8) = n := ⟨_, rfl⟩
      rw [hn] at hT
      rw [hn]
      obtain ⟨u, hu⟩ : ∃ u, wrap64 n = u := ⟨_, rfl⟩
      rw [hu] at hT
      have HT := Lib.hid hT
      clear hT hn
      go_wp2_with fail
      cases hok : okSt s u with
      | false =>
        have Hok := Lib.hid hok
        clear hok
        refine (put_no s hs u Hok.out _).mono ?_
        rintro e W2 ⟨rfl, x2⟩
        go_wp2_with fail
        go_ret2
        refine ⟨?_, x1.trans x2⟩
        have : takeOf s l = none := by
          unfold takeOf
          rw [HT.out, Hok.out]
          simp
        rw [this]
        rfl
      | true =>
        have Hok := Lib.hid hok
        clear hok
        refine (put_yes s hs u Hok.out _).mono ?_
        rintro e W2 ⟨g, cg, rfl, hg, hcg, hrd, x2⟩
        have r1 := run_string_of (P := Try.prog) Try.underlying23 Try.underlying5 Try.underlying9 (A := some ⟨g, 0, none⟩) (xs := stampOf s u) (.inr ⟨g, 0, rfl, hrd⟩) cg
        have r2 := run_string_of (P := Try.prog) Try.underlying23 Try.underlying5 Try.underlying9 (A := some ⟨b, o, none⟩) (xs := l) (.inr ⟨b, o, rfl, (HRd.out.ext x1).ext x2⟩) cap
        rw [stampOf_length] at r1
        rw [HL.out] at r2
        have HE := Lib.hid (Try.bytes_Equal _ _ _ _ W2 r1 r2)
        rw [eqB _ _ (stampOf_bytes s u) hlb] at HE
        clear r1 r2 hrd
        by_cases heq : stampOf s u = l
        · have Hq := Lib.hid heq
          rw [decide_eq_true heq] at HE
          clear heq
          go_wp2_with fail
          refine HE.out.mono ?_
          rintro e W3 ⟨rfl, rfl⟩
          go_wp2_with fail
          go_ret2
          refine ⟨?_, x1.trans x2⟩
          have : takeOf s l = some u := by
            unfold takeOf
            rw [HT.out, Hok.out, Hq.out]
            simp [HL.out]
          rw [this]
          show Ending.returned (.tuple #[.int .i64 (wrap64 n), .int .i64 0]) = _
          rw [hu]
          rfl
        · have Hq := Lib.hid heq
          rw [decide_eq_false heq] at HE
          clear heq
          go_wp2_with fail
          refine HE.out.mono ?_
          rintro e W3 ⟨rfl, rfl⟩
          go_wp2_with fail
          go_ret2
          refine ⟨?_, x1.trans x2⟩
          have : takeOf s l = none := by
            unfold takeOf
            rw [HT.out, if_neg (fun h => Hq.out h.2.2)]
          rw [this]
          rfl

set_option maxHeartbeats 1000000 in
theorem rtake_long (s : ByteArray) (A : Option Addr) (n cap : Nat) (hn : n ≠ 32) (w : World) :
    Calls Try.prog 14 #[.string s, .slice A n cap] w fun e w' => e = .returned (.tuple #[.int .i64 0, .bool false]) ∧ Ext w w' := by
  have h32 : ((n : Int) != 32) = true := by rw [bne_iff_ne]; omega
  clear hn
  go_enter Try.func14, Try.ntmps14
  go_wp2_with fail
  go_ret2
  exact ⟨rfl, Ext.refl _⟩

/-- The document's answer: the number is told, right or not. -/
def TookR (s : ByteArray) (l : List Int) (w : World) (e : Ending) (w' : World) : Prop := e = .returned (.tuple #[.int .i64 (timeOf l), .bool (takeOf s l).isSome]) ∧ Ext w w'

set_option maxHeartbeats 2000000 in
theorem rtake_loop (s : ByteArray) (hs : s.size ≤ 1000000) (l : List Int) (hl : l.length = 32) (hlb : Bytes l) (b o cap : Nat) (hcap : 32 ≤ cap) (w : World) (hr : RdA w b o (nums8 l)) :
    Calls Try.prog 14 #[.string s, .slice (some ⟨b, o, none⟩) 32 cap] w (TookR s l w) := by
  have HL := Lib.hid hl
  have HRd := Lib.hid hr
  clear hl hr
  go_enter Try.func14, Try.ntmps14
  go_wp2_with fail
  go_loop [6, 7] (fun n i => ∃ k : Nat, 15 ≤ k ∧ k ≤ 23 ∧ i = .int .i64 k ∧ n = .int .i64 (wrap64 (leN ((l.drop (k + 1)).take (23 - k))))) (fun _ i => (intOf i).toNat - 15)
  case atStart => exact ⟨23, by omega, by omega, rfl, by simp [leN, wrap64]⟩
  case round =>
    obtain ⟨k, hk1, hk2, rfl, rfl⟩ := hrel
    by_cases hlt : 16 ≤ k
    · have hlti : (16 : Int) ≤ k := by omega
      have hki : (k : Int) < 32 := by omega
      obtain ⟨c, hc⟩ : ∃ c, l[k]? = some c := ⟨_, List.getElem?_eq_getElem (by rw [HL.out]; omega)⟩
      have hcB := hlb.at_ hc
      have c0 := HRd.out k _ (nums8_get hc)
      obtain ⟨c00, c01⟩ := hcB
      obtain ⟨n, hn⟩ : ∃ n, leN ((l.drop (k + 1)).take (23 - k)) = n := ⟨_, rfl⟩
      rw [hn]
      have hnew : leN ((l.drop (k - 1 + 1)).take (23 - (k - 1))) = c + 256 * n := by
        have hk' : k < l.length := by rw [HL.out]; omega
        rw [show k - 1 + 1 = k by omega, show 23 - (k - 1) = (23 - k) + 1 by omega, List.drop_eq_getElem_cons hk', List.take_succ_cons, leN, hn]
        rw [List.getElem?_eq_getElem hk'] at hc
        rw [Option.some.inj hc]
      have HN := Lib.hid hnew
      obtain ⟨m, hm⟩ : ∃ m, wrap64 n = m := ⟨_, rfl⟩
      have hm2 : wrap64 (wrap64 (m * 256) + c) = wrap64 (c + 256 * n) := by
        rw [← hm]
        unfold wrap64
        omega
      have hm3 : wrap64 (m * 256 + c) = wrap64 (c + 256 * n) := by
        rw [← hm]
        unfold wrap64
        omega
      have H2 := Lib.hid hm2
      have H3 := Lib.hid hm3
      rw [hm]
      clear hm hm2 hm3 hn hnew hc
      have hm1 : k = (k - 1) + 1 := by omega
      obtain ⟨j, hj⟩ : ∃ j, k - 1 = j := ⟨_, rfl⟩
      have hkj : k = j + 1 := by omega
      subst hkj
      clear hm1 hj
      rw [show j + 1 - 1 = j by omega] at HN
      go_wp2_with fail
      go_round
      case rel => exact ⟨j, by omega, by omega, rfl, by rw [H2.out, HN.out]⟩
      case measure => simp [intOf]; omega
    · obtain rfl : k = 15 := by omega
      have hT : timeOf l = wrap64 (leN ((l.drop 16).take 8)) := rfl
      obtain ⟨u, hu⟩ : ∃ u, wrap64 (leN ((l.drop 16).take 8)) = u := ⟨_, rfl⟩
      rw [hu] at hT
      have HT := Lib.hid hT
      clear hT
      go_wp2_with fail
      cases hok : okSt s u with
      | false =>
        have Hok := Lib.hid hok
        clear hok
        refine (rput_no s hs u Hok.out _).mono ?_
        rintro e W2 ⟨rfl, x2⟩
        go_upto_region 9 with (fail)
        refine wp_region_mix (fun W => Ext W2 W) 10 [(0, true), (1, true), (2, true), (3, true), (4, true), (5, true), (6, true), (7, true), (8, true), (9, true), (10, false)] (by kernel_rfl) (by kernel_rfl) ((Ext.refl _).drew) ?_
        (apply mix_read; (case ho => rfl); (case hw => rfl); (case h1 => intro W' hx; (try dsimp only at hx); go_simp; (try go_bits); with_reducible rfl); (case hp => go_simp; first | done | with_reducible rfl))
        (apply mix_read; (case ho => rfl); (case hw => rfl); (case h1 => intro W' hx; (try dsimp only at hx); go_simp; (try go_bits); with_reducible rfl); (case hp => go_simp; first | done | with_reducible rfl))
        (apply mix_read; (case ho => rfl); (case hw => rfl); (case h1 => intro W' hx; (try dsimp only at hx); go_simp; (try go_bits); with_reducible rfl); (case hp => go_simp; first | done | with_reducible rfl))
        (apply mix_skip; (case ho => rfl); (case hw => rfl); (case hp => go_simp; first | done | with_reducible rfl))
        (apply mix_skip; (case ho => rfl); (case hw => rfl); (case hp => go_simp; first | done | with_reducible rfl))
        (apply mix_skip; (case ho => rfl); (case hw => rfl); (case hp => go_simp; first | done | with_reducible rfl))
        (apply mix_skip; (case ho => rfl); (case hw => rfl); (case hp => go_simp; first | done | with_reducible rfl))
        (apply mix_skip; (case ho => rfl); (case hw => rfl); (case hp => go_simp; first | done | with_reducible rfl))
        (apply mix_read; (case ho => rfl); (case hw => rfl); (case h1 => intro W' hx; (try dsimp only at hx); go_simp; (try go_bits); with_reducible rfl); (case hp => go_simp; first | done | with_reducible rfl))
        (apply mix_read; (case ho => rfl); (case hw => rfl); (case h1 => intro W' hx; (try dsimp only at hx); go_simp; (try go_bits); with_reducible rfl); (case hp => go_simp; first | done | with_reducible rfl))
        refine mix_end 10 (by kernel_rfl) (by kernel_rfl) ?_; simp only [List.take_succ_cons, List.take_zero, List.drop_succ_cons, List.drop_zero]; unfold Q0
        go_wp2_with fail
        go_ret2
        refine ⟨?_, x2.trans (Ext.refl _).drew⟩
        have : takeOf s l = none := by
          unfold takeOf
          rw [HT.out, Hok.out]
          simp
        rw [this, HT.out]
        rfl
      | true =>
        have Hok := Lib.hid hok
        clear hok
        refine (rput_yes s hs u Hok.out _).mono ?_
        rintro e W2 ⟨g, cg, rfl, hg, hcg, hrd, x2⟩
        have r1 : ∀ W, Ext W2 W → (convert 23 9 (.slice (some ⟨g, 0, none⟩) 32 cg)).run Try.prog W = .ok (.string (strOfNums (stampOf s u))) W := fun W hx => by
          have := run_string_of (P := Try.prog) Try.underlying23 Try.underlying5 Try.underlying9 (A := some ⟨g, 0, none⟩) (xs := stampOf s u) (.inr ⟨g, 0, rfl, hrd.ext hx⟩) cg
          rwa [stampOf_length] at this
        have r2 : ∀ W, Ext W2 W → (convert 23 9 (.slice (some ⟨b, o, none⟩) 32 cap)).run Try.prog W = .ok (.string (strOfNums l)) W := fun W hx => by
          have := run_string_of (P := Try.prog) Try.underlying23 Try.underlying5 Try.underlying9 (A := some ⟨b, o, none⟩) (xs := l) (.inr ⟨b, o, rfl, (HRd.out.ext x2).ext hx⟩) cap
          rwa [HL.out] at this
        have he := eqB _ _ (stampOf_bytes s u) hlb
        rw [← Lib.strOfNums_toList, ← Lib.strOfNums_toList] at he
        have Hq := Lib.hid (show takeOf s l = if stampOf s u = l then some u else none by
          unfold takeOf
          rw [HT.out, Hok.out]
          simp [HL.out])
        obtain ⟨X, hX⟩ : ∃ X, strOfNums (stampOf s u) = X := ⟨_, rfl⟩
        obtain ⟨Y, hY⟩ : ∃ Y, strOfNums l = Y := ⟨_, rfl⟩
        rw [hX] at r1 he
        rw [hY] at r2 he
        clear hrd hX hY
        go_upto_region 9 with (fail)
        refine wp_region_mix (fun W => Ext W2 W) 10 [(0, true), (1, true), (2, true), (3, true), (4, true), (5, true), (6, true), (7, true), (8, true), (9, true), (10, false)] (by kernel_rfl) (by kernel_rfl) ((Ext.refl _).drew) ?_
        (apply mix_read; (case ho => rfl); (case hw => rfl); (case h1 => intro W' hx; (try dsimp only at hx); go_simp; (try go_bits); with_reducible rfl); (case hp => go_simp; first | done | with_reducible rfl))
        (apply mix_read; (case ho => rfl); (case hw => rfl); (case h1 => intro W' hx; (try dsimp only at hx); go_simp; (try go_bits); with_reducible rfl); (case hp => go_simp; first | done | with_reducible rfl))
        (apply mix_read; (case ho => rfl); (case hw => rfl); (case h1 => intro W' hx; (try dsimp only at hx); go_simp; (try go_bits); with_reducible rfl); (case hp => go_simp; first | done | with_reducible rfl))
        (apply mix_read; (case ho => rfl); (case hw => rfl); (case h1 => intro W' hx; (try dsimp only at hx); go_simp; (try go_bits); with_reducible rfl); (case hp => go_simp; first | done | with_reducible rfl))
        (apply mix_read; (case ho => rfl); (case hw => rfl); (case h1 => intro W' hx; (try dsimp only at hx); go_simp; (try go_bits); with_reducible rfl); (case hp => go_simp; first | done | with_reducible rfl))
        (apply mix_read; (case ho => rfl); (case hw => rfl); (case h1 => intro W' hx; (try dsimp only at hx); go_simp; (try go_bits); with_reducible rfl); (case hp => go_simp; first | done | with_reducible rfl))
        (apply mix_read; (case ho => rfl); (case hw => rfl); (case h1 => intro W' hx; (try dsimp only at hx); go_simp; (try go_bits); with_reducible rfl); (case hp => go_simp; first | done | with_reducible rfl))
        (apply mix_read; (case ho => rfl); (case hw => rfl); (case h1 => intro W' hx; (try dsimp only at hx); go_simp; (try go_bits); with_reducible rfl); (case hp => go_simp; first | done | with_reducible rfl))
        (apply mix_read; (case ho => rfl); (case hw => rfl); (case h1 => intro W' hx; (try dsimp only at hx); go_simp; (try go_bits); with_reducible rfl); (case hp => go_simp; first | done | with_reducible rfl))
        (apply mix_read; (case ho => rfl); (case hw => rfl); (case h1 => intro W' hx; (try dsimp only at hx); go_simp; (try go_bits); with_reducible rfl); (case hp => go_simp; first | done | with_reducible rfl))
        refine mix_end 10 (by kernel_rfl) (by kernel_rfl) ?_; simp only [List.take_succ_cons, List.take_zero, List.drop_succ_cons, List.drop_zero]; unfold Q0
        go_wp2_with fail
        go_ret2
        refine ⟨?_, x2.trans (Ext.refl _).drew⟩
        rw [Hq.out, HT.out]
        by_cases hq : stampOf s u = l
        · rw [if_pos hq]
          simp [hq]
        · rw [if_neg hq]
          simp [hq]
end Go.Proofs.Ythgepclmlhbbaaa
