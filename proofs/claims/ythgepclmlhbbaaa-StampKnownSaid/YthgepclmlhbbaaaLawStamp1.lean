/- Chapter 16: the laws StampPuts and StampTakes at any arguments. -/
import Derived.Test.YthgepclmlhbbaaaWorks16
namespace Go.Proofs.Ythgepclmlhbbaaa
open Go.RowKit
set_option linter.unusedVariables false
set_option linter.unusedSimpArgs false

set_option maxRecDepth 100000 in
set_option maxHeartbeats 2000000 in
theorem law_puts (s : ByteArray) (u : Int) (w : World) : Calls Try.prog 3 #[.string s, .int .i64 u] w fun e w' => e = .returned (.bool true) ∧ Ext w w' := by
  by_cases h200 : 200 < s.size
  · have hi : (200 : Int) < s.size := by omega
    go_enter Try.func3, Try.ntmps3
    go_wp2_with fail
    refine (works_calls _).mono ?_
    rintro e W1 ⟨rfl, x1⟩
    go_wp2_with fail
    go_ret
    exact ⟨rfl, x1⟩
  have hi : ¬ (200 : Int) < s.size := by omega
  have hs : s.size ≤ 1000000 := by omega
  have R1 := Lib.hid fun W => right_calls s hs W
  have R2 := Lib.hid fun W => rright_calls s hs W
  obtain ⟨ok, hok⟩ : ∃ b, okNm s = b := ⟨_, rfl⟩
  rw [hok] at R1 R2
  clear hok
  cases h : okSt s u with
  | true =>
    have P1 := Lib.hid fun W => put_yes s hs u h W
    have P2 := Lib.hid fun W => rput_yes s hs u h W
    clear h h200
    go_enter Try.func3, Try.ntmps3
    go_wp2_with fail
    refine (P1.out _).mono ?_
    rintro e W1 ⟨g1, c1, rfl, hg1, hc1, r1, x1⟩
    go_wp2_with fail
    refine (P2.out _).mono ?_
    rintro e W2 ⟨g2, c2, rfl, hg2, hc2, r2, x2⟩
    go_wp2_with fail
    refine (R1.out _).mono ?_
    rintro e W3 ⟨rfl, x3⟩
    go_wp2_with fail
    refine (R2.out _).mono ?_
    rintro e W4 ⟨rfl, x4⟩
    have r1' := Lib.hid (((r1.ext x2).ext x3).ext x4)
    have r2' := Lib.hid ((r2.ext x3).ext x4)
    have x := (((x1.trans x2).trans x3).trans x4)
    have hS := Lib.hid (stampOf_length s u)
    obtain ⟨L, hL⟩ : ∃ L, stampOf s u = L := ⟨_, rfl⟩
    rw [hL] at r1' r2' hS
    have hokk : (ok == ok) = true := by simp
    have hXX : ((strOfNums L).toList == (strOfNums L).toList) = true := by simp
    clear r1 r2 x1 x2 x3 x4 R1 R2 P1 P2 hL
    go_wp2_with (first | (refine wpList_string rfl 23 9 (.tmp 31) rfl Try.underlying23 Try.underlying5 Try.underlying9 (some ⟨g1, 0, none⟩) 32 c1 rfl L hS.out (.inr ⟨g1, 0, rfl, r1'.out⟩) ?_) | (refine wpList_string rfl 23 9 (.tmp 33) rfl Try.underlying23 Try.underlying5 Try.underlying9 (some ⟨g2, 0, none⟩) 32 c2 rfl L hS.out (.inr ⟨g2, 0, rfl, r2'.out⟩) ?_))
    refine (works_calls _).mono ?_
    rintro e W5 ⟨rfl, x5⟩
    go_wp2_with fail
    go_ret
    exact ⟨rfl, x.trans x5⟩
  | false =>
    have P1 := Lib.hid fun W => put_no s hs u h W
    have P2 := Lib.hid fun W => rput_no s hs u h W
    clear h h200
    go_enter Try.func3, Try.ntmps3
    go_wp2_with fail
    refine (P1.out _).mono ?_
    rintro e W1 ⟨rfl, x1⟩
    go_wp2_with fail
    refine (P2.out _).mono ?_
    rintro e W2 ⟨rfl, x2⟩
    go_wp2_with fail
    refine (R1.out _).mono ?_
    rintro e W3 ⟨rfl, x3⟩
    go_wp2_with fail
    refine (R2.out _).mono ?_
    rintro e W4 ⟨rfl, x4⟩
    have x := (((x1.trans x2).trans x3).trans x4)
    have hokk : (ok == ok) = true := by simp
    have hXX : ((strOfNums []).toList == (strOfNums []).toList) = true := by simp
    clear x1 x2 x3 x4 R1 R2 P1 P2
    go_wp2_with (first | (refine wpList_string rfl 23 9 (.tmp 31) rfl Try.underlying23 Try.underlying5 Try.underlying9 none 0 0 rfl [] rfl (.inl rfl) ?_) | (refine wpList_string rfl 23 9 (.tmp 33) rfl Try.underlying23 Try.underlying5 Try.underlying9 none 0 0 rfl [] rfl (.inl rfl) ?_))
    refine (works_calls _).mono ?_
    rintro e W5 ⟨rfl, x5⟩
    go_wp2_with fail
    go_ret
    exact ⟨rfl, x.trans x5⟩

set_option maxRecDepth 100000 in
set_option maxHeartbeats 2000000 in
theorem law_takes (s : ByteArray) (l : List Int) (hlb : Bytes l) (A : Option Addr) (cap : Nat) (w : World) (hr : RdV w A (nums8 l)) (hcap : l.length ≤ cap) :
    Calls Try.prog 4 #[.string s, .slice A l.length cap] w fun e w' => e = .returned (.bool true) ∧ Ext w w' := by
  by_cases h200 : 200 < s.size
  · have hi : (200 : Int) < s.size := by omega
    clear hr
    go_enter Try.func4, Try.ntmps4
    go_wp2_with fail
    refine (works_calls _).mono ?_
    rintro e W1 ⟨rfl, x1⟩
    go_wp2_with fail
    go_ret
    exact ⟨rfl, x1⟩
  have hi : ¬ (200 : Int) < s.size := by omega
  by_cases h201 : 200 < l.length
  · have hi2 : (200 : Int) < l.length := by omega
    clear hr
    go_enter Try.func4, Try.ntmps4
    go_wp2_with fail
    refine (works_calls _).mono ?_
    rintro e W1 ⟨rfl, x1⟩
    go_wp2_with fail
    go_ret
    exact ⟨rfl, x1⟩
  have hi2 : ¬ (200 : Int) < l.length := by omega
  have hs : s.size ≤ 1000000 := by omega
  cases hok : okNm s with
  | false =>
    have R2 := Lib.hid fun W => rright_calls s hs W
    rw [hok] at R2
    have T1 := Lib.hid fun W => take_bad s hs hok A l.length cap W
    clear hok hr
    go_enter Try.func4, Try.ntmps4
    go_wp2_with fail
    refine (T1.out _).mono ?_
    rintro e W1 ⟨rfl, x1⟩
    go_wp2_with fail
    refine (R2.out _).mono ?_
    rintro e W2 ⟨rfl, x2⟩
    go_wp2_with fail
    refine (works_calls _).mono ?_
    rintro e W3 ⟨rfl, x3⟩
    go_wp2_with fail
    go_ret
    exact ⟨rfl, (x1.trans x2).trans x3⟩
  | true =>
    have R2 := Lib.hid fun W => rright_calls s hs W
    rw [hok] at R2
    by_cases h32 : l.length = 32
    · obtain ⟨b, o, rfl, hrd⟩ : ∃ b o, A = some ⟨b, o, none⟩ ∧ RdA w b o (nums8 l) := by
        rcases hr with h | ⟨b, o, rfl, h⟩
        · have : l = [] := List.map_eq_nil_iff.1 h
          subst this
          simp at h32
        · exact ⟨b, o, rfl, h⟩
      have HRd := Lib.hid hrd
      have T1 := Lib.hid fun W hr => take_loop s hs hok l h32 hlb b o cap (by omega) W hr
      have T2 := Lib.hid fun W hr => rtake_loop s hs l h32 hlb b o cap (by omega) W hr
      unfold Took at T1
      unfold TookR at T2
      rw [h32]
      rw [h32] at hi2
      have hT : ∀ v, takeOf s l = some v → v = timeOf l := fun v hv => by
        unfold takeOf at hv
        split at hv
        · cases hv; rfl
        · cases hv
      obtain ⟨t, ht⟩ : ∃ t, takeOf s l = t := ⟨_, rfl⟩
      rw [ht] at T1 T2 hT
      clear ht hok hrd hr h32
      cases t with
      | none =>
        unfold takeV at T1
        clear hT
        simp only [Option.isSome_none] at T1 T2
        go_enter Try.func4, Try.ntmps4
        go_wp2_with fail
        refine (T1.out _ HRd.out).mono ?_
        rintro e W1 ⟨rfl, x1⟩
        go_wp2_with fail
        refine (R2.out _).mono ?_
        rintro e W2 ⟨rfl, x2⟩
        go_wp2_with fail
        refine (T2.out _ ((HRd.out.ext x1).ext x2)).mono ?_
        rintro e W3 ⟨rfl, x3⟩
        go_wp2_with fail
        refine (works_calls _).mono ?_
        rintro e W4 ⟨rfl, x4⟩
        go_wp2_with fail
        go_ret
        exact ⟨rfl, ((x1.trans x2).trans x3).trans x4⟩
      | some v =>
        obtain rfl : v = timeOf l := hT v rfl
        unfold takeV at T1
        clear hT
        simp only [Option.isSome_some] at T1 T2
        obtain ⟨v, hv⟩ : ∃ v, timeOf l = v := ⟨_, rfl⟩
        rw [hv] at T1 T2
        have hvv : (v == v) = true := by simp
        clear hv
        go_enter Try.func4, Try.ntmps4
        go_wp2_with fail
        refine (T1.out _ HRd.out).mono ?_
        rintro e W1 ⟨rfl, x1⟩
        go_wp2_with fail
        refine (R2.out _).mono ?_
        rintro e W2 ⟨rfl, x2⟩
        go_wp2_with fail
        refine (T2.out _ ((HRd.out.ext x1).ext x2)).mono ?_
        rintro e W3 ⟨rfl, x3⟩
        go_wp2_with fail
        refine (works_calls _).mono ?_
        rintro e W4 ⟨rfl, x4⟩
        go_wp2_with fail
        go_ret
        exact ⟨rfl, ((x1.trans x2).trans x3).trans x4⟩
    · have T1 := Lib.hid fun W => take_long s hs hok A l.length cap h32 W
      have T2 := Lib.hid fun W => rtake_long s A l.length cap h32 W
      clear hok hr h32
      go_enter Try.func4, Try.ntmps4
      go_wp2_with fail
      refine (T1.out _).mono ?_
      rintro e W1 ⟨rfl, x1⟩
      go_wp2_with fail
      refine (R2.out _).mono ?_
      rintro e W2 ⟨rfl, x2⟩
      go_wp2_with fail
      refine (T2.out _).mono ?_
      rintro e W3 ⟨rfl, x3⟩
      go_wp2_with fail
      refine (works_calls _).mono ?_
      rintro e W4 ⟨rfl, x4⟩
      go_wp2_with fail
      go_ret
      exact ⟨rfl, ((x1.trans x2).trans x3).trans x4⟩
end Go.Proofs.Ythgepclmlhbbaaa
