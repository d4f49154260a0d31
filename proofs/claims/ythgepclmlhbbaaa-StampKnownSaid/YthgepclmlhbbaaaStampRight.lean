/- Chapter 16: which names may have a stamp: both 'Right's. -/
import Derived.Test.YthgepclmlhbbaaaStampFind
namespace Go.Proofs.Ythgepclmlhbbaaa
open Go.RowKit Go.Lib
set_option linter.unusedVariables false
set_option linter.unusedSimpArgs false

def tmp4 : ByteArray := ⟨#[46, 116, 109, 112]⟩
def okNm (s : ByteArray) : Bool := decide (1 ≤ s.size) && decide (s.size ≤ 60) && !anyBad s && !Lib.hasSuffix s.data.toList (⟨#[46, 116, 109, 112]⟩ : ByteArray).data.toList
theorem tmpList : (⟨#[46, 116, 109, 112]⟩ : ByteArray).toList = [46, 116, 109, 112] := by rw [Lib.toList_data]
theorem notNil (s : ByteArray) (h : 1 ≤ s.size) : s.toList.isEmpty = false := by
  rw [Lib.toList_data]
  cases h' : s.data.toList with
  | nil => have := Lib.size_eq s; rw [h', List.length_nil] at this; omega
  | cons _ _ => rfl
theorem suffRaw (s : ByteArray) : (decide (4 ≤ s.size) && ((s.extract (s.size - 4) s.size).toList == (⟨#[46, 116, 109, 112]⟩ : ByteArray).toList)) = Lib.hasSuffix s.data.toList (⟨#[46, 116, 109, 112]⟩ : ByteArray).data.toList := Lib.hasSuffix_raw s ⟨#[46, 116, 109, 112]⟩

set_option maxHeartbeats 1000000 in
theorem right_calls (s : ByteArray) (hs : s.size ≤ 1000000) (w : World) : Calls Try.prog 11 #[.string s] w fun e w' => e = .returned (.bool (okNm s)) ∧ Ext w w' := by
  by_cases h0 : s.size = 0
  · obtain rfl : s = ⟨#[]⟩ := by
      cases s with
      | mk d => simp [ByteArray.size] at h0; rw [h0]
    go_enter Try.func11, Try.ntmps11
    go_wp2_with fail
    go_ret
    exact ⟨rfl, Ext.refl _⟩
  have hemp := notNil s (by omega)
  by_cases h60 : s.size ≤ 60
  · have h60i : (s.size : Int) ≤ 60 := by omega
    have HA := Lib.hid fun W => containsAny_calls s hs W
    have HB := Lib.hid fun W => Try.strings_HasSuffix s ⟨#[46, 116, 109, 112]⟩ W (by omega)
    have HO : okNm s = (!anyBad s && !Lib.hasSuffix s.data.toList (⟨#[46, 116, 109, 112]⟩ : ByteArray).data.toList) := by
      unfold okNm
      rw [decide_eq_true (by omega : 1 ≤ s.size), decide_eq_true h60]
      rfl
    rw [HO]
    clear HO
    obtain ⟨b, hb⟩ : ∃ b, anyBad s = b := ⟨_, rfl⟩
    obtain ⟨c, hc⟩ : ∃ c, Lib.hasSuffix s.data.toList (⟨#[46, 116, 109, 112]⟩ : ByteArray).data.toList = c := ⟨_, rfl⟩
    rw [hb] at HA ⊢
    rw [hc] at HB ⊢
    clear hb hc
    cases b
    · go_enter Try.func11, Try.ntmps11
      go_wp2_with fail
      refine (HA.out _).mono ?_
      rintro e W1 ⟨rfl, x1⟩
      go_wp2_with fail
      refine (HB.out _).mono ?_
      rintro e W2 ⟨rfl, rfl⟩
      go_wp2_with fail
      go_ret
      exact ⟨rfl, x1⟩
    · go_enter Try.func11, Try.ntmps11
      go_wp2_with fail
      refine (HA.out _).mono ?_
      rintro e W1 ⟨rfl, x1⟩
      go_wp2_with fail
      go_ret
      exact ⟨rfl, x1⟩
  · have h60i : ¬ (s.size : Int) ≤ 60 := by omega
    have HO : okNm s = false := by
      unfold okNm
      rw [decide_eq_false h60]
      simp
    rw [HO]
    clear HO
    go_enter Try.func11, Try.ntmps11
    go_wp2_with fail
    go_ret
    exact ⟨rfl, Ext.refl _⟩

set_option maxHeartbeats 1000000 in
theorem rright_calls (s : ByteArray) (hs : s.size ≤ 1000000) (w : World) : Calls Try.prog 12 #[.string s] w fun e w' => e = .returned (.bool (okNm s)) ∧ Ext w w' := by
  go_enter Try.func12, Try.ntmps12
  go_wp2_with fail
  go_loop [3] (fun i => ∃ k : Nat, k ≤ s.size ∧ i = .int .i64 k ∧ NoBad s k) (fun i => s.size - (RowKit.intOf i).toNat)
  case atStart => exact ⟨0, by omega, rfl, fun j hj => absurd hj (by omega)⟩
  case round =>
    obtain ⟨k, hk, rfl, hno⟩ := hrel
    have HN := Lib.hid hno
    clear hno
    by_cases hlt : k < s.size
    · obtain ⟨x, hx1⟩ : ∃ x, s[k]'hlt = x := ⟨_, rfl⟩
      have Hg := Lib.hid (show s.data.toList.getD k 0 = x by rw [byteAt s k hlt, hx1])
      have hlti : (k : Int) < s.size := by omega
      by_cases h0 : (x.toNat : Int) = 0
      · have hb0 : (((x.toNat : Nat) : Int) == 0) = true := by simpa using h0
        have Hok : Hid (okNm s = false) := Lib.hid (by
          unfold okNm
          rw [(anyBad_iff s).2 ⟨k, hlt, by rw [Hg.out, h0]; rfl⟩]
          simp)
        clear h0
        go_wp2_with fail
        go_ret
        exact ⟨by rw [Hok.out]; rfl, Ext.refl _⟩
      · have hb0 : (((x.toNat : Nat) : Int) == 0) = false := by simpa using h0
        by_cases h1 : (x.toNat : Int) = 47
        · have hb1 : (((x.toNat : Nat) : Int) == 47) = true := by simpa using h1
          have Hok : Hid (okNm s = false) := Lib.hid (by
            unfold okNm
            rw [(anyBad_iff s).2 ⟨k, hlt, by rw [Hg.out, h1]; rfl⟩]
            simp)
          clear h0 h1
          go_wp2_with fail
          go_ret
          exact ⟨by rw [Hok.out]; rfl, Ext.refl _⟩
        · have hb1 : (((x.toNat : Nat) : Int) == 47) = false := by simpa using h1
          have HB : Hid (isBad ((x.toNat : Nat) : Int) = false) := Lib.hid (by unfold isBad; rw [hb0, hb1]; rfl)
          clear h0 h1
          go_wp2_with fail
          go_round
          case rel => exact ⟨k + 1, by omega, by go_num, fun j hj => by
            rcases (show j < k ∨ j = k by omega) with h | rfl
            · exact HN.out j h
            · rw [Hg.out]; exact HB.out⟩
          case measure => simp [RowKit.intOf]; omega
    · obtain rfl : k = s.size := by omega
      have hok : okNm s = (decide (1 ≤ s.size) && decide (s.size ≤ 60) && !(decide (4 ≤ s.size) && ((s.extract (s.size - 4) s.size).toList == (⟨#[46, 116, 109, 112]⟩ : ByteArray).toList))) := by
        unfold okNm
        rw [noBad_all s HN.out, suffRaw]
        simp
      have HO := Lib.hid hok
      clear hok HN
      by_cases h1 : 1 ≤ s.size
      · by_cases h60 : s.size ≤ 60
        · by_cases h4 : s.size < 4
          · have e1 : (1 : Int) ≤ s.size := by omega
            have e2 : (s.size : Int) ≤ 60 := by omega
            have e3 : (s.size : Int) < 4 := by omega
            go_wp2_with fail
            go_ret
            exact ⟨by rw [HO.out, decide_eq_true h1, decide_eq_true h60, decide_eq_false (by omega : ¬ 4 ≤ s.size)]; rfl, Ext.refl _⟩
          · have e1 : (1 : Int) ≤ s.size := by omega
            have e2 : (s.size : Int) ≤ 60 := by omega
            have e3 : ¬ (s.size : Int) < 4 := by omega
            have e4 : (4 : Int) ≤ s.size := by omega
            obtain ⟨T, hT⟩ : ∃ T, s.extract (s.size - 4) s.size = T := ⟨_, rfl⟩
            go_wp2_with fail
            go_ret
            exact ⟨by rw [HO.out, decide_eq_true h1, decide_eq_true h60, decide_eq_true (by omega : 4 ≤ s.size), hT, tmpList]; rfl, Ext.refl _⟩
        · have e1 : (1 : Int) ≤ s.size := by omega
          have e2 : ¬ (s.size : Int) ≤ 60 := by omega
          go_wp2_with fail
          go_ret
          exact ⟨by rw [HO.out, decide_eq_false h60]; simp, Ext.refl _⟩
      · have e1 : ¬ (1 : Int) ≤ s.size := by omega
        go_wp2_with fail
        go_ret
        exact ⟨by rw [HO.out, decide_eq_false h1]; simp, Ext.refl _⟩
end Go.Proofs.Ythgepclmlhbbaaa
