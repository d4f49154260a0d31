/- Chapter 4: the key of digits: what the document says of it, and the contracts of white, value and digit. -/
import Derived.Test.YtgkhakndmcdniaaRef04Sum
import Derived.WalkLawsBesides
namespace Go.Proofs.Ytgkhakndmcdniaa
open Go.RowKit
set_option linter.unusedVariables false
set_option linter.unusedSimpArgs false

def isW (c : Int) : Bool := c == 32 || c == 9 || c == 10 || c == 13
def dig (c : Int) : Int := if 48 ≤ c ∧ c ≤ 57 then c - 48 else if 97 ≤ c ∧ c ≤ 102 then c - 87 else if 65 ≤ c ∧ c ≤ 70 then c - 55 else -1
def cutR : List Int → List Int
  | [] => []
  | c :: r => if 32 ≤ r.length ∧ isW c = true then cutR r else c :: r
def cutW (l : List Int) : List Int := (cutR l.reverse).reverse
def putDig (K : List Int) (i : Nat) (d : Int) : List Int := K.set (i / 2) (K.getD (i / 2) 0 * 16 % 256 + d)
def digs : List Int → Nat → List Int → Option (List Int)
  | [], _, K => some K
  | c :: l, i, K => if dig c < 0 then none else digs l (i + 1) (putDig K i (dig c))
def zero16 : List Int := [0, 0, 0, 0, 0, 0, 0, 0, 0, 0, 0, 0, 0, 0, 0, 0]
def keyOf (l : List Int) : Option (List Int) := if (cutW l).length = 32 then digs (cutW l) 0 zero16 else none

theorem dig_range (c : Int) (h : Byte c) : -1 ≤ dig c ∧ dig c ≤ 15 := by
  obtain ⟨h0, h1⟩ := h
  unfold dig
  split
  · omega
  · split
    · omega
    · split <;> omega

set_option maxHeartbeats 1000000 in
theorem white_calls (c : Int) (w : World) : Calls Try.prog 22 #[.int .u8 c] w fun e w' => e = .returned (.bool (isW c)) ∧ Ext w w' := by
  by_cases h1 : c = 32
  · subst h1
    go_enter Try.func22, Try.ntmps22
    go_wp2_with fail
    go_ret
    exact ⟨rfl, Ext.refl _⟩
  by_cases h2 : c = 9
  · subst h2
    go_enter Try.func22, Try.ntmps22
    go_wp2_with fail
    go_ret
    exact ⟨rfl, Ext.refl _⟩
  by_cases h3 : c = 10
  · subst h3
    go_enter Try.func22, Try.ntmps22
    go_wp2_with fail
    go_ret
    exact ⟨rfl, Ext.refl _⟩
  by_cases h4 : c = 13
  · subst h4
    go_enter Try.func22, Try.ntmps22
    go_wp2_with fail
    go_ret
    exact ⟨rfl, Ext.refl _⟩
  · have hb : isW c = false := by simp [isW, h1, h2, h3, h4]
    rw [hb]
    go_enter Try.func22, Try.ntmps22
    go_wp2_with fail
    go_ret
    exact ⟨by simp [h1, h2, h3, h4], Ext.refl _⟩

set_option maxHeartbeats 1000000 in
theorem value_calls (c : Int) (h : Byte c) (w : World) : Calls Try.prog 23 #[.int .u8 c] w fun e w' => e = .returned (.tuple #[.int .u8 (if dig c < 0 then 0 else dig c), .bool (decide (0 ≤ dig c))]) ∧ Ext w w' := by
  obtain ⟨b0, b1⟩ := h
  by_cases h1 : 48 ≤ c ∧ c ≤ 57
  · have e : dig c = c - 48 := by unfold dig; rw [if_pos h1]
    rw [e]
    obtain ⟨h1, h2⟩ := h1
    go_enter Try.func23, Try.ntmps23
    go_wp2_with fail
    refine bodyPost_ret (v := .tuple #[.int .u8 (c - 48), .bool true]) ?_ rfl ⟨?_, Ext.refl _⟩
    · simp [results, Try.results23, go_sem]
    first | rfl | (simp; omega)
  by_cases h2 : 97 ≤ c ∧ c ≤ 102
  · have e : dig c = c - 87 := by unfold dig; rw [if_neg h1, if_pos h2]
    rw [e]
    obtain ⟨h2, h3⟩ := h2
    have h4 : 57 < c := by omega
    have h5 : 48 ≤ c := by omega
    clear h1
    go_enter Try.func23, Try.ntmps23
    go_wp2_with fail
    refine bodyPost_ret (v := .tuple #[.int .u8 (c - 87), .bool true]) ?_ rfl ⟨?_, Ext.refl _⟩
    · simp [results, Try.results23, go_sem]
      try omega
    first | rfl | (simp; omega)
  by_cases h3 : 65 ≤ c ∧ c ≤ 70
  · have e : dig c = c - 55 := by unfold dig; rw [if_neg h1, if_neg h2, if_pos h3]
    rw [e]
    obtain ⟨h3, h4⟩ := h3
    have h5 : 57 < c := by omega
    have h6 : 48 ≤ c := by omega
    have h7 : c < 97 := by omega
    clear h1 h2
    go_enter Try.func23, Try.ntmps23
    go_wp2_with fail
    refine bodyPost_ret (v := .tuple #[.int .u8 (c - 55), .bool true]) ?_ rfl ⟨?_, Ext.refl _⟩
    · simp [results, Try.results23, go_sem]
      try omega
    first | rfl | (simp; omega)
  · have e : dig c = -1 := by unfold dig; rw [if_neg h1, if_neg h2, if_neg h3]
    rw [e]
    have hd1 : ∀ (x : Prop) [Decidable x], (48 ≤ c ∧ c ≤ 57) = x → ¬ x := by rintro x _ rfl; exact h1
    by_cases q1 : 48 ≤ c <;> by_cases q2 : c ≤ 57 <;> by_cases q3 : 97 ≤ c <;> by_cases q4 : c ≤ 102 <;> by_cases q5 : 65 ≤ c <;> by_cases q6 : c ≤ 70 <;> (first | (exfalso; omega) | skip)
    all_goals
      clear h1 h2 h3 hd1
      go_enter Try.func23, Try.ntmps23
      go_wp2_with fail
      refine bodyPost_ret (v := .tuple #[.int .u8 0, .bool false]) ?_ rfl ⟨rfl, Ext.refl _⟩
      simp [results, Try.results23, go_sem]

set_option maxHeartbeats 1000000 in
theorem digit_calls (c : Int) (h : Byte c) (w : World) : Calls Try.prog 24 #[.int .u8 c] w fun e w' => e = .returned (.int .i64 (dig c)) ∧ Ext w w' := by
  obtain ⟨b0, b1⟩ := h
  by_cases h1 : 48 ≤ c ∧ c ≤ 57
  · have e : dig c = c - 48 := by unfold dig; rw [if_pos h1]
    rw [e]
    obtain ⟨h1, h2⟩ := h1
    go_enter Try.func24, Try.ntmps24
    go_wp2_with fail
    go_ret
    exact ⟨rfl, Ext.refl _⟩
  by_cases h2 : 97 ≤ c ∧ c ≤ 102
  · have e : dig c = c - 87 := by unfold dig; rw [if_neg h1, if_pos h2]
    rw [e]
    obtain ⟨h2, h3⟩ := h2
    have h4 : 57 < c := by omega
    have h5 : 48 ≤ c := by omega
    clear h1
    go_enter Try.func24, Try.ntmps24
    go_wp2_with fail
    go_ret
    exact ⟨by go_num, Ext.refl _⟩
  by_cases h3 : 65 ≤ c ∧ c ≤ 70
  · have e : dig c = c - 55 := by unfold dig; rw [if_neg h1, if_neg h2, if_pos h3]
    rw [e]
    obtain ⟨h3, h4⟩ := h3
    have h5 : 57 < c := by omega
    have h6 : 48 ≤ c := by omega
    have h7 : c < 97 := by omega
    clear h1 h2
    go_enter Try.func24, Try.ntmps24
    go_wp2_with fail
    go_ret
    exact ⟨by go_num, Ext.refl _⟩
  · have e : dig c = -1 := by unfold dig; rw [if_neg h1, if_neg h2, if_neg h3]
    rw [e]
    by_cases q1 : 48 ≤ c <;> by_cases q2 : c ≤ 57 <;> by_cases q3 : 97 ≤ c <;> by_cases q4 : c ≤ 102 <;> by_cases q5 : 65 ≤ c <;> by_cases q6 : c ≤ 70 <;> (first | (exfalso; omega) | skip)
    all_goals
      clear h1 h2 h3
      go_enter Try.func24, Try.ntmps24
      go_wp2_with fail
      go_ret
      exact ⟨rfl, Ext.refl _⟩
end Go.Proofs.Ytgkhakndmcdniaa
