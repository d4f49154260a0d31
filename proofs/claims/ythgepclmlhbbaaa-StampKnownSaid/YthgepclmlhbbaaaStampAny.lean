/- Chapter 16: what any name's Takes and Puts say of a stamp. -/
import Derived.Test.YthgepclmlhbbaaaLawStamp1
import Derived.Deep.DeepAppendRoom
import Derived.Deep.AppendLies
namespace Go.Proofs.Ythgepclmlhbbaaa
open Go.RowKit
set_option linter.unusedVariables false
set_option linter.unusedSimpArgs false

theorem leN_le8 (u : Int) (h0 : 0 ≤ u) (h1 : u < 7258118400000000) : leN (le8 8 u) = u := by
  simp [le8, List.range, List.range.loop, leN]
  omega
theorem stamp_time (s : ByteArray) (u : Int) : ((stampOf s u).drop 16).take 8 = le8 8 u := by
  have h : stampOf s u = (magicL ++ le8 8 (sipSum stampKey (bytesOf s))) ++ (le8 8 u ++ le8 8 (sipSum stampKey (stHead s u))) := by
    unfold stampOf stHead
    rw [List.append_assoc, List.append_assoc, List.append_assoc]
  have hl : (magicL ++ le8 8 (sipSum stampKey (bytesOf s))).length = 16 := by simp [le8_length, magicL]
  rw [h, List.drop_left' hl, List.take_left' (le8_length 8 u)]
theorem okSt_bounds {s : ByteArray} {u : Int} (h : okSt s u = true) : okNm s = true ∧ 0 ≤ u ∧ u < 7258118400000000 := by
  unfold okSt at h
  simp only [Bool.and_eq_true, decide_eq_true_eq] at h
  exact ⟨h.1.1, h.1.2, h.2⟩
theorem stamp_timeOf (s : ByteArray) (u : Int) (h0 : 0 ≤ u) (h1 : u < 7258118400000000) : timeOf (stampOf s u) = u := by
  unfold timeOf
  rw [stamp_time, leN_le8 u h0 h1]
  unfold wrap64
  omega
theorem take_other (o s : ByteArray) (u : Int) (h0 : 0 ≤ u) (h1 : u < 7258118400000000) : takeOf o (stampOf s u) = if okSt o u = true ∧ stampOf o u = stampOf s u then some u else none := by
  unfold takeOf
  rw [stamp_timeOf s u h0 h1, stampOf_length]
  simp

theorem xor0 (x : Int) (h : Byte x) : bits .xor .u8 x 0 = x := by
  have k : ∀ n : Fin 256, bits .xor .u8 (n.1 : Int) 0 = (n.1 : Int) := by decide +kernel
  have := k ⟨x.toNat, by have := h.1; have := h.2; omega⟩
  simp only [Int.toNat_of_nonneg h.1] at this
  exact this
theorem xorB (x y : Int) : Byte (bits .xor .u8 x y) := by
  unfold bits IntKind.wrap
  simp only [IntKind.signed, IntKind.bits]
  constructor
  · simp
    omega
  · simp
    omega

theorem wpList_append1_keep {w : World} {ops : Array Oper} {rest : List Oper} {o : Oper} {a : Act} {Q : Exit → Act → World → Prop} (hgd : o.guard = none) (s x : Operand)
    (ho : o.op = .call { callee := .builtin .append, args := #[s, x], argTypes := #[23, 23] })
    (base : Nat) (g' n cap : Nat) (l : List Int) (hs : a.eval s = .slice (some ⟨g', 0, none⟩) n cap) (hown : w.ownsRow base 5 1 (.slice (some ⟨g', 0, none⟩) n cap) n (nums8 l))
    (g c : Nat) (u : Value) (hx : a.eval x = .slice (some ⟨g, 0, none⟩) 1 c) (hc : w.cell? ⟨g, 0, none⟩ = some u) (h1 : u.oneCell' = true)
    (h63 : n + 1 ≤ maxLen) (hbytes : (n + 1) * 1 ≤ 140737488355328)
    (h : ∀ A c' w', w.grownBy w' (some g') → RdA w' g' 0 (nums8 l) → wpList Try.prog ops Q rest (a.put o.dst (.slice A (n + 1) c')) w') : wpList Try.prog ops Q (o :: rest) a w := by
  obtain ⟨i0, hi, hz0, hz1, hz2⟩ := info_parts info8p
  have hnews : ∀ j y, [u][j]? = some y → w.cell? ((⟨g, 0, none⟩ : Addr).add j) = some y := by
    intro j y hj
    cases j with
    | zero => cases hj; exact hc
    | succ j => cases hj
  have h1' : ∀ y ∈ [u], y.oneCell' = true := fun y hy => by rw [List.mem_singleton.1 hy]; exact h1
  have hold : ∀ j y, (nums8 l)[j]? = some y → w.cell? ((⟨g', 0, none⟩ : Addr).add j) = some y := hown.cells (g := g') rfl
  have addj : ∀ b j, (⟨b, 0, none⟩ : Addr).add j = ⟨b, j, none⟩ := fun b j => by unfold Addr.add; split <;> simp_all
  by_cases hroom : n + 1 ≤ cap
  · refine wpList_append_own_spare w hgd s x _ ho base 5 i0 1 Try.underlying23 hi hz1 g' n cap (nums8 l) hs hown ⟨g, 0, none⟩ 1 c [u] hx rfl hnews h1' hroom (fun w' h2 h3 => h _ _ w' h3 ?_)
    intro j y hj
    rw [Nat.zero_add]
    have := h2.cells (g := g') rfl j y (by rw [List.getElem?_append_left (List.getElem?_eq_some_iff.1 hj).1]; exact hj)
    rwa [addj] at this
  · refine wpList_append_grows w hgd s x _ ho 5 i0 (.int .u8 0) 1 1 Try.underlying23 hi hz0 hz1 hz2 rfl (by decide) (some ⟨g', 0, none⟩) n cap (nums8 l) hs (fun e => by cases e) hown.1 (fun b hb => by cases hb; exact hold) ⟨g, 0, none⟩ 1 c [u] hx rfl hnews h1' (by omega) h63 hbytes (fun v' w' h2 h3 => ?_)
    obtain ⟨A, c', rfl, _, _, _⟩ := Owns.shape h2
    refine h _ _ w' ⟨h3.os, h3.tape, h3.output, h3.size, fun k hk _ => h3.block k hk (by simp)⟩ ?_
    intro j y hj
    rw [Nat.zero_add]
    have h4 := hold j y hj
    rw [addj] at h4
    rw [h3.cell_far ⟨g', j, none⟩ (World.block_lt_of_cell? w _ h4) (by simp)]
    exact h4

attribute [local irreducible] stampOf
/-- Whether another name's stamp is this one. -/
def sameSt (o s : ByteArray) (u : Int) : Bool := okSt o u && decide (stampOf o u = stampOf s u)
theorem Owns.setOwn {w : World} {base : Nat} {e : TypeId} {g n cap : Nat} {xs : List Value} (h : w.ownsRow base e 1 (.slice (some ⟨g, 0, none⟩) n cap) n xs) (i : Nat) (u : Value) :
    (w.setCell ⟨g, i, none⟩ u).ownsRow base e 1 (.slice (some ⟨g, 0, none⟩) n cap) n (xs.set i u) := by
  obtain ⟨hl, h⟩ := h
  rcases h with ⟨h, _⟩ | ⟨g', cap', cur, h1, h2, h3, h4, h5, h6, h7⟩
  · cases h
  · cases h1
    refine ⟨by simpa using hl, .inr ⟨g, cap, cur.setIfInBounds i u, rfl, h2, ?_, h4, h5, by simpa using h6, ?_⟩⟩
    · simp [World.setCell, Array.getElem?_modify, h3]
    · rw [← h7]
      simp [List.take_set]
theorem set_same (L : List Int) (q : Nat) (x : Int) (h : L[q]? = some x) : L.set q x = L := by
  obtain ⟨hlt, rfl⟩ := List.getElem?_eq_some_iff.1 h
  exact List.set_getElem_self hlt
theorem any_aux (b : Bool) (X Y : List Int) (u : Int) : ∃ x ev : Int, takeV (if b = true ∧ X = Y then some u else none) (.int .i64 0) (.int .i64 160) = .tuple #[.int .i64 x, .int .i64 ev] ∧ (ev == 0) = (b && decide (X = Y)) := by
  cases b with
  | false => exact ⟨0, 160, by simp [takeV], by simp⟩
  | true =>
    by_cases h2 : X = Y
    · exact ⟨u, 0, by simp [takeV, h2], by simp [h2]⟩
    · exact ⟨0, 160, by simp [takeV, h2], by simp [h2]⟩
theorem take_any (o s : ByteArray) (ho : o.size ≤ 1000000) (u : Int) (hu0 : 0 ≤ u) (hu1 : u < 7258118400000000) (g c : Nat) (hc : 32 ≤ c) (w : World) (hr : RdA w g 0 (nums8 (stampOf s u))) :
    Calls Try.prog 13 #[.string o, .slice (some ⟨g, 0, none⟩) 32 c] w fun e w' => ∃ x ev : Int, e = .returned (.tuple #[.int .i64 x, .int .i64 ev]) ∧ (ev == 0) = sameSt o s u ∧ Ext w w' := by
  cases hn : okNm o with
  | false =>
    refine (take_bad o ho hn _ _ _ w).mono ?_
    rintro e w' ⟨rfl, hx⟩
    have : okSt o u = false := by unfold okSt; rw [hn]; rfl
    exact ⟨0, 2, rfl, by unfold sameSt; rw [this, Bool.false_and]; decide, hx⟩
  | true =>
    refine (take_loop o ho hn (stampOf s u) (stampOf_length s u) (stampOf_bytes s u) g 0 c hc w hr).mono ?_
    intro e w' h
    obtain ⟨x, ev, h1, h2⟩ := any_aux (okSt o u) (stampOf o u) (stampOf s u) u
    rw [← take_other o s u hu0 hu1] at h1
    exact ⟨x, ev, h.1.trans (congrArg Ending.returned h1), h2, h.2⟩
theorem rput_any (o s : ByteArray) (ho : o.size ≤ 1000000) (u : Int) (w : World) :
    Calls Try.prog 10 #[.string o, .int .i64 u] w fun e w' => ∃ (A : Option Addr) (n cap : Nat) (bo : Bool) (L : List Int), e = .returned (.tuple #[.slice A n cap, .bool bo]) ∧ L.length = n ∧ RdV w' A (nums8 L) ∧ ((strOfNums L).toList == (strOfNums (stampOf s u)).toList) = sameSt o s u ∧ Ext w w' := by
  unfold sameSt
  cases h1 : okSt o u with
  | false =>
    refine (rput_no o ho u h1 w).mono ?_
    rintro e w' ⟨rfl, hx⟩
    refine ⟨none, 0, 0, false, [], rfl, rfl, .inl rfl, ?_, hx⟩
    rw [Lib.strOfNums_toList, Lib.strOfNums_toList, eqB _ _ (fun c hc => by cases hc) (stampOf_bytes s u)]
    have : ¬ [] = stampOf s u := fun h => by
      have := stampOf_length s u
      rw [← h] at this
      simp at this
    simp [this]
  | true =>
    refine (rput_yes o ho u h1 w).mono ?_
    rintro e w' ⟨g, cap, rfl, _, _, hr, hx⟩
    refine ⟨_, 32, cap, true, stampOf o u, rfl, stampOf_length o u, .inr ⟨g, 0, rfl, hr⟩, ?_, hx⟩
    rw [Lib.strOfNums_toList, Lib.strOfNums_toList, eqB _ _ (stampOf_bytes o u) (stampOf_bytes s u)]
    simp
theorem take_31 (s : ByteArray) (hs : s.size ≤ 1000000) (h : okNm s = true) (A : Option Addr) (cap : Nat) (w : World) :
    Calls Try.prog 13 #[.string s, .slice A 31 cap] w fun e w' => e = .returned (.tuple #[.int .i64 0, .int .i64 160]) ∧ Ext w w' := take_long s hs h A 31 cap (by omega) w
theorem take_33 (s : ByteArray) (hs : s.size ≤ 1000000) (h : okNm s = true) (A : Option Addr) (cap : Nat) (w : World) :
    Calls Try.prog 13 #[.string s, .slice A 33 cap] w fun e w' => e = .returned (.tuple #[.int .i64 0, .int .i64 160]) ∧ Ext w w' := take_long s hs h A 33 cap (by omega) w
/-- Both Takes of any 32 bytes say the same. -/
theorem take_two (s : ByteArray) (hs : s.size ≤ 1000000) (hn : okNm s = true) (l : List Int) (hl : l.length = 32) (hlb : Bytes l) (g c : Nat) (hc : 32 ≤ c) (w : World) (hr : RdA w g 0 (nums8 l)) :
    Calls Try.prog 13 #[.string s, .slice (some ⟨g, 0, none⟩) 32 c] w fun e w' => ∃ x ev : Int, e = .returned (.tuple #[.int .i64 x, .int .i64 ev]) ∧ (ev == 0) = (takeOf s l).isSome ∧ Ext w w' := by
  refine (take_loop s hs hn l hl hlb g 0 c hc w hr).mono ?_
  rintro e w' ⟨rfl, hx⟩
  cases takeOf s l with
  | none => exact ⟨0, 160, rfl, rfl, hx⟩
  | some v => exact ⟨v, 0, rfl, rfl, hx⟩

end Go.Proofs.Ythgepclmlhbbaaa
