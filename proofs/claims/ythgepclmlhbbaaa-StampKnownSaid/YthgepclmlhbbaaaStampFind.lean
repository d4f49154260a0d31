/- Chapter 16: strings.ContainsAny(name, "/\x00") at whatever name: whether one of its bytes is one of the two. -/
import Derived.Test.YthgepclmlhbbaaaSipBase
import Derived.Test.YthgepclmlhbbaaaShelf
import Derived.Lib.TrimUEq
import Derived.Lib.OthersKept
import Derived.Lib.MapLaws
import Derived.Lib.SpaceUEq
import Derived.Lib.QuoteLoop
import Derived.WalkSpells
import Derived.Deep.LoopGhost
import Derived.Deep.QuietTactic
import Derived.BigQuiet
namespace Go.Proofs.Ythgepclmlhbbaaa
open Go.RowKit Go.Lib
set_option linter.unusedVariables false
set_option linter.unusedSimpArgs false

def isBad (c : Int) : Bool := c == 0 || c == 47
def anyBad (s : ByteArray) : Bool := (bytesOf s).any isBad
theorem Ext.iter {a b : World} (h : Ext a b) (s : ByteArray) (n : Nat) : Ext a (b.iter s n) := h.alloc _

theorem Ext.iterAt {a b : World} (h : Ext a b) {k : Nat} (hk : a.heap.size ≤ k) (s : ByteArray) (n : Nat) : Ext a (b.iterAt k s n) :=
  ⟨h.os, h.tape, h.output, by have := h.size; simp [World.iterAt]; omega, fun i hi => by
    rw [← h.block i hi]
    simp only [World.iterAt]
    rw [Array.getElem?_setIfInBounds_ne (by omega)]⟩

theorem enc2 (r : Int) (h1 : 128 ≤ r) (h2 : r < 2048) (hvd : Utf8.valid r = true) : ∃ a b : UInt8, Utf8.encode r = ⟨#[a, b]⟩ ∧ 128 ≤ (b.toNat : Int) := by
  refine ⟨_, _, by rw [Utf8.encode, if_pos hvd, if_neg (by omega), if_pos (by omega)], ?_⟩
  simp
  omega
theorem enc3 (r : Int) (h1 : 2048 ≤ r) (hvd : Utf8.valid r = true) : 2 < (Utf8.encode r).size ∧ (Utf8.encode r).size ≤ 4 := by
  rw [Utf8.encode, if_pos hvd, if_neg (by omega), if_neg (by omega)]
  split <;> simp [ByteArray.size]

set_option maxHeartbeats 1000000 in
set_option maxRecDepth 100000 in
theorem rune2_hi (r : Int) (h1 : 128 ≤ r) (h2 : r ≤ 1114111) (hv : Lib.validRune r = true) (w : World) :
    Calls Try.prog 35 #[.string ⟨#[47, 0]⟩, .int .i32 r] w fun e w' => e = .returned (.int .i64 (-1)) ∧ Ext w w' := by
  have h3 : 0 ≤ r := by omega
  have h4 : ¬ r < 128 := by omega
  have hvd : Utf8.valid r = true := by
    simp [Lib.validRune] at hv
    simp [Utf8.valid]
    omega
  by_cases h5 : r = 65533
  · subst h5
    clear hv hvd
    go_enter Try.func35, Try.ntmps35
    go_wp2_with fail
    go_loopg [5, 6] 2 (fun g _ _ wx => ∃ i : Nat, i + g = 2 ∧ wx = w.iter ⟨#[47, 0]⟩ i)
    case atStart => exact ⟨0, rfl, rfl⟩
    case round =>
      obtain ⟨i, hig, rfl⟩ := hrel
      cases gk with
      | zero =>
        obtain rfl : i = 2 := by omega
        have hnx := run_next_end (P := Try.prog) w ⟨#[47, 0]⟩ 2
        go_wp2
        go_ret
        exact ⟨rfl, (Ext.refl w).iter _ _⟩
      | succ g =>
        have hi : i < 2 := by omega
        rcases (show i = 0 ∨ i = 1 by omega) with rfl | rfl
        · have hnx := fun ty => run_next_ascii (P := Try.prog) w ⟨#[47, 0]⟩ 0 ty (by decide) (by decide)
          go_wp2_with fail
          go_roundg g
          case measure => omega
          case rel => exact ⟨1, by omega, rfl⟩
        · have hnx := fun ty => run_next_ascii (P := Try.prog) w ⟨#[47, 0]⟩ 1 ty (by decide) (by decide)
          go_wp2_with fail
          go_roundg g
          case measure => omega
          case rel => exact ⟨2, by omega, rfl⟩
  · have h6 : (r == 65533) = false := by simpa using h5
    by_cases h7 : r < 2048
    · obtain ⟨a, b, he, hb⟩ := enc2 r h1 h7 hvd
      have hb0 : ((0 : Int) == (b.toNat : Int)) = false := by simp; omega
      have hb1 : ((0 : Int) != (b.toNat : Int)) = true := by simp; omega
      have hne : (((((⟨#[47, 0]⟩ : ByteArray)[1]'(by decide)).toNat : Nat) : Int) != ((((⟨#[a, b]⟩ : ByteArray)[1]'(by simp [ByteArray.size])).toNat : Nat) : Int)) = true := hb1
      clear hvd h5
      go_enter Try.func35, Try.ntmps35
      go_wp2_with (go_at_call 41; refine (Try.utf8_ValidRune _ _).mono ?_; rintro e w' ⟨rfl, rfl⟩)
      go_step3
      go_wp2_with fail
      apply wp_loop_once
      go_wp2_with fail
      go_step3
      go_wp2_with fail
      go_quiet (fail)
      go_wp2_with fail
      refine wp_gen (fun W => Ext w' W) ((Ext.refl _).drewN _) ?_
      rintro W hx
      have hw2 : IntKind.i64.wrap 2 = 2 := by decide
      go_quiet ((go_at_call 40; exact Calls.quiet_of_same (Try.strings_IndexByte _ _ _)))
      go_wp2_with fail
      rw [Exit.noGoto_ret]
      go_wp2_with fail
      rw [Exit.noGoto_ret]
      go_ret
      exact ⟨rfl, hx.drewN _⟩
    · have h8 := enc3 r (by omega) hvd
      obtain ⟨E, hE⟩ : ∃ E, Utf8.encode r = E := ⟨_, rfl⟩
      rw [hE] at h8
      obtain ⟨h8, h8'⟩ := h8
      have h9 : decide ((E.size : Int) - 1 < 2) = false := by simp; omega
      clear hvd h5 h7
      go_enter Try.func35, Try.ntmps35
      go_wp2_with (go_at_call 41; refine (Try.utf8_ValidRune _ _).mono ?_; rintro e w' ⟨rfl, rfl⟩)
      go_step3
      go_wp2_with fail
      apply wp_loop_once
      go_wp2_with fail
      rw [Exit.noGoto_ret]
      go_ret
      exact ⟨rfl, Ext.refl _⟩
theorem byteAt (s : ByteArray) (i : Nat) (h : i < s.size) : s.data.toList.getD i 0 = s[i]'h := by
  rw [List.getD_eq_getElem?_getD, List.getElem?_eq_getElem (by simpa using h)]
  rfl
def NoBad (s : ByteArray) (i : Nat) : Prop := ∀ j, j < i → isBad (((s.data.toList.getD j 0).toNat : Nat) : Int) = false
theorem isBad_hi (n : Nat) (h : 128 ≤ n) : isBad (n : Int) = false := by
  have h0 : ¬ (n : Int) = 0 := by omega
  have h1 : ¬ (n : Int) = 47 := by omega
  unfold isBad
  rw [beq_eq_false_iff_ne.2 h0, beq_eq_false_iff_ne.2 h1]
  rfl
theorem anyBad_iff (s : ByteArray) : anyBad s = true ↔ ∃ j, j < s.size ∧ isBad (((s.data.toList.getD j 0).toNat : Nat) : Int) = true := by
  unfold anyBad bytesOf
  rw [List.any_map, List.any_eq_true]
  constructor
  · rintro ⟨c, hc, h⟩
    obtain ⟨j, hj⟩ := List.getElem?_of_mem hc
    refine ⟨j, ?_, ?_⟩
    · have := (List.getElem?_eq_some_iff.1 hj).1
      simpa using this
    · rw [List.getD_eq_getElem?_getD, hj]
      exact h
  · rintro ⟨j, hj, h⟩
    have hj' : j < s.data.toList.length := by simpa using hj
    refine ⟨s.data.toList[j], List.getElem_mem _, ?_⟩
    rw [List.getD_eq_getElem?_getD, List.getElem?_eq_getElem hj'] at h
    exact h
theorem noBad_all (s : ByteArray) (h : NoBad s s.size) : anyBad s = false := by
  cases hb : anyBad s with
  | false => rfl
  | true =>
    obtain ⟨j, hj, h1⟩ := (anyBad_iff s).1 hb
    rw [h j hj] at h1
    cases h1
theorem hi_dec (s : ByteArray) (i : Nat) (hi : i < s.size) (hb : 128 ≤ (s[i]'hi).toNat) : 128 ≤ (Utf8.decode s i).1 ∧ (Utf8.decode s i).1 ≤ 1114111 ∧ Lib.validRune ((Utf8.decode s i).1 : Int) = true ∧ 1 ≤ (Utf8.decode s i).2 ∧ i + (Utf8.decode s i).2 ≤ s.size ∧
    ∀ j, i ≤ j → j < i + (Utf8.decode s i).2 → 128 ≤ (s.data.toList.getD j 0).toNat := by
  have hl : s.data.toList.length = s.size := by simp
  have hb' : 128 ≤ (s.data.toList.getD i 0).toNat := by rw [byteAt s i hi]; exact hb
  rw [Lib.decode_N]
  have hv := Lib.decodeN_valid (s.data.toList.length - i) (s.data.toList.getD i 0).toNat (s.data.toList.getD (i + 1) 0).toNat (s.data.toList.getD (i + 2) 0).toNat (s.data.toList.getD (i + 3) 0).toNat (UInt8.toNat_lt _)
  have hc := Lib.decodeN_conts (s.data.toList.length - i) (s.data.toList.getD i 0).toNat (s.data.toList.getD (i + 1) 0).toNat (s.data.toList.getD (i + 2) 0).toNat (s.data.toList.getD (i + 3) 0).toNat
  have hs := Lib.decodeN_shape (s.data.toList.length - i) (s.data.toList.getD i 0).toNat (s.data.toList.getD (i + 1) 0).toNat (s.data.toList.getD (i + 2) 0).toNat (s.data.toList.getD (i + 3) 0).toNat
  have hw := Lib.decodeN_width_le (s.data.toList.length - i) (s.data.toList.getD i 0).toNat (s.data.toList.getD (i + 1) 0).toNat (s.data.toList.getD (i + 2) 0).toNat (s.data.toList.getD (i + 3) 0).toNat (by omega)
  generalize hd : Lib.decodeN (s.data.toList.length - i) (s.data.toList.getD i 0).toNat (s.data.toList.getD (i + 1) 0).toNat (s.data.toList.getD (i + 2) 0).toNat (s.data.toList.getD (i + 3) 0).toNat = d at hv hc hs hw ⊢
  obtain ⟨r, n⟩ := d
  simp only [Prod.mk.injEq] at *
  refine ⟨by omega, by omega, by simp only [Lib.validRune, decide_eq_true_eq]; omega, by omega, by omega, fun j h1 h2 => ?_⟩
  obtain ⟨h3, h4, h5, h6⟩ := hc
  rcases (show j = i ∨ j = i + 1 ∨ j = i + 2 ∨ j = i + 3 by omega) with rfl | rfl | rfl | rfl
  · exact hb'
  · have := (h3 (by omega)).1; omega
  · have := (h4 (by omega)).1; omega
  · have := (h5 (by omega)).1; omega
theorem idx2 (x : UInt8) : decide (0 ≤ Lib.indexByte (⟨#[47, 0]⟩ : ByteArray).data.toList x) = isBad ((x.toNat : Nat) : Int) := by
  have k : ∀ n : Fin 256, decide (0 ≤ Lib.indexByte (⟨#[47, 0]⟩ : ByteArray).data.toList (UInt8.ofNat n.1)) = isBad ((n.1 : Nat) : Int) := by decide +kernel
  have := k ⟨x.toNat, x.toNat_lt⟩
  simpa using this
theorem indexAny2 : ∀ l : List UInt8, decide (0 ≤ Lib.indexAny l (⟨#[47, 0]⟩ : ByteArray).data.toList) = (l.map fun c => ((c.toNat : Nat) : Int)).any isBad
  | [] => rfl
  | b :: l => by
    have ih := indexAny2 l
    have hb : (⟨#[47, 0]⟩ : ByteArray).data.toList.contains b = isBad ((b.toNat : Nat) : Int) := by rw [Lib.contains_iff_indexByte]; exact idx2 b
    have hge := Lib.indexAny_ge (⟨#[47, 0]⟩ : ByteArray).data.toList l
    rw [Lib.indexAny, hb, List.map_cons, List.any_cons]
    cases isBad ((b.toNat : Nat) : Int) with
    | true => simp
    | false =>
      rw [← ih]
      by_cases h : Lib.indexAny l (⟨#[47, 0]⟩ : ByteArray).data.toList = -1
      · simp [h]
      · have h' : (Lib.indexAny l (⟨#[47, 0]⟩ : ByteArray).data.toList == -1) = false := by simpa using h
        rw [h']
        simp only [Bool.false_eq_true, if_false, Bool.false_or]
        rw [decide_eq_decide]
        change 0 ≤ Lib.indexAny l (⟨#[47, 0]⟩ : ByteArray).data.toList + 1 ↔ 0 ≤ Lib.indexAny l (⟨#[47, 0]⟩ : ByteArray).data.toList
        omega

def IdxP (s : ByteArray) (w : World) (e : Ending) (w' : World) : Prop := ∃ n : Int, e = .returned (.int .i64 n) ∧ decide (0 ≤ n) = anyBad s ∧ Ext w w'

set_option maxHeartbeats 2000000 in
set_option maxRecDepth 100000 in
theorem indexAny_short (s : ByteArray) (h8 : s.size ≤ 8) (w : World) :
    Calls Try.prog 29 #[.string s, .string ⟨#[47, 0]⟩] w (IdxP s w) := by
  have h8z : decide ((8 : Int) < (s.size : Int)) = false := decide_eq_false (by omega)
  go_enter Try.func29, Try.ntmps29
  go_wp2_with (go_at_call 36; refine (Try.strings_shouldUseASCIISet _ _).mono ?_; rintro e w' ⟨rfl, hw⟩; rw [hw, h8z])
  go_loopg [9, 10] s.size (fun g _ _ wx => ∃ i : Nat, s.size ≤ i + g ∧ i ≤ s.size ∧ wx.heap[w.heap.size]? = some (.stringIter s i) ∧ Ext w wx ∧ NoBad s i)
  case atStart => exact ⟨0, by omega, by omega, World.iter_heap _ _ _, (Ext.refl w).iter _ _, fun j hj => absurd hj (by omega)⟩
  case round =>
    obtain ⟨i, hig, his, hk, hx, hno⟩ := hrel
    have HN := Lib.hid hno
    clear hno
    by_cases hi : i < s.size
    · obtain ⟨g, rfl⟩ : ∃ g, gk = g + 1 := ⟨gk - 1, by omega⟩
      obtain ⟨x, hx1⟩ : ∃ x, s[i]'hi = x := ⟨_, rfl⟩
      have hxg : s.data.toList.getD i 0 = x := by rw [byteAt s i hi, hx1]
      by_cases hb : x.toNat < 128
      · have hnx := fun ty => run_next_ascii_at (P := Try.prog) wr w.heap.size s i ty hk hi (by rw [hx1]; exact hb)
        rw [hx1] at hnx
        have hcon := idx2 x
        have hback : ((x.toNat : Int)).toNat.toUInt8 = x := by simp
        obtain ⟨J, hJ⟩ : ∃ J, Lib.indexByte (⟨#[47, 0]⟩ : ByteArray).data.toList x = J := ⟨_, rfl⟩
        rw [hJ] at hcon
        have HJ := Lib.hid hJ
        have Hg := Lib.hid hxg
        have HK := Lib.hid (iterAt_heap _ _ _ _ (i + 1) hk)
        clear hJ hxg hx1 hk
        cases hin : isBad ((x.toNat : Nat) : Int)
        · rw [hin] at hcon
          have hlt : ¬ (0 : Int) ≤ J := of_decide_eq_false hcon
          clear hcon
          have Hin := Lib.hid hin
          clear hin
          go_wp2_with (go_at_call 35; refine (Try.strings_IndexRune_ascii _ _ _ (by omega) (by omega)).mono ?_; rintro e w' ⟨rfl, hw⟩; rw [hw, hback, HJ.out])
          go_roundg g
          case measure => omega
          case rel => exact ⟨i + 1, by omega, by omega, HK.out, hx.iterAt (Nat.le_refl _) _ _, fun j hj => by
            rcases (show j < i ∨ j = i by omega) with h | rfl
            · exact HN.out j h
            · rw [Hg.out]; exact Hin.out⟩
        · rw [hin] at hcon
          have hlt : (0 : Int) ≤ J := of_decide_eq_true hcon
          clear hcon
          have Hin := Lib.hid hin
          clear hin
          go_wp2_with (go_at_call 35; refine (Try.strings_IndexRune_ascii _ _ _ (by omega) (by omega)).mono ?_; rintro e w' ⟨rfl, hw⟩; rw [hw, hback, HJ.out])
          go_ret
          exact ⟨i, rfl, by rw [(anyBad_iff s).2 ⟨i, hi, by rw [Hg.out]; exact Hin.out⟩]; simp, hx.iterAt (Nat.le_refl _) _ _⟩
      · have hd := hi_dec s i hi (by rw [hx1]; omega)
        have hnx := fun ty => run_next_any_at (P := Try.prog) wr w.heap.size s i ty hk hi
        obtain ⟨d, hdd⟩ : ∃ d, Utf8.decode s i = d := ⟨_, rfl⟩
        rw [hdd] at hd
        simp only [hdd] at hnx
        obtain ⟨r, n⟩ := d
        obtain ⟨hr1, hr2, hrv, hn1, hn2, hall⟩ := hd
        simp only at hr1 hr2 hrv hn1 hn2 hall hnx
        have HA := Lib.hid hall
        have HV := Lib.hid hrv
        have HK := Lib.hid (iterAt_heap _ _ _ _ (i + n) hk)
        clear hall hrv hdd hx1 hxg hk
        go_wp2_with (go_at_call 35; refine (rune2_hi _ (by omega) (by omega) HV.out _).mono ?_; rintro e w' ⟨rfl, hw⟩)
        go_roundg g
        case measure => omega
        case rel => exact ⟨i + n, by omega, by omega, hw.heap HK.out, (hx.iterAt (Nat.le_refl _) _ _).trans hw, fun j hj => by
            rcases (show j < i ∨ i ≤ j by omega) with h | h
            · exact HN.out j h
            · exact isBad_hi _ (HA.out j h hj)⟩
    · obtain rfl : i = s.size := by omega
      have hnx := fun ty => run_next_end_at (P := Try.prog) wr w.heap.size s s.size ty hk hi
      clear hk
      go_wp2_with fail
      go_ret
      exact ⟨-1, rfl, by rw [noBad_all s HN.out]; rfl, hx⟩

theorem hv256 : ∀ w, (zeroValue 71).run Try.prog w = .ok (.agg (Array.replicate 256 (.bool false))) w :=
  have h : (Try.prog.info? 71).map (fun i => (i.zero, i.size)) = some (some (.agg (Array.replicate 256 (.bool false))), 256) := by kernel_rfl
  (zero_of_info h).1
theorem indexAny_calls (s : ByteArray) (hs : s.size ≤ 1000000) (w : World) : Calls Try.prog 29 #[.string s, .string ⟨#[47, 0]⟩] w (IdxP s w) := by
  by_cases h8 : s.size ≤ 8
  · exact indexAny_short s h8 w
  · refine (Try.strings_IndexAny_long hv256 s ⟨#[47, 0]⟩ w (by decide) (by omega) (by omega) (by decide) ?_).mono ?_
    · intro j b hj
      have : b ∈ (⟨#[47, 0]⟩ : ByteArray).data.toList := List.mem_of_getElem? hj
      simp at this
      rcases this with rfl | rfl <;> decide
    · rintro e w' ⟨rfl, rfl⟩
      exact ⟨_, rfl, indexAny2 _, ((Ext.refl w).alloc _).alloc _⟩

set_option maxHeartbeats 1000000 in
theorem containsAny_calls (s : ByteArray) (hs : s.size ≤ 1000000) (w : World) : Calls Try.prog 20 #[.string s, .string ⟨#[47, 0]⟩] w fun e w' => e = .returned (.bool (anyBad s)) ∧ Ext w w' := by
  have HC := Lib.hid fun W => indexAny_calls s hs W
  go_enter Try.func20, Try.ntmps20
  go_wp2_with fail
  refine (HC.out _).mono ?_
  rintro e w' ⟨n, rfl, hn, hx⟩
  have HN := Lib.hid hn
  clear hn
  go_wp2_with fail
  go_ret
  exact ⟨by rw [← HN.out]; rfl, hx⟩
end Go.Proofs.Ythgepclmlhbbaaa
