/- Chapter 19: the document's Has, Row, Ahead. -/
import Derived.Test.YtdpfppibbnjemaaNamed
import Derived.Test.YtdpfppibbnjemaaDedup
import Derived.Test.YtdpfppibbnjemaaGrow
namespace Go.Proofs.Ytdpfppibbnjemaa
open Go.RowKit Go.Shelf
set_option linter.unusedVariables false
set_option linter.unusedSimpArgs false
def nameAt (l : List NR) (b : Nat) : ByteArray := match l[b]? with | some x => x.name | none => ByteArray.empty
def namesAt (l : List NR) (a k : Nat) : List ByteArray := match l[a]? with | some x => x.nm k | none => []
/-- Does a name b, of a kind, b not itself? -/
def nmB (l : List NR) (a b k : Nat) : Bool := !decide (a = b) && (namesAt l a k).any fun s => decide (s = nameAt l b)
structure Small (l : List NR) : Prop where
  len : l.length ≤ 1000
  names : ∀ x ∈ l, ∀ s ∈ x.ks, s.ss.length ≤ 1000
set_option maxRecDepth 100000 in
set_option maxHeartbeats 2000000 in
theorem rhas_calls (l : List NR) (A : Option Addr) (cap : Nat) (a b k : Nat) (w : World) (hr : RdN w A l) (hs : Small l) (ha : a < l.length) (hb : b < l.length) (hk : k < 7) :
    Calls Try.prog 36 #[.slice A l.length cap, .int .i64 a, .int .i64 b, .int .i64 k] w fun e w' => e = .returned (.bool (nmB l a b k)) ∧ Ext w w' := by
  by_cases hab : a = b
  · subst hab
    have : nmB l a a k = false := by simp [nmB]
    rw [this]
    go_enter Try.func36, Try.ntmps36
    go_wp2_with fail
    go_ret
    exact ⟨rfl, Ext.refl w⟩
  · have habi : ((a : Int) == b) = false := by rw [beq_eq_false_iff_ne]; omega
    have hai : (a : Int) < l.length := by omega
    have hbi : (b : Int) < l.length := by omega
    have hki : (k : Int) < 7 := by omega
    obtain ⟨ba, oa, na, ka, rfl, hla, _, hka, _, hoka⟩ := hr.at ha
    obtain ⟨_, _, nb, kb, hA, hlb, hnb, _, _, _⟩ := hr.at hb
    cases hA
    obtain ⟨s, hsk⟩ : ∃ s, ka[k]? = some s := ⟨_, List.getElem?_eq_getElem (by have := hoka.1; simp only at this; omega)⟩
    have hsl := hs.names _ (List.mem_of_getElem? hla) s (List.mem_of_getElem? hsk)
    have hrs := hoka.2 s (List.mem_of_getElem? hsk)
    have hcs := hka k s hsk
    obtain ⟨As, cs, ss⟩ := s
    simp only [SK.val] at hcs hsl hrs
    have hE : nmB l a b k = ss.any fun s => decide (s = nb) := by
      unfold nmB nameAt namesAt NR.nm
      simp only [hla, hlb, hsk, decide_eq_false hab]
      rfl
    rw [hE]
    obtain ⟨p, hp⟩ : ∃ p, (ss.any fun s => decide (s = nb)) = p := ⟨_, rfl⟩
    have HP := Lib.hid hp
    rw [hp]
    clear hp hE hla hlb hka hoka hsk hr hs
    go_enter Try.func36, Try.ntmps36
    go_upto_region 4 with (fail)
    go_loopw [9] (fun iv W => ∃ i : Nat, iv = .int .i64 i ∧ i ≤ ss.length ∧ (∀ (q : Nat) (x : ByteArray), q < i → ss[q]? = some x → x ≠ nb) ∧ Ext w W) (fun iv _ => ss.length - (RowKit.intOf iv).toNat)
    case atStart => exact ⟨0, rfl, by omega, fun q x h => by omega, Ext.refl w⟩
    case round =>
      obtain ⟨i, rfl, hi, hne, hx⟩ := hrel
      have HNE := Lib.hid hne
      clear hne
      have c1 := hx.cell hcs
      have c2 := hx.cell hnb
      by_cases hlt : i < ss.length
      · have hlti : (i : Int) < ss.length := by omega
        obtain ⟨sb, so, rfl, hsc⟩ := (hrs.ext hx).at (i := i) (by simpa using hlt)
        obtain ⟨x, hxi⟩ : ∃ x, ss[i]? = some x := ⟨_, List.getElem?_eq_getElem hlt⟩
        have c3 := hsc i (.string x) (by rw [List.getElem?_map, hxi]; rfl)
        have HXI := Lib.hid hxi
        clear hsc hxi
        by_cases heq : x = nb
        · subst heq
          go_upto_region 6 with (fail)
          refine wp_region_mixAll (fun W => W = wr.drew) [(0, true), (1, true), (2, true), (3, true), (4, true), (5, true), (6, true), (7, true), (8, true), (9, true), (10, true), (11, true), (12, true), (13, true), (14, true), (15, true)] (by kernel_rfl) (by kernel_rfl) (rfl) ?_
          repeat (apply mix_read; (case ho => rfl); (case hw => rfl); (case h1 => intro W' hx; subst hx; go_simp; (try go_bits); with_reducible rfl); (case hp => go_simp; first | done | with_reducible rfl))
          refine mix_nil ?_; unfold Q0
          go_wp2_with fail
          go_ret
          exact ⟨by rw [← HP.out, List.any_eq_true.2 ⟨_, List.mem_of_getElem? HXI.out, decide_eq_true rfl⟩]; rfl, hx.drew⟩
        · have hb1 := str_ne heq
          have hb2 := toList_ne heq
          go_upto_region 6 with (fail)
          refine wp_region_mixAll (fun W => W = wr.drew) [(0, true), (1, true), (2, true), (3, true), (4, true), (5, true), (6, true), (7, true), (8, true), (9, true), (10, true), (11, true), (12, true), (13, true), (14, true), (15, true)] (by kernel_rfl) (by kernel_rfl) (rfl) ?_
          repeat (apply mix_read; (case ho => rfl); (case hw => rfl); (case h1 => intro W' hx; subst hx; go_simp; (try go_bits); with_reducible rfl); (case hp => go_simp; first | done | with_reducible rfl))
          refine mix_nil ?_; unfold Q0
          have HEQ := Lib.hid heq
          clear hb1 hb2 heq
          go_wp2_with fail
          go_roundw
          case rel => exact ⟨i + 1, by go_num, by omega, fun q y hq hy => by
            rcases (show q < i ∨ q = i by omega) with h | rfl
            · exact HNE.out q y h hy
            · rw [HXI.out] at hy; cases hy; exact HEQ.out, hx.drew⟩
          case measure => simp [RowKit.intOf]; omega
      · obtain rfl : i = ss.length := by omega
        go_wp2_with fail
        go_ret
        refine ⟨?_, hx⟩
        rw [← HP.out, List.any_eq_false.2 (fun y hy => ?_)]
        · rfl
        · obtain ⟨q, hq⟩ := List.getElem?_of_mem hy
          simpa using HNE.out q y (List.getElem?_eq_some_iff.1 hq).1 hq
/-- What the document's row of a kind holds. -/
def rowP (l : List NR) (a kind b : Nat) : Bool :=
  if kind = 6 then nmB l a b 6 || nmB l b a 6 else if kind = 7 then nmB l b a 0 else if kind = 8 then nmB l b a 2 else if kind = 9 then nmB l b a 3 else nmB l a b kind
set_option maxRecDepth 100000 in
set_option maxHeartbeats 4000000 in
theorem rrow6 (l : List NR) (A : Option Addr) (cap : Nat) (a : Nat) (w : World) (hr : RdN w A l) (hs : Small l) (ha : a < l.length) :
    Calls Try.prog 17 #[.slice A l.length cap, .int .i64 a, .int .i64 6] w fun e w' => ∃ B c, e = .returned (.slice B (below l.length (rowP l a 6)).length c) ∧ w'.ownsRow w.heap.size 3 1 (.slice B (below l.length (rowP l a 6)).length c) (below l.length (rowP l a 6)).length (ints (below l.length (rowP l a 6))) ∧ Ext w w' := by
  have HH := Lib.hid fun W (hx : Ext w W) a b k ha hb hk => rhas_calls l A cap a b k W (hr.ext hx) hs ha hb hk
  have hl := hs.len
  have hai : (a : Int) < l.length := by omega
  obtain ⟨P, hPe⟩ : ∃ P, rowP l a 6 = P := ⟨_, rfl⟩
  have HPE := Lib.hid fun b => congrFun hPe b
  rw [hPe]
  clear hr hs hPe
  go_enter Try.func17, Try.ntmps17
  go_upto_region 3 with (fail)
  go_loopw [8, 7] (fun iv ov W => ∃ (b : Nat) (B : Option Addr) (c : Nat), iv = .int .i64 b ∧ ov = .slice B (below b P).length c ∧ b ≤ l.length ∧ W.ownsRow w.heap.size 3 1 (.slice B (below b P).length c) (below b P).length (ints (below b P)) ∧ Ext w W) (fun iv _ _ => l.length - (RowKit.intOf iv).toNat)
  case atStart => exact ⟨0, none, 0, rfl, rfl, by omega, World.ownsRow_nil _ _ _ _, Ext.refl w⟩
  case round =>
    obtain ⟨b, B, c, rfl, rfl, hb, hown, hx⟩ := hrel
    have HOW := Lib.hid hown
    have HOL := Lib.hid fun j (hj : (Value.slice B (below b P).length c).ownBlock = some j) => (hown.lt j hj).1
    have hbl := below_length b P
    clear hown
    by_cases hlt : b < l.length
    · have hlti : (b : Int) < l.length := by omega
      have hpp := (HPE.out b).symm
      unfold rowP at hpp
      rw [if_pos rfl] at hpp
      have HC := Lib.hid (HH.out wr hx a b 6 (by omega) (by omega) (by omega))
      have HC2 := Lib.hid fun W hx => (HH.out W hx b a 6 (by omega) (by omega) (by omega))
      obtain ⟨p, hp⟩ : ∃ p, nmB l a b 6 = p := ⟨_, rfl⟩
      rw [hp] at HC hpp
      clear hp
      have tok : True := trivial
      cases p
      · rw [Bool.false_or] at hpp
        obtain ⟨p, hp⟩ : ∃ p, nmB l b a 6 = p := ⟨_, rfl⟩
        rw [hp] at HC2 hpp
        clear hp
        cases p
        · have HPP := Lib.hid hpp; clear hpp; go_wp2_with (go_at_call 36; first | (have _t := tok; refine HC.out.mono ?_; rintro e w1 ⟨rfl, hx1⟩; clear tok) | (refine (HC2.out _ (hx.trans hx1)).mono ?_; rintro e w2 ⟨rfl, hx2⟩)); go_roundw; (case rel => exact ⟨b + 1, B, c, by go_num, by rw [below_succ, HPP.out, if_neg (by simp), List.append_nil], by omega, by rw [below_succ, HPP.out, if_neg (by simp), List.append_nil]; exact Owns.ext HOW.out (hx1.trans hx2), hx.trans (hx1.trans hx2)⟩); (case measure => simp [RowKit.intOf]; omega)
        · have HPP := Lib.hid hpp; clear hpp; go_wp2_with (first | (go_at_call 36; first | (have _t := tok; refine HC.out.mono ?_; rintro e w1 ⟨rfl, hx1⟩; clear tok) | (refine (HC2.out _ (hx.trans hx1)).mono ?_; rintro e w2 ⟨rfl, hx2⟩)) | (refine wpList_append_int rfl (.tmp 53) (.tmp 55) 37 3 rfl Try.underlying37 infoInt w.heap.size (.slice B (below b P).length c) (below b P) rfl ((Owns.ext HOW.out (hx1.trans hx2)).alloc _) _ 1 b rfl (by go_simp) (by omega) (by have := (hx.trans (hx1.trans hx2)).size; rw [World.size_alloc]; omega) ?_; intro v' W5 o5 g5 s5; obtain ⟨B5, c5, rfl, _, _⟩ := Owns.rd o5)); go_roundw; (case rel => exact ⟨b + 1, B5, c5, by go_num, by rw [below_succ, if_pos HPP.out, List.length_append]; rfl, by omega, by rw [below_succ, if_pos HPP.out]; exact o5, Grown.toExt ((hx.trans (hx1.trans hx2)).alloc _) g5 (fun j hj => HOL.out j hj)⟩); (case measure => simp [RowKit.intOf]; omega)
      · rw [Bool.true_or] at hpp
        have HPP := Lib.hid hpp; clear hpp; go_wp2_with (first | (go_at_call 36; refine HC.out.mono ?_; rintro e w1 ⟨rfl, hx1⟩) | (refine wpList_append_int rfl (.tmp 53) (.tmp 55) 37 3 rfl Try.underlying37 infoInt w.heap.size (.slice B (below b P).length c) (below b P) rfl ((Owns.ext HOW.out hx1).alloc _) _ 1 b rfl (by go_simp) (by omega) (by have := (hx.trans hx1).size; rw [World.size_alloc]; omega) ?_; intro v' W5 o5 g5 s5; obtain ⟨B5, c5, rfl, _, _⟩ := Owns.rd o5)); go_roundw; (case rel => exact ⟨b + 1, B5, c5, by go_num, by rw [below_succ, if_pos HPP.out, List.length_append]; rfl, by omega, by rw [below_succ, if_pos HPP.out]; exact o5, Grown.toExt ((hx.trans hx1).alloc _) g5 (fun j hj => HOL.out j hj)⟩); (case measure => simp [RowKit.intOf]; omega)
    · obtain rfl : b = l.length := by omega
      go_wp2_with fail
      go_ret
      exact ⟨B, c, rfl, HOW.out, hx⟩
set_option maxRecDepth 100000 in
set_option maxHeartbeats 4000000 in
theorem rrow7 (l : List NR) (A : Option Addr) (cap : Nat) (a : Nat) (w : World) (hr : RdN w A l) (hs : Small l) (ha : a < l.length) :
    Calls Try.prog 17 #[.slice A l.length cap, .int .i64 a, .int .i64 7] w fun e w' => ∃ B c, e = .returned (.slice B (below l.length (rowP l a 7)).length c) ∧ w'.ownsRow w.heap.size 3 1 (.slice B (below l.length (rowP l a 7)).length c) (below l.length (rowP l a 7)).length (ints (below l.length (rowP l a 7))) ∧ Ext w w' := by
  have HH := Lib.hid fun W (hx : Ext w W) a b k ha hb hk => rhas_calls l A cap a b k W (hr.ext hx) hs ha hb hk
  have hl := hs.len
  have hai : (a : Int) < l.length := by omega
  obtain ⟨P, hPe⟩ : ∃ P, rowP l a 7 = P := ⟨_, rfl⟩
  have HPE := Lib.hid fun b => congrFun hPe b
  rw [hPe]
  clear hr hs hPe
  go_enter Try.func17, Try.ntmps17
  go_upto_region 3 with (fail)
  go_loopw [8, 7] (fun iv ov W => ∃ (b : Nat) (B : Option Addr) (c : Nat), iv = .int .i64 b ∧ ov = .slice B (below b P).length c ∧ b ≤ l.length ∧ W.ownsRow w.heap.size 3 1 (.slice B (below b P).length c) (below b P).length (ints (below b P)) ∧ Ext w W) (fun iv _ _ => l.length - (RowKit.intOf iv).toNat)
  case atStart => exact ⟨0, none, 0, rfl, rfl, by omega, World.ownsRow_nil _ _ _ _, Ext.refl w⟩
  case round =>
    obtain ⟨b, B, c, rfl, rfl, hb, hown, hx⟩ := hrel
    have HOW := Lib.hid hown
    have HOL := Lib.hid fun j (hj : (Value.slice B (below b P).length c).ownBlock = some j) => (hown.lt j hj).1
    have hbl := below_length b P
    clear hown
    by_cases hlt : b < l.length
    · have hlti : (b : Int) < l.length := by omega
      have hpp := (HPE.out b).symm
      unfold rowP at hpp
      simp only [Nat.reduceEqDiff, if_false, if_true] at hpp
      (have HC := Lib.hid (HH.out wr hx b a 0 (by omega) (by omega) (by omega)); (obtain ⟨p, hp⟩ : ∃ p, nmB l b a 0 = p := ⟨_, rfl⟩); rw [hp] at HC hpp; clear hp; cases p; (· have HPP := Lib.hid hpp; clear hpp; go_wp2_with (go_at_call 36; refine HC.out.mono ?_; rintro e w1 ⟨rfl, hx1⟩); go_roundw; (case rel => exact ⟨b + 1, B, c, by go_num, by rw [below_succ, HPP.out, if_neg (by simp), List.append_nil], by omega, by rw [below_succ, HPP.out, if_neg (by simp), List.append_nil]; exact Owns.ext HOW.out hx1, hx.trans hx1⟩); (case measure => simp [RowKit.intOf]; omega)); (· have HPP := Lib.hid hpp; clear hpp; go_wp2_with (first | (go_at_call 36; refine HC.out.mono ?_; rintro e w1 ⟨rfl, hx1⟩) | (refine wpList_append_int rfl (.tmp 53) (.tmp 55) 37 3 rfl Try.underlying37 infoInt w.heap.size (.slice B (below b P).length c) (below b P) rfl ((Owns.ext HOW.out hx1).alloc _) _ 1 b rfl (by go_simp) (by omega) (by have := (hx.trans hx1).size; rw [World.size_alloc]; omega) ?_; intro v' W5 o5 g5 s5; obtain ⟨B5, c5, rfl, _, _⟩ := Owns.rd o5)); go_roundw; (case rel => exact ⟨b + 1, B5, c5, by go_num, by rw [below_succ, if_pos HPP.out, List.length_append]; rfl, by omega, by rw [below_succ, if_pos HPP.out]; exact o5, Grown.toExt ((hx.trans hx1).alloc _) g5 (fun j hj => HOL.out j hj)⟩); (case measure => simp [RowKit.intOf]; omega)))
    · obtain rfl : b = l.length := by omega
      go_wp2_with fail
      go_ret
      exact ⟨B, c, rfl, HOW.out, hx⟩
set_option maxRecDepth 100000 in
set_option maxHeartbeats 4000000 in
theorem rrow8 (l : List NR) (A : Option Addr) (cap : Nat) (a : Nat) (w : World) (hr : RdN w A l) (hs : Small l) (ha : a < l.length) :
    Calls Try.prog 17 #[.slice A l.length cap, .int .i64 a, .int .i64 8] w fun e w' => ∃ B c, e = .returned (.slice B (below l.length (rowP l a 8)).length c) ∧ w'.ownsRow w.heap.size 3 1 (.slice B (below l.length (rowP l a 8)).length c) (below l.length (rowP l a 8)).length (ints (below l.length (rowP l a 8))) ∧ Ext w w' := by
  have HH := Lib.hid fun W (hx : Ext w W) a b k ha hb hk => rhas_calls l A cap a b k W (hr.ext hx) hs ha hb hk
  have hl := hs.len
  have hai : (a : Int) < l.length := by omega
  obtain ⟨P, hPe⟩ : ∃ P, rowP l a 8 = P := ⟨_, rfl⟩
  have HPE := Lib.hid fun b => congrFun hPe b
  rw [hPe]
  clear hr hs hPe
  go_enter Try.func17, Try.ntmps17
  go_upto_region 3 with (fail)
  go_loopw [8, 7] (fun iv ov W => ∃ (b : Nat) (B : Option Addr) (c : Nat), iv = .int .i64 b ∧ ov = .slice B (below b P).length c ∧ b ≤ l.length ∧ W.ownsRow w.heap.size 3 1 (.slice B (below b P).length c) (below b P).length (ints (below b P)) ∧ Ext w W) (fun iv _ _ => l.length - (RowKit.intOf iv).toNat)
  case atStart => exact ⟨0, none, 0, rfl, rfl, by omega, World.ownsRow_nil _ _ _ _, Ext.refl w⟩
  case round =>
    obtain ⟨b, B, c, rfl, rfl, hb, hown, hx⟩ := hrel
    have HOW := Lib.hid hown
    have HOL := Lib.hid fun j (hj : (Value.slice B (below b P).length c).ownBlock = some j) => (hown.lt j hj).1
    have hbl := below_length b P
    clear hown
    by_cases hlt : b < l.length
    · have hlti : (b : Int) < l.length := by omega
      have hpp := (HPE.out b).symm
      unfold rowP at hpp
      simp only [Nat.reduceEqDiff, if_false, if_true] at hpp
      (have HC := Lib.hid (HH.out wr hx b a 2 (by omega) (by omega) (by omega)); (obtain ⟨p, hp⟩ : ∃ p, nmB l b a 2 = p := ⟨_, rfl⟩); rw [hp] at HC hpp; clear hp; cases p; (· have HPP := Lib.hid hpp; clear hpp; go_wp2_with (go_at_call 36; refine HC.out.mono ?_; rintro e w1 ⟨rfl, hx1⟩); go_roundw; (case rel => exact ⟨b + 1, B, c, by go_num, by rw [below_succ, HPP.out, if_neg (by simp), List.append_nil], by omega, by rw [below_succ, HPP.out, if_neg (by simp), List.append_nil]; exact Owns.ext HOW.out hx1, hx.trans hx1⟩); (case measure => simp [RowKit.intOf]; omega)); (· have HPP := Lib.hid hpp; clear hpp; go_wp2_with (first | (go_at_call 36; refine HC.out.mono ?_; rintro e w1 ⟨rfl, hx1⟩) | (refine wpList_append_int rfl (.tmp 53) (.tmp 55) 37 3 rfl Try.underlying37 infoInt w.heap.size (.slice B (below b P).length c) (below b P) rfl ((Owns.ext HOW.out hx1).alloc _) _ 1 b rfl (by go_simp) (by omega) (by have := (hx.trans hx1).size; rw [World.size_alloc]; omega) ?_; intro v' W5 o5 g5 s5; obtain ⟨B5, c5, rfl, _, _⟩ := Owns.rd o5)); go_roundw; (case rel => exact ⟨b + 1, B5, c5, by go_num, by rw [below_succ, if_pos HPP.out, List.length_append]; rfl, by omega, by rw [below_succ, if_pos HPP.out]; exact o5, Grown.toExt ((hx.trans hx1).alloc _) g5 (fun j hj => HOL.out j hj)⟩); (case measure => simp [RowKit.intOf]; omega)))
    · obtain rfl : b = l.length := by omega
      go_wp2_with fail
      go_ret
      exact ⟨B, c, rfl, HOW.out, hx⟩
set_option maxRecDepth 100000 in
set_option maxHeartbeats 4000000 in
theorem rrow9 (l : List NR) (A : Option Addr) (cap : Nat) (a : Nat) (w : World) (hr : RdN w A l) (hs : Small l) (ha : a < l.length) :
    Calls Try.prog 17 #[.slice A l.length cap, .int .i64 a, .int .i64 9] w fun e w' => ∃ B c, e = .returned (.slice B (below l.length (rowP l a 9)).length c) ∧ w'.ownsRow w.heap.size 3 1 (.slice B (below l.length (rowP l a 9)).length c) (below l.length (rowP l a 9)).length (ints (below l.length (rowP l a 9))) ∧ Ext w w' := by
  have HH := Lib.hid fun W (hx : Ext w W) a b k ha hb hk => rhas_calls l A cap a b k W (hr.ext hx) hs ha hb hk
  have hl := hs.len
  have hai : (a : Int) < l.length := by omega
  obtain ⟨P, hPe⟩ : ∃ P, rowP l a 9 = P := ⟨_, rfl⟩
  have HPE := Lib.hid fun b => congrFun hPe b
  rw [hPe]
  clear hr hs hPe
  go_enter Try.func17, Try.ntmps17
  go_upto_region 3 with (fail)
  go_loopw [8, 7] (fun iv ov W => ∃ (b : Nat) (B : Option Addr) (c : Nat), iv = .int .i64 b ∧ ov = .slice B (below b P).length c ∧ b ≤ l.length ∧ W.ownsRow w.heap.size 3 1 (.slice B (below b P).length c) (below b P).length (ints (below b P)) ∧ Ext w W) (fun iv _ _ => l.length - (RowKit.intOf iv).toNat)
  case atStart => exact ⟨0, none, 0, rfl, rfl, by omega, World.ownsRow_nil _ _ _ _, Ext.refl w⟩
  case round =>
    obtain ⟨b, B, c, rfl, rfl, hb, hown, hx⟩ := hrel
    have HOW := Lib.hid hown
    have HOL := Lib.hid fun j (hj : (Value.slice B (below b P).length c).ownBlock = some j) => (hown.lt j hj).1
    have hbl := below_length b P
    clear hown
    by_cases hlt : b < l.length
    · have hlti : (b : Int) < l.length := by omega
      have hpp := (HPE.out b).symm
      unfold rowP at hpp
      simp only [Nat.reduceEqDiff, if_false, if_true] at hpp
      (have HC := Lib.hid (HH.out wr hx b a 3 (by omega) (by omega) (by omega)); (obtain ⟨p, hp⟩ : ∃ p, nmB l b a 3 = p := ⟨_, rfl⟩); rw [hp] at HC hpp; clear hp; cases p; (· have HPP := Lib.hid hpp; clear hpp; go_wp2_with (go_at_call 36; refine HC.out.mono ?_; rintro e w1 ⟨rfl, hx1⟩); go_roundw; (case rel => exact ⟨b + 1, B, c, by go_num, by rw [below_succ, HPP.out, if_neg (by simp), List.append_nil], by omega, by rw [below_succ, HPP.out, if_neg (by simp), List.append_nil]; exact Owns.ext HOW.out hx1, hx.trans hx1⟩); (case measure => simp [RowKit.intOf]; omega)); (· have HPP := Lib.hid hpp; clear hpp; go_wp2_with (first | (go_at_call 36; refine HC.out.mono ?_; rintro e w1 ⟨rfl, hx1⟩) | (refine wpList_append_int rfl (.tmp 53) (.tmp 55) 37 3 rfl Try.underlying37 infoInt w.heap.size (.slice B (below b P).length c) (below b P) rfl ((Owns.ext HOW.out hx1).alloc _) _ 1 b rfl (by go_simp) (by omega) (by have := (hx.trans hx1).size; rw [World.size_alloc]; omega) ?_; intro v' W5 o5 g5 s5; obtain ⟨B5, c5, rfl, _, _⟩ := Owns.rd o5)); go_roundw; (case rel => exact ⟨b + 1, B5, c5, by go_num, by rw [below_succ, if_pos HPP.out, List.length_append]; rfl, by omega, by rw [below_succ, if_pos HPP.out]; exact o5, Grown.toExt ((hx.trans hx1).alloc _) g5 (fun j hj => HOL.out j hj)⟩); (case measure => simp [RowKit.intOf]; omega)))
    · obtain rfl : b = l.length := by omega
      go_wp2_with fail
      go_ret
      exact ⟨B, c, rfl, HOW.out, hx⟩
set_option maxRecDepth 100000 in
set_option maxHeartbeats 4000000 in
theorem rrowD (l : List NR) (A : Option Addr) (cap : Nat) (a kind : Nat) (w : World) (hr : RdN w A l) (hs : Small l) (ha : a < l.length) (hk : kind < 6) :
    Calls Try.prog 17 #[.slice A l.length cap, .int .i64 a, .int .i64 kind] w fun e w' => ∃ B c, e = .returned (.slice B (below l.length (rowP l a kind)).length c) ∧ w'.ownsRow w.heap.size 3 1 (.slice B (below l.length (rowP l a kind)).length c) (below l.length (rowP l a kind)).length (ints (below l.length (rowP l a kind))) ∧ Ext w w' := by
  have HH := Lib.hid fun W (hx : Ext w W) a b k ha hb hk => rhas_calls l A cap a b k W (hr.ext hx) hs ha hb hk
  have hl := hs.len
  have hai : (a : Int) < l.length := by omega
  obtain ⟨P, hPe⟩ : ∃ P, rowP l a kind = P := ⟨_, rfl⟩
  have HPE := Lib.hid fun b => congrFun hPe b
  rw [hPe]
  clear hr hs hPe
  have h6i : ((kind : Int) == 6) = false := by rw [beq_eq_false_iff_ne]; omega
  have h7i : ((kind : Int) == 7) = false := by rw [beq_eq_false_iff_ne]; omega
  have h8i : ((kind : Int) == 8) = false := by rw [beq_eq_false_iff_ne]; omega
  have h9i : ((kind : Int) == 9) = false := by rw [beq_eq_false_iff_ne]; omega
  go_enter Try.func17, Try.ntmps17
  go_upto_region 3 with (fail)
  go_loopw [8, 7] (fun iv ov W => ∃ (b : Nat) (B : Option Addr) (c : Nat), iv = .int .i64 b ∧ ov = .slice B (below b P).length c ∧ b ≤ l.length ∧ W.ownsRow w.heap.size 3 1 (.slice B (below b P).length c) (below b P).length (ints (below b P)) ∧ Ext w W) (fun iv _ _ => l.length - (RowKit.intOf iv).toNat)
  case atStart => exact ⟨0, none, 0, rfl, rfl, by omega, World.ownsRow_nil _ _ _ _, Ext.refl w⟩
  case round =>
    obtain ⟨b, B, c, rfl, rfl, hb, hown, hx⟩ := hrel
    have HOW := Lib.hid hown
    have HOL := Lib.hid fun j (hj : (Value.slice B (below b P).length c).ownBlock = some j) => (hown.lt j hj).1
    have hbl := below_length b P
    clear hown
    by_cases hlt : b < l.length
    · have hlti : (b : Int) < l.length := by omega
      have hpp := (HPE.out b).symm
      unfold rowP at hpp
      rw [if_neg (by omega), if_neg (by omega), if_neg (by omega), if_neg (by omega)] at hpp
      (have HC := Lib.hid (HH.out wr hx a b kind (by omega) (by omega) (by omega)); (obtain ⟨p, hp⟩ : ∃ p, nmB l a b kind = p := ⟨_, rfl⟩); rw [hp] at HC hpp; clear hp; cases p; (· have HPP := Lib.hid hpp; clear hpp; go_wp2_with (go_at_call 36; refine HC.out.mono ?_; rintro e w1 ⟨rfl, hx1⟩); go_roundw; (case rel => exact ⟨b + 1, B, c, by go_num, by rw [below_succ, HPP.out, if_neg (by simp), List.append_nil], by omega, by rw [below_succ, HPP.out, if_neg (by simp), List.append_nil]; exact Owns.ext HOW.out hx1, hx.trans hx1⟩); (case measure => simp [RowKit.intOf]; omega)); (· have HPP := Lib.hid hpp; clear hpp; go_wp2_with (first | (go_at_call 36; refine HC.out.mono ?_; rintro e w1 ⟨rfl, hx1⟩) | (refine wpList_append_int rfl (.tmp 53) (.tmp 55) 37 3 rfl Try.underlying37 infoInt w.heap.size (.slice B (below b P).length c) (below b P) rfl ((Owns.ext HOW.out hx1).alloc _) _ 1 b rfl (by go_simp) (by omega) (by have := (hx.trans hx1).size; rw [World.size_alloc]; omega) ?_; intro v' W5 o5 g5 s5; obtain ⟨B5, c5, rfl, _, _⟩ := Owns.rd o5)); go_roundw; (case rel => exact ⟨b + 1, B5, c5, by go_num, by rw [below_succ, if_pos HPP.out, List.length_append]; rfl, by omega, by rw [below_succ, if_pos HPP.out]; exact o5, Grown.toExt ((hx.trans hx1).alloc _) g5 (fun j hj => HOL.out j hj)⟩); (case measure => simp [RowKit.intOf]; omega)))
    · obtain rfl : b = l.length := by omega
      go_wp2_with fail
      go_ret
      exact ⟨B, c, rfl, HOW.out, hx⟩
theorem rrow_calls (l : List NR) (A : Option Addr) (cap : Nat) (a kind : Nat) (w : World) (hr : RdN w A l) (hs : Small l) (ha : a < l.length) (hk : kind < 10) :
    Calls Try.prog 17 #[.slice A l.length cap, .int .i64 a, .int .i64 kind] w fun e w' => ∃ B c, e = .returned (.slice B (below l.length (rowP l a kind)).length c) ∧ w'.ownsRow w.heap.size 3 1 (.slice B (below l.length (rowP l a kind)).length c) (below l.length (rowP l a kind)).length (ints (below l.length (rowP l a kind))) ∧ Ext w w' := by
  rcases (show kind < 6 ∨ kind = 6 ∨ kind = 7 ∨ kind = 8 ∨ kind = 9 by omega) with h | rfl | rfl | rfl | rfl
  · exact rrowD l A cap a kind w hr hs ha h
  · exact rrow6 l A cap a w hr hs ha
  · exact rrow7 l A cap a w hr hs ha
  · exact rrow8 l A cap a w hr hs ha
  · exact rrow9 l A cap a w hr hs ha
end Go.Proofs.Ytdpfppibbnjemaa
