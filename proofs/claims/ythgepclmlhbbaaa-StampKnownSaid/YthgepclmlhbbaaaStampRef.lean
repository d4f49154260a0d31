/- Chapter 16: the document's number and Put. -/
import Derived.Test.YthgepclmlhbbaaaStampPut3
namespace Go.Proofs.Ythgepclmlhbbaaa
open Go.RowKit
set_option linter.unusedVariables false
set_option linter.unusedSimpArgs false

set_option maxRecDepth 100000 in
set_option maxHeartbeats 1000000 in
theorem rnumber16_calls (N : Int) (h0 : 0 ≤ N) (h1 : N < 18446744073709551616) (w : World) :
    Calls Try.prog 18 #[.int .u64 N] w fun e w' => ∃ g cap, e = .returned (.slice (some ⟨g, 0, none⟩) 8 cap) ∧ w.heap.size ≤ g ∧ RdA w' g 0 (nums8 (le8 8 N)) ∧ Ext w w' := by
  obtain ⟨i0, hi, hz0, hz1, hz2⟩ := info_parts info8p
  have HN1 := Lib.hid h1
  have HN0 := Lib.hid h0
  clear h1 h0
  go_enter Try.func18, Try.ntmps18
  go_wp2_with fail
  go_loopw [0, 3, 4] (fun n v i W => ∃ k : Nat, k ≤ 8 ∧ i = .int .i64 k ∧ n = .int .u64 (N / 256 ^ k) ∧ W.ownsRow w.heap.size 5 1 v k (nums8 (le8 k N)) ∧ Ext w W) (fun _ _ i _ => 8 - (intOf i).toNat)
  case atStart => exact ⟨0, by omega, rfl, by simp, World.ownsRow_nil _ _ _ _, Ext.refl _⟩
  case round =>
    obtain ⟨k, hk, rfl, rfl, hown, hx⟩ := hrel
    by_cases hlt : k < 8
    · have hlti : (k : Int) < 8 := by omega
      obtain ⟨M, hM⟩ : ∃ M, N / 256 ^ k = M := ⟨_, rfl⟩
      rw [hM]
      have hp : (0 : Int) < 256 ^ k := Int.pow_pos (by omega)
      have hM0 : 0 ≤ M := by rw [← hM]; exact Int.ediv_nonneg HN0.out (by omega)
      have hM1 : M < 18446744073709551616 := by
        rw [← hM]
        exact Int.lt_of_le_of_lt (Int.ediv_le_self _ HN0.out) HN1.out
      have HM := Lib.hid hM
      clear hM hp
      have hmt : M.tmod 256 = M % 256 := Int.tmod_eq_emod_of_nonneg hM0
      have hdt : M.tdiv 256 = M / 256 := Int.tdiv_eq_ediv_of_nonneg hM0
      have hm : k + 1 ≤ maxLen := by unfold maxLen; omega
      have HL := Lib.hid hm
      clear hm
      have HC : ∀ c : Int, (wr.alloc (.cells #[.int .u8 c] 5)).cell? ⟨wr.heap.size, 0, none⟩ = some (.int .u8 c) := fun c => (Blk.new wr [.int .u8 c] 5).cell 0 rfl
      have HC' := Lib.hid HC
      clear HC
      go_wp2_with (at_builtin; refine wpList_append1 rfl (.tmp 9) (.tmp 13) 23 rfl w.heap.size 5 i0 (.int .u8 0) 1 Try.underlying23 hi hz0 hz1 hz2 rfl _ k (nums8 (le8 k N)) rfl (hown.alloc _) wr.heap.size 1 (.int .u8 (M % 256)) rfl (HC'.out _) rfl HL.out (by omega) (by have := hx.size; simp; omega) ?_; intro v2 W2 hown2 hg2)
      go_roundw
      case rel =>
        refine ⟨k + 1, by omega, by go_num, ?_, ?_, Grown.toExt (hx.alloc _) hg2 (fun j hj => Owns.notNil hown j hj)⟩
        · rw [Int.pow_succ, ← Int.ediv_ediv_of_nonneg (by have : (0 : Int) < 256 ^ k := Int.pow_pos (by omega); omega), HM.out]
        · rw [le8_succ, nums8_append, HM.out]
          exact hown2
      case measure => simp [intOf]; omega
    · obtain rfl : k = 8 := by omega
      go_wp2_with fail
      go_ret
      obtain ⟨g, cap, e1, hg, hc, hr⟩ := (show OwnF wr w.heap.size _ 8 (nums8 (le8 8 N)) from .inl hown).rdG (by omega)
      exact ⟨g, cap, by rw [e1]; rfl, hg, hr, hx⟩

/-- 'append(b, x...)', x of bytes that are read. -/
theorem wpList_appendN {w : World} {ops : Array Oper} {rest : List Oper} {o : Oper} {a : Act} {Q : Exit → Act → World → Prop} (hgd : o.guard = none) (s x : Operand)
    (ho : o.op = .call { callee := .builtin .append, args := #[s, x], argTypes := #[23, 23] })
    (base : Nat) (v : Value) (n : Nat) (xs : List Value) (hs : a.eval s = v) (hown : w.ownsRow base 5 1 v n xs)
    (g m c : Nat) (l : List Int) (hl : l.length = m) (hx : a.eval x = .slice (some ⟨g, 0, none⟩) m c) (hc : RdA w g 0 (nums8 l))
    (h63 : n + m ≤ maxLen) (hbytes : (n + m) * 1 ≤ 140737488355328) (hbase : base ≤ w.heap.size)
    (h : ∀ v' w', w'.ownsRow base 5 1 v' (n + m) (xs ++ nums8 l) → w.grownBy w' v.ownBlock → wpList Try.prog ops Q rest (a.put o.dst v') w') : wpList Try.prog ops Q (o :: rest) a w := by
  obtain ⟨i0, hi, hz0, hz1, hz2⟩ := info_parts info8p
  refine wpList_append_own w hgd s x _ ho base 5 i0 (.int .u8 0) 1 1 Try.underlying23 hi hz0 hz1 hz2 rfl (by decide) v n xs hs hown ⟨g, 0, none⟩ m c (nums8 l) hx (by rw [nums8_length, hl]; omega) ?_ ?_ h63 hbytes hbase (fun v' w' h2 h3 _ => h v' w' h2 h3)
  · intro j u hj
    have : (⟨g, 0, none⟩ : Addr).add j = ⟨g, j, none⟩ := by unfold Addr.add; split <;> simp_all
    rw [this]
    have := hc j u hj
    rwa [Nat.zero_add] at this
  · intro u hu
    exact List.all_eq_true.1 (nums8_one l) u hu

theorem bytesOf_at (t : ByteArray) (i : Nat) (h : i < t.size) : (bytesOf t)[i]? = some (((t[i]'h).toNat : Nat) : Int) := by
  unfold bytesOf
  rw [List.getElem?_map, List.getElem?_eq_getElem (by simpa using h)]
  rfl
set_option maxHeartbeats 1000000 in
theorem rput_no (s : ByteArray) (hs : s.size ≤ 1000000) (u : Int) (h : okSt s u = false) (w : World) :
    Calls Try.prog 10 #[.string s, .int .i64 u] w fun e w' => e = .returned (.tuple #[.slice none 0 0, .bool false]) ∧ Ext w w' := by
  have HA := Lib.hid fun W => rright_calls s hs W
  unfold okSt at h
  obtain ⟨b, hb⟩ : ∃ b, okNm s = b := ⟨_, rfl⟩
  rw [hb] at HA h
  clear hb
  cases b
  · clear h
    go_enter Try.func10, Try.ntmps10
    go_wp2_with fail
    refine (HA.out _).mono ?_
    rintro e W1 ⟨rfl, x1⟩
    go_wp2_with fail
    go_ret2
    exact ⟨rfl, x1⟩
  · by_cases h0 : u < 0
    · clear h
      go_enter Try.func10, Try.ntmps10
      go_wp2_with fail
      refine (HA.out _).mono ?_
      rintro e W1 ⟨rfl, x1⟩
      go_wp2_with fail
      go_ret2
      exact ⟨rfl, x1⟩
    · have h1 : ¬ u < 7258118400000000 := by
        intro h1
        rw [decide_eq_true (by omega : 0 ≤ u), decide_eq_true h1] at h
        cases h
      have h2 : 7258118400000000 ≤ u := by omega
      clear h
      go_enter Try.func10, Try.ntmps10
      go_wp2_with fail
      refine (HA.out _).mono ?_
      rintro e W1 ⟨rfl, x1⟩
      go_wp2_with fail
      go_ret2
      exact ⟨rfl, x1⟩

def headK (i : Nat) : List Int := stampKey.take i ++ List.replicate (16 - i) 0
theorem headK_set (i : Nat) (hi : i < 16) (c : Int) (hc : stampKey[i]? = some c) : (headK i).set i c = headK (i + 1) := by
  have hk : stampKey.length = 16 := rfl
  unfold headK
  obtain ⟨m, hm⟩ : ∃ m, 16 - i = m + 1 := ⟨15 - i, by omega⟩
  rw [List.set_append_right i _ (by rw [List.length_take]; omega), List.length_take, hk, Nat.min_eq_left (by omega), Nat.sub_self, hm, show 16 - (i + 1) = m by omega, List.take_add_one, hc]
  simp [List.replicate_succ]
theorem rsumK (msg : List Int) (hmb : Bytes msg) (n : Nat) (hn : msg.length = n) (A : Option Addr) (cap : Nat) (w : World) (hr : RdV w A (nums8 msg)) (hlen : n ≤ 4611686018427387904) (hcap : n ≤ cap) :
    Calls Try.prog 19 #[.agg (nums8 stampKey).toArray, .slice A n cap] w fun e w' => e = .returned (.int .u64 (sipSum stampKey msg)) ∧ Ext w w' := by
  subst hn
  exact rsum_calls stampKey rfl stampKey_bytes msg hmb A cap w hr hlen hcap

set_option maxRecDepth 100000 in
set_option maxHeartbeats 1000000 in
theorem rput_yes (s : ByteArray) (hs : s.size ≤ 1000000) (u : Int) (h : okSt s u = true) (w : World) :
    Calls Try.prog 10 #[.string s, .int .i64 u] w (GotSt s u (.bool true) w) := by
  have HA := Lib.hid fun W => rright_calls s hs W
  unfold okSt at h
  simp only [Bool.and_eq_true, decide_eq_true_eq] at h
  obtain ⟨⟨h1, h0⟩, h2⟩ := h
  rw [h1] at HA
  clear h1
  have h0' : ¬ u < 0 := by omega
  have h2' : ¬ 7258118400000000 ≤ u := by omega
  go_enter Try.func10, Try.ntmps10
  go_wp2_with fail
  refine (HA.out _).mono ?_
  rintro e W1 ⟨rfl, x1⟩
  clear HA
  go_wp2_with fail
  obtain ⟨G, hG⟩ : ∃ G, W1.heap.size = G := ⟨_, rfl⟩
  have hGw : w.heap.size ≤ G := by rw [← hG]; exact x1.size
  have hb0 : Blk (W1.alloc (.cells (nums8 (headK 0)).toArray 44)) W1.heap.size (nums8 (headK 0)) 44 := Blk.new _ _ _
  refine wp_gen (fun W => Blk W W1.heap.size (nums8 (headK 0)) 44 ∧ Ext w W) ⟨hb0, x1.alloc _⟩ ?_
  clear hb0 x1
  rw [hG]
  clear hG
  rintro W2 ⟨hb, hx⟩
  go_loopw [8] (fun i W => ∃ k : Nat, k ≤ 16 ∧ i = .int .i64 k ∧ Blk W G (nums8 (headK k)) 44 ∧ Ext w W) (fun i _ => 16 - (intOf i).toNat)
  case atStart => exact ⟨0, by omega, rfl, hb, hx⟩
  case round =>
    clear hb hx
    obtain ⟨k, hk, rfl, hb, hx⟩ := hrel
    by_cases hlt : k < 16
    · have hki : (k : Int) < 16 := by omega
      obtain ⟨c, hc⟩ : ∃ c, stampKey[k]? = some c := ⟨_, List.getElem?_eq_getElem (show k < stampKey.length from hlt)⟩
      obtain ⟨y, hy⟩ : ∃ y, (headK k)[k]? = some y := by
        have hl : k < (headK k).length := by simp [headK, stampKey]; omega
        exact ⟨_, List.getElem?_eq_getElem hl⟩
      have c0 := hb.cell k (nums8_get hy)
      have f0 := hb.frozen k
      have hz : k < (⟨#[99, 108, 101, 112, 115, 121, 100, 114, 97, 32, 115, 116, 97, 109, 112, 115]⟩ : ByteArray).size := hlt
      have hcT : ((((⟨#[99, 108, 101, 112, 115, 121, 100, 114, 97, 32, 115, 116, 97, 109, 112, 115]⟩ : ByteArray)[k]'hz).toNat : Nat) : Int) = c := by
        have h1 : (bytesOf ⟨#[99, 108, 101, 112, 115, 121, 100, 114, 97, 32, 115, 116, 97, 109, 112, 115]⟩) = stampKey := by decide
        have h2 := bytesOf_at _ k hz
        rw [h1, hc] at h2
        exact (Option.some.inj h2).symm
      have Hc := Lib.hid hc
      clear hc hy
      go_wp2_with fail
      go_roundw
      case rel => exact ⟨k + 1, by omega, by go_num, (hb.set k _).congr (by rw [nums8_set, headK_set k hlt c Hc.out]), hx.setCell hGw _⟩
      case measure => simp [intOf]; omega
    · obtain rfl : k = 16 := by omega
      go_upto_region 10 with (fail)
      have hgw : G + 1 ≤ wr.heap.size := hb.lt
      have hown : (wr.alloc (.cells (nums8 magicL).toArray 5)).ownsRow (G + 1) 5 1 (.slice (some ⟨wr.heap.size, 0, none⟩) 8 8) 8 (nums8 magicL) :=
        ⟨rfl, .inr ⟨wr.heap.size, 8, _, rfl, hgw, heap_alloc_new wr _, Nat.le_refl _, by unfold maxLen; omega, rfl, rfl⟩⟩
      refine wp_gen (fun W => W.ownsRow (G + 1) 5 1 (.slice (some ⟨wr.heap.size, 0, none⟩) 8 8) 8 (nums8 magicL) ∧ Blk W G (nums8 stampKey) 44 ∧ Ext w W) ⟨hown, (hb.alloc _).congr (by simp [headK, stampKey]), hx.alloc _⟩ ?_
      obtain ⟨g0, hg0⟩ : ∃ g, wr.heap.size = g := ⟨_, rfl⟩
      rw [hg0]
      clear hown hb hx hgw hg0
      rintro W3 ⟨hown, hb, hx⟩
      have K1 := Lib.hid fun A cap W hr hc => rsumK (bytesOf s) (bytesOf_bytes s) s.size (bytesOf_length s) A cap W hr (by omega) hc
      have HR := Lib.hid (sipSum_range stampKey (bytesOf s))
      obtain ⟨N1, hN1⟩ : ∃ N, sipSum stampKey (bytesOf s) = N := ⟨_, rfl⟩
      rw [hN1] at K1 HR
      have HM1 := Lib.hid (show 8 + 8 ≤ maxLen by unfold maxLen; omega)
      have HM2 := Lib.hid (show 16 + 8 ≤ maxLen by unfold maxLen; omega)
      have HM3 := Lib.hid (show 24 + 8 ≤ maxLen by unfold maxLen; omega)
      go_wp2_with (first | (refine wpList_load_blk rfl 44 (.tmp 6) rfl G rfl (cs := nums8 stampKey) row16 hb ?_) | (refine wpList_bytes rfl (.tmp 33) 9 23 5 s rfl rfl Try.underlying9 Try.underlying23 Try.underlying5 ?_; intro cap1 W4 hcap1 x4 hr4))
      refine (K1.out _ _ _ (.inr ⟨_, 0, rfl, hr4⟩) hcap1).mono ?_
      rintro e W5 ⟨rfl, x5⟩
      have x35 := x4.trans x5
      clear hr4 x4 x5 K1
      go_wp2_with fail
      refine (rnumber16_calls N1 HR.out.1 HR.out.2 _).mono ?_
      rintro e W6 ⟨g1, c1, rfl, hg1, hr1, x6⟩
      have x36 := x35.trans x6
      replace hown := Owns.ext hown x36
      replace hb := hb.ext x36
      replace hx := hx.trans x36
      clear x35 x6 x36 HR hg1
      go_upto_region 11 with (at_builtin; refine wpList_appendN rfl (.tmp 31) (.tmp 36) rfl (G + 1) _ 8 (nums8 magicL) rfl hown g1 8 c1 (le8 8 N1) (le8_length _ _) rfl hr1 HM1.out (by omega) hb.lt ?_; intro v7 W7 hown7 hg7)
      have hb7 := Grown.blk hg7 hb (fun e => by have := Owns.notNil hown _ e.symm; omega)
      have hx7 := Grown.toExt hx hg7 (fun j hj => by have := Owns.notNil hown _ hj; omega)
      rw [← nums8_append] at hown7
      clear hown hb hx hg7 hr1
      obtain ⟨A7, p7, rfl, _, _, _⟩ := Owns.shape hown7
      have hNu : IntKind.u64.wrap u = u := by simp [IntKind.wrap, IntKind.signed, IntKind.bits]; omega
      go_wp2_with fail
      refine (rnumber16_calls u (by omega) (by omega) _).mono ?_
      rintro e W8 ⟨g2, c2, rfl, hg2, hr2, x8⟩
      replace hown7 := Owns.ext hown7 x8
      replace hb7 := hb7.ext x8
      replace hx7 := hx7.trans x8
      clear x8 hg2
      go_upto_region 12 with (at_builtin; refine wpList_appendN rfl (.tmp 38) (.tmp 41) rfl (G + 1) _ 16 (nums8 (magicL ++ le8 8 N1)) rfl hown7 g2 8 c2 (le8 8 u) (le8_length _ _) rfl hr2 HM2.out (by omega) hb7.lt ?_; intro v9 W9 hown9 hg9)
      have hb9 := Grown.blk hg9 hb7 (fun e => by have := Owns.notNil hown7 _ e.symm; omega)
      have hx9 := Grown.toExt hx7 hg9 (fun j hj => by have := Owns.notNil hown7 _ hj; omega)
      rw [← nums8_append, show magicL ++ le8 8 N1 ++ le8 8 u = stHead s u by rw [← hN1]; rfl] at hown9
      clear hown7 hb7 hx7 hg9 hr2 hN1
      obtain ⟨A9, p9, rfl, hc9, hl9, hr9⟩ := (show OwnF W9 (G + 1) _ 24 (nums8 (stHead s u)) from .inl hown9).rd
      have K2 := Lib.hid (rsumK (stHead s u) (fun c hc => stampOf_bytes s u c (List.mem_append_left _ hc)) 24 (stHead_length s u) A9 p9 W9 hr9 (by omega) hc9)
      have HR2 := Lib.hid (sipSum_range stampKey (stHead s u))
      have hst2 : Hid (stHead s u ++ le8 8 (sipSum stampKey (stHead s u)) = stampOf s u) := Lib.hid rfl
      obtain ⟨N2, hN2⟩ : ∃ N, sipSum stampKey (stHead s u) = N := ⟨_, rfl⟩
      rw [hN2] at K2 HR2 hst2
      clear hN2 hr9 hl9 hc9
      go_wp2_with (refine wpList_load_blk rfl 44 (.tmp 6) rfl G rfl (cs := nums8 stampKey) row16 hb9 ?_)
      refine K2.out.mono ?_
      rintro e W10 ⟨rfl, x10⟩
      go_wp2_with fail
      refine (rnumber16_calls N2 HR2.out.1 HR2.out.2 _).mono ?_
      rintro e W11 ⟨g3, c3, rfl, hg3, hr3, x11⟩
      have x := x10.trans x11
      replace hown9 := Owns.ext hown9 x
      replace hb9 := hb9.ext x
      replace hx9 := hx9.trans x
      clear x10 x11 x hg3
      go_wp2_with (at_builtin; refine wpList_appendN rfl (.tmp 43) (.tmp 47) rfl (G + 1) _ 24 (nums8 (stHead s u)) rfl hown9 g3 8 c3 (le8 8 N2) (le8_length _ _) rfl hr3 HM3.out (by omega) hb9.lt ?_; intro v12 W12 hown12 hg12)
      have hx12 := Grown.toExt hx9 hg12 (fun j hj => by have := Owns.notNil hown9 _ hj; omega)
      rw [← nums8_append, hst2.out] at hown12
      obtain ⟨g, cap, rfl, hg, hcap, hrd⟩ := (show OwnF W12 (G + 1) _ 32 (nums8 (stampOf s u)) from .inl hown12).rdG (by omega)
      clear hown12 hown9 hb9 hr3
      go_ret2
      exact ⟨g, cap, rfl, by omega, hcap, hrd, hx12⟩
end Go.Proofs.Ythgepclmlhbbaaa
