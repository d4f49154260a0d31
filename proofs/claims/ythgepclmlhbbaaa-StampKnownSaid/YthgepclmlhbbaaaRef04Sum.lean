/- The contract of the reference's Sum of chapter 4. -/
import Derived.Test.YthgepclmlhbbaaaRef04
import Derived.Lib.Hide
import Derived.Lib.ConvBytes
namespace Go.Proofs.Ythgepclmlhbbaaa
open Go.RowKit
set_option linter.unusedVariables false
set_option linter.unusedSimpArgs false

theorem feed_append (s : V4 × List Int) (m m' : List Int) : feed s (m ++ m') = feed (feed s m) m' := by simp [feed]
theorem feed_short (v : V4) (m : List Int) : ∀ (buf : List Int), buf.length + m.length < 8 → feed (v, buf) m = (v, buf ++ m) := by
  induction m with
  | nil => intro buf _; simp [feed]
  | cons c m ih =>
    intro buf h
    simp only [List.length_cons] at h
    show feed (feed1 (v, buf) c) m = _
    unfold feed1
    rw [if_neg (show ¬ buf.length = 7 by omega), ih _ (by simp; omega)]
    simp

theorem feed8 (v : V4) (c0 c1 c2 c3 c4 c5 c6 c7 : Int) : feed (v, []) [c0, c1, c2, c3, c4, c5, c6, c7] = (eatsV v (orNum c0 c1 c2 c3 c4 c5 c6 c7), []) := by
  rw [show [c0, c1, c2, c3, c4, c5, c6, c7] = [c0, c1, c2, c3, c4, c5, c6] ++ [c7] from rfl, feed_snoc, feed_short v [c0, c1, c2, c3, c4, c5, c6] [] (by simp)]
  unfold feed1
  rw [if_pos (by rfl)]
  simp only [List.nil_append, List.cons_append, num8]

theorem eight_at (msg : List Int) (i : Nat) (h : i + 8 ≤ msg.length) : ∃ c0 c1 c2 c3 c4 c5 c6 c7, msg.take (i + 8) = msg.take i ++ [c0, c1, c2, c3, c4, c5, c6, c7] ∧ msg[i]? = some c0 ∧ msg[i + 1]? = some c1 ∧ msg[i + 2]? = some c2 ∧ msg[i + 3]? = some c3 ∧ msg[i + 4]? = some c4 ∧ msg[i + 5]? = some c5 ∧ msg[i + 6]? = some c6 ∧ msg[i + 7]? = some c7 := by
  obtain ⟨c0, c1, c2, c3, c4, c5, c6, c7, e⟩ := list8 ((msg.drop i).take 8) (by simp; omega)
  have ht : msg.take (i + 8) = msg.take i ++ [c0, c1, c2, c3, c4, c5, c6, c7] := by rw [← e, List.take_add]
  have g : ∀ j, j < 8 → msg[i + j]? = ([c0, c1, c2, c3, c4, c5, c6, c7] : List Int)[j]? := fun j hj => by
    rw [← e, List.getElem?_take, if_pos hj, List.getElem?_drop]
  exact ⟨c0, c1, c2, c3, c4, c5, c6, c7, ht, g 0 (by omega), g 1 (by omega), g 2 (by omega), g 3 (by omega), g 4 (by omega), g 5 (by omega), g 6 (by omega), g 7 (by omega)⟩

theorem fill_get (rest : List Int) (j : Nat) (hj : j < rest.length) (h8 : rest.length < 8) : (rest.take j ++ List.replicate (8 - j) 0)[j]? = some 0 := by
  have hl : (rest.take j).length = j := by simp; omega
  rw [List.getElem?_append_right (by omega), hl, Nat.sub_self]
  obtain ⟨m, hm⟩ : ∃ m, 8 - j = m + 1 := ⟨7 - j, by omega⟩
  rw [hm]
  rfl
theorem fill_set (rest : List Int) (j : Nat) (c : Int) (hc : rest[j]? = some c) (h8 : rest.length < 8) : (rest.take j ++ List.replicate (8 - j) 0).set j c = rest.take (j + 1) ++ List.replicate (8 - (j + 1)) 0 := by
  have hj : j < rest.length := (List.getElem?_eq_some_iff.1 hc).1
  have hl : (rest.take j).length = j := by simp; omega
  rw [List.set_append_right j _ (by omega), hl, Nat.sub_self]
  obtain ⟨m, hm⟩ : ∃ m, 8 - j = m + 1 := ⟨7 - j, by omega⟩
  rw [hm, show 8 - (j + 1) = m by omega, List.take_add_one, hc]
  simp [List.replicate_succ]
theorem nums8_set (l : List Int) (i : Nat) (c : Int) : (nums8 l).set i (.int .u8 c) = nums8 (l.set i c) := by simp [nums8]

theorem fill_last (rest : List Int) (h8 : rest.length < 8) {q0 q1 q2 q3 q4 q5 q6 q7 : Int} (h : rest ++ List.replicate (8 - rest.length) 0 = [q0, q1, q2, q3, q4, q5, q6, q7]) (c : Int) :
    rest ++ List.replicate (7 - rest.length) 0 ++ [c] = [q0, q1, q2, q3, q4, q5, q6, c] := by
  obtain ⟨m, hm⟩ : ∃ m, 7 - rest.length = m := ⟨_, rfl⟩
  rw [show 8 - rest.length = m + 1 by omega, List.replicate_succ', ← List.append_assoc] at h
  rw [hm]
  have := (List.append_inj' (show (rest ++ List.replicate m 0) ++ [0] = [q0, q1, q2, q3, q4, q5, q6] ++ [q7] from h) rfl).1
  rw [this]
  rfl

set_option maxRecDepth 100000 in
set_option maxHeartbeats 4000000 in
theorem rsum_calls (ks : List Int) (hk : ks.length = 16) (hkb : Bytes ks) (msg : List Int) (hmb : Bytes msg) (A : Option Addr) (cap : Nat) (w : World) (hr : RdV w A (nums8 msg)) (hlen : msg.length ≤ 4611686018427387904) (hcap : msg.length ≤ cap) :
    Calls Try.prog 19 #[.agg (nums8 ks).toArray, .slice A msg.length cap] w fun e w' => e = .returned (.int .u64 (sipSum ks msg)) ∧ Ext w w' := by
  have hk1 : (ks.take 8).length = 8 := by simp [hk]
  have hk2 : (ks.drop 8).length = 8 := by simp [hk]
  have hkb1 : Bytes (ks.take 8) := fun c h => hkb c (List.mem_of_mem_take h)
  have hkb2 : Bytes (ks.drop 8) := fun c h => hkb c (List.mem_of_mem_drop h)
  obtain ⟨n1, hn1⟩ : ∃ n, num8 (ks.take 8) = n := ⟨_, rfl⟩
  obtain ⟨n2, hn2⟩ : ∃ n, num8 (ks.drop 8) = n := ⟨_, rfl⟩
  have HS : Hid (initV ks = ⟨xor64 n1 8317987319222330741, xor64 n2 7237128888997146477, xor64 n1 7816392313619706465, xor64 n2 8387220255154660723⟩) := by
    show _ = _
    unfold initV
    rw [hn1, hn2]
  have C1 : ∀ (g cap : Nat) (W : World), RdA W g 0 (nums8 ks) → Calls Try.prog 26 #[.slice (some ⟨g, 0, none⟩) 8 cap] W fun e w' => e = .returned (.int .u64 n1) ∧ Ext W w' := fun g cap W h => by
    rw [← hn1]
    refine rnum _ hk1 hkb1 g 0 cap W ?_
    have := h.sub 0 8
    rw [List.drop_zero] at this
    unfold nums8 at *
    rw [List.map_take]
    exact this
  have C2 : ∀ (g cap : Nat) (W : World), RdA W g 0 (nums8 ks) → Calls Try.prog 26 #[.slice (some ⟨g, 8, none⟩) 8 cap] W fun e w' => e = .returned (.int .u64 n2) ∧ Ext W w' := fun g cap W h => by
    rw [← hn2]
    refine rnum _ hk2 hkb2 g 8 cap W ?_
    have := h.sub 8 8
    rw [Nat.zero_add, List.take_of_length_le (by simp [nums8, hk])] at this
    unfold nums8 at *
    rw [List.map_drop]
    exact this
  have D1 := Lib.hid C1
  have D2 := Lib.hid C2
  have hnew : Blk (w.alloc (.cells (nums8 ks).toArray 44)) w.heap.size (nums8 ks) 44 := Blk.new _ _ _
  have hread : ∀ W', Ext (w.alloc (.cells (nums8 ks).toArray 44)) W' → RdA W' w.heap.size 0 (nums8 ks) := fun W' h j u e => by rw [Nat.zero_add]; exact (hnew.ext h).cell j e
  have Hread := Lib.hid hread
  obtain ⟨k0, k1, k2, k3, k4, k5, k6, k7, k8, k9, k10, k11, k12, k13, k14, k15, rfl⟩ := vals16 ks hk
  clear C1 C2 hk hk1 hk2 hkb hkb1 hkb2 hn1 hn2 hnew hread
  simp only [nums8, List.map_cons, List.map_nil] at *
  go_enter Try.func19, Try.ntmps19
  go_wp2
  refine wp_gen (fun W => Ext w W ∧ w.heap.size < W.heap.size ∧ Hid (∀ W', Ext W W' → RdA W' w.heap.size 0 _)) ⟨(Ext.refl _).alloc _, by simp, Hread⟩ ?_
  clear Hread
  rintro W ⟨hx0, hW, Hread⟩
  refine wp_region_ext (by kernel_rfl) (by kernel_rfl) ?_
  (apply quiet_onep; (case hw => rfl); (case h1 => intro W' hx; go_simp; (try go_bits); with_reducible rfl); (case hp => go_simp; first | done | with_reducible rfl))
  (apply quiet_onep; (case hw => rfl); (case h1 => intro W' hx; go_simp; go_at_call 26; refine ((D1.out _ _ _ (Hread.out _ hx))).mono ?_; rintro e w'' ⟨rfl, hx2⟩; exact ⟨rfl, hx.trans hx2⟩); (case hp => go_simp; first | done | with_reducible rfl))
  (apply quiet_onep; (case hw => rfl); (case h1 => intro W' hx; go_simp; (try go_bits); with_reducible rfl); (case hp => go_simp; first | done | with_reducible rfl))
  (apply quiet_onep; (case hw => rfl); (case h1 => intro W' hx; go_simp; go_at_call 26; refine ((D2.out _ _ _ (Hread.out _ hx))).mono ?_; rintro e w'' ⟨rfl, hx2⟩; exact ⟨rfl, hx.trans hx2⟩); (case hp => go_simp; first | done | with_reducible rfl))
  iterate 2 (apply quiet_onep; (case hw => rfl); (case h1 => intro W' hx; go_simp; (try go_bits); with_reducible rfl); (case hp => go_simp; first | done | with_reducible rfl))
  refine wpQuiet_nil ?_
  intro W1 hx1
  clear D1 D2 Hread
  replace hx0 := hx0.trans hx1
  replace hW : w.heap.size < W1.heap.size := by have := hx1.size; omega
  clear hx1
  go_upto_region 3 with (fail)
  refine wp_gen (fun W => Ext w W ∧ Blk W W1.heap.size (⟨xor64 n1 8317987319222330741, xor64 n2 7237128888997146477, xor64 n1 7816392313619706465, xor64 n2 8387220255154660723⟩ : V4).vals 56) ⟨hx0.alloc _, (Blk.new W1 _ _).congr rfl⟩ ?_
  have hBw : w.heap.size ≤ W1.heap.size := by omega
  clear hx0 hW
  obtain ⟨v0, hv0⟩ : ∃ v : V4, (⟨xor64 n1 8317987319222330741, xor64 n2 7237128888997146477, xor64 n1 7816392313619706465, xor64 n2 8387220255154660723⟩ : V4) = v := ⟨_, rfl⟩
  rw [hv0]
  have HV0 : Hid _ := hv0
  clear hv0
  generalize W1.heap.size = B at *
  rintro W ⟨hx0, hb0⟩
  go_wp2
  go_loopw [8] (fun i W => ∃ (k : Nat) (v : V4), k % 8 = 0 ∧ k ≤ msg.length ∧ i = .int .i64 k ∧ Hid (feed (v0, []) (msg.take k) = (v, [])) ∧ Blk W B v.vals 56 ∧ Ext w W) (fun i _ => msg.length - (intOf i).toNat)
  case atStart => exact ⟨0, v0, rfl, by omega, rfl, rfl, hb0, hx0⟩
  case round =>
    obtain ⟨k, v, hk8, hk, rfl, Hf, hb, hx⟩ := hrel
    have Hk8 : Hid (k % 8 = 0) := hk8
    clear hb0 hx0 hk8
    have Hr : RdV wr A (nums8 msg) := hr.ext hx
    obtain ⟨va, vb, vc, vd⟩ := v
    by_cases hlt : k + 8 ≤ msg.length
    · obtain ⟨c0, c1, c2, c3, c4, c5, c6, c7, ht, g0, g1, g2, g3, g4, g5, g6, g7⟩ := eight_at msg k hlt
      obtain ⟨b, o, rfl, hread⟩ : ∃ b o, A = some ⟨b, o, none⟩ ∧ RdA wr b (o + k) (nums8 [c0, c1, c2, c3, c4, c5, c6, c7]) := by
        rcases Hr with h | ⟨b, o, rfl, h⟩
        · rw [show msg = [] by simpa [nums8] using h] at hlt
          simp at hlt
        · refine ⟨b, o, rfl, fun j u e => ?_⟩
          rw [Nat.add_assoc]
          match j, e with
          | 0, e => cases e; exact h _ _ (nums8_get g0)
          | 1, e => cases e; exact h _ _ (nums8_get g1)
          | 2, e => cases e; exact h _ _ (nums8_get g2)
          | 3, e => cases e; exact h _ _ (nums8_get g3)
          | 4, e => cases e; exact h _ _ (nums8_get g4)
          | 5, e => cases e; exact h _ _ (nums8_get g5)
          | 6, e => cases e; exact h _ _ (nums8_get g6)
          | 7, e => cases e; exact h _ _ (nums8_get g7)
      have hb8 : Bytes [c0, c1, c2, c3, c4, c5, c6, c7] := fun c h => by
        simp only [List.mem_cons, List.not_mem_nil, or_false] at h
        rcases h with rfl | rfl | rfl | rfl | rfl | rfl | rfl | rfl
        · exact hmb.at_ g0
        · exact hmb.at_ g1
        · exact hmb.at_ g2
        · exact hmb.at_ g3
        · exact hmb.at_ g4
        · exact hmb.at_ g5
        · exact hmb.at_ g6
        · exact hmb.at_ g7
      have HT := Lib.hid ht
      have HM : Hid (Bytes msg) := hmb
      have hnum : ∀ (cap : Nat) (W' : World), Ext wr W' → Calls Try.prog 26 #[.slice (some ⟨b, o + k, none⟩) 8 cap] W' fun e w' => e = .returned (.int .u64 (orNum c0 c1 c2 c3 c4 c5 c6 c7)) ∧ Ext W' w' := fun cap W' h => rnum [c0, c1, c2, c3, c4, c5, c6, c7] rfl hb8 b (o + k) cap W' (hread.ext h)
      have D := Lib.hid hnum
      clear g0 g1 g2 g3 g4 g5 g6 g7 hread Hr hr hb8 ht hnum hmb
      have e0 : ∀ W', Ext wr W' → W'.cell? ⟨B, 0, none⟩ = some (.int .u64 va) := fun W' h => (hb.ext h).cell 0 rfl
      have e1 : ∀ W', Ext wr W' → W'.cell? ⟨B, 1, none⟩ = some (.int .u64 vb) := fun W' h => (hb.ext h).cell 1 rfl
      have e2 : ∀ W', Ext wr W' → W'.cell? ⟨B, 2, none⟩ = some (.int .u64 vc) := fun W' h => (hb.ext h).cell 2 rfl
      have e3 : ∀ W', Ext wr W' → W'.cell? ⟨B, 3, none⟩ = some (.int .u64 vd) := fun W' h => (hb.ext h).cell 3 rfl
      have hI0 : 0 ≤ (k : Int) + 8 := by omega
      have hI1 : (k : Int) + 8 ≤ cap := by omega
      have hT : ((k : Int) + 8).toNat = k + 8 := by omega
      have hne : ¬ cap = k := by omega
      go_wp2
      refine wp_region_ext_tail 8 (by kernel_rfl) (by kernel_rfl) ?_; simp only [List.take_succ_cons, List.take_zero, List.drop_succ_cons, List.drop_zero]
      iterate 6 (apply quiet_onep; (case hw => rfl); (case h1 => intro W' hx; go_simp; (try go_bits); with_reducible rfl); (case hp => go_simp; first | done | with_reducible rfl))
      (apply quiet_onep; (case hw => rfl); (case h1 => intro W' hx; go_simp; go_at_call 26; refine ((D.out _ _ hx)).mono ?_; rintro e w'' ⟨rfl, hx2⟩; exact ⟨rfl, hx.trans hx2⟩); (case hp => go_simp; first | done | with_reducible rfl))
      (apply quiet_onep; (case hw => rfl); (case h1 => intro W' hx; go_simp; go_at_call 27; refine ((reats_calls _ _ _ _ _ _)).mono ?_; rintro e w'' ⟨rfl, hx2⟩; exact ⟨rfl, hx.trans hx2⟩); (case hp => go_simp; first | done | with_reducible rfl))
      refine wpQuiet_nil ?_
      intro W2 hx2
      have d0 := e0 W2 hx2
      have d1 := e1 W2 hx2
      have d2 := e2 W2 hx2
      have d3 := e3 W2 hx2
      have f0 := (hb.ext hx2).frozen 0
      have f1 := (hb.ext hx2).frozen 1
      have f2 := (hb.ext hx2).frozen 2
      have f3 := (hb.ext hx2).frozen 3
      clear e0 e1 e2 e3
      go_wp2
      go_roundw
      case rel =>
        refine ⟨k + 8, eatsV ⟨va, vb, vc, vd⟩ (orNum c0 c1 c2 c3 c4 c5 c6 c7), ?_, by omega, by go_num, ?_, ?_, ?_⟩
        · have := Hk8.out; omega
        · show _ = _
          rw [HT.out, feed_append, Hf.out, feed8]
        · exact ((hb.ext hx2) |>.set 0 _ |>.set 1 _ |>.set 2 _ |>.set 3 _).congr rfl
        · exact (hx.trans hx2) |>.setCell (by simpa using hBw) _ |>.setCell (by simpa using hBw) _ |>.setCell (by simpa using hBw) _ |>.setCell (by simpa using hBw) _
      case measure => simp [intOf]; omega
    · have hmk : ∀ W, (Instr.makeSlice 23 (.int .i64 8) (.int .i64 8)).run Try.prog W = .ok (.slice (some ⟨W.heap.size, 0, none⟩) 8 8) (W.alloc (.cells #[.int .u8 0, .int .u8 0, .int .u8 0, .int .u8 0, .int .u8 0, .int .u8 0, .int .u8 0, .int .u8 0] 5)) := fun _ => by kernel_rfl
      obtain ⟨rest, hrest⟩ : ∃ rest, msg.drop k = rest := ⟨_, rfl⟩
      have hrl : rest.length + k = msg.length := by rw [← hrest]; simp; omega
      have hrd : RdV wr A (nums8 msg) := Hr
      have HF2 : Hid (feed (v0, []) msg = (⟨va, vb, vc, vd⟩, rest)) := by
        show _ = _
        rw [← List.take_append_drop k msg, feed_append, Hf.out, hrest, feed_short _ _ _ (by simp; omega)]
        rfl
      have HR2 : Hid (msg.drop k = rest) := hrest
      have HRb : Hid (Bytes rest) := fun c h => hmb c (by rw [← hrest] at h; exact List.mem_of_mem_drop h)
      clear hrest hmb Hr
      go_upto_region 7 with (fail)
      have hbm := (hb.alloc (.cells #[.int .u8 0, .int .u8 0, .int .u8 0, .int .u8 0, .int .u8 0, .int .u8 0, .int .u8 0, .int .u8 0] 5))
      have hlm := Blk.new wr [.int .u8 0, .int .u8 0, .int .u8 0, .int .u8 0, .int .u8 0, .int .u8 0, .int .u8 0, .int .u8 0] 5
      have hxm := hx.alloc (.cells #[.int .u8 0, .int .u8 0, .int .u8 0, .int .u8 0, .int .u8 0, .int .u8 0, .int .u8 0, .int .u8 0] 5)
      have hL : B < wr.heap.size := hb.lt
      go_upto_region 8 with (fail)
      refine wp_gen (fun W => Blk W B (⟨va, vb, vc, vd⟩ : V4).vals 56 ∧ Blk W wr.heap.size (nums8 (rest.take 0 ++ List.replicate (8 - 0) 0)) 5 ∧ Ext w W) ⟨hbm, hlm.congr rfl, hxm⟩ ?_
      clear hbm hlm hxm hmk
      rintro W2 ⟨hb, hl, hx⟩
      have Hr2 : RdV W2 A (nums8 msg) := hr.ext hx
      generalize wr.heap.size = L at *
      have HrL := hrl
      clear hrl hrd
      go_wp2
      go_loopw [10] (fun i W => ∃ (j : Nat), j ≤ rest.length ∧ i = .int .i64 j ∧ Blk W B (⟨va, vb, vc, vd⟩ : V4).vals 56 ∧ Blk W L (nums8 (rest.take j ++ List.replicate (8 - j) 0)) 5 ∧ Ext w W) (fun i _ => rest.length - (intOf i).toNat)
      case atStart => exact ⟨0, by omega, rfl, hb, hl, hx⟩
      case round =>
        clear hb hl hx Hr2
        obtain ⟨j, hj, rfl, hb, hl, hx⟩ := hrel
        have Hr2 := hr.ext hx
        by_cases hlt2 : k + j < msg.length
        · have hjr : j < rest.length := by omega
          obtain ⟨c, hc⟩ : ∃ c, rest[j]? = some c := ⟨rest[j], by simp [hjr]⟩
          have hcm : msg[k + j]? = some c := by rw [← HR2.out, List.getElem?_drop] at hc; exact hc
          obtain ⟨b, o, rfl, hcell⟩ := Hr2.at_ (k + j) (.int .u8 c) (nums8_get hcm)
          have hz : (nums8 (rest.take j ++ List.replicate (8 - j) 0))[j]? = some (.int .u8 0) := nums8_get (fill_get rest j hjr (by omega))
          have hlc : wr.cell? ⟨L, j, none⟩ = some (.int .u8 0) := hl.cell j hz
          have hlf : wr.frozen? ⟨L, j, none⟩ = false := hl.frozen j
          have HC := Lib.hid hc
          clear hc hcm hz
          go_wp2
          go_roundw
          case rel =>
            refine ⟨j + 1, by omega, by go_num, hb.other (by simp; omega) _, ?_, hx.setCell (by simp; omega) _⟩
            refine (hl.set j _).congr ?_
            rw [nums8_set, fill_set rest j c HC.out (by omega)]
          case measure => simp [intOf]; omega
        · obtain rfl : j = rest.length := by omega
          have e8 : rest.take rest.length = rest := List.take_length
          rw [e8] at hl
          have hll : ∃ q0 q1 q2 q3 q4 q5 q6 q7 : Int, rest ++ List.replicate (8 - rest.length) 0 = [q0, q1, q2, q3, q4, q5, q6, q7] := list8 _ (by simp; omega)
          obtain ⟨q0, q1, q2, q3, q4, q5, q6, q7, hq⟩ := hll
          have HQ := Lib.hid hq
          rw [hq] at hl
          clear hq e8 Hr2
          have l7 : wr.cell? ⟨L, 7, none⟩ = some (.int .u8 q7) := hl.cell 7 rfl
          have lf7 := hl.frozen 7
          go_upto_region 13 with (fail)
          refine wp_gen (fun W => Blk W B (⟨va, vb, vc, vd⟩ : V4).vals 56 ∧ Blk W L (nums8 [q0, q1, q2, q3, q4, q5, q6, (msg.length : Int) % 256]) 5 ∧ Ext w W) ⟨hb.other (by simp; omega) _, (hl.set 7 _).congr rfl, hx.setCell (by simp; omega) _⟩ ?_
          have hqb : Bytes [q0, q1, q2, q3, q4, q5, q6, (msg.length : Int) % 256] := by
            have h := HQ.out
            have hb8 : Bytes [q0, q1, q2, q3, q4, q5, q6, q7] := by
              rw [← h]
              intro c hc
              rcases List.mem_append.1 hc with hc | hc
              · exact HRb.out c hc
              · rw [List.eq_of_mem_replicate hc]; exact ⟨by omega, by omega⟩
            intro c hc
            simp only [List.mem_cons, List.not_mem_nil, or_false] at hc
            rcases hc with rfl | rfl | rfl | rfl | rfl | rfl | rfl | rfl
            · exact hb8 _ (by simp)
            · exact hb8 _ (by simp)
            · exact hb8 _ (by simp)
            · exact hb8 _ (by simp)
            · exact hb8 _ (by simp)
            · exact hb8 _ (by simp)
            · exact hb8 _ (by simp)
            · exact ⟨by omega, by omega⟩
          clear hb hl hx l7 lf7
          rintro W3 ⟨hb, hl, hx⟩
          have hnum : ∀ (W' : World), Ext W3 W' → Calls Try.prog 26 #[.slice (some ⟨L, 0, none⟩) 8 8] W' fun e w' => e = .returned (.int .u64 (orNum q0 q1 q2 q3 q4 q5 q6 ((msg.length : Int) % 256))) ∧ Ext W' w' :=
            fun W' h => rnum [q0, q1, q2, q3, q4, q5, q6, (msg.length : Int) % 256] rfl hqb L 0 8 W' (fun j u e => by rw [Nat.zero_add]; exact (hl.ext h).cell j e)
          have D := Lib.hid hnum
          clear hnum hqb
          have e0 : ∀ W', Ext W3 W' → W'.cell? ⟨B, 0, none⟩ = some (.int .u64 va) := fun W' h => (hb.ext h).cell 0 rfl
          have e1 : ∀ W', Ext W3 W' → W'.cell? ⟨B, 1, none⟩ = some (.int .u64 vb) := fun W' h => (hb.ext h).cell 1 rfl
          have e2 : ∀ W', Ext W3 W' → W'.cell? ⟨B, 2, none⟩ = some (.int .u64 vc) := fun W' h => (hb.ext h).cell 2 rfl
          have e3 : ∀ W', Ext W3 W' → W'.cell? ⟨B, 3, none⟩ = some (.int .u64 vd) := fun W' h => (hb.ext h).cell 3 rfl
          refine wp_region_ext_tail 4 (by kernel_rfl) (by kernel_rfl) ?_; simp only [List.take_succ_cons, List.take_zero, List.drop_succ_cons, List.drop_zero]
          iterate 2 (apply quiet_onep; (case hw => rfl); (case h1 => intro W' hx; go_simp; (try go_bits); with_reducible rfl); (case hp => go_simp; first | done | with_reducible rfl))
          (apply quiet_onep; (case hw => rfl); (case h1 => intro W' hx; go_simp; go_at_call 26; refine ((D.out _ hx)).mono ?_; rintro e w'' ⟨rfl, hx2⟩; exact ⟨rfl, hx.trans hx2⟩); (case hp => go_simp; first | done | with_reducible rfl))
          (apply quiet_onep; (case hw => rfl); (case h1 => intro W' hx; go_simp; go_at_call 27; refine ((reats_calls _ _ _ _ _ _)).mono ?_; rintro e w'' ⟨rfl, hx2⟩; exact ⟨rfl, hx.trans hx2⟩); (case hp => go_simp; first | done | with_reducible rfl))
          refine wpQuiet_nil ?_
          intro W4 hx4
          have b4 := hb.ext hx4
          have d0 := e0 W4 hx4
          have d1 := e1 W4 hx4
          have d2 := e2 W4 hx4
          have d3 := e3 W4 hx4
          have f0 := b4.frozen 0
          have f1 := b4.frozen 1
          have f2 := b4.frozen 2
          have f3 := b4.frozen 3
          have x4 := hx.trans hx4
          clear e0 e1 e2 e3 D hb hl hx hx4
          obtain ⟨u, hu⟩ : ∃ u, eatsV ⟨va, vb, vc, vd⟩ (orNum q0 q1 q2 q3 q4 q5 q6 ((msg.length : Int) % 256)) = u := ⟨_, rfl⟩
          rw [hu]
          have HU := Lib.hid hu
          clear hu
          obtain ⟨ua, ub, uc, ud⟩ := u
          go_upto_region 14 with (fail)
          refine wp_gen (fun W => Blk W B (⟨ua, ub, uc, ud⟩ : V4).vals 56 ∧ Ext w W) ⟨(b4 |>.set 0 _ |>.set 1 _ |>.set 2 _ |>.set 3 _).congr rfl, x4 |>.setCell (by simpa using hBw) _ |>.setCell (by simpa using hBw) _ |>.setCell (by simpa using hBw) _ |>.setCell (by simpa using hBw) _⟩ ?_
          clear b4 x4 d0 d1 d2 d3 f0 f1 f2 f3
          rintro W5 ⟨b5, x5⟩
          have d2 : W5.cell? ⟨B, 2, none⟩ = some (.int .u64 uc) := b5.cell 2 rfl
          have f2 := b5.frozen 2
          go_upto_region 15 with (fail)
          refine wp_gen (fun W => Blk W B (⟨ua, ub, xor64 uc 255, ud⟩ : V4).vals 56 ∧ Ext w W) ⟨(b5 |>.set 2 _).congr rfl, x5 |>.setCell (by simpa using hBw) _⟩ ?_
          clear b5 x5 d2 f2
          rintro W6 ⟨b6, x6⟩
          have d0 : W6.cell? ⟨B, 0, none⟩ = some (.int .u64 ua) := b6.cell 0 rfl
          have d1 : W6.cell? ⟨B, 1, none⟩ = some (.int .u64 ub) := b6.cell 1 rfl
          have d2 : W6.cell? ⟨B, 2, none⟩ = some (.int .u64 (xor64 uc 255)) := b6.cell 2 rfl
          have d3 : W6.cell? ⟨B, 3, none⟩ = some (.int .u64 ud) := b6.cell 3 rfl
          go_wp2_with fail
          refine (rround_calls _ _ _ _ _).mono ?_
          rintro e W7 ⟨rfl, x7⟩
          clear d0 d1 d2 d3
          obtain ⟨s1, hs1⟩ : ∃ u, rnd ⟨ua, ub, xor64 uc 255, ud⟩ = u := ⟨_, rfl⟩
          rw [hs1]
          have HS1 := Lib.hid hs1
          clear hs1
          go_wp2_with fail
          refine (rround_calls _ _ _ _ _).mono ?_
          rintro e W8 ⟨rfl, x8⟩
          obtain ⟨s2, hs2⟩ : ∃ u, rnd ⟨s1.a, s1.b, s1.c, s1.d⟩ = u := ⟨_, rfl⟩
          rw [hs2]
          have HS2 := Lib.hid hs2
          clear hs2
          go_wp2_with fail
          refine (rround_calls _ _ _ _ _).mono ?_
          rintro e W9 ⟨rfl, x9⟩
          obtain ⟨s3, hs3⟩ : ∃ u, rnd ⟨s2.a, s2.b, s2.c, s2.d⟩ = u := ⟨_, rfl⟩
          rw [hs3]
          have HS3 := Lib.hid hs3
          clear hs3
          go_wp2_with fail
          refine (rround_calls _ _ _ _ _).mono ?_
          rintro e W10 ⟨rfl, x10⟩
          obtain ⟨s4, hs4⟩ : ∃ u, rnd ⟨s3.a, s3.b, s3.c, s3.d⟩ = u := ⟨_, rfl⟩
          rw [hs4]
          have HS4 := Lib.hid hs4
          clear hs4
          have x := ((x7.trans x8).trans x9).trans x10
          have b := b6.ext x
          replace x := x6.trans x
          clear x7 x8 x9 x10 b6 x6
          have f0 := b.frozen 0
          have f1 := b.frozen 1
          have f2 := b.frozen 2
          have f3 := b.frozen 3
          have d0 : W10.cell? ⟨B, 0, none⟩ = some (.int .u64 ua) := b.cell 0 rfl
          have d1 : W10.cell? ⟨B, 1, none⟩ = some (.int .u64 ub) := b.cell 1 rfl
          have d2 : W10.cell? ⟨B, 2, none⟩ = some (.int .u64 (xor64 uc 255)) := b.cell 2 rfl
          have d3 : W10.cell? ⟨B, 3, none⟩ = some (.int .u64 ud) := b.cell 3 rfl
          go_upto_region 16 with (fail)
          refine wp_gen (fun W => Blk W B s4.vals 56 ∧ Ext w W) ⟨(b |>.set 0 _ |>.set 1 _ |>.set 2 _ |>.set 3 _).congr rfl, x |>.setCell (by simpa using hBw) _ |>.setCell (by simpa using hBw) _ |>.setCell (by simpa using hBw) _ |>.setCell (by simpa using hBw) _⟩ ?_
          clear b x d0 d1 d2 d3 f0 f1 f2 f3
          rintro W11 ⟨b, x⟩
          have d0 : W11.cell? ⟨B, 0, none⟩ = some (.int .u64 s4.a) := b.cell 0 rfl
          have d1 : W11.cell? ⟨B, 1, none⟩ = some (.int .u64 s4.b) := b.cell 1 rfl
          have d2 : W11.cell? ⟨B, 2, none⟩ = some (.int .u64 s4.c) := b.cell 2 rfl
          have d3 : W11.cell? ⟨B, 3, none⟩ = some (.int .u64 s4.d) := b.cell 3 rfl
          go_wp2_with fail
          go_ret
          refine ⟨?_, x⟩
          have e1 := fill_last rest (by omega) HQ.out ((msg.length : Int) % 256)
          have e2 := HU.out
          have e3 := HS1.out
          have e4 := HS2.out
          have e5 := HS3.out
          have e6 := HS4.out
          have e7 : rndN 4 ⟨ua, ub, xor64 uc 255, ud⟩ = s4 := by
            subst e3
            subst e4
            subst e5
            subst e6
            rfl
          unfold sipSum
          rw [HS.out, HV0.out, HF2.out]
          unfold finish
          dsimp only
          rw [e1]
          show _ = Ending.returned (.int .u64 (let v := eatsV ⟨va, vb, vc, vd⟩ (orNum q0 q1 q2 q3 q4 q5 q6 ((msg.length : Int) % 256)); let u := rndN 4 ⟨v.a, v.b, xor64 v.c 255, v.d⟩; xor64 (xor64 (xor64 u.a u.b) u.c) u.d))
          rw [e2]
          dsimp only
          rw [e7]
          rfl

def bytesOf (s : ByteArray) : List Int := s.data.toList.map fun c => (c.toNat : Int)
theorem bytesOf_bytes (s : ByteArray) : Bytes (bytesOf s) := fun c h => by
  obtain ⟨u, _, rfl⟩ := List.mem_map.1 h
  have := u.toNat_lt
  exact ⟨by omega, by omega⟩
theorem bytesOf_length (s : ByteArray) : (bytesOf s).length = s.size := by simp [bytesOf]
theorem bytesOf_get (s : ByteArray) (j : Nat) (v : Value) (h : (nums8 (bytesOf s))[j]? = some v) : j < s.size ∧ v = .int .u8 (s.data.toList.getD j 0).toNat := by
  simp only [nums8, bytesOf, List.map_map, List.getElem?_map, Option.map_eq_some_iff] at h
  obtain ⟨u, hu, rfl⟩ := h
  have hj := (List.getElem?_eq_some_iff.1 hu).1
  refine ⟨by simpa using hj, ?_⟩
  rw [List.getD_eq_getElem?_getD, hu]
  rfl

/-- '[]byte(s)': a new block that reads as the string. -/
theorem wpList_bytes {P : Program} {w : World} {ops : Array Oper} {rest : List Oper} {o : Oper} {a : Act} {Q : Exit → Act → World → Prop} (hw : Region.wanted o (yielded ops a.tmps) = true) (x : Operand) (src dst e : TypeId) (s : ByteArray)
    (hop : o.op = .convert src dst x) (hx : a.eval x = .string s) {u : TypeDesc} (hs : P.underlying src = some u) (hd : P.underlying dst = some (.slice e)) (he : P.underlying e = some (.int .u8))
    (h : ∀ cap W', s.size ≤ cap → Ext w W' → RdA W' w.heap.size 0 (nums8 (bytesOf s)) → wpList P ops Q rest (a.put o.dst (.slice (some ⟨w.heap.size, 0, none⟩) s.size cap)) W') : wpList P ops Q (o :: rest) a w := by
  unfold wpList
  rw [if_pos hw]
  refine .inl ?_
  have hrun := Lib.run_convert_string_bytes (P := P) w src dst e s hs hd he
  unfold Oper.wp
  simp only [execOp, hop, hx]
  simp [hrun, Result.andThen]
  refine h _ _ (by show s.size ≤ s.size + _; exact Nat.le_add_right _ _) ?_ ?_
  · exact ⟨rfl, rfl, rfl, by rw [Lib.bytesWorld_size]; omega, fun k hk => Lib.bytesWorld_at_old w e s k hk⟩
  · intro j v hv
    obtain ⟨hj, rfl⟩ := bytesOf_get s j v hv
    rw [Nat.zero_add]
    exact Lib.bytesWorld_cell w e s j hj
end Go.Proofs.Ythgepclmlhbbaaa
