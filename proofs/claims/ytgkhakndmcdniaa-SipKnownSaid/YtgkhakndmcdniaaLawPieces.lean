/- Chapter 4: the law SipPieces at any arguments. -/
import Derived.Test.YtgkhakndmcdniaaLawKeys
import Derived.Test.YtgkhakndmcdniaaSlice
namespace Go.Proofs.Ytgkhakndmcdniaa
open Go.RowKit
set_option linter.unusedVariables false
set_option linter.unusedSimpArgs false


theorem piece_add (ks : List Int) (msg : List Int) (A : Option Addr) (cap : Nat) (g : Nat) (T : TypeId) (w W : World) (l t : Nat) (hH : HashAt W g T ks (msg.take l)) (hr : RdV w A (nums8 msg)) (hx : Ext w W) (hg : w.heap.size ≤ g) (hcap : msg.length ≤ cap) (hl : l ≤ t) (ht : t ≤ msg.length) (h0 : msg.length ≤ 4000000) :
    Calls Try.prog 12 #[.pointer (some ⟨g, 0, none⟩), .slice (partA A cap l) (t - l) (cap - l)] W fun e w' => e = .returned (.tuple #[]) ∧ HashAt w' g T ks (msg.take t) ∧ But g W w' := by
  have hlen : ((msg.drop l).take (t - l)).length = t - l := by simp; omega
  have h := add_calls ks (msg.take l) ((msg.drop l).take (t - l)) (partA A cap l) (cap - l) g T W hH ((hr.ext hx).part cap l _ hcap (by omega)) (fun hm => by
    refine partA_ne (fun a e => ?_)
    obtain ⟨b, o, hA, hlt⟩ := hr.lt (by intro h; have : msg = [] := List.map_eq_nil_iff.1 h; subst this; simp at hm)
    rw [hA] at e
    cases e
    show b ≠ g
    omega) (by rw [hlen]; simp; omega)
  rw [hlen, take_step msg l t hl] at h
  exact h
theorem piece_ref (ks : List Int) (hk : ks.length = 16) (hkb : Bytes ks) (msg : List Int) (hmb : Bytes msg) (A : Option Addr) (cap : Nat) (W : World) (t : Nat) (hr : RdV W A (nums8 msg)) (hcap : msg.length ≤ cap) (ht : t ≤ msg.length) (h0 : msg.length ≤ 4000000) :
    Calls Try.prog 10 #[.agg (nums8 ks).toArray, .slice A t cap] W fun e w' => e = .returned (.int .u64 (sipSum ks (msg.take t))) ∧ Ext W w' := by
  have hlen : (msg.take t).length = t := by simp; omega
  have h := rsum_calls ks hk hkb (msg.take t) (fun c hc => hmb c (List.mem_of_mem_take hc)) A cap W (hr.take t) (by omega) (by omega)
  rw [hlen] at h
  exact h

set_option maxRecDepth 100000 in
set_option maxHeartbeats 4000000 in
theorem law_pieces (ks : List Int) (hk : ks.length = 16) (hkb : Bytes ks) (msg : List Int) (hmb : Bytes msg) (A : Option Addr) (cap : Nat) (cuts : List Int) (hcb : Bytes cuts) (B : Option Addr) (capB : Nat) (w : World)
    (hr : RdV w A (nums8 msg)) (hcap : msg.length ≤ cap) (hrb : RdV w B (nums8 cuts)) (hcapB : cuts.length ≤ capB) :
    Calls Try.prog 4 #[.agg (nums8 ks).toArray, .slice A msg.length cap, .slice B cuts.length capB] w fun e w' => e = .returned (.bool true) ∧ Ext w w' := by
  by_cases h1 : 1000 < msg.length
  · have h1i : (1000 : Int) < msg.length := by omega
    go_enter Try.func4, Try.ntmps4; go_wp2_with fail; refine (works_calls _).mono ?_; rintro e W1 ⟨rfl, hx1⟩; go_wp2_with fail; go_ret; exact ⟨rfl, ((Ext.refl w).alloc _).trans hx1⟩
  by_cases h2 : 60 < cuts.length
  · have h1i : ¬ (1000 : Int) < msg.length := by omega
    have h2i : (60 : Int) < cuts.length := by omega
    go_enter Try.func4, Try.ntmps4; go_wp2_with fail; refine (works_calls _).mono ?_; rintro e W1 ⟨rfl, hx1⟩; go_wp2_with fail; go_ret; exact ⟨rfl, ((Ext.refl w).alloc _).trans hx1⟩
  have h1i : ¬ (1000 : Int) < msg.length := by omega
  have h2i : ¬ (60 : Int) < cuts.length := by omega
  have b1 : (decide ((1000 : Int) < msg.length) || decide ((60 : Int) < cuts.length)) = false := by simp; omega
  have hT : isRowT Try.prog 23 (nums8 ks).length := by rw [nums8_length, hk]; exact rowKey
  have HT := Lib.hid hT
  have D1 := Lib.hid fun W h => ssum_calls ks hk msg A cap W h (by omega)
  clear hT
  go_enter Try.func4, Try.ntmps4
  go_upto_region 3 with (fail)
  refine wp_gen (fun W => Blk W w.heap.size (nums8 ks) 23 ∧ Ext w W) ⟨Blk.new _ _ _, (Ext.refl w).alloc _⟩ ?_
  rintro W0 ⟨hb, hx⟩
  go_wp2_with (refine wpList_load_blk rfl 23 (.tmp 3) rfl w.heap.size rfl HT.out hb ?_)
  refine (new_calls ks hk _).mono ?_
  rintro e W1 ⟨g, rfl, hx1, hg, hb1⟩
  have hH := HashAt.new ks hb1
  have hgw : w.heap.size < g := Nat.lt_of_lt_of_le hb.lt hg
  replace hb := hb.ext hx1
  replace hx := hx.trans hx1
  clear hx1 hg hb1
  go_wp2_with fail
  go_loopw [8, 9] (fun a i W => ∃ n l : Nat, n ≤ cuts.length + 1 ∧ i = .int .i64 n ∧ a = .int .i64 l ∧ l ≤ msg.length ∧ (n = cuts.length + 1 → l = msg.length) ∧ HashAt W g 52 ks (msg.take l) ∧ Blk W w.heap.size (nums8 ks) 23 ∧ Ext w W) (fun a i _ => cuts.length + 1 - (intOf i).toNat)
  case atStart => exact ⟨0, 0, by omega, rfl, rfl, by omega, by omega, by simpa using hH, hb, hx⟩
  case round =>
    clear hb hx hH
    obtain ⟨n, l, hn, rfl, rfl, hl, hend, hH, hb, hx⟩ := hrel
    by_cases hlt : n < cuts.length
    · have hlt1 : (n : Int) < cuts.length := by omega
      have hlt2 : (n : Int) ≤ cuts.length := by omega
      obtain ⟨c, hc⟩ : ∃ c, cuts[n]? = some c := ⟨cuts[n], by simp [hlt]⟩
      have hcB := hcb.at_ hc
      obtain ⟨b, o, rfl, hcell⟩ := (hrb.ext hx).at_ n _ (nums8_get hc)
      obtain ⟨hc0, hc1⟩ := hcB
      obtain ⟨q, hq⟩ : ∃ q : Nat, c.tmod 40 = (q : Int) := ⟨(c % 40).toNat, by rw [Int.tmod_eq_emod_of_nonneg hc0]; omega⟩
      have hq40 : (q : Int) < 40 := by rw [← hq, Int.tmod_eq_emod_of_nonneg hc0]; omega
      by_cases hmin : l + q < msg.length
      · have hmin1 : (l : Int) + q < msg.length := by omega
        go_upto_region 11 with (fail)
        obtain ⟨t, ht⟩ : ∃ t : Nat, (t : Int) = ↑l + ↑q := ⟨l + q, by omega⟩
        rw [← ht]
        have htm : t ≤ msg.length := by omega
        have hlt3 : l ≤ t := by omega
        have hendt : n + 1 = cuts.length + 1 → t = msg.length := by omega
        clear ht hmin hmin1
        have htc : t ≤ cap := by omega
        have CA := Lib.hid (piece_add ks msg A cap g _ w wr l t hH hr hx (by omega) hcap hlt3 htm (by omega))
        go_wp2_with (refine wpList_slice_part rfl 24 (.tmp 46) (.tmp 47) (.tmp 48) rfl Try.underlying24 (by kernel_rfl) A msg.length cap rfl .i64 .i64 l t rfl rfl hlt3 htc ?_)
        refine CA.out.mono ?_
        rintro e W2 ⟨rfl, hH2, ho2⟩
        have hx2 := But.toNew hx ho2 (by omega)
        have hb2 := ho2.blk hb (by omega)
        clear CA hH hb hx ho2
        go_upto_region 13 with (fail)
        have DS := Lib.hid fun W h => hsum_calls ks (msg.take t) g 52 W h (by simp; omega)
        have DR := Lib.hid fun W h => piece_ref ks hk hkb msg hmb A cap W t h hcap htm (by omega)
        refine wp_region_ext (by kernel_rfl) (by kernel_rfl) ?_
        (apply quiet_onep; (case hw => rfl); (case h1 => intro W' hx; go_simp; (try go_bits); with_reducible rfl); (case hp => go_simp; first | done | with_reducible rfl))
        (apply quiet_onep; (case hw => rfl); (case h1 => intro W' hx; go_simp; go_at_call 13; refine ((DS.out _ (hH2.ext hx))).mono ?_; rintro e w'' ⟨rfl, hx2⟩; exact ⟨rfl, hx.trans hx2⟩); (case hp => go_simp; first | done | with_reducible rfl))
        (apply quiet_onep; (case hw => rfl); (case h1 => intro W' hx; exact quietAt_load_blk (T := 23) (x := .tmp 3) rfl rfl HT.out (Blk.ext hb2 hx)); (case hp => go_simp; first | done | with_reducible rfl))
        (apply quiet_onep; (case hw => rfl); (case h1 => intro W' hx; go_simp; (try go_bits); with_reducible rfl); (case hp => go_simp; first | done | with_reducible rfl))
        (apply quiet_onep; (case hw => rfl); (case h1 => intro W' hx; go_simp; (try go_bits); with_reducible rfl); (case hp => go_simp; first | done | with_reducible rfl))
        (apply quiet_onep; (case hw => rfl); (case h1 => intro W' hx; exact quietAt_slice_head (a := _) 24 (.tmp 55) (.tmp 56) rfl Try.underlying24 (by kernel_rfl) A msg.length cap rfl .i64 t rfl htc); (case hp => go_simp; first | done | with_reducible rfl))
        (apply quiet_onep; (case hw => rfl); (case h1 => intro W' hx; go_simp; go_at_call 10; refine ((DR.out _ ((hr.ext hx2).ext hx))).mono ?_; rintro e w'' ⟨rfl, hx2⟩; exact ⟨rfl, hx.trans hx2⟩); (case hp => go_simp; first | done | with_reducible rfl))
        (apply quiet_onep; (case hw => rfl); (case h1 => intro W' hx; go_simp; (try go_bits); with_reducible rfl); (case hp => go_simp; first | done | with_reducible rfl))
        refine wpQuiet_nil ?_
        intro W3 hx3
        go_wp2_with fail
        go_roundw
        case rel => exact ⟨n + 1, t, by omega, by go_num, rfl, htm, hendt, hH2.ext hx3, hb2.ext hx3, hx2.trans hx3⟩
        case measure => simp [intOf]; omega
      · have hmin1 : ¬ (l : Int) + q < msg.length := by omega
        go_upto_region 11 with (fail)
        have htm : msg.length ≤ msg.length := by omega
        have hlt3 : l ≤ msg.length := by omega
        clear hmin hmin1
        have htc : msg.length ≤ cap := by omega
        have CA := Lib.hid (piece_add ks msg A cap g _ w wr l msg.length hH hr hx (by omega) hcap hlt3 htm (by omega))
        go_wp2_with (refine wpList_slice_part rfl 24 (.tmp 46) (.tmp 47) (.tmp 48) rfl Try.underlying24 (by kernel_rfl) A msg.length cap rfl .i64 .i64 l msg.length rfl rfl hlt3 htc ?_)
        refine CA.out.mono ?_
        rintro e W2 ⟨rfl, hH2, ho2⟩
        have hx2 := But.toNew hx ho2 (by omega)
        have hb2 := ho2.blk hb (by omega)
        clear CA hH hb hx ho2
        go_upto_region 13 with (fail)
        have DS := Lib.hid fun W h => hsum_calls ks (msg.take msg.length) g 52 W h (by simp; omega)
        have DR := Lib.hid fun W h => piece_ref ks hk hkb msg hmb A cap W msg.length h hcap htm (by omega)
        refine wp_region_ext (by kernel_rfl) (by kernel_rfl) ?_
        (apply quiet_onep; (case hw => rfl); (case h1 => intro W' hx; go_simp; (try go_bits); with_reducible rfl); (case hp => go_simp; first | done | with_reducible rfl))
        (apply quiet_onep; (case hw => rfl); (case h1 => intro W' hx; go_simp; go_at_call 13; refine ((DS.out _ (hH2.ext hx))).mono ?_; rintro e w'' ⟨rfl, hx2⟩; exact ⟨rfl, hx.trans hx2⟩); (case hp => go_simp; first | done | with_reducible rfl))
        (apply quiet_onep; (case hw => rfl); (case h1 => intro W' hx; exact quietAt_load_blk (T := 23) (x := .tmp 3) rfl rfl HT.out (Blk.ext hb2 hx)); (case hp => go_simp; first | done | with_reducible rfl))
        (apply quiet_onep; (case hw => rfl); (case h1 => intro W' hx; go_simp; (try go_bits); with_reducible rfl); (case hp => go_simp; first | done | with_reducible rfl))
        (apply quiet_onep; (case hw => rfl); (case h1 => intro W' hx; go_simp; (try go_bits); with_reducible rfl); (case hp => go_simp; first | done | with_reducible rfl))
        (apply quiet_onep; (case hw => rfl); (case h1 => intro W' hx; exact quietAt_slice_head (a := _) 24 (.tmp 55) (.tmp 56) rfl Try.underlying24 (by kernel_rfl) A msg.length cap rfl .i64 msg.length rfl htc); (case hp => go_simp; first | done | with_reducible rfl))
        (apply quiet_onep; (case hw => rfl); (case h1 => intro W' hx; go_simp; go_at_call 10; refine ((DR.out _ ((hr.ext hx2).ext hx))).mono ?_; rintro e w'' ⟨rfl, hx2⟩; exact ⟨rfl, hx.trans hx2⟩); (case hp => go_simp; first | done | with_reducible rfl))
        (apply quiet_onep; (case hw => rfl); (case h1 => intro W' hx; go_simp; (try go_bits); with_reducible rfl); (case hp => go_simp; first | done | with_reducible rfl))
        refine wpQuiet_nil ?_
        intro W3 hx3
        go_wp2_with fail
        go_roundw
        case rel => exact ⟨n + 1, msg.length, by omega, by go_num, rfl, htm, fun _ => rfl, hH2.ext hx3, hb2.ext hx3, hx2.trans hx3⟩
        case measure => simp [intOf]; omega
    by_cases hle : n = cuts.length
    · subst hle
      have hlt1 : ¬ ((cuts.length : Nat) : Int) < cuts.length := by omega
      have hlt2 : ((cuts.length : Nat) : Int) ≤ cuts.length := by omega
      have hlt3 : l ≤ msg.length := by omega
      go_upto_region 11 with (fail)
      have htm : msg.length ≤ msg.length := by omega
      have htc : msg.length ≤ cap := by omega
      have CA := Lib.hid (piece_add ks msg A cap g _ w wr l msg.length hH hr hx (by omega) hcap hlt3 htm (by omega))
      go_wp2_with (refine wpList_slice_part rfl 24 (.tmp 46) (.tmp 47) (.tmp 48) rfl Try.underlying24 (by kernel_rfl) A msg.length cap rfl .i64 .i64 l msg.length rfl rfl hlt3 htc ?_)
      refine CA.out.mono ?_
      rintro e W2 ⟨rfl, hH2, ho2⟩
      have hx2 := But.toNew hx ho2 (by omega)
      have hb2 := ho2.blk hb (by omega)
      clear CA hH hb hx ho2
      go_upto_region 13 with (fail)
      have DS := Lib.hid fun W h => hsum_calls ks (msg.take msg.length) g 52 W h (by simp; omega)
      have DR := Lib.hid fun W h => piece_ref ks hk hkb msg hmb A cap W msg.length h hcap htm (by omega)
      refine wp_region_ext (by kernel_rfl) (by kernel_rfl) ?_
      (apply quiet_onep; (case hw => rfl); (case h1 => intro W' hx; go_simp; (try go_bits); with_reducible rfl); (case hp => go_simp; first | done | with_reducible rfl))
      (apply quiet_onep; (case hw => rfl); (case h1 => intro W' hx; go_simp; go_at_call 13; refine ((DS.out _ (hH2.ext hx))).mono ?_; rintro e w'' ⟨rfl, hx2⟩; exact ⟨rfl, hx.trans hx2⟩); (case hp => go_simp; first | done | with_reducible rfl))
      (apply quiet_onep; (case hw => rfl); (case h1 => intro W' hx; exact quietAt_load_blk (T := 23) (x := .tmp 3) rfl rfl HT.out (Blk.ext hb2 hx)); (case hp => go_simp; first | done | with_reducible rfl))
      (apply quiet_onep; (case hw => rfl); (case h1 => intro W' hx; go_simp; (try go_bits); with_reducible rfl); (case hp => go_simp; first | done | with_reducible rfl))
      (apply quiet_onep; (case hw => rfl); (case h1 => intro W' hx; go_simp; (try go_bits); with_reducible rfl); (case hp => go_simp; first | done | with_reducible rfl))
      (apply quiet_onep; (case hw => rfl); (case h1 => intro W' hx; exact quietAt_slice_head (a := _) 24 (.tmp 55) (.tmp 56) rfl Try.underlying24 (by kernel_rfl) A msg.length cap rfl .i64 msg.length rfl htc); (case hp => go_simp; first | done | with_reducible rfl))
      (apply quiet_onep; (case hw => rfl); (case h1 => intro W' hx; go_simp; go_at_call 10; refine ((DR.out _ ((hr.ext hx2).ext hx))).mono ?_; rintro e w'' ⟨rfl, hx2⟩; exact ⟨rfl, hx.trans hx2⟩); (case hp => go_simp; first | done | with_reducible rfl))
      (apply quiet_onep; (case hw => rfl); (case h1 => intro W' hx; go_simp; (try go_bits); with_reducible rfl); (case hp => go_simp; first | done | with_reducible rfl))
      refine wpQuiet_nil ?_
      intro W3 hx3
      go_wp2_with fail
      go_roundw
      case rel => exact ⟨cuts.length + 1, msg.length, by omega, by go_num, rfl, htm, fun _ => rfl, hH2.ext hx3, hb2.ext hx3, hx2.trans hx3⟩
      case measure => simp [intOf]
    · have hlt1 : ¬ ((n : Nat) : Int) ≤ cuts.length := by omega
      obtain rfl : l = msg.length := hend (by omega)
      rw [List.take_length] at hH
      have DS := Lib.hid fun W h => hsum_calls ks msg g 52 W h (by omega)
      go_upto_region 15 with (fail)
      refine wp_region_ext (by kernel_rfl) (by kernel_rfl) ?_
      (apply quiet_onep; (case hw => rfl); (case h1 => intro W' hx; go_simp; (try go_bits); with_reducible rfl); (case hp => go_simp; first | done | with_reducible rfl))
      (apply quiet_onep; (case hw => rfl); (case h1 => intro W' hx; go_simp; go_at_call 13; refine ((DS.out _ (hH.ext hx))).mono ?_; rintro e w'' ⟨rfl, hx2⟩; exact ⟨rfl, hx.trans hx2⟩); (case hp => go_simp; first | done | with_reducible rfl))
      (apply quiet_onep; (case hw => rfl); (case h1 => intro W' hx; exact quietAt_load_blk (T := 23) (x := .tmp 3) rfl rfl HT.out (Blk.ext hb hx)); (case hp => go_simp; first | done | with_reducible rfl))
      (apply quiet_onep; (case hw => rfl); (case h1 => intro W' hx; go_simp; (try go_bits); with_reducible rfl); (case hp => go_simp; first | done | with_reducible rfl))
      (apply quiet_onep; (case hw => rfl); (case h1 => intro W' hx; go_simp; go_at_call 9; refine ((D1.out _ ((hr.ext (by assumption)).ext hx))).mono ?_; rintro e w'' ⟨rfl, hx2⟩; exact ⟨rfl, hx.trans hx2⟩); (case hp => go_simp; first | done | with_reducible rfl))
      (apply quiet_onep; (case hw => rfl); (case h1 => intro W' hx; go_simp; (try go_bits); with_reducible rfl); (case hp => go_simp; first | done | with_reducible rfl))
      (apply quiet_onep; (case hw => rfl); (case h1 => intro W' hx; go_simp; (try go_bits); with_reducible rfl); (case hp => go_simp; first | done | with_reducible rfl))
      (apply quiet_onep; (case hw => rfl); (case h1 => intro W' hx; go_simp; go_at_call 8; refine ((works_calls _)).mono ?_; rintro e w'' ⟨rfl, hx2⟩; exact ⟨rfl, hx.trans hx2⟩); (case hp => go_simp; first | done | with_reducible rfl))
      (apply quiet_onep; (case hw => rfl); (case h1 => intro W' hx; go_simp; (try go_bits); with_reducible rfl); (case hp => go_simp; first | done | with_reducible rfl))
      (apply quiet_onep; (case hw => rfl); (case h1 => intro W' hx; go_simp; (try go_bits); with_reducible rfl); (case hp => go_simp; first | done | with_reducible rfl))
      refine wpQuiet_nil ?_
      intro W3 hx3
      go_wp2_with fail
      go_ret
      exact ⟨rfl, Ext.trans (by assumption) hx3⟩
end Go.Proofs.Ytgkhakndmcdniaa
