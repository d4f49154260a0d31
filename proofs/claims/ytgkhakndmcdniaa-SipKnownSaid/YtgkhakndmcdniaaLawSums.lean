/- Chapter 4: the laws SipSums and SipKeys at any arguments. -/
import Derived.Test.YtgkhakndmcdniaaWorks04
import Derived.BigQuiet
namespace Go.Proofs.Ytgkhakndmcdniaa
open Go.RowKit
set_option linter.unusedVariables false
set_option linter.unusedSimpArgs false

set_option maxHeartbeats 1000000 in
theorem law_sums (ks : List Int) (hk : ks.length = 16) (hkb : Bytes ks) (msg : List Int) (hmb : Bytes msg) (A : Option Addr) (cap : Nat) (w : World) (hr : RdV w A (nums8 msg)) (hcap : msg.length ≤ cap) :
    Calls Try.prog 3 #[.agg (nums8 ks).toArray, .slice A msg.length cap] w fun e w' => e = .returned (.bool true) ∧ Ext w w' := by
  have hT : isRowT Try.prog 23 (nums8 ks).length := by rw [nums8_length, hk]; exact rowKey
  have hT2 : isRowT Try.prog 22 (nums8 ks).length := by rw [nums8_length, hk]; exact row16
  by_cases h3 : 3000 < msg.length
  · have h3i : (3000 : Int) < msg.length := by omega
    clear hT hT2 hcap hr hkb
    go_enter Try.func3, Try.ntmps3
    go_wp2_with fail
    refine (works_calls _).mono ?_
    rintro e W1 ⟨rfl, hx1⟩
    go_wp2_with fail
    go_ret
    exact ⟨rfl, ((Ext.refl w).alloc _).trans hx1⟩
  · have h3i : ¬ (3000 : Int) < msg.length := by omega
    have hlen : msg.length ≤ 4611686018427387904 := by omega
    have D1 := Lib.hid fun W h => ssum_calls ks hk msg A cap W h hlen
    have D2 := Lib.hid fun W h => rsum_calls ks hk hkb msg hmb A cap W h hlen hcap
    have HT := Lib.hid hT
    have HT2 := Lib.hid hT2
    clear hT hT2 hcap hkb hlen
    obtain ⟨S, hS⟩ : ∃ S, sipSum ks msg = S := ⟨_, rfl⟩
    rw [hS] at D1 D2
    clear hS
    go_enter Try.func3, Try.ntmps3
    go_upto_region 3 with (fail)
    refine wp_gen (fun W => Blk W w.heap.size (nums8 ks) 23 ∧ RdV W A (nums8 msg) ∧ Ext w W) ⟨Blk.new _ _ _, hr.ext ((Ext.refl w).alloc _), (Ext.refl w).alloc _⟩ ?_
    clear hr
    rintro W1 ⟨hb, hr, hx⟩
    refine wp_region_ext (by kernel_rfl) (by kernel_rfl) ?_
    (apply quiet_onep; (case hw => rfl); (case h1 => intro W' hx; exact quietAt_load_blk (T := 23) (x := .tmp 2) rfl rfl HT.out (Blk.ext hb hx)); (case hp => go_simp; first | done | with_reducible rfl))
    (apply quiet_onep; (case hw => rfl); (case h1 => intro W' hx; go_simp; (try go_bits); with_reducible rfl); (case hp => go_simp; first | done | with_reducible rfl))
    (apply quiet_onep; (case hw => rfl); (case h1 => intro W' hx; go_simp; go_at_call 9; refine ((D1.out _ (hr.ext hx))).mono ?_; rintro e w'' ⟨rfl, hx2⟩; exact ⟨rfl, hx.trans hx2⟩); (case hp => go_simp; first | done | with_reducible rfl))
    (apply quiet_onep; (case hw => rfl); (case h1 => intro W' hx; exact quietAt_load_blk (T := 23) (x := .tmp 2) rfl rfl HT.out (Blk.ext hb hx)); (case hp => go_simp; first | done | with_reducible rfl))
    (apply quiet_onep; (case hw => rfl); (case h1 => intro W' hx; go_simp; (try go_bits); with_reducible rfl); (case hp => go_simp; first | done | with_reducible rfl))
    (apply quiet_onep; (case hw => rfl); (case h1 => intro W' hx; go_simp; go_at_call 10; refine ((D2.out _ (hr.ext hx))).mono ?_; rintro e w'' ⟨rfl, hx2⟩; exact ⟨rfl, hx.trans hx2⟩); (case hp => go_simp; first | done | with_reducible rfl))
    (apply quiet_onep; (case hw => rfl); (case h1 => intro W' hx; go_simp; (try go_bits); with_reducible rfl); (case hp => go_simp; first | done | with_reducible rfl))
    (apply quiet_onep; (case hw => rfl); (case h1 => intro W' hx; go_simp; (try go_bits); with_reducible rfl); (case hp => go_simp; first | done | with_reducible rfl))
    (apply quiet_onep; (case hw => rfl); (case h1 => intro W' hx; go_simp; go_at_call 8; refine ((works_calls _)).mono ?_; rintro e w'' ⟨rfl, hx2⟩; exact ⟨rfl, hx.trans hx2⟩); (case hp => go_simp; first | done | with_reducible rfl))
    (apply quiet_onep; (case hw => rfl); (case h1 => intro W' hx; go_simp; (try go_bits); with_reducible rfl); (case hp => go_simp; first | done | with_reducible rfl))
    (apply quiet_onep; (case hw => rfl); (case h1 => intro W' hx; go_simp; (try go_bits); with_reducible rfl); (case hp => go_simp; first | done | with_reducible rfl))
    refine wpQuiet_nil ?_
    intro W2 hx2
    go_wp2_with fail
    go_ret
    exact ⟨rfl, hx.trans hx2⟩
end Go.Proofs.Ytgkhakndmcdniaa
