/- The search for the end of a unit's run. -/
import Derived.Test.YtclgclcoblfddaaWholeA
namespace Go.Proofs.Ytclgclcoblfddaa
open Go.RowKit Go.Lib
set_option linter.unusedVariables false
set_option linter.unusedSimpArgs false
theorem whole1_calls (x : It) (B b o n c : Nat) (u : Int) (w : World) (hB : w.cell? ⟨B, 0, none⟩ = some (.slice (some ⟨b, o, none⟩) n c)) (hn : 0 < n) (h0 : w.cell? ⟨b, o, none⟩ = some (.int .i64 u)) :
    Calls Try.prog 82 #[encI x, .pointer (some ⟨B, 0, none⟩)] w fun e w' => e = .returned (.bool (!decide (x.u = u))) ∧ Ext w w' := by
  obtain ⟨xu, xt, xm⟩ := x
  unfold encI
  have hni : (0 : Int) < n := by omega
  by_cases h : xu = u
  · subst h
    have h : xu = xu := rfl
    (go_enter Try.func82, Try.ntmps82; go_upto_region 1 with (fail); refine wp_gen (fun W => Blk W w.heap.size [.int .i64 xu, .int .u8 xt, .bool xm] 34 ∧ Ext w W) ⟨Blk.newAt _ _ _ _ rfl, (Ext.refl w).alloc _⟩ ?_; obtain ⟨q, hq⟩ : ∃ q, w.heap.size = q := ⟨_, rfl⟩; rw [hq]; rintro W1 ⟨hbk, hx⟩; have e0 : ∀ W', Ext W1 W' → W'.cell? ⟨q, 0, none⟩ = some (.int .i64 xu) := fun W' h => (hbk.ext h).cell 0 rfl; have e1 : ∀ W', Ext W1 W' → W'.cell? ⟨B, 0, none⟩ = some (.slice (some ⟨b, o, none⟩) n c) := fun W' h => (hx.trans h).cell hB; have e2 : ∀ W', Ext W1 W' → W'.cell? ⟨b, o, none⟩ = some (.int .i64 xu) := fun W' h => (hx.trans h).cell h0; clear hB h0; refine wp_region_mix (fun W => Ext W1 W) 9 [(0, true), (1, true), (2, true), (3, true), (4, true), (5, true), (6, true), (7, true), (8, true), (9, false)] (by kernel_rfl) (by kernel_rfl) ((Ext.refl W1).drew) ?_; (repeat (first | (apply mix_read; (case ho => rfl); (case hw => rfl); (case h1 => intro W' hx; (try dsimp only at hx); go_simp; (try go_bits); with_reducible rfl); (case hp => go_simp; first | done | with_reducible rfl)) | (apply mix_skip; (case ho => rfl); (case hw => rfl); (case hp => go_simp; first | done | with_reducible rfl)))); refine mix_end 9 (by kernel_rfl) (by kernel_rfl) ?_; simp only [List.take_succ_cons, List.take_zero, List.drop_succ_cons, List.drop_zero]; unfold Q0; go_wp2_with fail; go_ret; exact ⟨by simp [h], hx.drew⟩)
  · (go_enter Try.func82, Try.ntmps82; go_upto_region 1 with (fail); refine wp_gen (fun W => Blk W w.heap.size [.int .i64 xu, .int .u8 xt, .bool xm] 34 ∧ Ext w W) ⟨Blk.newAt _ _ _ _ rfl, (Ext.refl w).alloc _⟩ ?_; obtain ⟨q, hq⟩ : ∃ q, w.heap.size = q := ⟨_, rfl⟩; rw [hq]; rintro W1 ⟨hbk, hx⟩; have e0 : ∀ W', Ext W1 W' → W'.cell? ⟨q, 0, none⟩ = some (.int .i64 xu) := fun W' h => (hbk.ext h).cell 0 rfl; have e1 : ∀ W', Ext W1 W' → W'.cell? ⟨B, 0, none⟩ = some (.slice (some ⟨b, o, none⟩) n c) := fun W' h => (hx.trans h).cell hB; have e2 : ∀ W', Ext W1 W' → W'.cell? ⟨b, o, none⟩ = some (.int .i64 u) := fun W' h => (hx.trans h).cell h0; clear hB h0; refine wp_region_mix (fun W => Ext W1 W) 9 [(0, true), (1, true), (2, true), (3, true), (4, true), (5, true), (6, true), (7, true), (8, true), (9, false)] (by kernel_rfl) (by kernel_rfl) ((Ext.refl W1).drew) ?_; (repeat (first | (apply mix_read; (case ho => rfl); (case hw => rfl); (case h1 => intro W' hx; (try dsimp only at hx); go_simp; (try go_bits); with_reducible rfl); (case hp => go_simp; first | done | with_reducible rfl)) | (apply mix_skip; (case ho => rfl); (case hw => rfl); (case hp => go_simp; first | done | with_reducible rfl)))); refine mix_end 9 (by kernel_rfl) (by kernel_rfl) ?_; simp only [List.take_succ_cons, List.take_zero, List.drop_succ_cons, List.drop_zero]; unfold Q0; go_wp2_with fail; go_ret; exact ⟨by simp [h], hx.drew⟩)
theorem index_calls (l : List It) (A : Option Addr) (cap B b o n c : Nat) (u : Int) (w : World) (hr : RdI w A l) (hlen : l.length ≤ 1000000) (hB : w.cell? ⟨B, 0, none⟩ = some (.slice (some ⟨b, o, none⟩) n c)) (hn : 0 < n) (h0 : w.cell? ⟨b, o, none⟩ = some (.int .i64 u)) :
    Calls Try.prog 81 #[.slice A l.length cap, .func (.func 82) #[] #[.pointer (some ⟨B, 0, none⟩)]] w fun e w' => ∃ m, m ≤ l.length ∧ (∀ x ∈ l.take m, x.u = u) ∧ (∀ x, l[m]? = some x → x.u ≠ u) ∧ e = .returned (.int .i64 (if m < l.length then (m : Int) else -1)) ∧ Ext w w' := by
  go_enter Try.func81, Try.ntmps81
  go_upto_region 2 with (fail)
  go_loopw [8] (fun i W => ∃ k : Nat, k ≤ l.length ∧ i = .int .i64 k ∧ (∀ x ∈ l.take k, x.u = u) ∧ Ext w W) (fun i _ => l.length - (RowKit.intOf i).toNat)
  case atStart => exact ⟨0, by omega, rfl, fun x hx => by simp at hx, Ext.refl w⟩
  case round =>
    obtain ⟨k, hk, rfl, hu, hx⟩ := hrel
    by_cases hlt : k < l.length
    · have hlti : (k : Int) < l.length := by omega
      obtain ⟨b1, o1, xu, xt, xm, rfl, he, f1, f2, f3⟩ := (hr.ext hx).at hlt
      have hW := whole1_calls ⟨xu, xt, xm⟩ B b o n c u wr (hx.cell hB) hn (hx.cell h0)
      unfold encI at hW
      replace hW := Lib.hid hW
      have htk : l.take (k + 1) = l.take k ++ [⟨xu, xt, xm⟩] := by rw [List.take_succ_eq_append_getElem hlt]; congr 2; rw [List.getElem?_eq_getElem hlt] at he; exact Option.some.inj he
      by_cases h : xu = u
      · have HV := Lib.hid (show (!decide (xu = u)) = false by simp [h])
        have HU := Lib.hid h
        have HTK := Lib.hid htk
        clear h htk
        go_wp2_with (go_at_call 82; refine hW.out.mono ?_; rintro e w' ⟨rfl, hx1⟩; dsimp only; rw [HV.out])
        go_roundw
        case rel => exact ⟨k + 1, by omega, by go_num, fun x hm => by
          rw [HTK.out] at hm
          rcases List.mem_append.1 hm with hm | hm
          · exact hu x hm
          · rw [List.mem_singleton.1 hm]; exact HU.out, hx.trans hx1⟩
        case measure => simp [RowKit.intOf]; omega
      · have HV := Lib.hid (show (!decide (xu = u)) = true by simp [h])
        have HU := Lib.hid h
        clear h htk
        go_wp2_with (go_at_call 82; refine hW.out.mono ?_; rintro e w' ⟨rfl, hx1⟩; dsimp only; rw [HV.out])
        go_ret
        exact ⟨k, hk, hu, fun x hm => by rw [he] at hm; cases hm; exact HU.out, by simp [hlt], hx.trans hx1⟩
    · obtain rfl : k = l.length := by omega
      go_wp2_with fail
      go_ret
      exact ⟨_, Nat.le_refl _, hu, fun x hm => by simp at hm, by simp, hx⟩
end Go.Proofs.Ytclgclcoblfddaa
