/- Chapter 22: clash.Free of an anchor that is not there. -/
import Derived.Test.YtclgclcoblfddaaFree
namespace Go.Proofs.Ytclgclcoblfddaa
open Go.RowKit Go.Shelf
set_option linter.unusedVariables false
set_option linter.unusedSimpArgs false
set_option maxRecDepth 100000 in
set_option maxHeartbeats 4000000 in
theorem free_arg (w : World) (G : G7) (Aon : Option Addr) (con : Nat) (on : List Bool) (u t : Int) (ban : List Jb) (Ab : Option Addr) (cb : Nat)
    (hin : ¬ (0 ≤ u ∧ u < on.length ∧ knownB t = true)) :
    Calls Try.prog 30 #[.agg G.cs.toArray, .slice Aon on.length con, .agg #[.int .i64 u, .int .u8 t], .slice Ab ban.length cb] w
      fun e w' => e = .returned (.tuple #[.slice none 0 0, .slice none 0 0, .int .i64 2]) ∧ Ext w w' := by
  have KN := Lib.hid known_calls
  have hxe : Ext w ((w.alloc (.cells G.cs.toArray 24)).alloc (.cells #[.int .i64 u, .int .u8 t] 32)) := ((Ext.refl w).alloc _).alloc _
  by_cases c0 : u < 0
  · go_enter Try.func30, Try.ntmps30
    go_wp2_with fail
    go_step3
    go_wp2_with fail
    rw [Exit.noGoto_ret]
    refine bodyPost_ret (v := .tuple #[.slice none 0 0, .slice none 0 0, .int .i64 2]) ?_ ?_ ?_
    · exact results_tmp3 Try.results30 _ _
    · rfl
    · exact ⟨rfl, hxe⟩
  · by_cases c1 : (on.length : Int) ≤ u
    · go_enter Try.func30, Try.ntmps30
      go_wp2_with fail
      go_step3
      go_wp2_with fail
      rw [Exit.noGoto_ret]
      refine bodyPost_ret (v := .tuple #[.slice none 0 0, .slice none 0 0, .int .i64 2]) ?_ ?_ ?_
      · exact results_tmp3 Try.results30 _ _
      · rfl
      · exact ⟨rfl, hxe⟩
    · have hk : knownB t = false := by
        cases h : knownB t
        · rfl
        · exact absurd ⟨by omega, by omega, h⟩ hin
      have hK := Lib.hid (show ∀ W, Calls Try.prog 43 #[.int .u8 t] W fun e w' => e = .returned (.bool false) ∧ w' = W from fun W => by have := KN.out t W; rwa [hk] at this)
      go_enter Try.func30, Try.ntmps30
      go_wp2_with fail
      go_step3
      go_wp2_with (go_at_call 43; refine (hK.out _).mono ?_; rintro e W ⟨rfl, rfl⟩)
      rw [Exit.noGoto_ret]
      refine bodyPost_ret (v := .tuple #[.slice none 0 0, .slice none 0 0, .int .i64 2]) ?_ ?_ ?_
      · exact results_tmp3 Try.results30 _ _
      · rfl
      · exact ⟨rfl, hxe⟩
end Go.Proofs.Ytclgclcoblfddaa
