/- Chapter 21: sets of jobs. -/
import Derived.Test.YtclgclcoblfddaaReachL
import Derived.Test.YtclgclcoblfddaaKeysM
namespace Go.Proofs.Ytclgclcoblfddaa
open Go.RowKit Go.Shelf
set_option linter.unusedVariables false
set_option linter.unusedSimpArgs false
def one? (b : Bool) : Option Value := if b then some (.int .i64 1) else none
/-- The set of those that B tells. -/
def SetM (W : World) (b : Nat) (B : Jb → Bool) : Prop := ∃ es, RMap encJ W b es ∧ FM es fun k => one? (B k)
theorem SetM.ext {W W' : World} {b : Nat} {B : Jb → Bool} (h : SetM W b B) (hx : Ext W W') : SetM W' b B := by
  obtain ⟨es, h1, h2⟩ := h
  exact ⟨es, h1.ext hx, h2⟩
theorem SetM.kept {W W' : World} {b : Nat} {B : Jb → Bool} (h : SetM W b B) {row : Option Nat} (hg : W.grownBy W' row) (hne : some b ≠ row) : SetM W' b B := by
  obtain ⟨es, h1, h2⟩ := h
  exact ⟨es, h1.kept hg hne, h2⟩
theorem SetM.lt {W : World} {b : Nat} {B : Jb → Bool} (h : SetM W b B) : b < W.heap.size := by
  obtain ⟨es, h1, h2⟩ := h
  exact h1.lt
theorem one_put {B : Jb → Bool} (x : Jb) : (fun k => if k = x then some (Value.int .i64 1) else one? (B k)) = fun k => one? (marked B x k) := by
  funext k
  unfold one? marked
  by_cases h : k = x <;> simp [h]
theorem zeroInt' (w : World) : (zeroValue 3).run Try.prog w = .ok (.int .i64 0) w := by kernel_rfl
theorem SetM.look {W : World} {b : Nat} {B : Jb → Bool} (h : SetM W b B) (u t : Int) :
    (Instr.lookup 87 (.map (some b)) (.agg #[.int .i64 u, .int .u8 t]) false).run Try.prog W = .ok (.int .i64 (if B (u, t) then 1 else 0)) W := by
  obtain ⟨es, h1, h2⟩ := h
  have := h1.look keyJob Try.underlying87 (zeroInt' W) (u, t)
  rw [h2.val] at this
  rw [show (Value.agg #[.int .i64 u, .int .u8 t]) = encJ (u, t) from rfl, this]
  unfold one?
  cases B (u, t) <;> rfl
theorem lookSet_nil (W : World) (u t : Int) : (Instr.lookup 87 (.map none) (.agg #[.int .i64 u, .int .u8 t]) false).run Try.prog W = .ok (.int .i64 0) W :=
  look_nil keyJob Try.underlying87 (zeroInt' W) (u, t)
set_option maxHeartbeats 1000000 in
theorem setOf_calls (l : List Jb) (A : Option Addr) (cap : Nat) (w : World) (hr : RdJ w A l) (hlen : l.length ≤ 1000000) :
    Calls Try.prog 70 #[.slice A l.length cap] w fun e w' => ∃ b, e = .returned (.map (some b)) ∧ w.heap.size ≤ b ∧ SetM w' b (fun k => decide (k ∈ l)) ∧ Ext w w' := by
  go_enter Try.func70, Try.ntmps70
  have hmm := @run_makeMap Try.prog
  go_upto_region 2 with (fail)
  refine wp_gen (fun W => RMap encJ W w.heap.size ([] : List ((Int × Int) × Value)) ∧ Ext w W) ⟨RMap.made encJ w, (Ext.refl w).alloc _⟩ ?_
  obtain ⟨b, hb⟩ : ∃ b, w.heap.size = b := ⟨_, rfl⟩
  rw [hb]
  rintro W0 ⟨hm0, hx0⟩
  clear hmm
  go_wp2_with fail
  go_loopw [9] (fun i W => ∃ (k : Nat) (es : List ((Int × Int) × Value)), k ≤ l.length ∧ i = .int .i64 k ∧ RMap encJ W b es ∧ FM es (fun q => one? (decide (q ∈ l.take k))) ∧ Ext w W) (fun i _ => l.length - (RowKit.intOf i).toNat)
  case atStart => exact ⟨0, [], by omega, rfl, hm0, FM.nil, hx0⟩
  case round =>
    clear hm0 hx0
    obtain ⟨k, es, hk, rfl, hmp, hj, hx⟩ := hrel
    by_cases hlt : k < l.length
    · have hlti : (k : Int) < l.length := by omega
      obtain ⟨b1, o1, u, t, rfl, he, f1, f2⟩ := (hr.ext hx).at hlt
      have htk : l.take (k + 1) = l.take k ++ [(u, t)] := by rw [List.take_succ_eq_append_getElem hlt]; congr 2; rw [List.getElem?_eq_getElem hlt] at he; exact Option.some.inj he
      have hp := hj.put (u, t) (.int .i64 1)
      have hfe : (fun q : Jb => if q = (u, t) then some (Value.int .i64 1) else one? (decide (q ∈ l.take k))) = fun q => one? (decide (q ∈ l.take (k + 1))) := by
        funext q
        rw [htk]
        unfold one?
        by_cases h : q = (u, t) <;> simp [h]
      rw [hfe] at hp
      have HP := Lib.hid hp
      have hbw := hmp.lt
      have hwb : w.heap.size ≤ wr.heap.size := hx.size
      clear hp htk he hfe
      go_wp2_with (refine wpList_put keyJob rfl (.tmp 13) (.tmp 14) (.const (.int .i64 1)) 87 3 rfl Try.underlying87 b es rfl (hmp.ext ((Ext.refl wr).alloc _)) (u, t) (.int .i64 1) rfl rfl ?_; rintro W2 h1 h2)
      go_roundw
      case rel => exact ⟨k + 1, _, by omega, by go_num, h1, HP.out, Below.grown (hx.alloc _) h2 (hx.alloc _).size (fun k e => by cases e; omega)⟩
      case measure => simp [RowKit.intOf]; omega
    · obtain rfl : k = l.length := by omega
      rw [List.take_of_length_le (Nat.le_refl _)] at hj
      go_wp2_with fail
      go_ret
      exact ⟨b, rfl, by omega, ⟨es, hmp, hj⟩, hx⟩
end Go.Proofs.Ytclgclcoblfddaa
