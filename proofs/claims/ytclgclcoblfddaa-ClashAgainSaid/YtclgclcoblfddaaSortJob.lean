/- jobs.order: Job's order, and that it may be handed to the sort. -/
import Derived.Test.YtclgclcoblfddaaCollect
import Derived.Test.YtclgclcoblfddaaMix
import Derived.Test.YtclgclcoblfddaaSortShelf
import Derived.Shelf.SlSortCmp.NoneTotal
import Derived.Deep.QuietTactic
import Derived.BigQuiet
import Derived.LoopN
import Derived.Handy
namespace Go.Proofs.Ytclgclcoblfddaa
open Go.RowKit Go.Shelf Go.Sort
set_option linter.unusedVariables false
set_option linter.unusedSimpArgs false

def cmpI (a b : Int) : Int := if a < b then -1 else if b < a then 1 else 0
theorem nan_int (a : Int) (w : World) : Calls Try.prog 99 #[.int .i64 a] w fun e w' => e = .returned (.bool false) ∧ w = w' := by
  go_enter Try.func99, Try.ntmps99
  go_wp2_with fail
  go_ret
  exact ⟨by simp, rfl⟩
theorem nan_u8 (a : Int) (w : World) : Calls Try.prog 100 #[.int .u8 a] w fun e w' => e = .returned (.bool false) ∧ w = w' := by
  go_enter Try.func100, Try.ntmps100
  go_wp2_with fail
  go_ret
  exact ⟨by simp, rfl⟩
theorem cmp_int (a b : Int) (w : World) : Calls Try.prog 87 #[.int .i64 a, .int .i64 b] w fun e w' => e = .returned (.int .i64 (cmpI a b)) ∧ w = w' := by
  have h1 : a < b → cmpI a b = -1 := fun h => if_pos h
  have h2 : ¬ a < b → b < a → cmpI a b = 1 := fun h k => by unfold cmpI; rw [if_neg h, if_pos k]
  have h3 : ¬ a < b → ¬ b < a → cmpI a b = 0 := fun h k => by unfold cmpI; rw [if_neg h, if_neg k]
  by_cases c1 : a < b
  · have HE := Lib.hid (h1 c1)
    clear h1 h2 h3
    go_enter Try.func87, Try.ntmps87
    go_wp2_with (go_at_call 99; refine (nan_int _ _).mono ?_; rintro e w' ⟨rfl, rfl⟩)
    go_ret
    exact ⟨by rw [HE.out]; rfl, rfl⟩
  · by_cases c2 : b < a
    · have HE := Lib.hid (h2 c1 c2)
      clear h1 h2 h3
      go_enter Try.func87, Try.ntmps87
      go_wp2_with (go_at_call 99; refine (nan_int _ _).mono ?_; rintro e w' ⟨rfl, rfl⟩)
      go_ret
      exact ⟨by rw [HE.out]; rfl, rfl⟩
    · have HE := Lib.hid (h3 c1 c2)
      clear h1 h2 h3
      go_enter Try.func87, Try.ntmps87
      go_wp2_with (go_at_call 99; refine (nan_int _ _).mono ?_; rintro e w' ⟨rfl, rfl⟩)
      go_ret
      exact ⟨by rw [HE.out]; rfl, rfl⟩
theorem cmp_u8 (a b : Int) (w : World) : Calls Try.prog 88 #[.int .u8 a, .int .u8 b] w fun e w' => e = .returned (.int .i64 (cmpI a b)) ∧ w = w' := by
  have h1 : a < b → cmpI a b = -1 := fun h => if_pos h
  have h2 : ¬ a < b → b < a → cmpI a b = 1 := fun h k => by unfold cmpI; rw [if_neg h, if_pos k]
  have h3 : ¬ a < b → ¬ b < a → cmpI a b = 0 := fun h k => by unfold cmpI; rw [if_neg h, if_neg k]
  by_cases c1 : a < b
  · have HE := Lib.hid (h1 c1)
    clear h1 h2 h3
    go_enter Try.func88, Try.ntmps88
    go_wp2_with (go_at_call 100; refine (nan_u8 _ _).mono ?_; rintro e w' ⟨rfl, rfl⟩)
    go_ret
    exact ⟨by rw [HE.out]; rfl, rfl⟩
  · by_cases c2 : b < a
    · have HE := Lib.hid (h2 c1 c2)
      clear h1 h2 h3
      go_enter Try.func88, Try.ntmps88
      go_wp2_with (go_at_call 100; refine (nan_u8 _ _).mono ?_; rintro e w' ⟨rfl, rfl⟩)
      go_ret
      exact ⟨by rw [HE.out]; rfl, rfl⟩
    · have HE := Lib.hid (h3 c1 c2)
      clear h1 h2 h3
      go_enter Try.func88, Try.ntmps88
      go_wp2_with (go_at_call 100; refine (nan_u8 _ _).mono ?_; rintro e w' ⟨rfl, rfl⟩)
      go_ret
      exact ⟨by rw [HE.out]; rfl, rfl⟩
def orI (x y : Int) : Int := if x = 0 then y else x
theorem or_int (x y : Int) (b : Nat) (w : World) (c0 : w.cell? ⟨b, 0, none⟩ = some (.int .i64 x)) (c1 : w.cell? ⟨b, 1, none⟩ = some (.int .i64 y)) :
    Calls Try.prog 86 #[.slice (some ⟨b, 0, none⟩) 2 2] w fun e w' => e = .returned (.int .i64 (orI x y)) ∧ w = w' := by
  have h1 : x = 0 → orI x y = y := fun h => if_pos h
  have h2 : ¬ x = 0 → orI x y = x := fun h => if_neg h
  have HP := Lib.hid (And.intro h1 h2)
  clear h1 h2
  go_enter Try.func86, Try.ntmps86
  go_wp2_with fail
  go_loop [8] (fun i => ∃ k : Nat, k ≤ 2 ∧ i = .int .i64 k ∧ (1 ≤ k → x = 0) ∧ (2 ≤ k → y = 0)) (fun i => 2 - (RowKit.intOf i).toNat)
  case atStart => exact ⟨0, by omega, rfl, fun h => by omega, fun h => by omega⟩
  case round =>
    obtain ⟨k, hk, rfl, hx, hy⟩ := hrel
    have HX := Lib.hid hx
    have HY := Lib.hid hy
    clear hx hy
    rcases (show k = 0 ∨ k = 1 ∨ k = 2 by omega) with rfl | rfl | rfl
    · by_cases hz : x = 0
      · have hb : (x != 0) = false := by simpa using hz
        have HZ := Lib.hid hz
        clear hz
        go_wp2_with fail
        go_round
        case rel => exact ⟨1, by omega, rfl, fun _ => HZ.out, fun h => by omega⟩
        case measure => simp [RowKit.intOf]
      · have hb : (x != 0) = true := by simpa using hz
        have HZ := Lib.hid (HP.out.2 hz)
        clear hz
        go_wp2_with fail
        go_ret
        exact ⟨by rw [HZ.out]; rfl, rfl⟩
    · by_cases hz : y = 0
      · have hb : (y != 0) = false := by simpa using hz
        have HZ := Lib.hid hz
        clear hz
        go_wp2_with fail
        go_round
        case rel => exact ⟨2, by omega, rfl, fun _ => HX.out (by omega), fun _ => HZ.out⟩
        case measure => simp [RowKit.intOf]
      · have hb : (y != 0) = true := by simpa using hz
        have HZ := Lib.hid (HP.out.1 (HX.out (by omega)))
        clear hz
        go_wp2_with fail
        go_ret
        exact ⟨by rw [HZ.out]; rfl, rfl⟩
    · have HZ := Lib.hid ((HP.out.1 (HX.out (by omega))).trans (HY.out (by omega)))
      go_wp2_with fail
      go_ret
      exact ⟨by rw [HZ.out]; rfl, rfl⟩
def cmpJ (a b : Int × Int) : Int := orI (cmpI a.1 b.1) (cmpI a.2 b.2)
def encJc (p : Int × Int) : List Value := [.int .i64 p.1, .int .u8 p.2]
set_option maxHeartbeats 1000000 in
theorem order_job (x y : Int × Int) (w : World) : Calls Try.prog 74 #[.agg (encJc x).toArray, .agg (encJc y).toArray] w fun e w' => e = .returned (.int .i64 (cmpJ x y)) ∧ ∃ q os', w' = grow (w.drewN q) os' := by
  obtain ⟨u, t⟩ := x
  obtain ⟨v, s⟩ := y
  obtain ⟨c1, h1⟩ : ∃ c, cmpI u v = c := ⟨_, rfl⟩
  obtain ⟨c2, h2⟩ : ∃ c, cmpI t s = c := ⟨_, rfl⟩
  have HC := Lib.hid (show cmpJ (u, t) (v, s) = orI c1 c2 by unfold cmpJ; rw [h1, h2])
  have H1 := Lib.hid fun W => cmp_int u v W
  have H2 := Lib.hid fun W => cmp_u8 t s W
  rw [h1] at H1
  rw [h2] at H2
  clear h1 h2
  show Calls Try.prog 74 #[.agg #[.int .i64 u, .int .u8 t], .agg #[.int .i64 v, .int .u8 s]] w _
  go_enter Try.func74, Try.ntmps74
  go_wp2_with fail
  refine wp_region_drew_tail 9 (by kernel_rfl) (by kernel_rfl) ?_; simp only [List.take_succ_cons, List.take_zero, List.drop_succ_cons, List.drop_zero]; (repeat (quiet_step ((go_at_call 87; exact Calls.quiet_of_same ((H1.out _).mono fun e w' h => ⟨h.1, h.2.symm⟩))))); refine wpQuiet_nil ?_; rintro _ ⟨nq, rfl⟩
  go_wp2_with (first | (go_at_call 88; refine (H2.out _).mono ?_; rintro e w' ⟨rfl, rfl⟩) | (go_at_call 86; refine (or_int c1 c2 _ _ ?ha ?hb).mono ?_; (case ha => go_simp); (case hb => go_simp); rintro e w' ⟨rfl, rfl⟩))
  go_ret
  exact ⟨by rw [HC.out]; rfl, nq, #[.cells #[.int .i64 u, .int .u8 t] 32, .cells #[.int .i64 v, .int .u8 s] 32, .cells #[.int .i64 c1, .int .i64 c2] 3], by
    rw [alloc_eq_grow, alloc_eq_grow, alloc_eq_grow, show ∀ (W : World) os, (grow W os).drewN nq = grow (W.drewN nq) os from fun _ _ => rfl, show ∀ (W : World) os, (grow W os).drewN nq = grow (W.drewN nq) os from fun _ _ => rfl, grow_grow, grow_grow]
    rfl⟩
theorem cmpLays (blk off size : Nat) (w : World) : CmpLays Try.prog 74 #[] encJc 2 cmpJ blk off size w := fun _ _ _ _ x y => order_job x y _
/-- Ahead, by unit and type. -/
def ltJ (a b : Int × Int) : Bool := decide (a.1 < b.1 ∨ a.1 = b.1 ∧ a.2 < b.2)
theorem ltOf_cmpJ (a b : Int × Int) : ltOf cmpJ a b = ltJ a b := by
  unfold ltOf ltJ cmpJ orI cmpI
  rw [decide_eq_decide]
  split <;> split <;> (try split) <;> (try split) <;> omega
theorem swoJ : SWO (ltOf cmpJ) where
  irrefl x := by rw [ltOf_cmpJ]; simp [ltJ]
  trans x y z h1 h2 := by rw [ltOf_cmpJ] at *; simp only [ltJ, decide_eq_true_eq] at *; omega
  ntrans x y z h1 h2 := by rw [ltOf_cmpJ] at *; simp only [ltJ, decide_eq_false_iff_not] at *; omega
theorem totJ (x y : Int × Int) (h1 : ltOf cmpJ x y = false) (h2 : ltOf cmpJ y x = false) : x = y := by
  rw [ltOf_cmpJ] at *
  simp only [ltJ, decide_eq_false_iff_not] at *
  obtain ⟨a, b⟩ := x
  obtain ⟨c, d⟩ := y
  simp only at *
  have : a = c := by omega
  have : b = d := by omega
  simp [*]
def sortJ (ss : List (Int × Int)) : List (Int × Int) := ss.mergeSort fun x y => !(ltOf cmpJ) y x
theorem cellsJ_length (l : List (Int × Int)) : (cellsJ l).length = l.length * 2 := by
  induction l with
  | nil => rfl
  | cons p l ih => simp only [cellsJ, List.flatMap_cons, List.length_append, List.length_cons, List.length_nil] at *; omega
theorem flatK_cells (l : List (Int × Int)) : (flatK encJc 2 l.toArray).toList = cellsJ l := by
  apply List.ext_getElem?
  intro t
  by_cases ht : t < l.length * 2
  · have h1 : (flatK encJc 2 l.toArray).toList[t]? = some ((encJc l.toArray[t / 2]!)[t % 2]!) := by
      have hs : t < (flatK encJc 2 l.toArray).size := by rw [size_flatK]; simpa using ht
      rw [Array.getElem?_toList, Array.getElem?_eq_getElem hs, ← get_flatK encJc 2 l.toArray t (by simpa using ht), getElem!_pos _ t hs]
    rw [h1]
    clear h1
    induction l generalizing t with
    | nil => simp at ht
    | cons p l ih =>
      have hc : cellsJ (p :: l) = .int .i64 p.1 :: .int .u8 p.2 :: cellsJ l := rfl
      rw [hc]
      match t, ht with
      | 0, _ => rfl
      | 1, _ => rfl
      | t + 2, ht =>
        have := ih t (by simp at ht; omega)
        rw [show (t + 2) / 2 = t / 2 + 1 by omega, show (t + 2) % 2 = t % 2 by omega]
        simpa using this
  · rw [List.getElem?_eq_none (by rw [Array.length_toList, size_flatK]; simp; omega), List.getElem?_eq_none (by rw [cellsJ_length]; omega)]
end Go.Proofs.Ytclgclcoblfddaa
