/- '==' and '!=' on arrays of bytes. -/
import Derived.Test.YtgkhakndmcdniaaRefOf
import Derived.ChangeKeysEq
import Derived.Test.YtgkhakndmcdniaaSlice
namespace Go.Proofs.Ytgkhakndmcdniaa
open Go.RowKit
set_option linter.unusedVariables false
section
variable {P : Program}

theorem run_equalIn_u8 (d : Nat) {e : TypeId} (he : P.underlying e = some (.int .u8)) (a b : Int) (w : World) : (Op.equalIn (d + 1) e (.int .u8 a) (.int .u8 b)).run P w = .ok (a == b) w := by
  simp [Op.equalIn, run_underlying he]
theorem run_eqItems_u8 (d : Nat) {e : TypeId} (he : P.underlying e = some (.int .u8)) (ks ls : List Int) (w : World) : ∀ is : List Nat, (∀ i ∈ is, i < ks.length ∧ i < ls.length) →
    (Op.eqItems (d + 1) e 1 (nums8 ks).toArray (nums8 ls).toArray is).run P w = .ok (is.all fun i => ks[i]? == ls[i]?) w
  | [], _ => by simp [Op.eqItems]
  | i :: is, h => by
    have hp : P.plainKey e = true := by simp [Program.plainKey, he]
    obtain ⟨h1, h2⟩ := h i (by simp)
    obtain ⟨a, ha⟩ : ∃ a, ks[i]? = some a := ⟨ks[i], by simp [h1]⟩
    obtain ⟨b, hb⟩ : ∃ a, ls[i]? = some a := ⟨ls[i], by simp [h2]⟩
    have ih := run_eqItems_u8 d he ks ls w is (fun j hj => h j (by simp [hj]))
    have p1 : (part e (nums8 ks).toArray (i * 1)).run P w = .ok (.int .u8 a) w := run_part_plain w hp (by simp [nums8, ha])
    have p2 : (part e (nums8 ls).toArray (i * 1)).run P w = .ok (.int .u8 b) w := run_part_plain w hp (by simp [nums8, hb])
    simp only [Op.eqItems, Sem.run_bind, p1, p2, run_equalIn_u8 d he, Result.andThen_ok, List.all_cons, ha, hb]
    by_cases e : a = b
    · subst e
      simpa using ih
    · have : (a == b) = false := by simp [e]
      simp [this]
theorem run_equalIn_arr8 (d : Nat) {T e : TypeId} {n : Nat} (hT : P.underlying T = some (.array n e)) (he : P.underlying e = some (.int .u8)) (hc : P.cellsOf e = 1) {i : TypeInfo} (hi : P.info? e = some i) (ks ls : List Int) (h1 : ks.length = n) (h2 : ls.length = n) (w : World) :
    (Op.equalIn (d + 2) T (.agg (nums8 ks).toArray) (.agg (nums8 ls).toArray)).run P w = .ok (decide (ks = ls)) w := by
  rw [run_equalIn_array w (d + 1) _ _ hT hi, hc, run_eqItems_u8 d he ks ls w (List.range n) (fun i hi => by have := List.mem_range.1 hi; omega)]
  congr 1
  rw [Bool.eq_iff_iff]
  simp only [List.all_eq_true, List.mem_range, beq_iff_eq, decide_eq_true_eq]
  constructor
  · intro h
    refine List.ext_getElem? fun i => ?_
    rcases Nat.lt_or_ge i n with hi | hi
    · exact h i hi
    · rw [List.getElem?_eq_none (by omega), List.getElem?_eq_none (by omega)]
  · rintro rfl i _
    rfl
end

theorem info8 : ∃ i, Try.prog.info? 5 = some i := by
  cases h : Try.prog.info? 5 with
  | some i => exact ⟨i, rfl⟩
  | none => exact absurd h (by have : (Try.prog.info? 5).isSome = true := by kernel_rfl
                               intro h; rw [h] at this; cases this)
theorem eq16 (ks ls : List Int) (h1 : ks.length = 16) (h2 : ls.length = 16) (w : World) : Sem.run Try.prog (binOp .eql 22 (.agg (nums8 ks).toArray) (.agg (nums8 ls).toArray)) w = .ok (.bool (decide (ks = ls))) w := by
  obtain ⟨i, hi⟩ := info8
  rw [run_eql_struct, show (10000 : Nat) = 9998 + 2 from rfl, run_equalIn_arr8 9998 Try.underlying22 Try.underlying5 (by kernel_rfl) hi ks ls h1 h2 w]
  rfl
theorem eqKey (ks ls : List Int) (h1 : ks.length = 16) (h2 : ls.length = 16) (w : World) : Sem.run Try.prog (binOp .eql 23 (.agg (nums8 ks).toArray) (.agg (nums8 ls).toArray)) w = .ok (.bool (decide (ks = ls))) w := by
  obtain ⟨i, hi⟩ := info8
  rw [run_eql_struct, show (10000 : Nat) = 9998 + 2 from rfl, run_equalIn_arr8 9998 Try.underlying23 Try.underlying5 (by kernel_rfl) hi ks ls h1 h2 w]
  rfl
theorem neKey (ks ls : List Int) (h1 : ks.length = 16) (h2 : ls.length = 16) (w : World) : Sem.run Try.prog (binOp .neq 23 (.agg (nums8 ks).toArray) (.agg (nums8 ls).toArray)) w = .ok (.bool (!decide (ks = ls))) w := by
  obtain ⟨i, hi⟩ := info8
  rw [run_neq_struct, show (10000 : Nat) = 9998 + 2 from rfl, run_equalIn_arr8 9998 Try.underlying23 Try.underlying5 (by kernel_rfl) hi ks ls h1 h2 w]
  rfl

/-- The hash of bytes. -/
theorem HashAt.new {W : World} {g : Nat} {T : TypeId} (ks : List Int) (h : Blk W g ((initV ks).vals ++ nums8 [0, 0, 0, 0, 0, 0, 0, 0] ++ [.int .i64 0]) T) : HashAt W g T ks [] := by
  refine ⟨initV ks, [0, 0, 0, 0, 0, 0, 0, 0], rfl, rfl, h.congr ?_⟩
  rw [List.append_assoc]
  rfl
theorem HashAt.ext {W W' : World} {g : Nat} {T : TypeId} {ks m : List Int} (h : HashAt W g T ks m) (hx : Ext W W') : HashAt W' g T ks m := by
  obtain ⟨v, left, h1, h2, h3⟩ := h
  exact ⟨v, left, h1, h2, h3.ext hx⟩

set_option maxHeartbeats 1000000 in
theorem ssum_calls (ks : List Int) (hk : ks.length = 16) (msg : List Int) (A : Option Addr) (cap : Nat) (w : World) (hr : RdV w A (nums8 msg)) (hlen : msg.length ≤ 4611686018427387904) :
    Calls Try.prog 9 #[.agg (nums8 ks).toArray, .slice A msg.length cap] w fun e w' => e = .returned (.int .u64 (sipSum ks msg)) ∧ Ext w w' := by
  have hT : isRowT Try.prog 23 (nums8 ks).length := by rw [nums8_length, hk]; exact rowKey
  have CA : ∀ (g : Nat) (W : World), HashAt W g 52 ks [] → Ext w W → w.heap.size ≤ g → Calls Try.prog 12 #[.pointer (some ⟨g, 0, none⟩), .slice A msg.length cap] W fun e w' => e = .returned (.tuple #[]) ∧ HashAt w' g 52 ks msg ∧ But g W w' := fun g W h hx hg => by
    refine add_calls ks [] msg A cap g _ W h (hr.ext hx) (fun hm a e => ?_) (by simpa using hlen)
    obtain ⟨b, o, hA, hlt⟩ := hr.lt (by intro h; exact hm (List.map_eq_nil_iff.1 h))
    rw [hA] at e
    cases e
    show b ≠ g
    omega
  have HT := Lib.hid hT
  have CA' := Lib.hid CA
  have hb0 : Blk (w.alloc (.cells (nums8 ks).toArray 23)) w.heap.size (nums8 ks) 23 := Blk.new _ _ _
  clear hT CA hr
  go_enter Try.func9, Try.ntmps9
  go_wp2_with (refine wpList_load_blk rfl 23 (.tmp 2) rfl w.heap.size rfl HT.out hb0 ?_)
  refine (new_calls ks hk _).mono ?_
  rintro e W1 ⟨g, rfl, hx1, hg, hb1⟩
  replace hx1 : Ext w W1 := ((Ext.refl w).alloc _).trans hx1
  have hgw : w.heap.size ≤ g := by simp at hg; omega
  have hH := HashAt.new ks hb1
  clear hg hb1 hb0
  go_wp2_with fail
  refine (CA'.out g W1 hH hx1 hgw).mono ?_
  rintro e W2 ⟨rfl, hH2, ho2⟩
  have hx2 := But.toNew hx1 ho2 hgw
  clear hH hx1 ho2 CA'
  go_wp2_with fail
  refine (hsum_calls ks msg g _ W2 hH2 hlen).mono ?_
  rintro e W3 ⟨rfl, hx3⟩
  go_wp2_with fail
  go_ret
  exact ⟨rfl, hx2.trans hx3⟩
end Go.Proofs.Ytgkhakndmcdniaa
