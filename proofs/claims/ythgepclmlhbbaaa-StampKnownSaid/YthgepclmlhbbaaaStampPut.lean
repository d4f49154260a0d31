/- Chapter 16: a stamp's bytes: what stamp.Put and the document's Put hand back. -/
import Derived.Test.YthgepclmlhbbaaaStampRight
import Derived.Test.YthgepclmlhbbaaaMix
import Derived.IntWalk
namespace Go.Proofs.Ythgepclmlhbbaaa
open Go.RowKit
set_option linter.unusedVariables false
set_option linter.unusedSimpArgs false

def le8 (k : Nat) (n : Int) : List Int := (List.range k).map fun j => n / 256 ^ j % 256
theorem le8_succ (k : Nat) (n : Int) : le8 (k + 1) n = le8 k n ++ [n / 256 ^ k % 256] := by simp [le8, List.range_succ]
theorem le8_length (k : Nat) (n : Int) : (le8 k n).length = k := by simp [le8]
theorem le8_bytes (k : Nat) (n : Int) : Bytes (le8 k n) := fun c hc => by
  obtain ⟨j, _, rfl⟩ := List.mem_map.1 hc
  exact ⟨by omega, by omega⟩
theorem Ext.below {a b c : World} {B : Nat} (h : Ext a b) (k : Below B b c) (hB : a.heap.size ≤ B) : Ext a c := Below.trans h (k.mono hB)

/-- A row of the call's own, or the constant's row, which has no room. -/
def OwnF (W : World) (base : Nat) (v : Value) (n : Nat) (xs : List Value) : Prop :=
  W.ownsRow base 5 1 v n xs ∨ ∃ g, v = .slice (some ⟨g, 0, none⟩) n n ∧ base ≤ g ∧ W.heap[g]? = some (.cells xs.toArray 5 (n, n + 1)) ∧ xs.length = n ∧ n ≤ maxLen
theorem OwnF.notNil {W : World} {base n : Nat} {v : Value} {xs : List Value} (h : OwnF W base v n xs) : ∀ k, v.ownBlock = some k → base ≤ k := by
  rcases h with h | ⟨g, rfl, hb, _⟩
  · exact Owns.notNil h
  · intro k hk
    cases hk
    exact hb
theorem OwnF.kept {w w' : World} {row : Option Nat} {base n : Nat} {v : Value} {xs : List Value} (h : OwnF w base v n xs) (hg : w.grownBy w' row) (hne : ∀ k, v.ownBlock = some k → row ≠ some k) : OwnF w' base v n xs := by
  rcases h with h | ⟨g, rfl, hb, hg', h1, h2⟩
  · refine .inl (h.kept hg ?_)
    cases hv : v.ownBlock with
    | none => exact .inl rfl
    | some k => exact .inr (Ne.symm (hne k hv))
  · exact .inr ⟨g, rfl, hb, Grown.heap hg hg' (Ne.symm (hne g rfl)), h1, h2⟩
theorem OwnF.ext {w w' : World} {base n : Nat} {v : Value} {xs : List Value} (h : OwnF w base v n xs) (hx : Ext w w') : OwnF w' base v n xs := h.kept (Ext.grown hx) (fun _ _ e => by cases e)
theorem OwnF.but {w w' : World} {base n g : Nat} {v : Value} {xs : List Value} (h : OwnF w base v n xs) (hx : But g w w') (hg : g < base) : OwnF w' base v n xs :=
  h.kept (But.grown hx) (fun k hk e => by cases e; have := h.notNil _ hk; omega)
theorem OwnF.set {w : World} {base n g : Nat} {v : Value} {xs : List Value} (h : OwnF w base v n xs) (i : Nat) (u : Value) (hg : g < base) : OwnF (w.setCell ⟨g, i, none⟩ u) base v n xs := h.but ((But.refl g w).set i u) hg
theorem OwnF.ne {w : World} {base n B : Nat} {v : Value} {xs cs : List Value} {T : TypeId} (h : OwnF w base v n xs) (hb : Blk w B cs T) (hT : T ≠ 5) : v.ownBlock ≠ some B := by
  intro e
  have key : ∀ (c : Array Value) (fr : Nat × Nat), w.heap[B]? = some (.cells c 5 fr) → False := fun c fr h1 => by
    unfold Blk at hb
    rw [h1] at hb
    injection hb with hb
    injection hb with _ hb
    exact hT hb.symm
  rcases h with h | ⟨g, rfl, _, hg, _⟩
  · rcases h.2 with ⟨rfl, _⟩ | ⟨g, cap, cur, rfl, _, hg, _⟩
    · cases e
    · cases e
      exact key _ _ hg
  · cases e
    exact key _ _ hg
theorem OwnF.setNe {w : World} {base n g : Nat} {v : Value} {xs : List Value} (h : OwnF w base v n xs) (i : Nat) (u : Value) (hg : v.ownBlock ≠ some g) : OwnF (w.setCell ⟨g, i, none⟩ u) base v n xs :=
  h.kept (But.grown ((But.refl g w).set i u)) (fun k hk e => by cases e; exact hg hk)
theorem OwnF.shape {w : World} {base n : Nat} {v : Value} {xs : List Value} (h : OwnF w base v n xs) : ∃ A cap, v = .slice A n cap ∧ n ≤ cap ∧ xs.length = n ∧ (xs = [] ∧ A = none ∨ ∃ g, A = some ⟨g, 0, none⟩ ∧ base ≤ g ∧ ∀ j u, xs[j]? = some u → w.cell? ⟨g, j, none⟩ = some u) := by
  rcases h with h | ⟨g, rfl, hb, hg', h1, h2⟩
  · exact Owns.shape h
  · refine ⟨_, _, rfl, Nat.le_refl _, h1, .inr ⟨g, rfl, hb, fun j u hu => ?_⟩⟩
    rw [cell_of_row w g j _ _ _ hg']
    simpa using hu
theorem wpList_append1F {w : World} {ops : Array Oper} {rest : List Oper} {o : Oper} {a : Act} {Q : Exit → Act → World → Prop} (hgd : o.guard = none) (s x : Operand)
    (ho : o.op = .call { callee := .builtin .append, args := #[s, x], argTypes := #[23, 23] })
    (base : Nat) (v : Value) (n : Nat) (xs : List Value) (hs : a.eval s = v) (hown : OwnF w base v n xs)
    (g c : Nat) (u : Value) (hx : a.eval x = .slice (some ⟨g, 0, none⟩) 1 c) (hc : w.cell? ⟨g, 0, none⟩ = some u) (h1 : u.oneCell' = true)
    (h63 : n + 1 ≤ maxLen) (hbytes : (n + 1) * 1 ≤ 140737488355328) (hbase : base ≤ w.heap.size)
    (h : ∀ v' w', w'.ownsRow base 5 1 v' (n + 1) (xs ++ [u]) → w.grownBy w' v.ownBlock → wpList Try.prog ops Q rest (a.put o.dst v') w') : wpList Try.prog ops Q (o :: rest) a w := by
  obtain ⟨i0, hi, hz0, hz1, hz2⟩ := info_parts info8p
  rcases hown with hown | ⟨g', rfl, hb, hg', h1', h2⟩
  · exact wpList_append1 hgd s x _ ho base 5 i0 (.int .u8 0) 1 Try.underlying23 hi hz0 hz1 hz2 rfl v n xs hs hown g c u hx hc h1 h63 hbytes hbase h
  · refine wpList_append_grows w hgd s x _ ho 5 i0 (.int .u8 0) 1 1 Try.underlying23 hi hz0 hz1 hz2 rfl (by decide) (some ⟨g', 0, none⟩) n n xs hs (fun e => by cases e) (by omega) ?_ ⟨g, 0, none⟩ 1 c [u] hx rfl ?_ ?_ (by omega) h63 hbytes ?_
    · intro b hb' j u' hu
      cases hb'
      have : (⟨g', 0, none⟩ : Addr).add j = ⟨g', j, none⟩ := by unfold Addr.add; split <;> simp_all
      rw [this, cell_of_row w g' j _ _ _ hg']
      simpa using hu
    · intro j y hj
      cases j with
      | zero => cases hj; exact hc
      | succ j => cases hj
    · intro y hy
      rw [List.mem_singleton.1 hy]
      exact h1
    · intro v' w' ho' hg2
      refine h v' w' ⟨ho'.1, ?_⟩ ⟨hg2.os, hg2.tape, hg2.output, hg2.size, fun k hk _ => hg2.block k hk (by simp)⟩
      rcases ho'.2 with h0 | ⟨g2, cap, cur, e1, e2, e3⟩
      · exact .inl h0
      · exact .inr ⟨g2, cap, cur, e1, by omega, e3⟩

set_option maxRecDepth 100000 in
set_option maxHeartbeats 4000000 in
theorem put_calls (N : Int) (B base : Nat) (v : Value) (n : Nat) (xs : List Int) (w : World) (hb : Blk w B [v] 23) (hown : OwnF w base v n (nums8 xs)) (hB : base ≤ B) (hbase : base ≤ w.heap.size) (hn : n ≤ 1000) :
    Calls Try.prog 15 #[.int .u64 N, .pointer (some ⟨B, 0, none⟩)] w fun e w' => ∃ v', e = .returned (.tuple #[]) ∧ Blk w' B [v'] 23 ∧ OwnF w' base v' (n + 8) (nums8 (xs ++ le8 8 N)) ∧ Below base w w' := by
  go_enter Try.func15, Try.ntmps15
  go_wp2_with fail
  go_loopw [3, 4] (fun _ i W => ∃ (k : Nat) (v : Value), k ≤ 8 ∧ i = .int .i64 k ∧ Blk W B [v] 23 ∧ OwnF W base v (n + k) (nums8 (xs ++ le8 k N)) ∧ Below base w W ∧ base ≤ W.heap.size) (fun _ i _ => 8 - (intOf i).toNat)
  case atStart => exact ⟨0, v, by omega, rfl, hb, by simpa [le8] using hown, Below.refl _ _, hbase⟩
  case round =>
    clear hb hown hbase
    obtain ⟨k, v, hk, rfl, hb, hown, hbel, hbase⟩ := hrel
    by_cases hlt : k < 8
    · have hlti : (k : Int) < 8 := by omega
      have c0 := hb.cell 0 rfl
      go_wp2_with fail
      obtain ⟨m, hm⟩ : ∃ m : Nat, 8 * k = m := ⟨_, rfl⟩
      have hm56 : m ≤ 56 := by omega
      have hwm : IntKind.i64.wrap (8 * (k : Int)) = (m : Int) := by rw [← hm]; exact IntWalk.i64_in _ (by omega)
      have hm0 : (0 : Int) ≤ (m : Int) := Int.natCast_nonneg _
      have hmin : min m 64 = m := by omega
      have Hm := Lib.hid hm
      clear hm
      have f0 := hb.frozen 0
      have ag : some B ≠ v.ownBlock := Ne.symm (hown.ne hb (by decide))
      have HM := Lib.hid (show n + k + 1 ≤ maxLen by unfold maxLen; omega)
      refine wp_region_mix (fun w' => w'.cell? ⟨B, 0, none⟩ = some v) 7 [(0, true), (1, true), (2, true), (3, true), (4, true), (5, true), (6, false), (7, false), (8, false)] (by kernel_rfl) (by kernel_rfl) (c0) ?_
      (apply mix_read; (case ho => rfl); (case hw => rfl); (case h1 => intro W' hx; (try dsimp only at hx); go_simp; (try go_bits); with_reducible rfl); (case hp => go_simp; first | done | with_reducible rfl))
      (apply mix_read; (case ho => rfl); (case hw => rfl); (case h1 => intro W' hx; (try dsimp only at hx); go_simp; (try go_bits); with_reducible rfl); (case hp => go_simp; first | done | with_reducible rfl))
      (apply mix_read; (case ho => rfl); (case hw => rfl); (case h1 => intro W' hx; (try dsimp only at hx); go_simp; (try go_bits); with_reducible rfl); (case hp => go_simp; first | done | with_reducible rfl))
      (apply mix_read; (case ho => rfl); (case hw => rfl); (case h1 => intro W' hx; (try dsimp only at hx); go_simp; (try go_bits); with_reducible rfl); (case hp => go_simp; first | done | with_reducible rfl))
      (apply mix_read; (case ho => rfl); (case hw => rfl); (case h1 => intro W' hx; (try dsimp only at hx); go_simp; (try go_bits); with_reducible rfl); (case hp => go_simp; first | done | with_reducible rfl))
      (apply mix_read; (case ho => rfl); (case hw => rfl); (case h1 => intro W' hx; (try dsimp only at hx); go_simp; (try go_bits); with_reducible rfl); (case hp => go_simp; first | done | with_reducible rfl))
      refine mix_loud rfl ?_; intro KY hKY
      go_wp2_with fail
      refine ⟨((hb.alloc _).drew).cell 0 rfl, ?_⟩
      refine mix_end 7 (by kernel_rfl) (by kernel_rfl) ?_; simp only [List.take_succ_cons, List.take_zero, List.drop_succ_cons, List.drop_zero]; unfold Q0
      obtain ⟨c, hc⟩ : ∃ c, N / 2 ^ m % 256 = c := ⟨_, rfl⟩
      rw [hc]
      refine wpList_gen (fun W => Blk W B [v] 23 ∧ Blk W wr.heap.size [.int .u8 c] 5 ∧ OwnF W base v (n + k) (nums8 (xs ++ le8 k N)) ∧ Below base w W ∧ base ≤ W.heap.size)
        ⟨(hb.alloc _).drew, (Blk.new _ [.int .u8 c] _).drew, (hown.ext ((Ext.refl _).alloc _ |>.drew)), (hbel.alloc (by omega) _).drew, by simp; omega⟩ ?_
      have Hc := Lib.hid hc
      clear hb hown hbel hbase c0 f0 hc
      rintro W1 ⟨hb, hb1, hown, hbel, hbase⟩
      have HC := Lib.hid (hb1.cell 0 rfl)
      clear hb1
      obtain ⟨g, hg⟩ : ∃ g, wr.heap.size = g := ⟨_, rfl⟩
      rw [hg] at HC ⊢
      clear hg
      go_wp2_with (at_builtin; refine wpList_append1F rfl (.tmp 7) (.tmp 13) rfl base v (n + k) (nums8 (xs ++ le8 k N)) rfl hown g 1 (.int .u8 c) rfl HC.out rfl HM.out (by omega) (by omega) ?_; intro v2 W2 hown2 hg2; have hb2 := Grown.blk hg2 hb ag; have c2 := hb2.cell 0 rfl; have f2 := hb2.frozen 0; obtain ⟨A2, cap2, rfl, hcap2, hsh2⟩ := Owns.shape hown2; clear hsh2)
      go_wp2_with fail
      go_roundw
      case rel =>
        have hlt : B < W1.heap.size := hb.lt
        have hz := hg2.size
        refine ⟨k + 1, _, by omega, by go_num, (hb2.set 0 _), ?_, ?_, ?_⟩
        · rw [show nums8 (xs ++ le8 (k + 1) N) = nums8 (xs ++ le8 k N) ++ [.int .u8 c] by
            rw [le8_succ, nums8_append, nums8_append, nums8_append, ← Hc.out, ← Hm.out, Int.pow_mul]
            simp [nums8]]
          exact (show OwnF _ base _ _ _ from .inl hown2).setNe _ _ (OwnF.ne (.inl hown2) hb2 (by decide))
        · refine ((hbel.trans ?_).setCell hB _)
          exact ⟨hg2.os, hg2.tape, hg2.output, hz, fun i hi => hg2.block i (Nat.lt_of_lt_of_le hi (by omega)) (fun e => by have := hown.notNil _ e.symm; omega)⟩
        · simp
          omega
      case measure => simp [intOf]; omega
    · obtain rfl : k = 8 := by omega
      go_wp2_with fail
      refine bodyPost_end (v := .tuple #[]) ?_ rfl ⟨v, rfl, hb, hown, hbel⟩
      simp [results, Try.results15, go_sem]
      trace_state
end Go.Proofs.Ythgepclmlhbbaaa
