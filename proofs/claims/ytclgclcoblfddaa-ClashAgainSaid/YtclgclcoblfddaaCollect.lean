/- slices.Collect(maps.Keys(m)) where the keys are jobs. -/
import Derived.Test.YtclgclcoblfddaaGMapIn
import Derived.Test.YtclgclcoblfddaaKeyJob
import Derived.Lib.Hide
namespace Go.Proofs.Ytclgclcoblfddaa
open Go.RowKit Go.Shelf
set_option linter.unusedVariables false
set_option linter.unusedSimpArgs false
attribute [local go_sem] Oper.semAt_some

set_option maxRecDepth 100000 in
set_option maxHeartbeats 1000000 in
/-- The iterator of maps.Keys: each key once, in some order. -/
theorem keys_seq (F : Fence) (n : Nat) (hF : F.fn 85) (hro : F.round = none) (hn : 1 ≤ n) (Bm b : Nat) (es : List ((Int × Int) × Value)) (w : World) (hBm : Bm < w.heap.size)
    (hm : w.cell? ⟨Bm, 0, none⟩ = some (.map (some b))) (hown : RMap encJ w b es) :
    SeqStopsK F n Try.prog 85 #[.pointer (some ⟨Bm, 0, none⟩)] (fun x : Int × Int => #[encJ x]) KeepsWalks (fun xs => xs.Perm (es.map (·.1))) (fun _ => True) es.length w := by
  intro l J Jx W hW hJ hJx hY h0
  have hm' : W.cell? ⟨Bm, 0, none⟩ = some (.map (some b)) := (hW.cell (p := ⟨Bm, 0, none⟩) hBm).trans hm
  have hown' : RMap encJ W b es := (hW.block b hown.lt).trans hown
  refine callsIn_of_wp Try.func85 rfl hF ?_ hro
  simp only [Try.ntmps85, List.size_toArray, List.length_cons, List.length_nil, Nat.reduceAdd, Nat.reduceSub, Array.replicate_succ, Array.replicate_zero, List.push_toArray, List.append_toArray, List.nil_append, List.cons_append]
  gi_wp2_with (first
    | (gi_at_range; refine wpListIn_range rfl _ 115 34 rfl Try.underlying115 b es rfl hown' ?_; intro w0 hown0 hit0 hg0 hs0)
    | gi_in)
  gi_loopw [3] (fun _ wr => ∃ (seen : List Nat), RMap encJ wr b es ∧ RIter wr W.heap.size b es.length seen ∧ seen.Nodup ∧ (∀ i ∈ seen, i < es.length) ∧ seen.length ≤ es.length ∧ J (keysAt es seen) wr)
    (fun _ wr => es.length - came wr W.heap.size)
  case atStart =>
    exact ⟨[], hown0, hit0, List.nodup_nil, (fun i hi => by cases hi), Nat.zero_le _, hJ [] W w0 none h0 hg0 (fun r e => by cases e)⟩
  case round =>
    obtain ⟨seen, hmp, hit, hnd, hlt, hsl, hJs⟩ := hrel
    gi_wp2_with (first
      | (gi_at_next; refine wpListIn_next rfl _ rfl b W.heap.size es seen rfl hmp hit ?_ ?_)
      | gi_in)
    · intro hall
      gi_wp2
      go_end0
      exact ⟨⟨_, rfl⟩, .inl ⟨_, keysAt_all hnd hlt hall, hJs⟩⟩
    · intro i u t v w2 hi hns hmp2 hit2 hg2 hs2 hen
      have hJ2 : J (keysAt es seen) w2 := hJ _ wr w2 (some W.heap.size) hJs hg2 (fun r e => by cases e; exact ⟨Nat.le_refl _, hit.isWalk⟩)
      clear hs2
      have hen' : (Instr.entry (.pointer (some ⟨W.heap.size, 0, none⟩))).run Try.prog w2 = .ok (.tuple #[.agg #[.int .i64 u, .int .u8 t], v]) w2 := hen
      have hcm := Lib.hid hit.came
      clear hen hJs hmp hit
      have hlt2 : i < es.length := (List.getElem?_eq_some_iff.1 hi).1
      have hJ3 : J (keysAt es seen) (w2.alloc (.cells #[.int .i64 u, .int .u8 t] 32)) := hJ _ w2 _ none hJ2 (Ext.grown ((Ext.refl w2).alloc _)) (fun r e => by cases e)
      have hlt3 : ∀ j ∈ seen ++ [i], j < es.length := by
        intro j hj
        rcases List.mem_append.1 hj with h | h
        · exact hlt j h
        · rw [List.mem_singleton.1 h]; exact hlt2
      have hnd3 : (seen ++ [i]).Nodup := List.nodup_append.2 ⟨hnd, by simp, fun a ha b hb e => by rw [List.mem_singleton.1 hb] at e; exact hns (e ▸ ha)⟩
      have hsl3 : (seen ++ [i]).length ≤ es.length := by exact nodup_le _ hnd3 hlt3
      obtain ⟨fn, tmps, assign, body, hy, hR⟩ := hY _ (u, t) _ hJ3 (by rw [keysAt_length hlt]; simp at hsl3; omega)
      have hy : (Instr.yield l #[.agg #[.int .i64 u, .int .u8 t]]).run Try.prog (w2.alloc (.cells #[.int .i64 u, .int .u8 t] 32)) = _ := hy
      have hrg3 := hit2.kept (Ext.grown ((Ext.refl w2).alloc (.cells #[.int .i64 u, .int .u8 t] 32))) (by simp)
      have hmp3 := hmp2.ext ((Ext.refl w2).alloc (.cells #[.int .i64 u, .int .u8 t] 32))
      clear hJ2 hJ3 hmp2 hit2 hg2 hY
      gi_wp2
      refine hR.mono ?_
      rintro e W3 (⟨rfl, hJ4, hk3⟩ | ⟨rfl, hJx⟩)
      · gi_wp2
        go_roundw
        case rel => exact ⟨seen ++ [i], hmp3.walks hk3, hrg3.walks hk3, hnd3, hlt3, hsl3, by rw [keysAt_snoc hi]; exact hJ4⟩
        case measure =>
          rw [hcm.out, (hrg3.walks hk3).came]
          simp at hsl3 ⊢
          omega
      · gi_wp2
        refine bodyPost_ret (results_none rfl _ _ _) rfl ?_
        exact ⟨⟨_, rfl⟩, .inr ⟨_, trivial, hJx⟩⟩
def cellsJ (l : List (Int × Int)) : List Value := l.flatMap fun p => [.int .i64 p.1, .int .u8 p.2]
theorem cellsJ_snoc (l : List (Int × Int)) (p : Int × Int) : cellsJ (l ++ [p]) = cellsJ l ++ [.int .i64 p.1, .int .u8 p.2] := by simp [cellsJ]
theorem infoJob : (Try.prog.info? 32).map (fun i => (i.zero, i.size, i.bytes)) = some (some (.agg #[.int .i64 0, .int .u8 0]), 2, 16) := by kernel_rfl

set_option maxRecDepth 100000 in
set_option maxHeartbeats 2000000 in
/-- slices.AppendSeq(nil, seq), against whatever iterator. -/
theorem appendSeq_in (F : Fence) (n : Nat) (hA : F.fn 68) (hro : F.round = none) (hn : 2 ≤ n) (g : Nat) (lb : Array Value) (hFg : F.fn g) (eg : ∀ args w, (callFunc g args).run Try.prog w = .ok (.enter g args) w)
    (S : List (Int × Int) → Prop) (N : Nat) (hN : N ≤ 1000000) (w : World) (hseq : SeqStopsK F (n - 1) Try.prog g lb (fun x : Int × Int => #[encJ x]) KeepsWalks S (fun _ => True) N w) :
    CallsIn F n Try.prog 68 #[.slice none 0 0, .func (.func g) #[] lb] w fun e w' => ∃ (v : Value) (ss : List (Int × Int)), e = .returned v ∧ S ss ∧ w'.ownsRow w.heap.size 32 2 v ss.length (cellsJ ss) ∧ Below w.heap.size w w' := by
  have h1 : 1 ≤ n := by omega
  obtain ⟨i0, hi, hz0, hz1, hz2⟩ := info_parts infoJob
  refine callsIn_of_wp_marks Try.func68 rfl hA ?_ hro
  simp only [Try.ntmps68, List.size_toArray, List.length_cons, List.length_nil, Nat.reduceAdd, Nat.reduceSub, Array.replicate_succ, Array.replicate_zero, List.push_toArray, List.append_toArray, List.nil_append, List.cons_append]
  gi_wp2
  have bO := Boxed.new w 36 (.slice none 0 0)
  have hB0 : Below w.heap.size w (w.alloc (.cells #[.slice none 0 0] 36)) := (Below.refl _ w).alloc (Nat.le_refl _) _
  have hsz : (w.alloc (.cells #[.slice none 0 0] 36)).heap.size = w.heap.size + 1 := by simp
  obtain ⟨W0, hW0⟩ : ∃ W0, w.alloc (.cells #[.slice none 0 0] 36) = W0 := ⟨_, rfl⟩
  rw [hW0] at bO hB0 hsz ⊢
  clear hW0
  refine wpIn_rangeFunc_ownH hro h1 (gf := g) (lb := lb) rfl hFg eg hseq walksK_t walksK_b hB0 (fun _ => rfl)
    (fun pre W => (∃ v, Boxed W w.heap.size 36 v ∧ W.ownsRow w.heap.size 32 2 v pre.length (cellsJ pre) ∧ True) ∧ Below w.heap.size w W)
    (fun _ _ _ => False)
    (OwnFrom.and (Own.from (holdsRow_own w.heap.size w.heap.size 36 32 2 (fun pre => pre.length) (fun pre => cellsJ pre) (fun _ _ => True)) _) (ownFrom_below (Nat.le_refl _) (by omega)))
    (fun _ _ _ _ _ hs _ _ => hs)
    ⟨⟨_, bO, World.ownsRow_nil _ _ _ _, trivial⟩, hB0⟩
    (fun x a' W => ∃ Bx, w.heap.size < Bx ∧ W.heap[Bx]? = some (.cells #[.int .i64 x.1, .int .u8 x.2] 32 (0, 0)) ∧ a' = { tmps := #[.slice none 0 0, .func (.func g) #[] lb, .pointer (some ⟨w.heap.size, 0, none⟩), undef, .slice none 0 0, .pointer (some ⟨Bx, 0, none⟩), .func (.func g) #[] lb, encJ x, undef, undef, undef, undef, undef], defers := [] })
    (fun x a' _ X Y row hs hg hr => by
      obtain ⟨Bx, h1, h2, h3⟩ := hs
      refine ⟨Bx, h1, (hg.block Bx (Array.getElem?_eq_some_iff.1 h2).1 (fun e => ?_)).trans h2, h3⟩
      obtain ⟨_, o, ho, hc⟩ := hr Bx e.symm
      rw [h2] at ho; cases ho; cases hc)
    ?assign ?body ?done ?stop
  case assign =>
    rintro l pre ⟨u, t⟩ W K ⟨⟨v, hv, hrow, _⟩, hB1⟩ hK
    have hencJ : encJ (u, t) = .agg #[.int .i64 u, .int .u8 t] := rfl
    rw [hencJ] at hK ⊢
    gi_wp2
    exact hK _ _ ((KeepsOthers.alloc _ _).from _) (KeepsWalks.alloc _ _) ⟨⟨v, hv.alloc _, hrow.alloc _, trivial⟩, hB1.alloc hB1.size _⟩ ⟨W.heap.size, hv.lt, World.alloc_heap_new W _, rfl⟩
  case body =>
    rintro l pre ⟨u, t⟩ a' W hl ⟨r, hr⟩ ⟨⟨v, hv, hrow, _⟩, hB⟩ ⟨Bx, hBx, hX, rfl⟩ hlt
    have hc := hv.cell
    have c0 : W.cell? ⟨Bx, 0, none⟩ = some (.int .i64 u) := by simp [World.cell?, hX]
    have c1 : W.cell? ⟨Bx, 1, none⟩ = some (.int .u8 t) := by simp [World.cell?, hX]
    have hcell : ∀ (j : Nat) (y : Value), [Value.int .i64 u, Value.int .u8 t][j]? = some y → (W.alloc (.cells #[.int .i64 u, .int .u8 t] 32)).cell? ((⟨W.heap.size, 0, none⟩ : Addr).add j) = some y := by
      intro j y hj
      rw [show (⟨W.heap.size, 0, none⟩ : Addr).add j = ⟨W.heap.size, j, none⟩ by unfold Addr.add; split <;> simp_all]
      exact (Blk.newAt W [.int .i64 u, .int .u8 t] 32 W.heap.size rfl).cell j hj
    gi_wp2_with (gi_at_builtin; refine wpListIn_append_own _ rfl _ _ 36 rfl w.heap.size 32 i0 _ 2 16 Try.underlying36 hi hz0 hz1 hz2 rfl (by decide) _ _ _ rfl (hrow.alloc _) ⟨W.heap.size, 0, none⟩ 1 1 [.int .i64 u, .int .u8 t] rfl rfl hcell (by simp [Value.oneCell']) (by unfold maxLen; omega) (by omega) (by have := hB.size; simp; omega) ?_; intro v' w1 hown' hgrow _; obtain ⟨g', cap', rfl⟩ := ownsRow_succ hown'; obtain ⟨hv1, hv2, hr2, hk2, hb2⟩ := hv.appended (by decide) hrow hB.size (Nat.le_refl _) hown' hgrow; have hc1 := hv1.cell; have hf1 := hv1.frozen)
    have hkw : KeepsWalks W (w1.setCell ⟨w.heap.size, 0, none⟩ (.slice (some ⟨g', 0, none⟩) (pre.length + 1) cap')) := ⟨hk2.size, fun k o hk ho => hk2.same k o hk (Obj.not_cells_of_walk ho)⟩
    exact ⟨hk2.from _, hkw, ⟨⟨_, hv2, by rw [cellsJ_snoc, show (pre ++ [(u, t)]).length = pre.length + 1 by simp]; exact hr2⟩, hB.trans hb2⟩⟩
  case done =>
    rintro D ys W hD hS ⟨⟨v, hv, hrow, _⟩, hB⟩ hK
    have hc := hv.cell
    gi_wp2
    refine ⟨by simp, .inl ⟨_, _, rfl, run_takeDeferred hK, ?_⟩⟩
    exact ⟨_, results_tmp rfl _ _ _, v, ys, rfl, hS, ownsRow_putObj hrow _ hK rfl, hB.trans (belowK_b (w := w) (Nat.le_refl _) W D _ _ (by omega) hK rfl rfl)⟩
  case stop =>
    rintro D c pre W _ _ h _
    exact h.elim
end Go.Proofs.Ytclgclcoblfddaa
