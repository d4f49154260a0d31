/- Chapter 21: the keys of the maps of closure. -/
import Derived.Test.YtclgclcoblfddaaSorted
namespace Go.Proofs.Ytclgclcoblfddaa
open Go.RowKit Go.Shelf
set_option linter.unusedVariables false
set_option linter.unusedSimpArgs false
attribute [local go_sem] Oper.semAt_some
set_option maxRecDepth 100000 in
set_option maxHeartbeats 1000000 in
/-- The iterator of maps.Keys: each key once, in some order. -/
theorem keysM_seq (F : Fence) (n : Nat) (hF : F.fn 69) (hro : F.round = none) (hn : 1 ≤ n) (Bm b : Nat) (es : List ((Int × Int) × Value)) (w : World) (hBm : Bm < w.heap.size)
    (hm : w.cell? ⟨Bm, 0, none⟩ = some (.map (some b))) (hown : RMap encJ w b es) :
    SeqStopsK F n Try.prog 69 #[.pointer (some ⟨Bm, 0, none⟩)] (fun x : Int × Int => #[encJ x]) KeepsWalks (fun xs => xs.Perm (es.map (·.1))) (fun _ => True) es.length w := by
  intro l J Jx W hW hJ hJx hY h0
  have hm' : W.cell? ⟨Bm, 0, none⟩ = some (.map (some b)) := (hW.cell (p := ⟨Bm, 0, none⟩) hBm).trans hm
  have hown' : RMap encJ W b es := (hW.block b hown.lt).trans hown
  refine callsIn_of_wp Try.func69 rfl hF ?_ hro
  simp only [Try.ntmps69, List.size_toArray, List.length_cons, List.length_nil, Nat.reduceAdd, Nat.reduceSub, Array.replicate_succ, Array.replicate_zero, List.push_toArray, List.append_toArray, List.nil_append, List.cons_append]
  gi_wp2_with (first
    | (gi_at_range; refine wpListIn_range rfl _ 82 84 rfl Try.underlying82 b es rfl hown' ?_; intro w0 hown0 hit0 hg0 hs0)
    | gi_in)
  gi_loopw [3] (fun _ wr => ∃ (seen : List Nat), RMap encJ wr b es ∧ RIter wr W.heap.size b es.length seen ∧ seen.Nodup ∧ (∀ i ∈ seen, i < es.length) ∧ seen.length ≤ es.length ∧ J (keysAt es seen) wr)
    (fun _ wr => es.length - came wr W.heap.size)
  case atStart =>
    exact ⟨[], hown0, hit0, List.nodup_nil, (fun i hi => by cases hi), Nat.zero_le _, hJ [] W w0 none h0 hg0 (fun r e => by cases e)⟩
  case round =>
    obtain ⟨seen, hmp, hit, hnd, hlt, hsl, hJs⟩ := hrel
    gi_wp2_with (first
      | (gi_at_next; refine wpListIn_next rfl _ rfl b W.heap.size es seen rfl hmp hit ?_ ?_)
      | gi_in)
    · intro hall
      gi_wp2
      go_end0
      exact ⟨⟨_, rfl⟩, .inl ⟨_, keysAt_all hnd hlt hall, hJs⟩⟩
    · intro i u t v w2 hi hns hmp2 hit2 hg2 hs2 hen
      have hJ2 : J (keysAt es seen) w2 := hJ _ wr w2 (some W.heap.size) hJs hg2 (fun r e => by cases e; exact ⟨Nat.le_refl _, hit.isWalk⟩)
      clear hs2
      have hen' : (Instr.entry (.pointer (some ⟨W.heap.size, 0, none⟩))).run Try.prog w2 = .ok (.tuple #[.agg #[.int .i64 u, .int .u8 t], v]) w2 := hen
      have hcm := Lib.hid hit.came
      clear hen hJs hmp hit
      have hlt2 : i < es.length := (List.getElem?_eq_some_iff.1 hi).1
      have hJ3 : J (keysAt es seen) (w2.alloc (.cells #[.int .i64 u, .int .u8 t] 32)) := hJ _ w2 _ none hJ2 (Ext.grown ((Ext.refl w2).alloc _)) (fun r e => by cases e)
      have hlt3 : ∀ j ∈ seen ++ [i], j < es.length := by
        intro j hj
        rcases List.mem_append.1 hj with h | h
        · exact hlt j h
        · rw [List.mem_singleton.1 h]; exact hlt2
      have hnd3 : (seen ++ [i]).Nodup := List.nodup_append.2 ⟨hnd, by simp, fun a ha b hb e => by rw [List.mem_singleton.1 hb] at e; exact hns (e ▸ ha)⟩
      have hsl3 : (seen ++ [i]).length ≤ es.length := by exact nodup_le _ hnd3 hlt3
      obtain ⟨fn, tmps, assign, body, hy, hR⟩ := hY _ (u, t) _ hJ3 (by rw [keysAt_length hlt]; simp at hsl3; omega)
      have hy : (Instr.yield l #[.agg #[.int .i64 u, .int .u8 t]]).run Try.prog (w2.alloc (.cells #[.int .i64 u, .int .u8 t] 32)) = _ := hy
      have hrg3 := hit2.kept (Ext.grown ((Ext.refl w2).alloc (.cells #[.int .i64 u, .int .u8 t] 32))) (by simp)
      have hmp3 := hmp2.ext ((Ext.refl w2).alloc (.cells #[.int .i64 u, .int .u8 t] 32))
      clear hJ2 hJ3 hmp2 hit2 hg2 hY
      gi_wp2
      refine hR.mono ?_
      rintro e W3 (⟨rfl, hJ4, hk3⟩ | ⟨rfl, hJx⟩)
      · gi_wp2
        go_roundw
        case rel => exact ⟨seen ++ [i], hmp3.walks hk3, hrg3.walks hk3, hnd3, hlt3, hsl3, by rw [keysAt_snoc hi]; exact hJ4⟩
        case measure =>
          rw [hcm.out, (hrg3.walks hk3).came]
          simp at hsl3 ⊢
          omega
      · gi_wp2
        refine bodyPost_ret (results_none rfl _ _ _) rfl ?_
        exact ⟨⟨_, rfl⟩, .inr ⟨_, trivial, hJx⟩⟩
theorem keysM_f (b : Nat) (w : World) : Calls Try.prog 45 #[.map (some b)] w fun e w' => e = .returned (.func (.func 69) #[] #[.pointer (some ⟨w.heap.size, 0, none⟩)]) ∧ w' = w.alloc (.cells #[.map (some b)] 82) := by
  go_enter Try.func45, Try.ntmps45
  go_wp2_with fail
  go_ret
  exact ⟨rfl, rfl⟩
theorem collectM_calls (Bm b : Nat) (es : List ((Int × Int) × Value)) (w : World) (hBm : Bm < w.heap.size) (hm : w.cell? ⟨Bm, 0, none⟩ = some (.map (some b))) (hown : RMap encJ w b es) (hN : es.length ≤ 1000000) :
    Calls Try.prog 44 #[.func (.func 69) #[] #[.pointer (some ⟨Bm, 0, none⟩)]] w fun e w' => ∃ (v : Value) (ss : List (Int × Int)), e = .returned v ∧ ss.Perm (es.map (·.1)) ∧ w'.ownsRow w.heap.size 32 2 v ss.length (cellsJ ss) ∧ Below w.heap.size w w' :=
  collect_calls 69 #[.pointer (some ⟨Bm, 0, none⟩)] (enters_of Try.func69 (by kernel_rfl) rfl) _ _ hN w (fun n hn => keysM_seq Fence.wide n trivial rfl hn Bm b es w hBm hm hown)
set_option maxRecDepth 100000 in
set_option maxHeartbeats 1000000 in
/-- The iterator of maps.Keys: each key once, in some order. -/
theorem keysS_seq (F : Fence) (n : Nat) (hF : F.fn 84) (hro : F.round = none) (hn : 1 ≤ n) (Bm b : Nat) (es : List ((Int × Int) × Value)) (w : World) (hBm : Bm < w.heap.size)
    (hm : w.cell? ⟨Bm, 0, none⟩ = some (.map (some b))) (hown : RMap encJ w b es) :
    SeqStopsK F n Try.prog 84 #[.pointer (some ⟨Bm, 0, none⟩)] (fun x : Int × Int => #[encJ x]) KeepsWalks (fun xs => xs.Perm (es.map (·.1))) (fun _ => True) es.length w := by
  intro l J Jx W hW hJ hJx hY h0
  have hm' : W.cell? ⟨Bm, 0, none⟩ = some (.map (some b)) := (hW.cell (p := ⟨Bm, 0, none⟩) hBm).trans hm
  have hown' : RMap encJ W b es := (hW.block b hown.lt).trans hown
  refine callsIn_of_wp Try.func84 rfl hF ?_ hro
  simp only [Try.ntmps84, List.size_toArray, List.length_cons, List.length_nil, Nat.reduceAdd, Nat.reduceSub, Array.replicate_succ, Array.replicate_zero, List.push_toArray, List.append_toArray, List.nil_append, List.cons_append]
  gi_wp2_with (first
    | (gi_at_range; refine wpListIn_range rfl _ 87 3 rfl Try.underlying87 b es rfl hown' ?_; intro w0 hown0 hit0 hg0 hs0)
    | gi_in)
  gi_loopw [3] (fun _ wr => ∃ (seen : List Nat), RMap encJ wr b es ∧ RIter wr W.heap.size b es.length seen ∧ seen.Nodup ∧ (∀ i ∈ seen, i < es.length) ∧ seen.length ≤ es.length ∧ J (keysAt es seen) wr)
    (fun _ wr => es.length - came wr W.heap.size)
  case atStart =>
    exact ⟨[], hown0, hit0, List.nodup_nil, (fun i hi => by cases hi), Nat.zero_le _, hJ [] W w0 none h0 hg0 (fun r e => by cases e)⟩
  case round =>
    obtain ⟨seen, hmp, hit, hnd, hlt, hsl, hJs⟩ := hrel
    gi_wp2_with (first
      | (gi_at_next; refine wpListIn_next rfl _ rfl b W.heap.size es seen rfl hmp hit ?_ ?_)
      | gi_in)
    · intro hall
      gi_wp2
      go_end0
      exact ⟨⟨_, rfl⟩, .inl ⟨_, keysAt_all hnd hlt hall, hJs⟩⟩
    · intro i u t v w2 hi hns hmp2 hit2 hg2 hs2 hen
      have hJ2 : J (keysAt es seen) w2 := hJ _ wr w2 (some W.heap.size) hJs hg2 (fun r e => by cases e; exact ⟨Nat.le_refl _, hit.isWalk⟩)
      clear hs2
      have hen' : (Instr.entry (.pointer (some ⟨W.heap.size, 0, none⟩))).run Try.prog w2 = .ok (.tuple #[.agg #[.int .i64 u, .int .u8 t], v]) w2 := hen
      have hcm := Lib.hid hit.came
      clear hen hJs hmp hit
      have hlt2 : i < es.length := (List.getElem?_eq_some_iff.1 hi).1
      have hJ3 : J (keysAt es seen) (w2.alloc (.cells #[.int .i64 u, .int .u8 t] 32)) := hJ _ w2 _ none hJ2 (Ext.grown ((Ext.refl w2).alloc _)) (fun r e => by cases e)
      have hlt3 : ∀ j ∈ seen ++ [i], j < es.length := by
        intro j hj
        rcases List.mem_append.1 hj with h | h
        · exact hlt j h
        · rw [List.mem_singleton.1 h]; exact hlt2
      have hnd3 : (seen ++ [i]).Nodup := List.nodup_append.2 ⟨hnd, by simp, fun a ha b hb e => by rw [List.mem_singleton.1 hb] at e; exact hns (e ▸ ha)⟩
      have hsl3 : (seen ++ [i]).length ≤ es.length := by exact nodup_le _ hnd3 hlt3
      obtain ⟨fn, tmps, assign, body, hy, hR⟩ := hY _ (u, t) _ hJ3 (by rw [keysAt_length hlt]; simp at hsl3; omega)
      have hy : (Instr.yield l #[.agg #[.int .i64 u, .int .u8 t]]).run Try.prog (w2.alloc (.cells #[.int .i64 u, .int .u8 t] 32)) = _ := hy
      have hrg3 := hit2.kept (Ext.grown ((Ext.refl w2).alloc (.cells #[.int .i64 u, .int .u8 t] 32))) (by simp)
      have hmp3 := hmp2.ext ((Ext.refl w2).alloc (.cells #[.int .i64 u, .int .u8 t] 32))
      clear hJ2 hJ3 hmp2 hit2 hg2 hY
      gi_wp2
      refine hR.mono ?_
      rintro e W3 (⟨rfl, hJ4, hk3⟩ | ⟨rfl, hJx⟩)
      · gi_wp2
        go_roundw
        case rel => exact ⟨seen ++ [i], hmp3.walks hk3, hrg3.walks hk3, hnd3, hlt3, hsl3, by rw [keysAt_snoc hi]; exact hJ4⟩
        case measure =>
          rw [hcm.out, (hrg3.walks hk3).came]
          simp at hsl3 ⊢
          omega
      · gi_wp2
        refine bodyPost_ret (results_none rfl _ _ _) rfl ?_
        exact ⟨⟨_, rfl⟩, .inr ⟨_, trivial, hJx⟩⟩
theorem keysS_f (b : Nat) (w : World) : Calls Try.prog 71 #[.map (some b)] w fun e w' => e = .returned (.func (.func 84) #[] #[.pointer (some ⟨w.heap.size, 0, none⟩)]) ∧ w' = w.alloc (.cells #[.map (some b)] 87) := by
  go_enter Try.func71, Try.ntmps71
  go_wp2_with fail
  go_ret
  exact ⟨rfl, rfl⟩
theorem collectS_calls (Bm b : Nat) (es : List ((Int × Int) × Value)) (w : World) (hBm : Bm < w.heap.size) (hm : w.cell? ⟨Bm, 0, none⟩ = some (.map (some b))) (hown : RMap encJ w b es) (hN : es.length ≤ 1000000) :
    Calls Try.prog 44 #[.func (.func 84) #[] #[.pointer (some ⟨Bm, 0, none⟩)]] w fun e w' => ∃ (v : Value) (ss : List (Int × Int)), e = .returned v ∧ ss.Perm (es.map (·.1)) ∧ w'.ownsRow w.heap.size 32 2 v ss.length (cellsJ ss) ∧ Below w.heap.size w w' :=
  collect_calls 84 #[.pointer (some ⟨Bm, 0, none⟩)] (enters_of Try.func84 (by kernel_rfl) rfl) _ _ hN w (fun n hn => keysS_seq Fence.wide n trivial rfl hn Bm b es w hBm hm hown)
end Go.Proofs.Ytclgclcoblfddaa
