/- Chapter 16: the document's stamp, and the contract of stamp.Put. -/
import Derived.Test.YthgepclmlhbbaaaStampPut
import Derived.Lib.SlBytesConst
namespace Go.Proofs.Ythgepclmlhbbaaa
open Go.RowKit
set_option linter.unusedVariables false
set_option linter.unusedSimpArgs false

theorem sipSum_range (ks m : List Int) : 0 ≤ sipSum ks m ∧ sipSum ks m < 18446744073709551616 := by
  unfold sipSum finish xor64 bits IntKind.wrap
  simp only [IntKind.signed, IntKind.bits]
  constructor
  · simp
    omega
  · simp
    omega
def stampKey : List Int := [99, 108, 101, 112, 115, 121, 100, 114, 97, 32, 115, 116, 97, 109, 112, 115]
def zero16 : List Int := [0, 0, 0, 0, 0, 0, 0, 0, 0, 0, 0, 0, 0, 0, 0, 0]
def magicL : List Int := [67, 76, 69, 80, 1, 0, 0, 0]
theorem stampKey_bytes : Bytes stampKey := by
  intro c hc
  simp [stampKey] at hc
  constructor <;> omega
def stHead (s : ByteArray) (u : Int) : List Int := magicL ++ le8 8 (sipSum stampKey (bytesOf s)) ++ le8 8 u
def stampOf (s : ByteArray) (u : Int) : List Int := stHead s u ++ le8 8 (sipSum stampKey (stHead s u))
def okSt (s : ByteArray) (u : Int) : Bool := okNm s && decide (0 ≤ u) && decide (u < 7258118400000000)
theorem stHead_length (s : ByteArray) (u : Int) : (stHead s u).length = 24 := by simp [stHead, le8_length, magicL]
theorem stampOf_length (s : ByteArray) (u : Int) : (stampOf s u).length = 32 := by simp [stampOf, stHead_length, le8_length]
theorem stampOf_bytes (s : ByteArray) (u : Int) : Bytes (stampOf s u) := by
  have hm : Bytes magicL := by
    intro c hc
    simp [magicL] at hc
    constructor <;> omega
  exact ((hm.append (le8_bytes _ _)).append (le8_bytes _ _)).append (le8_bytes _ _)

theorem wpList_load_blkF {w : World} {ops : Array Oper} {rest : List Oper} {o : Oper} {a : Act} {Q : Exit → Act → World → Prop} (hw : Region.wanted o (yielded ops a.tmps) = true) (T : TypeId) (x : Operand) (ho : o.op = .load T x)
    (g : Nat) (hx : a.eval x = .pointer (some ⟨g, 0, none⟩)) {cs : List Value} {T' : TypeId} {fr : Nat × Nat} (hT : isRowT Try.prog T cs.length) (hb : w.heap[g]? = some (.cells cs.toArray T' fr))
    (h : wpList Try.prog ops Q rest (a.put o.dst (.agg cs.toArray)) w) : wpList Try.prog ops Q (o :: rest) a w := by
  unfold wpList
  rw [if_pos hw]
  refine .inl ?_
  rcases hT.parts with ⟨fs, hu⟩ | ⟨n, e, hu⟩
  · exact wp_load_row T x ho g hx T' cs.toArray fr _ hb hu rfl (by simpa using hT.2) h
  · exact wp_load_row T x ho g hx T' cs.toArray fr _ hb hu rfl (by simpa using hT.2) h

theorem wpList_convert_const {P : Program} {w w0 : World} {ops : Array Oper} {rest : List Oper} {o : Oper} {a : Act} {Q : Exit → Act → World → Prop} (hw : Region.wanted o (yielded ops a.tmps) = true) (t e : TypeId) (x : Operand) (ho : o.op = .convert t t x)
    (ht : P.underlying t = some (.slice e)) (he : P.underlying e = some (.int .u8)) (C : Array Value) (g n c : Nat) (hx : a.eval x = .slice (some ⟨g, 0, none⟩) n c) (hW : w = w0.alloc (.cells C e)) (hg : w0.heap.size = g)
    (h : wpList P ops Q rest (a.put o.dst (.slice (some ⟨g, 0, none⟩) n c)) (w0.alloc (.cells C e (C.size, C.size + 1)))) : wpList P ops Q (o :: rest) a w := by
  subst hW
  subst hg
  unfold wpList
  rw [if_pos hw]
  refine .inl ?_
  unfold Oper.wp
  simp only [execOp, ho, hx, Sem.run_bind, Lib.run_convert_bytes_const w0 t e C n c ht he, Result.andThen]
  exact h

theorem results_cell {P : Program} {fn : Func} {p : Tmp} {T : TypeId} (h : fn.results = #[.cell p T]) (tmps : Array Value) (w : World) {g : Nat} {cs : List Value} {T' : TypeId}
    (hp : tmps.getD p undef = .pointer (some ⟨g, 0, none⟩)) (hT : isRowT P T cs.length) (hb : Blk w g cs T') : (results fn tmps).run P w = .ok (.agg cs.toArray) w := by
  have hp' : tmps[p]?.getD undef = .pointer (some ⟨g, 0, none⟩) := by simpa using hp
  simp [results, h, hp', asAddr, run_loadVar_blk hT hb]

set_option maxHeartbeats 1000000 in
theorem key_calls (w : World) : Calls Try.prog 17 #[] w fun e w' => e = .returned (.agg (nums8 stampKey).toArray) ∧ Ext w w' := by
  have hb0 : Blk (w.alloc (.cells (nums8 zero16).toArray 45)) w.heap.size (nums8 zero16) 45 := Blk.new _ _ _
  have hu := Try.underlying45
  have hg : ((w.alloc (.cells (nums8 zero16).toArray 45)).alloc (.cells (nums8 stampKey).toArray 5 (16, 17))).heap[w.heap.size + 1]? = some (.cells (nums8 stampKey).toArray 5 (16, 17)) := by
    have := heap_alloc_new (w.alloc (.cells (nums8 zero16).toArray 45)) (.cells (nums8 stampKey).toArray 5 (16, 17))
    simpa using this
  have ha : ∀ W, (Instr.arrayAt 45 (.slice (some ⟨w.heap.size + 1, 0, none⟩) 16 16)).run Try.prog W = .ok (.pointer (some ⟨w.heap.size + 1, 0, none⟩)) W := fun W => by
    simp [Instr.arrayAt, run_underlying Try.underlying45]
  go_enter Try.func17, Try.ntmps17
  go_wp2_with (first | (refine wpList_convert_const rfl 23 5 (.tmp 1) rfl Try.underlying23 Try.underlying5 (nums8 stampKey).toArray (w.heap.size + 1) 16 16 rfl rfl (by simp) ?_; refine wpList_gen (fun W => W.heap[w.heap.size + 1]? = some (.cells (nums8 stampKey).toArray 5 (16, 17)) ∧ Blk W w.heap.size (nums8 zero16) 45 ∧ Ext w W) ⟨hg, hb0.alloc _, ((Ext.refl w).alloc _).alloc _⟩ ?_; rintro W1 ⟨hg1, hb1, hx1⟩) | (refine wpList_load_blkF rfl 45 (.tmp 3) rfl (w.heap.size + 1) rfl (cs := nums8 stampKey) rowKey hg1 ?_) | (refine wpList_store_blk rfl 45 (.tmp 0) (.tmp 4) rfl w.heap.size rfl (nums8 stampKey) rfl hb1 rowKey rfl rfl ?_; intro W hb ho))
  exact bodyPost_ret (v := .agg (nums8 stampKey).toArray) (results_cell Try.results17 _ W rfl rowKey hb) rfl ⟨rfl, But.toNew hx1 ho (Nat.le_refl _)⟩
end Go.Proofs.Ythgepclmlhbbaaa
