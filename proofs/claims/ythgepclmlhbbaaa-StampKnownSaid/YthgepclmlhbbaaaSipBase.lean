/- Bytes and strings, and the contract of sip.Sum: what several chapters need of chapter 4. -/
import Derived.Test.YthgepclmlhbbaaaSlice
import Derived.Test.YthgepclmlhbbaaaOwn
import Derived.Laws.BytesArg
import Derived.ChangeKeysEq
namespace Go.Proofs.Ythgepclmlhbbaaa
open Go.RowKit
set_option linter.unusedVariables false
set_option linter.unusedSimpArgs false

theorem rowKey : isRowT Try.prog 45 16 := ⟨by kernel_rfl, by kernel_rfl⟩
theorem row16 : isRowT Try.prog 44 16 := ⟨by kernel_rfl, by kernel_rfl⟩
theorem nums8_length (l : List Int) : (nums8 l).length = l.length := by simp [nums8]
theorem nums8_one (l : List Int) : (nums8 l).all (·.oneCell') = true := by simp [nums8]; intro x _; rfl
theorem info8p : (Try.prog.info? 5).map (fun i => (i.zero, i.size, i.bytes)) = some (some (.int .u8 0), 1, 1) := by kernel_rfl
theorem nums8_append (a b : List Int) : nums8 (a ++ b) = nums8 a ++ nums8 b := by simp [nums8]
theorem bytesOf_strOf (xs : List Int) (h : Bytes xs) : bytesOf (strOfNums xs) = xs := by
  unfold bytesOf
  rw [strOfNums_data, List.map_map]
  conv => rhs; rw [← List.map_id xs]
  refine List.map_congr_left fun c hc => ?_
  obtain ⟨h0, h1⟩ := h c hc
  simp
  omega
theorem Bytes.append {a b : List Int} (ha : Bytes a) (hb : Bytes b) : Bytes (a ++ b) := fun c hc => by
  rcases List.mem_append.1 hc with h | h
  · exact ha c h
  · exact hb c h
theorem strOf_append (a b : List Int) : strOfNums (a ++ b) = strOfNums a ++ strOfNums b := by
  apply ByteArray.ext
  simp [strOfNums]
/-- 'string(b)'. -/
theorem run_string_of {P : Program} {w : World} {src e dst : TypeId} (hs : P.underlying src = some (.slice e)) (he : P.underlying e = some (.int .u8)) (hd : P.underlying dst = some .string) {A : Option Addr} {xs : List Int} (h : RdV w A (nums8 xs)) (cap : Nat) :
    (convert src dst (.slice A xs.length cap)).run P w = .ok (.string (strOfNums xs)) w := by
  rcases h with h | ⟨b, o, rfl, h⟩
  · have : xs = [] := List.map_eq_nil_iff.1 h
    subst this
    rw [run_convert_bytes_string w src dst e _ _ _ hs he hd]
    cases A with
    | none => simp [Conv.bytesToString]; rfl
    | some a =>
      have h0 : (loadCells a 0).run P w = .ok #[] w := run_loadCells_list (P := P) w a [] (fun j v hv => by cases hv)
      have := run_bytesToString (P := P) w a 0 cap [] (by simpa using h0)
      rw [List.length_nil, this]
      rfl
  · refine run_convert_bytes_arg w src e hs he b o xs.length cap xs rfl (fun i hi => ?_) dst hd
    rw [h i (.int .u8 xs[i]) (by simp [nums8, hi])]
    rw [List.getD_eq_getElem?_getD, List.getElem?_eq_getElem hi]
    rfl
theorem wpList_string {P : Program} {w : World} {ops : Array Oper} {rest : List Oper} {o : Oper} {a : Act} {Q : Exit → Act → World → Prop} (hw : Region.wanted o (yielded ops a.tmps) = true) (src dst : TypeId) (x : Operand) (ho : o.op = .convert src dst x)
    {e : TypeId} (hs : P.underlying src = some (.slice e)) (he : P.underlying e = some (.int .u8)) (hd : P.underlying dst = some .string) (A : Option Addr) (n cap : Nat) (hx : a.eval x = .slice A n cap) (xs : List Int) (hn : xs.length = n) (h : RdV w A (nums8 xs))
    (hk : wpList P ops Q rest (a.put o.dst (.string (strOfNums xs))) w) : wpList P ops Q (o :: rest) a w := by
  unfold wpList
  rw [if_pos hw]
  refine .inl ?_
  have hrun := run_string_of hs he hd h cap
  rw [hn] at hrun
  unfold Oper.wp
  simp only [execOp, ho, hx]
  simp [hrun, Result.andThen]
  exact hk
theorem Blk.rd {W : World} {g : Nat} {xs : List Int} {rest : List Value} {T : TypeId} (h : Blk W g (nums8 xs ++ rest) T) (l : Nat) : RdV W (some ⟨g, l, none⟩) (nums8 (xs.drop l)) := by
  refine .inr ⟨g, l, rfl, fun j v hv => h.cell (l + j) ?_⟩
  have hj : l + j < xs.length := by
    have := (List.getElem?_eq_some_iff.1 hv).1
    simp [nums8] at this
    omega
  rw [List.getElem?_append_left (by simpa [nums8] using hj)]
  simpa [nums8] using hv
/-- The hash of bytes. -/
theorem HashAt.new {W : World} {g : Nat} {T : TypeId} (ks : List Int) (h : Blk W g ((initV ks).vals ++ nums8 [0, 0, 0, 0, 0, 0, 0, 0] ++ [.int .i64 0]) T) : HashAt W g T ks [] := by
  refine ⟨initV ks, [0, 0, 0, 0, 0, 0, 0, 0], rfl, rfl, h.congr ?_⟩
  rw [List.append_assoc]
  rfl
theorem HashAt.ext {W W' : World} {g : Nat} {T : TypeId} {ks m : List Int} (h : HashAt W g T ks m) (hx : Ext W W') : HashAt W' g T ks m := by
  obtain ⟨v, left, h1, h2, h3⟩ := h
  exact ⟨v, left, h1, h2, h3.ext hx⟩
set_option maxHeartbeats 1000000 in
theorem ssum_calls (ks : List Int) (hk : ks.length = 16) (msg : List Int) (A : Option Addr) (cap : Nat) (w : World) (hr : RdV w A (nums8 msg)) (hlen : msg.length ≤ 4611686018427387904) :
    Calls Try.prog 16 #[.agg (nums8 ks).toArray, .slice A msg.length cap] w fun e w' => e = .returned (.int .u64 (sipSum ks msg)) ∧ Ext w w' := by
  have hT : isRowT Try.prog 45 (nums8 ks).length := by rw [nums8_length, hk]; exact rowKey
  have CA : ∀ (g : Nat) (W : World), HashAt W g 65 ks [] → Ext w W → w.heap.size ≤ g → Calls Try.prog 24 #[.pointer (some ⟨g, 0, none⟩), .slice A msg.length cap] W fun e w' => e = .returned (.tuple #[]) ∧ HashAt w' g 65 ks msg ∧ But g W w' := fun g W h hx hg => by
    refine add_calls ks [] msg A cap g _ W h (hr.ext hx) (fun hm a e => ?_) (by simpa using hlen)
    obtain ⟨b, o, hA, hlt⟩ := hr.lt (by intro h; exact hm (List.map_eq_nil_iff.1 h))
    rw [hA] at e
    cases e
    show b ≠ g
    omega
  have HT := Lib.hid hT
  have CA' := Lib.hid CA
  have hb0 : Blk (w.alloc (.cells (nums8 ks).toArray 45)) w.heap.size (nums8 ks) 45 := Blk.new _ _ _
  clear hT CA hr
  go_enter Try.func16, Try.ntmps16
  go_wp2_with (refine wpList_load_blk rfl 45 (.tmp 2) rfl w.heap.size rfl HT.out hb0 ?_)
  refine (new_calls ks hk _).mono ?_
  rintro e W1 ⟨g, rfl, hx1, hg, hb1⟩
  replace hx1 : Ext w W1 := ((Ext.refl w).alloc _).trans hx1
  have hgw : w.heap.size ≤ g := by simp at hg; omega
  have hH := HashAt.new ks hb1
  clear hg hb1 hb0
  go_wp2_with fail
  refine (CA'.out g W1 hH hx1 hgw).mono ?_
  rintro e W2 ⟨rfl, hH2, ho2⟩
  have hx2 := But.toNew hx1 ho2 hgw
  clear hH hx1 ho2 CA'
  go_wp2_with fail
  refine (hsum_calls ks msg g _ W2 hH2 hlen).mono ?_
  rintro e W3 ⟨rfl, hx3⟩
  go_wp2_with fail
  go_ret
  exact ⟨rfl, hx2.trans hx3⟩
end Go.Proofs.Ythgepclmlhbbaaa
