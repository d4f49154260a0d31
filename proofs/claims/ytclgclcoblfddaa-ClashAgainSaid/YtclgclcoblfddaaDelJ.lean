/- slices.IndexFunc, DeleteFunc, Clone over jobs. -/
import Derived.Test.YtclgclcoblfddaaInPlace
import Derived.Test.YtclgclcoblfddaaSetOf
import Derived.Test.YtclgclcoblfddaaWholeL
namespace Go.Proofs.Ytclgclcoblfddaa
open Go.RowKit Go.Lib
set_option linter.unusedVariables false
set_option linter.unusedSimpArgs false
/-- The first that p tells. -/
def firstP {α : Type} (p : α → Bool) : List α → Nat
  | [] => 0
  | x :: l => if p x then 0 else firstP p l + 1
theorem firstP_of {α : Type} {p : α → Bool} : ∀ {l : List α} {m : Nat}, m ≤ l.length → (∀ x ∈ l.take m, p x = false) → (∀ x, l[m]? = some x → p x = true) → firstP p l = m
  | [], m, h, _, _ => by simp at h; subst h; rfl
  | y :: l, 0, _, _, h => by
    have := h y rfl
    unfold firstP
    rw [if_pos this]
  | y :: l, m + 1, h0, h1, h2 => by
    have hy : p y = false := h1 y (by simp)
    unfold firstP
    rw [if_neg (by simp [hy]), firstP_of (by simpa using h0) (fun x hx => h1 x (by simp [hx])) (fun x hx => h2 x (by simpa using hx))]
theorem firstP_le {α : Type} (p : α → Bool) : ∀ l : List α, firstP p l ≤ l.length
  | [] => Nat.le_refl _
  | y :: l => by
    unfold firstP
    split
    · simp
    · have := firstP_le p l; simp; omega
theorem firstP_all {α : Type} {p : α → Bool} : ∀ {l : List α}, firstP p l = l.length ↔ ∀ x ∈ l, p x = false
  | [] => by simp [firstP]
  | y :: l => by
    unfold firstP
    cases h : p y with
    | true => simp [h]
    | false => simp [h]; exact firstP_all
theorem firstP_take {α : Type} {p : α → Bool} : ∀ {l : List α}, ∀ x ∈ l.take (firstP p l), p x = false
  | [], x, h => by simp at h
  | y :: l, x, h => by
    unfold firstP at h
    cases hy : p y with
    | true => rw [hy] at h; simp at h
    | false =>
      rw [hy] at h
      simp at h
      rcases h with rfl | h
      · exact hy
      · exact firstP_take x h
theorem firstP_at {α : Type} {p : α → Bool} : ∀ {l : List α} {x : α}, l[firstP p l]? = some x → p x = true
  | [], x, h => by cases h
  | y :: l, x, h => by
    unfold firstP at h
    cases hy : p y with
    | true => rw [hy] at h; simp at h; rw [← h]; exact hy
    | false => rw [hy] at h; simp at h; exact firstP_at h
set_option maxRecDepth 100000 in
theorem bans1_calls (B : Jb → Bool) (Bm b : Nat) (w : World) (hc : w.cell? ⟨Bm, 0, none⟩ = some (.map (some b))) (hs : SetM w b B) (x : Jb) :
    Calls Try.prog 58 #[encJ x, .pointer (some ⟨Bm, 0, none⟩)] w fun e w' => e = .returned (.bool (!B x)) ∧ Ext w w' := by
  obtain ⟨u, t⟩ := x
  unfold encJ
  have hl : ∀ W, Ext w W → (Instr.lookup 87 (.map (some b)) (.agg #[.int .i64 u, .int .u8 t]) false).run Try.prog W = .ok (.int .i64 (if B (u, t) then 1 else 0)) W := fun W hx => (hs.ext hx).look u t
  have hc1 : (w.alloc (.cells #[.int .i64 u, .int .u8 t] 32)).cell? ⟨Bm, 0, none⟩ = some (.map (some b)) := ((Ext.refl w).alloc _).cell hc
  cases hB : B (u, t)
  · rw [hB] at hl
    have hl1 := hl _ ((Ext.refl w).alloc (.cells #[.int .i64 u, .int .u8 t] 32))
    simp only [Bool.false_eq_true, if_false] at hl1
    go_enter Try.func58, Try.ntmps58
    go_wp2_with fail
    go_ret
    exact ⟨rfl, (Ext.refl w).alloc _⟩
  · rw [hB] at hl
    have hl1 := hl _ ((Ext.refl w).alloc (.cells #[.int .i64 u, .int .u8 t] 32))
    simp only [if_true] at hl1
    go_enter Try.func58, Try.ntmps58
    go_wp2_with fail
    go_ret
    exact ⟨rfl, (Ext.refl w).alloc _⟩
theorem indexJ_calls (p : Jb → Bool) (Bm : Nat) (l : List Jb) (A : Option Addr) (cap : Nat) (w : World) (hr : RdJ w A l) (hlen : l.length ≤ 1000000)
    (hp : ∀ W, Ext w W → ∀ x ∈ l, Calls Try.prog 58 #[encJ x, .pointer (some ⟨Bm, 0, none⟩)] W fun e w' => e = .returned (.bool (p x)) ∧ Ext W w') :
    Calls Try.prog 77 #[.slice A l.length cap, .func (.func 58) #[] #[.pointer (some ⟨Bm, 0, none⟩)]] w fun e w' => ∃ m, Hid (firstP p l = m) ∧ e = .returned (.int .i64 (if m < l.length then (m : Int) else -1)) ∧ Ext w w' := by
  go_enter Try.func77, Try.ntmps77
  go_upto_region 2 with (fail)
  go_loopw [8] (fun i W => ∃ k : Nat, k ≤ l.length ∧ i = .int .i64 k ∧ (∀ x ∈ l.take k, p x = false) ∧ Ext w W) (fun i _ => l.length - (RowKit.intOf i).toNat)
  case atStart => exact ⟨0, by omega, rfl, fun x hx => by simp at hx, Ext.refl w⟩
  case round =>
    obtain ⟨k, hk, rfl, hu, hx⟩ := hrel
    by_cases hlt : k < l.length
    · have hlti : (k : Int) < l.length := by omega
      obtain ⟨b1, o1, xu, xt, rfl, he, f1, f2⟩ := (hr.ext hx).at hlt
      have hW := hp wr hx (xu, xt) (List.mem_of_getElem? he)
      unfold encJ at hW
      replace hW := Lib.hid hW
      have htk : l.take (k + 1) = l.take k ++ [(xu, xt)] := by rw [List.take_succ_eq_append_getElem hlt]; congr 2; rw [List.getElem?_eq_getElem hlt] at he; exact Option.some.inj he
      obtain ⟨c, hc⟩ : ∃ c, p (xu, xt) = c := ⟨_, rfl⟩
      rw [hc] at hW
      have HC := Lib.hid hc
      have HTK := Lib.hid htk
      clear hc htk
      cases c
      · go_wp2_with (go_at_call 58; refine hW.out.mono ?_; rintro e w' ⟨rfl, hx1⟩; dsimp only)
        go_roundw
        case rel => exact ⟨k + 1, by omega, by go_num, fun x hm => by
          rw [HTK.out] at hm
          rcases List.mem_append.1 hm with hm | hm
          · exact hu x hm
          · rw [List.mem_singleton.1 hm]; exact HC.out, hx.trans hx1⟩
        case measure => simp [RowKit.intOf]; omega
      · have HF := Lib.hid (show firstP p l = k from firstP_of hk hu fun x hm => by rw [he] at hm; cases hm; exact HC.out)
        go_wp2_with (go_at_call 58; refine hW.out.mono ?_; rintro e w' ⟨rfl, hx1⟩; dsimp only)
        go_ret
        exact ⟨k, HF, by simp [hlt], hx.trans hx1⟩
    · obtain rfl : k = l.length := by omega
      have hf : firstP p l = l.length := firstP_of (Nat.le_refl _) hu (fun x hx => by simp at hx)
      go_wp2_with fail
      go_ret
      exact ⟨_, Lib.hid hf, by simp, hx⟩
theorem zeroJob (w : World) : (zeroValue 32).run Try.prog w = .ok (.agg #[.int .i64 0, .int .u8 0]) w := by kernel_rfl
/-- What DeleteFunc has behind it at j: i kept. -/
structure DelSt {α : Type} (p : α → Bool) (l : List α) (j i : Nat) (xs : List α) : Prop where
  len : xs.length = l.length
  hj : j ≤ l.length
  cnt : i = ((l.take j).filter fun x => !p x).length
  pre : xs.take i = (l.take j).filter fun x => !p x
  post : xs.drop j = l.drop j
theorem DelSt.first {α : Type} {p : α → Bool} {l : List α} {m : Nat} (h : firstP p l = m) (hm : m < l.length) : DelSt p l (m + 1) m l := by
  have h1 : ∀ x ∈ l.take m, p x = false := fun x hx => by rw [← h] at hx; exact firstP_take x hx
  have h2 : p l[m] = true := firstP_at (l := l) (by rw [h]; exact List.getElem?_eq_getElem hm)
  have h3 : (l.take m).filter (fun x => !p x) = l.take m := List.filter_eq_self.2 fun x hx => by simp [h1 x hx]
  have h4 : (l.take (m + 1)).filter (fun x => !p x) = l.take m := by
    rw [List.take_succ_eq_append_getElem hm, List.filter_append, h3]
    simp [h2]
  exact ⟨rfl, by omega, by rw [h4, List.length_take]; omega, h4.symm, rfl⟩
theorem DelSt.lt {α : Type} {p : α → Bool} {l : List α} {j i : Nat} {xs : List α} (h : DelSt p l j i xs) {m : Nat} (h1 : firstP p l = m) (hm : m < j) : i < j := by
  have hml : m < l.length := by have := h.hj; omega
  have h2 : p l[m] = true := firstP_at (l := l) (by rw [h1]; exact List.getElem?_eq_getElem hml)
  rw [h.cnt]
  have h3 : ((l.take j).filter fun x => !p x).length < (l.take j).length := by
    refine Nat.lt_of_le_of_ne (List.length_filter_le _ _) fun e => ?_
    have := List.length_filter_eq_length_iff.1 e l[m] (List.mem_take_iff_getElem.2 ⟨m, by omega, by simp⟩)
    simp [h2] at this
  rw [List.length_take] at h3
  omega
theorem DelSt.keep {α : Type} {p : α → Bool} {l : List α} {j i : Nat} {xs : List α} (h : DelSt p l j i xs) {x : α} (hx : l[j]? = some x) (hp : p x = false) (hij : i < j) : DelSt p l (j + 1) (i + 1) (xs.set i x) := by
  have hjl : j < l.length := (List.getElem?_eq_some_iff.1 hx).1
  have hxx : l[j] = x := by rw [List.getElem?_eq_getElem hjl] at hx; exact Option.some.inj hx
  have h1 : (l.take (j + 1)).filter (fun x => !p x) = (l.take j).filter (fun x => !p x) ++ [x] := by
    rw [List.take_succ_eq_append_getElem hjl, List.filter_append, hxx]
    simp [hp]
  have hlen := h.len
  refine ⟨by simp [hlen], by omega, by rw [h1, List.length_append, ← h.cnt]; rfl, ?_, ?_⟩
  · rw [h1, ← h.pre, List.take_succ_eq_append_getElem (by simp; omega), List.take_set_of_le (Nat.le_refl _)]
    simp
  · rw [List.drop_set_of_lt (by omega)]
    have := congrArg (List.drop 1) h.post
    rwa [List.drop_drop, List.drop_drop] at this
theorem DelSt.skip {α : Type} {p : α → Bool} {l : List α} {j i : Nat} {xs : List α} (h : DelSt p l j i xs) {x : α} (hx : l[j]? = some x) (hp : p x = true) : DelSt p l (j + 1) i xs := by
  have hjl : j < l.length := (List.getElem?_eq_some_iff.1 hx).1
  have hxx : l[j] = x := by rw [List.getElem?_eq_getElem hjl] at hx; exact Option.some.inj hx
  have h1 : (l.take (j + 1)).filter (fun x => !p x) = (l.take j).filter (fun x => !p x) := by
    rw [List.take_succ_eq_append_getElem hjl, List.filter_append, hxx]
    simp [hp]
  refine ⟨h.len, by omega, by rw [h1]; exact h.cnt, by rw [h1]; exact h.pre, ?_⟩
  have := congrArg (List.drop 1) h.post
  rwa [List.drop_drop, List.drop_drop] at this
theorem DelSt.at {α : Type} {p : α → Bool} {l : List α} {j i : Nat} {xs : List α} (h : DelSt p l j i xs) (hj : j < l.length) : xs[j]? = l[j]? := by
  have := congrArg (fun l => l[0]?) h.post
  simpa using this
set_option maxRecDepth 100000 in
set_option maxHeartbeats 2000000 in
theorem deleteJ_calls (p : Jb → Bool) (Bm : Nat) {base : Nat} {v : Value} (l : List Jb) (w : World) (h : w.ownsRow base 32 2 v l.length (cellsJ l)) (hlen : l.length ≤ 1000000)
    (hp : ∀ W, w.grownBy W v.ownBlock → ∀ x, Calls Try.prog 58 #[encJ x, .pointer (some ⟨Bm, 0, none⟩)] W fun e w' => e = .returned (.bool (p x)) ∧ Ext W w') :
    Calls Try.prog 56 #[v, .func (.func 58) #[] #[.pointer (some ⟨Bm, 0, none⟩)]] w fun e w' => ∃ v', e = .returned v' ∧ w'.ownsRow base 32 2 v' (l.filter (fun x => !p x)).length (cellsJ (l.filter (fun x => !p x))) ∧ w.grownBy w' v.ownBlock ∧ v'.ownBlock = v.ownBlock := by
  obtain ⟨A, cap, rfl, hcap, hrd, hlow⟩ := OwnsJ.rd h
  have HIX := Lib.hid (indexJ_calls p Bm l A cap w hrd hlen fun W hx x _ => hp W (Ext.grown hx |> fun g => ⟨g.os, g.tape, g.output, g.size, fun k hk _ => g.block k hk (by simp)⟩) x)
  by_cases hf : firstP p l < l.length
  · have HP := Lib.hid hp
    obtain ⟨m, hm⟩ : ∃ m, firstP p l = m := ⟨_, rfl⟩
    rw [hm] at hf
    have HM := Lib.hid hm
    have hfi : (m : Int) < l.length := by omega
    have hmm : ¬ (m : Int) = -1 := by omega
    have hD := DelSt.first hm hf
    obtain ⟨g, cap', rest, he, hg, hgl, hcap', hx2, hx3, hbk, hmax⟩ := Owns.whole h (by omega)
    cases he
    have HMX := Lib.hid hmax
    clear hp hm hrd hlow hmax
    go_enter Try.func56, Try.ntmps56
    go_wp2_with (go_at_call 77; refine HIX.out.mono ?_; rintro e w' ⟨m', hm', rfl, hx⟩; rw [show m' = m from hm'.out.symm.trans HM.out, if_pos hf]; dsimp only)
    have hgw : w.grownBy w' (some g) := ⟨hx.os, hx.tape, hx.output, hx.size, fun k hk _ => hx.block k hk⟩
    have hbk' := hbk.ext hx
    clear hbk hx hf hfi hmm hm' HIX h
    go_loopw [6, 5] (fun jv iv W => ∃ (j i : Nat) (xs : List Jb), jv = .int .i64 j ∧ iv = .int .i64 i ∧ m < j ∧ DelSt p l j i xs ∧ Blk W g (cellsJ xs ++ rest) 32 ∧ w.grownBy W (some g)) (fun jv _ _ => l.length - (RowKit.intOf jv).toNat)
    case atStart => exact ⟨m + 1, m, l, by go_num, rfl, by omega, hD, hbk', hgw⟩
    case round =>
      clear hD hbk' hgw
      obtain ⟨j, i, xs, rfl, rfl, hmj, hD, hbk, hgw⟩ := hrel
      have hij := hD.lt HM.out hmj
      have hjl := hD.hj
      have hxl := hD.len
      have hcl : (cellsJ xs ++ rest).length = cap * 2 := by
        rw [List.length_append, cellsJ_length, hxl, ← hx2, ← List.length_append]; exact hx3
      by_cases hlt : j < l.length
      · have hlti : (j : Int) < l.length := by omega
        obtain ⟨x, hx⟩ : ∃ x, l[j]? = some x := ⟨_, List.getElem?_eq_getElem hlt⟩
        obtain ⟨u, t⟩ := x
        have hxj : xs[j]? = some (u, t) := (hD.at hlt).trans hx
        have hc1 := (cellsJ_get xs j u t hxj).1
        have hc2 := (cellsJ_get xs j u t hxj).2
        have f1 : wr.cell? ⟨g, j * 2, none⟩ = some (.int .i64 u) := hbk.cell _ (by rw [List.getElem?_append_left (List.getElem?_eq_some_iff.1 hc1).1]; exact hc1)
        have f2 : wr.cell? ⟨g, j * 2 + 1, none⟩ = some (.int .u8 t) := hbk.cell _ (by rw [List.getElem?_append_left (List.getElem?_eq_some_iff.1 hc2).1]; exact hc2)
        clear hc1 hc2 hxj
        have hW := HP.out (wr.alloc (.cells #[.int .i64 u, .int .u8 t] 32)) (hgw.trans (Ext.grown ((Ext.refl wr).alloc _) |> fun q => ⟨q.os, q.tape, q.output, q.size, fun k hk _ => q.block k hk (by simp)⟩)) (u, t)
        unfold encJ at hW
        replace hW := Lib.hid hW
        obtain ⟨c, hc⟩ : ∃ c, p (u, t) = c := ⟨_, rfl⟩
        rw [hc] at hW
        have HC := Lib.hid hc
        clear hc
        cases c
        · have hk := hD.keep hx HC.out hij
          have hs2 := set_two (rest := rest) (show i < xs.length by omega) u t
          have HK := Lib.hid hk
          go_upto_region 9 with (go_at_call 58; refine hW.out.mono ?_; rintro e W2 ⟨rfl, hx1⟩; dsimp only)
          have hb2 : Blk W2 g (cellsJ xs ++ rest) 32 := (hbk.ext ((Ext.refl wr).alloc _)).ext hx1
          have hb7 : Blk W2 wr.heap.size [.int .i64 u, .int .u8 t] 32 := (Blk.newAt wr _ _ _ rfl).ext hx1
          have hg2 : w.grownBy W2 (some g) := (hgw.trans (Ext.grown ((Ext.refl wr).alloc _) |> fun q => ⟨q.os, q.tape, q.output, q.size, fun k hk _ => q.block k hk (by simp)⟩)).trans (Ext.grown hx1 |> fun q => ⟨q.os, q.tape, q.output, q.size, fun k hk _ => q.block k hk (by simp)⟩)
          have c0 := hb2.cellOf (i := i * 2) (by omega)
          have c1 := hb2.cellOf (i := i * 2 + 1) (by omega)
          have z0 : W2.frozen? ⟨g, i * 2, none⟩ = false := by have hb0 : W2.heap[g]? = _ := hb2; simp [World.frozen?, hb0]
          have z1 : W2.frozen? ⟨g, i * 2 + 1, none⟩ = false := by have hb0 : W2.heap[g]? = _ := hb2; simp [World.frozen?, hb0]
          have e0 := hb7.cell 0 rfl
          have e1 := hb7.cell 1 rfl
          generalize (cellsJ xs ++ rest)[i * 2] = y0 at c0
          generalize (cellsJ xs ++ rest)[i * 2 + 1] = y1 at c1
          clear hk f1 f2 hW hx
          have hb4 := (hb2.set (i * 2) (.int .i64 u)).set (i * 2 + 1) (.int .u8 t)
          rw [hs2] at hb4
          have hg4 : w.grownBy ((W2.setCell ⟨g, i * 2, none⟩ (.int .i64 u)).setCell ⟨g, i * 2 + 1, none⟩ (.int .u8 t)) (some g) := grown_set (grown_set hg2 _ _) _ _
          go_wp2_with fail
          go_roundw
          case rel => exact ⟨j + 1, i + 1, _, by go_num, by go_num, by omega, HK.out, hb4, hg4⟩
          case measure => simp [RowKit.intOf]; omega
        · have hk := hD.skip hx HC.out
          have HK := Lib.hid hk
          have hbk2 := hbk
          clear hk hx
          go_wp2_with (go_at_call 58; refine hW.out.mono ?_; rintro e W2 ⟨rfl, hx1⟩; dsimp only)
          have hx2' : Ext wr W2 := ((Ext.refl wr).alloc _).trans hx1
          go_roundw
          case rel => exact ⟨j + 1, i, xs, by go_num, rfl, by omega, HK.out, hbk.ext hx2', hgw.trans ⟨hx2'.os, hx2'.tape, hx2'.output, hx2'.size, fun k hk _ => hx2'.block k hk⟩⟩
          case measure => simp [RowKit.intOf]; omega
      · obtain rfl : j = l.length := by omega
        have hil : ¬ (l.length : Int) < i := by omega
        have hi0 : (0 : Int) ≤ i := by omega
        have hil2 : (i : Int) ≤ l.length := by omega
        have hpre := hD.pre
        rw [List.take_of_length_le (Nat.le_refl l.length)] at hpre
        have hcnt := hD.cnt
        rw [List.take_of_length_le (Nat.le_refl l.length)] at hcnt
        have HPR := Lib.hid hpre
        have HCN := Lib.hid hcnt
        clear hpre hcnt hD
        obtain ⟨W3, cs3, hrun, b3, l3, t3, g3⟩ := run_clear_blk (w := wr) (t := 36) (e := 32) (ty := 0) (n := l.length - i) (off := i * 2) (c := cap - i) Try.underlying36 zeroJob (by intro v hv; simp [Value.cells] at hv; rcases hv with rfl | rfl <;> rfl) (by omega) hbk (by
          have : (Value.agg #[.int .i64 0, .int .u8 0]).cells.size = 2 := rfl
          rw [this, hcl]; omega)
        have hpc : cellsJ (xs.take i) = (cellsJ xs).take (i * 2) := cellsK_take (k := 2) (fun _ => rfl) xs i
        have hpl : (cellsJ xs).length = xs.length * 2 := cellsJ_length xs
        have hcs : cs3 = cellsJ (xs.take i) ++ cs3.drop (i * 2) := by
          have h0 : cs3.take (i * 2) = cellsJ (xs.take i) := by rw [t3, hpc, List.take_append_of_le_length (by omega)]
          rw [← h0, List.take_append_drop]
        have hlt3 : (xs.take i).length = i := by rw [List.length_take]; omega
        have hfin : W3.ownsRow base 32 2 (.slice (some ⟨g, 0, none⟩) i cap) (xs.take i).length (cellsJ (xs.take i)) := by
          rw [hlt3]
          rw [hcs] at b3 l3
          exact Owns.ofBlk b3 hg (by omega) (by rw [cellsJ_length, hlt3]) (by rw [l3, hcl]) HMX.out
        have hg3' := hgw.trans g3
        have HFI := Lib.hid hfin
        clear hcs hpc hpl b3 l3 t3 hfin hbk
        go_wp2_with fail
        go_ret
        exact ⟨_, rfl, by rw [← HPR.out]; exact HFI.out, hg3', rfl⟩
  · have hff : firstP p l = l.length := by have := firstP_le p l; omega
    have HF := Lib.hid (show l = l.filter (fun x => !p x) from (List.filter_eq_self.2 fun x hx => by simp [firstP_all.1 hff x hx]).symm)
    have HFF := Lib.hid hff
    clear hp hf hff
    go_enter Try.func56, Try.ntmps56
    go_wp2_with (go_at_call 77; refine HIX.out.mono ?_; rintro e w' ⟨m, hm, rfl, hx⟩; rw [show m = l.length from hm.out.symm.trans HFF.out, if_neg (Nat.lt_irrefl _)]; dsimp only)
    go_ret
    exact ⟨_, rfl, by rw [← HF.out]; exact Owns.ext h hx, ⟨hx.os, hx.tape, hx.output, hx.size, fun k hk _ => hx.block k hk⟩, rfl⟩
theorem RdJ.cells {W : World} {b o : Nat} {l : List Jb} (h : RdJ W (some ⟨b, o, none⟩) l) {j : Nat} {y : Value} (hj : (cellsJ l)[j]? = some y) : W.cell? ⟨b, o + j, none⟩ = some y := by
  have hlt := (List.getElem?_eq_some_iff.1 hj).1
  rw [cellsJ_length] at hlt
  rcases h with h | ⟨b', o', he, hc⟩
  · subst h; simp at hlt
  · cases he
    have hd : j / 2 < l.length := by omega
    obtain ⟨x, hx⟩ : ∃ x, l[j / 2]? = some x := ⟨_, List.getElem?_eq_getElem hd⟩
    obtain ⟨u, t⟩ := x
    obtain ⟨g1, g2⟩ := cellsJ_get l (j / 2) u t hx
    obtain ⟨k1, k2⟩ := hc (j / 2) u t hx
    rcases Nat.mod_two_eq_zero_or_one j with h2 | h2
    · have e : j / 2 * 2 = j := by omega
      rw [e] at g1 k1
      rw [g1] at hj
      cases hj
      exact k1
    · have e : j / 2 * 2 + 1 = j := by omega
      rw [e] at g2
      rw [show o + j / 2 * 2 + 1 = o + j by omega] at k2
      rw [g2] at hj
      cases hj
      exact k2
/-- append(v, out...) of jobs. -/
theorem wpList_append_jobs {w : World} {ops : Array Oper} {rest : List Oper} {o : Oper} {a : Act} {Q : Exit → Act → World → Prop} (hgd : o.guard = none) (s x : Operand)
    (ho : o.op = .call { callee := .builtin .append, args := #[s, x], argTypes := #[36, 36] }) (base : Nat)
    (v : Value) (xs : List Jb) (hs : a.eval s = v) (hown : w.ownsRow base 32 2 v xs.length (cellsJ xs))
    (B : Option Addr) (c : Nat) (out : List Jb) (hx : a.eval x = .slice B out.length c) (hr : RdJ w B out)
    (hbig : xs.length + out.length ≤ 100000000) (hbase : base ≤ w.heap.size)
    (h : ∀ v' w', w'.ownsRow base 32 2 v' (xs ++ out).length (cellsJ (xs ++ out)) → w.grownBy w' v.ownBlock → (∀ k, v'.ownBlock = some k → v.ownBlock = some k ∨ w.heap.size ≤ k) → wpList Try.prog ops Q rest (a.put o.dst v') w') : wpList Try.prog ops Q (o :: rest) a w := by
  obtain ⟨i, hi, hz, hsz, hby⟩ := info_parts infoJob
  by_cases h0 : out = []
  · subst h0
    obtain ⟨A, cap, rfl, hn, _, _⟩ := OwnsJ.rd hown
    refine wpList_plain hgd fun K hK => ?_
    unfold Oper.wp
    have hrun := run_append_zero (t := 36) (ty := o.type) Try.underlying36 hi A B xs.length cap c hn w
    simp only [List.length_nil] at hx
    simp [execOp, ho, resolve, invoke, builtin, hs, hx, hrun, Result.andThen]
    exact hK _ _ (h _ w (by simpa using hown) ⟨rfl, rfl, rfl, Nat.le_refl _, fun _ _ _ => rfl⟩ (fun k hk => .inl hk))
  · have hp : 0 < out.length := List.length_pos_iff.2 h0
    obtain ⟨b, off, _, _, rfl, _, _, _⟩ := hr.at hp
    refine wpList_append_row hgd s x 36 ho base 32 i _ 2 16 Try.underlying36 hi hz hsz hby rfl (by decide) v xs.length (cellsJ xs) hs hown ⟨b, off, none⟩ out.length c (cellsJ out) hx (cellsJ_length _) ?_ ?_ hp (by unfold maxLen; omega) (by omega) hbase (fun v' w' h2 h3 h4 => h v' w' ?_ h3 h4)
    · intro j y hj
      have : (⟨b, off, none⟩ : Addr).add j = ⟨b, off + j, none⟩ := by unfold Addr.add; split <;> simp_all
      rw [this]
      exact hr.cells hj
    · intro y hy
      obtain ⟨n, _, hn⟩ := List.mem_flatMap.1 hy
      simp only [List.mem_cons, List.not_mem_nil, or_false] at hn
      rcases hn with rfl | rfl <;> rfl
    · rw [show cellsJ (xs ++ out) = cellsJ xs ++ cellsJ out from List.flatMap_append, List.length_append]
      exact h2
set_option maxRecDepth 100000 in
theorem cloneJ_calls (l : List Jb) (A : Option Addr) (cap : Nat) (w : World) (hr : RdJ w A l) (hc : l.length ≤ cap) (hlen : l.length ≤ 1000000) :
    Calls Try.prog 57 #[.slice A l.length cap] w fun e w' => ∃ v, e = .returned v ∧ w'.ownsRow w.heap.size 32 2 v l.length (cellsJ l) ∧ Ext w w' := by
  have hnil := Lib.run_eql_slice_nil (P := Try.prog) w 36 32 A l.length cap 0 0 Try.underlying36
  cases A with
  | none =>
    have h0 : l = [] := by
      rcases hr with h | ⟨b, o, h, _⟩
      · exact h
      · cases h
    subst h0
    simp only [Option.isNone_none, List.length_nil] at hnil ⊢
    go_enter Try.func57, Try.ntmps57
    go_wp2_with fail
    go_ret
    exact ⟨_, rfl, World.ownsRow_nil _ _ _ _, Ext.refl w⟩
  | some ad =>
    simp only [Option.isNone_some] at hnil
    go_enter Try.func57, Try.ntmps57
    go_wp2_with (refine wpList_append_jobs rfl (.tmp 5) (.tmp 6) rfl w.heap.size _ ([] : List Jb) rfl ?own (some ad) cap l rfl (hr.ext ((Ext.refl w).alloc _)) (by simp; omega) (by simp) ?_; (case own => exact Owns.ofBlk (xs := cellsJ []) (rest := []) (cap := 0) (Blk.newAt w (cellsJ [] ++ []) _ _ rfl) (Nat.le_refl _) (by simp) rfl rfl (by unfold maxLen; omega)); rintro v' W2 o1 g1 d1)
    go_ret
    have hx : Ext w W2 := Below.grown ((Ext.refl w).alloc _) g1 (by simp) (fun k e => by cases e; exact Nat.le_refl _)
    exact ⟨_, rfl, o1, hx⟩
end Go.Proofs.Ytclgclcoblfddaa
