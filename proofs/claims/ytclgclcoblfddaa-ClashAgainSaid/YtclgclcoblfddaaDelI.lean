/- slices.IndexFunc, DeleteFunc over items; clash.Victim. -/
import Derived.Test.YtclgclcoblfddaaDelJ
import Derived.Test.YtclgclcoblfddaaWhole
namespace Go.Proofs.Ytclgclcoblfddaa
open Go.RowKit Go.Lib
set_option linter.unusedVariables false
set_option linter.unusedSimpArgs false
/-- What has to stay. -/
def stays (ub : Int) (x : It) : Bool := x.m || !decide (x.u = ub)
set_option maxRecDepth 100000 in
theorem vict1_calls (ub : Int) (Bm b o n c : Nat) (w : World) (hn : 0 < n) (hc : w.cell? ⟨Bm, 0, none⟩ = some (.slice (some ⟨b, o, none⟩) n c)) (hb : w.cell? ⟨b, o, none⟩ = some (.int .i64 ub)) (x : It) :
    Calls Try.prog 67 #[encI x, .pointer (some ⟨Bm, 0, none⟩)] w fun e w' => e = .returned (.bool (stays ub x)) ∧ Ext w w' := by
  obtain ⟨u, t, m⟩ := x
  unfold encI stays
  have hn0 : (0 : Int) < n := by omega
  go_enter Try.func67, Try.ntmps67
  go_upto_region 1 with (fail)
  refine wp_gen (fun W => Blk W w.heap.size [.int .i64 u, .int .u8 t, .bool m] 34 ∧ Ext w W) ⟨Blk.newAt w _ _ _ rfl, (Ext.refl w).alloc _⟩ ?_
  obtain ⟨B, hB⟩ : ∃ B, w.heap.size = B := ⟨_, rfl⟩
  rw [hB]
  rintro W1 ⟨hk, hx1⟩
  have f0 : ∀ W, W = W1.drew → W.cell? ⟨B, 0, none⟩ = some (.int .i64 u) := fun W h => by rw [h]; exact hk.cell 0 rfl
  have f2 : ∀ W, W = W1.drew → W.cell? ⟨B, 2, none⟩ = some (.bool m) := fun W h => by rw [h]; exact hk.cell 2 rfl
  have f3 : ∀ W, W = W1.drew → W.cell? ⟨Bm, 0, none⟩ = some (.slice (some ⟨b, o, none⟩) n c) := fun W h => by rw [h]; exact hx1.cell hc
  have f4 : ∀ W, W = W1.drew → W.cell? ⟨b, o, none⟩ = some (.int .i64 ub) := fun W h => by rw [h]; exact hx1.cell hb
  clear hc hb hk
  have hxd : Ext w W1.drew := hx1.drew
  cases m
  · refine wp_region_mixAll (fun W => W = W1.drew) [(0, true), (1, true), (2, true), (3, true), (4, true), (5, true), (6, true), (7, true), (8, true), (9, true), (10, true), (11, true), (12, true)] (by kernel_rfl) (by kernel_rfl) (rfl) ?_
    (repeat (first | (apply mix_read; (case ho => rfl); (case hw => rfl); (case h1 => intro W' hx; (try dsimp only at hx); go_simp; (try go_bits); with_reducible rfl); (case hp => go_simp; first | done | with_reducible rfl)) | (apply mix_skip; (case ho => rfl); (case hw => rfl); (case hp => go_simp; first | done | with_reducible rfl))))
    refine mix_nil ?_; unfold Q0
    go_wp2_with fail
    go_ret
    exact ⟨by by_cases h : u = ub <;> simp [h], hxd⟩
  · refine wp_region_mixAll (fun W => W = W1.drew) [(0, true), (1, true), (2, true), (3, true), (4, true), (5, true), (6, true), (7, true), (8, true), (9, true), (10, true), (11, true), (12, true)] (by kernel_rfl) (by kernel_rfl) (rfl) ?_
    (repeat (first | (apply mix_read; (case ho => rfl); (case hw => rfl); (case h1 => intro W' hx; (try dsimp only at hx); go_simp; (try go_bits); with_reducible rfl); (case hp => go_simp; first | done | with_reducible rfl)) | (apply mix_skip; (case ho => rfl); (case hw => rfl); (case hp => go_simp; first | done | with_reducible rfl))))
    refine mix_nil ?_; unfold Q0
    go_wp2_with fail
    go_ret
    exact ⟨by simp, hxd⟩
theorem indexI_calls (p : It → Bool) (Bm : Nat) (l : List It) (A : Option Addr) (cap : Nat) (w : World) (hr : RdI w A l) (hlen : l.length ≤ 1000000)
    (hp : ∀ W, Ext w W → ∀ x ∈ l, Calls Try.prog 67 #[encI x, .pointer (some ⟨Bm, 0, none⟩)] W fun e w' => e = .returned (.bool (p x)) ∧ Ext W w') :
    Calls Try.prog 81 #[.slice A l.length cap, .func (.func 67) #[] #[.pointer (some ⟨Bm, 0, none⟩)]] w fun e w' => ∃ m, Hid (firstP p l = m) ∧ e = .returned (.int .i64 (if m < l.length then (m : Int) else -1)) ∧ Ext w w' := by
  go_enter Try.func81, Try.ntmps81
  go_upto_region 2 with (fail)
  go_loopw [8] (fun i W => ∃ k : Nat, k ≤ l.length ∧ i = .int .i64 k ∧ (∀ x ∈ l.take k, p x = false) ∧ Ext w W) (fun i _ => l.length - (RowKit.intOf i).toNat)
  case atStart => exact ⟨0, by omega, rfl, fun x hx => by simp at hx, Ext.refl w⟩
  case round =>
    obtain ⟨k, hk, rfl, hu, hx⟩ := hrel
    by_cases hlt : k < l.length
    · have hlti : (k : Int) < l.length := by omega
      obtain ⟨b1, o1, xu, xt, xm, rfl, he, f1, f2, f3⟩ := (hr.ext hx).at hlt
      have hW := hp wr hx ⟨xu, xt, xm⟩ (List.mem_of_getElem? he)
      unfold encI at hW
      replace hW := Lib.hid hW
      have htk : l.take (k + 1) = l.take k ++ [⟨xu, xt, xm⟩] := by rw [List.take_succ_eq_append_getElem hlt]; congr 2; rw [List.getElem?_eq_getElem hlt] at he; exact Option.some.inj he
      obtain ⟨c, hc⟩ : ∃ c, p ⟨xu, xt, xm⟩ = c := ⟨_, rfl⟩
      rw [hc] at hW
      have HC := Lib.hid hc
      have HTK := Lib.hid htk
      clear hc htk
      cases c
      · go_wp2_with (go_at_call 67; refine hW.out.mono ?_; rintro e w' ⟨rfl, hx1⟩; dsimp only)
        go_roundw
        case rel => exact ⟨k + 1, by omega, by go_num, fun x hm => by
          rw [HTK.out] at hm
          rcases List.mem_append.1 hm with hm | hm
          · exact hu x hm
          · rw [List.mem_singleton.1 hm]; exact HC.out, hx.trans hx1⟩
        case measure => simp [RowKit.intOf]; omega
      · have HF := Lib.hid (show firstP p l = k from firstP_of hk hu fun x hm => by rw [he] at hm; cases hm; exact HC.out)
        go_wp2_with (go_at_call 67; refine hW.out.mono ?_; rintro e w' ⟨rfl, hx1⟩; dsimp only)
        go_ret
        exact ⟨k, HF, by simp [hlt], hx.trans hx1⟩
    · obtain rfl : k = l.length := by omega
      have hf : firstP p l = l.length := firstP_of (Nat.le_refl _) hu (fun x hx => by simp at hx)
      go_wp2_with fail
      go_ret
      exact ⟨_, Lib.hid hf, by simp, hx⟩
set_option maxRecDepth 100000 in
set_option maxHeartbeats 2000000 in
theorem deleteI_calls (p : It → Bool) (Bm : Nat) {base : Nat} {v : Value} (l : List It) (w : World) (h : w.ownsRow base 34 3 v l.length (itCells l)) (hlen : l.length ≤ 1000000)
    (hp : ∀ W, w.grownBy W v.ownBlock → ∀ x, Calls Try.prog 67 #[encI x, .pointer (some ⟨Bm, 0, none⟩)] W fun e w' => e = .returned (.bool (p x)) ∧ Ext W w') :
    Calls Try.prog 66 #[v, .func (.func 67) #[] #[.pointer (some ⟨Bm, 0, none⟩)]] w fun e w' => ∃ v', e = .returned v' ∧ w'.ownsRow base 34 3 v' (l.filter (fun x => !p x)).length (itCells (l.filter (fun x => !p x))) ∧ w.grownBy w' v.ownBlock ∧ v'.ownBlock = v.ownBlock := by
  obtain ⟨A, cap, rfl, hcap, hrd, hlow⟩ := OwnsI.rd h
  have HIX := Lib.hid (indexI_calls p Bm l A cap w hrd hlen fun W hx x _ => hp W (Ext.grown hx |> fun g => ⟨g.os, g.tape, g.output, g.size, fun k hk _ => g.block k hk (by simp)⟩) x)
  by_cases hf : firstP p l < l.length
  · have HP := Lib.hid hp
    obtain ⟨m, hm⟩ : ∃ m, firstP p l = m := ⟨_, rfl⟩
    rw [hm] at hf
    have HM := Lib.hid hm
    have hfi : (m : Int) < l.length := by omega
    have hmm : ¬ (m : Int) = -1 := by omega
    have hD := DelSt.first hm hf
    obtain ⟨g, cap', rest, he, hg, hgl, hcap', hx2, hx3, hbk, hmax⟩ := Owns.whole h (by omega)
    cases he
    have HMX := Lib.hid hmax
    clear hp hm hrd hlow hmax
    go_enter Try.func66, Try.ntmps66
    go_wp2_with (go_at_call 81; refine HIX.out.mono ?_; rintro e w' ⟨m', hm', rfl, hx⟩; rw [show m' = m from hm'.out.symm.trans HM.out, if_pos hf]; dsimp only)
    have hgw : w.grownBy w' (some g) := ⟨hx.os, hx.tape, hx.output, hx.size, fun k hk _ => hx.block k hk⟩
    have hbk' := hbk.ext hx
    clear hbk hx hf hfi hmm hm' HIX h
    go_loopw [6, 5] (fun jv iv W => ∃ (j i : Nat) (xs : List It), jv = .int .i64 j ∧ iv = .int .i64 i ∧ m < j ∧ DelSt p l j i xs ∧ Blk W g (itCells xs ++ rest) 34 ∧ w.grownBy W (some g)) (fun jv _ _ => l.length - (RowKit.intOf jv).toNat)
    case atStart => exact ⟨m + 1, m, l, by go_num, rfl, by omega, hD, hbk', hgw⟩
    case round =>
      clear hD hbk' hgw
      obtain ⟨j, i, xs, rfl, rfl, hmj, hD, hbk, hgw⟩ := hrel
      have hij := hD.lt HM.out hmj
      have hjl := hD.hj
      have hxl := hD.len
      have hcl : (itCells xs ++ rest).length = cap * 3 := by
        rw [List.length_append, itCells_length, hxl, ← hx2, ← List.length_append]; exact hx3
      by_cases hlt : j < l.length
      · have hlti : (j : Int) < l.length := by omega
        obtain ⟨x, hx⟩ : ∃ x, l[j]? = some x := ⟨_, List.getElem?_eq_getElem hlt⟩
        obtain ⟨u, t, m0⟩ := x
        have hxj : xs[j]? = some ⟨u, t, m0⟩ := (hD.at hlt).trans hx
        have hc1 := (itCells_get xs j u t m0 hxj).1
        have hc2 := (itCells_get xs j u t m0 hxj).2.1
        have hc3 := (itCells_get xs j u t m0 hxj).2.2
        have f1 : wr.cell? ⟨g, j * 3, none⟩ = some (.int .i64 u) := hbk.cell _ (by rw [List.getElem?_append_left (List.getElem?_eq_some_iff.1 hc1).1]; exact hc1)
        have f2 : wr.cell? ⟨g, j * 3 + 1, none⟩ = some (.int .u8 t) := hbk.cell _ (by rw [List.getElem?_append_left (List.getElem?_eq_some_iff.1 hc2).1]; exact hc2)
        have f3 : wr.cell? ⟨g, j * 3 + 2, none⟩ = some (.bool m0) := hbk.cell _ (by rw [List.getElem?_append_left (List.getElem?_eq_some_iff.1 hc3).1]; exact hc3)
        clear hc1 hc2 hc3 hxj
        have hW := HP.out (wr.alloc (.cells #[.int .i64 u, .int .u8 t, .bool m0] 34)) (hgw.trans (Ext.grown ((Ext.refl wr).alloc _) |> fun q => ⟨q.os, q.tape, q.output, q.size, fun k hk _ => q.block k hk (by simp)⟩)) ⟨u, t, m0⟩
        unfold encI at hW
        replace hW := Lib.hid hW
        obtain ⟨c, hc⟩ : ∃ c, p ⟨u, t, m0⟩ = c := ⟨_, rfl⟩
        rw [hc] at hW
        have HC := Lib.hid hc
        clear hc
        cases c
        · have hk := hD.keep hx HC.out hij
          have hs2 := set_three (rest := rest) (show i < xs.length by omega) ⟨u, t, m0⟩
          have HK := Lib.hid hk
          go_upto_region 9 with (go_at_call 67; refine hW.out.mono ?_; rintro e W2 ⟨rfl, hx1⟩; dsimp only)
          have hb2 : Blk W2 g (itCells xs ++ rest) 34 := (hbk.ext ((Ext.refl wr).alloc _)).ext hx1
          have hb7 : Blk W2 wr.heap.size [.int .i64 u, .int .u8 t, .bool m0] 34 := (Blk.newAt wr _ _ _ rfl).ext hx1
          have hg2 : w.grownBy W2 (some g) := (hgw.trans (Ext.grown ((Ext.refl wr).alloc _) |> fun q => ⟨q.os, q.tape, q.output, q.size, fun k hk _ => q.block k hk (by simp)⟩)).trans (Ext.grown hx1 |> fun q => ⟨q.os, q.tape, q.output, q.size, fun k hk _ => q.block k hk (by simp)⟩)
          have c0 := hb2.cellOf (i := i * 3) (by omega)
          have c1 := hb2.cellOf (i := i * 3 + 1) (by omega)
          have c2 := hb2.cellOf (i := i * 3 + 2) (by omega)
          have z0 : W2.frozen? ⟨g, i * 3, none⟩ = false := by have hb0 : W2.heap[g]? = _ := hb2; simp [World.frozen?, hb0]
          have z1 : W2.frozen? ⟨g, i * 3 + 1, none⟩ = false := by have hb0 : W2.heap[g]? = _ := hb2; simp [World.frozen?, hb0]
          have e0 := hb7.cell 0 rfl
          have e1 := hb7.cell 1 rfl
          have e2 := hb7.cell 2 rfl
          have z2 : W2.frozen? ⟨g, i * 3 + 2, none⟩ = false := by have hb0 : W2.heap[g]? = _ := hb2; simp [World.frozen?, hb0]
          generalize (itCells xs ++ rest)[i * 3] = y0 at c0
          generalize (itCells xs ++ rest)[i * 3 + 1] = y1 at c1
          generalize (itCells xs ++ rest)[i * 3 + 2] = y2 at c2
          clear hk f1 f2 f3 hW hx
          have hb4 := ((hb2.set (i * 3) (.int .i64 u)).set (i * 3 + 1) (.int .u8 t)).set (i * 3 + 2) (.bool m0)
          rw [show _ = _ from hs2] at hb4
          have hg4 : w.grownBy (((W2.setCell ⟨g, i * 3, none⟩ (.int .i64 u)).setCell ⟨g, i * 3 + 1, none⟩ (.int .u8 t)).setCell ⟨g, i * 3 + 2, none⟩ (.bool m0)) (some g) := grown_set (grown_set (grown_set hg2 _ _) _ _) _ _
          go_wp2_with fail
          go_roundw
          case rel => exact ⟨j + 1, i + 1, _, by go_num, by go_num, by omega, HK.out, hb4, hg4⟩
          case measure => simp [RowKit.intOf]; omega
        · have hk := hD.skip hx HC.out
          have HK := Lib.hid hk
          have hbk2 := hbk
          clear hk hx
          go_wp2_with (go_at_call 67; refine hW.out.mono ?_; rintro e W2 ⟨rfl, hx1⟩; dsimp only)
          have hx2' : Ext wr W2 := ((Ext.refl wr).alloc _).trans hx1
          go_roundw
          case rel => exact ⟨j + 1, i, xs, by go_num, rfl, by omega, HK.out, hbk.ext hx2', hgw.trans ⟨hx2'.os, hx2'.tape, hx2'.output, hx2'.size, fun k hk _ => hx2'.block k hk⟩⟩
          case measure => simp [RowKit.intOf]; omega
      · obtain rfl : j = l.length := by omega
        have hil : ¬ (l.length : Int) < i := by omega
        have hi0 : (0 : Int) ≤ i := by omega
        have hil2 : (i : Int) ≤ l.length := by omega
        have hpre := hD.pre
        rw [List.take_of_length_le (Nat.le_refl l.length)] at hpre
        have hcnt := hD.cnt
        rw [List.take_of_length_le (Nat.le_refl l.length)] at hcnt
        have HPR := Lib.hid hpre
        have HCN := Lib.hid hcnt
        clear hpre hcnt hD
        obtain ⟨W3, cs3, hrun, b3, l3, t3, g3⟩ := run_clear_blk (w := wr) (t := 28) (e := 34) (ty := 0) (n := l.length - i) (off := i * 3) (c := cap - i) Try.underlying28 zeroItem (by intro v hv; simp [Value.cells] at hv; rcases hv with rfl | rfl | rfl <;> rfl) (by omega) hbk (by
          have : (Value.agg #[.int .i64 0, .int .u8 0, .bool false]).cells.size = 3 := rfl
          rw [this, hcl]; omega)
        have hpc : itCells (xs.take i) = (itCells xs).take (i * 3) := cellsK_take (k := 3) (fun _ => rfl) xs i
        have hpl : (itCells xs).length = xs.length * 3 := itCells_length xs
        have hcs : cs3 = itCells (xs.take i) ++ cs3.drop (i * 3) := by
          have h0 : cs3.take (i * 3) = itCells (xs.take i) := by rw [t3, hpc, List.take_append_of_le_length (by omega)]
          rw [← h0, List.take_append_drop]
        have hlt3 : (xs.take i).length = i := by rw [List.length_take]; omega
        have hfin : W3.ownsRow base 34 3 (.slice (some ⟨g, 0, none⟩) i cap) (xs.take i).length (itCells (xs.take i)) := by
          rw [hlt3]
          rw [hcs] at b3 l3
          exact Owns.ofBlk b3 hg (by omega) (by rw [itCells_length, hlt3]) (by rw [l3, hcl]) HMX.out
        have hg3' := hgw.trans g3
        have HFI := Lib.hid hfin
        clear hcs hpc hpl b3 l3 t3 hfin hbk
        go_wp2_with fail
        go_ret
        exact ⟨_, rfl, by rw [← HPR.out]; exact HFI.out, hg3', rfl⟩
  · have hff : firstP p l = l.length := by have := firstP_le p l; omega
    have HF := Lib.hid (show l = l.filter (fun x => !p x) from (List.filter_eq_self.2 fun x hx => by simp [firstP_all.1 hff x hx]).symm)
    have HFF := Lib.hid hff
    clear hp hf hff
    go_enter Try.func66, Try.ntmps66
    go_wp2_with (go_at_call 81; refine HIX.out.mono ?_; rintro e w' ⟨m, hm, rfl, hx⟩; rw [show m = l.length from hm.out.symm.trans HFF.out, if_neg (Nat.lt_irrefl _)]; dsimp only)
    go_ret
    exact ⟨_, rfl, by rw [← HF.out]; exact Owns.ext h hx, ⟨hx.os, hx.tape, hx.output, hx.size, fun k hk _ => hx.block k hk⟩, rfl⟩
end Go.Proofs.Ytclgclcoblfddaa
