/- Chapter 22: the law's items: as the reference has them; two rows the same. -/
import Derived.Test.YtclgclcoblfddaaIt
import Derived.Test.YtclgclcoblfddaaSorted
import Derived.Test.YtclgclcoblfddaaReachL
namespace Go.Proofs.Ytclgclcoblfddaa
open Go.RowKit Go.Lib
set_option linter.unusedVariables false
set_option linter.unusedSimpArgs false
def rfJ (k : Jb) : It := ⟨k.1, k.2, false⟩
theorem infoRI : (Try.prog.info? 44).map (fun i => (i.zero, i.size, i.bytes)) = some (some (.agg #[.int .i64 0, .int .u8 0, .bool false]), 3, 16) := by kernel_rfl
/-- Are two items the same? -/
def eqIt (x y : It) : Bool := decide (x.u = y.u) && decide (x.t = y.t) && decide (x.m = y.m)
theorem eqIt_iff (x y : It) : eqIt x y = true ↔ x = y := by
  obtain ⟨u, t, m⟩ := x
  obtain ⟨v, s, n⟩ := y
  simp [eqIt, and_assoc]
theorem neqRI (x y : It) (W : World) : (binOp .neq 44 (.agg #[.int .i64 x.u, .int .u8 x.t, .bool x.m]) (.agg #[.int .i64 y.u, .int .u8 y.t, .bool y.m])).run Try.prog W = .ok (.bool (!eqIt x y)) W := by
  have u3 := Try.underlying3
  have u5 := Try.underlying5
  have u4 := Try.underlying4
  have a3 := Try.isAgg3
  have a5 := Try.isAgg5
  have a4 := Try.isAgg4
  have z3 := Try.sizeOf3
  have z5 := Try.sizeOf5
  have z4 := Try.sizeOf4
  have hS : Try.prog.underlying 44 = some (.struct (Try.prog.fieldsOf 44)) := by kernel_rfl
  have hp : Try.prog.stoodInHeld 44 = false := by kernel_rfl
  obtain ⟨u, t, m⟩ := x
  obtain ⟨v, s, n⟩ := y
  have key : (Op.equal 44 (.agg #[.int .i64 u, .int .u8 t, .bool m]) (.agg #[.int .i64 v, .int .u8 s, .bool n])).run Try.prog W = .ok (eqIt ⟨u, t, m⟩ ⟨v, s, n⟩) W := by
    unfold Op.equal Op.maxDepth
    rw [show (10000 : Nat) = 9999 + 1 from rfl, run_equalIn_struct W 9999 _ _ _ hS hp]
    simp only [Program.fieldsOf, Try.underlying44]
    go_simp
    by_cases h1 : u = v <;> by_cases h2 : t = s <;> by_cases h3 : m = n <;> simp [eqIt, h1, h2, h3]
  simp only [binOp]
  simp only [Sem.run_bind]
  rw [key]
  rfl
/-- append of one item. -/
theorem wpList_append_ritem {w : World} {ops : Array Oper} {rest : List Oper} {o : Oper} {a : Act} {Q : Exit → Act → World → Prop} (hgd : o.guard = none) (s x : Operand)
    (ho : o.op = .call { callee := .builtin .append, args := #[s, x], argTypes := #[40, 40] }) (base : Nat)
    (v : Value) (l : List It) (hs : a.eval s = v) (hown : w.ownsRow base 44 3 v l.length (itCells l))
    (g c : Nat) (i : It) (hx : a.eval x = .slice (some ⟨g, 0, none⟩) 1 c) (hc : Blk w g [.int .i64 i.u, .int .u8 i.t, .bool i.m] 44)
    (hbig : l.length ≤ 100000000) (hbase : base ≤ w.heap.size)
    (h : ∀ v' w', w'.ownsRow base 44 3 v' (l ++ [i]).length (itCells (l ++ [i])) → w.grownBy w' v.ownBlock → (∀ k, v'.ownBlock = some k → v.ownBlock = some k ∨ w.heap.size ≤ k) → wpList Try.prog ops Q rest (a.put o.dst v') w') : wpList Try.prog ops Q (o :: rest) a w := by
  obtain ⟨inf, hi, hz, hsz, hby⟩ := info_parts infoRI
  refine wpList_append_row hgd s x _ ho base _ inf _ 3 16 Try.underlying40 hi hz hsz hby rfl (by decide) v l.length (itCells l) hs hown ⟨g, 0, none⟩ 1 c [.int .i64 i.u, .int .u8 i.t, .bool i.m] hx rfl ?_ ?_ (by decide) (by unfold maxLen; omega) (by omega) hbase (fun v' w' h2 h3 h4 => h v' w' ?_ h3 h4)
  · intro j y hj
    have : (⟨g, 0, none⟩ : Addr).add j = ⟨g, j, none⟩ := by unfold Addr.add; split <;> simp_all
    rw [this]
    exact hc.cell j hj
  · intro y hy
    simp only [List.mem_cons, List.not_mem_nil, or_false] at hy
    rcases hy with rfl | rfl | rfl <;> rfl
  · have e : itCells (l ++ [i]) = itCells l ++ [.int .i64 i.u, .int .u8 i.t, .bool i.m] := by simp [itCells]
    rw [e, List.length_append]
    exact h2
set_option maxRecDepth 100000 in
set_option maxHeartbeats 2000000 in
theorem items22_calls (l : List It) (A : Option Addr) (cap : Nat) (w : World) (hr : RdI w A l) (hl : l.length ≤ 1000000) :
    Calls Try.prog 36 #[.slice A l.length cap] w fun e w' => ∃ v, e = .returned v ∧ w'.ownsRow w.heap.size 44 3 v l.length (itCells l) ∧ Ext w w' := by
  go_enter Try.func36, Try.ntmps36
  go_wp2_with fail
  go_loopw [3, 4] (fun tv iv W => ∃ (i : Nat) (v : Value), v = tv ∧ iv = .int .i64 i ∧ i ≤ l.length ∧ W.ownsRow w.heap.size 44 3 v (l.take i).length (itCells (l.take i)) ∧ Ext w W) (fun _ iv _ => l.length - (RowKit.intOf iv).toNat)
  case atStart => exact ⟨0, _, rfl, rfl, by omega, by rw [List.take_zero]; exact World.ownsRow_nil w _ _ _, Ext.refl w⟩
  case round =>
    obtain ⟨i, v, htv, rfl, hi, hown, hx⟩ := hrel
    subst htv
    by_cases hlt : i < l.length
    · have hlti : (i : Int) < l.length := by omega
      obtain ⟨b, o, u, t, m, rfl, he, f1, f2, f3⟩ := (hr.ext hx).at hlt
      have q1 : ∀ W, Ext wr W → W.cell? ⟨b, o + i * 3, none⟩ = some (.int .i64 u) := fun W h => h.cell f1
      have q2 : ∀ W, Ext wr W → W.cell? ⟨b, o + i * 3 + 1, none⟩ = some (.int .u8 t) := fun W h => h.cell f2
      have q3 : ∀ W, Ext wr W → W.cell? ⟨b, o + i * 3 + 2, none⟩ = some (.bool m) := fun W h => h.cell f3
      obtain ⟨xs, hxs⟩ : ∃ xs, l.take i = xs := ⟨_, rfl⟩
      have htk : l.take (i + 1) = xs ++ [⟨u, t, m⟩] := by rw [List.take_add_one, he, hxs]; rfl
      have hxl : xs.length ≤ 1000000 := by rw [← hxs, List.length_take]; omega
      rw [hxs] at hown
      have HTK := Lib.hid htk
      have HW := Lib.hid hx.size
      clear hxs htk f1 f2 f3 he hr
      go_upto_region 5 with (fail)
      refine wp_region_mix (fun W => Ext wr W) 20 [(0, true), (1, true), (2, true), (3, true), (4, true), (5, true), (6, true), (7, true), (8, true), (9, true), (10, true), (11, true), (12, true), (13, true), (14, true), (15, true), (16, true), (17, true), (18, true), (19, false), (20, false), (21, false)] (by kernel_rfl) (by kernel_rfl) ((Ext.refl wr).drew) ?_
      iterate 19 (first | (apply mix_read; (case ho => rfl); (case hw => rfl); (case h1 => intro W' hx; have q1' := q1 W' hx; have q2' := q2 W' hx; have q3' := q3 W' hx; go_simp; (try go_bits); with_reducible rfl); (case hp => go_simp; first | done | with_reducible rfl)) | (apply mix_skip; (case ho => rfl); (case hw => rfl); (case hp => go_simp; first | done | with_reducible rfl)))
      clear q1 q2 q3
      refine mix_loud rfl ?_; intro KY hKY
      go_wp2_with fail
      refine ⟨(Ext.refl wr).drew.alloc _, ?_⟩
      refine mix_end 20 (by kernel_rfl) (by kernel_rfl) ?_; simp only [List.take_succ_cons, List.take_zero, List.drop_succ_cons, List.drop_zero]; unfold Q0
      have hx2 : Ext wr (wr.alloc (.cells #[.int .i64 u, .int .u8 t, .bool m] 44)).drew := ((Ext.refl wr).alloc _).drew
      have hxw2 := Ext.trans hx hx2
      have hown2 := Owns.ext hown hx2
      have hs2 := hx2.size
      have HX := Lib.hid hx
      clear hown hx
      go_wp2_with (refine wpList_append_ritem rfl (.tmp 11) (.tmp 30) rfl w.heap.size v xs rfl hown2 wr.heap.size 1 ⟨u, t, m⟩ rfl ((Blk.newAt wr _ _ _ rfl).ext (Ext.refl _).drew) (by omega) (by have := HW.out; omega) ?_; rintro v' W8 o8 g8 d8)
      have hnb : ∀ k, v.ownBlock = some k → w.heap.size ≤ k := fun k hk => (hown2.lt k hk).1
      have hxw8 : Ext w W8 := Below.grown hxw2 g8 hxw2.size (fun k e => hnb k e)
      go_roundw
      case rel => exact ⟨i + 1, _, rfl, by go_num, by omega, by rw [HTK.out]; exact o8, hxw8⟩
      case measure => simp [RowKit.intOf]; omega
    · obtain rfl : i = l.length := by omega
      rw [List.take_of_length_le (Nat.le_refl _)] at hown
      go_wp2_with fail
      go_ret
      exact ⟨_, rfl, hown, hx⟩
theorem rowRI : isRowT Try.prog 44 3 := ⟨by kernel_rfl, by kernel_rfl⟩
theorem job22_calls (u t : Int) (w : World) :
    Calls Try.prog 33 #[.agg #[.int .i64 u, .int .u8 t]] w fun e w' => e = .returned (.agg #[.int .i64 u, .int .u8 t, .bool false]) ∧ Ext w w' := by
  go_enter Try.func33, Try.ntmps33
  go_upto_region 1 with (fail)
  refine wp_gen (fun W => Ext w W ∧ Blk W w.heap.size [.int .i64 u, .int .u8 t] 32 ∧ Blk W (w.heap.size + 1) [.int .i64 0, .int .u8 0, .bool false] 44) ⟨((Ext.refl w).alloc _).alloc _, (Blk.newAt w _ _ _ rfl).alloc _, Blk.newAt _ _ _ _ (by simp)⟩ ?_
  obtain ⟨q, hq⟩ : ∃ q, w.heap.size + 1 = q := ⟨_, rfl⟩
  rw [hq]
  rintro W0 ⟨hx, ha, hb⟩
  have a0 := ha.cell 0 rfl
  have a1 := ha.cell 1 rfl
  have d0 := hb.cell 0 rfl
  have d1 := hb.cell 1 rfl
  have d2 := hb.cell 2 rfl
  have z0 := hb.frozen 0
  have z1 := hb.frozen 1
  have z2 := hb.frozen 2
  have hb2 := ((hb.set 0 (.int .i64 u)).set 1 (.int .u8 t)).set 2 (.bool false)
  have hx2 := ((hx.setCell (p := ⟨q, 0, none⟩) (by simp; omega) (.int .i64 u)).setCell (p := ⟨q, 1, none⟩) (by simp; omega) (.int .u8 t)).setCell (p := ⟨q, 2, none⟩) (by simp; omega) (.bool false)
  have HB := Lib.hid hb2
  have HX := Lib.hid hx2
  clear hb2 hx2 hb hx
  go_wp2_with fail
  exact bodyPost_ret (v := .agg #[.int .i64 u, .int .u8 t, .bool false]) (results_cell Try.results33 _ _ rfl rowRI HB.out) rfl ⟨rfl, HX.out⟩
set_option maxRecDepth 100000 in
set_option maxHeartbeats 2000000 in
theorem all22_calls (l : List Jb) (A : Option Addr) (cap : Nat) (w : World) (hr : RdJ w A l) (hl : l.length ≤ 1000000) :
    Calls Try.prog 34 #[.slice A l.length cap] w fun e w' => ∃ v, e = .returned v ∧ w'.ownsRow w.heap.size 44 3 v (l.map rfJ).length (itCells (l.map rfJ)) ∧ Ext w w' := by
  have HJ := Lib.hid job22_calls
  go_enter Try.func34, Try.ntmps34
  go_wp2_with fail
  go_loopw [3, 4] (fun tv iv W => ∃ (i : Nat) (v : Value), v = tv ∧ iv = .int .i64 i ∧ i ≤ l.length ∧ W.ownsRow w.heap.size 44 3 v ((l.map rfJ).take i).length (itCells ((l.map rfJ).take i)) ∧ Ext w W) (fun _ iv _ => l.length - (RowKit.intOf iv).toNat)
  case atStart => exact ⟨0, _, rfl, rfl, by omega, by rw [List.take_zero]; exact World.ownsRow_nil w _ _ _, Ext.refl w⟩
  case round =>
    obtain ⟨i, v, htv, rfl, hi, hown, hx⟩ := hrel
    subst htv
    by_cases hlt : i < l.length
    · have hlti : (i : Int) < l.length := by omega
      obtain ⟨b, o, u, t, rfl, he, f1, f2⟩ := (hr.ext hx).at hlt
      obtain ⟨xs, hxs⟩ : ∃ xs, (l.map rfJ).take i = xs := ⟨_, rfl⟩
      have htk : (l.map rfJ).take (i + 1) = xs ++ [⟨u, t, false⟩] := by rw [List.take_add_one, List.getElem?_map, he, hxs]; rfl
      have hxl : xs.length ≤ 1000000 := by rw [← hxs, List.length_take]; omega
      rw [hxs] at hown
      have HTK := Lib.hid htk
      have HW := Lib.hid hx.size
      clear hxs htk he hr
      go_wp2_with (first
        | (go_at_call 33; refine (HJ.out u t _).mono ?_; rintro e W1 ⟨rfl, hx1⟩)
        | (refine wpList_append_ritem rfl (.tmp 11) (.tmp 17) rfl w.heap.size v xs rfl ((Owns.ext hown hx1).alloc _) W1.heap.size 1 ⟨u, t, false⟩ rfl (Blk.newAt W1 _ _ _ rfl) (by omega) (by rw [World.size_alloc]; have := HW.out; have := hx1.size; omega) ?_; rintro v' W8 o8 g8 d8))
      have hxw2 : Ext w (W1.alloc (.cells #[.int .i64 u, .int .u8 t, .bool false] 44)) := Ext.alloc (Ext.trans hx hx1) _
      have hnb : ∀ k, v.ownBlock = some k → w.heap.size ≤ k := fun k hk => (hown.lt k hk).1
      have hxw8 : Ext w W8 := Below.grown hxw2 g8 hxw2.size (fun k e => hnb k e)
      go_roundw
      case rel => exact ⟨i + 1, _, rfl, by go_num, by omega, by rw [HTK.out]; exact o8, hxw8⟩
      case measure => simp [RowKit.intOf]; omega
    · obtain rfl : i = l.length := by omega
      rw [List.take_of_length_le (by simp)] at hown
      go_wp2_with fail
      go_ret
      exact ⟨_, rfl, hown, hx⟩
set_option maxRecDepth 100000 in
set_option maxHeartbeats 2000000 in
theorem same22_calls (xs ys : List It) (A B : Option Addr) (c d : Nat) (w : World) (h1 : RdI w A xs) (h2 : RdI w B ys) (hl : xs.length ≤ 1000000) (hl2 : ys.length ≤ 1000000) (r : Bool) (hq : r = true ↔ xs = ys) :
    Calls Try.prog 35 #[.slice A xs.length c, .slice B ys.length d] w fun e w' => e = .returned (.bool r) ∧ Ext w w' := by
  have HQ := Lib.hid hq
  clear hq
  by_cases hlen : xs.length = ys.length
  · have HL := Lib.hid hlen
    rw [← hlen]
    clear hlen
    go_enter Try.func35, Try.ntmps35
    go_wp2_with fail
    go_loopw [5] (fun i W => ∃ j : Nat, j ≤ xs.length ∧ i = .int .i64 j ∧ xs.take j = ys.take j ∧ Ext w W) (fun i _ => xs.length - (RowKit.intOf i).toNat)
    case atStart => exact ⟨0, by omega, rfl, by simp, Ext.refl w⟩
    case round =>
      obtain ⟨j, hj, rfl, heq, hx⟩ := hrel
      have HE := Lib.hid heq
      clear heq
      by_cases hlt : j < xs.length
      · have hlti : (j : Int) < xs.length := by omega
        obtain ⟨b1, o1, u, t, m, rfl, he1, f1, f2, f3⟩ := (h1.ext hx).at hlt
        obtain ⟨b2, o2, v, s, n, rfl, he2, g1, g2, g3⟩ := (h2.ext hx).at (i := j) (by rw [← HL.out]; exact hlt)
        have HE1 := Lib.hid he1
        have HE2 := Lib.hid he2
        have q1 : ∀ W, Ext wr W → W.cell? ⟨b1, o1 + j * 3, none⟩ = some (.int .i64 u) := fun W h => h.cell f1
        have q2 : ∀ W, Ext wr W → W.cell? ⟨b1, o1 + j * 3 + 1, none⟩ = some (.int .u8 t) := fun W h => h.cell f2
        have q3 : ∀ W, Ext wr W → W.cell? ⟨b1, o1 + j * 3 + 2, none⟩ = some (.bool m) := fun W h => h.cell f3
        have q4 : ∀ W, Ext wr W → W.cell? ⟨b2, o2 + j * 3, none⟩ = some (.int .i64 v) := fun W h => h.cell g1
        have q5 : ∀ W, Ext wr W → W.cell? ⟨b2, o2 + j * 3 + 1, none⟩ = some (.int .u8 s) := fun W h => h.cell g2
        have q6 : ∀ W, Ext wr W → W.cell? ⟨b2, o2 + j * 3 + 2, none⟩ = some (.bool n) := fun W h => h.cell g3
        have hneq := neqRI ⟨u, t, m⟩ ⟨v, s, n⟩
        have hei := eqIt_iff ⟨u, t, m⟩ ⟨v, s, n⟩
        generalize eqIt ⟨u, t, m⟩ ⟨v, s, n⟩ = k at hneq hei
        dsimp only at hneq
        have HEI := Lib.hid hei
        clear he1 he2 f1 f2 f3 g1 g2 g3 hei h1 h2
        go_upto_region 6 with (fail)
        refine wp_region_mixAll (fun W => Ext wr W) [(0, true), (1, true), (2, true), (3, true), (4, true), (5, true), (6, true), (7, true), (8, true)] (by kernel_rfl) (by kernel_rfl) ((Ext.refl wr).drew) ?_
        repeat (apply mix_read; (case ho => rfl); (case hw => rfl); (case h1 => intro W' hx; have q1' := q1 W' hx; have q2' := q2 W' hx; have q3' := q3 W' hx; have q4' := q4 W' hx; have q5' := q5 W' hx; have q6' := q6 W' hx; go_simp; (try go_bits); with_reducible rfl); (case hp => go_simp; first | done | with_reducible rfl))
        refine mix_nil ?_; unfold Q0
        clear q1 q2 q3 q4 q5 q6
        cases k
        · go_wp2_with fail
          go_ret
          refine ⟨?_, hx.drew⟩
          cases r
          · rfl
          · have e := HQ.out.1 rfl
            have h1 := HE1.out
            rw [e, HE2.out] at h1
            exact absurd ((HEI.out).2 (Option.some.inj h1).symm) (by decide)
        · have hee := HEI.out.1 rfl
          go_wp2_with fail
          go_roundw
          case rel => exact ⟨j + 1, by omega, by go_num, by rw [List.take_add_one, List.take_add_one, HE.out, HE1.out, HE2.out, hee], hx.drew⟩
          case measure => simp [RowKit.intOf]; omega
      · obtain rfl : j = xs.length := by omega
        go_wp2_with fail
        go_ret
        refine ⟨?_, hx⟩
        have he := HE.out
        rw [List.take_of_length_le (Nat.le_refl _), HL.out, List.take_of_length_le (Nat.le_refl _)] at he
        rw [HQ.out.2 he]
        rfl
  · have hli : ¬ (xs.length : Int) = ys.length := by omega
    have hbi : ((xs.length : Int) == ys.length) = false := by simpa using hli
    obtain rfl : r = false := by
      cases r
      · rfl
      · exact absurd (congrArg List.length (HQ.out.1 rfl)) hlen
    go_enter Try.func35, Try.ntmps35
    go_wp2_with fail
    go_ret
    exact ⟨rfl, Ext.refl w⟩
end Go.Proofs.Ytclgclcoblfddaa
