/- Chapter 21: the jobs that are reached (reach). -/
import Derived.Test.YtclgclcoblfddaaSpoilt
import Derived.Test.YtclgclcoblfddaaQRow
namespace Go.Proofs.Ytclgclcoblfddaa
open Go.RowKit Go.Shelf
set_option linter.unusedVariables false
set_option linter.unusedSimpArgs false
theorem wpList_insert {α : Type} [DecidableEq α] {T : TypeId} {enc : α → Value} {w : World} {ops : Array Oper} {rest : List Oper} {o : Oper} {a : Act} {Q : Exit → Act → World → Prop} (K : KeyT T enc)
    (hg : o.guard = none) (m x v : Operand) (MT E : TypeId) (hop : o.op = Op.insert MT m x v) (ht : Try.prog.underlying MT = some (.map T E)) (b : Nat) (es : List (α × Value))
    (hm : a.eval m = .map (some b)) (hown : RMap enc w b es) (k : α) (c : Value) (hx : a.eval x = enc k) (hv : a.eval v = c)
    (hK : ∀ w', RMap enc w' b (putOf k c es) → w.grownBy w' (some b) → wpList Try.prog ops Q rest (a.put o.dst undef) w') :
    wpList Try.prog ops Q (o :: rest) a w := by
  refine wpList_plain hg fun K' hK' => ?_
  obtain ⟨w', hrun, r1, r2⟩ := hown.put K ht k c
  unfold Oper.wp
  simp [execOp, hop, hm, hx, hv, hrun, Result.andThen]
  exact hK' _ _ (hK w' r1 r2)
/-- append of one job to a row that may begin inside its block. -/
theorem wpList_append_jobQ {w : World} {ops : Array Oper} {rest : List Oper} {o : Oper} {a : Act} {Q : Exit → Act → World → Prop} (hgd : o.guard = none) (s x : Operand)
    (ho : o.op = .call { callee := .builtin .append, args := #[s, x], argTypes := #[36, 36] }) (base : Nat)
    (v : Value) (l : List Jb) (hs : a.eval s = v) (hown : QRow w base 32 2 v l.length (cellsJ l))
    (g c : Nat) (u t : Int) (hx : a.eval x = .slice (some ⟨g, 0, none⟩) 1 c) (hc : Blk w g [.int .i64 u, .int .u8 t] 32)
    (hbig : l.length ≤ 100000000) (hbase : base ≤ w.heap.size)
    (h : ∀ v' w', QRow w' base 32 2 v' (l ++ [(u, t)]).length (cellsJ (l ++ [(u, t)])) → w.grownBy w' v.ownBlock → (∀ k, v'.ownBlock = some k → v.ownBlock = some k ∨ w.heap.size ≤ k) → wpList Try.prog ops Q rest (a.put o.dst v') w') : wpList Try.prog ops Q (o :: rest) a w := by
  obtain ⟨i, hi, hz, hsz, hby⟩ := info_parts infoJob
  obtain ⟨v', w', hrun, h1, h2, h3⟩ := q_append (P := Try.prog) w base 36 o.type 32 i _ 2 16 Try.underlying36 hi hz hsz hby rfl (by decide) v l.length (cellsJ l) hown ⟨g, 0, none⟩ 1 c [.int .i64 u, .int .u8 t] rfl (fun j y hj => by
    rw [add_at, Nat.zero_add]
    exact hc.cell j hj) (fun y hy => by
    simp only [List.mem_cons, List.not_mem_nil, or_false] at hy
    rcases hy with rfl | rfl <;> rfl) (by decide) (by unfold maxLen; omega) (by omega) hbase
  refine wpList_plain hgd fun K hK => ?_
  unfold Oper.wp
  simp [execOp, ho, resolve, invoke, builtin, hs, hx, hrun, Result.andThen]
  refine hK _ _ (h v' w' ?_ h2 (fun k hk => by
    rcases h3 with h3 | ⟨b, h3, h4⟩
    · exact .inl (h3.symm.trans hk)
    · rw [h3] at hk; cases hk; exact .inr h4))
  rw [cellsJ_snoc, List.length_append]
  exact h1
/-- The first of such a row, and the rest. -/
theorem QRow.pop {w : World} {base : Nat} {A : Option Addr} {c : Nat} {j : Jb} {l : List Jb} (h : QRow w base 32 2 (.slice A (j :: l).length c) (j :: l).length (cellsJ (j :: l))) :
    ∃ g o, A = some ⟨g, o, none⟩ ∧ base ≤ g ∧ w.cell? ⟨g, o, none⟩ = some (.int .i64 j.1) ∧ w.cell? ⟨g, o + 1, none⟩ = some (.int .u8 j.2) ∧ l.length + 1 ≤ c ∧ QRow w base 32 2 (.slice (if c = 1 then A else some ⟨g, o + 2, none⟩) l.length (c - 1)) l.length (cellsJ l) := by
  have hp : 0 < (j :: l).length := by simp
  obtain ⟨ad, rfl, hc⟩ := q_cells h hp
  have hd := q_drop (k := 1) h (by simp)
  have hty := q_typed h ad.block (by simp [Value.ownBlock])
  have hs : ad.spot = none := by
    have h0 := hc 0 (.int .i64 j.1) rfl
    have h1 := World.cell?_spot h0
    simpa [Addr.add] using h1
  obtain ⟨b, o, sp⟩ := ad
  simp only at hs
  subst hs
  have e1 : ((j :: l).length - 1) = l.length := by simp
  have e2 : (cellsJ (j :: l)).drop (1 * 2) = cellsJ l := rfl
  rw [e1, e2] at hd
  simp only [Option.map_some, add_at, Nat.one_mul] at hd
  have c0 := hc 0 (.int .i64 j.1) rfl
  have c1 := hc 1 (.int .u8 j.2) rfl
  rw [add_at] at c0 c1
  have hle : l.length + 1 ≤ c := by
    obtain ⟨_, _, e, hle⟩ := q_slice h
    cases e
    simpa using hle
  exact ⟨b, o, rfl, hty.1, c0, c1, hle, hd⟩
theorem metOne_eq (bad : Jb → Bool) (j : Jb) (f : Met) (todo : List Jb) (p : It) : metOne bad j (f, todo) p = if (bad (jobOf p) || ((f (jobOf p)).isSome && ((f (jobOf p)).getD false || !p.m || !((f j).getD false)))) then (f, todo) else (fun k => if k = jobOf p then some (p.m && (f j).getD false) else f k, todo ++ [jobOf p]) := by
  unfold metOne
  cases h : f (jobOf p) with
  | none => simp [h]
  | some b => simp [h]
def mustV (o : Option Bool) : Option Value := o.map fun b => .agg #[.bool b]
/-- The map of those that were met. -/
def MetM (W : World) (b : Nat) (f : Met) : Prop := ∃ es, RMap encJ W b es ∧ FM es fun k => mustV (f k)
theorem zeroMust (w : World) : (zeroValue 84).run Try.prog w = .ok (.agg #[.bool false]) w := by kernel_rfl
theorem MetM.ext {W W' : World} {b : Nat} {f : Met} (h : MetM W b f) (hx : Ext W W') : MetM W' b f := by
  obtain ⟨es, h1, h2⟩ := h
  exact ⟨es, h1.ext hx, h2⟩
theorem MetM.kept {W W' : World} {b : Nat} {f : Met} (h : MetM W b f) {row : Option Nat} (hg : W.grownBy W' row) (hne : some b ≠ row) : MetM W' b f := by
  obtain ⟨es, h1, h2⟩ := h
  exact ⟨es, h1.kept hg hne, h2⟩
theorem MetM.lt {W : World} {b : Nat} {f : Met} (h : MetM W b f) : b < W.heap.size := by
  obtain ⟨es, h1, h2⟩ := h
  exact h1.lt
theorem MetM.look {W : World} {b : Nat} {f : Met} (h : MetM W b f) (u t : Int) :
    (Instr.lookup 82 (.map (some b)) (.agg #[.int .i64 u, .int .u8 t]) false).run Try.prog W = .ok (.agg #[.bool ((f (u, t)).getD false)]) W := by
  obtain ⟨es, h1, h2⟩ := h
  have := h1.look keyJob Try.underlying82 (zeroMust W) (u, t)
  rw [h2.val] at this
  rw [show (Value.agg #[.int .i64 u, .int .u8 t]) = encJ (u, t) from rfl, this]
  cases f (u, t) <;> rfl
theorem MetM.lookOk {W : World} {b : Nat} {f : Met} (h : MetM W b f) (u t : Int) :
    (Instr.lookup 82 (.map (some b)) (.agg #[.int .i64 u, .int .u8 t]) true).run Try.prog W = .ok (.tuple #[.agg #[.bool ((f (u, t)).getD false)], .bool (f (u, t)).isSome]) W := by
  obtain ⟨es, h1, h2⟩ := h
  have := h1.lookOk keyJob Try.underlying82 (zeroMust W) (u, t)
  rw [h2.val] at this
  rw [show (Value.agg #[.int .i64 u, .int .u8 t]) = encJ (u, t) from rfl, this]
  cases f (u, t) <;> rfl
theorem mustV_put {f : Met} (x : Jb) (c : Bool) : (fun k => if k = x then some (Value.agg #[.bool c]) else mustV (f k)) = fun k => mustV (if k = x then some c else f k) := by
  funext k
  by_cases h : k = x <;> simp [h, mustV]
set_option maxRecDepth 100000 in
set_option maxHeartbeats 16000000 in
theorem reach_calls (w : World) (G : G7) (Aon : Option Addr) (con : Nat) (on : List Bool) (a : Jb) (mb : Option Nat) (Bad : Jb → Bool)
    (hG : G.ok w) (hob : RdV w Aon (on.map .bool)) (hol : on.length ≤ 1000) (hbad : ∀ W, Ext w W → ∀ u t, (Instr.lookup 87 (.map mb) (.agg #[.int .i64 u, .int .u8 t]) false).run Try.prog W = .ok (.int .i64 (if Bad (u, t) then 1 else 0)) W)
    (U : List Jb) (hUn : U.Nodup) (hUl : U.length ≤ 3000) (hT : Tame (pullJ G.l on) U) :
    Calls Try.prog 46 #[.agg G.cs.toArray, .slice Aon on.length con, .agg #[.int .i64 a.1, .int .u8 a.2], .map mb] w
      fun e w' => ∃ b, e = .returned (.map (some b)) ∧ w.heap.size ≤ b ∧ MetM w' b (fun k => if k ∈ reachL (pullJ G.l on) U Bad a then some (decide (k ∈ mustL (pullJ G.l on) U Bad a)) else none) ∧ Ext w w' := by
  obtain ⟨u0, t0⟩ := a
  have HLN := Lib.hid (fun j => pullJ_len hG on j)
  have HPL0 := Lib.hid (fun W (hx : Ext w W) u t => pulls_calls W G Aon con on u t (hG.ext hx) (hob.ext hx) hol)
  obtain ⟨P, hP⟩ : ∃ P, pullJ G.l on = P := ⟨_, rfl⟩
  have HPL := Lib.hid (show ∀ W, Ext w W → ∀ u t, Calls Try.prog 24 #[.agg G.cs.toArray, .slice Aon on.length con, .agg #[.int .i64 u, .int .u8 t]] W
      fun e w' => ∃ v, e = .returned v ∧ w'.ownsRow W.heap.size 55 3 v (P (u, t)).length (itCells (P (u, t))) ∧ Below W.heap.size W w' from fun W hx u t => by rw [← hP]; exact HPL0.out W hx u t)
  rw [hP] at HLN hT ⊢
  have HBD := Lib.hid hbad
  have HTT := Lib.hid hT
  clear hG hob hP HPL0 hbad hT
  obtain ⟨B, hB⟩ : ∃ B, w.heap.size = B := ⟨_, rfl⟩
  simp only
  go_enter Try.func46, Try.ntmps46
  have hmm := @run_makeMap Try.prog
  go_upto_region 1 with (fail)
  refine wp_gen (fun W => Blk W B G.cs 24 ∧ Blk W (B + 1) [.int .i64 u0, .int .u8 t0] 32 ∧ B + 1 + 1 ≤ W.heap.size ∧ Ext w W) ⟨(Blk.newAt w G.cs _ _ hB.symm).alloc _, Blk.newAt _ _ _ _ (by rw [World.size_alloc, hB]), by rw [World.size_alloc, World.size_alloc, hB]; exact Nat.le_refl _, ((Ext.refl w).alloc _).alloc _⟩ ?_
  rintro W0 ⟨hbg, hb1, hs0, hx0⟩
  have e0 := (hb1.alloc (.map #[] 0)).cell 0 rfl
  have e1 := (hb1.alloc (.map #[] 0)).cell 1 rfl
  go_upto_region 2 with (first | (refine wpList_insert keyJob rfl (.tmp 16) (.tmp 17) (.tmp 18) 82 84 rfl Try.underlying82 W0.heap.size [] rfl (RMap.made encJ W0) (u0, t0) (.agg #[.bool true]) rfl rfl ?_; rintro W1 m1 g1))
  have hB0 := hbg.lt
  have h10 := hb1.lt
  have hbg1 := Grown.blk g1 (hbg.alloc (.map #[] 0)) (fun e => by have := Option.some.inj e; omega)
  have hb11 := Grown.blk g1 (hb1.alloc (.map #[] 0)) (fun e => by have := Option.some.inj e; omega)
  have s1 := g1.size
  rw [World.size_alloc] at s1
  have hx1 : Ext w W1 := Below.grown (Ext.alloc hx0 _) g1 (by rw [World.size_alloc]; omega) (fun k e => by cases e; omega)
  have hm1 : MetM W1 W0.heap.size (fun k => if k = (u0, t0) then some true else none) := by
    refine ⟨_, m1, ?_⟩
    have := FM.nil.put (u0, t0) (.agg #[.bool true])
    have hf : (fun k : Jb => if k = (u0, t0) then some (Value.agg #[.bool true]) else none) = fun k => mustV (if k = (u0, t0) then some true else none) := by
      funext k
      by_cases h : k = (u0, t0) <;> simp [h, mustV]
    rw [hf] at this
    exact this
  obtain ⟨b, hb⟩ : ∃ b, W0.heap.size = b := ⟨_, rfl⟩
  rw [hb] at hm1 hs0 s1 ⊢
  clear m1 g1 hbg hb1 hmm hx0 e0 e1 hb
  have e0 := hb11.cell 0 rfl
  have e1 := hb11.cell 1 rfl
  go_upto_region 3 with (fail)
  obtain ⟨C0, hC0⟩ : ∃ C0, W1.heap.size = C0 := ⟨_, rfl⟩
  have hbC : b < C0 := by have := hm1.lt; omega
  have hBb : B < b := by omega
  have hq0 : QRow (W1.alloc (.cells #[.int .i64 u0, .int .u8 t0] 32)) C0 32 2 (.slice (some ⟨C0, 0, none⟩) [(u0, t0)].length 1) [(u0, t0)].length (cellsJ [(u0, t0)]) :=
    q_of_own (Owns.ofBlk (rest := []) (Blk.newAt W1 (cellsJ [(u0, t0)] ++ []) _ _ hC0.symm) (Nat.le_refl _) (by simp) rfl rfl (by unfold maxLen; omega))
  have hm2 := hm1.ext ((Ext.refl W1).alloc (.cells #[.int .i64 u0, .int .u8 t0] 32))
  have hbg2 := hbg1.alloc (.cells #[.int .i64 u0, .int .u8 t0] 32)
  have hx2 : Ext w (W1.alloc (.cells #[.int .i64 u0, .int .u8 t0] 32)) := Ext.alloc hx1 _
  have hst0 := Srch.first P U Bad (u0, t0)
  have hleft : ∀ (f : Met) (V : List Jb), left V f ≤ 2 * V.length := by
    intro f V
    induction V with
    | nil => exact Nat.le_refl _
    | cons z V ih =>
      have e : left (z :: V) f = rank (f z) + left V f := rfl
      have : rank (f z) ≤ 2 := by cases f z with | none => simp [rank] | some c => cases c <;> simp [rank]
      rw [e, List.length_cons]
      omega
  have hl0 := hleft (fun k => if k = (u0, t0) then some true else none) U
  have hsz2 : C0 ≤ (W1.alloc (.cells #[.int .i64 u0, .int .u8 t0] 32)).heap.size := by rw [World.size_alloc]; omega
  rw [hC0]
  generalize (W1.alloc (.cells #[.int .i64 u0, .int .u8 t0] 32)) = W2 at hq0 hm2 hbg2 hx2 hsz2 ⊢
  clear hm1 hbg1 hb11 e0 e1 hx1 hleft hC0 s1
  obtain ⟨μ, hμ⟩ := exists_least
  obtain ⟨RR, hRR⟩ : ∃ RR : Nat → Value → World → Prop, ∀ n tv W, RR n tv W ↔ ∃ (f : Met) (todo : List Jb), MetM W b f ∧ QRow W C0 32 2 tv todo.length (cellsJ todo) ∧ Srch P U Bad (u0, t0) f todo none ∧ todo.length + left U f = n ∧ n ≤ 10000 ∧ Blk W B G.cs 24 ∧ C0 ≤ W.heap.size ∧ Ext w W := ⟨_, fun _ _ _ => Iff.rfl⟩
  have HRR := Lib.hid hRR
  have HMU := Lib.hid hμ
  have hini : RR (1 + left U (fun k => if k = (u0, t0) then some true else none)) (.slice (some ⟨C0, 0, none⟩) 1 1) W2 := (HRR.out _ _ _).2 ⟨_, [(u0, t0)], hm2, hq0, hst0, rfl, by omega, hbg2, hsz2, hx2⟩
  clear hRR hμ hm2 hq0 hst0 hbg2 hl0 hsz2 hx2
  go_loopw [10] (fun tv W => ∃ n, RR n tv W) (fun tv W => μ (fun n => RR n tv W))
  case atStart => exact ⟨_, hini⟩
  case round =>
    clear hini
    obtain ⟨hr1, _⟩ := HMU.out _ hrel
    obtain ⟨N, hN⟩ : ∃ N, μ (fun n => RR n u10 wr) = N := ⟨_, rfl⟩
    rw [hN] at hr1
    have HLT := Lib.hid (show ∀ n' tv' W', RR n' tv' W' → n' < N → μ (fun n => RR n tv' W') < μ (fun n => RR n u10 wr) from fun n' tv' W' h1 h2 => by
      rw [hN]; exact Nat.lt_of_le_of_lt ((HMU.out _ ⟨n', h1⟩).2 n' h1) h2)
    obtain ⟨f, todo, hmm, hown, hst, hn, hn2, hbg, hsz, hxw⟩ := (HRR.out _ _ _).1 hr1
    clear hrel hr1 hN
    cases todo with
    | nil =>
      have hfin : (fun k => if k ∈ reachL P U Bad (u0, t0) then some (decide (k ∈ mustL P U Bad (u0, t0))) else none) = f := by
        funext k
        exact (hst.fin HTT.out k).symm
      obtain ⟨A, cap, rfl, _⟩ := q_slice hown
      rw [← hfin] at hmm
      have HM := Lib.hid hmm
      clear hmm hfin hst
      go_wp2_with fail
      go_ret
      exact ⟨b, rfl, by omega, HM.out, hxw⟩
    | cons j todo =>
      obtain ⟨A, cap, rfl, _⟩ := q_slice hown
      obtain ⟨gt, ot, rfl, hgC, f1, f2, hcap, hown2⟩ := QRow.pop hown
      obtain ⟨uj, tj⟩ := j
      have hst2 := hst.pop
      have hgl : gt < wr.heap.size := q_lt hown gt rfl
      have hj0 := hst.tod _ List.mem_cons_self
      have hcn : (0 : Int) < (todo.length : Int) + 1 := by omega
      simp only [List.length_cons] at *
      clear hown hst
      go_upto_region 5 with (fail)
      refine wp_gen (fun W => Blk W wr.heap.size [.int .i64 uj, .int .u8 tj] 32 ∧ Ext wr W) ⟨Blk.newAt _ _ _ _ rfl, (Ext.refl wr).alloc _⟩ ?_
      rintro W3 ⟨hbq, hx3⟩
      obtain ⟨q, hq⟩ : ∃ q, wr.heap.size = q := ⟨_, rfl⟩
      rw [hq] at hbq hgl hsz ⊢
      have hs3 := hx3.size
      have hqW := hbq.lt
      replace hown2 := q_move hown2 (w1 := W3) (fun k hk => hx3.block k (q_lt hown2 k hk))
      replace hmm := hmm.ext hx3
      replace hbg := hbg.ext hx3
      replace hxw : Ext w W3 := Ext.trans hxw hx3
      have e0 := hbq.cell 0 rfl
      have e1 := hbq.cell 1 rfl
      have HT := Lib.hid (rowG7 G)
      obtain ⟨v2, hv2⟩ : ∃ v2, Value.slice (if cap = 1 then some ⟨gt, ot, none⟩ else some ⟨gt, ot + 2, none⟩) todo.length (cap - 1) = v2 := ⟨_, rfl⟩
      have hv2b : v2.ownBlock = some gt := by rw [← hv2]; split <;> rfl
      rw [hv2] at hown2
      clear f1 f2 hx3
      go_upto_region 6 with (fail)
      clear hv2
      go_wp2_with (first | (refine wpList_load_blk rfl 24 (.tmp 4) rfl B rfl HT.out hbg ?_) | (go_at_call 24; refine (HPL.out _ hxw uj tj).mono ?_; rintro e W6 ⟨vp, rfl, hop, hx6⟩; obtain ⟨Ap, cp, rfl, hcp, hrp, hlp⟩ := OwnsI.rd hop))
      have hPN : (P (uj, tj)).length ≤ 7000 := HLN.out (uj, tj)
      obtain ⟨ps, hps⟩ : ∃ ps, P (uj, tj) = ps := ⟨_, rfl⟩
      rw [hps] at hcp hrp hPN hst2 ⊢
      have hs6 := hx6.size
      have hown6 := q_move hown2 (w1 := W6) (fun k hk => hx6.block k (q_lt hown2 k hk))
      have hmm6 := hmm.ext hx6
      have hbg6 := hbg.ext hx6
      have hxw6 : Ext w W6 := Ext.trans hxw hx6
      have hbq6 := hbq.ext hx6
      have hb6 : b < q := by have := hmm.lt; omega
      clear hown2 hmm hbg hxw hbq hop hx6 e0 e1 hps
      go_loopw [35, 10] (fun iv tv W => ∃ (k : Nat) (f2 : Met) (todo2 : List Jb), k ≤ ps.length ∧ iv = .int .i64 k ∧ MetM W b f2 ∧ QRow W C0 32 2 tv todo2.length (cellsJ todo2) ∧ Srch P U Bad (u0, t0) f2 todo2 (some ((uj, tj), ps.drop k)) ∧ todo2.length + left U f2 + 1 ≤ N ∧
          (∀ x, x < W6.heap.size → x ≠ b → x ≠ gt → W.heap[x]? = W6.heap[x]?) ∧ (∀ x, tv.ownBlock = some x → x = gt ∨ W6.heap.size ≤ x) ∧ W6.heap.size ≤ W.heap.size ∧ Ext w W) (fun iv _ _ => ps.length - (RowKit.intOf iv).toNat)
      case atStart => exact ⟨0, f, todo, by omega, rfl, hmm6, hown6, hst2, by omega, fun _ _ _ _ => rfl, fun x hx => by rw [hv2b] at hx; cases hx; exact .inl rfl, Nat.le_refl _, hxw6⟩
      case round =>
        clear hmm6 hown6 hst2 hxw6
        obtain ⟨k, f2, todo2, hk, rfl, hmm, hown, hst, hn3, hkp, htb, hsz6, hxw⟩ := hrel
        obtain ⟨At, ct, rfl, hct⟩ := q_slice hown
        by_cases hlt : k < ps.length
        · have hlti : (k : Int) < ps.length := by omega
          have hrp2 : RdI wr Ap ps := hrp.kp fun a ha hl => hkp a.block hl (by have := hlp a ha; omega) (by have := hlp a ha; omega)
          have hq2 : Blk wr q [.int .i64 uj, .int .u8 tj] 32 := (hkp q (by omega) (by omega) (by omega)).trans hbq6
          obtain ⟨b9, o9, u2, t2, m2, rfl, he, f1, f3, f4⟩ := hrp2.at hlt
          have hdk : ps.drop k = ⟨u2, t2, m2⟩ :: ps.drop (k + 1) := by
            rw [List.drop_eq_getElem_cons hlt]
            congr 1
            rw [List.getElem?_eq_getElem hlt] at he
            exact Option.some.inj he
          rw [hdk] at hst
          obtain ⟨hst1, hm1⟩ := hst.one HTT.out hUn
          clear hdk he hrp2
          go_upto_region 9 with (fail)
          refine wp_gen (fun W => Blk W wr.heap.size [.int .i64 u2, .int .u8 t2, .bool m2] 55 ∧ Ext wr W) ⟨Blk.newAt _ _ _ _ rfl, (Ext.refl wr).alloc _⟩ ?_
          rintro W4 ⟨hbp, hx4⟩
          obtain ⟨qp, hqp⟩ : ∃ qp, wr.heap.size = qp := ⟨_, rfl⟩
          rw [hqp] at hbp hsz6 ⊢
          have hs4 := hx4.size
          have hkp4 : ∀ x, x < W6.heap.size → x ≠ b → x ≠ gt → W4.heap[x]? = W6.heap[x]? := fun x h1 h2 h3 => (hx4.block x (by omega)).trans (hkp x h1 h2 h3)
          replace hmm := hmm.ext hx4
          have hownl : ∀ x, (Value.slice At todo2.length ct).ownBlock = some x → x < qp := fun x hx => by have := q_lt hown x hx; omega
          replace hown := q_move hown (w1 := W4) (fun k hk => hx4.block k (q_lt hown k hk))
          replace hq2 := hq2.ext hx4
          replace hxw : Ext w W4 := Ext.trans hxw hx4
          have e0 := hbp.cell 0 rfl
          have e1 := hbp.cell 1 rfl
          have hlk := hmm.lookOk u2 t2
          clear f1 f3 f4 hkp hx4
          go_upto_region 10 with (fail)
          obtain ⟨nw, hnw⟩ : ∃ nw, (f2 (u2, t2)).getD false = nw := ⟨_, rfl⟩
          obtain ⟨mt, hmt⟩ : ∃ mt, (f2 (u2, t2)).isSome = mt := ⟨_, rfl⟩
          have himp : mt = false → nw = false := fun h => by
            rw [← hmt] at h
            rw [← hnw]
            cases hf : f2 (u2, t2) with
            | none => rfl
            | some c => rw [hf] at h; cases h
          rw [hnw]
          rw [hmt]
          refine wp_gen (fun W => Blk W W4.heap.size [.bool nw] 84 ∧ Ext W4 W) ⟨Blk.newAt _ _ _ _ rfl, (Ext.refl W4).alloc _⟩ ?_
          rintro W5 ⟨hbm, hx5⟩
          obtain ⟨qm, hqm⟩ : ∃ qm, W4.heap.size = qm := ⟨_, rfl⟩
          rw [hqm] at hbm ⊢
          have hs5 := hx5.size
          have hkp5 : ∀ x, x < W6.heap.size → x ≠ b → x ≠ gt → W5.heap[x]? = W6.heap[x]? := fun x h1 h2 h3 => (hx5.block x (by omega)).trans (hkp4 x h1 h2 h3)
          have hmm5 := hmm.ext hx5
          have hown5 := q_move hown (w1 := W5) (fun k hk => hx5.block k (q_lt hown k hk))
          have hxw5 : Ext w W5 := Ext.trans hxw hx5
          replace hbp := hbp.ext hx5
          replace hq2 := hq2.ext hx5
          have hqpW := hbp.lt
          obtain ⟨fj, hfj⟩ : ∃ fj, (f2 (uj, tj)).getD false = fj := ⟨_, rfl⟩
          obtain ⟨bd, hbd⟩ : ∃ bd, Bad (u2, t2) = bd := ⟨_, rfl⟩
          have HBV := Lib.hid (show Bad (jobOf ⟨u2, t2, m2⟩) = bd from hbd)
          have HMV := Lib.hid (show (f2 (jobOf ⟨u2, t2, m2⟩)).isSome = mt from hmt)
          have HNV := Lib.hid (show (f2 (jobOf ⟨u2, t2, m2⟩)).getD false = nw from hnw)
          have HFV := Lib.hid hfj
          have d0 := HBD.out W5 hxw5 u2 t2
          have d1 := hmm5.look uj tj
          rw [hbd] at d0
          rw [hfj] at d1
          have ad0 : ∀ W', Ext W5 W' → (Instr.lookup 82 (.map (some b)) (.agg #[.int .i64 uj, .int .u8 tj]) false).run Try.prog W' = .ok (.agg #[.bool fj]) W' := fun W' h => by rw [← hfj]; exact (hmm5.ext h).look uj tj
          have b0 := hbp.cell 0 rfl
          have b1 := hbp.cell 1 rfl
          have b2 := hbp.cell 2 rfl
          have n0 := hbm.cell 0 rfl
          have p0 := hq2.cell 0 rfl
          have p1 := hq2.cell 1 rfl
          have a0 : ∀ W', Ext W5 W' → W'.cell? ⟨qp, 0, none⟩ = some (.int .i64 u2) := fun W' h => (hbp.ext h).cell 0 rfl
          have a1 : ∀ W', Ext W5 W' → W'.cell? ⟨qp, 1, none⟩ = some (.int .u8 t2) := fun W' h => (hbp.ext h).cell 1 rfl
          have a2 : ∀ W', Ext W5 W' → W'.cell? ⟨qp, 2, none⟩ = some (.bool m2) := fun W' h => (hbp.ext h).cell 2 rfl
          have ad1 : ∀ W', Ext W5 W' → W'.cell? ⟨q, 0, none⟩ = some (.int .i64 uj) ∧ W'.cell? ⟨q, 1, none⟩ = some (.int .u8 tj) := fun W' h => ⟨(hq2.ext h).cell 0 rfl, (hq2.ext h).cell 1 rfl⟩
          have hfd : ∀ (y : Bool) (W : World), (Instr.field 84 (.agg #[.bool y]) 0).run Try.prog W = .ok (.bool y) W := fun _ _ => by kernel_rfl
          clear hlk hnw hmt hfj hbd hmm hown hxw hkp4 hx5 hbm e0 e1
          cases bd
          · simp only [Bool.false_eq_true, if_false] at d0
            cases mt
            · obtain rfl := himp rfl
              cases m2
              · (have e1 : metOne Bad (uj, tj) (f2, todo2) ⟨u2, t2, false⟩ = (fun k => if k = (u2, t2) then some false else f2 k, todo2 ++ [(u2, t2)]) := (by (rw [metOne_eq, HBV.out, HMV.out, HNV.out, HFV.out]; simp [jobOf])); rw [e1] at hst1 hm1; have HS1 := Lib.hid hst1; have HM1 := Lib.hid hm1; clear hst1 hm1 e1 hst; obtain ⟨es2, r2, fm2⟩ := hmm5; have fm3 := fm2.put (u2, t2) (.agg #[.bool false]); rw [mustV_put] at fm3; have FM3 := Lib.hid fm3; clear fm2 fm3; go_upto_region 11 with (fail); clear d0 d1 b0 b1 b2 n0; refine wp_region_mix (fun W => Ext W5 W) 12 [(0, true), (1, true), (2, true), (3, true), (4, true), (5, true), (6, true), (7, true), (8, true), (9, true), (10, true), (11, true), (12, false)] (by kernel_rfl) (by kernel_rfl) ((Ext.refl W5).drew) ?_; (repeat (first | (apply mix_read; (case ho => rfl); (case hw => rfl); (case h1 => intro W' hx; (try dsimp only at hx); go_simp; (try go_bits); with_reducible rfl); (case hp => go_simp; first | done | with_reducible rfl)) | (apply mix_skip; (case ho => rfl); (case hw => rfl); (case hp => go_simp; first | done | with_reducible rfl)))); refine mix_end 12 (by kernel_rfl) (by kernel_rfl) ?_; simp only [List.take_succ_cons, List.take_zero, List.drop_succ_cons, List.drop_zero]; unfold Q0; refine wpList_put keyJob rfl (.tmp 70) (.tmp 72) (.tmp 81) 82 84 rfl Try.underlying82 b es2 rfl r2.drew (u2, t2) (.agg #[.bool false]) rfl rfl ?_; rintro W8 m8 g8; have hb8 : Blk W8 qp [.int .i64 u2, .int .u8 t2, .bool false] 55 := Grown.blk g8 (show Blk W5.drew qp _ _ from hbp) (fun e => by have := Option.some.inj e; omega); have s8 : W5.heap.size ≤ W8.heap.size := g8.size; have c0 := hb8.cell 0 rfl; have c1 := hb8.cell 1 rfl; have hown8 := q_move hown5 (w1 := W8) (fun k hk => g8.block k (q_lt hown5 k hk) (fun e => by have h1 := (q_typed hown5 k hk).1; have h2 := Option.some.inj e; omega)); have hown9 := q_move hown8 (w1 := W8.alloc (.cells #[.int .i64 u2, .int .u8 t2] 32)) (fun k hk => Below.heap_alloc W8 _ k (q_lt hown8 k hk)); have hxw8 : Ext w W8 := Below.grown (show Ext w W5.drew from Ext.drew hxw5) g8 (show w.heap.size ≤ W5.heap.size by omega) (fun k e => by cases e; omega); have hkp8 : ∀ x, x < W6.heap.size → x ≠ b → x ≠ gt → W8.heap[x]? = W6.heap[x]? := fun x h1 h2 h3 => (g8.block x (show x < W5.heap.size by omega) (fun e => h2 (Option.some.inj e))).trans (hkp5 x h1 h2 h3); clear a0 a1 a2 ad0 ad1 hbp hown5 hown8; go_wp2_with (first | (refine wpList_append_jobQ rfl (.tmp 82) (.tmp 85) rfl C0 _ todo2 rfl hown9 W8.heap.size 1 u2 t2 rfl (Blk.newAt W8 _ _ _ rfl) (by omega) (by rw [World.size_alloc]; omega) ?_; rintro v9 W9 o9' g9 d9)); have s9 := g9.size; rw [World.size_alloc] at s9; have hgx : ∀ x, (Value.slice At todo2.length ct).ownBlock = some x → x ≠ b ∧ (x = gt ∨ W6.heap.size ≤ x) := fun x hx => ⟨fun e => by (have h1 := (q_typed hown9 x hx).1; omega), htb x hx⟩; have hmm9 : MetM W9 b (fun k => if k = (u2, t2) then some false else f2 k) := ⟨_, (m8.ext ((Ext.refl W8).alloc _)).kept g9 (fun e => (hgx b e.symm).1 rfl), FM3.out⟩; have hkp9 : ∀ x, x < W6.heap.size → x ≠ b → x ≠ gt → W9.heap[x]? = W6.heap[x]? := fun x h1 h2 h3 => (g9.block x (by rw [World.size_alloc]; omega) (fun e => by (rcases (hgx x e.symm).2 with h4 | h4; exact h3 h4; omega))).trans ((Below.heap_alloc W8 _ x (by omega)).trans (hkp8 x h1 h2 h3)); have hxw9 : Ext w W9 := Below.grown (Ext.alloc hxw8 _) g9 (by rw [World.size_alloc]; omega) (fun k e => by have := (q_typed hown9 k e).1; omega); have htb9 : ∀ x, v9.ownBlock = some x → x = gt ∨ W6.heap.size ≤ x := (fun x hx => by (rcases d9 x hx with h4 | h4; exact htb x h4; right; rw [World.size_alloc] at h4; omega)); have hm9 := HM1.out; have hs9 := HS1.out; go_roundw; (case rel => exact ⟨k + 1, _, _, by omega, by go_num, hmm9, o9', hs9, by (have hl9 : (todo2 ++ [(u2, t2)]).length = todo2.length + 1 := (by simp); exact Nat.le_trans (Nat.succ_le_succ hm9) hn3), hkp9, htb9, by omega, hxw9⟩); (case measure => simp [RowKit.intOf]; omega))
              · cases fj
                · (have e1 : metOne Bad (uj, tj) (f2, todo2) ⟨u2, t2, true⟩ = (fun k => if k = (u2, t2) then some false else f2 k, todo2 ++ [(u2, t2)]) := (by (rw [metOne_eq, HBV.out, HMV.out, HNV.out, HFV.out]; simp [jobOf])); rw [e1] at hst1 hm1; have HS1 := Lib.hid hst1; have HM1 := Lib.hid hm1; clear hst1 hm1 e1 hst; obtain ⟨es2, r2, fm2⟩ := hmm5; have fm3 := fm2.put (u2, t2) (.agg #[.bool false]); rw [mustV_put] at fm3; have FM3 := Lib.hid fm3; clear fm2 fm3; go_upto_region 11 with (fail); clear d0 d1 b0 b1 b2 n0; refine wp_region_mix (fun W => Ext W5 W) 12 [(0, true), (1, true), (2, true), (3, true), (4, true), (5, true), (6, true), (7, true), (8, true), (9, true), (10, true), (11, true), (12, false)] (by kernel_rfl) (by kernel_rfl) ((Ext.refl W5).drew) ?_; (repeat (first | (apply mix_read; (case ho => rfl); (case hw => rfl); (case h1 => intro W' hx; (try dsimp only at hx); go_simp; (try go_bits); with_reducible rfl); (case hp => go_simp; first | done | with_reducible rfl)) | (apply mix_skip; (case ho => rfl); (case hw => rfl); (case hp => go_simp; first | done | with_reducible rfl)))); refine mix_end 12 (by kernel_rfl) (by kernel_rfl) ?_; simp only [List.take_succ_cons, List.take_zero, List.drop_succ_cons, List.drop_zero]; unfold Q0; refine wpList_put keyJob rfl (.tmp 70) (.tmp 72) (.tmp 81) 82 84 rfl Try.underlying82 b es2 rfl r2.drew (u2, t2) (.agg #[.bool false]) rfl rfl ?_; rintro W8 m8 g8; have hb8 : Blk W8 qp [.int .i64 u2, .int .u8 t2, .bool true] 55 := Grown.blk g8 (show Blk W5.drew qp _ _ from hbp) (fun e => by have := Option.some.inj e; omega); have s8 : W5.heap.size ≤ W8.heap.size := g8.size; have c0 := hb8.cell 0 rfl; have c1 := hb8.cell 1 rfl; have hown8 := q_move hown5 (w1 := W8) (fun k hk => g8.block k (q_lt hown5 k hk) (fun e => by have h1 := (q_typed hown5 k hk).1; have h2 := Option.some.inj e; omega)); have hown9 := q_move hown8 (w1 := W8.alloc (.cells #[.int .i64 u2, .int .u8 t2] 32)) (fun k hk => Below.heap_alloc W8 _ k (q_lt hown8 k hk)); have hxw8 : Ext w W8 := Below.grown (show Ext w W5.drew from Ext.drew hxw5) g8 (show w.heap.size ≤ W5.heap.size by omega) (fun k e => by cases e; omega); have hkp8 : ∀ x, x < W6.heap.size → x ≠ b → x ≠ gt → W8.heap[x]? = W6.heap[x]? := fun x h1 h2 h3 => (g8.block x (show x < W5.heap.size by omega) (fun e => h2 (Option.some.inj e))).trans (hkp5 x h1 h2 h3); clear a0 a1 a2 ad0 ad1 hbp hown5 hown8; go_wp2_with (first | (refine wpList_append_jobQ rfl (.tmp 82) (.tmp 85) rfl C0 _ todo2 rfl hown9 W8.heap.size 1 u2 t2 rfl (Blk.newAt W8 _ _ _ rfl) (by omega) (by rw [World.size_alloc]; omega) ?_; rintro v9 W9 o9' g9 d9)); have s9 := g9.size; rw [World.size_alloc] at s9; have hgx : ∀ x, (Value.slice At todo2.length ct).ownBlock = some x → x ≠ b ∧ (x = gt ∨ W6.heap.size ≤ x) := fun x hx => ⟨fun e => by (have h1 := (q_typed hown9 x hx).1; omega), htb x hx⟩; have hmm9 : MetM W9 b (fun k => if k = (u2, t2) then some false else f2 k) := ⟨_, (m8.ext ((Ext.refl W8).alloc _)).kept g9 (fun e => (hgx b e.symm).1 rfl), FM3.out⟩; have hkp9 : ∀ x, x < W6.heap.size → x ≠ b → x ≠ gt → W9.heap[x]? = W6.heap[x]? := fun x h1 h2 h3 => (g9.block x (by rw [World.size_alloc]; omega) (fun e => by (rcases (hgx x e.symm).2 with h4 | h4; exact h3 h4; omega))).trans ((Below.heap_alloc W8 _ x (by omega)).trans (hkp8 x h1 h2 h3)); have hxw9 : Ext w W9 := Below.grown (Ext.alloc hxw8 _) g9 (by rw [World.size_alloc]; omega) (fun k e => by have := (q_typed hown9 k e).1; omega); have htb9 : ∀ x, v9.ownBlock = some x → x = gt ∨ W6.heap.size ≤ x := (fun x hx => by (rcases d9 x hx with h4 | h4; exact htb x h4; right; rw [World.size_alloc] at h4; omega)); have hm9 := HM1.out; have hs9 := HS1.out; go_roundw; (case rel => exact ⟨k + 1, _, _, by omega, by go_num, hmm9, o9', hs9, by (have hl9 : (todo2 ++ [(u2, t2)]).length = todo2.length + 1 := (by simp); exact Nat.le_trans (Nat.succ_le_succ hm9) hn3), hkp9, htb9, by omega, hxw9⟩); (case measure => simp [RowKit.intOf]; omega))
                · (have e1 : metOne Bad (uj, tj) (f2, todo2) ⟨u2, t2, true⟩ = (fun k => if k = (u2, t2) then some true else f2 k, todo2 ++ [(u2, t2)]) := (by (rw [metOne_eq, HBV.out, HMV.out, HNV.out, HFV.out]; simp [jobOf])); rw [e1] at hst1 hm1; have HS1 := Lib.hid hst1; have HM1 := Lib.hid hm1; clear hst1 hm1 e1 hst; obtain ⟨es2, r2, fm2⟩ := hmm5; have fm3 := fm2.put (u2, t2) (.agg #[.bool true]); rw [mustV_put] at fm3; have FM3 := Lib.hid fm3; clear fm2 fm3; go_upto_region 11 with (fail); clear d0 d1 b0 b1 b2 n0; refine wp_region_mix (fun W => Ext W5 W) 12 [(0, true), (1, true), (2, true), (3, true), (4, true), (5, true), (6, true), (7, true), (8, true), (9, true), (10, true), (11, true), (12, false)] (by kernel_rfl) (by kernel_rfl) ((Ext.refl W5).drew) ?_; (repeat (first | (apply mix_read; (case ho => rfl); (case hw => rfl); (case h1 => intro W' hx; (try dsimp only at hx); go_simp; (try go_bits); with_reducible rfl); (case hp => go_simp; first | done | with_reducible rfl)) | (apply mix_skip; (case ho => rfl); (case hw => rfl); (case hp => go_simp; first | done | with_reducible rfl)))); refine mix_end 12 (by kernel_rfl) (by kernel_rfl) ?_; simp only [List.take_succ_cons, List.take_zero, List.drop_succ_cons, List.drop_zero]; unfold Q0; refine wpList_put keyJob rfl (.tmp 70) (.tmp 72) (.tmp 81) 82 84 rfl Try.underlying82 b es2 rfl r2.drew (u2, t2) (.agg #[.bool true]) rfl rfl ?_; rintro W8 m8 g8; have hb8 : Blk W8 qp [.int .i64 u2, .int .u8 t2, .bool true] 55 := Grown.blk g8 (show Blk W5.drew qp _ _ from hbp) (fun e => by have := Option.some.inj e; omega); have s8 : W5.heap.size ≤ W8.heap.size := g8.size; have c0 := hb8.cell 0 rfl; have c1 := hb8.cell 1 rfl; have hown8 := q_move hown5 (w1 := W8) (fun k hk => g8.block k (q_lt hown5 k hk) (fun e => by have h1 := (q_typed hown5 k hk).1; have h2 := Option.some.inj e; omega)); have hown9 := q_move hown8 (w1 := W8.alloc (.cells #[.int .i64 u2, .int .u8 t2] 32)) (fun k hk => Below.heap_alloc W8 _ k (q_lt hown8 k hk)); have hxw8 : Ext w W8 := Below.grown (show Ext w W5.drew from Ext.drew hxw5) g8 (show w.heap.size ≤ W5.heap.size by omega) (fun k e => by cases e; omega); have hkp8 : ∀ x, x < W6.heap.size → x ≠ b → x ≠ gt → W8.heap[x]? = W6.heap[x]? := fun x h1 h2 h3 => (g8.block x (show x < W5.heap.size by omega) (fun e => h2 (Option.some.inj e))).trans (hkp5 x h1 h2 h3); clear a0 a1 a2 ad0 ad1 hbp hown5 hown8; go_wp2_with (first | (refine wpList_append_jobQ rfl (.tmp 82) (.tmp 85) rfl C0 _ todo2 rfl hown9 W8.heap.size 1 u2 t2 rfl (Blk.newAt W8 _ _ _ rfl) (by omega) (by rw [World.size_alloc]; omega) ?_; rintro v9 W9 o9' g9 d9)); have s9 := g9.size; rw [World.size_alloc] at s9; have hgx : ∀ x, (Value.slice At todo2.length ct).ownBlock = some x → x ≠ b ∧ (x = gt ∨ W6.heap.size ≤ x) := fun x hx => ⟨fun e => by (have h1 := (q_typed hown9 x hx).1; omega), htb x hx⟩; have hmm9 : MetM W9 b (fun k => if k = (u2, t2) then some true else f2 k) := ⟨_, (m8.ext ((Ext.refl W8).alloc _)).kept g9 (fun e => (hgx b e.symm).1 rfl), FM3.out⟩; have hkp9 : ∀ x, x < W6.heap.size → x ≠ b → x ≠ gt → W9.heap[x]? = W6.heap[x]? := fun x h1 h2 h3 => (g9.block x (by rw [World.size_alloc]; omega) (fun e => by (rcases (hgx x e.symm).2 with h4 | h4; exact h3 h4; omega))).trans ((Below.heap_alloc W8 _ x (by omega)).trans (hkp8 x h1 h2 h3)); have hxw9 : Ext w W9 := Below.grown (Ext.alloc hxw8 _) g9 (by rw [World.size_alloc]; omega) (fun k e => by have := (q_typed hown9 k e).1; omega); have htb9 : ∀ x, v9.ownBlock = some x → x = gt ∨ W6.heap.size ≤ x := (fun x hx => by (rcases d9 x hx with h4 | h4; exact htb x h4; right; rw [World.size_alloc] at h4; omega)); have hm9 := HM1.out; have hs9 := HS1.out; go_roundw; (case rel => exact ⟨k + 1, _, _, by omega, by go_num, hmm9, o9', hs9, by (have hl9 : (todo2 ++ [(u2, t2)]).length = todo2.length + 1 := (by simp); exact Nat.le_trans (Nat.succ_le_succ hm9) hn3), hkp9, htb9, by omega, hxw9⟩); (case measure => simp [RowKit.intOf]; omega))
            · cases nw
              · cases m2
                · (have e1 : metOne Bad (uj, tj) (f2, todo2) ⟨u2, t2, false⟩ = (f2, todo2) := (by (rw [metOne_eq, HBV.out, HMV.out, HNV.out, HFV.out]; simp [jobOf])); rw [e1] at hst1 hm1; have HS1 := Lib.hid hst1; clear hst1 hm1 e1 hst a0 a1 a2 ad0 ad1; go_wp2_with fail; go_roundw; (case rel => exact ⟨k + 1, f2, todo2, by omega, by go_num, hmm5, hown5, HS1.out, hn3, hkp5, htb, by omega, hxw5⟩); (case measure => simp [RowKit.intOf]; omega))
                · cases fj
                  · (have e1 : metOne Bad (uj, tj) (f2, todo2) ⟨u2, t2, true⟩ = (f2, todo2) := (by (rw [metOne_eq, HBV.out, HMV.out, HNV.out, HFV.out]; simp [jobOf])); rw [e1] at hst1 hm1; have HS1 := Lib.hid hst1; clear hst1 hm1 e1 hst a0 a1 a2 ad0 ad1; go_wp2_with fail; go_roundw; (case rel => exact ⟨k + 1, f2, todo2, by omega, by go_num, hmm5, hown5, HS1.out, hn3, hkp5, htb, by omega, hxw5⟩); (case measure => simp [RowKit.intOf]; omega))
                  · (have e1 : metOne Bad (uj, tj) (f2, todo2) ⟨u2, t2, true⟩ = (fun k => if k = (u2, t2) then some true else f2 k, todo2 ++ [(u2, t2)]) := (by (rw [metOne_eq, HBV.out, HMV.out, HNV.out, HFV.out]; simp [jobOf])); rw [e1] at hst1 hm1; have HS1 := Lib.hid hst1; have HM1 := Lib.hid hm1; clear hst1 hm1 e1 hst; obtain ⟨es2, r2, fm2⟩ := hmm5; have fm3 := fm2.put (u2, t2) (.agg #[.bool true]); rw [mustV_put] at fm3; have FM3 := Lib.hid fm3; clear fm2 fm3; go_upto_region 11 with (fail); clear d0 d1 b0 b1 b2 n0; refine wp_region_mix (fun W => Ext W5 W) 12 [(0, true), (1, true), (2, true), (3, true), (4, true), (5, true), (6, true), (7, true), (8, true), (9, true), (10, true), (11, true), (12, false)] (by kernel_rfl) (by kernel_rfl) ((Ext.refl W5).drew) ?_; (repeat (first | (apply mix_read; (case ho => rfl); (case hw => rfl); (case h1 => intro W' hx; (try dsimp only at hx); go_simp; (try go_bits); with_reducible rfl); (case hp => go_simp; first | done | with_reducible rfl)) | (apply mix_skip; (case ho => rfl); (case hw => rfl); (case hp => go_simp; first | done | with_reducible rfl)))); refine mix_end 12 (by kernel_rfl) (by kernel_rfl) ?_; simp only [List.take_succ_cons, List.take_zero, List.drop_succ_cons, List.drop_zero]; unfold Q0; refine wpList_put keyJob rfl (.tmp 70) (.tmp 72) (.tmp 81) 82 84 rfl Try.underlying82 b es2 rfl r2.drew (u2, t2) (.agg #[.bool true]) rfl rfl ?_; rintro W8 m8 g8; have hb8 : Blk W8 qp [.int .i64 u2, .int .u8 t2, .bool true] 55 := Grown.blk g8 (show Blk W5.drew qp _ _ from hbp) (fun e => by have := Option.some.inj e; omega); have s8 : W5.heap.size ≤ W8.heap.size := g8.size; have c0 := hb8.cell 0 rfl; have c1 := hb8.cell 1 rfl; have hown8 := q_move hown5 (w1 := W8) (fun k hk => g8.block k (q_lt hown5 k hk) (fun e => by have h1 := (q_typed hown5 k hk).1; have h2 := Option.some.inj e; omega)); have hown9 := q_move hown8 (w1 := W8.alloc (.cells #[.int .i64 u2, .int .u8 t2] 32)) (fun k hk => Below.heap_alloc W8 _ k (q_lt hown8 k hk)); have hxw8 : Ext w W8 := Below.grown (show Ext w W5.drew from Ext.drew hxw5) g8 (show w.heap.size ≤ W5.heap.size by omega) (fun k e => by cases e; omega); have hkp8 : ∀ x, x < W6.heap.size → x ≠ b → x ≠ gt → W8.heap[x]? = W6.heap[x]? := fun x h1 h2 h3 => (g8.block x (show x < W5.heap.size by omega) (fun e => h2 (Option.some.inj e))).trans (hkp5 x h1 h2 h3); clear a0 a1 a2 ad0 ad1 hbp hown5 hown8; go_wp2_with (first | (refine wpList_append_jobQ rfl (.tmp 82) (.tmp 85) rfl C0 _ todo2 rfl hown9 W8.heap.size 1 u2 t2 rfl (Blk.newAt W8 _ _ _ rfl) (by omega) (by rw [World.size_alloc]; omega) ?_; rintro v9 W9 o9' g9 d9)); have s9 := g9.size; rw [World.size_alloc] at s9; have hgx : ∀ x, (Value.slice At todo2.length ct).ownBlock = some x → x ≠ b ∧ (x = gt ∨ W6.heap.size ≤ x) := fun x hx => ⟨fun e => by (have h1 := (q_typed hown9 x hx).1; omega), htb x hx⟩; have hmm9 : MetM W9 b (fun k => if k = (u2, t2) then some true else f2 k) := ⟨_, (m8.ext ((Ext.refl W8).alloc _)).kept g9 (fun e => (hgx b e.symm).1 rfl), FM3.out⟩; have hkp9 : ∀ x, x < W6.heap.size → x ≠ b → x ≠ gt → W9.heap[x]? = W6.heap[x]? := fun x h1 h2 h3 => (g9.block x (by rw [World.size_alloc]; omega) (fun e => by (rcases (hgx x e.symm).2 with h4 | h4; exact h3 h4; omega))).trans ((Below.heap_alloc W8 _ x (by omega)).trans (hkp8 x h1 h2 h3)); have hxw9 : Ext w W9 := Below.grown (Ext.alloc hxw8 _) g9 (by rw [World.size_alloc]; omega) (fun k e => by have := (q_typed hown9 k e).1; omega); have htb9 : ∀ x, v9.ownBlock = some x → x = gt ∨ W6.heap.size ≤ x := (fun x hx => by (rcases d9 x hx with h4 | h4; exact htb x h4; right; rw [World.size_alloc] at h4; omega)); have hm9 := HM1.out; have hs9 := HS1.out; go_roundw; (case rel => exact ⟨k + 1, _, _, by omega, by go_num, hmm9, o9', hs9, by (have hl9 : (todo2 ++ [(u2, t2)]).length = todo2.length + 1 := (by simp); exact Nat.le_trans (Nat.succ_le_succ hm9) hn3), hkp9, htb9, by omega, hxw9⟩); (case measure => simp [RowKit.intOf]; omega))
              · (have e1 : metOne Bad (uj, tj) (f2, todo2) ⟨u2, t2, m2⟩ = (f2, todo2) := (by (rw [metOne_eq, HBV.out, HMV.out, HNV.out, HFV.out]; simp [jobOf])); rw [e1] at hst1 hm1; have HS1 := Lib.hid hst1; clear hst1 hm1 e1 hst a0 a1 a2 ad0 ad1; go_wp2_with fail; go_roundw; (case rel => exact ⟨k + 1, f2, todo2, by omega, by go_num, hmm5, hown5, HS1.out, hn3, hkp5, htb, by omega, hxw5⟩); (case measure => simp [RowKit.intOf]; omega))
          · simp only [if_true] at d0
            (have e1 : metOne Bad (uj, tj) (f2, todo2) ⟨u2, t2, m2⟩ = (f2, todo2) := (by (rw [metOne_eq, HBV.out, HMV.out, HNV.out, HFV.out]; simp [jobOf])); rw [e1] at hst1 hm1; have HS1 := Lib.hid hst1; clear hst1 hm1 e1 hst a0 a1 a2 ad0 ad1; go_wp2_with fail; go_roundw; (case rel => exact ⟨k + 1, f2, todo2, by omega, by go_num, hmm5, hown5, HS1.out, hn3, hkp5, htb, by omega, hxw5⟩); (case measure => simp [RowKit.intOf]; omega))
        · obtain rfl : k = ps.length := by omega
          rw [List.drop_of_length_le (Nat.le_refl _)] at hst
          have kB : wr.heap[B]? = W6.heap[B]? := hkp B (by omega) (by omega) (by omega)
          have hrr := (HRR.out (todo2.length + left U f2) _ _).2 ⟨f2, todo2, hmm, hown, hst.end, rfl, by omega, kB.trans hbg6, by omega, hxw⟩
          have hlt2 := HLT.out _ _ _ hrr (by omega)
          clear hmm hown hst hkp hxw
          go_wp2_with fail
          go_roundw
          case rel => exact ⟨_, hrr⟩
          case measure => exact hlt2
end Go.Proofs.Ytclgclcoblfddaa
