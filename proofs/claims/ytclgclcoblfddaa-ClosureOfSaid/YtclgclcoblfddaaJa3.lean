/- Several texts of this claim, joined. -/
import Derived.Test.YtclgclcoblfddaaJa2
namespace Go.Proofs.Ytclgclcoblfddaa
open Go.RowKit Go.Shelf
set_option linter.unusedVariables false
set_option linter.unusedSimpArgs false
def compL {α : Type} [DecidableEq α] (l : List α) : List α := l.foldl (fun acc x => if acc.getLast? = some x then acc else acc ++ [x]) []
section
variable {α : Type} [DecidableEq α]
theorem compL_snoc (l : List α) (x : α) : compL (l ++ [x]) = if (compL l).getLast? = some x then compL l else compL l ++ [x] := by
 unfold compL
 rw [List.foldl_append]
 rfl
theorem compL_last (l : List α) : (compL l).getLast? = l.getLast? := by
 have key : ∀ n (l : List α), l.length = n → (compL l).getLast? = l.getLast? := by
  intro n
  induction n with
  | zero => intro l h; rw [List.eq_nil_of_length_eq_zero h]; rfl
  | succ n ih =>
   intro l h
   rcases List.eq_nil_or_concat l with h0 | ⟨i, x, h0⟩
   ·subst h0; rfl
   ·rw [List.concat_eq_append] at h0
    subst h0
    rw [compL_snoc]
    split
    ·rename_i h1
     rw [h1]; simp
    ·simp
 exact key _ l rfl
theorem compL_take {l : List α} {k : Nat} {x : α} (hx : l[k]? = some x) {y : α} (hk : 0 < k) (hy : l[k - 1]? = some y) : compL (l.take (k + 1)) = if y = x then compL (l.take k) else compL (l.take k) ++ [x] := by
 have hlt : k < l.length := (List.getElem?_eq_some_iff.1 hx).1
 have hxx : l[k] = x := by rw [List.getElem?_eq_getElem hlt] at hx; exact Option.some.inj hx
 rw [List.take_succ_eq_append_getElem hlt, hxx, compL_snoc, compL_last]
 have h2 : (l.take k).getLast? = some y := by
  rw [List.getLast?_eq_getElem?, List.length_take, List.getElem?_take]
  rw [if_pos (by omega), show min k l.length - 1 = k - 1 by omega]
  exact hy
 rw [h2]
 by_cases h : y = x <;> simp [h]
end
structure CptSt (l : List Jb) (j q : Nat) (xs : List Jb) : Prop where
 len : xs.length = l.length
 hj : j ≤ l.length
 cnt : q = (compL (l.take j)).length
 pre : xs.take q = compL (l.take j)
 post : xs.drop (j - 1) = l.drop (j - 1)
 lt : q < j
theorem CptSt.at {l xs : List Jb} {j q i : Nat} (h : CptSt l j q xs) (hi : j - 1 ≤ i) : xs[i]? = l[i]? := by
 have := congrArg (fun m => m[i - (j - 1)]?) h.post
 simp only [List.getElem?_drop] at this
 rwa [show j - 1 + (i - (j - 1)) = i by omega] at this
theorem CptSt.same {l xs : List Jb} {j q : Nat} (h : CptSt l j q xs) {x : Jb} (hx : l[j]? = some x) (hy : l[j - 1]? = some x) : CptSt l (j + 1) q xs := by
 have hj := h.lt
 have e : compL (l.take (j + 1)) = compL (l.take j) := by rw [compL_take hx (by omega) hy, if_pos rfl]
 have hjl := (List.getElem?_eq_some_iff.1 hx).1
 refine ⟨h.len, by omega, by rw [e]; exact h.cnt, by rw [e]; exact h.pre, ?_, by omega⟩
 have := congrArg (List.drop 1) h.post
 rwa [List.drop_drop, List.drop_drop, show j - 1 + 1 = j + 1 - 1 by omega] at this
theorem CptSt.more {l xs : List Jb} {j q : Nat} (h : CptSt l j q xs) {x y : Jb} (hx : l[j]? = some x) (hy : l[j - 1]? = some y) (hne : x ≠ y) : CptSt l (j + 1) (q + 1) (xs.set q x) := by
 have hj := h.lt
 have e : compL (l.take (j + 1)) = compL (l.take j) ++ [x] := by rw [compL_take hx (by omega) hy, if_neg fun e => hne e.symm]
 have hjl := (List.getElem?_eq_some_iff.1 hx).1
 have hlen := h.len
 refine ⟨by simp [hlen], by omega, by rw [e, List.length_append, ← h.cnt]; rfl, ?_, ?_, by omega⟩
 ·rw [e, ← h.pre, List.take_succ_eq_append_getElem (by simp; omega), List.take_set_of_le (Nat.le_refl _)]
  simp
 ·rw [List.drop_set_of_lt (by omega)]
  have := congrArg (List.drop 1) h.post
  rwa [List.drop_drop, List.drop_drop, show j - 1 + 1 = j + 1 - 1 by omega] at this
end Go.Proofs.Ytclgclcoblfddaa
namespace Go.Proofs.Ytclgclcoblfddaa
open Go.RowKit Go.Shelf
set_option linter.unusedVariables false
set_option linter.unusedSimpArgs false
end Go.Proofs.Ytclgclcoblfddaa
namespace Go.Proofs.Ytclgclcoblfddaa
open Go.RowKit Go.Shelf
set_option linter.unusedVariables false
set_option linter.unusedSimpArgs false
def okPull (l : List It) (x p : It) : Bool := !p.m || (decide (Zaz p ∈ l.map Zaz) && (!x.m || Zch l (Zaz p)))
def okItem (P : Jb → List It) (l : List It) (x : It) : Bool := (P (Zaz x)).all (okPull l x)
def closedL (P : Jb → List It) (l : List It) : Bool := l.all (okItem P l)
def metOf (l : List It) : Met := fun k => if k ∈ l.map Zaz then some (Zch l k) else none
theorem metOf_snoc (l : List It) (x : It) : (fun k => if k = Zaz x then some (Zch l (Zaz x) || x.m) else metOf l k) = metOf (l ++ [x]) := by
 funext k
 unfold metOf
 rw [mustOf_snoc, List.map_append]
 by_cases h : k = Zaz x
 ·subst h; simp
 ·have h' : Zaz x ≠ k := fun e => h e.symm
  simp [h, h']
theorem metOf_must (l : List It) (k : Jb) : (metOf l k).getD false = Zch l k := by
 unfold metOf
 by_cases h : k ∈ l.map Zaz
 ·rw [if_pos h]; rfl
 ·rw [if_neg h, mustOf_none h]; rfl
theorem metOf_some (l : List It) (k : Jb) : (metOf l k).isSome = decide (k ∈ l.map Zaz) := by
 unfold metOf
 by_cases h : k ∈ l.map Zaz <;> simp [h]
set_option maxRecDepth 100000 in
set_option maxHeartbeats 8000000 in
theorem closed_calls (w : World) (G : G7) (Aon : Option Addr) (con : Nat) (on : List Bool) (l : List It) (A : Option Addr) (cap : Nat)
  (hG : G.ok w) (hob : RdV w Aon (on.map .bool)) (hol : on.length ≤ 1000) (hr : RdI w A l) (hlen : l.length ≤ 10000) :
  Calls Try.prog 22 #[.agg G.cs.toArray, .slice Aon on.length con, .slice A l.length cap] w
   fun e w' => ∃ c, e = .returned (.bool c) ∧ Hid (c = closedL (Zcc G.l on) l) ∧ Ext w w' := by
 have HPL0 := Lib.hid (fun W (hx : Ext w W) u t => pulls_calls W G Aon con on u t (hG.ext hx) (hob.ext hx) hol)
 have HLN := Lib.hid (fun j => pullJ_len hG on j)
 obtain ⟨P, hP⟩ : ∃ P, Zcc G.l on = P := ⟨_, rfl⟩
 have HPL := Lib.hid (show ∀ W, Ext w W → ∀ u t, Calls Try.prog 24 #[.agg G.cs.toArray, .slice Aon on.length con, .agg #[.int .i64 u, .int .u8 t]] W
   fun e w' => ∃ v, e = .returned v ∧ w'.ownsRow W.heap.size 55 3 v (P (u, t)).length (Zcq (P (u, t))) ∧ Below W.heap.size W w' from fun W hx u t => by rw [← hP]; exact HPL0.out W hx u t)
 rw [hP] at HLN ⊢
 have HRD := Lib.hid hr
 clear hG hob hP HPL0 hr
 obtain ⟨B, hB⟩ : ∃ B, w.heap.size = B := ⟨_, rfl⟩
 go_enter Try.func22, Try.ntmps22
 have hmm := @run_makeMap Try.prog
 go_upto_region 1 with (fail)
 refine Zep (fun W => Blk W B G.cs 24 ∧ Ext w W) ⟨Blk.newAt w G.cs _ _ hB.symm, (Ext.refl w).alloc _⟩ ?_
 rintro W0 ⟨hbg, hx0⟩
 go_upto_region 2 with (fail)
 refine Zep (fun W => RMap encJ W W0.heap.size ([] : List ((Int × Int) × Value)) ∧ Blk W B G.cs 24 ∧ Ext w W) ⟨RMap.made encJ W0, hbg.alloc _, Ext.alloc hx0 _⟩ ?_
 have hB0 := hbg.lt
 obtain ⟨b, hb⟩ : ∃ b, W0.heap.size = b := ⟨_, rfl⟩
 rw [hb] at hB0 ⊢
 clear hbg hx0 hb hmm
 rintro W1 ⟨m1, hbg1, hx1⟩
 have HT := Lib.hid (rowG7 G)
 go_wp2_with fail
 go_loopw [19] (fun iv W => ∃ (k : Nat), k ≤ l.length ∧ iv = .int .i64 k ∧ MetM W b (metOf (l.take k)) ∧ Blk W B G.cs 24 ∧ Ext w W) (fun iv _ => l.length - (RowKit.intOf iv).toNat)
 case atStart => exact ⟨0, by omega, rfl, ⟨[], m1, FM.nil⟩, hbg1, hx1⟩
 case round =>
  clear m1 hbg1 hx1
  obtain ⟨k, hk, rfl, hmm, hbg, hxw⟩ := hrel
  by_cases hlt : k < l.length
  ·have hlti : (k : Int) < l.length := by omega
   obtain ⟨b1, o1, u, t, m, rfl, he, f1, f2, f3⟩ := (HRD.out.ext hxw).at hlt
   have htk : l.take (k + 1) = l.take k ++ [⟨u, t, m⟩] := by rw [List.take_succ_eq_append_getElem hlt]; congr 2; rw [List.getElem?_eq_getElem hlt] at he; exact Option.some.inj he
   have HTK := Lib.hid (show (fun x => mustV (metOf (l.take (k + 1)) x)) = (fun x => mustV (if x = (u, t) then some (Zch (l.take k) (u, t) || m) else metOf (l.take k) x)) by
    rw [htk, ← metOf_snoc]; rfl)
   clear htk he
   go_upto_region 5 with (fail)
   refine Zep (fun W => Blk W wr.heap.size [.int .i64 u, .int .u8 t, .bool m] 34 ∧ Ext wr W) ⟨Blk.newAt _ _ _ _ rfl, (Ext.refl wr).alloc _⟩ ?_
   rintro W1 ⟨hbi, hx1⟩
   obtain ⟨q, hq⟩ : ∃ q, wr.heap.size = q := ⟨_, rfl⟩
   rw [hq] at hbi ⊢
   have hmm1 := hmm.ext hx1
   have hbg1 := hbg.ext hx1
   have hxw1 : Ext w W1 := Ext.trans hxw hx1
   have hsw := hxw1.size
   have e0 : ∀ W', Ext W1 W' → W'.cell? ⟨q, 0, none⟩ = some (.int .i64 u) := fun W' h => (hbi.ext h).cell 0 rfl
   have e1 : ∀ W', Ext W1 W' → W'.cell? ⟨q, 1, none⟩ = some (.int .u8 t) := fun W' h => (hbi.ext h).cell 1 rfl
   have e2 : ∀ W', Ext W1 W' → W'.cell? ⟨q, 2, none⟩ = some (.bool m) := fun W' h => (hbi.ext h).cell 2 rfl
   obtain ⟨nw, hnw⟩ : ∃ nw, Zch (l.take k) (u, t) = nw := ⟨_, rfl⟩
   have el : ∀ W', Ext W1 W' → (Instr.lookup 82 (.map (some b)) (.agg #[.int .i64 u, .int .u8 t]) false).run Try.prog W' = .ok (.agg #[.bool nw]) W' := fun W' h => by
    have := (hmm1.ext h).look u t
    rw [metOf_must, hnw] at this
    exact this
   have hfd : ∀ (y : Bool) (W : World), (Instr.field 84 (.agg #[.bool y]) 0).run Try.prog W = .ok (.bool y) W := fun _ _ => by kernel_rfl
   rw [hnw] at HTK
   obtain ⟨es, mp, fm⟩ := hmm1
   have fm2 := fun c => (fm.put (u, t) (.agg #[.bool c]))
   simp only [mustV_put] at fm2
   have FM2 := Lib.hid fm2
   clear f1 f2 f3 hmm hbg hxw hx1 hbi fm fm2 hnw
   cases nw
   ·refine Zds (fun W => Ext W1 W) 13 [(0, true), (1, true), (2, true), (3, true), (4, true), (5, true), (6, true), (7, true), (8, true), (9, true), (10, true), (11, true), (12, true), (13, false)] (by kernel_rfl) (by kernel_rfl) ((Ext.refl W1).drew) ?_; (repeat (first | (apply mix_read; (case ho => rfl); (case hw => rfl); (case h1 => intro W' hx; (try dsimp only at hx); go_simp; (try go_bits); with_reducible rfl); (case hp => go_simp; first | done | with_reducible rfl)) | (apply mix_skip; (case ho => rfl); (case hw => rfl); (case hp => go_simp; first | done | with_reducible rfl)))); refine mix_end 13 (by kernel_rfl) (by kernel_rfl) ?_; simp only [List.take_succ_cons, List.take_zero, List.drop_succ_cons, List.drop_zero]; unfold Q0; refine Zen keyJob rfl (.tmp 23) (.tmp 25) (.tmp 35) 82 84 rfl Try.underlying82 b es rfl (show RMap encJ W1.drew b es from mp) (u, t) (.agg #[.bool m]) rfl rfl ?_; rintro W8 m8 g8; have hxw8 : Ext w W8 := Below.grown (show Ext w W1.drew from Ext.drew hxw1) g8 (show w.heap.size ≤ W1.heap.size by omega) (fun k e => by cases e; omega); have hbg8 : Blk W8 B G.cs 24 := Grown.blk g8 (show Blk W1.drew B G.cs 24 from hbg1) (fun e => by have := Option.some.inj e; omega); go_wp2_with fail; go_roundw; (case rel => exact ⟨k + 1, by omega, by go_num, ⟨_, m8, by rw [HTK.out]; exact FM2.out m⟩, hbg8, hxw8⟩); (case measure => simp [RowKit.intOf]; omega)
   ·refine Zds (fun W => Ext W1 W) 13 [(0, true), (1, true), (2, true), (3, true), (4, true), (5, true), (6, true), (7, true), (8, true), (9, true), (10, true), (11, true), (12, true), (13, false)] (by kernel_rfl) (by kernel_rfl) ((Ext.refl W1).drew) ?_; (repeat (first | (apply mix_read; (case ho => rfl); (case hw => rfl); (case h1 => intro W' hx; (try dsimp only at hx); go_simp; (try go_bits); with_reducible rfl); (case hp => go_simp; first | done | with_reducible rfl)) | (apply mix_skip; (case ho => rfl); (case hw => rfl); (case hp => go_simp; first | done | with_reducible rfl)))); refine mix_end 13 (by kernel_rfl) (by kernel_rfl) ?_; simp only [List.take_succ_cons, List.take_zero, List.drop_succ_cons, List.drop_zero]; unfold Q0; refine Zen keyJob rfl (.tmp 23) (.tmp 25) (.tmp 35) 82 84 rfl Try.underlying82 b es rfl (show RMap encJ W1.drew b es from mp) (u, t) (.agg #[.bool true]) rfl rfl ?_; rintro W8 m8 g8; have hxw8 : Ext w W8 := Below.grown (show Ext w W1.drew from Ext.drew hxw1) g8 (show w.heap.size ≤ W1.heap.size by omega) (fun k e => by cases e; omega); have hbg8 : Blk W8 B G.cs 24 := Grown.blk g8 (show Blk W1.drew B G.cs 24 from hbg1) (fun e => by have := Option.some.inj e; omega); go_wp2_with fail; go_roundw; (case rel => exact ⟨k + 1, by omega, by go_num, ⟨_, m8, by rw [HTK.out]; exact FM2.out true⟩, hbg8, hxw8⟩); (case measure => simp [RowKit.intOf]; omega)
  ·obtain rfl : k = l.length := by omega
   rw [List.take_of_length_le (Nat.le_refl _)] at hmm
   go_wp2_with fail
   have hmm0 := hmm
   have hbg0 := hbg
   have hxw0 := hxw
   go_loopw [39] (fun iv W => ∃ (k : Nat), k ≤ l.length ∧ iv = .int .i64 k ∧ (∀ x ∈ l.take k, okItem P l x = true) ∧ MetM W b (metOf l) ∧ Blk W B G.cs 24 ∧ Ext w W) (fun iv _ => l.length - (RowKit.intOf iv).toNat)
   case atStart => exact ⟨0, by omega, rfl, (fun x hx => by simp at hx), hmm0, hbg0, hxw0⟩
   case round =>
    clear hmm hbg hxw hmm0 hbg0 hxw0
    obtain ⟨k, hk2, rfl, hall, hmm, hbg, hxw⟩ := hrel
    by_cases hlt2 : k < l.length
    ·have hlti : (k : Int) < l.length := by omega
     obtain ⟨b1, o1, u, t, m, rfl, he, f1, f2, f3⟩ := (HRD.out.ext hxw).at hlt2
     have hmem : (⟨u, t, m⟩ : It) ∈ l := List.mem_of_getElem? he
     have htk : l.take (k + 1) = l.take k ++ [⟨u, t, m⟩] := by rw [List.take_succ_eq_append_getElem hlt2]; congr 2; rw [List.getElem?_eq_getElem hlt2] at he; exact Option.some.inj he
     have HTK := Lib.hid htk
     clear htk he
     go_upto_region 10 with (fail)
     refine Zep (fun W => Blk W wr.heap.size [.int .i64 u, .int .u8 t, .bool m] 34 ∧ Ext wr W) ⟨Blk.newAt _ _ _ _ rfl, (Ext.refl wr).alloc _⟩ ?_
     rintro W1 ⟨hbi, hx1⟩
     obtain ⟨q, hq⟩ : ∃ q, wr.heap.size = q := ⟨_, rfl⟩
     rw [hq] at hbi ⊢
     have hmm1 := hmm.ext hx1
     have hbg1 := hbg.ext hx1
     have hxw1 : Ext w W1 := Ext.trans hxw hx1
     have e0 := hbi.cell 0 rfl
     have e1 := hbi.cell 1 rfl
     clear f1 f2 f3 hmm hbg hxw hx1
     go_wp2_with (first | (refine Zcv rfl 24 (.tmp 3) rfl B rfl HT.out hbg1 ?_) | (go_at_call 24; refine (HPL.out _ hxw1 u t).mono ?_; rintro e W6 ⟨vp, rfl, hop, hx6⟩; obtain ⟨Ap, cp, rfl, hcp, hrp, hlp⟩ := OwnsI.rd hop))
     have hPN : (P (u, t)).length ≤ 7000 := HLN.out (u, t)
     obtain ⟨ps, hps⟩ : ∃ ps, P (u, t) = ps := ⟨_, rfl⟩
     have HOK := Lib.hid (show okItem P l ⟨u, t, m⟩ = ps.all (okPull l ⟨u, t, m⟩) by rw [← hps]; rfl)
     rw [hps] at hcp hrp hPN ⊢
     have hmm6 := hmm1.ext hx6
     have hbg6 := hbg1.ext hx6
     have hbi6 := hbi.ext hx6
     have hxw6 : Ext w W6 := Ext.trans hxw1 hx6
     clear hmm1 hbg1 hxw1 hbi hx6 hop e0 e1 hps
     go_loopw [49] (fun iv W => ∃ (k : Nat), k ≤ ps.length ∧ iv = .int .i64 k ∧ (∀ p ∈ ps.take k, okPull l ⟨u, t, m⟩ p = true) ∧ Ext W6 W) (fun iv _ => ps.length - (RowKit.intOf iv).toNat)
     case atStart => exact ⟨0, by omega, rfl, (fun x hx => by simp at hx), Ext.refl W6⟩
     case round =>
      obtain ⟨k2, hk3, rfl, hall2, hx7⟩ := hrel
      by_cases hlt3 : k2 < ps.length
      ·have hlti3 : (k2 : Int) < ps.length := by omega
       obtain ⟨b9, o9, u2, t2, m2, rfl, he, f1, f2, f3⟩ := (hrp.ext hx7).at hlt3
       have hmem2 : (⟨u2, t2, m2⟩ : It) ∈ ps := List.mem_of_getElem? he
       have htk2 : ps.take (k2 + 1) = ps.take k2 ++ [⟨u2, t2, m2⟩] := by rw [List.take_succ_eq_append_getElem hlt3]; congr 2; rw [List.getElem?_eq_getElem hlt3] at he; exact Option.some.inj he
       have HTK2 := Lib.hid htk2
       clear htk2 he
       go_upto_region 13 with (fail)
       refine Zep (fun W => Blk W wr.heap.size [.int .i64 u2, .int .u8 t2, .bool m2] 55 ∧ Ext wr W) ⟨Blk.newAt _ _ _ _ rfl, (Ext.refl wr).alloc _⟩ ?_
       rintro W8 ⟨hbp, hx8⟩
       obtain ⟨qp, hqp⟩ : ∃ qp, wr.heap.size = qp := ⟨_, rfl⟩
       rw [hqp] at hbp ⊢
       have hx68 : Ext W6 W8 := Ext.trans hx7 hx8
       have e0 := hbp.cell 0 rfl
       have e1 := hbp.cell 1 rfl
       have hmm8 := hmm6.ext hx68
       have hbi8 := hbi6.ext hx68
       have hlk := hmm8.lookOk u2 t2
       rw [metOf_must, metOf_some] at hlk
       obtain ⟨nw, hnw⟩ : ∃ nw, Zch l (u2, t2) = nw := ⟨_, rfl⟩
       obtain ⟨mt, hmt⟩ : ∃ mt, decide ((u2, t2) ∈ l.map Zaz) = mt := ⟨_, rfl⟩
       have HOKP := Lib.hid (show okPull l ⟨u, t, m⟩ ⟨u2, t2, m2⟩ = (!m2 || (mt && (!m || nw))) by unfold okPull; rw [← hnw, ← hmt]; rfl)
       rw [hnw, hmt] at hlk
       clear f1 f2 f3 hx7 hx8 hmm8 hnw hmt
       go_upto_region 14 with (fail)
       refine Zep (fun W => Blk W W8.heap.size [.bool nw] 84 ∧ Ext W8 W) ⟨Blk.newAt _ _ _ _ rfl, (Ext.refl W8).alloc _⟩ ?_
       rintro W9 ⟨hbm, hx9⟩
       obtain ⟨qm, hqm⟩ : ∃ qm, W8.heap.size = qm := ⟨_, rfl⟩
       rw [hqm] at hbm ⊢
       have hx69 : Ext W6 W9 := Ext.trans hx68 hx9
       have c0 := hbm.cell 0 rfl
       have c1 := (hbp.ext hx9).cell 2 rfl
       have c2 := (hbi8.ext hx9).cell 2 rfl
       clear hlk hx68 hx9 e0 e1 hbm hbp hbi8
       cases m2
       ·(have hok : okPull l ⟨u, t, m⟩ ⟨u2, t2, false⟩ = true := (by rw [HOKP.out]; rfl); go_wp2_with fail; go_roundw; (case rel => exact ⟨k2 + 1, by omega, by go_num, (fun x hm => by (rw [HTK2.out] at hm; rcases List.mem_append.1 hm with hm | hm; exact hall2 x hm; rw [List.mem_singleton.1 hm]; exact hok)), hx69⟩); (case measure => simp [RowKit.intOf]; omega))
       ·cases mt
        ·(have hno : okPull l ⟨u, t, m⟩ ⟨u2, t2, true⟩ = false := (by rw [HOKP.out]; rfl); have hni : okItem P l ⟨u, t, m⟩ = false := (by rw [HOK.out]; exact List.all_eq_false.2 ⟨_, hmem2, by rw [hno]; simp⟩); have HCL := Lib.hid (show false = closedL P l from (List.all_eq_false.2 ⟨_, hmem, by rw [hni]; simp⟩).symm); have hxw9 : Ext w W9 := Ext.trans hxw6 hx69; go_wp2_with fail; go_ret; exact ⟨_, rfl, HCL, hxw9⟩)
        ·cases m
         ·(have hok : okPull l ⟨u, t, false⟩ ⟨u2, t2, true⟩ = true := (by rw [HOKP.out]; rfl); go_wp2_with fail; go_roundw; (case rel => exact ⟨k2 + 1, by omega, by go_num, (fun x hm => by (rw [HTK2.out] at hm; rcases List.mem_append.1 hm with hm | hm; exact hall2 x hm; rw [List.mem_singleton.1 hm]; exact hok)), hx69⟩); (case measure => simp [RowKit.intOf]; omega))
         ·cases nw
          ·(have hno : okPull l ⟨u, t, true⟩ ⟨u2, t2, true⟩ = false := (by rw [HOKP.out]; rfl); have hni : okItem P l ⟨u, t, true⟩ = false := (by rw [HOK.out]; exact List.all_eq_false.2 ⟨_, hmem2, by rw [hno]; simp⟩); have HCL := Lib.hid (show false = closedL P l from (List.all_eq_false.2 ⟨_, hmem, by rw [hni]; simp⟩).symm); have hxw9 : Ext w W9 := Ext.trans hxw6 hx69; go_wp2_with fail; go_ret; exact ⟨_, rfl, HCL, hxw9⟩)
          ·(have hok : okPull l ⟨u, t, true⟩ ⟨u2, t2, true⟩ = true := (by rw [HOKP.out]; rfl); go_wp2_with fail; go_roundw; (case rel => exact ⟨k2 + 1, by omega, by go_num, (fun x hm => by (rw [HTK2.out] at hm; rcases List.mem_append.1 hm with hm | hm; exact hall2 x hm; rw [List.mem_singleton.1 hm]; exact hok)), hx69⟩); (case measure => simp [RowKit.intOf]; omega))
      ·obtain rfl : k2 = ps.length := by omega
       rw [List.take_of_length_le (Nat.le_refl _)] at hall2
       have hoki : okItem P l ⟨u, t, m⟩ = true := by rw [HOK.out, List.all_eq_true]; exact hall2
       have hmm9 := hmm6.ext hx7
       have hbg9 := hbg6.ext hx7
       have hxw9 : Ext w wr := Ext.trans hxw6 hx7
       go_wp2_with fail
       go_roundw
       case rel => exact ⟨k + 1, by omega, by go_num, fun x hm => by
        rw [HTK.out] at hm
        rcases List.mem_append.1 hm with hm | hm
        ·exact hall x hm
        ·rw [List.mem_singleton.1 hm]; exact hoki, hmm9, hbg9, hxw9⟩
       case measure => simp [RowKit.intOf]; omega
    ·obtain rfl : k = l.length := by omega
     rw [List.take_of_length_le (Nat.le_refl _)] at hall
     have HCL := Lib.hid (show true = closedL P l from (List.all_eq_true.2 hall).symm)
     go_wp2_with fail
     go_ret
     exact ⟨_, rfl, HCL, hxw⟩
end Go.Proofs.Ytclgclcoblfddaa
