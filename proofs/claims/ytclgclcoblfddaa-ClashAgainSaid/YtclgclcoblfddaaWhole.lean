/- jobs.Whole. -/
import Derived.Test.YtclgclcoblfddaaWholeL
import Derived.Test.YtclgclcoblfddaaFork
import Derived.Test.YtclgclcoblfddaaMixD
namespace Go.Proofs.Ytclgclcoblfddaa
open Go.RowKit Go.Lib
set_option linter.unusedVariables false
set_option linter.unusedSimpArgs false
/-- How long the slice in that box is. -/
def lenAt (W : World) (v : Value) : Nat := match v with
  | .pointer (some a) => (match W.cell? a with | some (.slice _ n _) => n | _ => 0)
  | _ => 0
theorem lenAt_blk {W : World} {B : Nat} {A : Option Addr} {n c : Nat} {T : TypeId} (h : Blk W B [.slice A n c] T) : lenAt W (.pointer (some ⟨B, 0, none⟩)) = n := by
  unfold lenAt
  simp only [h.cell 0 rfl]
theorem Grown.trans1 {a b c : World} {r : Nat} (h : a.grownBy b (some r)) (k : b.grownBy c (some r)) : a.grownBy c (some r) :=
  ⟨k.os.trans h.os, k.tape.trans h.tape, k.output.trans h.output, Nat.le_trans h.size k.size, fun i hi hne => (k.block i (Nat.lt_of_lt_of_le hi h.size) hne).trans (h.block i hi hne)⟩
theorem Grown.refl1 (a : World) (r : Nat) : a.grownBy a (some r) := ⟨rfl, rfl, rfl, Nat.le_refl _, fun _ _ _ => rfl⟩
theorem Grown.ext1 {a b : World} (h : Ext a b) (r : Nat) : a.grownBy b (some r) := ⟨h.os, h.tape, h.output, h.size, fun k hk _ => h.block k hk⟩
theorem Grown.set1 (a : World) (r i : Nat) (u : Value) : a.grownBy (a.setCell ⟨r, i, none⟩ u) (some r) :=
  ⟨rfl, rfl, rfl, by rw [World.size_setCell]; exact Nat.le_refl _, fun k hk hne => Below.heap_setCell _ _ _ _ (fun e => hne (congrArg some e))⟩
theorem Grown.drew1 {a b : World} {r : Nat} (h : a.grownBy b (some r)) : a.grownBy b.drew (some r) := ⟨h.os, h.tape, h.output, h.size, h.block⟩
/-- What the reads of region 13 stand on. -/
def SD (q p : Nat) (fm xm : Bool) : Nat → World → Prop
  | 2, W => W.cell? ⟨q, 2, none⟩ = some (.bool fm)
  | 5, W => W.cell? ⟨p, 2, none⟩ = some (.bool xm)
  | _, _ => True
theorem SD.set {q p : Nat} {fm xm : Bool} {W : World} (hpq : p ≠ q) (v : Value) : ∀ k, SD q p fm xm k W → SD q p fm xm k (W.setCell ⟨q, 1, none⟩ v) := by
  intro k h
  unfold SD at *
  split
  · exact (World.cell?_setCell_other W ⟨q, 1, none⟩ ⟨q, 2, none⟩ v (by simp)).trans h
  · exact (World.cell?_setCell_other W ⟨q, 1, none⟩ ⟨p, 2, none⟩ v (by simp)).trans h
  · trivial
theorem SD.drew {q p : Nat} {fm xm : Bool} {W : World} {k : Nat} : SD q p fm xm k W.drew ↔ SD q p fm xm k W := by
  unfold SD
  split <;> exact Iff.rfl
theorem SD.rest {q p : Nat} {fm xm : Bool} {W : World} {k : Nat} (h2 : k ≠ 2) (h5 : k ≠ 5) : SD q p fm xm k W := by
  unfold SD
  split
  · exact absurd rfl h2
  · exact absurd rfl h5
  · trivial
set_option maxRecDepth 100000 in
set_option maxHeartbeats 4000000 in
theorem Whole_calls (l : List It) (A0 : Option Addr) (cap0 : Nat) (w : World) (hr : RdI w A0 l) (hlen : l.length ≤ 1000000) :
    Calls Try.prog 63 #[.slice A0 l.length cap0] w fun e w' => ∃ v1 v2, e = .returned (.tuple #[v1, v2]) ∧ w'.ownsRow w.heap.size 34 3 v1 (wholeL (sortedL l)).1.length (itCells (wholeL (sortedL l)).1) ∧ w'.ownsRow w.heap.size 32 2 v2 (wholeL (sortedL l)).2.length (cellsJ (wholeL (sortedL l)).2) ∧ Ext w w' := by
  have hS := Lib.hid (Sorted_calls l A0 cap0 w hr hlen)
  have hsl := sortedL_len l
  have hs2 : (sortedL l).length ≤ 1000000 := by omega
  clear hsl
  generalize sortedL l = ss at *
  have k22 := Try.underlying28
  go_enter Try.func63, Try.ntmps63
  go_upto_region 4 with (go_at_call 48; refine hS.out.mono ?_; rintro e W1 ⟨v, rfl, hrow, hx1⟩; obtain ⟨A1, cap1, rfl, hcap1, hrd1, hlow1⟩ := OwnsI.rd hrow)
  clear hS hrow hlow1
  obtain ⟨M, hM⟩ : ∃ M, W1.heap.size = M := ⟨_, rfl⟩
  go_loopw [4, 5, 6] (fun v4 v5 v6 W => ∃ (s out : List It) (bad : List (Int × Int)) (A : Option Addr) (cap B : Nat), v6 = .pointer (some ⟨B, 0, none⟩) ∧ M ≤ B ∧ Blk W B [.slice A s.length cap] 28 ∧ s.length ≤ cap ∧ s.length ≤ ss.length ∧ out.length + bad.length + s.length ≤ ss.length ∧ RdI W1 A s ∧ Ext W1 W ∧ wholeL ss = (out ++ (wholeL s).1, bad ++ (wholeL s).2) ∧
    W.ownsRow M 34 3 v4 out.length (itCells out) ∧ W.ownsRow M 32 2 v5 bad.length (cellsJ bad)) (fun _ _ v W => lenAt W v)
  case atStart =>
    exact ⟨ss, [], [], A1, cap1, M, by rw [← hM], Nat.le_refl _, by rw [← hM]; exact Blk.newAt _ _ _ _ rfl, hcap1, Nat.le_refl _, by simp, hrd1, (Ext.refl W1).alloc _, rfl, ⟨rfl, .inl ⟨rfl, rfl⟩⟩, ⟨rfl, .inl ⟨rfl, rfl⟩⟩⟩
  case round =>
    obtain ⟨s, out, bad, A, cap, B, rfl, hMB, hB, hsc, hss, hob, hrd, hx, hwl, ho4, ho5⟩ := hrel
    have cB := hB.cell 0 rfl
    cases s with
    | nil =>
      go_wp2_with fail
      go_ret2
      have : wholeL ss = (out, bad) := by rw [hwl]; simp [wholeL, wholeF]
      rw [this]
      exact ⟨_, _, rfl, Owns.low ho4 (hM ▸ hx1.size), Owns.low ho5 (hM ▸ hx1.size), hx1.trans hx⟩
    | cons x r =>
      obtain ⟨b, o, u, t, m, rfl, he, g1, g2, g3⟩ := hrd.at (i := 0) (by simp)
      cases he
      rw [Nat.zero_mul, Nat.add_zero] at g1 g2 g3
      have hIX := Lib.hid (index_calls (⟨u, t, m⟩ :: r) (some ⟨b, o, none⟩) cap B b o (r.length + 1) cap u wr (hrd.ext hx) (by omega) cB (by simp) (hx.cell g1))
      have hpos : (0 : Int) < (List.length (⟨u, t, m⟩ :: r) : Nat) := by simp
      generalize hse : (⟨u, t, m⟩ : It) :: r = s at *
      go_upto_region 6 with (go_at_call 81; refine hIX.out.mono ?_; rintro e W2 ⟨n, hn, hru, hrn, rfl, hx2⟩)
      have hn0 : n ≠ 0 := fun e => hrn ⟨u, t, m⟩ (by rw [e, ← hse]; rfl) rfl
      obtain ⟨hru, hrn⟩ := run_eq hn hru hrn
      have hrd2 := hrd
      clear hIX
      have cB2 := hx2.cell cB
      have HN : ∃ y, (if n < s.length then (n : Int) else -1) = y ∧ (0 ≤ y ∧ y = n ∨ y < 0 ∧ n = s.length) := by
        by_cases hc : n < s.length
        · exact ⟨_, rfl, .inl ⟨by rw [if_pos hc]; omega, by rw [if_pos hc]⟩⟩
        · exact ⟨_, rfl, .inr ⟨by rw [if_neg hc]; omega, by omega⟩⟩
      obtain ⟨y, hy, hyn⟩ := HN
      rw [hy]
      clear hy
      have HY := Lib.hid (Nat.le_refl 0)
      have E0 : ∀ W', Ext W2 W' → W'.cell? ⟨B, 0, none⟩ = some (.slice (some ⟨b, o, none⟩) s.length cap) := fun W' h => h.cell cB2
      have E1 : ∀ W', Ext W2 W' → W'.cell? ⟨b, o, none⟩ = some (.int .i64 u) := fun W' h => ((hx.trans hx2).trans h).cell g1
      have E2 : ∀ W', Ext W2 W' → W'.cell? ⟨b, o + 1, none⟩ = some (.int .u8 t) := fun W' h => ((hx.trans hx2).trans h).cell g2
      have E3 : ∀ W', Ext W2 W' → W'.cell? ⟨b, o + 2, none⟩ = some (.bool m) := fun W' h => ((hx.trans hx2).trans h).cell g3
      have hK := Lib.hid (known_calls t)
      have HLB := Lib.hid (show lenAt wr (.pointer (some ⟨B, 0, none⟩)) = s.length by simp [lenAt, cB])
      have HWG : Hid (wholeL s = glue ⟨u, t, m⟩ (s.take n) (wholeL (s.drop n))) := Lib.hid (by
        have := wholeL_cons ⟨u, t, m⟩ r
        rw [hse] at this
        rw [this, hru, hrn])
      rcases hyn with ⟨hy0, rfl⟩ | ⟨hy0, hns⟩
      all_goals (try (have HNS := Lib.hid hns; clear hns))
      all_goals (go_upto_region 8 with (fail))
      all_goals (try rw [show Value.int .i64 ((s.length : Nat) : Int) = Value.int .i64 (n : Int) by rw [HNS.out]])
      all_goals (clear hy0)
      all_goals (apply wp_region_fork_to (fun W => Ext W2 W) (fun W => Ext W2 W ∧ Blk W W2.heap.size [.int .i64 u, .int .u8 t, .bool m] 34) (.read 0 (.read 1 (.read 2 (.read 3 (.read 4 (.read 5 (.read 6 (.read 7 (.fork 8 9 (.one 9 (.one 10 (.one 11 .nil))) (.one 8 (.one 10 (.one 11 .nil))))))))))))  (by kernel_rfl) (by kernel_rfl) ((Ext.refl W2).drew); (case h => (iterate 8 (first | (apply fork_read; (case ho => rfl); (case hw => rfl); (case h1 => intro W' hx; (try dsimp only at hx); go_simp; (try go_bits); with_reducible rfl); (case hp => go_simp; first | done | with_reducible rfl)) | (apply fork_skip; (case ho => rfl); (case hw => rfl); (case hp => go_simp; first | done | with_reducible rfl)))); (refine fork_two rfl rfl ?_ ?_ <;> intro KY hKY); (focus ((go_wp2_with (go_at_call 43; refine (hK.out _).mono ?_; rintro e W3 ⟨rfl, rfl⟩)); refine ⟨(Ext.refl W2).drew, ?_⟩; refine fork_one rfl ?_; intro KY hKY; (go_wp2_with (go_at_call 43; refine (hK.out _).mono ?_; rintro e W3 ⟨rfl, rfl⟩)); refine ⟨((Ext.refl W2).alloc _).drew, ?_⟩; refine fork_one rfl ?_; intro KY hKY; (go_wp2_with (go_at_call 43; refine (hK.out _).mono ?_; rintro e W3 ⟨rfl, rfl⟩)); refine ⟨((Ext.refl W2).alloc _).drew, ?_⟩; refine fork_one rfl ?_; intro KY hKY; (go_wp2_with (go_at_call 43; refine (hK.out _).mono ?_; rintro e W3 ⟨rfl, rfl⟩)); refine ⟨((Ext.refl W2).alloc _).drew, ?_⟩; refine fork_nil ?_; unfold Q0; exact ⟨rfl, rfl, ((Ext.refl W2).alloc _).drew, (Blk.newAt W2 _ _ _ rfl).drew⟩)); (focus ((go_wp2_with (go_at_call 43; refine (hK.out _).mono ?_; rintro e W3 ⟨rfl, rfl⟩)); refine ⟨((Ext.refl W2).alloc _).drew, ?_⟩; refine fork_one rfl ?_; intro KY hKY; (go_wp2_with (go_at_call 43; refine (hK.out _).mono ?_; rintro e W3 ⟨rfl, rfl⟩)); refine ⟨((Ext.refl W2).alloc _).drew, ?_⟩; refine fork_one rfl ?_; intro KY hKY; (go_wp2_with (go_at_call 43; refine (hK.out _).mono ?_; rintro e W3 ⟨rfl, rfl⟩)); refine ⟨((Ext.refl W2).alloc _).drew, ?_⟩; refine fork_one rfl ?_; intro KY hKY; (go_wp2_with (go_at_call 43; refine (hK.out _).mono ?_; rintro e W3 ⟨rfl, rfl⟩)); refine ⟨((Ext.refl W2).alloc _).drew, ?_⟩; refine fork_nil ?_; unfold Q0; exact ⟨rfl, rfl, ((Ext.refl W2).alloc _).drew, (Blk.newAt W2 _ _ _ rfl).drew⟩))))
      all_goals
        rintro W3 ⟨hx3, hq⟩
        obtain ⟨q, hqe⟩ : ∃ q, W2.heap.size = q := ⟨_, rfl⟩
        rw [hqe] at hq ⊢
        have cB3 := E0 W3 hx3
        have hwx := (hx.trans hx2).trans hx3
        have hz1 : W1.heap.size ≤ W2.heap.size := (hx.trans hx2).size
        have hz2 : wr.heap.size ≤ W2.heap.size := hx2.size
        have hMq : M ≤ q := by omega
        have o4 := Owns.ext ho4 (hx2.trans hx3)
        have o5 := Owns.ext ho5 (hx2.trans hx3)
        have n4 : u4.ownBlock ≠ some q := fun h4 => absurd (ho4.lt _ h4).2 (by omega)
        have n5 : u5.ownBlock ≠ some q := fun h4 => absurd (ho5.lt _ h4).2 (by omega)
        have hBW : Blk W3 B [.slice (some ⟨b, o, none⟩) s.length cap] 28 := hB.ext (hx2.trans hx3)
        have hBq : B < q := Nat.lt_of_lt_of_le (hx2.trans (Ext.refl W2) |> fun h => hB.lt) (by omega)
        have hn0i : (0 : Int) ≤ n := by omega
        have hnci : (n : Int) ≤ cap := by omega
        have hc0 : cap ≠ 0 := by omega
        clear ho4 ho5 hx3 hx2 hx E0 E1 E2 E3 cB cB2 hB hK
        go_upto_region 10 with (fail)
        obtain ⟨ok, hok⟩ : ∃ ok, knownB t = ok := ⟨_, rfl⟩
        rw [hok]
        have hML := fun x => mrgs_snoc x (t := t) (m := m) (ok := ok)
        go_loopw [41, 9] (fun i v W => ∃ k : Nat, k ≤ n ∧ i = .int .i64 k ∧ v = .bool (mrgs t m ok (s.take k)).2.2 ∧ W3.grownBy W (some q) ∧ Blk W q [.int .i64 u, .int .u8 (mrgs t m ok (s.take k)).1, .bool (mrgs t m ok (s.take k)).2.1] 34) (fun i _ _ => n - (RowKit.intOf i).toNat)
        case atStart => exact ⟨0, by omega, rfl, rfl, Grown.refl1 _ _, hq⟩
        case round =>
          obtain ⟨k, hk, rfl, rfl, hg, hqb⟩ := hrel
          generalize hms : mrgs t m ok (s.take k) = ms at *
          obtain ⟨ft, fm, fo⟩ := ms
          dsimp only at hqb ⊢
          by_cases hlt : k < n
          · have hltn : (k : Int) < n := by omega
            have hls : k < s.length := by omega
            obtain ⟨b', o', xu, xt, xm, hAe, he, f1, f2, f3⟩ := hrd.at hls
            cases hAe
            have hwg : Ext W1 wr := Grown.toExt hwx hg (fun k e => by cases e; omega)
            have f1 := hwg.cell f1
            have f2 := hwg.cell f2
            have f3 := hwg.cell f3
            have HMS := Lib.hid hms
            clear hms hok
            go_upto_region 12 with (fail)
            refine wp_gen (fun W => Blk W wr.heap.size [.int .i64 xu, .int .u8 xt, .bool xm] 34 ∧ Ext wr W) ⟨Blk.newAt _ _ _ _ rfl, (Ext.refl wr).alloc _⟩ ?_
            obtain ⟨p, hp⟩ : ∃ p, wr.heap.size = p := ⟨_, rfl⟩
            have hqp : q < wr.heap.size := hqb.lt
            rw [hp] at hqp ⊢
            clear f1 f2 f3
            rintro W4 ⟨hpb, hx4⟩
            replace hqb := hqb.ext hx4
            have hg4 := Grown.trans1 hg (Grown.ext1 hx4 q)
            clear hg hx4 hwg
            have q0 := hqb.cell 0 rfl
            have q1 := hqb.cell 1 rfl
            have p1 := hpb.cell 1 rfl
            have hMG := Lib.hid (merge_calls ft xt W4)
            go_upto_region 13 with (go_at_call 37; refine hMG.out.mono ?_; rintro e W5 ⟨rfl, rfl⟩)
            clear hMG q0 q1 p1
            have E2 : ∀ W', SD q p fm xm 2 W' → W'.cell? ⟨q, 2, none⟩ = some (.bool fm) := fun _ h => h
            have E5 : ∀ W', SD q p fm xm 5 W' → W'.cell? ⟨p, 2, none⟩ = some (.bool xm) := fun _ h => h
            have S0 : ∀ i, SD q p fm xm i W5.drew := fun i => by
              unfold SD
              split
              · exact hqb.cell 2 rfl
              · exact hpb.cell 2 rfl
              · trivial
            have hst : ∀ (fm : Bool) (v : Value) (i : Nat), SD q p fm xm i { heap := W5.heap, tape := W5.tape, drawn := W5.drawn + 1, os := W5.os, output := W5.output } → SD q p fm xm i (W5.setCell ⟨q, 1, none⟩ v).drew := fun fm v i h => SD.drew.2 (SD.set (W := W5) (show p ≠ q by omega) v i ((SD.drew (W := W5)).1 h))
            have htk : s.take (k + 1) = s.take k ++ [⟨xu, xt, xm⟩] := by rw [List.take_succ_eq_append_getElem hls]; congr 2; rw [List.getElem?_eq_getElem hls] at he; exact Option.some.inj he
            have HSN : mrgs t m ok (s.take (k + 1)) = ((mrg ft xt).1, fm || xm, fo && (mrg ft xt).2) := by rw [htk, mrgs_snoc, HMS.out]
            clear htk
            generalize mrg ft xt = mg at *
            obtain ⟨mt, mf⟩ := mg
            dsimp only at HSN ⊢
            replace HSN := Lib.hid HSN
            have d1 := hqb.cell 1 rfl
            have z1 := hqb.frozen 1
            have d2 := hqb.cell 2 rfl
            have z2 := hqb.frozen 2
            cases fm <;> cases fo
            · (apply mixD_to (SD q p false xm) (fun W => W3.grownBy W (some q) ∧ Blk W q [.int .i64 u, .int .u8 mt, .bool (false || xm)] 34) [(0, true), (1, true), (2, true), (3, true), (4, true), (5, true), (6, true), (7, true), (8, true), (9, true), (10, true), (11, true), (12, true), (13, false), (14, true), (15, false), (16, false)] (by kernel_rfl) (by kernel_rfl) S0; (case h => (repeat (first | (apply mixD_read; (case ho => rfl); (case hw => rfl); (case h1 => intro W' hx; (try dsimp only at hx); go_simp; (try go_bits); with_reducible rfl); (case hp => go_simp; first | done | with_reducible rfl)) | (apply mixD_skip; (case ho => rfl); (case hw => rfl); (case hp => go_simp; first | done | with_reducible rfl)))); refine mixD_loud rfl ?_; intro KY hKY; go_wp2_with fail; refine ⟨fun i _ _ => hst false (.int .u8 mt) i (S0 i), ?_⟩; (repeat (first | (apply mixD_read; (case ho => rfl); (case hw => rfl); (case h1 => intro W' hx; (try dsimp only at hx); go_simp; (try go_bits); with_reducible rfl); (case hp => go_simp; first | done | with_reducible rfl)) | (apply mixD_skip; (case ho => rfl); (case hw => rfl); (case hp => go_simp; first | done | with_reducible rfl)))); refine mixD_loud rfl ?_; intro KY hKY; go_wp2_with fail; refine ⟨fun i hk _ => SD.rest (fun e => (by subst e; exact (Bool.eq_false_iff.1 (by kernel_rfl)) hk)) (fun e => (by subst e; exact (Bool.eq_false_iff.1 (by kernel_rfl)) hk)), ?_⟩; refine mixD_loud rfl ?_; intro KY hKY; go_wp2_with fail; refine ⟨fun i _ h => h, ?_⟩; refine mixD_nil ?_; unfold Q0; exact ⟨rfl, rfl, Grown.drew1 (Grown.trans1 (Grown.trans1 hg4 (Grown.set1 _ _ _ _)) (Grown.set1 _ _ _ _)), ((hqb.set 1 _).set 2 _).drew⟩); (case k => rintro W6 ⟨hg6, hq6⟩; go_wp2_with fail; go_roundw; (case rel => exact ⟨k + 1, (by omega), (by go_num), (by rw [HSN.out]; rfl), hg6, (by rw [HSN.out]; exact hq6)⟩); (case measure => simp [RowKit.intOf]; omega)))
            · (apply mixD_to (SD q p false xm) (fun W => W3.grownBy W (some q) ∧ Blk W q [.int .i64 u, .int .u8 mt, .bool (false || xm)] 34) [(0, true), (1, true), (2, true), (3, true), (4, true), (5, true), (6, true), (7, true), (8, true), (9, true), (10, true), (11, true), (12, true), (13, false), (14, true), (15, false), (16, false)] (by kernel_rfl) (by kernel_rfl) S0; (case h => (repeat (first | (apply mixD_read; (case ho => rfl); (case hw => rfl); (case h1 => intro W' hx; (try dsimp only at hx); go_simp; (try go_bits); with_reducible rfl); (case hp => go_simp; first | done | with_reducible rfl)) | (apply mixD_skip; (case ho => rfl); (case hw => rfl); (case hp => go_simp; first | done | with_reducible rfl)))); refine mixD_loud rfl ?_; intro KY hKY; go_wp2_with fail; refine ⟨fun i _ _ => hst false (.int .u8 mt) i (S0 i), ?_⟩; (repeat (first | (apply mixD_read; (case ho => rfl); (case hw => rfl); (case h1 => intro W' hx; (try dsimp only at hx); go_simp; (try go_bits); with_reducible rfl); (case hp => go_simp; first | done | with_reducible rfl)) | (apply mixD_skip; (case ho => rfl); (case hw => rfl); (case hp => go_simp; first | done | with_reducible rfl)))); refine mixD_loud rfl ?_; intro KY hKY; go_wp2_with fail; refine ⟨fun i hk _ => SD.rest (fun e => (by subst e; exact (Bool.eq_false_iff.1 (by kernel_rfl)) hk)) (fun e => (by subst e; exact (Bool.eq_false_iff.1 (by kernel_rfl)) hk)), ?_⟩; refine mixD_loud rfl ?_; intro KY hKY; go_wp2_with fail; refine ⟨fun i _ h => h, ?_⟩; refine mixD_nil ?_; unfold Q0; exact ⟨rfl, rfl, Grown.drew1 (Grown.trans1 (Grown.trans1 hg4 (Grown.set1 _ _ _ _)) (Grown.set1 _ _ _ _)), ((hqb.set 1 _).set 2 _).drew⟩); (case k => rintro W6 ⟨hg6, hq6⟩; go_wp2_with fail; go_roundw; (case rel => exact ⟨k + 1, (by omega), (by go_num), (by rw [HSN.out]; rfl), hg6, (by rw [HSN.out]; exact hq6)⟩); (case measure => simp [RowKit.intOf]; omega)))
            · (apply mixD_to (SD q p true xm) (fun W => W3.grownBy W (some q) ∧ Blk W q [.int .i64 u, .int .u8 mt, .bool (true || xm)] 34) [(0, true), (1, true), (2, true), (3, true), (4, true), (5, true), (6, true), (7, true), (8, true), (9, true), (10, true), (11, true), (12, true), (13, false), (14, true), (15, false), (16, false)] (by kernel_rfl) (by kernel_rfl) S0; (case h => (repeat (first | (apply mixD_read; (case ho => rfl); (case hw => rfl); (case h1 => intro W' hx; (try dsimp only at hx); go_simp; (try go_bits); with_reducible rfl); (case hp => go_simp; first | done | with_reducible rfl)) | (apply mixD_skip; (case ho => rfl); (case hw => rfl); (case hp => go_simp; first | done | with_reducible rfl)))); refine mixD_loud rfl ?_; intro KY hKY; go_wp2_with fail; refine ⟨fun i _ _ => hst true (.int .u8 mt) i (S0 i), ?_⟩; (repeat (first | (apply mixD_read; (case ho => rfl); (case hw => rfl); (case h1 => intro W' hx; (try dsimp only at hx); go_simp; (try go_bits); with_reducible rfl); (case hp => go_simp; first | done | with_reducible rfl)) | (apply mixD_skip; (case ho => rfl); (case hw => rfl); (case hp => go_simp; first | done | with_reducible rfl)))); refine mixD_loud rfl ?_; intro KY hKY; go_wp2_with fail; refine ⟨fun i hk _ => SD.rest (fun e => (by subst e; exact (Bool.eq_false_iff.1 (by kernel_rfl)) hk)) (fun e => (by subst e; exact (Bool.eq_false_iff.1 (by kernel_rfl)) hk)), ?_⟩; refine mixD_loud rfl ?_; intro KY hKY; go_wp2_with fail; refine ⟨fun i _ h => h, ?_⟩; refine mixD_nil ?_; unfold Q0; exact ⟨rfl, rfl, Grown.drew1 (Grown.trans1 (Grown.trans1 hg4 (Grown.set1 _ _ _ _)) (Grown.set1 _ _ _ _)), ((hqb.set 1 _).set 2 _).drew⟩); (case k => rintro W6 ⟨hg6, hq6⟩; go_wp2_with fail; go_roundw; (case rel => exact ⟨k + 1, (by omega), (by go_num), (by rw [HSN.out]; rfl), hg6, (by rw [HSN.out]; exact hq6)⟩); (case measure => simp [RowKit.intOf]; omega)))
            · (apply mixD_to (SD q p true xm) (fun W => W3.grownBy W (some q) ∧ Blk W q [.int .i64 u, .int .u8 mt, .bool (true || xm)] 34) [(0, true), (1, true), (2, true), (3, true), (4, true), (5, true), (6, true), (7, true), (8, true), (9, true), (10, true), (11, true), (12, true), (13, false), (14, true), (15, false), (16, false)] (by kernel_rfl) (by kernel_rfl) S0; (case h => (repeat (first | (apply mixD_read; (case ho => rfl); (case hw => rfl); (case h1 => intro W' hx; (try dsimp only at hx); go_simp; (try go_bits); with_reducible rfl); (case hp => go_simp; first | done | with_reducible rfl)) | (apply mixD_skip; (case ho => rfl); (case hw => rfl); (case hp => go_simp; first | done | with_reducible rfl)))); refine mixD_loud rfl ?_; intro KY hKY; go_wp2_with fail; refine ⟨fun i _ _ => hst true (.int .u8 mt) i (S0 i), ?_⟩; (repeat (first | (apply mixD_read; (case ho => rfl); (case hw => rfl); (case h1 => intro W' hx; (try dsimp only at hx); go_simp; (try go_bits); with_reducible rfl); (case hp => go_simp; first | done | with_reducible rfl)) | (apply mixD_skip; (case ho => rfl); (case hw => rfl); (case hp => go_simp; first | done | with_reducible rfl)))); refine mixD_loud rfl ?_; intro KY hKY; go_wp2_with fail; refine ⟨fun i hk _ => SD.rest (fun e => (by subst e; exact (Bool.eq_false_iff.1 (by kernel_rfl)) hk)) (fun e => (by subst e; exact (Bool.eq_false_iff.1 (by kernel_rfl)) hk)), ?_⟩; refine mixD_loud rfl ?_; intro KY hKY; go_wp2_with fail; refine ⟨fun i _ h => h, ?_⟩; refine mixD_nil ?_; unfold Q0; exact ⟨rfl, rfl, Grown.drew1 (Grown.trans1 (Grown.trans1 hg4 (Grown.set1 _ _ _ _)) (Grown.set1 _ _ _ _)), ((hqb.set 1 _).set 2 _).drew⟩); (case k => rintro W6 ⟨hg6, hq6⟩; go_wp2_with fail; go_roundw; (case rel => exact ⟨k + 1, (by omega), (by go_num), (by rw [HSN.out]; rfl), hg6, (by rw [HSN.out]; exact hq6)⟩); (case measure => simp [RowKit.intOf]; omega)))
          · have hkn : k = n := by omega
            subst k
            have hwq : Ext W1 wr := Grown.toExt hwx hg (fun k e => by cases e; omega)
            have o4q := Owns.kept o4 hg (fun k h4 e => n4 (h4.trans e.symm))
            have o5q := Owns.kept o5 hg (fun k h4 e => n5 (h4.trans e.symm))
            have hBq2 : Blk wr B [.slice (some ⟨b, o, none⟩) s.length cap] 28 := Grown.blk hg hBW (by simp; omega)
            have cBq := hBq2.cell 0 rfl
            have HMS := Lib.hid hms
            have HOK := Lib.hid hok
            clear hms hok hg o4 o5 hBW cB3 hwx
            cases fo
            · go_upto_region 16 with (fail)
              go_loopw [74, 5] (fun i v W => ∃ k : Nat, k ≤ n ∧ i = .int .i64 k ∧ W.ownsRow M 32 2 v (bad ++ (s.take k).map jobOf).length (cellsJ (bad ++ (s.take k).map jobOf)) ∧ W.ownsRow M 34 3 u4 out.length (itCells out) ∧ Blk W B [.slice (some ⟨b, o, none⟩) s.length cap] 28 ∧ Ext W1 W) (fun i _ _ => n - (RowKit.intOf i).toNat)
              case atStart => exact ⟨0, by omega, rfl, by simpa using o5q, o4q, hBq2, hwq⟩
              case round =>
                clear o4q o5q hBq2 cBq hwq
                obtain ⟨k, hk, rfl, o5, o4, hBW, hwx⟩ := hrel
                by_cases hlt : k < n
                · have hltn : (k : Int) < n := by omega
                  have hls : k < s.length := by omega
                  obtain ⟨b', o', xu, xt, xm, hAe, he, f1, f2, f3⟩ := (hrd.ext hwx).at hls
                  cases hAe
                  have htk : bad ++ (s.take (k + 1)).map jobOf = (bad ++ (s.take k).map jobOf) ++ [(xu, xt)] := by
                    rw [List.take_succ_eq_append_getElem hls, List.map_append, List.append_assoc]
                    congr 2
                    rw [List.getElem?_eq_getElem hls] at he
                    rw [Option.some.inj he]; rfl
                  have HTK := Lib.hid htk
                  clear htk
                  have hbl : (bad ++ (s.take k).map jobOf).length ≤ 100000000 := by rw [List.length_append, List.length_map, List.length_take]; omega
                  go_upto_region 18 with (fail)
                  refine wp_gen (fun W => Blk W wr.heap.size [.int .i64 xu, .int .u8 xt, .bool xm] 34 ∧ Ext wr W) ⟨Blk.newAt _ _ _ _ rfl, (Ext.refl wr).alloc _⟩ ?_
                  obtain ⟨p, hp⟩ : ∃ p, wr.heap.size = p := ⟨_, rfl⟩
                  rw [hp]
                  clear f1 f2 f3
                  rintro W4 ⟨hpb, hx4⟩
                  replace o4 := Owns.ext o4 hx4
                  have o5a := (Owns.ext o5 hx4)
                  replace hBW := hBW.ext hx4
                  replace hwx := hwx.trans hx4
                  have p0 := hpb.cell 0 rfl
                  have p1 := hpb.cell 1 rfl
                  have hM4 : M ≤ W4.heap.size := hM ▸ hwx.size
                  have o5b := Owns.ext o5a ((Ext.refl W4).alloc (.cells #[.int .i64 xu, .int .u8 xt] 32))
                  clear o5 hx4 hp o5a
                  go_wp2_with (refine wpList_append_job rfl (.tmp 80) (.tmp 83) rfl M _ _ rfl o5b W4.heap.size 1 xu xt rfl (Blk.newAt W4 [.int .i64 xu, .int .u8 xt] _ _ rfl) hbl (Nat.le_trans hM4 (by rw [World.size_alloc]; omega)) ?_; intro v' W5 o5 g5 s5)
                  go_roundw
                  case rel =>
                    refine ⟨k + 1, by omega, by go_num, by rw [HTK.out]; exact o5, Owns.kept (Owns.ext o4 ((Ext.refl W4).alloc _)) g5 (fun k h4 e => Owns.apart (Owns.ext o4 ((Ext.refl W4).alloc _)) o5b (by decide) k h4 e), Grown.blk g5 (hBW.alloc _) (fun e => Owns.notBlk o5b (hBW.alloc _) (by decide) e.symm), Grown.toExt (hwx.alloc _) g5 (fun k hk => by rw [hM]; exact (o5b.lt k hk).1)⟩
                  case measure => simp [RowKit.intOf]; omega
                · have hkn : k = n := by omega
                  subst k
                  have cBW := hBW.cell 0 rfl
                  have zBW := hBW.frozen 0
                  have hnsi : (n : Int) ≤ (s.length : Nat) := by omega
                  go_wp2_with fail
                  go_roundw
                  have hdl : (s.drop n).length = s.length - n := List.length_drop
                  have hrdA : RdI W1 (if cap = n then some ⟨b, o, none⟩ else some ⟨b, o + n * 3, none⟩) (s.drop n) := by
                    split
                    · exact .inl (List.drop_eq_nil_of_le (by omega))
                    · exact hrd.drop n
                  case rel =>
                    refine ⟨s.drop n, out, bad ++ (s.take n).map jobOf, _, cap - n, wr.heap.size, rfl, hM ▸ hwx.size, by rw [hdl]; exact Blk.newAt _ _ _ _ (by rw [World.size_setCell]), by rw [hdl]; omega, by rw [hdl]; omega, by rw [hdl, List.length_append, List.length_map, List.length_take]; omega, hrdA, (hwx.setCell (by simp; omega) _).alloc _, ?_,
                      Owns.ext (Owns.set' o4 0 _ (Owns.notBlk o4 hBW (by decide))) ((Ext.refl _).alloc _), Owns.ext (Owns.set' o5 0 _ (Owns.notBlk o5 hBW (by decide))) ((Ext.refl _).alloc _)⟩
                    rw [hwl, HWG.out]
                    unfold glue
                    dsimp only
                    rw [HOK.out, HMS.out]
                    simp
                  case measure =>
                    rw [HLB.out, lenAt_blk (Blk.newAt _ [_] _ _ (by rw [World.size_setCell]))]
                    omega
            · go_upto_region 16 with (fail)
              go_loopw [74, 5] (fun i v W => ∃ k : Nat, k ≤ n ∧ i = .int .i64 k ∧ v.ownBlock ≠ some q ∧ W.ownsRow M 32 2 v bad.length (cellsJ bad) ∧ W.ownsRow M 34 3 u4 out.length (itCells out) ∧ Blk W B [.slice (some ⟨b, o, none⟩) s.length cap] 28 ∧ Blk W q [.int .i64 u, .int .u8 ft, .bool fm] 34 ∧ Ext W1 W) (fun i _ _ => n - (RowKit.intOf i).toNat)
              case atStart => exact ⟨0, by omega, rfl, n5, o5q, o4q, hBq2, hqb, hwq⟩
              case round =>
                clear o4q o5q hBq2 cBq hwq n5 hqb
                obtain ⟨k, hk, rfl, n5, o5, o4, hBW, hqb, hwx⟩ := hrel
                by_cases hlt : k < n
                · have hltn : (k : Int) < n := by omega
                  have hls : k < s.length := by omega
                  obtain ⟨b', o', xu, xt, xm, hAe, he, f1, f2, f3⟩ := (hrd.ext hwx).at hls
                  cases hAe
                  go_wp2_with fail
                  go_roundw
                  case rel => exact ⟨k + 1, by omega, by go_num, n5, Owns.ext o5 ((Ext.refl _).alloc _), Owns.ext o4 ((Ext.refl _).alloc _), hBW.alloc _, hqb.alloc _, hwx.alloc _⟩
                  case measure => simp [RowKit.intOf]; omega
                · have hkn : k = n := by omega
                  subst k
                  have q0 := hqb.cell 0 rfl
                  have q1 := hqb.cell 1 rfl
                  have q2 := hqb.cell 2 rfl
                  have hM4 : M ≤ wr.heap.size := hM ▸ hwx.size
                  have o4b := Owns.ext o4 ((Ext.refl wr).alloc (.cells #[.int .i64 u, .int .u8 ft, .bool fm] 34))
                  have hbl : out.length ≤ 100000000 := by omega
                  go_upto_region 23 with (refine wpList_append_item rfl (.tmp 87) (.tmp 89) rfl M _ _ rfl o4b wr.heap.size 1 ⟨u, ft, fm⟩ rfl (Blk.newAt wr [.int .i64 u, .int .u8 ft, .bool fm] _ _ rfl) hbl (Nat.le_trans hM4 (by rw [World.size_alloc]; omega)) ?_; intro v' W5 o4n g5 s5)
                  have hB5 : Blk W5 B [.slice (some ⟨b, o, none⟩) s.length cap] 28 := Grown.blk g5 (hBW.alloc _) (fun e => Owns.notBlk o4b (hBW.alloc _) (by decide) e.symm)
                  have o5n := Owns.kept (Owns.ext o5 ((Ext.refl wr).alloc _)) g5 (fun k h4 e => Owns.apart (Owns.ext o5 ((Ext.refl wr).alloc _)) o4b (by decide) k h4 e)
                  have hx5 := Grown.toExt (hwx.alloc _) g5 (fun k hk => by rw [hM]; exact (o4b.lt k hk).1)
                  clear o4 o5 o4b hBW hwx q0 q1 q2 hqb g5
                  have cBW := hB5.cell 0 rfl
                  have zBW := hB5.frozen 0
                  have hnsi : (n : Int) ≤ (s.length : Nat) := by omega
                  go_wp2_with fail
                  go_roundw
                  have hdl : (s.drop n).length = s.length - n := List.length_drop
                  have hrdA : RdI W1 (if cap = n then some ⟨b, o, none⟩ else some ⟨b, o + n * 3, none⟩) (s.drop n) := by
                    split
                    · exact .inl (List.drop_eq_nil_of_le (by omega))
                    · exact hrd.drop n
                  case rel =>
                    refine ⟨s.drop n, out ++ [⟨u, ft, fm⟩], bad, _, cap - n, W5.heap.size, rfl, hM ▸ hx5.size, by rw [hdl]; exact Blk.newAt _ _ _ _ (by rw [World.size_setCell]), by rw [hdl]; omega, by rw [hdl]; omega, by rw [hdl, List.length_append, List.length_singleton]; omega, hrdA, (hx5.setCell (by simp; omega) _).alloc _, ?_,
                      Owns.ext (Owns.set' o4n 0 _ (Owns.notBlk o4n hB5 (by decide))) ((Ext.refl _).alloc _), Owns.ext (Owns.set' o5n 0 _ (Owns.notBlk o5n hB5 (by decide))) ((Ext.refl _).alloc _)⟩
                    rw [hwl, HWG.out]
                    unfold glue
                    dsimp only
                    rw [HOK.out, HMS.out]
                    simp
                  case measure =>
                    rw [HLB.out, lenAt_blk (Blk.newAt _ [_] _ _ (by rw [World.size_setCell]))]
                    omega
end Go.Proofs.Ytclgclcoblfddaa
