/- Chapter 23: far. -/
import Derived.Test.YthlobpdcolgcoaaLevels
namespace Go.Proofs.Ythlobpdcolgcoaa
open Go.RowKit Go.Maps Go.Lib
set_option linter.unusedVariables false
set_option linter.unusedSimpArgs false

theorem But.grown' {g : Nat} {a b c : World} {row : Option Nat} (h : But g a b) (k : b.grownBy c row) (hr : ∀ j, row = some j → a.heap.size ≤ j) : But g a c :=
  ⟨k.os.trans h.os, k.tape.trans h.tape, k.output.trans h.output, Nat.le_trans h.size k.size, fun i hi hne => (k.block i (Nat.lt_of_lt_of_le hi h.size) (fun e => by have := hr i e.symm; omega)).trans (h.block i hi hne)⟩
theorem But.cell' {g q o : Nat} {a b : World} {v : Value} (h : But g a b) (hc : a.cell? ⟨q, o, none⟩ = some v) (hne : q ≠ g) : b.cell? ⟨q, o, none⟩ = some v := by
  have hlt := World.block_lt_of_cell? a _ hc
  have := h.block q hlt hne
  unfold World.cell? at hc ⊢
  simp only at hc ⊢
  rw [this]
  exact hc
theorem Grown.after_ext {W W' W1 : World} {row : Option Nat} (k : Ext W W') (h : W'.grownBy W1 row) : W.grownBy W1 row :=
  ⟨h.os.trans k.os, h.tape.trans k.tape, h.output.trans k.output, Nat.le_trans k.size h.size, fun i hi hne => (h.block i (Nat.lt_of_lt_of_le hi k.size) hne).trans (k.block i hi)⟩
theorem getD_row {rs : List Row} {i : Nat} {B : Option Addr} {c : Nat} {xs : List Int} (h : rs[i]? = some ⟨B, c, xs⟩) : (rows rs).getD i [] = xs := by
  rw [List.getD_eq_getElem?_getD, rows_get, h]
  rfl

theorem far_goes (rs R : List Row) (tb : List (List Int)) (htl : tb.length = rs.length)
    (hRx : ∀ p : Nat, p < tb.length → ∃ xs, (rows R)[p]? = some xs ∧ xs.length ≤ tb.length * 64 ∧ ∀ x, x ∈ xs ↔ (p : Int) ∈ rowOf tb x) (hlen : rs.length ≤ 64)
    (A : Option Addr) (cap qb qs qh mb : Nat) (home : Int) (W2 W : World) (k n : Int) (f : Int → Option Int) (cnt : Nat) (hM2 : IMap W2 mb 0 fun _ => none)
    (hb : W2.cell? ⟨qb, 0, none⟩ = some (.slice A R.length cap)) (hs : W2.cell? ⟨qs, 0, none⟩ = some (.map (some mb))) (hh : W2.cell? ⟨qh, 0, none⟩ = some (.int .i64 home)) (hr : RdR W2 A R) (hRl : R.length = rs.length)
    (hg : W2.grownBy W (some mb)) (hm : IMap W mb cnt f) (hk0 : 0 ≤ k) (hk : k < tb.length) (hn : small n) (hc : cnt ≤ 100000) :
    Calls Try.prog 39 #[.int .i64 k, .int .i64 n, .pointer (some ⟨qb, 0, none⟩), .pointer (some ⟨qs, 0, none⟩), .pointer (some ⟨qh, 0, none⟩)] W fun e w' =>
      ∃ B c out, e = .returned (.slice B (out : List Int).length c) ∧ RdV w' B (ints out) ∧ IMap w' mb (cnt + out.length) (updAll f out n) ∧ (∀ x, x ∈ out ↔ k ∈ rowOf tb x ∧ home ≤ x ∧ f x = none) ∧ out.Nodup ∧ W.grownBy w' (some mb) := by
  obtain ⟨kk, rfl⟩ : ∃ kk : Nat, k = kk := ⟨k.toNat, by omega⟩
  obtain ⟨xs, h1, h2, h3⟩ := hRx kk (by omega)
  refine (goes_calls R A cap qb qs qh mb cnt home kk n f W xs (hM2.cell hg hb) (hM2.cell hg hs) (hM2.cell hg hh) (hM2.rdr hg hr) hm hk0 (by rw [Int.toNat_natCast]; exact h1) (fun x hx => ?_) hn (by omega) hc).mono ?_
  · have := row_some ((h3 x).1 hx)
    exact ⟨this.1, by omega⟩
  · rintro e w' ⟨B, c, out, r1, r2, r3, r4, r5, r6⟩
    exact ⟨B, c, out, r1, r2, r3, fun x => by rw [r4 x, h3 x], r5, r6⟩

/-- What the search knows when the places nearer than m are there. -/
def LS (tb : List (List Int)) (home : Int) (mb : Nat) (W2 W : World) (m : Int) (todo : List Int) : Prop :=
  ∃ L : List Int, IMap W mb L.length (near tb home m) ∧ L.Nodup ∧ (∀ x, x ∈ L ↔ near tb home m x ≠ none) ∧ (∀ x, x ∈ todo ↔ dst tb home x = some (m - 1)) ∧ todo.Nodup ∧ W2.grownBy W (some mb)
theorem LS.start {tb : List (List Int)} {home : Int} {mb : Nat} {W2 W : World} {out : List Int} (hm : IMap W mb (0 + out.length) (updAll (fun _ => none) out 1))
    (ho : ∀ x, x ∈ out ↔ home ∈ rowOf tb x ∧ home ≤ x ∧ True) (hn : out.Nodup) (hg : W2.grownBy W (some mb)) : LS tb home mb W2 W 2 out := by
  have h1 : ∀ x, x ∈ out ↔ dst tb home x = some 1 := fun x => by
    rw [ho x, level_one]
    constructor
    · exact fun h => ⟨h.2.1, h.1⟩
    · exact fun h => ⟨h.2, h.1, trivial⟩
  rw [Nat.zero_add, near_two h1] at hm
  refine ⟨out, hm, hn, fun x => ?_, h1, hn, hg⟩
  rw [← near_two h1]
  unfold updAll
  by_cases h : x ∈ out <;> simp [h]
/-- .. and while a level is gone through: of the places of the level before it, P are done. -/
def LM (tb : List (List Int)) (home : Int) (m : Int) (P more : List Int) : Prop :=
  ∀ x, x ∈ more ↔ near tb home m x = none ∧ home ≤ x ∧ ∃ j ∈ P, j ≠ home ∧ j ∈ rowOf tb x
theorem LM.step {tb : List (List Int)} {home m : Int} {P more out : List Int} {j : Int} (h : LM tb home m P more) (hj : j ≠ home) (ho : ∀ x, x ∈ out ↔ j ∈ rowOf tb x ∧ home ≤ x ∧ updAll (near tb home m) more m x = none) : LM tb home m (P ++ [j]) (more ++ out) := by
  intro x
  have hu : updAll (near tb home m) more m x = none ↔ near tb home m x = none ∧ x ∉ more := by
    unfold updAll
    by_cases h : x ∈ more <;> simp [h]
  rw [List.mem_append, ho x, hu, h x]
  constructor
  · rintro (⟨h1, h2, i, h3, h4⟩ | ⟨h1, h2, h3, h4⟩)
    · exact ⟨h1, h2, i, List.mem_append_left _ h3, h4⟩
    · exact ⟨h3, h2, j, by simp, hj, h1⟩
  · rintro ⟨h1, h2, i, h3, h4⟩
    by_cases h5 : ∃ i ∈ P, i ≠ home ∧ i ∈ rowOf tb x
    · obtain ⟨i, h5⟩ := h5
      exact .inl ⟨h1, h2, i, h5⟩
    · rw [List.mem_append, List.mem_singleton] at h3
      rcases h3 with h3 | rfl
      · exact absurd ⟨i, h3, h4⟩ h5
      · exact .inr ⟨h4.2, h2, h1, fun h6 => h5 (h6.2.2)⟩
theorem LM.skip {tb : List (List Int)} {home m : Int} {P more : List Int} (h : LM tb home m P more) : LM tb home m (P ++ [home]) more := by
  intro x
  rw [h x]
  constructor
  · rintro ⟨h1, h2, i, h3, h4⟩
    exact ⟨h1, h2, i, List.mem_append_left _ h3, h4⟩
  · rintro ⟨h1, h2, i, h3, h4⟩
    rw [List.mem_append, List.mem_singleton] at h3
    rcases h3 with h3 | rfl
    · exact ⟨h1, h2, i, h3, h4⟩
    · exact absurd rfl h4.1
theorem LM.row {tb : List (List Int)} {home m : Int} {P more : List Int} (h : LM tb home m P more) (hn : more.Nodup) : more.length ≤ tb.length :=
  nodup_le tb.length more hn fun x hx => by
    obtain ⟨_, _, j, _, _, hj⟩ := (h x).1 hx
    exact row_some hj
theorem near_row {tb : List (List Int)} {home m : Int} {L : List Int} (hn : L.Nodup) (h : ∀ x, x ∈ L ↔ near tb home m x ≠ none) : L.length ≤ tb.length :=
  nodup_le tb.length L hn fun x hx => by
    have := (h x).1 hx
    cases hq : near tb home m x with
    | none => exact absurd hq this
    | some q => have := dst_bound (near_some.1 hq).1; omega
/-- The level is done. -/
theorem LM.done {tb : List (List Int)} {home m : Int} {mb : Nat} {W2 W : World} {L todo more : List Int} (hm : 2 ≤ m) (h : LM tb home m todo more) (hM : IMap W mb (L.length + more.length) (updAll (near tb home m) more m))
    (hLn : L.Nodup) (hL : ∀ x, x ∈ L ↔ near tb home m x ≠ none) (ht : ∀ x, x ∈ todo ↔ dst tb home x = some (m - 1)) (hmn : more.Nodup) (hg : W2.grownBy W (some mb)) : LS tb home mb W2 W (m + 1) more := by
  have h1 : ∀ x, x ∈ more ↔ dst tb home x = some m := fun x => by
    rw [h x, level_next hm]
    constructor
    · rintro ⟨a, b, j, hj, c, d⟩
      exact ⟨a, b, j, d, (ht j).1 hj, c⟩
    · rintro ⟨a, b, j, d, hj, c⟩
      exact ⟨a, b, j, (ht j).2 hj, c, d⟩
  rw [near_next h1] at hM
  refine ⟨L ++ more, by rw [List.length_append]; exact hM, ?_, fun x => ?_, fun x => by rw [h1 x, Int.add_sub_cancel], hmn, hg⟩
  · rw [List.nodup_append]
    refine ⟨hLn, hmn, fun a ha b hb => ?_⟩
    rintro rfl
    exact (hL a).1 ha ((h a).1 hb).1
  · rw [← near_next h1, List.mem_append, hL x]
    unfold updAll
    by_cases hx : x ∈ more <;> simp [hx]

set_option maxHeartbeats 2000000 in
theorem far_calls (rs : List Row) (A : Option Addr) (cap home : Nat) (w : World) (hr : RdR w A rs) (hlen : rs.length ≤ 64) (hrow : ∀ r ∈ rs, r.xs.length ≤ 64) (hent : ∀ r ∈ rs, ∀ x ∈ r.xs, 0 ≤ x ∧ x < rs.length) (hh : home < rs.length) :
    Calls Try.prog 34 #[.slice A rs.length cap, .int .i64 home] w fun e w' => ∃ mb cnt, e = .returned (.map (some mb)) ∧ IMap w' mb cnt (dst (rows rs) home) ∧ Ext w w' := by
  have HM := make_rows rs.length (by omega)
  obtain ⟨tb, htb⟩ : ∃ tb, rows rs = tb := ⟨_, rfl⟩
  have htl : tb.length = rs.length := by rw [← htb, rows_length]
  go_enter Try.func34, Try.ntmps34
  go_upto_region 1 with (fail)
  refine wp_gen (fun W => W.cell? ⟨w.heap.size, 0, none⟩ = some (.int .i64 home) ∧ RdR W A rs ∧ Ext w W ∧ w.heap.size < W.heap.size) ⟨by go_simp, hr.ext ((Ext.refl w).alloc _), (Ext.refl w).alloc _, by simp⟩ ?_
  obtain ⟨H, hH⟩ : ∃ H, w.heap.size = H := ⟨_, rfl⟩
  rw [hH]
  rintro W0 ⟨eh, hr0, hx0, hHs⟩
  go_upto_region 3 with (fail)
  refine wp_gen (fun W => BInv W (W0.heap.size + 2) W0.heap.size 40 3 tb 0 0 ∧ W.cell? ⟨H, 0, none⟩ = some (.int .i64 home) ∧ W.cell? ⟨W0.heap.size + 1, 0, none⟩ = some (.slice (some ⟨W0.heap.size, 0, none⟩) rs.length rs.length) ∧ W.heap.size = W0.heap.size + 2 ∧ Ext w W)
    ⟨BInv.new W0 _ _ tb _ htl _, (((Ext.refl W0).alloc _).alloc _).cell eh, by go_simp, by simp, (hx0.alloc _).alloc _⟩ ?_
  have hgw : w.heap.size ≤ W0.heap.size := hx0.size
  obtain ⟨g, hg⟩ : ∃ g, W0.heap.size = g := ⟨_, rfl⟩
  rw [hg] at hgw hHs ⊢
  clear eh hx0 hr0 hg
  rintro W1 ⟨hB, eh, eb, hsz, hx1⟩
  clear HM
  go_loopw [22] (fun i W => ∃ j : Nat, j ≤ rs.length ∧ i = .int .i64 j ∧ BInv W (g + 2) g 40 3 tb j 0 ∧ But g W1 W) (fun i _ => rs.length - (RowKit.intOf i).toNat)
  case atStart => exact ⟨0, by omega, rfl, hB, But.refl _ _⟩
  case round =>
    clear hB
    obtain ⟨i, hi, rfl, hB, hbut⟩ := hrel
    have hxw : Ext w wr := But.toExt hx1 hbut hgw
    by_cases hlt : i < rs.length
    · have hlti : (i : Int) < rs.length := by omega
      have hrr := hr.ext hxw
      obtain ⟨b, o, B, c, xs, hA, he, hcell, hrd⟩ := hrr.at hlt
      subst hA
      have hxl := hrow _ (List.mem_of_getElem? he)
      have hxe := hent _ (List.mem_of_getElem? he)
      have hrd0 := hr.2 _ (List.mem_of_getElem? he)
      simp only at hxl hxe hrd0
      have hgd : tb.getD i [] = xs := by rw [← htb]; exact getD_row he
      clear hrr hrd
      go_upto_region 6 with (fail)
      go_loopw [29] (fun i' W => ∃ k : Nat, k ≤ xs.length ∧ i' = .int .i64 k ∧ BInv W (g + 2) g 40 3 tb i k ∧ But g W1 W) (fun i' _ => xs.length - (RowKit.intOf i').toNat)
      case atStart => exact ⟨0, by omega, rfl, hB, hbut⟩
      case round =>
        clear hB hbut hxw hcell
        obtain ⟨k, hk, rfl, hB, hbut⟩ := hrel
        have hxw : Ext w wr := But.toExt hx1 hbut hgw
        by_cases hkt : k < xs.length
        · have hkti : (k : Int) < xs.length := by omega
          obtain ⟨b2, o2, hB2, hcc⟩ := (hrd0.ext hxw).at (i := k) (by rw [ints_length]; exact hkt)
          subst hB2
          obtain ⟨x, hx⟩ : ∃ x, xs[k]? = some x := ⟨_, List.getElem?_eq_getElem hkt⟩
          have c3 := hcc k (.int .i64 x) (by rw [ints_get, hx]; rfl)
          obtain ⟨hx0, hxn⟩ := hxe x (List.mem_of_getElem? hx)
          obtain ⟨p, rfl⟩ : ∃ p : Nat, x = p := ⟨x.toNat, by omega⟩
          obtain ⟨A5, c5, ys, hcell, hown, hbase, hlow, hyl, hfz, hback⟩ := hB.at (p := p) (by rw [hgd]; exact hx) (by omega) (by omega) (by omega)
          have e5 := hbut.cell' eb (by omega)
          go_upto_region 8 with (fail)
          refine wp_region_mix (fun W => W.cell? ⟨g + 1, 0, none⟩ = some (.slice (some ⟨g, 0, none⟩) rs.length rs.length) ∧ W.cell? ⟨g, p, none⟩ = some (.slice A5 ys.length c5)) 9 [(0, true), (1, true), (2, true), (3, true), (4, true), (5, true), (6, true), (7, false), (8, false), (9, false), (10, false)] (by kernel_rfl) (by kernel_rfl) (⟨e5, hcell⟩) ?_
          repeat (apply mix_read; (case ho => rfl); (case hw => rfl); (case h1 => intro W' hx; obtain ⟨q1, q2⟩ := hx; go_simp; (try go_bits); with_reducible rfl); (case hp => go_simp; first | done | with_reducible rfl))
          refine mix_loud rfl ?_; intro KY hKY
          go_wp2_with fail
          refine ⟨⟨((Ext.refl wr).drew.alloc _).cell e5, ((Ext.refl wr).drew.alloc _).cell hcell⟩, ?_⟩
          refine mix_loud rfl ?_; intro KY hKY
          refine wpList_append_int rfl (.tmp 38) (.tmp 40) 40 3 rfl Try.underlying40 infoInt (g + 2) (.slice A5 ys.length c5) ys rfl (Owns.ext hown (((Ext.refl wr).alloc _).drew)) wr.heap.size 1 i rfl ((Blk.new wr [.int .i64 i] 3).cell 0 rfl) (by omega) (Nat.le_trans hlow (((Ext.refl wr).alloc _).drew).size) ?_
          intro v' W5 o5' g5 s5
          obtain ⟨⟨old, ho⟩, hfz5, hc5, hB5⟩ := hback W5 v' o5' (Grown.after_ext (((Ext.refl wr).alloc _).drew) g5) (fun b hb => (s5 b hb).imp_right fun h => Nat.le_trans (((Ext.refl wr).alloc _).drew).size h)
          have hq5 := Grown.cell1 g5 ((((Ext.refl wr).alloc _).drew).cell e5) (fun a ha e => by have := hbase a ha; omega)
          have hbut5 : But g W1 W5 := But.grown' (But.ext hbut (((Ext.refl wr).alloc _).drew)) g5 (fun j hj => by
            rw [hsz]
            cases A5 with
            | none => cases hj
            | some ad => cases hj; exact hbase ad rfl)
          obtain ⟨B5, cc5, rfl, _, _⟩ := Owns.rd o5'
          go_wp2_with fail
          refine ⟨⟨hq5, hc5⟩, ?_⟩
          refine mix_end 9 (by kernel_rfl) (by kernel_rfl) ?_; simp only [List.take_succ_cons, List.take_zero, List.drop_succ_cons, List.drop_zero]; unfold Q0
          go_wp2_with fail
          go_roundw
          case rel => exact ⟨k + 1, by omega, by go_num, by rw [List.length_append] at hB5; exact hB5, hbut5.set _ _⟩
          case measure => simp [RowKit.intOf]; omega
        · obtain rfl : k = xs.length := by omega
          go_wp2_with fail
          go_roundw
          case rel => exact ⟨i + 1, by omega, by go_num, hB.row (by rw [hgd]; exact Nat.le_refl _) (by omega), hbut⟩
          case measure => simp [RowKit.intOf]; omega
    · obtain rfl : i = rs.length := by omega
      rw [← htl] at hB
      obtain ⟨R, hR, hRl, hRx⟩ := hB.done
      have e5 := hbut.cell' eb (by omega)
      have e6 := hbut.cell' eh (by omega)
      rw [htl] at hRl
      clear hB hbut hrow hr hent
      have hmm := @run_makeMap Try.prog
      go_upto_region 13 with (fail)
      refine wp_gen (fun W => IMap W wr.heap.size 0 (fun _ => none) ∧ W.cell? ⟨wr.heap.size + 1, 0, none⟩ = some (.map (some wr.heap.size)) ∧ W.cell? ⟨g + 1, 0, none⟩ = some (.slice (some ⟨g, 0, none⟩) R.length rs.length) ∧ W.cell? ⟨H, 0, none⟩ = some (.int .i64 home) ∧ RdR W (some ⟨g, 0, none⟩) R ∧ Ext w W)
        ⟨(IMap.made wr).ext ((Ext.refl _).alloc _), by go_simp, by rw [hRl]; exact (((Ext.refl wr).alloc _).alloc _).cell e5, (((Ext.refl wr).alloc _).alloc _).cell e6, hR.ext (((Ext.refl wr).alloc _).alloc _), (hxw.alloc _).alloc _⟩ ?_
      clear hR e5 e6 hmm
      obtain ⟨mb, hmb⟩ : ∃ mb, wr.heap.size = mb := ⟨_, rfl⟩
      have hwm : w.heap.size ≤ mb := hmb ▸ hxw.size
      rw [hmb]
      clear hmb hxw
      rintro W2 ⟨hM2, es2, eb2, eh2, hR2, hx2⟩
      have GO := Lib.hid fun (W : World) (k n : Int) (f : Int → Option Int) (cnt : Nat) (hg : W2.grownBy W (some mb)) (hm : IMap W mb cnt f) (hk0 : 0 ≤ k) (hk : k < tb.length) (hn : small n) (hc : cnt ≤ 100000) =>
        far_goes rs R tb htl hRx hlen (some ⟨g, 0, none⟩) rs.length (g + 1) (mb + 1) H mb home W2 W k n f cnt hM2 eb2 es2 eh2 hR2 hRl hg hm hk0 hk hn hc
      have G1 := GO.out W2 home 1 _ 0 ⟨rfl, rfl, rfl, Nat.le_refl _, fun _ _ _ => rfl⟩ hM2 (by omega) (by omega) ⟨by omega, by omega⟩ (by omega)
      go_wp2_with fail
      refine G1.mono ?_
      rintro e W3 ⟨B3, c3, out3, rfl, hro3, hm3, hout3, hnd3, hgr3⟩
      have hLS := LS.start hm3 hout3 hnd3 hgr3
      clear hm3 hout3 hnd3 hgr3 G1
      go_wp2_with fail
      have HH := Lib.hid (show (0 : Int) ≤ home ∧ (home : Int) < tb.length by omega)
      go_loopw [12, 13] (fun v nv W => ∃ (m : Nat) (todo : List Int) (B : Option Addr) (c : Nat), v = .slice B todo.length c ∧ nv = .int .i64 m ∧ 2 ≤ m ∧ m ≤ 66 ∧ RdV W B (ints todo) ∧ LS tb home mb W2 W m todo) (fun _ nv _ => 100 - (RowKit.intOf nv).toNat)
      case atStart => exact ⟨2, out3, B3, c3, rfl, rfl, by omega, by omega, hro3, hLS⟩
      case round =>
        clear hLS hro3
        obtain ⟨m, todo, B, c, rfl, rfl, hm2, hm66, hrt, hLS⟩ := hrel
        cases todo with
        | nil =>
          obtain ⟨L, hM, hLn, hL, ht, htn, hgr⟩ := hLS
          have es := hM2.cell hgr es2
          rw [near_all (by omega) (fun x hx => by have := (ht x).2 hx; cases this)] at hM
          have HM := Lib.hid hM
          clear hM hL ht
          go_wp2_with fail
          go_ret
          exact ⟨mb, _, rfl, by rw [htb]; exact HM.out, Grown.toExt hx2 hgr (fun j hj => by cases hj; exact hwm)⟩
        | cons t0 ts =>
          obtain ⟨todo, htd⟩ : ∃ l, t0 :: ts = l := ⟨_, rfl⟩
          have hpos : 0 < todo.length := by rw [← htd]; simp
          rw [htd] at hrt hLS ⊢
          clear htd
          have hposi : (0 : Int) < todo.length := by omega
          go_upto_region 18 with (fail)
          obtain ⟨L, hML, hLn, hL, htd, htn, hgr⟩ := hLS
          have hLl := near_row hLn hL
          have hmt : m ≤ 65 := by
            obtain ⟨x, hx⟩ : ∃ x, x ∈ todo := ⟨todo[0], List.getElem_mem hpos⟩
            have := dst_bound ((htd x).1 hx)
            omega
          have htodo : todo.length ≤ 64 := by
            have := nodup_le tb.length todo htn fun x hx => by have := dst_bound ((htd x).1 hx); omega
            omega
          rename World => Wr
          go_loopw [57, 14] (fun i v W => ∃ (q : Nat) (more : List Int), q ≤ todo.length ∧ i = .int .i64 q ∧ W.ownsRow Wr.heap.size 3 1 v more.length (ints more) ∧ IMap W mb (L.length + more.length) (updAll (near tb home m) more m) ∧ LM tb home m (todo.take q) more ∧ more.Nodup ∧ Wr.grownBy W (some mb)) (fun i _ _ => todo.length - (RowKit.intOf i).toNat)
          case atStart => exact ⟨0, [], by omega, rfl, World.ownsRow_nil _ _ _ _, by
            have : updAll (near tb home m) [] m = near tb home m := by funext x; simp [updAll]
            rw [this]
            exact hML, fun x => by simp, by simp, ⟨rfl, rfl, rfl, Nat.le_refl _, fun _ _ _ => rfl⟩⟩
          case round =>
            obtain ⟨q, more, hq, rfl, hown, hMM, hLM, hmn, hgr4⟩ := hrel
            obtain ⟨B4, c4, rfl, _, hbase4⟩ := Owns.rd hown
            have hml := hLM.row hmn
            have hgr2 := Grown.trans' hgr hgr4
            have c1 := hM2.cell hgr2 eh2
            have HLM := Lib.hid hLM
            clear hLM
            by_cases hqt : q < todo.length
            · have hqti : (q : Int) < todo.length := by omega
              have hrt4 := hML.rdv hgr4 hrt
              obtain ⟨b5, o5, rfl, hcc⟩ := hrt4.at (i := q) (by rw [ints_length]; exact hqt)
              obtain ⟨j, hj⟩ : ∃ j, todo[q]? = some j := ⟨_, List.getElem?_eq_getElem hqt⟩
              have c3 := hcc q (.int .i64 j) (by rw [ints_get, hj]; rfl)
              have hjd := dst_bound ((htd j).1 (List.mem_of_getElem? hj))
              have HT : Hid (todo.take (q + 1) = todo.take q ++ [j]) := Lib.hid (by rw [List.take_add_one, hj]; rfl)
              by_cases hjh : j = home
              · subst hjh
                have HN := Lib.hid (show LM tb home m (todo.take (q + 1)) more by rw [HT.out]; exact HLM.out.skip)
                clear hML hrt4 hcc HT
                go_wp2_with fail
                go_roundw
                case rel => exact ⟨q + 1, more, by omega, by go_num, hown, hMM, HN.out, hmn, hgr4⟩
                case measure => simp [RowKit.intOf]; omega
              · have hjb : (j == (home : Int)) = false := by simpa using hjh
                have G2 := Lib.hid (GO.out wr j m _ (L.length + more.length) hgr2 hMM (by omega) (by omega) ⟨by omega, by omega⟩ (by omega))
                have hlo : Wr.heap.size ≤ wr.heap.size := hgr4.size
                go_wp2_with fail
                refine G2.out.mono ?_
                rintro e W5 ⟨B6, c6, out, rfl, hro6, hm6, hout6, hnd6, hgr6⟩
                have hown6 := hown.kept hgr6 (hMM.notRow hown)
                have hM1 : ∀ ad, B4 = some ad → ad.block ≠ mb := fun ad had e2 => by
                  rcases hm6.notRow hown6 with h | h
                  · rw [had] at h; cases h
                  · rw [had] at h; exact h (by simp [Value.ownBlock, e2])
                have hout7 : ∀ x, x ∈ out ↔ j ∈ rowOf tb x ∧ (home : Int) ≤ x ∧ updAll (near tb home m) more m x = none := hout6
                have HS := Lib.hid (show LM tb home m (todo.take (q + 1)) (more ++ out) by rw [HT.out]; exact HLM.out.step hjh hout7)
                have hnd7 : (more ++ out).Nodup := by
                  rw [List.nodup_append]
                  refine ⟨hmn, hnd6, fun a ha b hb => ?_⟩
                  rintro rfl
                  have := ((hout7 a).1 hb).2.2
                  unfold updAll at this
                  rw [if_pos ha] at this
                  cases this
                have hml7 := HS.out.row hnd7
                rw [List.length_append] at hml7
                rw [updAll_append] at hm6
                have hlo6 := Nat.le_trans hlo hgr6.size
                have hgr7 := Grown.trans' hgr4 hgr6
                clear hML hrt4 hcc HT hout6 hout7 hgr2 G2 c3 c1 hMM
                go_wp2_with (refine wpList_append_ints rfl (.tmp 64) (.tmp 68) 40 3 rfl Try.underlying40 infoInt Wr.heap.size (.slice B4 more.length c4) more rfl hown6 B6 c6 out rfl hro6 (by omega) hlo6 ?_; intro v' W6 o6 g6 s6)
                go_roundw
                case rel =>
                  refine ⟨q + 1, more ++ out, by omega, by go_num, o6, ?_, HS.out, hnd7, ?_⟩
                  · rw [List.length_append, ← Nat.add_assoc]
                    exact hm6.kept g6 (by
                      cases B4 with
                      | none => simp [Value.ownBlock]
                      | some ad =>
                        intro e
                        exact hM1 ad rfl (by simpa [Value.ownBlock] using e.symm))
                  · refine Grown.own hgr7 g6 fun i hi => ?_
                    cases B4 with
                    | none => cases hi
                    | some ad => cases hi; exact hbase4 ad rfl
                case measure => simp [RowKit.intOf]; omega
            · obtain rfl : q = todo.length := by omega
              have HL2 := HLM.out
              rw [List.take_of_length_le (Nat.le_refl _)] at HL2
              have HD := Lib.hid (HL2.done (by omega) hMM hLn hL htd hmn hgr2)
              obtain ⟨A9, c9, hv9, hrd9, _⟩ := Owns.rd hown
              cases hv9
              clear HLM HL2 hML hrt
              go_wp2_with fail
              go_roundw
              case rel => exact ⟨m + 1, more, _, _, rfl, by go_num, by omega, by omega, hrd9, HD.out⟩
              case measure => simp [RowKit.intOf]; omega
end Go.Proofs.Ythlobpdcolgcoaa
