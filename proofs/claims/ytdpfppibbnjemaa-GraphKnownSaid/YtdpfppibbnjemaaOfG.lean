/- graph.Of. -/
import Derived.Test.YtdpfppibbnjemaaOfT
import Derived.Test.YtdpfppibbnjemaaFork
namespace Go.Proofs.Ytdpfppibbnjemaa
open Go.RowKit Go.Shelf
set_option linter.unusedVariables false
set_option linter.unusedSimpArgs false
theorem rowGT (n : Nat) (h : n = 10) : isRowT Try.prog 31 n := by subst h; exact ⟨by kernel_rfl, by kernel_rfl⟩
theorem rowTT (n : Nat) (h : n = 1) : isRowT Try.prog 27 n := by subst h; exact ⟨by kernel_rfl, by kernel_rfl⟩
def nil10 : List Value := List.replicate 10 (.slice none 0 0)
def All (W : World) (n lo : Nat) (L : List (Option Addr × Nat × List (List Int))) : Prop := ∀ p ∈ L, RVn W n lo p.1 p.2.2
theorem All.ext {W W' : World} {n lo : Nat} {L : List (Option Addr × Nat × List (List Int))} (h : All W n lo L) (hx : Ext W W') : All W' n lo L := fun p hp => (h p hp).ext hx
theorem All.snoc {W : World} {n lo : Nat} {L : List (Option Addr × Nat × List (List Int))} {A : Option Addr} {c : Nat} {l : List (List Int)} (h : All W n lo L) (hr : RVn W n lo A l) : All W n lo (L ++ [(A, c, l)]) := fun p hp => by
  rcases List.mem_append.1 hp with hp | hp
  · exact h p hp
  · rw [List.mem_singleton.1 hp]
    exact hr
def AllO (W : World) (n lo g : Nat) (L : List (Option Addr × Nat × List (List Int))) : Prop := ∀ p ∈ L, RVo W n lo g p.1 p.2.2
theorem AllO.ext {W W' : World} {n lo g : Nat} {L : List (Option Addr × Nat × List (List Int))} (h : AllO W n lo g L) (hx : Ext W W') : AllO W' n lo g L := fun p hp => (h p hp).ext hx
theorem AllO.snoc {W : World} {n lo g : Nat} {L : List (Option Addr × Nat × List (List Int))} {A : Option Addr} {c : Nat} {l : List (List Int)} (h : AllO W n lo g L) (hr : RVo W n lo g A l) : AllO W n lo g (L ++ [(A, c, l)]) := fun p hp => by
  rcases List.mem_append.1 hp with hp | hp
  · exact h p hp
  · rw [List.mem_singleton.1 hp]
    exact hr
theorem All.off {W : World} {n lo g : Nat} {L : List (Option Addr × Nat × List (List Int))} (h : All W n lo L) (hg : W.heap.size ≤ g) : AllO W n lo g L := fun p hp => (h p hp).offNew hg
theorem AllO.but {W W' : World} {n lo g : Nat} {L : List (Option Addr × Nat × List (List Int))} (h : AllO W n lo g L) (hx : But g W W') : AllO W' n lo g L := fun p hp => (h p hp).butAt hx (.inl rfl)
theorem AllO.butOld {W W' : World} {n lo g q : Nat} {L : List (Option Addr × Nat × List (List Int))} (h : AllO W n lo g L) (hx : But q W W') (hq : q < lo) : AllO W' n lo g L := fun p hp => (h p hp).butAt hx (.inr hq)
theorem All.nil (W : World) (n lo : Nat) : All W n lo [] := fun p hp => by cases hp
/-- What the region of seven calls leaves. -/
def QE (W0 : World) (us : List LU) (nm : Nat → LU → List ByteArray) (A : Option Addr) (cap T : Nat) : Exit → Act → World → Prop := fun e a W => e = .normal ∧ ∃ (A0 : Option Addr) (c0 : Nat) (A1 : Option Addr) (c1 : Nat) (A2 : Option Addr) (c2 : Nat) (A3 : Option Addr) (c3 : Nat) (A4 : Option Addr) (c4 : Nat) (A5 : Option Addr) (c5 : Nat) (A6 : Option Addr) (c6 : Nat) (g : Nat),
  a = ⟨#[.agg #[.slice A us.length cap], .pointer (some ⟨T, 0, none⟩), .pointer (some ⟨T + 1, 0, none⟩), .pointer (some ⟨g, 0, none⟩), .agg #[.slice A us.length cap], .slice A0 us.length c0, .agg #[.slice A us.length cap], .slice A1 us.length c1, .agg #[.slice A us.length cap], .slice A2 us.length c2, .agg #[.slice A us.length cap], .slice A3 us.length c3, .agg #[.slice A us.length cap], .slice A4 us.length c4, .agg #[.slice A us.length cap], .slice A5 us.length c5, .agg #[.slice A us.length cap], .slice A6 us.length c6, .agg #[.slice A0 us.length c0, .slice A1 us.length c1, .slice A2 us.length c2, .slice A3 us.length c3, .slice A4 us.length c4, .slice A5 us.length c5, .slice A6 us.length c6, .slice none 0 0, .slice none 0 0, .slice none 0 0], undef, undef, undef, undef, undef, undef, undef, undef, undef, undef, undef, undef, undef, undef, undef, undef, undef, undef, undef, undef], []⟩ ∧
  W0.heap.size ≤ g ∧ Blk W g [.slice A0 us.length c0, .slice A1 us.length c1, .slice A2 us.length c2, .slice A3 us.length c3, .slice A4 us.length c4, .slice A5 us.length c5, .slice A6 us.length c6, .slice none 0 0, .slice none 0 0, .slice none 0 0] 31 ∧
  AllO W us.length W0.heap.size g [(A0, c0, rowsG us (nm 0)), (A1, c1, rowsG us (nm 1)), (A2, c2, rowsG us (nm 2)), (A3, c3, rowsG us (nm 3)), (A4, c4, rowsG us (nm 4)), (A5, c5, rowsG us (nm 5)), (A6, c6, rowsG us (nm 6))] ∧ Ext W0 W
set_option maxRecDepth 100000 in
set_option maxHeartbeats 4000000 in
theorem of_calls (us : List LU) (nm : Nat → LU → List ByteArray) (A : Option Addr) (cap : Nat) (w : World) (hr : RdU w A us) (hlen : us.length ≤ 1000) (hnd : (us.map LU.name).Nodup)
    (hS : ∀ k, k < 7 → ∀ u ∈ us, ∃ B c, u.unit[k]? = some (.slice B (nm k u).length c) ∧ RdV w B ((nm k u).map .string) ∧ (nm k u).length ≤ 1000) :
    Calls Try.prog 14 #[.agg #[.slice A us.length cap]] w fun e w' => ∃ cs : List Value, e = .returned (.agg cs.toArray) ∧ GV w' us.length cs (graphL us nm) ∧ Ext w w' := by
  go_enter Try.func14, Try.ntmps14
  go_upto_region 1 with (fail)
  refine wp_gen (fun W => W.cell? ⟨w.heap.size, 0, none⟩ = some (.slice A us.length cap) ∧ Blk W (w.heap.size + 1) nil10 31 ∧ Ext w W ∧ w.heap.size + 1 < W.heap.size) ⟨by go_simp, Blk.newAt _ nil10 31 _ (by simp), ((Ext.refl w).alloc _).alloc _, by simp⟩ ?_
  obtain ⟨T, hT⟩ : ∃ T, w.heap.size = T := ⟨_, rfl⟩
  rw [hT]
  rintro W0 ⟨ht, hb2, hx0, hTz⟩
  have HR0 := Lib.hid fun W (x : Ext W0 W) => rows_calls 28 (enters_of Try.func28 (by kernel_rfl) rfl) (fun u => u.unit.getD 0 undef) (nm 0) us A cap W (hr.ext (hx0.trans x)) hlen (fun W u => of1_calls u.unit _ (by rw [List.getD_eq_getElem?_getD, List.getElem?_eq_getElem (by rw [u.unit_length]; omega)]; rfl) W) (fun u hu => by obtain ⟨B, c, h1, h2, h3⟩ := hS 0 (by omega) u hu; exact ⟨B, c, by rw [List.getD_eq_getElem?_getD, h1]; rfl, h2.ext (hx0.trans x), h3⟩)
  have HR1 := Lib.hid fun W (x : Ext W0 W) => rows_calls 29 (enters_of Try.func29 (by kernel_rfl) rfl) (fun u => u.unit.getD 1 undef) (nm 1) us A cap W (hr.ext (hx0.trans x)) hlen (fun W u => of2_calls u.unit _ (by rw [List.getD_eq_getElem?_getD, List.getElem?_eq_getElem (by rw [u.unit_length]; omega)]; rfl) W) (fun u hu => by obtain ⟨B, c, h1, h2, h3⟩ := hS 1 (by omega) u hu; exact ⟨B, c, by rw [List.getD_eq_getElem?_getD, h1]; rfl, h2.ext (hx0.trans x), h3⟩)
  have HR2 := Lib.hid fun W (x : Ext W0 W) => rows_calls 30 (enters_of Try.func30 (by kernel_rfl) rfl) (fun u => u.unit.getD 2 undef) (nm 2) us A cap W (hr.ext (hx0.trans x)) hlen (fun W u => of3_calls u.unit _ (by rw [List.getD_eq_getElem?_getD, List.getElem?_eq_getElem (by rw [u.unit_length]; omega)]; rfl) W) (fun u hu => by obtain ⟨B, c, h1, h2, h3⟩ := hS 2 (by omega) u hu; exact ⟨B, c, by rw [List.getD_eq_getElem?_getD, h1]; rfl, h2.ext (hx0.trans x), h3⟩)
  have HR3 := Lib.hid fun W (x : Ext W0 W) => rows_calls 31 (enters_of Try.func31 (by kernel_rfl) rfl) (fun u => u.unit.getD 3 undef) (nm 3) us A cap W (hr.ext (hx0.trans x)) hlen (fun W u => of4_calls u.unit _ (by rw [List.getD_eq_getElem?_getD, List.getElem?_eq_getElem (by rw [u.unit_length]; omega)]; rfl) W) (fun u hu => by obtain ⟨B, c, h1, h2, h3⟩ := hS 3 (by omega) u hu; exact ⟨B, c, by rw [List.getD_eq_getElem?_getD, h1]; rfl, h2.ext (hx0.trans x), h3⟩)
  have HR4 := Lib.hid fun W (x : Ext W0 W) => rows_calls 32 (enters_of Try.func32 (by kernel_rfl) rfl) (fun u => u.unit.getD 4 undef) (nm 4) us A cap W (hr.ext (hx0.trans x)) hlen (fun W u => of5_calls u.unit _ (by rw [List.getD_eq_getElem?_getD, List.getElem?_eq_getElem (by rw [u.unit_length]; omega)]; rfl) W) (fun u hu => by obtain ⟨B, c, h1, h2, h3⟩ := hS 4 (by omega) u hu; exact ⟨B, c, by rw [List.getD_eq_getElem?_getD, h1]; rfl, h2.ext (hx0.trans x), h3⟩)
  have HR5 := Lib.hid fun W (x : Ext W0 W) => rows_calls 33 (enters_of Try.func33 (by kernel_rfl) rfl) (fun u => u.unit.getD 5 undef) (nm 5) us A cap W (hr.ext (hx0.trans x)) hlen (fun W u => of6_calls u.unit _ (by rw [List.getD_eq_getElem?_getD, List.getElem?_eq_getElem (by rw [u.unit_length]; omega)]; rfl) W) (fun u hu => by obtain ⟨B, c, h1, h2, h3⟩ := hS 5 (by omega) u hu; exact ⟨B, c, by rw [List.getD_eq_getElem?_getD, h1]; rfl, h2.ext (hx0.trans x), h3⟩)
  have HR6 := Lib.hid fun W (x : Ext W0 W) => rows_calls 34 (enters_of Try.func34 (by kernel_rfl) rfl) (fun u => u.unit.getD 6 undef) (nm 6) us A cap W (hr.ext (hx0.trans x)) hlen (fun W u => of7_calls u.unit _ (by rw [List.getD_eq_getElem?_getD, List.getElem?_eq_getElem (by rw [u.unit_length]; omega)]; rfl) W) (fun u hu => by obtain ⟨B, c, h1, h2, h3⟩ := hS 6 (by omega) u hu; exact ⟨B, c, by rw [List.getD_eq_getElem?_getD, h1]; rfl, h2.ext (hx0.trans x), h3⟩)
  refine Code.wp_mono (Q := QE W0 us nm A cap T) ?_ (wp_region_fork (fun W => W.cell? ⟨T, 0, none⟩ = some (.slice A us.length cap)) (.read 0 (.read 2 (.read 4 (.read 6 (.read 8 (.read 10 (.read 12 (.fork 1 15 (.fork 3 15 (.fork 5 15 (.fork 7 15 (.fork 9 15 (.fork 11 15 (.fork 13 15 (.read 14 (.one 15 (.one 16 .nil))) (.one 13 (.read 14 (.one 16 .nil)))) (.one 11 (.one 13 (.read 14 (.one 16 .nil))))) (.one 9 (.one 11 (.one 13 (.read 14 (.one 16 .nil)))))) (.one 7 (.one 9 (.one 11 (.one 13 (.read 14 (.one 16 .nil))))))) (.one 5 (.one 7 (.one 9 (.one 11 (.one 13 (.read 14 (.one 16 .nil)))))))) (.one 3 (.one 5 (.one 7 (.one 9 (.one 11 (.one 13 (.read 14 (.one 16 .nil))))))))) (.one 1 (.one 3 (.one 5 (.one 7 (.one 9 (.one 11 (.one 13 (.read 14 (.one 16 .nil))))))))))))))))) (by kernel_rfl) (by kernel_rfl) ht ?_)
  · have hpl : ∀ k, k < 7 → places us.length (rowsG us (nm k)) := fun k hk => rowsG_places hnd hlen fun u hu => by obtain ⟨_, _, _, _, h⟩ := hS k hk u hu; exact h
    have HPL := Lib.hid hpl
    have HT1 := Lib.hid fun B cap q W h hq => turned1_calls (n := us.length) B cap (rowsG us (nm 6)) q W h hlen (hpl 6 (by omega)) hq
    have HT0 := Lib.hid fun k (hk : k < 7) B cap W h => turned0_calls (n := us.length) B cap (rowsG us (nm k)) W h hlen (hpl k hk)
    have HB2 := Lib.hid hb2
    have HX0 := Lib.hid hx0
    clear hpl hb2 hx0 ht hr hS HR0 HR1 HR2 HR3 HR4 HR5 HR6
    rintro e a V ⟨rfl, A0, c0, A1, c1, A2, c2, A3, c3, A4, c4, A5, c5, A6, c6, g, rfl, hgw, hb, al, x⟩
    have f6 := hb.cell 6 rfl
    have z6 := hb.frozen 6
    have r6 := (al (A6, c6, rowsG us (nm 6)) (by simp)).rv
    have hgl := hb.lt
    have HB := Lib.hid hb
    have HAL := Lib.hid al
    have HX := Lib.hid x
    clear hb al x
    dsimp only [Exit.then]
    go_upto_region 3 with (go_at_call 35; refine (HT1.out _ _ _ _ (r6.ext ((Ext.refl V).alloc _)) (by go_simp)).mono ?_; rintro e V1 ⟨B6, d6, rfl, t6, y6⟩; have g6 := (((Ext.refl V).alloc _).trans y6).cell f6; have hb1 := (HB.out.ext ((Ext.refl V).alloc _)).ext y6; have z61 := hb1.frozen 6)
    refine wp_gen (fun W => Blk W g [.slice A0 us.length c0, .slice A1 us.length c1, .slice A2 us.length c2, .slice A3 us.length c3, .slice A4 us.length c4, .slice A5 us.length c5, .slice B6 us.length d6, .slice none 0 0, .slice none 0 0, .slice none 0 0] 31 ∧
      AllO W us.length W0.heap.size g [(A0, c0, rowsG us (nm 0)), (A1, c1, rowsG us (nm 1)), (A2, c2, rowsG us (nm 2)), (A3, c3, rowsG us (nm 3)), (A4, c4, rowsG us (nm 4)), (A5, c5, rowsG us (nm 5)), (A6, c6, rowsG us (nm 6)), (B6, d6, turnedL (rowsG us (nm 6)) [rowsG us (nm 6)])] ∧ Ext W0 W)
      ⟨hb1.set 6 _, (AllO.snoc ((HAL.out.ext ((Ext.refl V).alloc _)).ext y6) (t6.off (by simp; omega) (by have := HX.out.size; simp; omega))).but ((But.refl g V1).set 6 _), But.toExt ((HX.out.alloc _).trans y6) ((But.refl g V1).set 6 _) hgw⟩ ?_
    clear y6 t6 g6 hb1 z61 f6 z6 r6 HT1 hgl HB HAL HX
    rintro W ⟨hb, al, x⟩
    have f0 := hb.cell 0 rfl
    have f2 := hb.cell 2 rfl
    have f3 := hb.cell 3 rfl
    have r0 := (al _ (show (A0, c0, rowsG us (nm 0)) ∈ _ by simp)).rv
    have r2 := (al _ (show (A2, c2, rowsG us (nm 2)) ∈ _ by simp)).rv
    have r3 := (al _ (show (A3, c3, rowsG us (nm 3)) ∈ _ by simp)).rv
    have hgl := hb.lt
    have HB := Lib.hid hb
    have HAL := Lib.hid al
    have HX := Lib.hid x
    clear hb al x
    refine wp_region_mix (fun V => V.cell? ⟨g, 0, none⟩ = some (.slice A0 us.length c0) ∧ V.cell? ⟨g, 2, none⟩ = some (.slice A2 us.length c2) ∧ V.cell? ⟨g, 3, none⟩ = some (.slice A3 us.length c3)) 10 [(0, true), (1, true), (3, true), (4, true), (6, true), (7, true), (2, false), (9, true), (5, false), (8, false), (10, false), (11, false), (12, false), (13, false), (14, false)] (by kernel_rfl) (by kernel_rfl) (⟨f0, f2, f3⟩) ?_
    iterate 6 (apply mix_read; (case ho => rfl); (case hw => rfl); (case h1 => intro W' hx; obtain ⟨q1, q2, q3⟩ := hx; go_simp; (try go_bits); with_reducible rfl); (case hp => go_simp; first | done | with_reducible rfl))
    have y0 : Ext W W.drew := (Ext.refl W).drew
    refine mix_loud rfl ?_; intro KY hKY
    go_wp2_with (go_at_call 35; refine (HT0.out 0 (by omega) _ _ _ (r0.ext y0)).mono ?_; rintro e V1 ⟨B7, d7, rfl, t7, y7⟩)
    have y1 := y0.trans y7
    refine ⟨⟨y1.cell f0, y1.cell f2, y1.cell f3⟩, ?_⟩
    have u7 := t7.off (lo' := W0.heap.size) (show g < W.drew.heap.size from hgl) (Nat.le_trans HX.out.size y0.size)
    clear y7 t7
    (apply mix_read; (case ho => rfl); (case hw => rfl); (case h1 => intro W' hx; obtain ⟨q1, q2, q3⟩ := hx; go_simp; (try go_bits); with_reducible rfl); (case hp => go_simp; first | done | with_reducible rfl))
    refine mix_loud rfl ?_; intro KY hKY
    go_wp2_with (go_at_call 35; refine (HT0.out 2 (by omega) _ _ _ (r2.ext y1)).mono ?_; rintro e V2 ⟨B8, d8, rfl, t8, y8⟩)
    have y2 := y1.trans y8
    refine ⟨⟨y2.cell f0, y2.cell f2, y2.cell f3⟩, ?_⟩
    have u8 := t8.off (lo' := W0.heap.size) (Nat.lt_of_lt_of_le hgl y1.size) (Nat.le_trans HX.out.size y1.size)
    have u7' := u7.ext y8
    clear y8 t8 u7
    have hb2 := HB.out.ext y2
    refine mix_loud rfl ?_; intro KY hKY
    go_wp2_with (go_at_call 35; refine (HT0.out 3 (by omega) _ _ _ (r3.ext y2)).mono ?_; rintro e V3 ⟨B9, d9, rfl, t9, y9⟩)
    have y3 := y2.trans y9
    refine ⟨⟨y3.cell f0, y3.cell f2, y3.cell f3⟩, ?_⟩
    have u9 := t9.off (lo' := W0.heap.size) (Nat.lt_of_lt_of_le hgl y2.size) (Nat.le_trans HX.out.size y2.size)
    have u7 := u7'.ext y9
    have u8' := u8.ext y9
    have hb3 := hb2.ext y9
    have c7 := hb3.cell 7 rfl
    have c8 := hb3.cell 8 rfl
    have c9 := hb3.cell 9 rfl
    have z7 := hb3.frozen 7
    have z8 := hb3.frozen 8
    have z9 := hb3.frozen 9
    have hal3 := (((HAL.out.ext y3).snoc (c := d7) u7).snoc (c := d8) u8').snoc (c := d9) u9
    have HX3 := Lib.hid (HX.out.trans y3)
    have HB3 := Lib.hid hb3
    have HAL3 := Lib.hid hal3
    clear y9 t9 u7' u8 hb2 y2 y1 y0 y3 u7 u8' u9 hb3 hal3 f0 f2 f3 r0 r2 r3
    refine mix_end 10 (by kernel_rfl) (by kernel_rfl) ?_; simp only [List.take_succ_cons, List.take_zero, List.drop_succ_cons, List.drop_zero]; unfold Q0
    go_upto_region 4 with (fail)
    have hbut : But g V3 (((V3.setCell ⟨g, 7, none⟩ (.slice B7 us.length d7)).setCell ⟨g, 8, none⟩ (.slice B8 us.length d8)).setCell ⟨g, 9, none⟩ (.slice B9 us.length d9)) := (((But.refl g V3).set 7 _).set 8 _).set 9 _
    refine wp_gen (fun W => Blk W g [.slice A0 us.length c0, .slice A1 us.length c1, .slice A2 us.length c2, .slice A3 us.length c3, .slice A4 us.length c4, .slice A5 us.length c5, .slice B6 us.length d6, .slice B7 us.length d7, .slice B8 us.length d8, .slice B9 us.length d9] 31 ∧
      AllO W us.length W0.heap.size g [(A0, c0, rowsG us (nm 0)), (A1, c1, rowsG us (nm 1)), (A2, c2, rowsG us (nm 2)), (A3, c3, rowsG us (nm 3)), (A4, c4, rowsG us (nm 4)), (A5, c5, rowsG us (nm 5)), (A6, c6, rowsG us (nm 6)), (B6, d6, turnedL (rowsG us (nm 6)) [rowsG us (nm 6)]), (B7, d7, turnedL (rowsG us (nm 0)) []), (B8, d8, turnedL (rowsG us (nm 2)) []), (B9, d9, turnedL (rowsG us (nm 3)) [])] ∧ Ext W0 W)
      ⟨((HB3.out.set 7 _).set 8 _).set 9 _, HAL3.out.but hbut, But.toExt HX3.out hbut hgw⟩ ?_
    clear hbut c7 c8 c9 z7 z8 z9 HX3 HB3 HAL3 HX HAL HB
    rintro W ⟨hb, al, x⟩
    have HAL := Lib.hid al
    have HB := Lib.hid hb
    have HB22 := Lib.hid (HB2.out.ext x)
    have HXW := Lib.hid (HX0.out.trans x)
    clear al hb x
    go_wp2_with (first | refine wpList_load_blk rfl 31 (.tmp 3) rfl g rfl (rowGT _ rfl) HB.out ?_ | (refine wpList_store_blk rfl 31 (.tmp 2) (.tmp 38) rfl (T + 1) rfl _ rfl HB22.out (rowGT _ rfl) rfl rfl ?_; intro V5 hb5 hbut))
    refine bodyPost_ret (results_cell Try.results14 _ _ rfl (rowGT _ rfl) hb5) rfl ⟨_, rfl, ?_, ?_⟩
    · have h9 := HAL.out.butOld hbut hTz
      refine ⟨rfl, rfl, fun k l hk => ?_⟩
      have hz : k < 10 := (List.getElem?_eq_some_iff.1 hk).1
      match k, hz with
      | 0, _ => cases hk; exact ⟨A0, c0, rfl, (h9 (A0, c0, rowsG us (nm 0)) (by simp)).rv⟩
      | 1, _ => cases hk; exact ⟨A1, c1, rfl, (h9 (A1, c1, rowsG us (nm 1)) (by simp)).rv⟩
      | 2, _ => cases hk; exact ⟨A2, c2, rfl, (h9 (A2, c2, rowsG us (nm 2)) (by simp)).rv⟩
      | 3, _ => cases hk; exact ⟨A3, c3, rfl, (h9 (A3, c3, rowsG us (nm 3)) (by simp)).rv⟩
      | 4, _ => cases hk; exact ⟨A4, c4, rfl, (h9 (A4, c4, rowsG us (nm 4)) (by simp)).rv⟩
      | 5, _ => cases hk; exact ⟨A5, c5, rfl, (h9 (A5, c5, rowsG us (nm 5)) (by simp)).rv⟩
      | 6, _ => cases hk; exact ⟨B6, d6, rfl, (h9 (B6, d6, turnedL (rowsG us (nm 6)) [rowsG us (nm 6)]) (by simp)).rv⟩
      | 7, _ => cases hk; exact ⟨B7, d7, rfl, (h9 (B7, d7, turnedL (rowsG us (nm 0)) []) (by simp)).rv⟩
      | 8, _ => cases hk; exact ⟨B8, d8, rfl, (h9 (B8, d8, turnedL (rowsG us (nm 2)) []) (by simp)).rv⟩
      | 9, _ => cases hk; exact ⟨B9, d9, rfl, (h9 (B9, d9, turnedL (rowsG us (nm 3)) []) (by simp)).rv⟩
    · exact But.toExt HXW.out hbut (by omega)
  iterate 7 (apply fork_read; (case ho => rfl); (case hw => rfl); (case h1 => intro W' hx; (try dsimp only at hx); go_simp; (try go_bits); with_reducible rfl); (case hp => go_simp; first | done | with_reducible rfl))
  refine fork_gen (fun V => Ext W0 V ∧ All V us.length W0.heap.size []) ⟨(Ext.refl W0).drew, All.nil _ _ _⟩ ?_
  rintro W ⟨x, al⟩
  refine fork_two rfl rfl ?_ ?_ <;> intro KY hKY
  · skip
    go_wp2_with (refine (HR0.out _ x).mono ?_; rintro e V ⟨A0, c0, rfl, r, y⟩)
    refine ⟨(x.trans y).cell ht, ?_⟩
    refine fork_gen (fun V => Ext W0 V ∧ All V us.length W0.heap.size [(A0, c0, rowsG us (nm 0))]) ⟨x.trans y, (al.ext y).snoc (r.mono x.size)⟩ ?_
    clear y r x al
    clear V W
    rintro W ⟨x, al⟩
    refine fork_two rfl rfl ?_ ?_ <;> intro KY hKY
    · skip
      go_wp2_with (refine (HR1.out _ x).mono ?_; rintro e V ⟨A1, c1, rfl, r, y⟩)
      refine ⟨(x.trans y).cell ht, ?_⟩
      refine fork_gen (fun V => Ext W0 V ∧ All V us.length W0.heap.size [(A0, c0, rowsG us (nm 0)), (A1, c1, rowsG us (nm 1))]) ⟨x.trans y, (al.ext y).snoc (r.mono x.size)⟩ ?_
      clear y r x al
      clear V W
      rintro W ⟨x, al⟩
      refine fork_two rfl rfl ?_ ?_ <;> intro KY hKY
      · skip
        go_wp2_with (refine (HR2.out _ x).mono ?_; rintro e V ⟨A2, c2, rfl, r, y⟩)
        refine ⟨(x.trans y).cell ht, ?_⟩
        refine fork_gen (fun V => Ext W0 V ∧ All V us.length W0.heap.size [(A0, c0, rowsG us (nm 0)), (A1, c1, rowsG us (nm 1)), (A2, c2, rowsG us (nm 2))]) ⟨x.trans y, (al.ext y).snoc (r.mono x.size)⟩ ?_
        clear y r x al
        clear V W
        rintro W ⟨x, al⟩
        refine fork_two rfl rfl ?_ ?_ <;> intro KY hKY
        · skip
          go_wp2_with (refine (HR3.out _ x).mono ?_; rintro e V ⟨A3, c3, rfl, r, y⟩)
          refine ⟨(x.trans y).cell ht, ?_⟩
          refine fork_gen (fun V => Ext W0 V ∧ All V us.length W0.heap.size [(A0, c0, rowsG us (nm 0)), (A1, c1, rowsG us (nm 1)), (A2, c2, rowsG us (nm 2)), (A3, c3, rowsG us (nm 3))]) ⟨x.trans y, (al.ext y).snoc (r.mono x.size)⟩ ?_
          clear y r x al
          clear V W
          rintro W ⟨x, al⟩
          refine fork_two rfl rfl ?_ ?_ <;> intro KY hKY
          · skip
            go_wp2_with (refine (HR4.out _ x).mono ?_; rintro e V ⟨A4, c4, rfl, r, y⟩)
            refine ⟨(x.trans y).cell ht, ?_⟩
            refine fork_gen (fun V => Ext W0 V ∧ All V us.length W0.heap.size [(A0, c0, rowsG us (nm 0)), (A1, c1, rowsG us (nm 1)), (A2, c2, rowsG us (nm 2)), (A3, c3, rowsG us (nm 3)), (A4, c4, rowsG us (nm 4))]) ⟨x.trans y, (al.ext y).snoc (r.mono x.size)⟩ ?_
            clear y r x al
            clear V W
            rintro W ⟨x, al⟩
            refine fork_two rfl rfl ?_ ?_ <;> intro KY hKY
            · skip
              go_wp2_with (refine (HR5.out _ x).mono ?_; rintro e V ⟨A5, c5, rfl, r, y⟩)
              refine ⟨(x.trans y).cell ht, ?_⟩
              refine fork_gen (fun V => Ext W0 V ∧ All V us.length W0.heap.size [(A0, c0, rowsG us (nm 0)), (A1, c1, rowsG us (nm 1)), (A2, c2, rowsG us (nm 2)), (A3, c3, rowsG us (nm 3)), (A4, c4, rowsG us (nm 4)), (A5, c5, rowsG us (nm 5))]) ⟨x.trans y, (al.ext y).snoc (r.mono x.size)⟩ ?_
              clear y r x al
              clear V W
              rintro W ⟨x, al⟩
              refine fork_two rfl rfl ?_ ?_ <;> intro KY hKY
              · skip
                go_wp2_with (refine (HR6.out _ x).mono ?_; rintro e V ⟨A6, c6, rfl, r, y⟩)
                refine ⟨(x.trans y).cell ht, ?_⟩
                refine fork_gen (fun V => Ext W0 V ∧ All V us.length W0.heap.size [(A0, c0, rowsG us (nm 0)), (A1, c1, rowsG us (nm 1)), (A2, c2, rowsG us (nm 2)), (A3, c3, rowsG us (nm 3)), (A4, c4, rowsG us (nm 4)), (A5, c5, rowsG us (nm 5)), (A6, c6, rowsG us (nm 6))]) ⟨x.trans y, (al.ext y).snoc (r.mono x.size)⟩ ?_
                clear y r x al
                clear V W
                rintro W ⟨x, al⟩
                (apply fork_read; (case ho => rfl); (case hw => rfl); (case h1 => intro W' hx; (try dsimp only at hx); go_simp; (try go_bits); with_reducible rfl); (case hp => go_simp; first | done | with_reducible rfl))
                refine fork_one rfl ?_; intro KY hKY
                go_wp2_with fail
                refine ⟨(x.alloc _).cell ht, ?_⟩
                refine fork_gen (fun V => Ext W0 V ∧ AllO V us.length W0.heap.size W.heap.size [(A0, c0, rowsG us (nm 0)), (A1, c1, rowsG us (nm 1)), (A2, c2, rowsG us (nm 2)), (A3, c3, rowsG us (nm 3)), (A4, c4, rowsG us (nm 4)), (A5, c5, rowsG us (nm 5)), (A6, c6, rowsG us (nm 6))] ∧ Blk V W.heap.size nil10 31) ⟨x.alloc _, (al.off (Nat.le_refl _)).ext ((Ext.refl W).alloc _), Blk.newAt W nil10 31 _ rfl⟩ ?_
                have hgw : W0.heap.size ≤ W.heap.size := x.size
                obtain ⟨g, hg⟩ : ∃ g, W.heap.size = g := ⟨_, rfl⟩
                rw [hg] at hgw ⊢
                clear hg x al
                clear W
                rintro W ⟨x, al, hb⟩
                refine fork_one rfl ?_; intro KY hKY
                go_wp2_with (refine wpList_store_blk rfl 31 (.tmp 3) (.tmp 18) rfl g rfl [.slice A0 us.length c0, .slice A1 us.length c1, .slice A2 us.length c2, .slice A3 us.length c3, .slice A4 us.length c4, .slice A5 us.length c5, .slice A6 us.length c6, .slice none 0 0, .slice none 0 0, .slice none 0 0] rfl hb (rowGT _ rfl) rfl rfl ?_; intro V hb5 hbut)
                refine ⟨(But.toExt x hbut hgw).cell ht, ?_⟩
                refine fork_nil ?_; unfold Q0
                exact ⟨rfl, A0, c0, A1, c1, A2, c2, A3, c3, A4, c4, A5, c5, A6, c6, g, rfl, hgw, hb5, al.but hbut, But.toExt x hbut hgw⟩
              · skip
                go_wp2_with fail
                refine ⟨(x.alloc _).cell ht, ?_⟩
                refine fork_gen (fun V => Ext W0 V ∧ AllO V us.length W0.heap.size W.heap.size [(A0, c0, rowsG us (nm 0)), (A1, c1, rowsG us (nm 1)), (A2, c2, rowsG us (nm 2)), (A3, c3, rowsG us (nm 3)), (A4, c4, rowsG us (nm 4)), (A5, c5, rowsG us (nm 5))] ∧ Blk V W.heap.size nil10 31) ⟨x.alloc _, (al.off (Nat.le_refl _)).ext ((Ext.refl W).alloc _), Blk.newAt W nil10 31 _ rfl⟩ ?_
                have hgw : W0.heap.size ≤ W.heap.size := x.size
                obtain ⟨g, hg⟩ : ∃ g, W.heap.size = g := ⟨_, rfl⟩
                rw [hg] at hgw ⊢
                clear hg x al
                clear W
                rintro W ⟨x, al, hb⟩
                refine fork_one rfl ?_; intro KY hKY
                go_wp2_with (refine (HR6.out _ x).mono ?_; rintro e V ⟨A6, c6, rfl, r, y⟩)
                refine ⟨(x.trans y).cell ht, ?_⟩
                refine fork_gen (fun V => Ext W0 V ∧ AllO V us.length W0.heap.size g [(A0, c0, rowsG us (nm 0)), (A1, c1, rowsG us (nm 1)), (A2, c2, rowsG us (nm 2)), (A3, c3, rowsG us (nm 3)), (A4, c4, rowsG us (nm 4)), (A5, c5, rowsG us (nm 5)), (A6, c6, rowsG us (nm 6))] ∧ Blk V g nil10 31) ⟨x.trans y, (al.ext y).snoc (r.off hb.lt x.size), hb.ext y⟩ ?_
                clear y r x al hb
                clear V W
                rintro W ⟨x, al, hb⟩
                (apply fork_read; (case ho => rfl); (case hw => rfl); (case h1 => intro W' hx; (try dsimp only at hx); go_simp; (try go_bits); with_reducible rfl); (case hp => go_simp; first | done | with_reducible rfl))
                refine fork_one rfl ?_; intro KY hKY
                go_wp2_with (refine wpList_store_blk rfl 31 (.tmp 3) (.tmp 18) rfl g rfl [.slice A0 us.length c0, .slice A1 us.length c1, .slice A2 us.length c2, .slice A3 us.length c3, .slice A4 us.length c4, .slice A5 us.length c5, .slice A6 us.length c6, .slice none 0 0, .slice none 0 0, .slice none 0 0] rfl hb (rowGT _ rfl) rfl rfl ?_; intro V hb5 hbut)
                refine ⟨(But.toExt x hbut hgw).cell ht, ?_⟩
                refine fork_nil ?_; unfold Q0
                exact ⟨rfl, A0, c0, A1, c1, A2, c2, A3, c3, A4, c4, A5, c5, A6, c6, g, rfl, hgw, hb5, al.but hbut, But.toExt x hbut hgw⟩
            · skip
              go_wp2_with fail
              refine ⟨(x.alloc _).cell ht, ?_⟩
              refine fork_gen (fun V => Ext W0 V ∧ AllO V us.length W0.heap.size W.heap.size [(A0, c0, rowsG us (nm 0)), (A1, c1, rowsG us (nm 1)), (A2, c2, rowsG us (nm 2)), (A3, c3, rowsG us (nm 3)), (A4, c4, rowsG us (nm 4))] ∧ Blk V W.heap.size nil10 31) ⟨x.alloc _, (al.off (Nat.le_refl _)).ext ((Ext.refl W).alloc _), Blk.newAt W nil10 31 _ rfl⟩ ?_
              have hgw : W0.heap.size ≤ W.heap.size := x.size
              obtain ⟨g, hg⟩ : ∃ g, W.heap.size = g := ⟨_, rfl⟩
              rw [hg] at hgw ⊢
              clear hg x al
              clear W
              rintro W ⟨x, al, hb⟩
              refine fork_one rfl ?_; intro KY hKY
              go_wp2_with (refine (HR5.out _ x).mono ?_; rintro e V ⟨A5, c5, rfl, r, y⟩)
              refine ⟨(x.trans y).cell ht, ?_⟩
              refine fork_gen (fun V => Ext W0 V ∧ AllO V us.length W0.heap.size g [(A0, c0, rowsG us (nm 0)), (A1, c1, rowsG us (nm 1)), (A2, c2, rowsG us (nm 2)), (A3, c3, rowsG us (nm 3)), (A4, c4, rowsG us (nm 4)), (A5, c5, rowsG us (nm 5))] ∧ Blk V g nil10 31) ⟨x.trans y, (al.ext y).snoc (r.off hb.lt x.size), hb.ext y⟩ ?_
              clear y r x al hb
              clear V W
              rintro W ⟨x, al, hb⟩
              refine fork_one rfl ?_; intro KY hKY
              go_wp2_with (refine (HR6.out _ x).mono ?_; rintro e V ⟨A6, c6, rfl, r, y⟩)
              refine ⟨(x.trans y).cell ht, ?_⟩
              refine fork_gen (fun V => Ext W0 V ∧ AllO V us.length W0.heap.size g [(A0, c0, rowsG us (nm 0)), (A1, c1, rowsG us (nm 1)), (A2, c2, rowsG us (nm 2)), (A3, c3, rowsG us (nm 3)), (A4, c4, rowsG us (nm 4)), (A5, c5, rowsG us (nm 5)), (A6, c6, rowsG us (nm 6))] ∧ Blk V g nil10 31) ⟨x.trans y, (al.ext y).snoc (r.off hb.lt x.size), hb.ext y⟩ ?_
              clear y r x al hb
              clear V W
              rintro W ⟨x, al, hb⟩
              (apply fork_read; (case ho => rfl); (case hw => rfl); (case h1 => intro W' hx; (try dsimp only at hx); go_simp; (try go_bits); with_reducible rfl); (case hp => go_simp; first | done | with_reducible rfl))
              refine fork_one rfl ?_; intro KY hKY
              go_wp2_with (refine wpList_store_blk rfl 31 (.tmp 3) (.tmp 18) rfl g rfl [.slice A0 us.length c0, .slice A1 us.length c1, .slice A2 us.length c2, .slice A3 us.length c3, .slice A4 us.length c4, .slice A5 us.length c5, .slice A6 us.length c6, .slice none 0 0, .slice none 0 0, .slice none 0 0] rfl hb (rowGT _ rfl) rfl rfl ?_; intro V hb5 hbut)
              refine ⟨(But.toExt x hbut hgw).cell ht, ?_⟩
              refine fork_nil ?_; unfold Q0
              exact ⟨rfl, A0, c0, A1, c1, A2, c2, A3, c3, A4, c4, A5, c5, A6, c6, g, rfl, hgw, hb5, al.but hbut, But.toExt x hbut hgw⟩
          · skip
            go_wp2_with fail
            refine ⟨(x.alloc _).cell ht, ?_⟩
            refine fork_gen (fun V => Ext W0 V ∧ AllO V us.length W0.heap.size W.heap.size [(A0, c0, rowsG us (nm 0)), (A1, c1, rowsG us (nm 1)), (A2, c2, rowsG us (nm 2)), (A3, c3, rowsG us (nm 3))] ∧ Blk V W.heap.size nil10 31) ⟨x.alloc _, (al.off (Nat.le_refl _)).ext ((Ext.refl W).alloc _), Blk.newAt W nil10 31 _ rfl⟩ ?_
            have hgw : W0.heap.size ≤ W.heap.size := x.size
            obtain ⟨g, hg⟩ : ∃ g, W.heap.size = g := ⟨_, rfl⟩
            rw [hg] at hgw ⊢
            clear hg x al
            clear W
            rintro W ⟨x, al, hb⟩
            refine fork_one rfl ?_; intro KY hKY
            go_wp2_with (refine (HR4.out _ x).mono ?_; rintro e V ⟨A4, c4, rfl, r, y⟩)
            refine ⟨(x.trans y).cell ht, ?_⟩
            refine fork_gen (fun V => Ext W0 V ∧ AllO V us.length W0.heap.size g [(A0, c0, rowsG us (nm 0)), (A1, c1, rowsG us (nm 1)), (A2, c2, rowsG us (nm 2)), (A3, c3, rowsG us (nm 3)), (A4, c4, rowsG us (nm 4))] ∧ Blk V g nil10 31) ⟨x.trans y, (al.ext y).snoc (r.off hb.lt x.size), hb.ext y⟩ ?_
            clear y r x al hb
            clear V W
            rintro W ⟨x, al, hb⟩
            refine fork_one rfl ?_; intro KY hKY
            go_wp2_with (refine (HR5.out _ x).mono ?_; rintro e V ⟨A5, c5, rfl, r, y⟩)
            refine ⟨(x.trans y).cell ht, ?_⟩
            refine fork_gen (fun V => Ext W0 V ∧ AllO V us.length W0.heap.size g [(A0, c0, rowsG us (nm 0)), (A1, c1, rowsG us (nm 1)), (A2, c2, rowsG us (nm 2)), (A3, c3, rowsG us (nm 3)), (A4, c4, rowsG us (nm 4)), (A5, c5, rowsG us (nm 5))] ∧ Blk V g nil10 31) ⟨x.trans y, (al.ext y).snoc (r.off hb.lt x.size), hb.ext y⟩ ?_
            clear y r x al hb
            clear V W
            rintro W ⟨x, al, hb⟩
            refine fork_one rfl ?_; intro KY hKY
            go_wp2_with (refine (HR6.out _ x).mono ?_; rintro e V ⟨A6, c6, rfl, r, y⟩)
            refine ⟨(x.trans y).cell ht, ?_⟩
            refine fork_gen (fun V => Ext W0 V ∧ AllO V us.length W0.heap.size g [(A0, c0, rowsG us (nm 0)), (A1, c1, rowsG us (nm 1)), (A2, c2, rowsG us (nm 2)), (A3, c3, rowsG us (nm 3)), (A4, c4, rowsG us (nm 4)), (A5, c5, rowsG us (nm 5)), (A6, c6, rowsG us (nm 6))] ∧ Blk V g nil10 31) ⟨x.trans y, (al.ext y).snoc (r.off hb.lt x.size), hb.ext y⟩ ?_
            clear y r x al hb
            clear V W
            rintro W ⟨x, al, hb⟩
            (apply fork_read; (case ho => rfl); (case hw => rfl); (case h1 => intro W' hx; (try dsimp only at hx); go_simp; (try go_bits); with_reducible rfl); (case hp => go_simp; first | done | with_reducible rfl))
            refine fork_one rfl ?_; intro KY hKY
            go_wp2_with (refine wpList_store_blk rfl 31 (.tmp 3) (.tmp 18) rfl g rfl [.slice A0 us.length c0, .slice A1 us.length c1, .slice A2 us.length c2, .slice A3 us.length c3, .slice A4 us.length c4, .slice A5 us.length c5, .slice A6 us.length c6, .slice none 0 0, .slice none 0 0, .slice none 0 0] rfl hb (rowGT _ rfl) rfl rfl ?_; intro V hb5 hbut)
            refine ⟨(But.toExt x hbut hgw).cell ht, ?_⟩
            refine fork_nil ?_; unfold Q0
            exact ⟨rfl, A0, c0, A1, c1, A2, c2, A3, c3, A4, c4, A5, c5, A6, c6, g, rfl, hgw, hb5, al.but hbut, But.toExt x hbut hgw⟩
        · skip
          go_wp2_with fail
          refine ⟨(x.alloc _).cell ht, ?_⟩
          refine fork_gen (fun V => Ext W0 V ∧ AllO V us.length W0.heap.size W.heap.size [(A0, c0, rowsG us (nm 0)), (A1, c1, rowsG us (nm 1)), (A2, c2, rowsG us (nm 2))] ∧ Blk V W.heap.size nil10 31) ⟨x.alloc _, (al.off (Nat.le_refl _)).ext ((Ext.refl W).alloc _), Blk.newAt W nil10 31 _ rfl⟩ ?_
          have hgw : W0.heap.size ≤ W.heap.size := x.size
          obtain ⟨g, hg⟩ : ∃ g, W.heap.size = g := ⟨_, rfl⟩
          rw [hg] at hgw ⊢
          clear hg x al
          clear W
          rintro W ⟨x, al, hb⟩
          refine fork_one rfl ?_; intro KY hKY
          go_wp2_with (refine (HR3.out _ x).mono ?_; rintro e V ⟨A3, c3, rfl, r, y⟩)
          refine ⟨(x.trans y).cell ht, ?_⟩
          refine fork_gen (fun V => Ext W0 V ∧ AllO V us.length W0.heap.size g [(A0, c0, rowsG us (nm 0)), (A1, c1, rowsG us (nm 1)), (A2, c2, rowsG us (nm 2)), (A3, c3, rowsG us (nm 3))] ∧ Blk V g nil10 31) ⟨x.trans y, (al.ext y).snoc (r.off hb.lt x.size), hb.ext y⟩ ?_
          clear y r x al hb
          clear V W
          rintro W ⟨x, al, hb⟩
          refine fork_one rfl ?_; intro KY hKY
          go_wp2_with (refine (HR4.out _ x).mono ?_; rintro e V ⟨A4, c4, rfl, r, y⟩)
          refine ⟨(x.trans y).cell ht, ?_⟩
          refine fork_gen (fun V => Ext W0 V ∧ AllO V us.length W0.heap.size g [(A0, c0, rowsG us (nm 0)), (A1, c1, rowsG us (nm 1)), (A2, c2, rowsG us (nm 2)), (A3, c3, rowsG us (nm 3)), (A4, c4, rowsG us (nm 4))] ∧ Blk V g nil10 31) ⟨x.trans y, (al.ext y).snoc (r.off hb.lt x.size), hb.ext y⟩ ?_
          clear y r x al hb
          clear V W
          rintro W ⟨x, al, hb⟩
          refine fork_one rfl ?_; intro KY hKY
          go_wp2_with (refine (HR5.out _ x).mono ?_; rintro e V ⟨A5, c5, rfl, r, y⟩)
          refine ⟨(x.trans y).cell ht, ?_⟩
          refine fork_gen (fun V => Ext W0 V ∧ AllO V us.length W0.heap.size g [(A0, c0, rowsG us (nm 0)), (A1, c1, rowsG us (nm 1)), (A2, c2, rowsG us (nm 2)), (A3, c3, rowsG us (nm 3)), (A4, c4, rowsG us (nm 4)), (A5, c5, rowsG us (nm 5))] ∧ Blk V g nil10 31) ⟨x.trans y, (al.ext y).snoc (r.off hb.lt x.size), hb.ext y⟩ ?_
          clear y r x al hb
          clear V W
          rintro W ⟨x, al, hb⟩
          refine fork_one rfl ?_; intro KY hKY
          go_wp2_with (refine (HR6.out _ x).mono ?_; rintro e V ⟨A6, c6, rfl, r, y⟩)
          refine ⟨(x.trans y).cell ht, ?_⟩
          refine fork_gen (fun V => Ext W0 V ∧ AllO V us.length W0.heap.size g [(A0, c0, rowsG us (nm 0)), (A1, c1, rowsG us (nm 1)), (A2, c2, rowsG us (nm 2)), (A3, c3, rowsG us (nm 3)), (A4, c4, rowsG us (nm 4)), (A5, c5, rowsG us (nm 5)), (A6, c6, rowsG us (nm 6))] ∧ Blk V g nil10 31) ⟨x.trans y, (al.ext y).snoc (r.off hb.lt x.size), hb.ext y⟩ ?_
          clear y r x al hb
          clear V W
          rintro W ⟨x, al, hb⟩
          (apply fork_read; (case ho => rfl); (case hw => rfl); (case h1 => intro W' hx; (try dsimp only at hx); go_simp; (try go_bits); with_reducible rfl); (case hp => go_simp; first | done | with_reducible rfl))
          refine fork_one rfl ?_; intro KY hKY
          go_wp2_with (refine wpList_store_blk rfl 31 (.tmp 3) (.tmp 18) rfl g rfl [.slice A0 us.length c0, .slice A1 us.length c1, .slice A2 us.length c2, .slice A3 us.length c3, .slice A4 us.length c4, .slice A5 us.length c5, .slice A6 us.length c6, .slice none 0 0, .slice none 0 0, .slice none 0 0] rfl hb (rowGT _ rfl) rfl rfl ?_; intro V hb5 hbut)
          refine ⟨(But.toExt x hbut hgw).cell ht, ?_⟩
          refine fork_nil ?_; unfold Q0
          exact ⟨rfl, A0, c0, A1, c1, A2, c2, A3, c3, A4, c4, A5, c5, A6, c6, g, rfl, hgw, hb5, al.but hbut, But.toExt x hbut hgw⟩
      · skip
        go_wp2_with fail
        refine ⟨(x.alloc _).cell ht, ?_⟩
        refine fork_gen (fun V => Ext W0 V ∧ AllO V us.length W0.heap.size W.heap.size [(A0, c0, rowsG us (nm 0)), (A1, c1, rowsG us (nm 1))] ∧ Blk V W.heap.size nil10 31) ⟨x.alloc _, (al.off (Nat.le_refl _)).ext ((Ext.refl W).alloc _), Blk.newAt W nil10 31 _ rfl⟩ ?_
        have hgw : W0.heap.size ≤ W.heap.size := x.size
        obtain ⟨g, hg⟩ : ∃ g, W.heap.size = g := ⟨_, rfl⟩
        rw [hg] at hgw ⊢
        clear hg x al
        clear W
        rintro W ⟨x, al, hb⟩
        refine fork_one rfl ?_; intro KY hKY
        go_wp2_with (refine (HR2.out _ x).mono ?_; rintro e V ⟨A2, c2, rfl, r, y⟩)
        refine ⟨(x.trans y).cell ht, ?_⟩
        refine fork_gen (fun V => Ext W0 V ∧ AllO V us.length W0.heap.size g [(A0, c0, rowsG us (nm 0)), (A1, c1, rowsG us (nm 1)), (A2, c2, rowsG us (nm 2))] ∧ Blk V g nil10 31) ⟨x.trans y, (al.ext y).snoc (r.off hb.lt x.size), hb.ext y⟩ ?_
        clear y r x al hb
        clear V W
        rintro W ⟨x, al, hb⟩
        refine fork_one rfl ?_; intro KY hKY
        go_wp2_with (refine (HR3.out _ x).mono ?_; rintro e V ⟨A3, c3, rfl, r, y⟩)
        refine ⟨(x.trans y).cell ht, ?_⟩
        refine fork_gen (fun V => Ext W0 V ∧ AllO V us.length W0.heap.size g [(A0, c0, rowsG us (nm 0)), (A1, c1, rowsG us (nm 1)), (A2, c2, rowsG us (nm 2)), (A3, c3, rowsG us (nm 3))] ∧ Blk V g nil10 31) ⟨x.trans y, (al.ext y).snoc (r.off hb.lt x.size), hb.ext y⟩ ?_
        clear y r x al hb
        clear V W
        rintro W ⟨x, al, hb⟩
        refine fork_one rfl ?_; intro KY hKY
        go_wp2_with (refine (HR4.out _ x).mono ?_; rintro e V ⟨A4, c4, rfl, r, y⟩)
        refine ⟨(x.trans y).cell ht, ?_⟩
        refine fork_gen (fun V => Ext W0 V ∧ AllO V us.length W0.heap.size g [(A0, c0, rowsG us (nm 0)), (A1, c1, rowsG us (nm 1)), (A2, c2, rowsG us (nm 2)), (A3, c3, rowsG us (nm 3)), (A4, c4, rowsG us (nm 4))] ∧ Blk V g nil10 31) ⟨x.trans y, (al.ext y).snoc (r.off hb.lt x.size), hb.ext y⟩ ?_
        clear y r x al hb
        clear V W
        rintro W ⟨x, al, hb⟩
        refine fork_one rfl ?_; intro KY hKY
        go_wp2_with (refine (HR5.out _ x).mono ?_; rintro e V ⟨A5, c5, rfl, r, y⟩)
        refine ⟨(x.trans y).cell ht, ?_⟩
        refine fork_gen (fun V => Ext W0 V ∧ AllO V us.length W0.heap.size g [(A0, c0, rowsG us (nm 0)), (A1, c1, rowsG us (nm 1)), (A2, c2, rowsG us (nm 2)), (A3, c3, rowsG us (nm 3)), (A4, c4, rowsG us (nm 4)), (A5, c5, rowsG us (nm 5))] ∧ Blk V g nil10 31) ⟨x.trans y, (al.ext y).snoc (r.off hb.lt x.size), hb.ext y⟩ ?_
        clear y r x al hb
        clear V W
        rintro W ⟨x, al, hb⟩
        refine fork_one rfl ?_; intro KY hKY
        go_wp2_with (refine (HR6.out _ x).mono ?_; rintro e V ⟨A6, c6, rfl, r, y⟩)
        refine ⟨(x.trans y).cell ht, ?_⟩
        refine fork_gen (fun V => Ext W0 V ∧ AllO V us.length W0.heap.size g [(A0, c0, rowsG us (nm 0)), (A1, c1, rowsG us (nm 1)), (A2, c2, rowsG us (nm 2)), (A3, c3, rowsG us (nm 3)), (A4, c4, rowsG us (nm 4)), (A5, c5, rowsG us (nm 5)), (A6, c6, rowsG us (nm 6))] ∧ Blk V g nil10 31) ⟨x.trans y, (al.ext y).snoc (r.off hb.lt x.size), hb.ext y⟩ ?_
        clear y r x al hb
        clear V W
        rintro W ⟨x, al, hb⟩
        (apply fork_read; (case ho => rfl); (case hw => rfl); (case h1 => intro W' hx; (try dsimp only at hx); go_simp; (try go_bits); with_reducible rfl); (case hp => go_simp; first | done | with_reducible rfl))
        refine fork_one rfl ?_; intro KY hKY
        go_wp2_with (refine wpList_store_blk rfl 31 (.tmp 3) (.tmp 18) rfl g rfl [.slice A0 us.length c0, .slice A1 us.length c1, .slice A2 us.length c2, .slice A3 us.length c3, .slice A4 us.length c4, .slice A5 us.length c5, .slice A6 us.length c6, .slice none 0 0, .slice none 0 0, .slice none 0 0] rfl hb (rowGT _ rfl) rfl rfl ?_; intro V hb5 hbut)
        refine ⟨(But.toExt x hbut hgw).cell ht, ?_⟩
        refine fork_nil ?_; unfold Q0
        exact ⟨rfl, A0, c0, A1, c1, A2, c2, A3, c3, A4, c4, A5, c5, A6, c6, g, rfl, hgw, hb5, al.but hbut, But.toExt x hbut hgw⟩
    · skip
      go_wp2_with fail
      refine ⟨(x.alloc _).cell ht, ?_⟩
      refine fork_gen (fun V => Ext W0 V ∧ AllO V us.length W0.heap.size W.heap.size [(A0, c0, rowsG us (nm 0))] ∧ Blk V W.heap.size nil10 31) ⟨x.alloc _, (al.off (Nat.le_refl _)).ext ((Ext.refl W).alloc _), Blk.newAt W nil10 31 _ rfl⟩ ?_
      have hgw : W0.heap.size ≤ W.heap.size := x.size
      obtain ⟨g, hg⟩ : ∃ g, W.heap.size = g := ⟨_, rfl⟩
      rw [hg] at hgw ⊢
      clear hg x al
      clear W
      rintro W ⟨x, al, hb⟩
      refine fork_one rfl ?_; intro KY hKY
      go_wp2_with (refine (HR1.out _ x).mono ?_; rintro e V ⟨A1, c1, rfl, r, y⟩)
      refine ⟨(x.trans y).cell ht, ?_⟩
      refine fork_gen (fun V => Ext W0 V ∧ AllO V us.length W0.heap.size g [(A0, c0, rowsG us (nm 0)), (A1, c1, rowsG us (nm 1))] ∧ Blk V g nil10 31) ⟨x.trans y, (al.ext y).snoc (r.off hb.lt x.size), hb.ext y⟩ ?_
      clear y r x al hb
      clear V W
      rintro W ⟨x, al, hb⟩
      refine fork_one rfl ?_; intro KY hKY
      go_wp2_with (refine (HR2.out _ x).mono ?_; rintro e V ⟨A2, c2, rfl, r, y⟩)
      refine ⟨(x.trans y).cell ht, ?_⟩
      refine fork_gen (fun V => Ext W0 V ∧ AllO V us.length W0.heap.size g [(A0, c0, rowsG us (nm 0)), (A1, c1, rowsG us (nm 1)), (A2, c2, rowsG us (nm 2))] ∧ Blk V g nil10 31) ⟨x.trans y, (al.ext y).snoc (r.off hb.lt x.size), hb.ext y⟩ ?_
      clear y r x al hb
      clear V W
      rintro W ⟨x, al, hb⟩
      refine fork_one rfl ?_; intro KY hKY
      go_wp2_with (refine (HR3.out _ x).mono ?_; rintro e V ⟨A3, c3, rfl, r, y⟩)
      refine ⟨(x.trans y).cell ht, ?_⟩
      refine fork_gen (fun V => Ext W0 V ∧ AllO V us.length W0.heap.size g [(A0, c0, rowsG us (nm 0)), (A1, c1, rowsG us (nm 1)), (A2, c2, rowsG us (nm 2)), (A3, c3, rowsG us (nm 3))] ∧ Blk V g nil10 31) ⟨x.trans y, (al.ext y).snoc (r.off hb.lt x.size), hb.ext y⟩ ?_
      clear y r x al hb
      clear V W
      rintro W ⟨x, al, hb⟩
      refine fork_one rfl ?_; intro KY hKY
      go_wp2_with (refine (HR4.out _ x).mono ?_; rintro e V ⟨A4, c4, rfl, r, y⟩)
      refine ⟨(x.trans y).cell ht, ?_⟩
      refine fork_gen (fun V => Ext W0 V ∧ AllO V us.length W0.heap.size g [(A0, c0, rowsG us (nm 0)), (A1, c1, rowsG us (nm 1)), (A2, c2, rowsG us (nm 2)), (A3, c3, rowsG us (nm 3)), (A4, c4, rowsG us (nm 4))] ∧ Blk V g nil10 31) ⟨x.trans y, (al.ext y).snoc (r.off hb.lt x.size), hb.ext y⟩ ?_
      clear y r x al hb
      clear V W
      rintro W ⟨x, al, hb⟩
      refine fork_one rfl ?_; intro KY hKY
      go_wp2_with (refine (HR5.out _ x).mono ?_; rintro e V ⟨A5, c5, rfl, r, y⟩)
      refine ⟨(x.trans y).cell ht, ?_⟩
      refine fork_gen (fun V => Ext W0 V ∧ AllO V us.length W0.heap.size g [(A0, c0, rowsG us (nm 0)), (A1, c1, rowsG us (nm 1)), (A2, c2, rowsG us (nm 2)), (A3, c3, rowsG us (nm 3)), (A4, c4, rowsG us (nm 4)), (A5, c5, rowsG us (nm 5))] ∧ Blk V g nil10 31) ⟨x.trans y, (al.ext y).snoc (r.off hb.lt x.size), hb.ext y⟩ ?_
      clear y r x al hb
      clear V W
      rintro W ⟨x, al, hb⟩
      refine fork_one rfl ?_; intro KY hKY
      go_wp2_with (refine (HR6.out _ x).mono ?_; rintro e V ⟨A6, c6, rfl, r, y⟩)
      refine ⟨(x.trans y).cell ht, ?_⟩
      refine fork_gen (fun V => Ext W0 V ∧ AllO V us.length W0.heap.size g [(A0, c0, rowsG us (nm 0)), (A1, c1, rowsG us (nm 1)), (A2, c2, rowsG us (nm 2)), (A3, c3, rowsG us (nm 3)), (A4, c4, rowsG us (nm 4)), (A5, c5, rowsG us (nm 5)), (A6, c6, rowsG us (nm 6))] ∧ Blk V g nil10 31) ⟨x.trans y, (al.ext y).snoc (r.off hb.lt x.size), hb.ext y⟩ ?_
      clear y r x al hb
      clear V W
      rintro W ⟨x, al, hb⟩
      (apply fork_read; (case ho => rfl); (case hw => rfl); (case h1 => intro W' hx; (try dsimp only at hx); go_simp; (try go_bits); with_reducible rfl); (case hp => go_simp; first | done | with_reducible rfl))
      refine fork_one rfl ?_; intro KY hKY
      go_wp2_with (refine wpList_store_blk rfl 31 (.tmp 3) (.tmp 18) rfl g rfl [.slice A0 us.length c0, .slice A1 us.length c1, .slice A2 us.length c2, .slice A3 us.length c3, .slice A4 us.length c4, .slice A5 us.length c5, .slice A6 us.length c6, .slice none 0 0, .slice none 0 0, .slice none 0 0] rfl hb (rowGT _ rfl) rfl rfl ?_; intro V hb5 hbut)
      refine ⟨(But.toExt x hbut hgw).cell ht, ?_⟩
      refine fork_nil ?_; unfold Q0
      exact ⟨rfl, A0, c0, A1, c1, A2, c2, A3, c3, A4, c4, A5, c5, A6, c6, g, rfl, hgw, hb5, al.but hbut, But.toExt x hbut hgw⟩
  · skip
    go_wp2_with fail
    refine ⟨(x.alloc _).cell ht, ?_⟩
    refine fork_gen (fun V => Ext W0 V ∧ AllO V us.length W0.heap.size W.heap.size [] ∧ Blk V W.heap.size nil10 31) ⟨x.alloc _, (al.off (Nat.le_refl _)).ext ((Ext.refl W).alloc _), Blk.newAt W nil10 31 _ rfl⟩ ?_
    have hgw : W0.heap.size ≤ W.heap.size := x.size
    obtain ⟨g, hg⟩ : ∃ g, W.heap.size = g := ⟨_, rfl⟩
    rw [hg] at hgw ⊢
    clear hg x al
    clear W
    rintro W ⟨x, al, hb⟩
    refine fork_one rfl ?_; intro KY hKY
    go_wp2_with (refine (HR0.out _ x).mono ?_; rintro e V ⟨A0, c0, rfl, r, y⟩)
    refine ⟨(x.trans y).cell ht, ?_⟩
    refine fork_gen (fun V => Ext W0 V ∧ AllO V us.length W0.heap.size g [(A0, c0, rowsG us (nm 0))] ∧ Blk V g nil10 31) ⟨x.trans y, (al.ext y).snoc (r.off hb.lt x.size), hb.ext y⟩ ?_
    clear y r x al hb
    clear V W
    rintro W ⟨x, al, hb⟩
    refine fork_one rfl ?_; intro KY hKY
    go_wp2_with (refine (HR1.out _ x).mono ?_; rintro e V ⟨A1, c1, rfl, r, y⟩)
    refine ⟨(x.trans y).cell ht, ?_⟩
    refine fork_gen (fun V => Ext W0 V ∧ AllO V us.length W0.heap.size g [(A0, c0, rowsG us (nm 0)), (A1, c1, rowsG us (nm 1))] ∧ Blk V g nil10 31) ⟨x.trans y, (al.ext y).snoc (r.off hb.lt x.size), hb.ext y⟩ ?_
    clear y r x al hb
    clear V W
    rintro W ⟨x, al, hb⟩
    refine fork_one rfl ?_; intro KY hKY
    go_wp2_with (refine (HR2.out _ x).mono ?_; rintro e V ⟨A2, c2, rfl, r, y⟩)
    refine ⟨(x.trans y).cell ht, ?_⟩
    refine fork_gen (fun V => Ext W0 V ∧ AllO V us.length W0.heap.size g [(A0, c0, rowsG us (nm 0)), (A1, c1, rowsG us (nm 1)), (A2, c2, rowsG us (nm 2))] ∧ Blk V g nil10 31) ⟨x.trans y, (al.ext y).snoc (r.off hb.lt x.size), hb.ext y⟩ ?_
    clear y r x al hb
    clear V W
    rintro W ⟨x, al, hb⟩
    refine fork_one rfl ?_; intro KY hKY
    go_wp2_with (refine (HR3.out _ x).mono ?_; rintro e V ⟨A3, c3, rfl, r, y⟩)
    refine ⟨(x.trans y).cell ht, ?_⟩
    refine fork_gen (fun V => Ext W0 V ∧ AllO V us.length W0.heap.size g [(A0, c0, rowsG us (nm 0)), (A1, c1, rowsG us (nm 1)), (A2, c2, rowsG us (nm 2)), (A3, c3, rowsG us (nm 3))] ∧ Blk V g nil10 31) ⟨x.trans y, (al.ext y).snoc (r.off hb.lt x.size), hb.ext y⟩ ?_
    clear y r x al hb
    clear V W
    rintro W ⟨x, al, hb⟩
    refine fork_one rfl ?_; intro KY hKY
    go_wp2_with (refine (HR4.out _ x).mono ?_; rintro e V ⟨A4, c4, rfl, r, y⟩)
    refine ⟨(x.trans y).cell ht, ?_⟩
    refine fork_gen (fun V => Ext W0 V ∧ AllO V us.length W0.heap.size g [(A0, c0, rowsG us (nm 0)), (A1, c1, rowsG us (nm 1)), (A2, c2, rowsG us (nm 2)), (A3, c3, rowsG us (nm 3)), (A4, c4, rowsG us (nm 4))] ∧ Blk V g nil10 31) ⟨x.trans y, (al.ext y).snoc (r.off hb.lt x.size), hb.ext y⟩ ?_
    clear y r x al hb
    clear V W
    rintro W ⟨x, al, hb⟩
    refine fork_one rfl ?_; intro KY hKY
    go_wp2_with (refine (HR5.out _ x).mono ?_; rintro e V ⟨A5, c5, rfl, r, y⟩)
    refine ⟨(x.trans y).cell ht, ?_⟩
    refine fork_gen (fun V => Ext W0 V ∧ AllO V us.length W0.heap.size g [(A0, c0, rowsG us (nm 0)), (A1, c1, rowsG us (nm 1)), (A2, c2, rowsG us (nm 2)), (A3, c3, rowsG us (nm 3)), (A4, c4, rowsG us (nm 4)), (A5, c5, rowsG us (nm 5))] ∧ Blk V g nil10 31) ⟨x.trans y, (al.ext y).snoc (r.off hb.lt x.size), hb.ext y⟩ ?_
    clear y r x al hb
    clear V W
    rintro W ⟨x, al, hb⟩
    refine fork_one rfl ?_; intro KY hKY
    go_wp2_with (refine (HR6.out _ x).mono ?_; rintro e V ⟨A6, c6, rfl, r, y⟩)
    refine ⟨(x.trans y).cell ht, ?_⟩
    refine fork_gen (fun V => Ext W0 V ∧ AllO V us.length W0.heap.size g [(A0, c0, rowsG us (nm 0)), (A1, c1, rowsG us (nm 1)), (A2, c2, rowsG us (nm 2)), (A3, c3, rowsG us (nm 3)), (A4, c4, rowsG us (nm 4)), (A5, c5, rowsG us (nm 5)), (A6, c6, rowsG us (nm 6))] ∧ Blk V g nil10 31) ⟨x.trans y, (al.ext y).snoc (r.off hb.lt x.size), hb.ext y⟩ ?_
    clear y r x al hb
    clear V W
    rintro W ⟨x, al, hb⟩
    (apply fork_read; (case ho => rfl); (case hw => rfl); (case h1 => intro W' hx; (try dsimp only at hx); go_simp; (try go_bits); with_reducible rfl); (case hp => go_simp; first | done | with_reducible rfl))
    refine fork_one rfl ?_; intro KY hKY
    go_wp2_with (refine wpList_store_blk rfl 31 (.tmp 3) (.tmp 18) rfl g rfl [.slice A0 us.length c0, .slice A1 us.length c1, .slice A2 us.length c2, .slice A3 us.length c3, .slice A4 us.length c4, .slice A5 us.length c5, .slice A6 us.length c6, .slice none 0 0, .slice none 0 0, .slice none 0 0] rfl hb (rowGT _ rfl) rfl rfl ?_; intro V hb5 hbut)
    refine ⟨(But.toExt x hbut hgw).cell ht, ?_⟩
    refine fork_nil ?_; unfold Q0
    exact ⟨rfl, A0, c0, A1, c1, A2, c2, A3, c3, A4, c4, A5, c5, A6, c6, g, rfl, hgw, hb5, al.but hbut, But.toExt x hbut hgw⟩
end Go.Proofs.Ytdpfppibbnjemaa
