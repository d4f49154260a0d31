/- Chapter 19: GraphKnown holds. -/
import Derived.Test.YtdpfppibbnjemaaLawGAhead
import Derived.Test.YtdpfppibbnjemaaLawGTurn
namespace Go.Proofs.Ytdpfppibbnjemaa
open Go.RowKit Go.Shelf
set_option linter.unusedVariables false
set_option linter.unusedSimpArgs false
theorem RdV.keptG {W W' : World} {row : Option Nat} {A : Option Addr} {vs : List Value} (h : RdV W A vs) (hg : W.grownBy W' row) (hA : ∀ a, A = some a → some a.block ≠ row) : RdV W' A vs := by
  rcases h with h | ⟨b, o, rfl, h⟩
  · exact .inl h
  · exact .inr ⟨b, o, rfl, fun j v hv => hg.cell (h j v hv) (hA ⟨b, o, none⟩ rfl)⟩
/-- Names of a kind, in a block of strings. -/
def SOk (W : World) (s : SK) : Prop := RdV W s.A (s.ss.map .string) ∧ s.ss.length ≤ 5 ∧ ∀ a, s.A = some a → ∃ cs, Blk W a.block cs 9
theorem SOk.ext {W W' : World} {s : SK} (h : SOk W s) (hx : Ext W W') : SOk W' s := ⟨h.1.ext hx, h.2.1, fun a ha => by obtain ⟨cs, hb⟩ := h.2.2 a ha; exact ⟨cs, hb.ext hx⟩⟩
theorem SOk.kept {W W' : World} {row : Option Nat} {s : SK} (h : SOk W s) (hg : W.grownBy W' row) (hr : ∀ g, row = some g → (∃ cs, Blk W g cs 55) ∨ W.heap.size ≤ g) : SOk W' s := by
  have key : ∀ a, s.A = some a → some a.block ≠ row := fun a ha e => by
    obtain ⟨cs, hb⟩ := h.2.2 a ha
    rcases hr _ e.symm with ⟨cs', hb'⟩ | hl
    · have h1 : W.heap[a.block]? = _ := hb
      have h2 : W.heap[a.block]? = _ := hb'
      rw [h1] at h2
      cases h2
    · have := hb.lt
      omega
  exact ⟨h.1.keptG hg key, h.2.1, fun a ha => by obtain ⟨cs, hb⟩ := h.2.2 a ha; exact ⟨cs, Grown.blk hg hb (key a ha)⟩⟩
theorem SOk.but {W W' : World} {q : Nat} {s : SK} {cs : List Value} (h : SOk W s) (hx : But q W W') (hq : Blk W q cs 55) : SOk W' s := h.kept (But.grown hx) fun g e => by cases e; exact .inl ⟨_, hq⟩
theorem SOk.butNew {W W' : World} {q : Nat} {s : SK} (h : SOk W s) (hx : But q W W') (hq : W.heap.size ≤ q) : SOk W' s := h.kept (But.grown hx) fun g e => by cases e; exact .inr hq
def XOk (W : World) (x : NR) : Prop := x.ks.length = 7 ∧ ∀ s ∈ x.ks, SOk W s
theorem XOk.ok {W : World} {x : NR} (h : XOk W x) : x.ok W := ⟨h.1, fun s hs => (h.2 s hs).1⟩
theorem infoRT : (Try.prog.info? 55).map (fun i => (i.zero, i.size, i.bytes)) = some (some (.agg #[.string ByteArray.empty, .slice none 0 0, .slice none 0 0, .slice none 0 0, .slice none 0 0, .slice none 0 0, .slice none 0 0, .slice none 0 0]), 8, 184) := by kernel_rfl
theorem rowRT (n : Nat) (h : n = 8) : isRowT Try.prog 55 n := by subst h; exact ⟨by kernel_rfl, by kernel_rfl⟩
theorem six {W : World} {g r : Nat} (h : Blk W g [.string ⟨#[97]⟩, .string ⟨#[98]⟩, .string ⟨#[99]⟩, .string ⟨#[100]⟩, .string ⟨#[101]⟩, .string ⟨#[102]⟩] 9) (hr : r < 6) : ∃ s, W.cell? ⟨g, r, none⟩ = some (.string s) := by
  match r, hr with
  | 0, _ => exact ⟨_, h.cell 0 rfl⟩
  | 1, _ => exact ⟨_, h.cell 1 rfl⟩
  | 2, _ => exact ⟨_, h.cell 2 rfl⟩
  | 3, _ => exact ⟨_, h.cell 3 rfl⟩
  | 4, _ => exact ⟨_, h.cell 4 rfl⟩
  | 5, _ => exact ⟨_, h.cell 5 rfl⟩
set_option maxRecDepth 100000 in
set_option maxHeartbeats 4000000 in
theorem graphKnown_calls (w : World) : Calls Try.prog 6 #[] w fun e w' => e = .returned (.bool true) ∧ Ext w w' := by
  go_enter Try.func6, Try.ntmps6
  go_upto_region 3 with (fail)
  go_loopw [2, 1] (fun iv lv W => ∃ (i : Nat) (L : List NR) (B : Option Addr) (c : Nat), iv = .int .i64 i ∧ i ≤ 6 ∧ lv = .slice B i c ∧ L.length = i ∧ W.ownsRow w.heap.size 55 8 (.slice B i c) i (L.flatMap NR.cells) ∧ (∀ x ∈ L, XOk W x) ∧ Ext w W) (fun iv _ _ => 6 - (RowKit.intOf iv).toNat)
  case atStart => exact ⟨0, [], none, 0, rfl, by omega, rfl, rfl, World.ownsRow_nil _ _ _ _, (fun x hx => by cases hx), Ext.refl w⟩
  case round =>
    obtain ⟨i, L, B, c, rfl, hi, rfl, hL, hown, hok, hx⟩ := hrel
    have HL := Lib.hid hL
    have HOW := Lib.hid hown
    have HOK := Lib.hid hok
    have HOL := Lib.hid fun j (hj : (Value.slice B i c).ownBlock = some j) => (hown.lt j hj).1
    clear hL hown hok
    by_cases hlt : i < 6
    · have hlti : (i : Int) < 6 := by omega
      go_upto_region 6 with (fail)
      refine wp_gen (fun W => Blk W wr.heap.size [.string ⟨#[97]⟩, .string ⟨#[98]⟩, .string ⟨#[99]⟩, .string ⟨#[100]⟩, .string ⟨#[101]⟩, .string ⟨#[102]⟩] 9 ∧ Ext wr W) ⟨Blk.newAt wr _ _ _ rfl, (Ext.refl wr).alloc _⟩ ?_
      obtain ⟨N, hN⟩ : ∃ N, wr.heap.size = N := ⟨_, rfl⟩
      rw [hN]
      clear hN
      rintro W1 ⟨hb1, hx1⟩
      obtain ⟨nm, hnm⟩ := six hb1 hlt
      have HB1 := Lib.hid hb1
      go_upto_region 8 with (fail)
      refine wp_gen (fun W => Blk W W1.heap.size (NR.cells ⟨nm, List.replicate 7 nilK⟩) 55 ∧ Ext W1 W) ⟨Blk.newAt W1 _ _ _ rfl, (Ext.refl W1).alloc _⟩ ?_
      have hNq : N < W1.heap.size := hb1.lt
      obtain ⟨q, hq⟩ : ∃ q, W1.heap.size = q := ⟨_, rfl⟩
      rw [hq] at hNq ⊢
      have HQ := Lib.hid hq
      clear hq hb1 hnm
      rintro W2 ⟨hb2, hx2⟩
      go_loopw [5] (fun kv W => ∃ (k : Nat) (ks : List SK), kv = .int .i64 k ∧ k ≤ 7 ∧ ks.length = 7 ∧ Blk W q (NR.cells ⟨nm, ks⟩) 55 ∧ (∀ s ∈ ks, SOk W s) ∧ But q W1 W) (fun kv _ => 7 - (RowKit.intOf kv).toNat)
      case atStart => exact ⟨0, List.replicate 7 nilK, rfl, by omega, by simp, hb2, (fun s hs => by rw [(List.mem_replicate.1 hs).2]; exact ⟨.inl rfl, by simp [nilK], (fun a ha => by cases ha)⟩), (But.refl q W1).ext hx2⟩
      case round =>
        clear hb2 hx2
        obtain ⟨k, ks, rfl, hk, hk7, hb, hss, hbut⟩ := hrel
        have HK7 := Lib.hid hk7
        have HB := Lib.hid hb
        have HSS := Lib.hid hss
        have HBU := Lib.hid hbut
        clear hk7 hss
        by_cases hkt : k < 7
        · have hkti : (k : Int) < 7 := by omega
          obtain ⟨r1, hr1⟩ : ∃ r, (i + k) % 6 = r := ⟨_, rfl⟩
          obtain ⟨r2, hr2⟩ : ∃ r, (i * k + 1) % 6 = r := ⟨_, rfl⟩
          have hr1l : r1 < 6 := by omega
          have hr2l : r2 < 6 := by omega
          have hik : i * k ≤ 36 := Nat.le_trans (Nat.mul_le_mul (show i ≤ 6 by omega) (show k ≤ 6 by omega)) (by omega)
          have m1 : ((i : Int) + k).tmod 6 = (r1 : Int) := by rw [← hr1, Int.tmod_eq_emod_of_nonneg (by omega)]; omega
          have e2 : ((i : Int) * k) = ((i * k : Nat) : Int) := by simp
          have m2 : ((i : Int) * k + 1).tmod 6 = (r2 : Int) := by rw [e2, ← hr2, Int.tmod_eq_emod_of_nonneg (by omega)]; omega
          have b1 := hbut.blk HB1.out (by omega)
          obtain ⟨t1, f1⟩ := six b1 hr1l
          obtain ⟨t2, f2⟩ := six b1 hr2l
          obtain ⟨t3, f3⟩ := six b1 hlt
          have w1 : IntKind.i64.wrap ((i : Int) + k) = (i : Int) + k := IntWalk.i64_in _ (by omega)
          have w2 : IntKind.i64.wrap ((i : Int) * k) = (i : Int) * k := IntWalk.i64_in _ (by rw [e2]; omega)
          have w3 : IntKind.i64.wrap ((i : Int) * k + 1) = (i : Int) * k + 1 := IntWalk.i64_in _ (by rw [e2]; omega)
          have hr1i : (r1 : Int) < 6 := by omega
          have hr2i : (r2 : Int) < 6 := by omega
          clear hr1 hr2 e2 b1 hik hb
          have q1 : ∀ W, Ext wr W → W.cell? ⟨N, r1, none⟩ = some (.string t1) := fun W h => h.cell f1
          have q2 : ∀ W, Ext wr W → W.cell? ⟨N, r2, none⟩ = some (.string t2) := fun W h => h.cell f2
          have q3 : ∀ W, Ext wr W → W.cell? ⟨N, i, none⟩ = some (.string t3) := fun W h => h.cell f3
          clear f1 f2 f3
          go_upto_region 10 with (fail)
          refine wp_region_mix (fun W => Ext wr W) 30 [(0, true), (1, true), (2, true), (3, true), (4, true), (5, true), (6, true), (7, true), (8, true), (9, true), (10, true), (11, true), (12, true), (13, true), (14, true), (15, true), (16, true), (17, true), (18, true), (19, true), (20, true), (21, true), (22, true), (23, true), (24, true), (25, true), (26, true), (28, true), (27, false), (29, true), (30, false)] (by kernel_rfl) (by kernel_rfl) ((Ext.refl wr).drew) ?_
          iterate 28 (apply mix_read; (case ho => rfl); (case hw => rfl); (case h1 => intro W' hx; have q1' := q1 W' hx; have q2' := q2 W' hx; have q3' := q3 W' hx; go_simp; (try go_bits); with_reducible rfl); (case hp => go_simp; first | done | with_reducible rfl))
          clear q1 q2 q3 w1 w2 w3 m1 m2 hr1i hr2i
          refine mix_loud rfl ?_; intro KY hKY
          go_wp2_with fail
          refine ⟨(Ext.refl wr).drew.alloc _, ?_⟩
          (apply mix_read; (case ho => rfl); (case hw => rfl); (case h1 => intro W' hx; go_simp; (try go_bits); with_reducible rfl); (case hp => go_simp; first | done | with_reducible rfl))
          have hgq : q < wr.heap.size := HB.out.lt
          obtain ⟨old, hck⟩ : ∃ old, wr.cell? ⟨q, 1 + k, none⟩ = some old := ⟨_, HB.out.cell (1 + k) (List.getElem?_eq_getElem (show 1 + k < (NR.cells ⟨nm, ks⟩).length by simp [NR.cells, HK7.out]; omega))⟩
          have hfk := HB.out.frozen (1 + k)
          obtain ⟨v, hv⟩ : ∃ v, v = Value.slice (some ⟨wr.heap.size, 0, none⟩) 5 5 := ⟨_, rfl⟩
          have hya : Ext (wr.setCell ⟨q, 1 + k, none⟩ v) ((wr.setCell ⟨q, 1 + k, none⟩ v).alloc (.cells #[.string t1, .string t2, .string ⟨#[122]⟩, .string t3, .string t1] 9)).drew := ((Ext.refl _).alloc _).drew
          have hbs : Blk ((wr.setCell ⟨q, 1 + k, none⟩ v).alloc (.cells #[.string t1, .string t2, .string ⟨#[122]⟩, .string t3, .string t1] 9)).drew wr.heap.size [.string t1, .string t2, .string ⟨#[122]⟩, .string t3, .string t1] 9 := Blk.newAt (wr.setCell ⟨q, 1 + k, none⟩ v) _ _ _ (by rw [World.size_setCell])
          have hbk := (HB.out.set (1 + k) v).ext hya
          have hbt := (HBU.out.set (1 + k) v).ext hya
          have hss : ∀ s ∈ ks, SOk ((wr.setCell ⟨q, 1 + k, none⟩ v).alloc (.cells #[.string t1, .string t2, .string ⟨#[122]⟩, .string t3, .string t1] 9)).drew s := fun s hs => ((HSS.out s hs).but ((But.refl q wr).set (1 + k) v) HB.out).ext hya
          rw [hv] at hya hbs hbk hbt hss
          have HBS := Lib.hid hbs
          have HBK := Lib.hid hbk
          have HBT := Lib.hid hbt
          have HS2 := Lib.hid hss
          clear hv hya hbs hbk hbt hss
          refine mix_end 30 (by kernel_rfl) (by kernel_rfl) ?_; simp only [List.take_succ_cons, List.take_zero, List.drop_succ_cons, List.drop_zero]; unfold Q0
          go_upto_region 9 with (fail)
          go_wp2_with fail
          go_roundw
          case rel =>
            refine ⟨k + 1, ks.set k ⟨some ⟨wr.heap.size, 0, none⟩, 5, [t1, t2, ⟨#[122]⟩, t3, t1]⟩, by go_num, by omega, by rw [List.length_set]; exact HK7.out, ?_, fun s hs => ?_, HBT.out⟩
            · refine HBK.out.congr ?_
              unfold NR.cells
              simp only
              rw [Nat.add_comm 1 k, List.set_cons_succ, List.map_set]
              rfl
            · rcases List.mem_or_eq_of_mem_set hs with hs | rfl
              · exact HS2.out s hs
              · refine ⟨.inr ⟨_, 0, rfl, fun j v hv => ?_⟩, by simp, fun a ha => by cases ha; exact ⟨_, HBS.out⟩⟩
                rw [Nat.zero_add]
                exact HBS.out.cell j hv
          case measure => simp [RowKit.intOf]; omega
        · obtain rfl : k = 7 := by omega
          have ho1 := Owns.ext HOW.out hx1
          have ho2 : wr.ownsRow w.heap.size 55 8 (.slice B i c) i (L.flatMap NR.cells) := ho1.kept (But.grown HBU.out) (by
            cases hv : (Value.slice B i c).ownBlock with
            | none => exact .inl rfl
            | some j => exact .inr (fun e => by cases e; have := (ho1.lt _ hv).2; have := HQ.out; omega))
          have hL2 : ∀ x ∈ L, XOk wr x := fun x hm => ⟨(HOK.out x hm).1, fun s hs => (((HOK.out x hm).2 s hs).ext hx1).butNew HBU.out (by rw [HQ.out]; exact Nat.le_refl _)⟩
          have hx3 : Ext w wr := But.toExt (hx.trans hx1) HBU.out (by have := hx.size; have := hx1.size; have := HQ.out; omega)
          have HO2 := Lib.hid ho2
          have HL2 := Lib.hid hL2
          have HS7 := Lib.hid fun s hs => HSS.out s hs
          have hk7 := HK7.out
          clear ho1 ho2 hL2 HOW HOK HSS HK7 hx hx1
          match ks, hk7 with
          | [⟨A0, c0, s0⟩, ⟨A1, c1, s1⟩, ⟨A2, c2, s2⟩, ⟨A3, c3, s3⟩, ⟨A4, c4, s4⟩, ⟨A5, c5, s5⟩, ⟨A6, c6, s6⟩], _ =>
            have HBX := Lib.hid (show Blk wr q [.string nm, .slice A0 s0.length c0, .slice A1 s1.length c1, .slice A2 s2.length c2, .slice A3 s3.length c3, .slice A4 s4.length c4, .slice A5 s5.length c5, .slice A6 s6.length c6] 55 from hb)
            clear HB hb hk7
            obtain ⟨ii, h1, h2, h3, h4⟩ := info_parts infoRT
            have hbk := Blk.new wr [.string nm, .slice A0 s0.length c0, .slice A1 s1.length c1, .slice A2 s2.length c2, .slice A3 s3.length c3, .slice A4 s4.length c4, .slice A5 s5.length c5, .slice A6 s6.length c6] 55
            have hxa : Ext wr (wr.alloc (.cells #[.string nm, .slice A0 s0.length c0, .slice A1 s1.length c1, .slice A2 s2.length c2, .slice A3 s3.length c3, .slice A4 s4.length c4, .slice A5 s5.length c5, .slice A6 s6.length c6] 55)) := (Ext.refl wr).alloc _
            have HBK := Lib.hid hbk
            have HXA := Lib.hid hxa
            clear hbk hxa
            go_upto_region 4 with (first | refine wpList_load_blk (cs := [.string nm, .slice A0 s0.length c0, .slice A1 s1.length c1, .slice A2 s2.length c2, .slice A3 s3.length c3, .slice A4 s4.length c4, .slice A5 s5.length c5, .slice A6 s6.length c6]) rfl 55 (.tmp 4) rfl q rfl (rowRT 8 rfl) HBX.out ?_ | (refine wpList_append_row rfl (.tmp 51) (.tmp 53) 22 rfl w.heap.size 55 ii _ 8 184 Try.underlying22 h1 h2 h3 h4 rfl (by decide) (.slice B i c) i (L.flatMap NR.cells) rfl (Owns.ext HO2.out HXA.out) ⟨wr.heap.size, 0, none⟩ 1 1 [.string nm, .slice A0 s0.length c0, .slice A1 s1.length c1, .slice A2 s2.length c2, .slice A3 s3.length c3, .slice A4 s4.length c4, .slice A5 s5.length c5, .slice A6 s6.length c6] rfl rfl (fun j u hu => by rw [show (⟨wr.heap.size, 0, none⟩ : Addr).add j = ⟨wr.heap.size, j, none⟩ by unfold Addr.add; split <;> simp_all]; exact HBK.out.cell j hu) (by intro u hu; simp only [List.mem_cons, List.not_mem_nil, or_false] at hu; rcases hu with h | h | h | h | h | h | h | h <;> rw [h] <;> rfl) (by omega) (by unfold maxLen; omega) (by omega) (Nat.le_trans hx3.size HXA.out.size) ?_; intro v' W5 o9 g9 s9))
            have o9' : W5.ownsRow w.heap.size 55 8 v' (i + 1) ((L ++ [(⟨nm, [⟨A0, c0, s0⟩, ⟨A1, c1, s1⟩, ⟨A2, c2, s2⟩, ⟨A3, c3, s3⟩, ⟨A4, c4, s4⟩, ⟨A5, c5, s5⟩, ⟨A6, c6, s6⟩]⟩ : NR)]).flatMap NR.cells) := by
              rw [List.flatMap_append]
              exact o9
            obtain ⟨B5, d5, rfl⟩ : ∃ B5 c5, v' = .slice B5 (i + 1) c5 := by
              rcases o9.2 with ⟨rfl, h⟩ | ⟨g, cap, cur, rfl, _⟩
              · omega
              · exact ⟨_, _, rfl⟩
            have hx5 : Ext w W5 := Grown.toExt (hx3.trans HXA.out) g9 (fun j hj => HOL.out j hj)
            have hrow : ∀ g, (Value.slice B i c).ownBlock = some g → (∃ cs, Blk (wr.alloc (.cells #[.string nm, .slice A0 s0.length c0, .slice A1 s1.length c1, .slice A2 s2.length c2, .slice A3 s3.length c3, .slice A4 s4.length c4, .slice A5 s5.length c5, .slice A6 s6.length c6] 55)) g cs 55) ∨ (wr.alloc (.cells #[.string nm, .slice A0 s0.length c0, .slice A1 s1.length c1, .slice A2 s2.length c2, .slice A3 s3.length c3, .slice A4 s4.length c4, .slice A5 s5.length c5, .slice A6 s6.length c6] 55)).heap.size ≤ g := fun g hg => by
              rcases HO2.out.2 with ⟨he, _⟩ | ⟨g', cap', cur, he, _, hgb, _⟩
              · rw [he] at hg
                cases hg
              · rw [he] at hg
                cases hg
                exact .inl ⟨cur.toList, (show Blk wr g' cur.toList 55 from hgb).ext HXA.out⟩
            have hL5 : ∀ x ∈ L ++ [(⟨nm, [⟨A0, c0, s0⟩, ⟨A1, c1, s1⟩, ⟨A2, c2, s2⟩, ⟨A3, c3, s3⟩, ⟨A4, c4, s4⟩, ⟨A5, c5, s5⟩, ⟨A6, c6, s6⟩]⟩ : NR)], XOk W5 x := fun x hm => by
              rcases List.mem_append.1 hm with hm | hm
              · exact ⟨(HL2.out x hm).1, fun s hs => (((HL2.out x hm).2 s hs).ext HXA.out).kept g9 hrow⟩
              · rw [List.mem_singleton.1 hm]
                exact ⟨rfl, fun s hs => ((HS7.out s hs).ext HXA.out).kept g9 hrow⟩
            have HO5 := Lib.hid o9'
            have HL5 := Lib.hid hL5
            clear o9 o9' hL5 hrow g9 s9
            go_wp2_with fail
            go_roundw
            case rel => exact ⟨i + 1, _, B5, d5, by go_num, by omega, rfl, by rw [List.length_append, HL.out]; rfl, HO5.out, HL5.out, hx5⟩
            case measure => simp [RowKit.intOf]; omega
    · have hi6 : i = 6 := by omega
      have hlti : ¬ (i : Int) < 6 := by omega
      have ho := HOW.out
      have hL6 := HL.out
      obtain ⟨g, cap, he, hcap, hrd⟩ : ∃ g cap, Value.slice B i c = .slice (some ⟨g, 0, none⟩) i cap ∧ i ≤ cap ∧ RdN wr (some ⟨g, 0, none⟩) L := by
        rcases ho.2 with ⟨he, h0⟩ | ⟨g, cap, cur, he, _, hb, hn, _⟩
        · omega
        · refine ⟨g, cap, he, hn, ?_, fun x hm => (HOK.out x hm).ok⟩
          have ho' : wr.ownsRow w.heap.size 55 8 (.slice B i c) L.length (L.flatMap NR.cells) := by rw [hL6]; exact ho
          obtain ⟨A1, c1, he1, h1⟩ := OwnsK.rd NR.cells L (fun x hm => by simp [NR.cells, (HOK.out x hm).1]) (by decide) ho'
          rw [he1] at he
          cases he
          exact h1.imp id fun ⟨b, o, q1, _, q2⟩ => ⟨b, o, q1, q2⟩
      cases he
      have take : ∀ n, n ≤ 6 → RdN wr (some ⟨g, 0, none⟩) (L.take n) ∧ Long (L.take n) ∧ (L.take n).length = n := fun n hn => by
        have hl : (L.take n).length = n := by rw [List.length_take]; omega
        refine ⟨⟨?_, fun x hm => hrd.2 x (List.mem_of_mem_take hm)⟩, ⟨by omega, fun x hm s hs => by have := ((HOK.out x (List.mem_of_mem_take hm)).2 s hs).2.1; omega⟩, hl⟩
        rcases hrd.1 with h | ⟨b, o, hA, h⟩
        · exact .inl (by rw [h]; simp)
        · exact .inr ⟨b, o, hA, fun j x hj => h j x (by rw [List.getElem?_take] at hj; split at hj; exact hj; cases hj)⟩
      have HGO := Lib.hid fun W (hw : Ext wr W) n (hn : n ≤ 6) => (show Calls Try.prog 3 #[.slice (some ⟨g, 0, none⟩) n c] W fun e w' => e = .returned (.bool true) ∧ Ext W w' from by
        obtain ⟨h1, h2, h3⟩ := take n hn
        have := graphOf_calls (L.take n) (some ⟨g, 0, none⟩) c W (h1.ext hw) h2
        rwa [h3] at this)
      have HGT := Lib.hid fun W (hw : Ext wr W) n (hn : n ≤ 6) => (show Calls Try.prog 5 #[.slice (some ⟨g, 0, none⟩) n c] W fun e w' => e = .returned (.bool true) ∧ Ext W w' from by
        obtain ⟨h1, h2, h3⟩ := take n hn
        have := graphTurned_calls (L.take n) (some ⟨g, 0, none⟩) c W (h1.ext hw) h2
        rwa [h3] at this)
      have HGA := Lib.hid fun W (hw : Ext wr W) n (hn : n ≤ 6) a b => (show Calls Try.prog 4 #[.slice (some ⟨g, 0, none⟩) n c, .int .i64 a, .int .i64 b] W fun e w' => e = .returned (.bool true) ∧ Ext W w' from by
        obtain ⟨h1, h2, h3⟩ := take n hn
        have := graphAhead_calls (L.take n) (some ⟨g, 0, none⟩) c a b W (h1.ext hw) h2
        rwa [h3] at this)
      have HI := Lib.hid hi6
      have hc6 : 6 ≤ c := by omega
      clear take hrd ho hL6 hi6 HOW HOK HL HOL hcap hlt hi
      have hi' : (6 : Int) ≤ i := by have := HI.out; omega
      go_upto_region 13 with (fail)
      go_loopw [6] (fun nv W => ∃ n : Nat, nv = .int .i64 n ∧ n ≤ 7 ∧ Ext wr W) (fun nv _ => 7 - (RowKit.intOf nv).toNat)
      case atStart => exact ⟨0, rfl, by omega, Ext.refl _⟩
      case round =>
        obtain ⟨n, rfl, hn, hy⟩ := hrel
        by_cases hnt : n ≤ 6
        · have hnti : (n : Int) ≤ 6 := by omega
          have hnc : (n : Int) ≤ c := by omega
          have hn0 : (0 : Int) ≤ n := by omega
          go_upto_region 14 with (first | (go_at_call 3; refine (HGO.out _ hy n hnt).mono ?_; rintro e V1 ⟨rfl, y1⟩) | (go_at_call 5; refine (HGT.out _ (hy.trans y1) n hnt).mono ?_; rintro e V2 ⟨rfl, y2⟩) | (go_at_call 4; refine (HGA.out _ ((hy.trans y1).trans y2) n hnt _ _).mono ?_; rintro e V3 ⟨rfl, y3⟩))
          have hy3 := ((hy.trans y1).trans y2).trans y3
          clear hy y1 y2 y3
          go_wp2_with fail
          go_roundw
          case rel => exact ⟨n + 1, by go_num, by omega, hy3⟩
          case measure => simp [RowKit.intOf]; omega
        · have hnti : ¬ (n : Int) ≤ 6 := by omega
          have HXY := Lib.hid (hx.trans hy)
          have hgr : ∀ W, GR W nil10 [] [] := fun W => ⟨none, 0, [], none, 0, [], rfl, rfl, rfl, ⟨.inl rfl, fun r hr => by cases hr⟩, ⟨.inl rfl, fun r hr => by cases hr⟩, rfl, rfl, (fun r hr => by cases hr), (fun r hr => by cases hr), by simp, by simp⟩
          have HGR := Lib.hid fun W => gahead_calls nil10 [] [] 0 0 W (hgr W)
          have hlast : ∀ W h, Blk W h [.string ⟨#[]⟩] 9 → Blk W (h + 1) [.string ⟨#[]⟩, .slice (some ⟨h, 0, none⟩) 1 1, .slice none 0 0, .slice none 0 0, .slice none 0 0, .slice none 0 0, .slice none 0 0, .slice none 0 0] 55 → Calls Try.prog 3 #[.slice (some ⟨h + 1, 0, none⟩) 1 1] W fun e w' => e = .returned (.bool true) ∧ Ext W w' := fun W h b1 b2 => by
            refine graphOf_calls [⟨⟨#[]⟩, [⟨some ⟨h, 0, none⟩, 1, [⟨#[]⟩]⟩, nilK, nilK, nilK, nilK, nilK, nilK]⟩] (some ⟨h + 1, 0, none⟩) 1 W ⟨.inr ⟨_, 0, rfl, fun j x hj i v hv => ?_⟩, fun x hx => ?_⟩ ⟨by simp, fun x hx s hs => ?_⟩
            · match j with
              | 0 =>
                cases hj
                rw [Nat.zero_mul, Nat.zero_add]
                exact b2.cell _ hv
              | j + 1 => cases hj
            · rw [List.mem_singleton.1 hx]
              refine ⟨rfl, fun s hs => ?_⟩
              rcases List.mem_cons.1 hs with rfl | hs
              · exact .inr ⟨h, 0, rfl, fun j v hv => by rw [Nat.zero_add]; exact b1.cell j hv⟩
              · have : s = nilK := by simp only [List.mem_cons, List.not_mem_nil, or_false, or_self] at hs; exact hs
                rw [this]
                exact .inl rfl
            · rw [List.mem_singleton.1 hx] at hs
              rcases List.mem_cons.1 hs with rfl | hs
              · simp
              · have : s = nilK := by simp only [List.mem_cons, List.not_mem_nil, or_false, or_self] at hs; exact hs
                rw [this]
                simp [nilK]
          have HLA := Lib.hid hlast
          clear hlast hgr hx hy HGO HGT HGA
          go_wp2_with (first | (go_at_call 19; refine (HGR.out _).mono ?_; rintro e V1 ⟨rfl, y1⟩; rw [show upB [] [] 0 0 = false from rfl]) | (go_at_call 3; refine (HLA.out _ V1.heap.size ((Blk.newAt V1 [.string ⟨#[]⟩] 9 _ rfl).alloc _) (Blk.newAt _ [.string ⟨#[]⟩, .slice (some ⟨V1.heap.size, 0, none⟩) 1 1, .slice none 0 0, .slice none 0 0, .slice none 0 0, .slice none 0 0, .slice none 0 0, .slice none 0 0] 55 _ (by simp))).mono ?_; rintro e V2 ⟨rfl, y2⟩) | (go_at_call 12; refine (works_calls _).mono ?_; rintro e V3 ⟨rfl, y3⟩))
          go_ret
          exact ⟨rfl, ((HXY.out.trans y1).trans (((Ext.refl _).alloc _).alloc _)).trans (y2.trans y3)⟩
end Go.Proofs.Ytdpfppibbnjemaa
