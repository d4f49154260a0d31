/- Chapter 19: table and plain: units laid anew. -/
import Derived.Test.YtdpfppibbnjemaaNRef
import Derived.Test.YtdpfppibbnjemaaUnits
namespace Go.Proofs.Ytdpfppibbnjemaa
open Go.RowKit Go.Shelf
set_option linter.unusedVariables false
set_option linter.unusedSimpArgs false
theorem flatMap_get {α : Type} {k : Nat} (enc : α → List Value) : ∀ (l : List α), (∀ x ∈ l, (enc x).length = k) → ∀ (j : Nat) (x : α), l[j]? = some x → ∀ i, i < k → (l.flatMap enc)[j * k + i]? = (enc x)[i]?
  | [], _, j, x, h, _, _ => by simp at h
  | y :: l, hk, j, x, h, i, hi => by
    rw [List.flatMap_cons]
    have hy := hk y List.mem_cons_self
    cases j with
    | zero =>
      simp only [List.getElem?_cons_zero, Option.some.injEq] at h
      subst h
      rw [Nat.zero_mul, Nat.zero_add, List.getElem?_append_left (by omega)]
    | succ j =>
      rw [List.getElem?_cons_succ] at h
      rw [List.getElem?_append_right (by rw [hy, Nat.succ_mul]; omega), hy, show (j + 1) * k + i - k = j * k + i by rw [Nat.succ_mul]; omega]
      exact flatMap_get enc l (fun x hx => hk x (List.mem_cons_of_mem _ hx)) j x h i hi
theorem flatMap_length {α : Type} {k : Nat} (enc : α → List Value) : ∀ (l : List α), (∀ x ∈ l, (enc x).length = k) → (l.flatMap enc).length = l.length * k
  | [], _ => by simp
  | y :: l, hk => by
    rw [List.flatMap_cons, List.length_append, hk y List.mem_cons_self, flatMap_length enc l fun x hx => hk x (List.mem_cons_of_mem _ hx), List.length_cons, Nat.succ_mul]
    omega
/-- A row that is owned reads, record by record. -/
theorem OwnsK.rd {α : Type} {k base : Nat} {e : TypeId} {v : Value} {w : World} (enc : α → List Value) (l : List α) (hk : ∀ x ∈ l, (enc x).length = k) (hk0 : 0 < k) (h : w.ownsRow base e k v l.length (l.flatMap enc)) :
    ∃ A cap, v = .slice A l.length cap ∧ (l = [] ∨ ∃ b o, A = some ⟨b, o, none⟩ ∧ base ≤ b ∧ ∀ (j : Nat) (x : α), l[j]? = some x → Rng w b (o + j * k) (enc x)) := by
  obtain ⟨hl, h⟩ := h
  rcases h with ⟨rfl, h0⟩ | ⟨g, cap, cur, rfl, hb, hg, hn, _, hs, ht⟩
  · have : l = [] := List.eq_nil_of_length_eq_zero h0
    subst this
    exact ⟨none, 0, rfl, .inl rfl⟩
  · refine ⟨_, cap, rfl, .inr ⟨g, 0, rfl, hb, fun j x hj i u hu => ?_⟩⟩
    have hx := hk x (List.mem_of_getElem? hj)
    have hi : i < k := by rw [← hx]; exact (List.getElem?_eq_some_iff.1 hu).1
    have hjl := (List.getElem?_eq_some_iff.1 hj).1
    have h1 := flatMap_get enc l hk j x hj i hi
    rw [hu, ← ht, List.getElem?_take] at h1
    split at h1
    · rw [Nat.zero_add, cell_of_row w g _ cur e (0, 0) hg]
      simpa using h1
    · cases h1
theorem infoNT : (Try.prog.info? 91).map (fun i => (i.zero, i.size, i.bytes)) = some (some (.agg #[.string ByteArray.empty, .slice none 0 0, .slice none 0 0, .slice none 0 0, .slice none 0 0, .slice none 0 0, .slice none 0 0, .slice none 0 0]), 8, 184) := by kernel_rfl
def luRest : List Value := [.bool false, .int .i64 0, .int .i64 0, .int .u8 0, .bool false, .int .u8 0, .int .i64 0, .int .i64 0, .int .i64 0, .slice none 0 0, .slice none 0 0, .int .i64 0, .int .i64 0, .bool false, .bool false, .bool false, .string ByteArray.empty]
theorem infoUT : ∃ i z b, Try.prog.info? 50 = some i ∧ i.zero = some z ∧ i.size = 26 ∧ i.bytes = b ∧ z.cells.size = 26 ∧ b ≤ 1000 := by
  have h : (Try.prog.info? 50).map (fun i => (i.zero.map fun z => z.cells.size, i.size, decide (i.bytes ≤ 1000))) = some (some 26, 26, true) := by kernel_rfl
  cases hi : Try.prog.info? 50 with
  | none => rw [hi] at h; cases h
  | some i =>
    rw [hi] at h
    simp only [Option.map_some, Option.some.injEq, Prod.mk.injEq] at h
    cases hz : i.zero with
    | none => rw [hz] at h; cases h.1
    | some z => rw [hz] at h; exact ⟨i, z, i.bytes, rfl, hz, h.2.1, rfl, by simpa using h.1, by simpa using h.2.2⟩
/-- The unit that table makes. -/
def luCells (x : NR) : List Value := .int .u8 0 :: ((x.ks.map SK.val ++ List.replicate 7 (Value.slice none 0 0)).take 7 ++ luRest)
def luOf (x : NR) : LU := ⟨x.name, luCells x, by simp [luCells, luRest], by
  unfold luCells
  rw [List.all_eq_true]
  intro v hv
  rcases List.mem_cons.1 hv with rfl | hv
  · rfl
  · rcases List.mem_append.1 hv with hv | hv
    · have hv := List.mem_of_mem_take hv
      rcases List.mem_append.1 hv with hv | hv
      · obtain ⟨s, _, rfl⟩ := List.mem_map.1 hv; rfl
      · rw [(List.mem_replicate.1 hv).2]; rfl
    · simp only [luRest, List.mem_cons, List.not_mem_nil, or_false] at hv
      rcases hv with h | h | h | h | h | h | h | h | h | h | h | h | h | h | h | h | h <;> rw [h] <;> rfl⟩
theorem seven {W : World} {nm : ByteArray} {ks : List SK} (h : NR.ok W ⟨nm, ks⟩) : ∃ s0 s1 s2 s3 s4 s5 s6, ks = [s0, s1, s2, s3, s4, s5, s6] := by
  have := h.1
  match ks, this with
  | [s0, s1, s2, s3, s4, s5, s6], _ => exact ⟨_, _, _, _, _, _, _, rfl⟩
set_option maxRecDepth 100000 in
set_option maxHeartbeats 4000000 in
theorem plain_calls (l : List NR) (A : Option Addr) (cap : Nat) (w : World) (hr : RdN w A l) (hlen : l.length ≤ 1000) :
    Calls Try.prog 15 #[.slice A l.length cap] w fun e w' => ∃ B c, e = .returned (.slice B l.length c) ∧ RdN w' B l ∧ Ext w w' := by
  go_enter Try.func15, Try.ntmps15
  go_upto_region 3 with (fail)
  go_loopw [4, 3] (fun iv ov W => ∃ (i : Nat) (B : Option Addr) (c : Nat), iv = .int .i64 i ∧ ov = .slice B i c ∧ i ≤ l.length ∧ W.ownsRow w.heap.size 91 8 (.slice B i c) i ((l.take i).flatMap NR.cells) ∧ Ext w W) (fun iv _ _ => l.length - (RowKit.intOf iv).toNat)
  case atStart => exact ⟨0, none, 0, rfl, rfl, by omega, World.ownsRow_nil _ _ _ _, Ext.refl w⟩
  case round =>
    obtain ⟨i, B, c, rfl, rfl, hi, hown, hx⟩ := hrel
    by_cases hlt : i < l.length
    · have hlti : (i : Int) < l.length := by omega
      obtain ⟨b, o, nm, ks, rfl, hli, hnm, hks, hrg, hok⟩ := (hr.ext hx).at hlt
      obtain ⟨s0, s1, s2, s3, s4, s5, s6, rfl⟩ := seven hok
      have HTK := Lib.hid (show l.take (i + 1) = l.take i ++ [⟨nm, [s0, s1, s2, s3, s4, s5, s6]⟩] by rw [List.take_succ_eq_append_getElem hlt]; congr 2; exact (List.getElem?_eq_some_iff.1 hli).2)
      have hr1 : Rng wr b (o + i * 8 + 1) [s0.val, s1.val, s2.val, s3.val, s4.val, s5.val, s6.val] := fun k v hv => by
        have := hrg (k + 1) v hv
        rwa [Nat.add_assoc (o + i * 8) 1 k, Nat.add_comm 1 k]
      have hrr : ∀ W, Ext wr W → Rng W b (o + i * 8 + 1) [s0.val, s1.val, s2.val, s3.val, s4.val, s5.val, s6.val] := fun W h => hr1.ext h
      have hnn : ∀ W, Ext wr W → W.cell? ⟨b, o + i * 8, none⟩ = some (.string nm) := fun W h => h.cell hnm
      have HOW := Lib.hid hown
      have HOL := Lib.hid fun j (hj : (Value.slice B i c).ownBlock = some j) => (hown.lt j hj).1
      have hR7 : isRowT Try.prog 53 7 := ⟨by kernel_rfl, by kernel_rfl⟩
      have HRR := Lib.hid hrr
      have HR7 := Lib.hid hR7
      clear hli hks hrg hok hown hr1 hrr hR7
      obtain ⟨A0, c0, t0⟩ := s0
      obtain ⟨A1, c1, t1⟩ := s1
      obtain ⟨A2, c2, t2⟩ := s2
      obtain ⟨A3, c3, t3⟩ := s3
      obtain ⟨A4, c4, t4⟩ := s4
      obtain ⟨A5, c5, t5⟩ := s5
      obtain ⟨A6, c6, t6⟩ := s6
      simp only [SK.val] at HRR
      go_upto_region 5 with (fail)
      refine wp_region_mix (fun W => Ext wr W) 13 [(0, true), (1, true), (2, true), (3, true), (4, true), (5, true), (6, true), (7, true), (8, true), (9, true), (10, true), (11, true), (12, false), (13, false), (14, false)] (by kernel_rfl) (by kernel_rfl) ((Ext.refl wr).drew) ?_
      iterate 10 (apply mix_read; (case ho => rfl); (case hw => rfl); (case h1 => intro W' hx; have hnn' := hnn W' hx; go_simp; (try go_bits); with_reducible rfl); (case hp => go_simp; first | done | with_reducible rfl))
      (apply mix_read; (case ho => rfl); (case hw => rfl); (case h1 => intro W' hx; exact exec_load_rng rfl rfl HR7.out (HRR.out W' hx)); (case hp => go_simp; first | done | with_reducible rfl))
      iterate 1 (apply mix_read; (case ho => rfl); (case hw => rfl); (case h1 => intro W' hx; go_simp; (try go_bits); with_reducible rfl); (case hp => go_simp; first | done | with_reducible rfl))
      refine mix_loud rfl ?_; intro KY hKY
      go_wp2_with fail
      refine ⟨(Ext.refl wr).drew.alloc _, ?_⟩
      refine mix_end 13 (by kernel_rfl) (by kernel_rfl) ?_; simp only [List.take_succ_cons, List.take_zero, List.drop_succ_cons, List.drop_zero]; unfold Q0
      obtain ⟨ii, h1, h2, h3, h4⟩ := info_parts infoNT
      have hx2 : Ext wr (wr.drew.alloc (.cells #[.string nm, .slice A0 t0.length c0, .slice A1 t1.length c1, .slice A2 t2.length c2, .slice A3 t3.length c3, .slice A4 t4.length c4, .slice A5 t5.length c5, .slice A6 t6.length c6] 91)) := (Ext.refl wr).drew.alloc _
      have hbk := Blk.new wr.drew [.string nm, .slice A0 t0.length c0, .slice A1 t1.length c1, .slice A2 t2.length c2, .slice A3 t3.length c3, .slice A4 t4.length c4, .slice A5 t5.length c5, .slice A6 t6.length c6] 91
      have htl := List.length_take_le i l
      refine wpList_append_row rfl (.tmp 11) (.tmp 23) 33 rfl w.heap.size 91 ii _ 8 184 Try.underlying33 h1 h2 h3 h4 rfl (by decide) (.slice B i c) i ((l.take i).flatMap NR.cells) rfl (Owns.ext HOW.out hx2) ⟨wr.heap.size, 0, none⟩ 1 1 [.string nm, .slice A0 t0.length c0, .slice A1 t1.length c1, .slice A2 t2.length c2, .slice A3 t3.length c3, .slice A4 t4.length c4, .slice A5 t5.length c5, .slice A6 t6.length c6] rfl rfl (fun j u hu => by rw [show (⟨wr.heap.size, 0, none⟩ : Addr).add j = ⟨wr.heap.size, j, none⟩ by unfold Addr.add; split <;> simp_all]; exact hbk.cell j hu) (by intro u hu; simp only [List.mem_cons, List.not_mem_nil, or_false] at hu; rcases hu with h | h | h | h | h | h | h | h <;> rw [h] <;> rfl) (by omega) (by unfold maxLen; omega) (by omega) (Nat.le_trans hx.size hx2.size) ?_
      intro v' W5 o5 g5 s5
      have o5' : W5.ownsRow w.heap.size 91 8 v' (i + 1) ((l.take (i + 1)).flatMap NR.cells) := by
        rw [HTK.out, List.flatMap_append]
        exact o5
      obtain ⟨B5, c5, rfl⟩ : ∃ B5 c5, v' = .slice B5 (i + 1) c5 := by
        rcases o5.2 with ⟨rfl, h⟩ | ⟨g, cap, cur, rfl, _⟩
        · omega
        · exact ⟨_, _, rfl⟩
      have hx5 : Ext w W5 := Grown.toExt (hx.trans hx2) g5 (fun j hj => HOL.out j hj)
      clear o5 g5 s5 hbk HRR hnn HOW HOL
      go_wp2_with fail
      go_roundw
      case rel => exact ⟨i + 1, B5, c5, by go_num, rfl, by omega, o5', hx5⟩
      case measure => simp [RowKit.intOf]; omega
    · obtain rfl : i = l.length := by omega
      rw [List.take_length] at hown
      obtain ⟨B1, c1, he, hrd⟩ := OwnsK.rd NR.cells l (fun x hx => by simp [NR.cells, (hr.2 x hx).1]) (by decide) hown
      cases he
      go_wp2_with fail
      go_ret
      exact ⟨B, c, rfl, ⟨hrd.imp id fun ⟨b, o, h1, _, h2⟩ => ⟨b, o, h1, h2⟩, fun x hm => (hr.2 x hm).ext hx⟩, hx⟩
set_option maxRecDepth 100000 in
set_option maxHeartbeats 4000000 in
theorem table_calls (l : List NR) (A : Option Addr) (cap : Nat) (w : World) (hr : RdN w A l) (hlen : l.length ≤ 1000) :
    Calls Try.prog 13 #[.slice A l.length cap] w fun e w' => ∃ B c, e = .returned (.agg #[.slice B l.length c]) ∧ RdU w' B (l.map luOf) ∧ Ext w w' := by
  have HR7 := Lib.hid (show isRowT Try.prog 53 7 from ⟨by kernel_rfl, by kernel_rfl⟩)
  go_enter Try.func13, Try.ntmps13
  go_upto_region 3 with (fail)
  refine wp_gen (fun W => Blk W (w.heap.size + 1) [.slice none 0 0] 27 ∧ Blk W w.heap.size [.slice none 0 0] 27 ∧ Ext w W ∧ W.heap.size = w.heap.size + 2) ⟨Blk.newAt _ _ _ _ (by simp), (Blk.newAt w _ _ _ rfl).ext ((Ext.refl _).alloc _), ((Ext.refl w).alloc _).alloc _, by simp⟩ ?_
  obtain ⟨T, hT⟩ : ∃ T, w.heap.size = T := ⟨_, rfl⟩
  rw [hT]
  rintro W0 ⟨ht, hb0, hx0, hz0⟩
  have HB0 := Lib.hid hb0
  have HBT0 := Lib.hid ht
  have hz0' : W0.heap.size ≤ T + 2 := by omega
  have hz1' : T + 2 ≤ W0.heap.size := by omega
  clear hz0 hb0 ht
  go_loopw [4] (fun iv W => ∃ (i : Nat) (B : Option Addr) (c : Nat), iv = .int .i64 i ∧ i ≤ l.length ∧ Blk W (T + 1) [.slice B i c] 27 ∧ W.ownsRow (T + 2) 50 26 (.slice B i c) i ((l.take i).flatMap fun x => (luOf x).cells) ∧ But (T + 1) W0 W) (fun iv _ => l.length - (RowKit.intOf iv).toNat)
  case atStart => exact ⟨0, none, 0, rfl, by omega, HBT0.out, World.ownsRow_nil _ _ _ _, But.refl _ _⟩
  case round =>
    obtain ⟨i, B, c, rfl, hi, hbt, hown, hbut⟩ := hrel
    have hxw : Ext w wr := But.toExt hx0 hbut (by omega)
    by_cases hlt : i < l.length
    · have hlti : (i : Int) < l.length := by omega
      obtain ⟨b, o, nm, ks, rfl, hli, hnm, hks, hrg, hok⟩ := (hr.ext hxw).at hlt
      obtain ⟨s0, s1, s2, s3, s4, s5, s6, rfl⟩ := seven hok
      have HTK := Lib.hid (show l.take (i + 1) = l.take i ++ [⟨nm, [s0, s1, s2, s3, s4, s5, s6]⟩] by rw [List.take_succ_eq_append_getElem hlt]; congr 2; exact (List.getElem?_eq_some_iff.1 hli).2)
      have hr1 : Rng wr b (o + i * 8 + 1) [s0.val, s1.val, s2.val, s3.val, s4.val, s5.val, s6.val] := fun k v hv => by
        have := hrg (k + 1) v hv
        rwa [Nat.add_assoc (o + i * 8) 1 k, Nat.add_comm 1 k]
      have HOW := Lib.hid hown
      have HOL := Lib.hid fun j (hj : (Value.slice B i c).ownBlock = some j) => (hown.lt j hj).1
      have HBT := Lib.hid hbt
      have HR1 := Lib.hid hr1
      have hct := hbt.cell 0 rfl
      have HBU := Lib.hid hbut
      have HLO := Lib.hid hok
      clear hli hks hrg hok hown hr1 hbt hbut
      obtain ⟨A0, c0, t0⟩ := s0
      obtain ⟨A1, c1, t1⟩ := s1
      obtain ⟨A2, c2, t2⟩ := s2
      obtain ⟨A3, c3, t3⟩ := s3
      obtain ⟨A4, c4, t4⟩ := s4
      obtain ⟨A5, c5, t5⟩ := s5
      obtain ⟨A6, c6, t6⟩ := s6
      simp only [SK.val] at HR1
      have g0 := HR1.out 0 _ rfl
      have g1 := HR1.out 1 _ rfl
      have g2 := HR1.out 2 _ rfl
      have g3 := HR1.out 3 _ rfl
      have g4 := HR1.out 4 _ rfl
      have g5 := HR1.out 5 _ rfl
      have g6 := HR1.out 6 _ rfl
      rw [Nat.add_zero] at g0
      go_upto_region 6 with (fail)
      clear g0 g1 g2 g3 g4 g5 g6
      refine wp_gen (fun W => Blk W wr.heap.size [.slice A0 t0.length c0, .slice A1 t1.length c1, .slice A2 t2.length c2, .slice A3 t3.length c3, .slice A4 t4.length c4, .slice A5 t5.length c5, .slice A6 t6.length c6] 53 ∧ Ext wr W) ⟨Blk.newAt wr _ _ _ rfl, (Ext.refl wr).alloc _⟩ ?_
      rintro W2 ⟨hb2, hx2⟩
      have hsz : wr.heap.size < W2.heap.size := hb2.lt
      have d0 := hx2.cell hct
      have d1 := hx2.cell hnm
      have e0 := hb2.cell 0 rfl
      have e1 := hb2.cell 1 rfl
      have e2 := hb2.cell 2 rfl
      have e3 := hb2.cell 3 rfl
      have e4 := hb2.cell 4 rfl
      have e5 := hb2.cell 5 rfl
      have e6 := hb2.cell 6 rfl
      have HX2 := Lib.hid hx2
      clear hb2 hct hnm hx2
      obtain ⟨q, hq⟩ : ∃ q, wr.heap.size = q := ⟨_, rfl⟩
      rw [hq] at e0 e1 e2 e3 e4 e5 e6 ⊢
      have HQ := Lib.hid hq
      clear hq
      refine wp_region_mix (fun W => Ext W2 W) 25 [(0, true), (1, true), (2, true), (3, true), (4, true), (5, true), (6, true), (7, true), (8, true), (9, true), (10, true), (11, true), (12, true), (13, true), (14, true), (15, true), (16, true), (17, true), (18, true), (19, true), (20, true), (21, true), (22, true), (23, true), (24, false), (25, false), (26, false), (27, false)] (by kernel_rfl) (by kernel_rfl) ((Ext.refl W2).drew) ?_
      iterate 24 (apply mix_read; (case ho => rfl); (case hw => rfl); (case h1 => intro W' hx; have d0' := Ext.cell hx d0; have d1' := Ext.cell hx d1; have e0' := Ext.cell hx e0; have e1' := Ext.cell hx e1; have e2' := Ext.cell hx e2; have e3' := Ext.cell hx e3; have e4' := Ext.cell hx e4; have e5' := Ext.cell hx e5; have e6' := Ext.cell hx e6; go_simp; (try go_bits); with_reducible rfl); (case hp => go_simp; first | done | with_reducible rfl))
      refine mix_loud rfl ?_; intro KY hKY
      go_wp2_with fail
      refine ⟨(Ext.refl W2).drew.alloc _, ?_⟩
      refine mix_end 25 (by kernel_rfl) (by kernel_rfl) ?_; simp only [List.take_succ_cons, List.take_zero, List.drop_succ_cons, List.drop_zero]; unfold Q0
      obtain ⟨ii, z, bb, h1, h2, h3, h4, h5, h6⟩ := infoUT
      have hxa : Ext W2 (W2.drew.alloc (.cells ((luOf ⟨nm, [⟨A0, c0, t0⟩, ⟨A1, c1, t1⟩, ⟨A2, c2, t2⟩, ⟨A3, c3, t3⟩, ⟨A4, c4, t4⟩, ⟨A5, c5, t5⟩, ⟨A6, c6, t6⟩]⟩).cells).toArray 50)) := (Ext.refl W2).drew.alloc _
      have hbk := Blk.new W2.drew (luOf ⟨nm, [⟨A0, c0, t0⟩, ⟨A1, c1, t1⟩, ⟨A2, c2, t2⟩, ⟨A3, c3, t3⟩, ⟨A4, c4, t4⟩, ⟨A5, c5, t5⟩, ⟨A6, c6, t6⟩]⟩).cells 50
      have hone := (luOf ⟨nm, [⟨A0, c0, t0⟩, ⟨A1, c1, t1⟩, ⟨A2, c2, t2⟩, ⟨A3, c3, t3⟩, ⟨A4, c4, t4⟩, ⟨A5, c5, t5⟩, ⟨A6, c6, t6⟩]⟩).cells_one
      have hsz2 := HX2.out.size
      have hlow := HB0.out.lt
      refine wpList_append_row rfl (.tmp 18) (.tmp 41) 25 rfl (T + 2) 50 ii z 26 bb Try.underlying25 h1 h2 h3 h4 h5 (by decide) (.slice B i c) i _ rfl (Owns.ext (Owns.ext HOW.out HX2.out) hxa) ⟨W2.heap.size, 0, none⟩ 1 1 (luOf ⟨nm, [⟨A0, c0, t0⟩, ⟨A1, c1, t1⟩, ⟨A2, c2, t2⟩, ⟨A3, c3, t3⟩, ⟨A4, c4, t4⟩, ⟨A5, c5, t5⟩, ⟨A6, c6, t6⟩]⟩).cells rfl rfl (fun j u hu => by rw [show (⟨W2.heap.size, 0, none⟩ : Addr).add j = ⟨W2.heap.size, j, none⟩ by unfold Addr.add; split <;> simp_all]; exact hbk.cell j hu) (fun u hu => List.all_eq_true.1 hone u hu) (by omega) (by unfold maxLen; omega) (Nat.le_trans (Nat.mul_le_mul (show i + 1 ≤ 1001 by omega) h6) (by omega)) (Nat.le_trans hz1' (Nat.le_trans HBU.out.size (Nat.le_trans hsz2 hxa.size))) ?_
      intro v' W5 o5 g5 s5
      have o5' : W5.ownsRow (T + 2) 50 26 v' (i + 1) ((l.take (i + 1)).flatMap fun x => (luOf x).cells) := by
        rw [HTK.out, List.flatMap_append]
        exact o5
      obtain ⟨B5, d5, rfl⟩ : ∃ B5 c5, v' = .slice B5 (i + 1) c5 := by
        rcases o5.2 with ⟨rfl, h⟩ | ⟨g, cap, cur, rfl, _⟩
        · omega
        · exact ⟨_, _, rfl⟩
      have hbt5 : Blk W5 (T + 1) [.slice B i c] 27 := Grown.blk g5 ((HBT.out.ext HX2.out).ext hxa) (fun e => by have := HOL.out (T + 1) e.symm; omega)
      have hbu5 : But (T + 1) W0 W5 := But.grown' ((HBU.out.ext HX2.out).ext hxa) g5 (fun j hj => by have := HOL.out j hj; omega)
      have k0 := hbt5.cell 0 rfl
      have kz := hbt5.frozen 0
      have HB5 := Lib.hid hbt5
      have HU5 := Lib.hid hbu5
      have HO5 := Lib.hid o5'
      clear o5 o5' g5 s5 hbk hone d0 d1 e0 e1 e2 e3 e4 e5 e6 hxa hbt5 hbu5
      go_wp2_with fail
      go_roundw
      case rel => exact ⟨i + 1, B5, d5, by go_num, by omega, HB5.out.set 0 _, Owns.set HO5.out 0 _ (by omega), HU5.out.set 0 _⟩
      case measure => simp [RowKit.intOf]; omega
    · obtain rfl : i = l.length := by omega
      rw [List.take_length] at hown
      have hok : ∀ x ∈ l, x.ok w := hr.2
      have hown' : wr.ownsRow (T + 2) 50 26 (.slice B l.length c) (l.map luOf).length ((l.map luOf).flatMap LU.cells) := by
        rw [List.length_map, List.flatMap_map]
        exact hown
      obtain ⟨B1, c1, he, hrd⟩ := OwnsK.rd LU.cells (l.map luOf) (fun x _ => x.cells_length) (by decide) hown'
      rw [List.length_map] at he
      cases he
      have HRD := Lib.hid hrd
      have HBT := Lib.hid hbt
      have HB01 := Lib.hid (hbut.blk HB0.out (by omega))
      have HBU := Lib.hid hbut
      clear hown hown' hrd hbt hbut
      go_wp2_with (first | refine wpList_load_blk rfl 27 (.tmp 3) rfl (T + 1) rfl (cs := [.slice B l.length c]) ⟨by kernel_rfl, by kernel_rfl⟩ HBT.out ?_ | (refine wpList_store_blk rfl 27 (.tmp 2) (.tmp 44) rfl T rfl [.slice B l.length c] rfl HB01.out ⟨by kernel_rfl, by kernel_rfl⟩ rfl rfl ?_; intro W5 hb5 hbu5))
      refine bodyPost_ret (results_cell Try.results13 _ _ rfl ⟨by kernel_rfl, by kernel_rfl⟩ hb5) rfl ⟨B, c, rfl, ?_, ?_⟩
      · rcases HRD.out with h | ⟨b, o, h1, h2, h3⟩
        · exact .inl h
        · refine .inr ⟨b, o, h1, fun j u hj i v hv => ?_⟩
          exact hbu5.cell' (h3 j u hj i v hv) (by omega)
      · exact But.toExt hxw hbu5 (by omega)
end Go.Proofs.Ytdpfppibbnjemaa
