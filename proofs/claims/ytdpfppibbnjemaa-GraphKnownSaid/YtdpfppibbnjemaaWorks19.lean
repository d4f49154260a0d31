/- Chapter 19: the graph of a law's table; works. -/
import Derived.Test.YtdpfppibbnjemaaGPure
import Derived.Test.YtdpfppibbnjemaaOfG
import Derived.Test.YtdpfppibbnjemaaSame
namespace Go.Proofs.Ytdpfppibbnjemaa
open Go.RowKit Go.Shelf
set_option linter.unusedVariables false
set_option linter.unusedSimpArgs false
def gAll (l : List NR) : List (List (List Int)) := [gRows l 0, gRows l 1, gRows l 2, gRows l 3, gRows l 4, gRows l 5, gRows l 6, gRows l 7, gRows l 8, gRows l 9]
theorem gAll_get (l : List NR) {k : Nat} (hk : k < 10) : (gAll l)[k]? = some (gRows l k) := by
  match k, hk with
  | 0, _ => rfl
  | 1, _ => rfl
  | 2, _ => rfl
  | 3, _ => rfl
  | 4, _ => rfl
  | 5, _ => rfl
  | 6, _ => rfl
  | 7, _ => rfl
  | 8, _ => rfl
  | 9, _ => rfl
theorem unit_get (x : NR) (h : x.ks.length = 7) {k : Nat} (hk : k < 7) {s : SK} (hs : x.ks[k]? = some s) : (luOf x).unit[k]? = some s.val := by
  unfold LU.unit LU.cells luOf luCells
  rw [List.getElem?_take, if_pos (by omega), List.getElem?_drop, Nat.add_comm 2 k]
  rw [List.getElem?_cons_succ, List.getElem?_cons_succ, List.getElem?_append_left (by simp; omega), List.getElem?_take, if_pos hk, List.getElem?_append_left (by simp; omega), List.getElem?_map, hs]
  rfl
theorem graph_calls (l : List NR) (B : Option Addr) (c : Nat) (w : World) (hr : RdU w B (l.map luOf)) (hok : ∀ x ∈ l, x.ok w) (hn : (l.map NR.name).Nodup) (hs : Small l) :
    Calls Try.prog 14 #[.agg #[.slice B l.length c]] w fun e w' => ∃ cs : List Value, e = .returned (.agg cs.toArray) ∧ GV w' l.length cs (gAll l) ∧ Ext w w' := by
  have h := of_calls (l.map luOf) (nmOf l) B c w hr (by rw [List.length_map]; exact hs.len) (by rw [names_map]; exact hn) (fun k hk u hu => by
    obtain ⟨x, hx, rfl⟩ := List.mem_map.1 hu
    have hxo := hok x hx
    obtain ⟨s, hsk⟩ : ∃ s, x.ks[k]? = some s := ⟨_, List.getElem?_eq_getElem (by have := hxo.1; omega)⟩
    rw [nmOf_eq hn k hx]
    have hnm : x.nm k = s.ss := by unfold NR.nm; rw [hsk]
    rw [hnm]
    exact ⟨s.A, s.cap, unit_get x hxo.1 hk hsk, hxo.2 s (List.mem_of_getElem? hsk), hs.names x hx s (List.mem_of_getElem? hsk)⟩)
  rw [List.length_map, graphL_eq hn] at h
  exact h
/-- Both: table, then graph. -/
theorem GV.gr {w : World} {l : List NR} {cs : List Value} (h : GV w l.length cs (gAll l)) (hl : l.length ≤ 1000) : GR w cs (gRows l 4) (gRows l 5) := by
  obtain ⟨A1, c1, h1, R1, r1, r2, r3⟩ := h.2.2 4 _ (gAll_get l (by omega))
  obtain ⟨A2, c2, h2, R2, s1, s2, s3⟩ := h.2.2 5 _ (gAll_get l (by omega))
  have key : ∀ (R : List Row) (k : Nat), rows R = gRows l k → ∀ r ∈ R, r.xs.length ≤ 9223372036854775807 := fun R k hR r hr => by
    have : r.xs ∈ gRows l k := by rw [← hR]; exact List.mem_map_of_mem hr
    unfold gRows at this
    obtain ⟨a, _, e⟩ := List.mem_map.1 this
    have := below_length l.length (rowP l a k)
    rw [e] at this
    omega
  exact ⟨A1, c1, R1, A2, c2, R2, h.1, by rw [r3]; exact h1, by rw [s3]; exact h2, r1, s1, r2, s2, key R1 4 r2, key R2 5 s2, by omega, by omega⟩
theorem rv2 {W : World} {A : Option Addr} {x y : List Int} (h : RV W 2 A [x, y]) : ∃ b o B0 c0 B1 c1, A = some ⟨b, o, none⟩ ∧ W.cell? ⟨b, o, none⟩ = some (.slice B0 x.length c0) ∧ W.cell? ⟨b, o + 1, none⟩ = some (.slice B1 y.length c1) ∧ RdV W B0 (ints x) ∧ RdV W B1 (ints y) := by
  obtain ⟨R, h1, h2, h3⟩ := h
  obtain ⟨b, o, B0, c0, x', rfl, e1, k1, d1⟩ := h1.at (i := 0) (by omega)
  obtain ⟨_, _, B1, c1, y', hA, e2, k2, d2⟩ := h1.at (i := 1) (by omega)
  cases hA
  have hx : x' = x := by
    have := rows_get R 0
    rw [h2, e1] at this
    simpa using this.symm
  have hy : y' = y := by
    have := rows_get R 1
    rw [h2, e2] at this
    simpa using this.symm
  subst hx hy
  exact ⟨b, o, B0, c0, B1, c1, rfl, k1, k2, d1, d2⟩
def nilK : SK := ⟨none, 0, []⟩
def wl (g : Nat) : List NR := [⟨⟨#[97]⟩, [⟨some ⟨g, 0, none⟩, 2, [⟨#[98]⟩, ⟨#[122]⟩]⟩, nilK, nilK, nilK, nilK, nilK, nilK]⟩, ⟨⟨#[98]⟩, [nilK, nilK, nilK, nilK, nilK, nilK, ⟨some ⟨g + 1, 0, none⟩, 1, [⟨#[97]⟩]⟩]⟩]
theorem wl0 (g : Nat) : gRows (wl g) 0 = [[1], []] := by rfl
theorem wl7 (g : Nat) : gRows (wl g) 7 = [[], [0]] := by rfl
theorem wl6 (g : Nat) : gRows (wl g) 6 = [[1], [0]] := by rfl
theorem wlA (g : Nat) : aheadN (wl g) 0 1 = false := by rfl
theorem wlN (g : Nat) : ((wl g).map NR.name).Nodup := show ([⟨#[97]⟩, ⟨#[98]⟩] : List ByteArray).Nodup by decide
theorem wlS (g : Nat) : Small (wl g) := ⟨by simp [wl], fun x hx s hs => by
  simp only [wl, List.mem_cons, List.not_mem_nil, or_false] at hx
  rcases hx with rfl | rfl <;> simp only [List.mem_cons, List.not_mem_nil, or_false] at hs <;> rcases hs with rfl | rfl | rfl | rfl | rfl | rfl | rfl <;> simp [nilK]⟩
theorem GV.one {W : World} {n : Nat} {cs : List Value} {ls : List (List (List Int))} (h : GV W n cs ls) : cs.all (·.oneCell') = true := by
  rw [List.all_eq_true]
  intro v hv
  obtain ⟨k, hk⟩ := List.getElem?_of_mem hv
  have hkl := (List.getElem?_eq_some_iff.1 hk).1
  obtain ⟨A, c, h1, _⟩ := h.2.2 k ls[k]! (by rw [getElem!_pos ls k (by rw [h.2.1, ← h.1]; exact hkl)]; exact List.getElem?_eq_getElem _)
  rw [hk] at h1
  cases h1
  rfl
theorem rdn_wl (w : World) : RdN (((w.alloc (.cells #[.string ⟨#[98]⟩, .string ⟨#[122]⟩] 9)).alloc (.cells #[.string ⟨#[97]⟩] 9)).alloc (.cells #[.string ⟨#[97]⟩, .slice (some ⟨w.heap.size, 0, none⟩) 2 2, .slice none 0 0, .slice none 0 0, .slice none 0 0, .slice none 0 0, .slice none 0 0, .slice none 0 0, .string ⟨#[98]⟩, .slice none 0 0, .slice none 0 0, .slice none 0 0, .slice none 0 0, .slice none 0 0, .slice none 0 0, .slice (some ⟨w.heap.size + 1, 0, none⟩) 1 1] 55)) (some ⟨w.heap.size + 1 + 1, 0, none⟩) (wl w.heap.size) := by
  have b0 := (((Blk.newAt w [.string ⟨#[98]⟩, .string ⟨#[122]⟩] 9 _ rfl).alloc (.cells #[.string ⟨#[97]⟩] 9)).alloc (.cells #[.string ⟨#[97]⟩, .slice (some ⟨w.heap.size, 0, none⟩) 2 2, .slice none 0 0, .slice none 0 0, .slice none 0 0, .slice none 0 0, .slice none 0 0, .slice none 0 0, .string ⟨#[98]⟩, .slice none 0 0, .slice none 0 0, .slice none 0 0, .slice none 0 0, .slice none 0 0, .slice none 0 0, .slice (some ⟨w.heap.size + 1, 0, none⟩) 1 1] 55))
  have b1 := ((Blk.newAt (w.alloc (.cells #[.string ⟨#[98]⟩, .string ⟨#[122]⟩] 9)) [.string ⟨#[97]⟩] 9 (w.heap.size + 1) (by simp)).alloc (.cells #[.string ⟨#[97]⟩, .slice (some ⟨w.heap.size, 0, none⟩) 2 2, .slice none 0 0, .slice none 0 0, .slice none 0 0, .slice none 0 0, .slice none 0 0, .slice none 0 0, .string ⟨#[98]⟩, .slice none 0 0, .slice none 0 0, .slice none 0 0, .slice none 0 0, .slice none 0 0, .slice none 0 0, .slice (some ⟨w.heap.size + 1, 0, none⟩) 1 1] 55))
  have b2 := Blk.newAt ((w.alloc (.cells #[.string ⟨#[98]⟩, .string ⟨#[122]⟩] 9)).alloc (.cells #[.string ⟨#[97]⟩] 9)) [.string ⟨#[97]⟩, .slice (some ⟨w.heap.size, 0, none⟩) 2 2, .slice none 0 0, .slice none 0 0, .slice none 0 0, .slice none 0 0, .slice none 0 0, .slice none 0 0, .string ⟨#[98]⟩, .slice none 0 0, .slice none 0 0, .slice none 0 0, .slice none 0 0, .slice none 0 0, .slice none 0 0, .slice (some ⟨w.heap.size + 1, 0, none⟩) 1 1] 55 (w.heap.size + 1 + 1) (by simp)
  refine ⟨.inr ⟨_, 0, rfl, fun j x hj i v hv => ?_⟩, fun x hx => ?_⟩
  · match j with
    | 0 => 
      cases hj
      rw [Nat.zero_mul, Nat.zero_add]
      exact b2.cell i (by
        have hi : i < 8 := (List.getElem?_eq_some_iff.1 hv).1
        rw [← hv]
        match i, hi with
        | 0, _ => rfl
        | 1, _ => rfl
        | 2, _ => rfl
        | 3, _ => rfl
        | 4, _ => rfl
        | 5, _ => rfl
        | 6, _ => rfl
        | 7, _ => rfl)
    | 1 =>
      cases hj
      exact b2.cell _ (by
        have hi : i < 8 := (List.getElem?_eq_some_iff.1 hv).1
        rw [← hv]
        match i, hi with
        | 0, _ => rfl
        | 1, _ => rfl
        | 2, _ => rfl
        | 3, _ => rfl
        | 4, _ => rfl
        | 5, _ => rfl
        | 6, _ => rfl
        | 7, _ => rfl)
    | j + 2 => cases hj
  · simp only [wl, List.mem_cons, List.not_mem_nil, or_false] at hx
    rcases hx with rfl | rfl
    · refine ⟨rfl, fun s hs => ?_⟩
      rcases List.mem_cons.1 hs with rfl | hs
      · exact .inr ⟨_, 0, rfl, fun j v hv => by
          rw [Nat.zero_add]
          exact b0.cell j hv⟩
      · have : s = nilK := by simp only [List.mem_cons, List.not_mem_nil, or_false, or_self] at hs; exact hs
        rw [this]
        exact .inl rfl
    · refine ⟨rfl, fun s hs => ?_⟩
      have : s = nilK ∨ s = ⟨some ⟨w.heap.size + 1, 0, none⟩, 1, [⟨#[97]⟩]⟩ := by simp only [List.mem_cons, List.not_mem_nil, or_false] at hs; rcases hs with h | h | h | h | h | h | h <;> simp [h]
      rcases this with rfl | rfl
      · exact .inl rfl
      · exact .inr ⟨_, 0, rfl, fun j v hv => by
          rw [Nat.zero_add]
          exact b1.cell j hv⟩
set_option maxRecDepth 100000 in
set_option maxHeartbeats 2000000 in
theorem works_calls (w : World) : Calls Try.prog 12 #[] w fun e w' => e = .returned (.bool true) ∧ Ext w w' := by
  have HR := Lib.hid (rdn_wl w)
  go_enter Try.func12, Try.ntmps12
  go_upto_region 2 with (first | (go_at_call 13; refine (table_calls (wl w.heap.size) _ 2 _ HR.out (by simp [wl])).mono ?_; rintro e W1 ⟨B, c, rfl, hru, hx1⟩) | (go_at_call 14; refine (graph_calls (wl w.heap.size) B c _ hru (fun x hx => (HR.out.2 x hx).ext hx1) (wlN _) (wlS _)).mono ?_; rintro e W2 ⟨cs, rfl, hgv, hx2⟩) | (refine wpList_store_blk rfl 31 (.tmp 1) (.tmp 10) rfl W2.heap.size rfl cs rfl (Blk.newAt W2 _ _ _ rfl) (rowGT _ hgv.1) (by rw [hgv.1]; rfl) hgv.one ?_; intro W3 hb3 hbut))
  have hx3 : Ext W2 W3 := But.toExt ((Ext.refl W2).alloc _) hbut (Nat.le_refl _)
  have hg3 := hgv.ext hx3
  have hxw : Ext w W3 := (((((Ext.refl w).alloc _).alloc _).alloc _).trans hx1).trans (hx2.trans hx3)
  obtain ⟨A0, c0, k0, r0⟩ := hg3.2.2 0 _ (gAll_get _ (by omega))
  obtain ⟨A7, c7, k7, r7⟩ := hg3.2.2 7 _ (gAll_get _ (by omega))
  obtain ⟨A6, c6, k6, r6⟩ := hg3.2.2 6 _ (gAll_get _ (by omega))
  rw [show (wl w.heap.size).length = 2 from rfl] at k0 k7 k6 r0 r7 r6
  rw [wl0] at r0
  rw [wl7] at r7
  rw [wl6] at r6
  obtain ⟨b0, o0, B00, d00, B01, d01, rfl, m00, m01, n00, n01⟩ := rv2 r0
  obtain ⟨b7, o7, B70, d70, B71, d71, rfl, m70, m71, n70, n71⟩ := rv2 r7
  obtain ⟨b6, o6, B60, d60, B61, d61, rfl, m60, m61, n60, n61⟩ := rv2 r6
  have f0 := hb3.cell 0 k0
  have f7 := hb3.cell 7 k7
  have f6 := hb3.cell 6 k6
  have HGR := Lib.hid (hg3.gr (by simp [wl]))
  have HB3 := Lib.hid hb3
  have HRG := Lib.hid (rowGT cs.length hgv.1)
  obtain ⟨G, hG⟩ : ∃ G, W2.heap.size = G := ⟨_, rfl⟩
  rw [hG] at f0 f7 f6 HB3 ⊢
  have HX := Lib.hid hxw
  clear hb3 hbut hx3 hg3 hxw hgv hx1 hx2 hru HR k0 k7 k6 r0 r7 r6 hG
  have hsame : ∀ (x : Int) (W : World) (g : Nat) (B : Option Addr) (d : Nat), RdV W B (ints [x]) → W.cell? ⟨g, 0, none⟩ = some (.int .i64 x) → Calls Try.prog 16 #[.slice B 1 d, .slice (some ⟨g, 0, none⟩) 1 1] W fun e w' => e = .returned (.bool true) ∧ Ext W w' := fun x W g B d h1 h2 =>
    (same_calls [x] [x] B (some ⟨g, 0, none⟩) d 1 W h1 (.inr ⟨g, 0, rfl, fun j v hv => by
      match j with
      | 0 => cases hv; exact h2
      | j + 1 => cases hv⟩) (by simp) (by simp)).mono fun e w' h => ⟨by rw [h.1]; simp, h.2⟩
  have HSM := Lib.hid hsame
  clear hsame
  go_wp2_with fail
  refine (HSM.out 1 _ _ _ _ (n00.ext ((Ext.refl _).alloc _)) (by go_simp)).mono ?_
  rintro e V4 ⟨rfl, y4⟩
  have z4 := ((Ext.refl _).alloc _).trans y4
  replace f0 := z4.cell f0
  replace f7 := z4.cell f7
  replace f6 := z4.cell f6
  replace m70 := z4.cell m70
  replace m71 := z4.cell m71
  replace m60 := z4.cell m60
  replace m61 := z4.cell m61
  replace n71 := n71.ext z4
  replace n60 := n60.ext z4
  replace n61 := n61.ext z4
  replace HX := Lib.hid (HX.out.trans z4)
  replace HB3 := Lib.hid (HB3.out.ext z4)
  replace HGR := Lib.hid (HGR.out.ext z4)
  clear y4 z4
  go_wp2_with fail
  refine (HSM.out 0 _ _ _ _ (n71.ext ((Ext.refl _).alloc _)) (by go_simp)).mono ?_
  rintro e V5 ⟨rfl, y5⟩
  have z5 := ((Ext.refl _).alloc _).trans y5
  replace f0 := z5.cell f0
  replace f7 := z5.cell f7
  replace f6 := z5.cell f6
  replace m70 := z5.cell m70
  replace m71 := z5.cell m71
  replace m60 := z5.cell m60
  replace m61 := z5.cell m61
  replace n71 := n71.ext z5
  replace n60 := n60.ext z5
  replace n61 := n61.ext z5
  replace HX := Lib.hid (HX.out.trans z5)
  replace HB3 := Lib.hid (HB3.out.ext z5)
  replace HGR := Lib.hid (HGR.out.ext z5)
  clear y5 z5
  go_wp2_with fail
  refine (HSM.out 1 _ _ _ _ (n60.ext ((Ext.refl _).alloc _)) (by go_simp)).mono ?_
  rintro e V6 ⟨rfl, y6⟩
  have z6 := ((Ext.refl _).alloc _).trans y6
  replace f0 := z6.cell f0
  replace f7 := z6.cell f7
  replace f6 := z6.cell f6
  replace m70 := z6.cell m70
  replace m71 := z6.cell m71
  replace m60 := z6.cell m60
  replace m61 := z6.cell m61
  replace n71 := n71.ext z6
  replace n60 := n60.ext z6
  replace n61 := n61.ext z6
  replace HX := Lib.hid (HX.out.trans z6)
  replace HB3 := Lib.hid (HB3.out.ext z6)
  replace HGR := Lib.hid (HGR.out.ext z6)
  clear y6 z6
  go_wp2_with fail
  refine (HSM.out 0 _ _ _ _ (n61.ext ((Ext.refl _).alloc _)) (by go_simp)).mono ?_
  rintro e V7 ⟨rfl, y7⟩
  have z7 := ((Ext.refl _).alloc _).trans y7
  replace f0 := z7.cell f0
  replace f7 := z7.cell f7
  replace f6 := z7.cell f6
  replace m70 := z7.cell m70
  replace m71 := z7.cell m71
  replace m60 := z7.cell m60
  replace m61 := z7.cell m61
  replace n71 := n71.ext z7
  replace n60 := n60.ext z7
  replace n61 := n61.ext z7
  replace HX := Lib.hid (HX.out.trans z7)
  replace HB3 := Lib.hid (HB3.out.ext z7)
  replace HGR := Lib.hid (HGR.out.ext z7)
  clear y7 z7
  go_wp2_with (refine wpList_load_blk rfl 31 (.tmp 1) rfl G rfl HRG.out HB3.out ?_)
  refine (gahead_calls cs _ _ 0 1 _ HGR.out).mono ?_
  rintro e V8 ⟨rfl, y8⟩
  rw [upB_eq, wlA]
  go_wp2_with fail
  go_ret
  exact ⟨rfl, HX.out.trans y8⟩
end Go.Proofs.Ytdpfppibbnjemaa
