/- slices.Compact over jobs. -/
import Derived.Test.YtclgclcoblfddaaOrdJ
namespace Go.Proofs.Ytclgclcoblfddaa
open Go.RowKit Go.Shelf
set_option linter.unusedVariables false
set_option linter.unusedSimpArgs false
/-- Equal neighbours once. -/
def compL {α : Type} [DecidableEq α] (l : List α) : List α := l.foldl (fun acc x => if acc.getLast? = some x then acc else acc ++ [x]) []
section
variable {α : Type} [DecidableEq α]
theorem compL_snoc (l : List α) (x : α) : compL (l ++ [x]) = if (compL l).getLast? = some x then compL l else compL l ++ [x] := by
  unfold compL
  rw [List.foldl_append]
  rfl
theorem compL_last (l : List α) : (compL l).getLast? = l.getLast? := by
  have key : ∀ n (l : List α), l.length = n → (compL l).getLast? = l.getLast? := by
    intro n
    induction n with
    | zero => intro l h; rw [List.eq_nil_of_length_eq_zero h]; rfl
    | succ n ih =>
      intro l h
      rcases List.eq_nil_or_concat l with h0 | ⟨i, x, h0⟩
      · subst h0; rfl
      · rw [List.concat_eq_append] at h0
        subst h0
        rw [compL_snoc]
        split
        · rename_i h1
          rw [h1]; simp
        · simp
  exact key _ l rfl
theorem compL_len (l : List α) : (compL l).length ≤ l.length := by
  have key : ∀ n (l : List α), l.length = n → (compL l).length ≤ l.length := by
    intro n
    induction n with
    | zero => intro l h; rw [List.eq_nil_of_length_eq_zero h]; exact Nat.le_refl _
    | succ n ih =>
      intro l h
      rcases List.eq_nil_or_concat l with h0 | ⟨i, x, h0⟩
      · subst h0; exact Nat.le_refl _
      · rw [List.concat_eq_append] at h0
        subst h0
        have := ih i (by simpa using h)
        rw [compL_snoc]
        split
        · simp; omega
        · simp; omega
  exact key _ l rfl
theorem compL_take {l : List α} {k : Nat} {x : α} (hx : l[k]? = some x) {y : α} (hk : 0 < k) (hy : l[k - 1]? = some y) : compL (l.take (k + 1)) = if y = x then compL (l.take k) else compL (l.take k) ++ [x] := by
  have hlt : k < l.length := (List.getElem?_eq_some_iff.1 hx).1
  have hxx : l[k] = x := by rw [List.getElem?_eq_getElem hlt] at hx; exact Option.some.inj hx
  rw [List.take_succ_eq_append_getElem hlt, hxx, compL_snoc, compL_last]
  have h2 : (l.take k).getLast? = some y := by
    rw [List.getLast?_eq_getElem?, List.length_take, List.getElem?_take]
    rw [if_pos (by omega), show min k l.length - 1 = k - 1 by omega]
    exact hy
  rw [h2]
  by_cases h : y = x <;> simp [h]
theorem compL_mem (l : List α) (x : α) : x ∈ compL l ↔ x ∈ l := by
  have key : ∀ n (l : List α), l.length = n → ∀ x, x ∈ compL l ↔ x ∈ l := by
    intro n
    induction n with
    | zero => intro l h x; rw [List.eq_nil_of_length_eq_zero h]; exact Iff.rfl
    | succ n ih =>
      intro l h x
      rcases List.eq_nil_or_concat l with h0 | ⟨i, y, h0⟩
      · subst h0; exact Iff.rfl
      · rw [List.concat_eq_append] at h0
        subst h0
        have := ih i (by simpa using h)
        rw [compL_snoc]
        split
        · rename_i h1
          have hy : y ∈ i := (this y).1 (List.mem_of_getLast? h1)
          rw [List.mem_append, this]
          exact ⟨.inl, fun h => h.elim id fun h => by rw [List.mem_singleton.1 h]; exact hy⟩
        · rw [List.mem_append, List.mem_append, this]
  exact key _ l rfl x
end
theorem eqlJob (x y : Jb) (W : World) : (binOp .eql 32 (.agg #[.int .i64 x.1, .int .u8 x.2]) (.agg #[.int .i64 y.1, .int .u8 y.2])).run Try.prog W = .ok (.bool (decide (x = y))) W := by
  have := eqJob x y W
  simp only [binOp]
  simp only [Sem.run_bind]
  rw [show (Value.agg #[.int .i64 x.1, .int .u8 x.2]) = encJ x from rfl, show (Value.agg #[.int .i64 y.1, .int .u8 y.2]) = encJ y from rfl, this]
  rfl
theorem neqJob (x y : Jb) (W : World) : (binOp .neq 32 (.agg #[.int .i64 x.1, .int .u8 x.2]) (.agg #[.int .i64 y.1, .int .u8 y.2])).run Try.prog W = .ok (.bool (!decide (x = y))) W := by
  have := eqJob x y W
  simp only [binOp]
  simp only [Sem.run_bind]
  rw [show (Value.agg #[.int .i64 x.1, .int .u8 x.2]) = encJ x from rfl, show (Value.agg #[.int .i64 y.1, .int .u8 y.2]) = encJ y from rfl, this]
  rfl
/-- What Compact has behind it at j: q kept. -/
structure CptSt (l : List Jb) (j q : Nat) (xs : List Jb) : Prop where
  len : xs.length = l.length
  hj : j ≤ l.length
  cnt : q = (compL (l.take j)).length
  pre : xs.take q = compL (l.take j)
  post : xs.drop (j - 1) = l.drop (j - 1)
  lt : q < j
theorem CptSt.at {l xs : List Jb} {j q i : Nat} (h : CptSt l j q xs) (hi : j - 1 ≤ i) : xs[i]? = l[i]? := by
  have := congrArg (fun m => m[i - (j - 1)]?) h.post
  simp only [List.getElem?_drop] at this
  rwa [show j - 1 + (i - (j - 1)) = i by omega] at this
theorem CptSt.same {l xs : List Jb} {j q : Nat} (h : CptSt l j q xs) {x : Jb} (hx : l[j]? = some x) (hy : l[j - 1]? = some x) : CptSt l (j + 1) q xs := by
  have hj := h.lt
  have e : compL (l.take (j + 1)) = compL (l.take j) := by rw [compL_take hx (by omega) hy, if_pos rfl]
  have hjl := (List.getElem?_eq_some_iff.1 hx).1
  refine ⟨h.len, by omega, by rw [e]; exact h.cnt, by rw [e]; exact h.pre, ?_, by omega⟩
  have := congrArg (List.drop 1) h.post
  rwa [List.drop_drop, List.drop_drop, show j - 1 + 1 = j + 1 - 1 by omega] at this
theorem CptSt.more {l xs : List Jb} {j q : Nat} (h : CptSt l j q xs) {x y : Jb} (hx : l[j]? = some x) (hy : l[j - 1]? = some y) (hne : x ≠ y) : CptSt l (j + 1) (q + 1) (xs.set q x) := by
  have hj := h.lt
  have e : compL (l.take (j + 1)) = compL (l.take j) ++ [x] := by rw [compL_take hx (by omega) hy, if_neg fun e => hne e.symm]
  have hjl := (List.getElem?_eq_some_iff.1 hx).1
  have hlen := h.len
  refine ⟨by simp [hlen], by omega, by rw [e, List.length_append, ← h.cnt]; rfl, ?_, ?_, by omega⟩
  · rw [e, ← h.pre, List.take_succ_eq_append_getElem (by simp; omega), List.take_set_of_le (Nat.le_refl _)]
    simp
  · rw [List.drop_set_of_lt (by omega)]
    have := congrArg (List.drop 1) h.post
    rwa [List.drop_drop, List.drop_drop, show j - 1 + 1 = j + 1 - 1 by omega] at this
set_option maxRecDepth 100000 in
set_option maxHeartbeats 4000000 in
theorem compactJ_calls {base : Nat} {v : Value} (l : List Jb) (w : World) (h : w.ownsRow base 32 2 v l.length (cellsJ l)) (hlen : l.length ≤ 1000000) :
    Calls Try.prog 61 #[v] w fun e w' => ∃ v', e = .returned v' ∧ w'.ownsRow base 32 2 v' (compL l).length (cellsJ (compL l)) ∧ w.grownBy w' v.ownBlock ∧ v'.ownBlock = v.ownBlock := by
  by_cases h2 : l.length < 2
  · obtain ⟨A, cap, rfl, hcap, hrd, hlow⟩ := OwnsJ.rd h
    have hl2 : (l.length : Int) < 2 := by omega
    have hc : compL l = l := by
      match l, h2 with
      | [], _ => rfl
      | [x], _ => rfl
    rw [hc]
    clear hc
    go_enter Try.func61, Try.ntmps61
    go_wp2_with fail
    go_ret
    exact ⟨_, rfl, h, ⟨rfl, rfl, rfl, Nat.le_refl _, fun _ _ _ => rfl⟩, rfl⟩
  · have hl2 : ¬ (l.length : Int) < 2 := by omega
    obtain ⟨g, cap, rest, rfl, hg, hgl, hcap, hx2, hx3, hbk, hmax⟩ := Owns.whole h (by omega)
    have HMX := Lib.hid hmax
    have HOWN := Lib.hid h
    clear hmax h
    go_enter Try.func61, Try.ntmps61
    go_wp2_with fail
    go_loopw [3] (fun kv W => ∃ k : Nat, kv = .int .i64 ((k : Int) + 1) ∧ k + 1 ≤ l.length ∧ compL (l.take (k + 1)) = l.take (k + 1) ∧ Blk W g (cellsJ l ++ rest) 32 ∧ W.heap = w.heap ∧ w.grownBy W (some g)) (fun kv _ => l.length - (RowKit.intOf kv).toNat)
    case atStart => 
      refine ⟨0, rfl, by omega, ?_, hbk, rfl, ⟨rfl, rfl, rfl, Nat.le_refl _, fun _ _ _ => rfl⟩⟩
      match l, h2 with
      | x :: l, _ => rfl
      | [], h => simp at h
    case round =>
      obtain ⟨k, rfl, hk, hcl, hbk, hhp, hgw⟩ := hrel
      by_cases hlt : k + 1 < l.length
      · have hlti : (k : Int) + 1 < l.length := by omega
        obtain ⟨x, hx⟩ : ∃ x, l[k + 1]? = some x := ⟨_, List.getElem?_eq_getElem hlt⟩
        obtain ⟨y, hy⟩ : ∃ y, l[k]? = some y := ⟨_, List.getElem?_eq_getElem (by omega)⟩
        have hct := compL_take hx (Nat.succ_pos k) hy
        have cell : ∀ W', Blk W' g (cellsJ l ++ rest) 32 → ∀ (i : Nat) (z : Jb), l[i]? = some z → W'.cell? ⟨g, i * 2, none⟩ = some (.int .i64 z.1) ∧ W'.cell? ⟨g, i * 2 + 1, none⟩ = some (.int .u8 z.2) := fun W' hb i z hz => by
          obtain ⟨c1, c2⟩ := cellsJ_get l i z.1 z.2 hz
          exact ⟨hb.cell _ (by rw [List.getElem?_append_left (List.getElem?_eq_some_iff.1 c1).1]; exact c1), hb.cell _ (by rw [List.getElem?_append_left (List.getElem?_eq_some_iff.1 c2).1]; exact c2)⟩
        have a0 : ∀ W', Ext wr W' → W'.cell? ⟨g, (k + 1) * 2, none⟩ = some (.int .i64 x.1) := fun W' h => (cell W' (hbk.ext h) _ _ hx).1
        have a1 : ∀ W', Ext wr W' → W'.cell? ⟨g, (k + 1) * 2 + 1, none⟩ = some (.int .u8 x.2) := fun W' h => (cell W' (hbk.ext h) _ _ hx).2
        have a2 : ∀ W', Ext wr W' → W'.cell? ⟨g, k * 2, none⟩ = some (.int .i64 y.1) := fun W' h => (cell W' (hbk.ext h) _ _ hy).1
        have a3 : ∀ W', Ext wr W' → W'.cell? ⟨g, k * 2 + 1, none⟩ = some (.int .u8 y.2) := fun W' h => (cell W' (hbk.ext h) _ _ hy).2
        have hk1 : (k : Int) + 1 - 1 = k := by omega
        have hk2 : ((k : Int) + 1).toNat = k + 1 := by omega
        have hk0 : (0 : Int) ≤ (k : Int) + 1 := by omega
        have hk3 : (k : Int) < l.length := by omega
        have heq := eqlJob x y
        obtain ⟨d, hd⟩ : ∃ d, decide (x = y) = d := ⟨_, rfl⟩
        rw [hd] at heq
        go_upto_region 6 with (fail)
        refine wp_region_mix (fun W => Ext wr W) 9 [(0, true), (1, true), (2, true), (3, true), (4, true), (5, true), (6, true), (7, true), (8, true), (9, false)] (by kernel_rfl) (by kernel_rfl) ((Ext.refl wr).drew) ?_
        (repeat (first | (apply mix_read; (case ho => rfl); (case hw => rfl); (case h1 => intro W' hx; (try dsimp only at hx); go_simp; (try go_bits); with_reducible rfl); (case hp => go_simp; first | done | with_reducible rfl)) | (apply mix_skip; (case ho => rfl); (case hw => rfl); (case hp => go_simp; first | done | with_reducible rfl))))
        refine mix_end 9 (by kernel_rfl) (by kernel_rfl) ?_; simp only [List.take_succ_cons, List.take_zero, List.drop_succ_cons, List.drop_zero]; unfold Q0
        have HD := Lib.hid hd
        have HCT := Lib.hid hct
        have hbd : Blk wr.drew g (cellsJ l ++ rest) 32 := hbk
        have hgd : w.grownBy wr.drew (some g) := hgw.trans ⟨rfl, rfl, rfl, Nat.le_refl _, fun _ _ _ => rfl⟩
        have hhd : wr.drew.heap = w.heap := hhp
        clear hd hct
        clear a0 a1 a2 a3 hbk hgw hhp
        cases d
        · have hne : x ≠ y := of_decide_eq_false HD.out
          have hcl2 : compL (l.take (k + 1 + 1)) = l.take (k + 1 + 1) := by
            rw [HCT.out, if_neg (fun e => hne e.symm), hcl, List.take_succ_eq_append_getElem hlt]
            congr 2
            rw [List.getElem?_eq_getElem hlt] at hx
            exact (Option.some.inj hx).symm
          clear hcl hne
          go_wp2_with fail
          go_roundw
          case rel => exact ⟨k + 1, by go_num, by omega, hcl2, hbd, hhd, hgd⟩
          case measure => simp [RowKit.intOf]; omega
        · have hee : x = y := of_decide_eq_true HD.out
          subst hee
          have hcl2 : compL (l.take (k + 1 + 1)) = l.take (k + 1) := by rw [HCT.out, if_pos rfl, hcl]
          have hkc : ¬ cap = k + 1 := by omega
          have hc0 : CptSt l (k + 1 + 1) (k + 1) l := ⟨rfl, by omega, by rw [hcl2, List.length_take]; omega, hcl2.symm, rfl, by omega⟩
          clear hcl2 hcl HCT cell hx hy heq hhd
          go_wp2_with fail
          go_loopw [5, 3] (fun iv kv W => ∃ (p q : Nat) (xs : List Jb), iv = .int .i64 ((p : Int) + 1) ∧ kv = .int .i64 q ∧ CptSt l (k + 1 + p + 1) q xs ∧ Blk W g (cellsJ xs ++ rest) 32 ∧ w.grownBy W (some g)) (fun iv _ _ => l.length - (RowKit.intOf iv).toNat)
          case atStart => exact ⟨0, k + 1, l, rfl, by go_num, hc0, hbd, hgd⟩
          case round =>
            clear hc0 hbd hgd
            obtain ⟨p, q, xs, rfl, rfl, hC, hbk, hgw⟩ := hrel
            have hxl := hC.len
            have hjl := hC.hj
            have hql := hC.lt
            have hcl : (cellsJ xs ++ rest).length = cap * 2 := by
              rw [List.length_append, cellsJ_length, hxl, ← hx2, ← List.length_append]; exact hx3
            by_cases hlt2 : k + 1 + p + 1 < l.length
            · obtain ⟨x2, hxx⟩ : ∃ x2, l[k + 1 + p + 1]? = some x2 := ⟨_, List.getElem?_eq_getElem hlt2⟩
              obtain ⟨y2, hyy⟩ : ∃ y2, l[k + 1 + p]? = some y2 := ⟨_, List.getElem?_eq_getElem (by omega)⟩
              have hx3' := (hC.at (i := k + 1 + p + 1) (by omega)).trans hxx
              have hy3' := (hC.at (i := k + 1 + p) (by omega)).trans hyy
              have cell : ∀ W', Blk W' g (cellsJ xs ++ rest) 32 → ∀ (i : Nat) (z : Jb), xs[i]? = some z → W'.cell? ⟨g, i * 2, none⟩ = some (.int .i64 z.1) ∧ W'.cell? ⟨g, i * 2 + 1, none⟩ = some (.int .u8 z.2) := fun W' hb i z hz => by
                obtain ⟨c1, c2⟩ := cellsJ_get xs i z.1 z.2 hz
                exact ⟨hb.cell _ (by rw [List.getElem?_append_left (List.getElem?_eq_some_iff.1 c1).1]; exact c1), hb.cell _ (by rw [List.getElem?_append_left (List.getElem?_eq_some_iff.1 c2).1]; exact c2)⟩
              have ex : (k + 1) * 2 + (p + 1) * 2 = (k + 1 + p + 1) * 2 := by omega
              have ey : (k + 1) * 2 + p * 2 = (k + 1 + p) * 2 := by omega
              have a0 : ∀ W', Ext wr W' → W'.cell? ⟨g, (k + 1) * 2 + (p + 1) * 2, none⟩ = some (.int .i64 x2.1) := fun W' h => by rw [ex]; exact (cell W' (hbk.ext h) _ _ hx3').1
              have a1 : ∀ W', Ext wr W' → W'.cell? ⟨g, (k + 1) * 2 + (p + 1) * 2 + 1, none⟩ = some (.int .u8 x2.2) := fun W' h => by rw [ex]; exact (cell W' (hbk.ext h) _ _ hx3').2
              have a2 : ∀ W', Ext wr W' → W'.cell? ⟨g, (k + 1) * 2 + p * 2, none⟩ = some (.int .i64 y2.1) := fun W' h => by rw [ey]; exact (cell W' (hbk.ext h) _ _ hy3').1
              have a3 : ∀ W', Ext wr W' → W'.cell? ⟨g, (k + 1) * 2 + p * 2 + 1, none⟩ = some (.int .u8 y2.2) := fun W' h => by rw [ey]; exact (cell W' (hbk.ext h) _ _ hy3').2
              have n0 : ((p : Int) + 1) < ((l.length - (k + 1) : Nat) : Int) := by omega
              have n1 : ((p : Int) + 1 - 1) = p := by omega
              have n2 : ((p : Int) + 1).toNat = p + 1 := by omega
              have n3 : (0 : Int) ≤ (p : Int) + 1 := by omega
              have n4 : (p : Int) < ((l.length - (k + 1) : Nat) : Int) := by omega
              have hneq := neqJob x2 y2
              obtain ⟨d2, hd2⟩ : ∃ d2, decide (x2 = y2) = d2 := ⟨_, rfl⟩
              rw [hd2] at hneq
              clear ex ey hx3' hy3'
              go_upto_region 11 with (fail)
              refine wp_region_mix (fun W => Ext wr W) 9 [(0, true), (1, true), (2, true), (3, true), (4, true), (5, true), (6, true), (7, true), (8, true), (9, false)] (by kernel_rfl) (by kernel_rfl) ((Ext.refl wr).drew) ?_
              (repeat (first | (apply mix_read; (case ho => rfl); (case hw => rfl); (case h1 => intro W' hx; (try dsimp only at hx); go_simp; (try go_bits); with_reducible rfl); (case hp => go_simp; first | done | with_reducible rfl)) | (apply mix_skip; (case ho => rfl); (case hw => rfl); (case hp => go_simp; first | done | with_reducible rfl))))
              refine mix_end 9 (by kernel_rfl) (by kernel_rfl) ?_; simp only [List.take_succ_cons, List.take_zero, List.drop_succ_cons, List.drop_zero]; unfold Q0
              have HD2 := Lib.hid hd2
              have hbd : Blk wr.drew g (cellsJ xs ++ rest) 32 := hbk
              have hgd : w.grownBy wr.drew (some g) := hgw.trans ⟨rfl, rfl, rfl, Nat.le_refl _, fun _ _ _ => rfl⟩
              clear hd2
              cases d2
              · have hne : x2 ≠ y2 := of_decide_eq_false HD2.out
                have HK := Lib.hid (hC.more hxx hyy hne)
                have hs2 := set_two (rest := rest) (show q < xs.length by omega) x2.1 x2.2
                have c0 : wr.cell? ⟨g, q * 2, none⟩ = some (cellsJ xs ++ rest)[q * 2] := hbk.cellOf (i := q * 2) (by omega)
                have c1 : wr.cell? ⟨g, q * 2 + 1, none⟩ = some (cellsJ xs ++ rest)[q * 2 + 1] := hbk.cellOf (i := q * 2 + 1) (by omega)
                have z0 : wr.frozen? ⟨g, q * 2, none⟩ = false := by have hb0 : wr.heap[g]? = _ := hbk; simp [World.frozen?, hb0]
                have z1 : wr.frozen? ⟨g, q * 2 + 1, none⟩ = false := by have hb0 : wr.heap[g]? = _ := hbk; simp [World.frozen?, hb0]
                have hb4 := (hbd.set (q * 2) (.int .i64 x2.1)).set (q * 2 + 1) (.int .u8 x2.2)
                rw [hs2] at hb4
                have hg4 := grown_set (grown_set hgd (q * 2) (.int .i64 x2.1)) (q * 2 + 1) (.int .u8 x2.2)
                generalize (cellsJ xs ++ rest)[q * 2] = y0 at c0
                generalize (cellsJ xs ++ rest)[q * 2 + 1] = y1 at c1
                have a0 := a0 wr (Ext.refl wr)
                have a1 := a1 wr (Ext.refl wr)
                have hql2 : (q : Int) < l.length := by omega
                have hpe : k + 1 + (p + 1) + 1 = k + 1 + p + 1 + 1 := by omega
                clear hC cell hbk hgw a2 a3 hne hs2
                go_wp2_with fail
                go_roundw
                case rel => exact ⟨p + 1, q + 1, xs.set q x2, by go_num, by go_num, by rw [hpe]; exact HK.out, hb4, hg4⟩
                case measure => simp [RowKit.intOf]; omega
              · have hee : x2 = y2 := of_decide_eq_true HD2.out
                subst hee
                have HK := Lib.hid (hC.same hxx hyy)
                have hpe : k + 1 + (p + 1) + 1 = k + 1 + p + 1 + 1 := by omega
                clear hC cell hbk hgw a0 a1 a2 a3
                go_wp2_with fail
                go_roundw
                case rel => exact ⟨p + 1, q, xs, by go_num, rfl, by rw [hpe]; exact HK.out, hbd, hgd⟩
                case measure => simp [RowKit.intOf]; omega
            · have hje : k + 1 + p + 1 = l.length := by omega
              have n0 : ¬ ((p : Int) + 1) < ((l.length - (k + 1) : Nat) : Int) := by omega
              have hql2 : ¬ (l.length : Int) < q := by omega
              have hql0 : (0 : Int) ≤ q := by omega
              have hqc : ¬ cap = q := by omega
              have hpre := hC.pre
              have hcnt := hC.cnt
              rw [hje, List.take_of_length_le (Nat.le_refl l.length)] at hpre hcnt
              have HPR := Lib.hid hpre
              obtain ⟨W3, cs3, hrun, b3, l3, t3, g3⟩ := run_clear_blk (w := wr) (t := 36) (e := 32) (ty := 0) (n := l.length - q) (off := q * 2) (c := cap - q) Try.underlying36 zeroJob (by intro v hv; simp [Value.cells] at hv; rcases hv with rfl | rfl <;> rfl) (by omega) hbk (by
                have : (Value.agg #[.int .i64 0, .int .u8 0]).cells.size = 2 := rfl
                rw [this, hcl]; omega)
              have hpc : cellsJ (xs.take q) = (cellsJ xs).take (q * 2) := cellsK_take (k := 2) (fun _ => rfl) xs q
              have hpl : (cellsJ xs).length = xs.length * 2 := cellsJ_length xs
              have hcs : cs3 = cellsJ (xs.take q) ++ cs3.drop (q * 2) := by
                have h0 : cs3.take (q * 2) = cellsJ (xs.take q) := by rw [t3, hpc, List.take_append_of_le_length (by omega)]
                rw [← h0, List.take_append_drop]
              have hlt3 : (xs.take q).length = q := by rw [List.length_take]; omega
              have hfin : W3.ownsRow base 32 2 (.slice (some ⟨g, 0, none⟩) q cap) (xs.take q).length (cellsJ (xs.take q)) := by
                rw [hlt3]
                rw [hcs] at b3 l3
                exact Owns.ofBlk b3 hg (by omega) (by rw [cellsJ_length, hlt3]) (by rw [l3, hcl]) HMX.out
              have hg3' := hgw.trans g3
              have HFI := Lib.hid hfin
              clear hcs hpc hpl b3 l3 t3 hfin hbk hpre hcnt hC
              go_wp2_with fail
              go_ret
              exact ⟨_, rfl, by rw [← HPR.out]; exact HFI.out, hg3', rfl⟩
      · obtain hkl : k + 1 = l.length := by omega
        rw [hkl, List.take_of_length_le (Nat.le_refl _)] at hcl
        have hkl2 : ¬ (k : Int) + 1 < l.length := by omega
        have HCL := Lib.hid hcl
        clear hcl
        go_wp2_with fail
        go_ret
        refine ⟨_, rfl, ?_, hgw, rfl⟩
        rw [HCL.out]
        exact Owns.kept HOWN.out (row := none) ⟨hgw.os, hgw.tape, hgw.output, hgw.size, fun q hq _ => by rw [hhp]⟩ (fun k hk e => by cases e)
end Go.Proofs.Ytclgclcoblfddaa
