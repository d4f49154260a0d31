/- Chapter 23: Order. -/
import Derived.Test.YthlobpdcolgcoaaRingAll
namespace Go.Proofs.Ythlobpdcolgcoaa
open Go.RowKit Go.Maps Go.Lib
set_option linter.unusedVariables false
set_option linter.unusedSimpArgs false

def bump (ws : List Int) (k : Nat) (d : Int) : List Int := ws.set k (ws.getD k 0 + d)
def bumpAll (ws row : List Int) (d : Int) : List Int := row.foldl (fun ws k => bump ws k.toNat d) ws
def degTo (tb : List (List Int)) : Nat → List Int
  | 0 => List.replicate tb.length 0
  | i + 1 => bumpAll (degTo tb i) (tb.getD i []) 1
def ordS (tb : List (List Int)) : Nat → List Int → Option (List Int)
  | 0, _ => some []
  | j + 1, ws => if idx ws 0 < 0 then none else (ordS tb j (bumpAll (ws.set (idx ws 0).toNat (-1)) (rowOf tb (idx ws 0)) (-1))).map (idx ws 0 :: ·)
def OrderL (tb : List (List Int)) : List Int := (ordS tb tb.length (degTo tb tb.length)).getD []
/-- n numbers, none far from nought. -/
def Bd (n c : Nat) (ws : List Int) : Prop := ws.length = n ∧ ∀ (i : Nat) v, ws[i]? = some v → -(c : Int) ≤ v ∧ v ≤ c
theorem Bd.set {n c : Nat} {ws : List Int} (h : Bd n c ws) (k : Nat) (v : Int) (c' : Nat) (hc : c ≤ c') (hv : -(c' : Int) ≤ v ∧ v ≤ c') : Bd n c' (ws.set k v) := by
  refine ⟨by simpa using h.1, fun i u hu => ?_⟩
  by_cases hik : k = i
  · subst hik
    rcases Nat.lt_or_ge k ws.length with h1 | h1
    · rw [List.getElem?_set_self h1] at hu
      cases hu
      exact hv
    · rw [List.getElem?_eq_none (by simpa using h1)] at hu
      cases hu
  · rw [List.getElem?_set_ne hik] at hu
    have := h.2 i u hu
    omega
theorem Bd.mono {n c c' : Nat} {ws : List Int} (h : Bd n c ws) (hc : c ≤ c') : Bd n c' ws := ⟨h.1, fun i v hv => by have := h.2 i v hv; omega⟩
theorem Bd.at {n c : Nat} {ws : List Int} (h : Bd n c ws) {k : Nat} (hk : k < n) : ∃ v, ws[k]? = some v ∧ ws.getD k 0 = v ∧ -(c : Int) ≤ v ∧ v ≤ c := by
  have hk' : k < ws.length := by rw [h.1]; exact hk
  exact ⟨ws[k], List.getElem?_eq_getElem hk', by rw [List.getD_eq_getElem?_getD, List.getElem?_eq_getElem hk']; rfl, h.2 k _ (List.getElem?_eq_getElem hk')⟩
theorem bumpAll_step {ws row : List Int} {k : Nat} {p : Nat} (d : Int) (h : row[k]? = some (p : Int)) : bumpAll ws (row.take (k + 1)) d = bump (bumpAll ws (row.take k) d) p d := by
  unfold bumpAll
  rw [List.take_add_one, h, List.foldl_append]
  rfl
theorem ints_set (ws : List Int) (k : Nat) (v : Int) : (ints ws).set k (.int .i64 v) = ints (ws.set k v) := by simp [ints]
theorem make_ints (n : Nat) (hn : n ≤ 1000000) (W : World) : (Instr.makeSlice 40 (.int .i64 n) (.int .i64 n)).run Try.prog W = .ok (.slice (some ⟨W.heap.size, 0, none⟩) n n) (W.alloc (.cells (List.replicate n (Value.int .i64 0)).toArray 3)) := by
  obtain ⟨i, hi, hz, hsz, hby⟩ := info_parts infoInt
  rw [run_makeSlice W 40 3 i _ Try.underlying40 hi hz .i64 .i64 n n (by omega) (by omega) (by rw [hsz]; simp; omega) (by rw [hby]; omega) (by omega)]
  rw [hsz, Nat.mul_one, Int.toNat_natCast]
  congr 3
  exact madeCells_one _ n rfl
theorem Blk.rdv {W : World} {g : Nat} {vs : List Value} {T : TypeId} (h : Blk W g vs T) : RdV W (some ⟨g, 0, none⟩) vs := .inr ⟨g, 0, rfl, fun j v hv => by rw [Nat.zero_add]; exact h.cell j hv⟩
theorem idx_range {ws : List Int} {n : Int} (h : ¬ idx ws n < 0) : (idx ws n).toNat < ws.length := by
  unfold idx at *
  split
  · rename_i hm
    rw [Int.toNat_natCast]
    exact List.idxOf_lt_length_of_mem hm
  · rename_i hm
    rw [if_neg hm] at h
    omega

set_option maxRecDepth 100000 in
set_option maxHeartbeats 2000000 in
theorem Order_calls (cs : List Value) (af be : List (List Int)) (l : List It) (A : Option Addr) (cap : Nat) (w : World) (h : GR w cs af be) (hr : RdI w A l) (hlen : l.length ≤ 64) (hcap : l.length ≤ cap) :
    Calls Try.prog 15 #[.agg cs.toArray, .slice A l.length cap] w fun e w' => ∃ B c, e = .returned (.slice B (OrderL (nextL af be l)).length c) ∧ RdO w.heap.size w' B c (OrderL (nextL af be l)) ∧ Ext w w' := by
  have hl : cs.length = 10 := by obtain ⟨_, _, _, _, _, _, h0, _⟩ := h; exact h0
  have HT := Lib.hid (rowG cs.length hl)
  have HF := Lib.hid fun W => fewl_calls l.length cap A W hlen hcap
  have HN := Lib.hid fun W hW => next_calls cs af be l A cap W (h.ext hW) (hr.ext (W' := W) hW) hlen
  have hrl0 := nextL_length af be l
  have hro := fun rs hrows hrl => rows_of (rs := rs) (af := af) (be := be) (l := l) hrows hrl hlen
  obtain ⟨tb, htb⟩ : ∃ tb, nextL af be l = tb := ⟨_, rfl⟩
  rw [htb] at HN hrl0 hro ⊢
  obtain ⟨n, hn⟩ : ∃ n, l.length = n := ⟨_, rfl⟩
  rw [hn] at HF HN hro hlen hcap hrl0 ⊢
  go_enter Try.func15, Try.ntmps15
  go_upto_region 1 with (fail)
  refine wp_gen (fun W => Blk W w.heap.size cs 24 ∧ Ext w W) ⟨Blk.new w cs _, (Ext.refl w).alloc _⟩ ?_
  obtain ⟨G, hG⟩ : ∃ G, w.heap.size = G := ⟨_, rfl⟩
  rw [hG]
  clear hG h hr
  rintro W0 ⟨hb, hx0⟩
  refine wp_region_mix (fun W => Blk W G cs 24) 3 [(0, true), (1, true), (2, false), (3, false), (4, false)] (by kernel_rfl) (by kernel_rfl) (hb.drew) ?_
  (apply mix_read; (case ho => rfl); (case hw => rfl); (case h1 => intro W' hx; exact read_load_blk rfl rfl (HT.out) hx); (case hp => go_simp; first | done | with_reducible rfl))
  (apply mix_read; (case ho => rfl); (case hw => rfl); (case h1 => intro W' hx; (try dsimp only at hx); go_simp; (try go_bits); with_reducible rfl); (case hp => go_simp; first | done | with_reducible rfl))
  refine mix_loud rfl ?_; intro KY hKY
  go_wp2_with fail
  refine (HF.out _).mono ?_
  rintro e W1 ⟨rfl, rfl⟩
  go_wp2_with fail
  refine ⟨hb.drew, ?_⟩
  refine mix_end 3 (by kernel_rfl) (by kernel_rfl) ?_; simp only [List.take_succ_cons, List.take_zero, List.drop_succ_cons, List.drop_zero]; unfold Q0
  go_wp2_with fail
  refine (HN.out _ hx0.drew).mono ?_
  rintro e W1 ⟨B, c, rs, rfl, hR, hrows, hrl, hx1⟩
  go_wp2_with fail
  obtain ⟨hrow, hent⟩ := hro rs hrows hrl
  have hxw : Ext w W1 := hx0.drew.trans hx1
  clear HN HF HT hb hx1 hx0 hro hn
  have hmk := make_ints n (by omega) W1
  have HR0 := Lib.hid hrow
  have HE0 := Lib.hid hent
  clear hrow hent
  go_upto_region 4 with (fail)
  rw [hmk]
  go_upto_region 4 with (fail)
  refine wp_gen (fun W => Blk W W1.heap.size (ints (degTo tb 0)) 3 ∧ Ext W1 W) ⟨by
    have := Blk.new W1 (List.replicate n (Value.int .i64 0)) 3
    rw [show ints (degTo tb 0) = List.replicate n (Value.int .i64 0) by simp [ints, degTo, hrl0]]
    first | exact this | simpa using this, (Ext.refl _).alloc _⟩ ?_
  clear hmk
  obtain ⟨g, hg⟩ : ∃ g, W1.heap.size = g := ⟨_, rfl⟩
  rw [hg]
  rintro W2 ⟨hb0, hx2⟩
  have hd0 : Bd n 0 (degTo tb 0) := ⟨by simp [degTo, hrl0], fun i v hv => by
    simp only [degTo, List.getElem?_replicate] at hv
    split at hv <;> cases hv
    omega⟩
  go_loopw [24] (fun i W => ∃ k : Nat, k ≤ n ∧ i = .int .i64 k ∧ Blk W g (ints (degTo tb k)) 3 ∧ Bd n (k * 64) (degTo tb k) ∧ Ext W1 W) (fun i _ => n - (RowKit.intOf i).toNat)
  case atStart => exact ⟨0, by omega, rfl, hb0, by simpa using hd0, hx2⟩
  case round =>
    clear hb0 hd0 hx2
    obtain ⟨k, hk, rfl, hb, hd, hx⟩ := hrel
    by_cases hlt : k < n
    · have hlti : (k : Int) < n := by omega
      obtain ⟨b, o, B2, c2, xs, hA, he, hcell, hrd⟩ := (hR.ext hx).at (i := k) (by omega)
      subst hA
      have hxl := HR0.out _ (List.mem_of_getElem? he)
      have hxe := HE0.out _ (List.mem_of_getElem? he)
      have hrd0 := hR.2 _ (List.mem_of_getElem? he)
      simp only at hxl hxe hrd0
      have hgd : tb.getD k [] = xs := by rw [← hrows]; exact getD_row he
      have HD := Lib.hid (show degTo tb (k + 1) = bumpAll (degTo tb k) xs 1 by rw [degTo, hgd])
      obtain ⟨ws, hws⟩ : ∃ ws, degTo tb k = ws := ⟨_, rfl⟩
      rw [hws] at hb hd HD
      clear hws hgd
      go_upto_region 7 with (fail)
      go_loopw [30] (fun i' W => ∃ j : Nat, j ≤ xs.length ∧ i' = .int .i64 j ∧ Blk W g (ints (bumpAll ws (xs.take j) 1)) 3 ∧ Bd n (k * 64 + j) (bumpAll ws (xs.take j) 1) ∧ Ext W1 W) (fun i' _ => xs.length - (RowKit.intOf i').toNat)
      case atStart => exact ⟨0, by omega, rfl, hb, hd, hx⟩
      case round =>
        clear hb hd hx hrd hcell
        obtain ⟨j, hj, rfl, hb, hd, hx⟩ := hrel
        by_cases hjt : j < xs.length
        · have hjti : (j : Int) < xs.length := by omega
          obtain ⟨b5, o5, hB5, hcc⟩ := (hrd0.ext hx).at (i := j) (by rw [ints_length]; exact hjt)
          subst hB5
          obtain ⟨y, hy⟩ : ∃ y, xs[j]? = some y := ⟨_, List.getElem?_eq_getElem hjt⟩
          have c3 := hcc j (.int .i64 y) (by rw [ints_get, hy]; rfl)
          obtain ⟨hy0, hyn⟩ := hxe y (List.mem_of_getElem? hy)
          obtain ⟨p, rfl⟩ : ∃ p : Nat, y = p := ⟨y.toNat, by omega⟩
          have HS := Lib.hid (bumpAll_step (ws := ws) 1 hy)
          obtain ⟨us, hus⟩ : ∃ us, bumpAll ws (xs.take j) 1 = us := ⟨_, rfl⟩
          rw [hus] at hb hd HS
          clear hus
          obtain ⟨v, hv1, hv2, hv3, hv4⟩ := hd.at (k := p) (by omega)
          have c4 := hb.cell p (show (ints us)[p]? = some (.int .i64 v) by rw [ints_get, hv1]; rfl)
          have z4 := hb.frozen p
          have hpn : (p : Int) < n := by omega
          have HB := Lib.hid (show Blk (wr.setCell ⟨g, p, none⟩ (.int .i64 (v + 1))) g (ints (bumpAll ws (xs.take (j + 1)) 1)) 3 by
            have := hb.set p (.int .i64 (v + 1))
            rw [ints_set] at this
            rw [HS.out, bump, hv2]
            exact this)
          have HBd := Lib.hid (show Bd n (k * 64 + (j + 1)) (bumpAll ws (xs.take (j + 1)) 1) by
            rw [HS.out, bump, hv2]
            exact hd.set p (v + 1) _ (by omega) (by omega))
          clear hb hd
          go_wp2_with fail
          go_roundw
          case rel => exact ⟨j + 1, by omega, by go_num, HB.out, HBd.out, hx.setCell (by simp; omega) _⟩
          case measure => simp [RowKit.intOf]; omega
        · obtain rfl : j = xs.length := by omega
          rw [List.take_of_length_le (Nat.le_refl _), ← HD.out] at hb hd
          clear HD
          go_wp2_with fail
          go_roundw
          case rel => exact ⟨k + 1, by omega, by go_num, hb, hd.mono (by omega), hx⟩
          case measure => simp [RowKit.intOf]; omega
    · obtain rfl : n = k := by omega
      go_upto_region 14 with (fail)
      rename World => W3
      have hg3 : g < W3.heap.size := hb.lt
      have hw3 : w.heap.size ≤ W3.heap.size := Nat.le_trans hxw.size hx.size
      obtain ⟨R0, hR0⟩ : ∃ R, ordS tb n (degTo tb n) = R := ⟨_, rfl⟩
      have HO := Lib.hid (show OrderL tb = R0.getD [] by unfold OrderL; rw [hrl0, hR0])
      obtain ⟨w0, hw0⟩ : ∃ w0, degTo tb n = w0 := ⟨_, rfl⟩
      rw [hw0] at hb hd hR0
      clear hw0
      go_loopw [44, 11] (fun i v W => ∃ (j : Nat) (out ws : List Int), j ≤ n ∧ i = .int .i64 j ∧ out.length = j ∧ W.ownsRow W3.heap.size 3 1 v out.length (ints out) ∧ Blk W g (ints ws) 3 ∧ Bd n (5000 + j * 65) ws ∧ (ordS tb (n - j) ws).map (out ++ ·) = R0 ∧ Ext W1 W ∧ W3.heap.size ≤ W.heap.size) (fun i _ _ => n - (RowKit.intOf i).toNat)
      case atStart => exact ⟨0, [], w0, by omega, rfl, rfl, World.ownsRow_nil _ _ _ _, hb, hd.mono (by omega), by rw [← hR0, Nat.sub_zero]; simp, hx, Nat.le_refl _⟩
      case round =>
        clear hb hd hx
        obtain ⟨j, out, ws, hj, rfl, hol, hown, hb, hd, hord, hx, hsz⟩ := hrel
        obtain ⟨B4, c4, rfl, hrdo, hbase⟩ := Owns.rd hown
        have HOL := Lib.hid hol
        clear hol
        by_cases hjt : j < n
        · have hjti : (j : Int) < n := by omega
          obtain ⟨m, hm⟩ : ∃ m, n - j = m + 1 := ⟨n - j - 1, by omega⟩
          rw [hm, ordS] at hord
          have HI := Lib.hid (index_calls ws 0 (some ⟨g, 0, none⟩) n wr hb.rdv (by rw [hd.1]; omega))
          have hwl := hd.1
          rw [hwl] at HI
          obtain ⟨a, ha⟩ : ∃ a, idx ws 0 = a := ⟨_, rfl⟩
          by_cases hneg : a < 0
          · rw [ha, if_pos hneg] at hord
            have HR := Lib.hid (show OrderL tb = [] by rw [HO.out, ← hord]; rfl)
            rw [ha] at HI
            go_wp2_with fail
            refine HI.out.mono ?_
            rintro e W5 ⟨rfl, rfl⟩
            go_wp2_with fail
            go_ret
            exact ⟨none, 0, by rw [HR.out]; rfl, by rw [HR.out]; exact RdO.nil _ _, hxw.trans hx⟩
          · rw [ha, if_neg hneg] at hord
            have har := idx_range (ha ▸ hneg)
            rw [ha, hwl] at har
            rw [ha] at HI
            obtain ⟨p, rfl⟩ : ∃ p : Nat, a = p := ⟨a.toNat, by omega⟩
            rw [Int.toNat_natCast] at har hord
            have hpn : (p : Int) < n := by omega
            have HORD := Lib.hid hord
            clear hord ha hneg
            go_wp2_with fail
            refine HI.out.mono ?_
            rintro e W5 ⟨rfl, h5⟩
            obtain rfl : wr = W5 := h5.symm
            obtain ⟨v, hv1, hv2, hv3, hv4⟩ := hd.at (k := p) (by omega)
            have c4' := hb.cell p (show (ints ws)[p]? = some (.int .i64 v) by rw [ints_get, hv1]; rfl)
            have z4 := hb.frozen p
            obtain ⟨b, o, B2, c2, xs, hA, he, hcell1, hrd⟩ := hR.at (i := p) (by omega)
            subst hA
            have hcell := hx.cell hcell1
            have h9 := World.block_lt_of_cell? W1 _ hcell1
            simp only at h9
            have hxl := HR0.out _ (List.mem_of_getElem? he)
            have hxe := HE0.out _ (List.mem_of_getElem? he)
            have hrd0 := hR.2 _ (List.mem_of_getElem? he)
            simp only at hxl hxe hrd0
            have hro : rowOf tb (p : Int) = xs := by
              unfold rowOf
              rw [if_neg (by omega), Int.toNat_natCast, ← hrows]
              exact getD_row he
            have hb1 : Blk (wr.setCell ⟨g, p, none⟩ (.int .i64 (-1))) g (ints (ws.set p (-1))) 3 := by
              have := hb.set p (.int .i64 (-1))
              rwa [ints_set] at this
            have hd1 : Bd n (5000 + j * 65) (ws.set p (-1)) := hd.set p (-1) _ (Nat.le_refl _) (by omega)
            have hx1 : Ext W1 (wr.setCell ⟨g, p, none⟩ (.int .i64 (-1))) := hx.setCell (by simp; omega) _
            have hown1 : (wr.setCell ⟨g, p, none⟩ (.int .i64 (-1))).ownsRow W3.heap.size 3 1 (.slice B4 out.length c4) out.length (ints out) := Owns.set hown p _ hg3
            go_upto_region 19 with (fail)
            refine wp_gen (fun W => Blk W g (ints (ws.set p (-1))) 3 ∧ Ext W1 W ∧ W.ownsRow W3.heap.size 3 1 (.slice B4 out.length c4) out.length (ints out) ∧ W3.heap.size ≤ W.heap.size ∧ W.cell? ⟨b, o + p, none⟩ = some (.slice B2 xs.length c2)) ⟨hb1, hx1, hown1, by rw [World.size_setCell]; exact hsz, by
              rw [cell_set_other (by simp; omega)]
              exact hcell⟩ ?_
            clear hb hd hx hown hb1 hx1 hown1 hsz hcell hcell1 h9 hrd z4 c4' hv1 hv2 hv3 hv4 HI hrdo
            rintro W6 ⟨hb, hx, hown, hsz, hcell⟩
            obtain ⟨ws1, hws1⟩ : ∃ ws1, ws.set p (-1) = ws1 := ⟨_, rfl⟩
            rw [hws1] at hb hd1 HORD
            clear hws1
            rename Bd n (5000 + j * 65) ws1 => hd
            go_upto_region 20 with (fail)
            go_loopw [58] (fun i' W => ∃ q : Nat, q ≤ xs.length ∧ i' = .int .i64 q ∧ Blk W g (ints (bumpAll ws1 (xs.take q) (-1))) 3 ∧ Bd n (5000 + j * 65 + q) (bumpAll ws1 (xs.take q) (-1)) ∧ Ext W1 W ∧ W.ownsRow W3.heap.size 3 1 (.slice B4 out.length c4) out.length (ints out) ∧ W3.heap.size ≤ W.heap.size) (fun i' _ => xs.length - (RowKit.intOf i').toNat)
            case atStart => exact ⟨0, by omega, rfl, hb, hd, hx, hown, hsz⟩
            case round =>
              clear hb hd hx hown hsz hcell
              obtain ⟨q, hq, rfl, hb, hd, hx, hown, hsz⟩ := hrel
              by_cases hqt : q < xs.length
              · have hqti : (q : Int) < xs.length := by omega
                obtain ⟨b5, o5, hB5, hcc⟩ := (hrd0.ext hx).at (i := q) (by rw [ints_length]; exact hqt)
                subst hB5
                obtain ⟨y, hy⟩ : ∃ y, xs[q]? = some y := ⟨_, List.getElem?_eq_getElem hqt⟩
                have c3 := hcc q (.int .i64 y) (by rw [ints_get, hy]; rfl)
                obtain ⟨hy0, hyn⟩ := hxe y (List.mem_of_getElem? hy)
                obtain ⟨r, rfl⟩ : ∃ r : Nat, y = r := ⟨y.toNat, by omega⟩
                have HS := Lib.hid (bumpAll_step (ws := ws1) (-1) hy)
                obtain ⟨us, hus⟩ : ∃ us, bumpAll ws1 (xs.take q) (-1) = us := ⟨_, rfl⟩
                rw [hus] at hb hd HS
                clear hus
                obtain ⟨v, hv1, hv2, hv3, hv4⟩ := hd.at (k := r) (by omega)
                have c4 := hb.cell r (show (ints us)[r]? = some (.int .i64 v) by rw [ints_get, hv1]; rfl)
                have z4 := hb.frozen r
                have hrn : (r : Int) < n := by omega
                have HB := Lib.hid (show Blk (wr.setCell ⟨g, r, none⟩ (.int .i64 (v - 1))) g (ints (bumpAll ws1 (xs.take (q + 1)) (-1))) 3 by
                  have := hb.set r (.int .i64 (v - 1))
                  rw [ints_set] at this
                  rw [HS.out, bump, hv2]
                  exact this)
                have HBd := Lib.hid (show Bd n (5000 + j * 65 + (q + 1)) (bumpAll ws1 (xs.take (q + 1)) (-1)) by
                  rw [HS.out, bump, hv2]
                  exact hd.set r (v + -1) _ (by omega) (by omega))
                have HOW := Lib.hid (Owns.set hown r (.int .i64 (v - 1)) hg3)
                clear hb hd hown
                go_wp2_with fail
                go_roundw
                case rel => exact ⟨q + 1, by omega, by go_num, HB.out, HBd.out, hx.setCell (by simp; omega) _, HOW.out, by rw [World.size_setCell]; exact hsz⟩
                case measure => simp [RowKit.intOf]; omega
              · obtain rfl : q = xs.length := by omega
                rw [List.take_of_length_le (Nat.le_refl _)] at hb hd
                rename World => W7
                have hxs : bumpAll ws1 xs (-1) = bumpAll ws1 (rowOf tb p) (-1) := by rw [hro]
                go_wp2_with (refine wpList_append_int rfl (.tmp 69) (.tmp 71) 40 3 rfl Try.underlying40 infoInt W3.heap.size (.slice B4 out.length c4) out rfl (hown.alloc _) W7.heap.size 1 p rfl ((Blk.new W7 [.int .i64 p] 3).cell 0 rfl) (by rw [HOL.out]; omega) (by rw [World.size_alloc]; exact Nat.le_succ_of_le hsz) ?_; intro v' W8 o8 g8 s8)
                go_roundw
                case rel =>
                  refine ⟨j + 1, out ++ [(p : Int)], bumpAll ws1 xs (-1), by omega, by go_num, by rw [List.length_append, HOL.out]; rfl, o8, Grown.blk g8 (hb.alloc _) ?_, hd.mono (by omega), ?_, ?_, ?_⟩
                  · cases B4 with
                    | none => simp [Value.ownBlock]
                    | some ad =>
                      have := hbase ad rfl
                      intro e
                      simp only [Value.ownBlock, Option.some.injEq] at e
                      omega
                  · rw [← HORD.out, show n - (j + 1) = m by omega, hro, Option.map_map]
                    congr 1
                    funext u
                    simp
                  · refine Grown.toExt (hx.alloc _) g8 (fun i hi => ?_)
                    cases B4 with
                    | none => cases hi
                    | some ad =>
                      cases hi
                      have := hbase ad rfl
                      omega
                  · exact Nat.le_trans hsz (Nat.le_trans (by rw [World.size_alloc]; omega) g8.size)
                case measure => simp [RowKit.intOf]; omega
        · obtain rfl : n = j := by omega
          rw [Nat.sub_self, ordS] at hord
          have HR := Lib.hid (show OrderL tb = out by rw [HO.out, ← hord]; simp)
          clear hord
          go_wp2_with fail
          go_ret
          exact ⟨B4, c4, by rw [HR.out]; rfl, by rw [HR.out]; exact ⟨hrdo, Owns.lower hown (by first | exact hw3 | (have := hxw.size; omega))⟩, hxw.trans hx⟩
end Go.Proofs.Ythlobpdcolgcoaa
