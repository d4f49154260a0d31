/- Chapter 23: of each item those that it comes ahead of. -/
import Derived.Test.YthlobpdcolgcoaaRefAhead
import Derived.Test.YthlobpdcolgcoaaTable
namespace Go.Proofs.Ythlobpdcolgcoaa
open Go.RowKit Go.Lib
set_option linter.unusedVariables false
set_option linter.unusedSimpArgs false

def ahd (af be : List (List Int)) (a b : It) : Bool := aheadB af be a.u a.t b.u b.t
def dIt : It := ⟨0, 0, false⟩
def rowTo (af be : List (List Int)) (l : List It) (a : It) (k : Nat) : List Int := ((List.range k).filter fun j => ahd af be a (l.getD j dIt)).map Int.ofNat
def nextL (af be : List (List Int)) (l : List It) : List (List Int) := l.map fun a => rowTo af be l a l.length
theorem rowTo_succ (af be : List (List Int)) (l : List It) (a : It) (k : Nat) : rowTo af be l a (k + 1) = rowTo af be l a k ++ (if ahd af be a (l.getD k dIt) then [(k : Int)] else []) := by
  unfold rowTo
  rw [List.range_succ, List.filter_append, List.map_append]
  congr 1
  rw [List.filter_cons]
  by_cases h : ahd af be a (l.getD k dIt) = true
  · rw [if_pos h, if_pos h]; rfl
  · rw [if_neg h, if_neg h]; rfl
theorem rowTo_length (af be : List (List Int)) (l : List It) (a : It) (k : Nat) : (rowTo af be l a k).length ≤ k := by
  unfold rowTo
  rw [List.length_map]
  exact Nat.le_trans (List.length_filter_le _ _) (by simp)

/-- The table while it is filled: rows before i whole, row i up to k. -/
def NInv (W : World) (base g : Nat) (T e : TypeId) (af be : List (List Int)) (l : List It) (q i k : Nat) : Prop :=
  ∃ rs : List (Value × List Int), rs.length = l.length ∧ ORows W base g T e rs ∧ (∀ (p : Nat) v xs, rs[p]? = some (v, xs) → v.ownBlock ≠ some q) ∧
    ∀ (p : Nat) x, l[p]? = some x → ∃ v, rs[p]? = some (v, rowTo af be l x (if p < i then l.length else if p = i then k else 0))
theorem NInv.ext {W W' : World} {base g : Nat} {T e : TypeId} {af be : List (List Int)} {l : List It} {q i k : Nat} (h : NInv W base g T e af be l q i k) (hx : Ext W W') : NInv W' base g T e af be l q i k := by
  obtain ⟨rs, h1, h2, h3⟩ := h
  exact ⟨rs, h1, h2.ext hx, h3⟩
theorem NInv.fresh {W : World} {base g : Nat} {T e : TypeId} {af be : List (List Int)} {l : List It} {q i k : Nat} (h : NInv W base g T e af be l q i k) {q' : Nat} (hq : W.heap.size ≤ q') : NInv W base g T e af be l q' i k := by
  obtain ⟨rs, h1, h2, h3, h4⟩ := h
  refine ⟨rs, h1, h2, fun p v xs hp e => ?_, h4⟩
  have := ((h2.own p v xs hp).lt q' e).2
  omega
theorem cell_set_other {W : World} {a p : Addr} {v : Value} (h : p.block ≠ a.block) : (W.setCell a v).cell? p = W.cell? p := by
  unfold World.cell? World.setCell
  simp only
  rw [Array.getElem?_modify, if_neg (fun e => h e.symm)]
theorem Grown.after_alloc {W W1 : World} {o : Obj} {row : Option Nat} (h : (W.alloc o).grownBy W1 row) : W.grownBy W1 row :=
  have k := World.grownBy_alloc W o row
  ⟨h.os.trans k.os, h.tape.trans k.tape, h.output.trans k.output, Nat.le_trans k.size h.size, fun i hi hne => (h.block i (Nat.lt_of_lt_of_le hi k.size) hne).trans (k.block i hi hne)⟩
theorem Grown.cell1 {W W1 : World} {B : Option Addr} {n c q j : Nat} {u : Value} (h : W.grownBy W1 (Value.slice B n c).ownBlock) (hc : W.cell? ⟨q, j, none⟩ = some u) (hq : ∀ a, B = some a → a.block ≠ q) : W1.cell? ⟨q, j, none⟩ = some u :=
  h.cell hc (by
    cases B with
    | none => simp [Value.ownBlock]
    | some ad =>
      intro e
      have : q = ad.block := by simpa [Value.ownBlock] using e
      exact hq ad rfl this.symm)
theorem NInv.low {W : World} {base g : Nat} {T e : TypeId} {af be : List (List Int)} {l : List It} {q i k : Nat} (h : NInv W base g T e af be l q i k) : base ≤ W.heap.size := by
  obtain ⟨rs, h1, h2, _⟩ := h
  exact h2.low
theorem NInv.row {W : World} {base g : Nat} {T e : TypeId} {af be : List (List Int)} {l : List It} {q i : Nat} (h : NInv W base g T e af be l q i l.length) : NInv W base g T e af be l q (i + 1) 0 := by
  obtain ⟨rs, h1, h2, h3, h4⟩ := h
  refine ⟨rs, h1, h2, h3, fun p x hp => ?_⟩
  obtain ⟨v, hv⟩ := h4 p x hp
  refine ⟨v, ?_⟩
  rw [hv]
  congr 3
  rcases Nat.lt_trichotomy p i with h5 | h5 | h5
  · rw [if_pos h5, if_pos (by omega)]
  · rw [if_neg (by omega), if_pos h5, if_pos (by omega)]
  · rw [if_neg (by omega), if_neg (by omega), if_neg (by omega)]
    split <;> rfl
theorem NInv.no {W : World} {base g : Nat} {T e : TypeId} {af be : List (List Int)} {l : List It} {q i k : Nat} (h : NInv W base g T e af be l q i k) {a : It} (hi : l[i]? = some a) (hk : ahd af be a (l.getD k dIt) = false) : NInv W base g T e af be l q i (k + 1) := by
  obtain ⟨rs, h1, h2, h3, h4⟩ := h
  refine ⟨rs, h1, h2, h3, fun p x hp => ?_⟩
  obtain ⟨v, hv⟩ := h4 p x hp
  refine ⟨v, ?_⟩
  rw [hv]
  rcases Nat.lt_trichotomy p i with h5 | h5 | h5
  · rw [if_pos h5, if_pos h5]
  · subst h5
    rw [hi] at hp
    cases hp
    rw [if_neg (by omega), if_pos rfl, if_neg (by omega), if_pos rfl, rowTo_succ, hk]
    simp
  · rw [if_neg (by omega), if_neg (by omega), if_neg (by omega), if_neg (by omega)]
theorem NInv.at {W : World} {base g : Nat} {T e : TypeId} {af be : List (List Int)} {l : List It} {q i k : Nat} (h : NInv W base g T e af be l q i k) {a : It} (hi : l[i]? = some a) (hk : ahd af be a (l.getD k dIt) = true) :
    ∃ A c, W.cell? ⟨g, i, none⟩ = some (.slice A (rowTo af be l a k).length c) ∧ W.ownsRow base e 1 (.slice A (rowTo af be l a k).length c) (rowTo af be l a k).length (ints (rowTo af be l a k)) ∧ (∀ a, A = some a → a.block ≠ q ∧ base ≤ a.block) ∧ base ≤ W.heap.size ∧
      ∀ W1 v', W1.ownsRow base e 1 v' (rowTo af be l a k ++ [(k : Int)]).length (ints (rowTo af be l a k ++ [(k : Int)])) → W.grownBy W1 (Value.slice A (rowTo af be l a k).length c).ownBlock →
        (∀ b, v'.ownBlock = some b → (Value.slice A (rowTo af be l a k).length c).ownBlock = some b ∨ W.heap.size ≤ b) → q < W.heap.size →
        (∃ old, W1.cell? ⟨g, i, none⟩ = some old) ∧ W1.frozen? ⟨g, i, none⟩ = false ∧ NInv (W1.setCell ⟨g, i, none⟩ v') base g T e af be l q i (k + 1) := by
  obtain ⟨rs, h1, h2, h3, h4⟩ := h
  obtain ⟨v, hv⟩ := h4 i a hi
  rw [if_neg (by omega), if_pos rfl] at hv
  have hown := h2.own i v _ hv
  obtain ⟨A, c, rfl, hrd, hA⟩ := Owns.rd hown
  refine ⟨A, c, ?_, hown, ?_, h2.low, ?_⟩
  · refine h2.blk.cell i ?_
    rw [List.getElem?_map, hv]
    rfl
  · intro ad had
    refine ⟨fun e => ?_, hA ad had⟩
    subst had
    exact h3 i _ _ hv (by simp [Value.ownBlock, e])
  · intro W1 v' ho hg hs hq
    have hst := h2.step hv ho hg hs
    have hne : some g ≠ (Value.slice A (rowTo af be l a k).length c).ownBlock := by
      intro e
      have := ((h2.own i _ _ hv).lt g e.symm).1
      have := h2.lt
      omega
    have hb1 := Grown.blk hg h2.blk hne
    refine ⟨⟨_, hb1.cell i (by rw [List.getElem?_map, hv]; rfl)⟩, hb1.frozen i, rs.set i (v', _), by simpa using h1, hst, ?_, ?_⟩
    · intro p u ys hp e
      by_cases hpi : i = p
      · subst hpi
        rw [List.getElem?_set_self (List.getElem?_eq_some_iff.1 hv).1] at hp
        cases hp
        rcases hs q e with h5 | h5
        · exact h3 i _ _ hv h5
        · omega
      · rw [List.getElem?_set_ne hpi] at hp
        exact h3 p u ys hp e
    · intro p x hp
      rcases Nat.lt_trichotomy p i with h5 | h5 | h5
      · obtain ⟨u, hu⟩ := h4 p x hp
        rw [if_pos h5] at hu ⊢
        exact ⟨u, by rw [List.getElem?_set_ne (by omega)]; exact hu⟩
      · subst h5
        rw [hi] at hp
        cases hp
        refine ⟨v', ?_⟩
        rw [List.getElem?_set_self (List.getElem?_eq_some_iff.1 hv).1, if_neg (by omega), if_pos rfl, rowTo_succ, if_pos hk]
      · obtain ⟨u, hu⟩ := h4 p x hp
        rw [if_neg (by omega), if_neg (by omega)] at hu ⊢
        exact ⟨u, by rw [List.getElem?_set_ne (by omega)]; exact hu⟩
/-- Done. -/
theorem NInv.done {W : World} {base g : Nat} {T e : TypeId} {af be : List (List Int)} {l : List It} {q : Nat} (h : NInv W base g T e af be l q l.length 0) : ∃ R : List Row, RdR W (some ⟨g, 0, none⟩) R ∧ rows R = nextL af be l ∧ R.length = l.length := by
  obtain ⟨rs, h1, h2, _, h4⟩ := h
  obtain ⟨R, r1, r2, r3⟩ := h2.rd
  refine ⟨R, r1, ?_, by omega⟩
  rw [r2]
  refine List.ext_getElem? fun p => ?_
  unfold nextL
  rw [List.getElem?_map, List.getElem?_map]
  cases hp : l[p]? with
  | none =>
    have : rs[p]? = none := by
      rw [List.getElem?_eq_none_iff] at hp ⊢
      omega
    rw [this]
    rfl
  | some x =>
    obtain ⟨v, hv⟩ := h4 p x hp
    rw [hv, if_pos (List.getElem?_eq_some_iff.1 hp).1]
    rfl
/-- The new table. -/
theorem NInv.new (W : World) (T e : TypeId) (af be : List (List Int)) (l : List It) (q : Nat) : NInv (W.alloc (.cells (List.replicate l.length (Value.slice none 0 0)).toArray T)) (W.heap.size + 1) W.heap.size T e af be l q 0 0 := by
  refine ⟨List.replicate l.length (.slice none 0 0, []), by simp, ⟨?_, by omega, by simp, ?_, ?_⟩, ?_, ?_⟩
  · rw [List.map_replicate]
    exact Blk.new _ _ _
  · intro i v xs hi
    rw [List.getElem?_replicate] at hi
    split at hi <;> cases hi
    exact World.ownsRow_nil _ _ _ _
  · intro i j v xs v' xs' k _ hi _ hk
    rw [List.getElem?_replicate] at hi
    split at hi <;> cases hi
    cases hk
  · intro i v xs hi hk
    rw [List.getElem?_replicate] at hi
    split at hi <;> cases hi
    cases hk
  · intro p x hp
    refine ⟨.slice none 0 0, ?_⟩
    rw [List.getElem?_replicate, if_pos (List.getElem?_eq_some_iff.1 hp).1]
    have : rowTo af be l x (if p < 0 then l.length else if p = 0 then 0 else 0) = [] := by
      rw [if_neg (by omega)]
      split <;> rfl
    rw [this]

theorem infoInt : (Try.prog.info? 3).map (fun i => (i.zero, i.size, i.bytes)) = some (some (.int .i64 0), 1, 8) := by kernel_rfl
theorem infoRow : (Try.prog.info? 40).map (fun i => (i.zero, i.size, i.bytes)) = some (some (.slice none 0 0), 1, 24) := by kernel_rfl
theorem madeCells_one (v : Value) (n : Nat) (h : v.cells = #[v]) : madeCells v.cells n = (List.replicate n v).toArray := by
  rw [h]
  unfold madeCells
  apply Array.ext
  · simp
  · intro i h1 h2
    simp [Nat.mod_one]
/-- make([][]int, n). -/
theorem make_rows (n : Nat) (hn : n ≤ 1000000) (W : World) : (Instr.makeSlice 22 (.int .i64 n) (.int .i64 n)).run Try.prog W = .ok (.slice (some ⟨W.heap.size, 0, none⟩) n n) (W.alloc (.cells (List.replicate n (Value.slice none 0 0)).toArray 40)) := by
  obtain ⟨i, hi, hz, hsz, hby⟩ := info_parts infoRow
  rw [run_makeSlice W 22 40 i _ Try.underlying22 hi hz .i64 .i64 n n (by omega) (by omega) (by rw [hsz]; simp; omega) (by rw [hby]; omega) (by omega)]
  rw [hsz, Nat.mul_one, Int.toNat_natCast]
  congr 3
  exact madeCells_one _ n rfl

theorem next_calls (cs : List Value) (af be : List (List Int)) (l : List It) (A : Option Addr) (cap : Nat) (w : World) (h : GR w cs af be) (hr : RdI w A l) (hlen : l.length ≤ 64) :
    Calls Try.prog 24 #[.agg cs.toArray, .slice A l.length cap] w fun e w' => ∃ B c R, e = .returned (.slice B (R : List Row).length c) ∧ RdR w' B R ∧ rows R = nextL af be l ∧ R.length = l.length ∧ Ext w w' := by
  have hl : cs.length = 10 := by obtain ⟨_, _, _, _, _, _, h0, _⟩ := h; exact h0
  have HT := Lib.hid (rowG cs.length hl)
  have HM := make_rows l.length (by omega)
  have C := Lib.hid fun (x y : It) W hW => ahead_calls cs af be x.u x.t y.u y.t W hW
  clear hl
  go_enter Try.func24, Try.ntmps24
  go_upto_region 1 with (fail)
  refine wp_gen (fun W => Blk W w.heap.size cs 24 ∧ GR W cs af be ∧ RdI W A l ∧ Ext w W) ⟨Blk.new w cs _, h.ext ((Ext.refl w).alloc _), hr.ext ((Ext.refl w).alloc _), (Ext.refl w).alloc _⟩ ?_
  obtain ⟨G, hG⟩ : ∃ G, w.heap.size = G := ⟨_, rfl⟩
  rw [hG]
  clear hG h hr
  rintro W0 ⟨hb, h, hr, hx0⟩
  go_upto_region 3 with (fail)
  refine wp_gen (fun W => NInv W (W0.heap.size + 1) W0.heap.size 40 3 af be l 0 0 0 ∧ Ext W0 W) ⟨NInv.new W0 _ _ af be l 0, (Ext.refl _).alloc _⟩ ?_
  obtain ⟨g, hg⟩ : ∃ g, W0.heap.size = g := ⟨_, rfl⟩
  rw [hg]
  rintro W1 ⟨hn, hx1⟩
  go_loopw [15] (fun i W => ∃ j : Nat, j ≤ l.length ∧ i = .int .i64 j ∧ (∃ q, NInv W (g + 1) g 40 3 af be l q j 0) ∧ Ext W0 W) (fun i _ => l.length - (RowKit.intOf i).toNat)
  case atStart => exact ⟨0, by omega, rfl, ⟨_, hn⟩, hx1⟩
  case round =>
    clear hn hx1
    obtain ⟨i, hi, rfl, ⟨q0, hn⟩, hx⟩ := hrel
    by_cases hlt : i < l.length
    · have hlti : (i : Int) < l.length := by omega
      have hrr := hr.ext hx
      obtain ⟨b, o, u, t, m, rfl, he, f1, f2, f3⟩ := hrr.at hlt
      clear HM
      go_upto_region 6 with (fail)
      refine wp_gen (fun W => Ext W0 W ∧ NInv W (g + 1) g 40 3 af be l wr.heap.size i 0 ∧ W.cell? ⟨wr.heap.size, 0, none⟩ = some (.int .i64 u) ∧ W.cell? ⟨wr.heap.size, 1, none⟩ = some (.int .u8 t) ∧ wr.heap.size < W.heap.size)
        ⟨hx.alloc _, (hn.fresh (Nat.le_refl _)).ext ((Ext.refl _).alloc _), by go_simp, by go_simp, by simp⟩ ?_
      have hgq := hn.low
      clear hn hx f1 f2 f3 hrr
      obtain ⟨q, hq⟩ : ∃ q, wr.heap.size = q := ⟨_, rfl⟩
      rw [hq] at hgq ⊢
      clear hq
      rintro W2 ⟨hx, hn, e0, e1, hq⟩
      go_loopw [22] (fun i' W => ∃ k : Nat, k ≤ l.length ∧ i' = .int .i64 k ∧ NInv W (g + 1) g 40 3 af be l q i k ∧ W.cell? ⟨q, 0, none⟩ = some (.int .i64 u) ∧ W.cell? ⟨q, 1, none⟩ = some (.int .u8 t) ∧ q < W.heap.size ∧ Ext W0 W) (fun i' _ => l.length - (RowKit.intOf i').toNat)
      case atStart => exact ⟨0, by omega, rfl, hn, e0, e1, hq, hx⟩
      case round =>
        clear hn hx e0 e1 hq
        obtain ⟨k, hk, rfl, hn, e0, e1, hq, hx⟩ := hrel
        by_cases hkt : k < l.length
        · have hkti : (k : Int) < l.length := by omega
          have hrr := hr.ext hx
          obtain ⟨b', o', u', t', m', hbo, hek, f1, f2, f3⟩ := hrr.at hkt
          cases hbo
          go_upto_region 8 with (fail)
          refine wp_gen (fun W => Ext W0 W ∧ NInv W (g + 1) g 40 3 af be l q i k ∧ W.cell? ⟨q, 0, none⟩ = some (.int .i64 u) ∧ W.cell? ⟨q, 1, none⟩ = some (.int .u8 t) ∧ q < W.heap.size ∧ W.cell? ⟨wr.heap.size, 0, none⟩ = some (.int .i64 u') ∧ W.cell? ⟨wr.heap.size, 1, none⟩ = some (.int .u8 t'))
            ⟨hx.alloc _, hn.ext ((Ext.refl _).alloc _), ((Ext.refl _).alloc _).cell e0, ((Ext.refl _).alloc _).cell e1, by rw [World.size_alloc]; omega, by go_simp, by go_simp⟩ ?_
          clear hn hx f1 f2 f3 hrr e0 e1 hq
          obtain ⟨q2, hq2⟩ : ∃ q, wr.heap.size = q := ⟨_, rfl⟩
          rw [hq2]
          clear hq2
          rintro W3 ⟨hx, hn, e0, e1, hq, d0, d1⟩
          have CC := C.out ⟨u, t, m⟩ ⟨u', t', m'⟩ W3 (h.ext hx)
          have hah : aheadB af be u t u' t' = ahd af be ⟨u, t, m⟩ (l.getD k dIt) := by
            rw [List.getD_eq_getElem?_getD, hek]
            rfl
          dsimp only at CC
          rw [hah] at CC
          obtain ⟨p, hp⟩ : ∃ p, ahd af be ⟨u, t, m⟩ (l.getD k dIt) = p := ⟨_, rfl⟩
          rw [hp] at CC
          have HB := Lib.hid (hb.ext hx)
          have HC := Lib.hid CC
          clear CC hah
          cases p
          · have HP := Lib.hid hp
            clear hp
            go_wp2_with (refine wpList_load_blk rfl 24 (.tmp 2) rfl G rfl HT.out HB.out ?_)
            refine HC.out.mono ?_
            rintro e W4 ⟨rfl, hx4⟩
            go_wp2_with fail
            go_roundw
            case rel => exact ⟨k + 1, by omega, by go_num, (hn.ext hx4).no he HP.out, hx4.cell e0, hx4.cell e1, Nat.lt_of_lt_of_le hq hx4.size, hx.trans hx4⟩
            case measure => simp [RowKit.intOf]; omega
          · go_wp2_with (refine wpList_load_blk rfl 24 (.tmp 2) rfl G rfl HT.out HB.out ?_)
            refine HC.out.mono ?_
            rintro e W4 ⟨rfl, hx4⟩
            obtain ⟨B, c, hcell, hown, hBq, hlow, hback⟩ := (hn.ext hx4).at he hp
            have e0' := hx4.cell e0
            have e1' := hx4.cell e1
            have hq4 := Nat.lt_of_lt_of_le hq hx4.size
            have hxx := hx.trans hx4
            have hrl := rowTo_length af be l ⟨u, t, m⟩ k
            clear hn hx hx4 e0 e1 hq d0 d1 HC HB hp
            go_wp2_with (refine wpList_append_int rfl (.tmp 38) (.tmp 40) 40 3 rfl Try.underlying40 infoInt (g + 1) (.slice B (rowTo af be l ⟨u, t, m⟩ k).length c) (rowTo af be l ⟨u, t, m⟩ k) rfl (hown.alloc _) W4.heap.size 1 k rfl (by go_simp) (by omega) (by rw [World.size_alloc]; omega) ?_; intro v' W5 o5 g5 s5; obtain ⟨B5, c5, rfl, _, _⟩ := Owns.rd o5; obtain ⟨⟨old, ho⟩, hfz, hn5⟩ := hback W5 _ o5 (Grown.after_alloc g5) (fun b hb => (s5 b hb).imp_right fun h => Nat.le_trans (by rw [World.size_alloc]; omega) h) hq4; have Z0 := Grown.cell1 g5 (((Ext.refl W4).alloc _).cell e0') (fun a ha => (hBq a ha).1); have Z1 := Grown.cell1 g5 (((Ext.refl W4).alloc _).cell e1') (fun a ha => (hBq a ha).1); have hq5 : q < W5.heap.size := Nat.lt_of_lt_of_le hq4 (Nat.le_trans (by rw [World.size_alloc]; omega) g5.size); have hx5 : Ext W0 W5 := Grown.toExt (hxx.alloc _) g5 (fun j hj => by rw [hg]; cases B with | none => cases hj | some ad => cases hj; have := (hBq ad rfl).2; omega))
            go_roundw
            case rel => exact ⟨k + 1, by omega, by go_num, by rw [List.length_append] at hn5; exact hn5, by rw [cell_set_other (by simp; omega)]; exact Z0, by rw [cell_set_other (by simp; omega)]; exact Z1, by rw [World.size_setCell]; exact hq5, hx5.setCell (by simp; omega) _⟩
            case measure => simp [RowKit.intOf]; omega
        · obtain rfl : k = l.length := by omega
          go_wp2_with fail
          go_roundw
          case rel => exact ⟨i + 1, by omega, by go_num, ⟨q, hn.row⟩, hx⟩
          case measure => simp [RowKit.intOf]; omega
    · obtain rfl : i = l.length := by omega
      clear HM
      go_wp2_with fail
      obtain ⟨R, r1, r2, r3⟩ := hn.done
      go_ret
      refine ⟨_, l.length, R, ?_, r1, r2, r3, hx0.trans hx⟩
      rw [r3]
      rfl
end Go.Proofs.Ythlobpdcolgcoaa
