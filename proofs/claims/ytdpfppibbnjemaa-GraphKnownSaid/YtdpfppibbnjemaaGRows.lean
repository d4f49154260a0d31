/- graph.rows, and the functions that it is handed. -/
import Derived.Test.YtdpfppibbnjemaaUnits
import Derived.Test.YtdpfppibbnjemaaSortRow
import Derived.Test.YtdpfppibbnjemaaRng
import Derived.Test.YtdpfppibbnjemaaGrow
namespace Go.Proofs.Ytdpfppibbnjemaa
open Go.RowKit Go.Shelf
set_option linter.unusedVariables false
set_option linter.unusedSimpArgs false
/-- Rows under way: n of them, row j holds f j. -/
def PInv (W : World) (base g n : Nat) (f : Nat → List Int) : Prop := ∃ rs, rs.length = n ∧ ORows W base g 37 3 rs ∧ ∀ (j : Nat) (v : Value) (xs : List Int), rs[j]? = some (v, xs) → xs = f j
theorem PInv.ext {W W' : World} {base g n : Nat} {f : Nat → List Int} (h : PInv W base g n f) (hx : Ext W W') : PInv W' base g n f := by
  obtain ⟨rs, h1, h2, h3⟩ := h
  exact ⟨rs, h1, h2.ext hx, h3⟩
theorem PInv.congr {W : World} {base g n : Nat} {f f' : Nat → List Int} (h : PInv W base g n f) (he : ∀ j, j < n → f j = f' j) : PInv W base g n f' := by
  obtain ⟨rs, h1, h2, h3⟩ := h
  exact ⟨rs, h1, h2, fun j v xs hj => by rw [← he j (by rw [← h1]; exact (List.getElem?_eq_some_iff.1 hj).1)]; exact h3 j v xs hj⟩
theorem PInv.new (W : World) (n : Nat) : PInv (W.alloc (.cells (List.replicate n (Value.slice none 0 0)).toArray 37)) (W.heap.size + 1) W.heap.size n (fun _ => []) := by
  refine ⟨List.replicate n (.slice none 0 0, []), by simp, ⟨?_, by omega, by simp, ?_, ?_⟩, ?_⟩
  · rw [List.map_replicate]
    exact Blk.new _ _ _
  · intro i v xs hi
    rw [List.getElem?_replicate] at hi
    split at hi <;> cases hi
    exact World.ownsRow_nil _ _ _ _
  · intro i j v xs v' xs' k _ hi _ hk
    rw [List.getElem?_replicate] at hi
    split at hi <;> cases hi
    cases hk
  · intro j v xs hi
    rw [List.getElem?_replicate] at hi
    split at hi <;> cases hi
    rfl
theorem PInv.low {W : World} {base g n : Nat} {f : Nat → List Int} (h : PInv W base g n f) : base ≤ W.heap.size ∧ g < base := by
  obtain ⟨rs, h1, h2, h3⟩ := h
  exact ⟨h2.low, h2.lt⟩
/-- Row i may grow. -/
theorem PInv.at {W : World} {base g n : Nat} {f : Nat → List Int} (h : PInv W base g n f) {i : Nat} (hi : i < n) :
    ∃ A c, W.cell? ⟨g, i, none⟩ = some (.slice A (f i).length c) ∧ W.ownsRow base 3 1 (.slice A (f i).length c) (f i).length (ints (f i)) ∧ (∀ a, A = some a → base ≤ a.block) ∧
      ∀ W1 v' xs', W1.ownsRow base 3 1 v' xs'.length (ints xs') → W.grownBy W1 (Value.slice A (f i).length c).ownBlock →
        (∀ b, v'.ownBlock = some b → (Value.slice A (f i).length c).ownBlock = some b ∨ W.heap.size ≤ b) →
        (∃ old, W1.cell? ⟨g, i, none⟩ = some old) ∧ W1.frozen? ⟨g, i, none⟩ = false ∧ PInv (W1.setCell ⟨g, i, none⟩ v') base g n (fun j => if j = i then xs' else f j) := by
  obtain ⟨rs, h1, h2, h3⟩ := h
  obtain ⟨v, xs, hv⟩ : ∃ v xs, rs[i]? = some (v, xs) := ⟨_, _, List.getElem?_eq_getElem (by omega)⟩
  have hx := h3 i v xs hv
  subst hx
  have hown := h2.own i v _ hv
  obtain ⟨A, c, rfl, hrd, hA⟩ := Owns.rd hown
  refine ⟨A, c, (h2.at hv).1, hown, hA, ?_⟩
  intro W1 v' xs' ho hg hs
  have hst := h2.step hv ho hg hs
  have hne : some g ≠ (Value.slice A (f i).length c).ownBlock := by
    intro e
    have := ((h2.own i _ _ hv).lt g e.symm).1
    have := h2.lt
    omega
  have hb1 := Grown.blk hg h2.blk hne
  refine ⟨⟨_, hb1.cell i (by rw [List.getElem?_map, hv]; rfl)⟩, hb1.frozen i, rs.set i (v', xs'), by simpa using h1, hst, fun j u ys hj => ?_⟩
  by_cases hij : i = j
  · subst hij
    rw [List.getElem?_set_self (List.getElem?_eq_some_iff.1 hv).1] at hj
    cases hj
    simp
  · rw [List.getElem?_set_ne hij] at hj
    have hji : ¬ j = i := fun e => hij e.symm
    simp only [if_neg hji]
    exact h3 j u ys hj
/-- An owned table reads, in blocks of its own. -/
theorem ORows.rd4 {W : World} {base g : Nat} {T e : TypeId} {rs : List (Value × List Int)} (h : ORows W base g T e rs) : ∃ R : List Row, RdR W (some ⟨g, 0, none⟩) R ∧ rows R = rs.map Prod.snd ∧ R.length = rs.length ∧ ∀ r ∈ R, ∀ a, r.A = some a → g ≤ a.block := by
  have key : ∀ l : List (Value × List Int), (∀ p ∈ l, ∃ i : Nat, rs[i]? = some p) → ∃ R : List Row, R.map Row.val = l.map Prod.fst ∧ rows R = l.map Prod.snd ∧ (∀ r ∈ R, RdV W r.A (ints r.xs)) ∧ ∀ r ∈ R, ∀ a, r.A = some a → g ≤ a.block := by
    intro l
    induction l with
    | nil => exact fun _ => ⟨[], rfl, rfl, (fun r hr => by cases hr), (fun r hr => by cases hr)⟩
    | cons p l ih =>
      intro hl
      obtain ⟨R, h1, h2, h3, h4⟩ := ih fun q hq => hl q (List.mem_cons_of_mem _ hq)
      obtain ⟨i, hi⟩ := hl p (List.mem_cons_self)
      obtain ⟨v, xs⟩ := p
      obtain ⟨A, cap, rfl, hr, hA⟩ := Owns.rd (h.own i v xs hi)
      refine ⟨⟨A, cap, xs⟩ :: R, by simp [h1, Row.val], by simp [rows] at h2 ⊢; exact h2, ?_, ?_⟩
      · intro r hr'
        rcases List.mem_cons.1 hr' with rfl | h4
        · exact hr
        · exact h3 r h4
      · intro r hr' a ha
        rcases List.mem_cons.1 hr' with rfl | h5
        · have := hA a ha
          have := h.lt
          omega
        · exact h4 r h5 a ha
  obtain ⟨R, h1, h2, h3, h4⟩ := key rs fun p hp => List.getElem?_of_mem hp
  refine ⟨R, ⟨?_, h3⟩, h2, ?_, h4⟩
  · rw [h1]
    refine .inr ⟨g, 0, rfl, fun j v hv => ?_⟩
    rw [Nat.zero_add]
    exact h.blk.cell j hv
  · have := congrArg List.length h2
    simpa [rows] using this
/-- A table of n rows that reads as l. -/
def RV (W : World) (n : Nat) (A : Option Addr) (l : List (List Int)) : Prop := ∃ R, RdR W A R ∧ rows R = l ∧ R.length = n
/-- .. in blocks from lo on. -/
def RVn (W : World) (n lo : Nat) (A : Option Addr) (l : List (List Int)) : Prop := ∃ R, RdR W A R ∧ rows R = l ∧ R.length = n ∧ (∀ a, A = some a → lo ≤ a.block) ∧ ∀ r ∈ R, ∀ a, r.A = some a → lo ≤ a.block
/-- .. off block g, from lo on. -/
def RVo (W : World) (n lo g : Nat) (A : Option Addr) (l : List (List Int)) : Prop := ∃ R, RdR W A R ∧ rows R = l ∧ R.length = n ∧ (∀ a, A = some a → R ≠ [] → a.block ≠ g ∧ lo ≤ a.block) ∧ ∀ r ∈ R, ∀ a, r.A = some a → r.xs ≠ [] → a.block ≠ g ∧ lo ≤ a.block
theorem RV.ext {W W' : World} {n : Nat} {A : Option Addr} {l : List (List Int)} (h : RV W n A l) (hx : Ext W W') : RV W' n A l := by
  obtain ⟨R, h1, h2, h3⟩ := h
  exact ⟨R, h1.ext hx, h2, h3⟩
theorem RVo.ext {W W' : World} {n lo g : Nat} {A : Option Addr} {l : List (List Int)} (h : RVo W n lo g A l) (hx : Ext W W') : RVo W' n lo g A l := by
  obtain ⟨R, h1, h2⟩ := h
  exact ⟨R, h1.ext hx, h2⟩
theorem RVo.rv {W : World} {n lo g : Nat} {A : Option Addr} {l : List (List Int)} (h : RVo W n lo g A l) : RV W n A l := by
  obtain ⟨R, h1, h2, h3, _⟩ := h
  exact ⟨R, h1, h2, h3⟩
theorem RVn.rv {W : World} {n lo : Nat} {A : Option Addr} {l : List (List Int)} (h : RVn W n lo A l) : RV W n A l := by
  obtain ⟨R, h1, h2, h3, _⟩ := h
  exact ⟨R, h1, h2, h3⟩
theorem RVn.ext {W W' : World} {n lo : Nat} {A : Option Addr} {l : List (List Int)} (h : RVn W n lo A l) (hx : Ext W W') : RVn W' n lo A l := by
  obtain ⟨R, h1, h2⟩ := h
  exact ⟨R, h1.ext hx, h2⟩
theorem RVn.mono {W : World} {n lo lo' : Nat} {A : Option Addr} {l : List (List Int)} (h : RVn W n lo A l) (hl : lo' ≤ lo) : RVn W n lo' A l := by
  obtain ⟨R, h1, h2, h3, h4, h5⟩ := h
  exact ⟨R, h1, h2, h3, fun a ha => Nat.le_trans hl (h4 a ha), fun r hr a ha => Nat.le_trans hl (h5 r hr a ha)⟩
theorem RVn.off {W : World} {n lo lo' g : Nat} {A : Option Addr} {l : List (List Int)} (h : RVn W n lo A l) (hg : g < lo) (hl : lo' ≤ lo) : RVo W n lo' g A l := by
  obtain ⟨R, h1, h2, h3, h4, h5⟩ := h
  exact ⟨R, h1, h2, h3, fun a ha _ => by have := h4 a ha; omega, fun r hr a ha _ => by have := h5 r hr a ha; omega⟩
theorem RVn.offNew {W : World} {n lo g : Nat} {A : Option Addr} {l : List (List Int)} (h : RVn W n lo A l) (hg : W.heap.size ≤ g) : RVo W n lo g A l := by
  obtain ⟨R, h1, h2, h3, h4, h5⟩ := h
  have key : ∀ (A : Option Addr) (vs : List Value), RdV W A vs → ∀ a, A = some a → vs ≠ [] → a.block < W.heap.size := fun A vs h a ha hne => by
    rcases h with h | ⟨b, o, hA, hc⟩
    · exact absurd h hne
    · rw [hA] at ha
      cases ha
      cases vs with
      | nil => exact absurd rfl hne
      | cons v vs => exact World.block_lt_of_cell? W _ (hc 0 v rfl)
  refine ⟨R, h1, h2, h3, fun a ha hne => ?_, fun r hr a ha hne => ?_⟩
  · have := key A _ h1.1 a ha (by simpa using hne)
    have := h4 a ha
    omega
  · have := key r.A _ (h1.2 r hr) a ha (by intro e; exact hne (List.map_eq_nil_iff.1 e))
    have := h5 r hr a ha
    omega
theorem RVo.butAt {W W' : World} {n lo g q : Nat} {A : Option Addr} {l : List (List Int)} (h : RVo W n lo g A l) (hx : But q W W') (hq : q = g ∨ q < lo) : RVo W' n lo g A l := by
  obtain ⟨R, h1, h2, h3, h4, h5⟩ := h
  have key : ∀ (A : Option Addr) (vs : List Value), RdV W A vs → (∀ a, A = some a → vs ≠ [] → a.block ≠ g ∧ lo ≤ a.block) → RdV W' A vs := fun A vs h hA => by
    by_cases hne : vs = []
    · exact .inl hne
    · exact h.but hx fun a ha => by have := hA a ha hne; omega
  refine ⟨R, ⟨key A _ h1.1 fun a ha hne => h4 a ha (by intro e; exact hne (by rw [e]; rfl)), fun r hr => key r.A _ (h1.2 r hr) fun a ha hne => h5 r hr a ha (by intro e; exact hne (by rw [e]; rfl))⟩, h2, h3, h4, h5⟩
theorem of1_calls (us : List Value) (v : Value) (h0 : us[0]? = some v) (w : World) : Calls Try.prog 28 #[.agg us.toArray] w fun e w' => e = .returned v ∧ Ext w w' := by go_enter Try.func28, Try.ntmps28; go_upto_region 1 with (fail); refine wp_gen (fun W => Blk W w.heap.size us 41 ∧ Ext w W) ⟨Blk.newAt w _ _ _ rfl, (Ext.refl w).alloc _⟩ ?_; (obtain ⟨g, hg⟩ : ∃ g, w.heap.size = g := ⟨_, rfl⟩); rw [hg]; rintro W1 ⟨hb, hx⟩; have hc := hb.cell 0 h0; clear hb h0; go_wp2_with fail; go_ret; exact ⟨rfl, hx⟩
theorem of2_calls (us : List Value) (v : Value) (h0 : us[1]? = some v) (w : World) : Calls Try.prog 29 #[.agg us.toArray] w fun e w' => e = .returned v ∧ Ext w w' := by go_enter Try.func29, Try.ntmps29; go_upto_region 1 with (fail); refine wp_gen (fun W => Blk W w.heap.size us 41 ∧ Ext w W) ⟨Blk.newAt w _ _ _ rfl, (Ext.refl w).alloc _⟩ ?_; (obtain ⟨g, hg⟩ : ∃ g, w.heap.size = g := ⟨_, rfl⟩); rw [hg]; rintro W1 ⟨hb, hx⟩; have hc := hb.cell 1 h0; clear hb h0; go_wp2_with fail; go_ret; exact ⟨rfl, hx⟩
theorem of3_calls (us : List Value) (v : Value) (h0 : us[2]? = some v) (w : World) : Calls Try.prog 30 #[.agg us.toArray] w fun e w' => e = .returned v ∧ Ext w w' := by go_enter Try.func30, Try.ntmps30; go_upto_region 1 with (fail); refine wp_gen (fun W => Blk W w.heap.size us 41 ∧ Ext w W) ⟨Blk.newAt w _ _ _ rfl, (Ext.refl w).alloc _⟩ ?_; (obtain ⟨g, hg⟩ : ∃ g, w.heap.size = g := ⟨_, rfl⟩); rw [hg]; rintro W1 ⟨hb, hx⟩; have hc := hb.cell 2 h0; clear hb h0; go_wp2_with fail; go_ret; exact ⟨rfl, hx⟩
theorem of4_calls (us : List Value) (v : Value) (h0 : us[3]? = some v) (w : World) : Calls Try.prog 31 #[.agg us.toArray] w fun e w' => e = .returned v ∧ Ext w w' := by go_enter Try.func31, Try.ntmps31; go_upto_region 1 with (fail); refine wp_gen (fun W => Blk W w.heap.size us 41 ∧ Ext w W) ⟨Blk.newAt w _ _ _ rfl, (Ext.refl w).alloc _⟩ ?_; (obtain ⟨g, hg⟩ : ∃ g, w.heap.size = g := ⟨_, rfl⟩); rw [hg]; rintro W1 ⟨hb, hx⟩; have hc := hb.cell 3 h0; clear hb h0; go_wp2_with fail; go_ret; exact ⟨rfl, hx⟩
theorem of5_calls (us : List Value) (v : Value) (h0 : us[4]? = some v) (w : World) : Calls Try.prog 32 #[.agg us.toArray] w fun e w' => e = .returned v ∧ Ext w w' := by go_enter Try.func32, Try.ntmps32; go_upto_region 1 with (fail); refine wp_gen (fun W => Blk W w.heap.size us 41 ∧ Ext w W) ⟨Blk.newAt w _ _ _ rfl, (Ext.refl w).alloc _⟩ ?_; (obtain ⟨g, hg⟩ : ∃ g, w.heap.size = g := ⟨_, rfl⟩); rw [hg]; rintro W1 ⟨hb, hx⟩; have hc := hb.cell 4 h0; clear hb h0; go_wp2_with fail; go_ret; exact ⟨rfl, hx⟩
theorem of6_calls (us : List Value) (v : Value) (h0 : us[5]? = some v) (w : World) : Calls Try.prog 33 #[.agg us.toArray] w fun e w' => e = .returned v ∧ Ext w w' := by go_enter Try.func33, Try.ntmps33; go_upto_region 1 with (fail); refine wp_gen (fun W => Blk W w.heap.size us 41 ∧ Ext w W) ⟨Blk.newAt w _ _ _ rfl, (Ext.refl w).alloc _⟩ ?_; (obtain ⟨g, hg⟩ : ∃ g, w.heap.size = g := ⟨_, rfl⟩); rw [hg]; rintro W1 ⟨hb, hx⟩; have hc := hb.cell 5 h0; clear hb h0; go_wp2_with fail; go_ret; exact ⟨rfl, hx⟩
theorem of7_calls (us : List Value) (v : Value) (h0 : us[6]? = some v) (w : World) : Calls Try.prog 34 #[.agg us.toArray] w fun e w' => e = .returned v ∧ Ext w w' := by go_enter Try.func34, Try.ntmps34; go_upto_region 1 with (fail); refine wp_gen (fun W => Blk W w.heap.size us 41 ∧ Ext w W) ⟨Blk.newAt w _ _ _ rfl, (Ext.refl w).alloc _⟩ ?_; (obtain ⟨g, hg⟩ : ∃ g, w.heap.size = g := ⟨_, rfl⟩); rw [hg]; rintro W1 ⟨hb, hx⟩; have hc := hb.cell 6 h0; clear hb h0; go_wp2_with fail; go_ret; exact ⟨rfl, hx⟩
def LU.unit (u : LU) : List Value := (u.cells.drop 2).take 10
theorem LU.unit_length (u : LU) : u.unit.length = 10 := by simp [LU.unit, u.cells_length]
theorem rowUU (n : Nat) (h : n = 10) : isRowT Try.prog 41 n := by subst h; exact ⟨by kernel_rfl, by kernel_rfl⟩
/-- What names bring: the places of those that are there, but i. -/
def hits (us : List LU) (i : Nat) (l : List ByteArray) : List Int := (l.map (idxU us)).filter fun k => decide (0 ≤ k) && !decide (k = (i : Int))
theorem hits_snoc (us : List LU) (i : Nat) (l : List ByteArray) (s : ByteArray) : hits us i (l ++ [s]) = hits us i l ++ (if 0 ≤ idxU us s ∧ idxU us s ≠ i then [idxU us s] else []) := by
  unfold hits
  rw [List.map_append, List.filter_append]
  congr 1
  by_cases h : 0 ≤ idxU us s <;> by_cases h2 : idxU us s = i <;> simp [h, h2]
theorem hits_length (us : List LU) (i : Nat) (l : List ByteArray) : (hits us i l).length ≤ l.length := by
  unfold hits
  refine Nat.le_trans (List.length_filter_le _ _) ?_
  rw [List.length_map]
  exact Nat.le_refl _
def rowsG (us : List LU) (nm : LU → List ByteArray) : List (List Int) := us.mapIdx fun i u => sc (hits us i (nm u))
set_option maxRecDepth 100000 in
set_option maxHeartbeats 2000000 in
theorem rows_calls (F : Nat) (eg : ∀ args w, (callFunc F args).run Try.prog w = .ok (.enter F args) w) (sel : LU → Value) (nm : LU → List ByteArray) (us : List LU) (A : Option Addr) (cap : Nat) (w : World) (hr : RdU w A us) (hlen : us.length ≤ 1000)
    (hF : ∀ W u, Calls Try.prog F #[.agg (LU.unit u).toArray] W fun e w' => e = .returned (sel u) ∧ Ext W w')
    (hS : ∀ u ∈ us, ∃ A c, sel u = .slice A (nm u).length c ∧ RdV w A ((nm u).map .string) ∧ (nm u).length ≤ 1000) :
    Calls Try.prog 27 #[.agg #[.slice A us.length cap], .func (.func F) #[] #[]] w fun e w' => ∃ B c, e = .returned (.slice B us.length c) ∧ RVn w' us.length w.heap.size B (rowsG us nm) ∧ Ext w w' := by
  have HM := make_rows us.length (by omega)
  have HF := Lib.hid hF
  have HSS := Lib.hid hS
  have HI := Lib.hid fun W hx s => indexU_calls us A cap s W (hr.ext hx) (by omega)
  have HSRT := Lib.hid fun g c rs W h hl hro hx0 hw0 => sorted_calls (base := g + 1) (g := g) (c := c) rs W h hl hro w hx0 hw0
  clear hF hS
  go_enter Try.func27, Try.ntmps27
  go_upto_region 1 with (fail)
  refine wp_gen (fun W => W.cell? ⟨w.heap.size, 0, none⟩ = some (.slice A us.length cap) ∧ Ext w W) ⟨by go_simp, (Ext.refl w).alloc _⟩ ?_
  obtain ⟨T, hT⟩ : ∃ T, w.heap.size = T := ⟨_, rfl⟩
  rw [hT]
  rintro W0 ⟨ht, hx0⟩
  go_upto_region 2 with (fail)
  refine wp_gen (fun W => PInv W (W0.heap.size + 1) W0.heap.size us.length (fun _ => []) ∧ W.cell? ⟨T, 0, none⟩ = some (.slice A us.length cap) ∧ Ext w W) ⟨PInv.new W0 _, ((Ext.refl W0).alloc _).cell ht, hx0.alloc _⟩ ?_
  have hgw : w.heap.size < W0.heap.size := by have := World.block_lt_of_cell? _ _ ht; simp only at this; omega
  obtain ⟨g, hg⟩ : ∃ g, W0.heap.size = g := ⟨_, rfl⟩
  rw [hg] at hgw ⊢
  clear hg hx0 ht HM W0
  rintro W1 ⟨hn, ht, hx1⟩
  go_upto_region 3 with (fail)
  go_loopw [18] (fun iv W => ∃ i : Nat, iv = .int .i64 i ∧ i ≤ us.length ∧ PInv W (g + 1) g us.length (fun j => if j < i then hits us j (nm us[j]!) else []) ∧ W.cell? ⟨T, 0, none⟩ = some (.slice A us.length cap) ∧ Ext w W) (fun iv _ => us.length - (RowKit.intOf iv).toNat)
  case atStart => exact ⟨0, rfl, by omega, hn.congr (fun j _ => by simp), ht, hx1⟩
  case round =>
    clear hn ht hx1
    obtain ⟨i, rfl, hi, hn, ht, hx⟩ := hrel
    by_cases hlt : i < us.length
    · have hlti : (i : Int) < us.length := by omega
      obtain ⟨u, hu⟩ : ∃ u, us[i]? = some u := ⟨_, List.getElem?_eq_getElem hlt⟩
      have hum : us[i]! = u := by rw [getElem!_pos us i hlt]; exact (List.getElem?_eq_some_iff.1 hu).2
      rcases hr.ext hx with h0 | ⟨b, o, rfl, hcu⟩
      · rw [h0] at hlt; cases hlt
      have hrng : Rng wr b (o + i * 26) u.cells := fun k v hv => hcu i u hu k v hv
      have HR := Lib.hid hrng
      have HRT := Lib.hid (rowUnit u.cells.length u.cells_length)
      have HU := Lib.hid hum
      have HUU := Lib.hid hu
      have hgl := hn.low
      clear hrng hcu hum hu
      obtain ⟨Au, cu, hsel, hrs, hnl⟩ := HSS.out u (List.mem_of_getElem? HUU.out)
      have HSEL := Lib.hid hsel
      clear hsel
      have HT2 := Lib.hid u.cells_one
      go_upto_region 5 with (first | refine wpList_load_rng rfl 50 (.tmp 21) rfl b (o + i * 26) rfl HRT.out HR.out ?_ | (refine wpList_store_blk rfl 50 (.tmp 7) (.tmp 22) rfl wr.heap.size rfl u.cells rfl (Blk.newAt wr _ _ _ rfl) HRT.out (by rw [u.cells_length]; rfl) HT2.out ?_; intro W2 hb2 hbut))
      have hxw2 : Ext wr W2 := But.toExt ((Ext.refl wr).alloc _) hbut (Nat.le_refl _)
      have hx2 : Ext w W2 := hx.trans hxw2
      have hn2 := hn.ext hxw2
      have ht2 := hxw2.cell ht
      have hg7 : Rng W2 wr.heap.size 2 u.unit := (hb2.rng 2).take 10
      obtain ⟨q, hq⟩ : ∃ q, wr.heap.size = q := ⟨_, rfl⟩
      rw [hq] at hg7 ⊢
      have HG7 := Lib.hid hg7
      have HUT := Lib.hid (rowUU u.unit.length u.unit_length)
      have HFF := Lib.hid (HF.out W2 u)
      clear hn ht hx hxw2 hb2 hbut hg7 hq HR HRT HT2
      go_upto_region 6 with (first | refine wpList_load_rng rfl 41 (.tmp 25) rfl q 2 rfl HUT.out HG7.out ?_ | (refine HFF.out.mono ?_; rintro e W3 ⟨rfl, hx3⟩; rw [HSEL.out]))
      have hx4 := hx2.trans hx3
      have hn4 := hn2.ext hx3
      have ht4 := hx3.cell ht2
      clear hn2 ht2 hx2 hx3 HFF HG7 HUT
      go_loopw [29] (fun kv W => ∃ k : Nat, kv = .int .i64 k ∧ k ≤ (nm u).length ∧ PInv W (g + 1) g us.length (fun j => if j < i then hits us j (nm us[j]!) else if j = i then hits us i ((nm u).take k) else []) ∧ W.cell? ⟨T, 0, none⟩ = some (.slice (some ⟨b, o, none⟩) us.length cap) ∧ Ext w W) (fun kv _ => (nm u).length - (RowKit.intOf kv).toNat)
      case atStart => exact ⟨0, rfl, by omega, hn4.congr (fun j _ => by simp [hits]), ht4, hx4⟩
      case round =>
        clear hn4 ht4 hx4
        obtain ⟨k, rfl, hk, hn, ht, hx⟩ := hrel
        by_cases hkt : k < (nm u).length
        · have hkti : (k : Int) < (nm u).length := by omega
          obtain ⟨s, hs⟩ : ∃ s, (nm u)[k]? = some s := ⟨_, List.getElem?_eq_getElem hkt⟩
          obtain ⟨sb, so, rfl, hsc⟩ := (hrs.ext hx).at (i := k) (by simpa using hkt)
          have hcs := hsc k (.string s) (by rw [List.getElem?_map, hs]; rfl)
          have HTK := Lib.hid (show (nm u).take (k + 1) = (nm u).take k ++ [s] by rw [List.take_succ_eq_append_getElem hkt]; congr 2; exact (List.getElem?_eq_some_iff.1 hs).2)
          have HII := Lib.hid (fun W hx => HI.out W hx s)
          have HSN := Lib.hid (hits_snoc us i ((nm u).take k) s)
          clear hsc hs
          obtain ⟨d, hd⟩ : ∃ d, idxU us s = d := ⟨_, rfl⟩
          rw [hd] at HII HSN
          clear hd
          by_cases hc : 0 ≤ d ∧ d ≠ i
          · rw [if_pos hc] at HSN
            obtain ⟨hd0, hdi⟩ := hc
            have hdi' : (d != (i : Int)) = true := by simpa using hdi
            go_upto_region 10 with (go_at_call 44; refine (HII.out _ hx).mono ?_; rintro e W3 ⟨rfl, hx3⟩)
            have hn3 := hn.ext hx3
            have ht3 := hx3.cell ht
            have hx4 := hx.trans hx3
            have hrl := Nat.le_trans (hits_length us i ((nm u).take k)) (List.length_take_le k (nm u))
            obtain ⟨A3, c3, hcell, hown, hA3, hback⟩ := hn3.at hlt
            rw [show (if i < i then hits us i (nm us[i]!) else if i = i then hits us i ((nm u).take k) else []) = hits us i ((nm u).take k) by rw [if_neg (by omega), if_pos rfl]] at hcell hown hback
            have hg3 := hn3.low
            have HB := Lib.hid hback
            clear hn hx hx3 ht hn3 hback HII hcs
            go_wp2_with (refine wpList_append_int rfl (.tmp 48) (.tmp 50) 37 3 rfl Try.underlying37 infoInt (g + 1) (.slice A3 (hits us i ((nm u).take k)).length c3) (hits us i ((nm u).take k)) rfl (hown.alloc _) W3.heap.size 1 d rfl (by go_simp) (by omega) (by rw [World.size_alloc]; omega) ?_; intro v' W5 o5 g5 s5; obtain ⟨B5, c5, rfl, _, _⟩ := Owns.rd o5; obtain ⟨⟨old, ho⟩, hfz, hn5⟩ := HB.out W5 _ _ o5 (Grown.after_alloc g5) (fun b hb => (s5 b hb).imp_right fun h => Nat.le_trans (by rw [World.size_alloc]; omega) h); have Z0 := Grown.cell1 g5 (((Ext.refl W3).alloc _).cell ht3) (fun a ha => by have := hA3 a ha; omega); have hx5 : Ext w W5 := Grown.toExt (hx4.alloc _) g5 (fun j hj => by cases A3 with | none => cases hj | some ad => cases hj; have := hA3 ad rfl; omega))
            go_roundw
            case rel => exact ⟨k + 1, by go_num, by omega, by
              rw [List.length_append] at hn5
              refine hn5.congr (fun j _ => ?_)
              by_cases h1 : j = i
              · subst h1
                simp only [if_true]
                rw [if_neg (Nat.lt_irrefl _), HTK.out, HSN.out]
              · simp only [if_neg h1], by rw [cell_set_other (by simp; omega)]; exact Z0, hx5.setCell (by simp; omega) _⟩
            case measure => simp [RowKit.intOf]; omega
          · rw [if_neg hc, List.append_nil] at HSN
            have hE : ∀ j, j < us.length → (if j < i then hits us j (nm us[j]!) else if j = i then hits us i ((nm u).take k) else []) = if j < i then hits us j (nm us[j]!) else if j = i then hits us i ((nm u).take (k + 1)) else [] := fun j _ => by rw [HTK.out, HSN.out]
            have HE := Lib.hid hE
            clear hE
            by_cases hd0 : 0 ≤ d
            · have hdi : (d != (i : Int)) = false := by
                have : d = i := Classical.byContradiction fun h => hc ⟨hd0, h⟩
                simpa using this
              clear hc
              go_wp2_with (go_at_call 44; refine (HII.out _ hx).mono ?_; rintro e W3 ⟨rfl, hx3⟩)
              go_roundw
              case rel => exact ⟨k + 1, by go_num, by omega, (hn.ext hx3).congr HE.out, hx3.cell ht, hx.trans hx3⟩
              case measure => simp [RowKit.intOf]; omega
            · clear hc
              go_wp2_with (go_at_call 44; refine (HII.out _ hx).mono ?_; rintro e W3 ⟨rfl, hx3⟩)
              go_roundw
              case rel => exact ⟨k + 1, by go_num, by omega, (hn.ext hx3).congr HE.out, hx3.cell ht, hx.trans hx3⟩
              case measure => simp [RowKit.intOf]; omega
        · obtain rfl : k = (nm u).length := by omega
          go_wp2_with fail
          go_roundw
          case rel => exact ⟨i + 1, by go_num, by omega, hn.congr (fun j _ => by
            rw [List.take_length]
            rcases Nat.lt_trichotomy j i with h5 | h5 | h5
            · rw [if_pos h5, if_pos (by omega)]
            · subst h5
              rw [if_neg (by omega), if_pos rfl, if_pos (by omega), HU.out]
            · rw [if_neg (by omega), if_neg (by omega), if_neg (by omega)]), ht, hx⟩
          case measure => simp [RowKit.intOf]; omega
    · obtain rfl : i = us.length := by omega
      obtain ⟨rs, r1, r2, r3⟩ := hn
      have hgl := r2.lt
      have hsr := HSRT.out g us.length rs wr r2 (by omega) (fun j v xs hj => by
        have hj' := (List.getElem?_eq_some_iff.1 hj).1
        rw [r3 j v xs hj]
        simp only
        rw [if_pos (by omega)]
        refine Nat.le_trans (hits_length us j _) ?_
        obtain ⟨_, _, _, _, h⟩ := HSS.out us[j]! (by rw [getElem!_pos us j (by omega)]; exact List.getElem_mem _)
        omega) hx (by omega)
      rw [r1] at hsr
      have HSR := Lib.hid hsr
      have HR3 := Lib.hid r3
      have HR1 := Lib.hid r1
      clear hsr r3 r2 r1
      go_wp2_with (go_at_call 45; refine HSR.out.mono ?_; rintro e W3 ⟨rfl, hx3, rs', o', m'⟩)
      obtain ⟨R, q1, q2, q3, q4⟩ := o'.rd4
      have hRl : R.length = us.length := by
        have := congrArg List.length m'
        simp only [List.length_map] at this
        rw [q3, this, HR1.out]
      go_ret
      refine ⟨_, us.length, rfl, ⟨R, q1, ?_, hRl, fun a ha => by cases ha; simp only; omega, fun r hr a ha => by have := q4 r hr a ha; omega⟩, hx3⟩
      rw [q2, m']
      refine List.ext_getElem? fun j => ?_
      unfold rowsG
      rw [List.getElem?_map, List.getElem?_map, List.getElem?_mapIdx]
      cases hj : rs[j]? with
      | none =>
        have : us[j]? = none := by
          rw [List.getElem?_eq_none_iff] at hj ⊢
          have := HR1.out
          omega
        rw [this]
        rfl
      | some p =>
        obtain ⟨v, xs⟩ := p
        have hj' := (List.getElem?_eq_some_iff.1 hj).1
        have hj2 : j < us.length := by have := HR1.out; omega
        have := HR3.out j v xs hj
        simp only [if_pos hj2] at this
        rw [List.getElem?_eq_getElem hj2]
        subst this
        rw [getElem!_pos us j hj2]
        rfl
end Go.Proofs.Ytdpfppibbnjemaa
