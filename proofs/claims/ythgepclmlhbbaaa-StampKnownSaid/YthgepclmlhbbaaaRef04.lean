/- The contracts of the reference's functions of chapter 4: number, round, eats. -/
import Derived.Test.YthgepclmlhbbaaaSipSum
import Derived.Deep.CutBlock
namespace Go.Proofs.Ythgepclmlhbbaaa
open Go.RowKit
set_option linter.unusedVariables false
set_option linter.unusedSimpArgs false

def refNum (b0 b1 b2 b3 b4 b5 b6 b7 : Int) : Int := ((((((b7 * 256 + b6) * 256 + b5) * 256 + b4) * 256 + b3) * 256 + b2) * 256 + b1) * 256 + b0
structure Byte (b : Int) : Prop where
  lo : 0 ≤ b
  hi : b ≤ 255

set_option maxRecDepth 100000 in
set_option maxHeartbeats 1000000 in
theorem rnumber_calls (b0 b1 b2 b3 b4 b5 b6 b7 : Int) (g o cap : Nat) (w : World) (q0 : Byte b0) (q1 : Byte b1) (q2 : Byte b2) (q3 : Byte b3) (q4 : Byte b4) (q5 : Byte b5) (q6 : Byte b6) (q7 : Byte b7)
    (c0 : w.cell? ⟨g, o, none⟩ = some (.int .u8 b0)) (c1 : w.cell? ⟨g, o + 1, none⟩ = some (.int .u8 b1)) (c2 : w.cell? ⟨g, o + 2, none⟩ = some (.int .u8 b2)) (c3 : w.cell? ⟨g, o + 3, none⟩ = some (.int .u8 b3))
    (c4 : w.cell? ⟨g, o + 4, none⟩ = some (.int .u8 b4)) (c5 : w.cell? ⟨g, o + 5, none⟩ = some (.int .u8 b5)) (c6 : w.cell? ⟨g, o + 6, none⟩ = some (.int .u8 b6)) (c7 : w.cell? ⟨g, o + 7, none⟩ = some (.int .u8 b7)) :
    Calls Try.prog 26 #[.slice (some ⟨g, o, none⟩) 8 cap] w fun e w' => e = .returned (.int .u64 (refNum b0 b1 b2 b3 b4 b5 b6 b7)) ∧ w' = w := by
  obtain ⟨l0, h0⟩ := q0
  obtain ⟨l1, h1⟩ := q1
  obtain ⟨l2, h2⟩ := q2
  obtain ⟨l3, h3⟩ := q3
  obtain ⟨l4, h4⟩ := q4
  obtain ⟨l5, h5⟩ := q5
  obtain ⟨l6, h6⟩ := q6
  obtain ⟨l7, h7⟩ := q7
  go_enter Try.func26, Try.ntmps26
  go_wp2
  refine wp_loop_rounds 9 ?_
  iterate 9 (rw [rounds_succ]; go_wp2)
  go_ret
  exact ⟨rfl, rfl⟩

set_option maxRecDepth 100000 in
set_option maxHeartbeats 1000000 in
theorem rround_calls (a b c d : Int) (w : World) :
    Calls Try.prog 28 #[.agg #[.int .u64 a, .int .u64 b, .int .u64 c, .int .u64 d]] w fun e w' => e = .returned (.agg #[.int .u64 (rnd ⟨a, b, c, d⟩).a, .int .u64 (rnd ⟨a, b, c, d⟩).b, .int .u64 (rnd ⟨a, b, c, d⟩).c, .int .u64 (rnd ⟨a, b, c, d⟩).d]) ∧ Ext w w' := by
  go_enter Try.func28, Try.ntmps28
  go_wp2
  go_quiet (fail)
  go_wp2_with (go_at_call 34; refine (turn_calls _ _ _ (by decide)).mono ?_; rintro e w' ⟨rfl, q, rfl⟩)
  refine bodyPost_ret (v := .agg #[.int .u64 (rnd ⟨a, b, c, d⟩).a, .int .u64 (rnd ⟨a, b, c, d⟩).b, .int .u64 (rnd ⟨a, b, c, d⟩).c, .int .u64 (rnd ⟨a, b, c, d⟩).d]) ?_ rfl ⟨rfl, ?_⟩
  · simp [results, Try.results28, go_sem]
    exact ⟨rfl, rfl, rfl, rfl⟩
  · repeat (first | exact Ext.refl _ | refine Ext.setCell ?_ (by simp) _ | refine Ext.drewN ?_ _ | refine Ext.alloc ?_ _)

theorem or_step (n c p : Int) (k : Nat) (hp : p = ((2 ^ k : Nat) : Int)) (h0 : 0 ≤ n) (h1 : n < p) (hc : Byte c) (hcp : 255 * p < 18446744073709551616) : bits .or .u64 n (IntKind.u64.wrap (IntKind.u64.wrap c * p)) = n + c * p := by
  obtain ⟨c0, c1⟩ := hc
  have hp0 : 0 < p := by omega
  have e1 : IntKind.u64.wrap c = c := IntWalk.u64_in c (by omega)
  have hm : c * p ≤ 255 * p := Int.mul_le_mul_of_nonneg_right c1 (by omega)
  have hm0 : 0 ≤ c * p := Int.mul_nonneg c0 (by omega)
  have e2 : IntKind.u64.wrap (c * p) = c * p := IntWalk.u64_in _ (by omega)
  rw [e1, e2, u64_or n (c * p) h0 (by omega) hm0 (by omega), Nat.or_comm]
  have hx : (c * p).toNat = c.toNat * 2 ^ k := by
    subst hp
    rw [Int.toNat_mul c0 (by omega), Int.toNat_natCast]
  rw [nat_join k (c * p).toNat n.toNat (by rw [hx]; exact Nat.mul_mod_left _ _) (by subst hp; omega)]
  omega
theorem orNum_eq (b0 b1 b2 b3 b4 b5 b6 b7 : Int) (q0 : Byte b0) (q1 : Byte b1) (q2 : Byte b2) (q3 : Byte b3) (q4 : Byte b4) (q5 : Byte b5) (q6 : Byte b6) (q7 : Byte b7) : orNum b0 b1 b2 b3 b4 b5 b6 b7 = refNum b0 b1 b2 b3 b4 b5 b6 b7 := by
  have s0 : bits .or .u64 0 (IntKind.u64.wrap (IntKind.u64.wrap b0)) = b0 := by
    have := or_step 0 b0 1 0 rfl (by omega) (by omega) q0 (by omega)
    rw [Int.mul_one] at this
    rw [this]
    omega
  have p0 := q0; have p1 := q1; have p2 := q2; have p3 := q3; have p4 := q4; have p5 := q5; have p6 := q6; have p7 := q7
  obtain ⟨l0, h0⟩ := p0
  obtain ⟨l1, h1⟩ := p1
  obtain ⟨l2, h2⟩ := p2
  obtain ⟨l3, h3⟩ := p3
  obtain ⟨l4, h4⟩ := p4
  obtain ⟨l5, h5⟩ := p5
  obtain ⟨l6, h6⟩ := p6
  obtain ⟨l7, h7⟩ := p7
  unfold orNum
  rw [s0, or_step b0 b1 256 8 rfl (by omega) (by omega) q1 (by omega), or_step _ b2 65536 16 rfl (by omega) (by omega) q2 (by omega), or_step _ b3 16777216 24 rfl (by omega) (by omega) q3 (by omega),
    or_step _ b4 4294967296 32 rfl (by omega) (by omega) q4 (by omega), or_step _ b5 1099511627776 40 rfl (by omega) (by omega) q5 (by omega), or_step _ b6 281474976710656 48 rfl (by omega) (by omega) q6 (by omega), or_step _ b7 72057594037927936 56 rfl (by omega) (by omega) q7 (by omega)]
  unfold refNum
  omega

set_option maxRecDepth 100000 in
set_option maxHeartbeats 1000000 in
theorem reats_calls (a b c d : Int) (m : Int) (w : World) :
    Calls Try.prog 27 #[.agg #[.int .u64 a, .int .u64 b, .int .u64 c, .int .u64 d], .int .u64 m] w fun e w' => e = .returned (.agg #[.int .u64 (eatsV ⟨a, b, c, d⟩ m).a, .int .u64 (eatsV ⟨a, b, c, d⟩ m).b, .int .u64 (eatsV ⟨a, b, c, d⟩ m).c, .int .u64 (eatsV ⟨a, b, c, d⟩ m).d]) ∧ Ext w w' := by
  go_enter Try.func27, Try.ntmps27
  go_wp2_with fail
  refine (rround_calls _ _ _ _ _).mono ?_
  rintro e W2 ⟨rfl, hx2⟩
  have hb1 : Blk W2 w.heap.size [.int .u64 a, .int .u64 b, .int .u64 c, .int .u64 (bits .xor .u64 d m)] 56 := ((Blk.new _ _ _).alloc _).ext hx2
  have hb2 : Blk W2 (w.heap.size + 1) [.int .u64 0, .int .u64 0, .int .u64 0, .int .u64 0] 56 := by
    have h := Blk.new (w.alloc (.cells #[.int .u64 a, .int .u64 b, .int .u64 c, .int .u64 (bits .xor .u64 d m)] 56)) [.int .u64 0, .int .u64 0, .int .u64 0, .int .u64 0] 56
    rw [World.size_alloc] at h
    exact h.ext hx2
  have hx : Ext w W2 := (((Ext.refl w).alloc _).alloc _).trans hx2
  clear hx2
  obtain ⟨v1, hv1⟩ : ∃ v, rnd ⟨a, b, c, bits .xor .u64 d m⟩ = v := ⟨_, rfl⟩
  rw [hv1]
  have HV1 : Hid _ := hv1
  clear hv1
  go_wp2_with fail
  refine (rround_calls _ _ _ _ _).mono ?_
  rintro e W3 ⟨rfl, hx3⟩
  replace hb1 := hb1.ext hx3
  replace hb2 := hb2.ext hx3
  replace hx := hx.trans hx3
  clear hx3
  obtain ⟨v2, hv2⟩ : ∃ v, rnd ⟨v1.a, v1.b, v1.c, v1.d⟩ = v := ⟨_, rfl⟩
  rw [hv2]
  have HV2 : Hid _ := hv2
  clear hv2
  have c0 := hb1.cell 0 rfl
  have c1 := hb1.cell 1 rfl
  have c2 := hb1.cell 2 rfl
  have c3 := hb1.cell 3 rfl
  have f0 := hb1.frozen 0
  have f1 := hb1.frozen 1
  have f2 := hb1.frozen 2
  have f3 := hb1.frozen 3
  go_upto_region 3 with (fail)
  refine wp_gen (fun W => Blk W w.heap.size [.int .u64 v2.a, .int .u64 v2.b, .int .u64 v2.c, .int .u64 v2.d] 56 ∧ Blk W (w.heap.size + 1) [.int .u64 0, .int .u64 0, .int .u64 0, .int .u64 0] 56 ∧ Ext w W)
    ⟨(hb1 |>.set 0 _ |>.set 1 _ |>.set 2 _ |>.set 3 _).congr rfl, hb2 |>.other (by simp) _ |>.other (by simp) _ |>.other (by simp) _ |>.other (by simp) _, hx |>.setCell (by simp) _ |>.setCell (by simp) _ |>.setCell (by simp) _ |>.setCell (by simp) _⟩ ?_
  clear hb1 hb2 hx c0 c1 c2 c3 f0 f1 f2 f3
  rintro W ⟨hb1, hb2, hx⟩
  have c0 := hb1.cell 0 rfl
  have f0 := hb1.frozen 0
  go_upto_region 4 with (fail)
  refine wp_gen (fun W => Blk W w.heap.size [.int .u64 (bits .xor .u64 v2.a m), .int .u64 v2.b, .int .u64 v2.c, .int .u64 v2.d] 56 ∧ Blk W (w.heap.size + 1) [.int .u64 0, .int .u64 0, .int .u64 0, .int .u64 0] 56 ∧ Ext w W)
    ⟨(hb1 |>.set 0 _).congr rfl, hb2 |>.other (by simp) _, hx |>.setCell (by simp) _⟩ ?_
  clear hb1 hb2 hx c0 f0
  rintro W ⟨hb1, hb2, hx⟩
  have c0 := hb1.cell 0 rfl
  have c1 := hb1.cell 1 rfl
  have c2 := hb1.cell 2 rfl
  have c3 := hb1.cell 3 rfl
  have d0 := hb2.cell 0 rfl
  have d1 := hb2.cell 1 rfl
  have d2 := hb2.cell 2 rfl
  have d3 := hb2.cell 3 rfl
  have g0 := hb2.frozen 0
  have g1 := hb2.frozen 1
  have g2 := hb2.frozen 2
  have g3 := hb2.frozen 3
  go_wp2_with fail
  refine bodyPost_ret (v := .agg #[.int .u64 (bits .xor .u64 v2.a m), .int .u64 v2.b, .int .u64 v2.c, .int .u64 v2.d]) ?_ rfl ⟨?_, ?_⟩
  · simp [results, Try.results27, go_sem, d0, d1, d2, d3]
  · have h2 := HV2.out
    have h1 := HV1.out
    subst h1
    subst h2
    rfl
  · exact hx |>.setCell (by simp) _ |>.setCell (by simp) _ |>.setCell (by simp) _ |>.setCell (by simp) _

def Bytes (l : List Int) : Prop := ∀ c ∈ l, Byte c
theorem Bytes.at_ {l : List Int} (h : Bytes l) {i : Nat} {c : Int} (e : l[i]? = some c) : Byte c := h c (List.mem_of_getElem? e)

/-- A slice's cells, at an address. -/
def RdA (W : World) (b o : Nat) (vs : List Value) : Prop := ∀ j v, vs[j]? = some v → W.cell? ⟨b, o + j, none⟩ = some v
theorem RdA.ext {W W' : World} {b o : Nat} {vs : List Value} (h : RdA W b o vs) (hx : Ext W W') : RdA W' b o vs := fun j v e => hx.cell (h j v e)
theorem RdA.sub {W : World} {b o : Nat} {vs : List Value} (h : RdA W b o vs) (i n : Nat) : RdA W b (o + i) ((vs.drop i).take n) := fun j v e => by
  rw [List.getElem?_take] at e
  split at e
  · rw [List.getElem?_drop] at e
    rw [Nat.add_assoc]
    exact h _ _ e
  · cases e
theorem nums8_get {l : List Int} {i : Nat} {c : Int} (h : l[i]? = some c) : (nums8 l)[i]? = some (.int .u8 c) := by simp [nums8, h]

theorem rnum (l : List Int) (hl : l.length = 8) (hb : Bytes l) (g o cap : Nat) (w : World) (h : RdA w g o (nums8 l)) :
    Calls Try.prog 26 #[.slice (some ⟨g, o, none⟩) 8 cap] w fun e w' => e = .returned (.int .u64 (num8 l)) ∧ Ext w w' := by
  obtain ⟨b0, b1, b2, b3, b4, b5, b6, b7, rfl⟩ := list8 l hl
  have q0 : Byte b0 := hb _ (by simp)
  have q1 : Byte b1 := hb _ (by simp)
  have q2 : Byte b2 := hb _ (by simp)
  have q3 : Byte b3 := hb _ (by simp)
  have q4 : Byte b4 := hb _ (by simp)
  have q5 : Byte b5 := hb _ (by simp)
  have q6 : Byte b6 := hb _ (by simp)
  have q7 : Byte b7 := hb _ (by simp)
  refine (rnumber_calls b0 b1 b2 b3 b4 b5 b6 b7 g o cap w q0 q1 q2 q3 q4 q5 q6 q7 (h 0 _ rfl) (h 1 _ rfl) (h 2 _ rfl) (h 3 _ rfl) (h 4 _ rfl) (h 5 _ rfl) (h 6 _ rfl) (h 7 _ rfl)).mono ?_
  rintro e w' ⟨rfl, rfl⟩
  refine ⟨?_, Ext.refl _⟩
  rw [← orNum_eq _ _ _ _ _ _ _ _ q0 q1 q2 q3 q4 q5 q6 q7]
  rfl
end Go.Proofs.Ythgepclmlhbbaaa
