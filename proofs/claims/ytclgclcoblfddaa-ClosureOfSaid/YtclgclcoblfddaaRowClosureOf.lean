/- The statement ClosureOf: for every input the law returns true, and its arguments read afterwards as they read before. -/
import Derived.Test.YtclgclcoblfddaaQOfLaw
import Derived.Test.YtclgclcoblfddaaGraphJ
import Derived.Test.YtclgclcoblfddaaRowC0
import Derived.Test.YtclgclcoblfddaaBrG
import Derived.Test.YtclgclcoblfddaaRows
namespace Go.Proofs.Ytclgclcoblfddaa.closureOf
open Go.ChangeShapes Go.WideShapes Go.ChangeAt Go.RowKit
open Go.ChangeMaps (open_string shut_string)
set_option linter.unusedVariables false

theorem own : ownKnob Try.prog.godebug = none := by kernel_rfl
theorem laidOut : laidOutB Try.prog = true := by kernel_rfl

open Go.Proofs.YtclgclcoblfddaaW.PrintWords
theorem big_of {w : World} {A : Option Addr} {l : List (List Int)} (h : Kd.C (Kd.slice 3 (Kd.int .i64)) w A l.length l) : l.length ≤ 9223372036854775807 := h.2.1
theorem walk (w : World) (u0 : Value) (u1 : Value) (u2 : Value) (u3 : Value) (u4 : Value) (u5 : Value) (u6 : Value) (u7 : Value) (u8 : Value) (u9 : Value) (t0 : TabK w u0) (t1 : TabK w u1) (t2 : TabK w u2) (t3 : TabK w u3) (t4 : TabK w u4) (t5 : TabK w u5) (t6 : TabK w u6) (t7 : TabK w u7) (t8 : TabK w u8) (t9 : TabK w u9) (L1 : List Bool) (B1 : Option Addr) (d1 : Nat) (C1 : Kd.C Kd.bool w B1 L1.length L1) (D1 : L1.length ≤ d1) (a2 b2 : Int) (L3 : List P.S32) (B3 : Option Addr) (d3 : Nat) (C3 : Kd.C P.k32 w B3 L3.length L3) (D3 : L3.length ≤ d3) (a4 b4 : Int) :
    Calls Try.prog 4 #[.agg #[u0, u1, u2, u3, u4, u5, u6, u7, u8, u9], .slice B1 L1.length d1, .agg #[.int .i64 a2, .int .u8 b2], .slice B3 L3.length d3, .agg #[.int .i64 a4, .int .u8 b4]] w fun e w' => e = .returned (.bool true) ∧ Below w.heap.size w w' := by
  obtain ⟨l0, A0, c0, rfl, h0, q0⟩ := t0
  obtain ⟨l1, A1, c1, rfl, h1, q1⟩ := t1
  obtain ⟨l2, A2, c2, rfl, h2, q2⟩ := t2
  obtain ⟨l3, A3, c3, rfl, h3, q3⟩ := t3
  obtain ⟨l4, A4, c4, rfl, h4, q4⟩ := t4
  obtain ⟨l5, A5, c5, rfl, h5, q5⟩ := t5
  obtain ⟨l6, A6, c6, rfl, h6, q6⟩ := t6
  obtain ⟨l7, A7, c7, rfl, h7, q7⟩ := t7
  obtain ⟨l8, A8, c8, rfl, h8, q8⟩ := t8
  obtain ⟨l9, A9, c9, rfl, h9, q9⟩ := t9
  obtain ⟨k, hk⟩ := (of_law l0 l1 l2 l3 l4 l5 l6 l7 l8 l9 L1 a2 b2 L3 a4 b4 (big_of h0) (big_of h1) (big_of h2) (big_of h6) (big_of h7) (big_of h8) (big_of h9)).one
  refine (P.Zaa.calls k A0 c0 l0 A1 c1 l1 A2 c2 l2 A3 c3 l3 A4 c4 l4 A5 c5 l5 A6 c6 l6 A7 c7 l7 A8 c8 l8 A9 c9 l9 B1 d1 L1 a2 b2 B3 d3 L3 a4 b4 true w h0 q0 h1 q1 h2 q2 h3 q3 h4 q4 h5 q5 h6 q6 h7 q7 h8 q8 h9 q9 C1 D1 C3 D3 hk ⟨rfl⟩).mono ?_
  rintro e w' ⟨rfl, hd⟩
  exact ⟨rfl, hd⟩

set_option maxRecDepth 100000 in
theorem lifted (os : Os) (started : os.Started) (H : Type) (enc : TypeId × Value → H) :
    ReturnsInHanded {} Try.checked os 4 .any (Rows.closureOfSpec.pre6 enc Try.prog Try.f4 Rows.closureOfRow.domain false) (Rows.closureOfSpec.post enc Try.prog Try.f4 false true false false) := by
  refine returnsInHanded_of_change (C := Try.checked) own started (by kernel_rfl) Try.func4
    (ChangeSpec.witness6 (enc := enc) (C := Try.checked) false ⟨#[], #[.agg #[.slice none 0 0, .slice none 0 0, .slice none 0 0, .slice none 0 0, .slice none 0 0, .slice none 0 0, .slice none 0 0, .slice none 0 0, .slice none 0 0, .slice none 0 0], .slice none 0 0, .agg #[.int .i64 0, .int .u8 0], .slice none 0 0, .agg #[.int .i64 0, .int .u8 0]], []⟩ 8 (by kernel_rfl) (by kernel_rfl) (by kernel_rfl) (by kernel_rfl)) ?_
  intro W base args ds gs before hval0 hW hcnd _
  have hval : ∀ (j : Nat) t v, Try.f4.params[j]? = some t → args[j]? = some v → Value.okWide Try.prog W .any base t v := hval0
  have hW' := hW
  obtain ⟨p, q, hA0, hV, rfl, hfz, hnd⟩ := hW
  have hA : DataW.TrodAll enc Try.prog W 0 (fun _ => true) true Try.f4.params.toList args.toList ds p := hA0
  rw [Try.params4] at hA hval
  obtain ⟨v0, vs0, d0, ds0, p0, q0, hargs, rfl, rfl, h0, r0⟩ := trodAll_cons hA
  obtain ⟨v1, vs1, d1, ds1, p1, q1, rfl, rfl, rfl, h1, r1⟩ := trodAll_cons r0
  obtain ⟨v2, vs2, d2, ds2, p2, q2, rfl, rfl, rfl, h2, r2⟩ := trodAll_cons r1
  obtain ⟨v3, vs3, d3, ds3, p3, q3, rfl, rfl, rfl, h3, r3⟩ := trodAll_cons r2
  obtain ⟨v4, vs4, d4, ds4, p4, q4, rfl, rfl, rfl, h4, r4⟩ := trodAll_cons r3
  obtain ⟨rfl, rfl, rfl⟩ := trodAll_nil r4
  obtain rfl : args = #[v0, v1, v2, v3, v4] := by cases args; simp_all
  obtain ⟨rfl, rfl⟩ := trodVars_none hV
  have k0 := h0
  have lt0 : ∀ x ∈ p0, x.block < W.heap.size := by obtain ⟨m, hm⟩ := k0; exact DataW.trod_lt m _ _ _ hm
  obtain ⟨g0_0, g0_1, g0_2, g0_3, g0_4, g0_5, g0_6, g0_7, g0_8, g0_9, rfl, t0_0, t0_1, t0_2, t0_3, t0_4, t0_5, t0_6, t0_7, t0_8, t0_9⟩ := open_graphK (hval 0 24 v0 rfl rfl) h0
  have k1 := h1
  have lt1 : ∀ x ∈ p1, x.block < W.heap.size := by obtain ⟨m, hm⟩ := k1; exact DataW.trod_lt m _ _ _ hm
  obtain ⟨s1, m1, c1, rfl, x1, y1⟩ := open_boolsK (hval 1 25 v1 rfl rfl) h1
  have k2 := h2
  have lt2 : ∀ x ∈ p2, x.block < W.heap.size := by obtain ⟨m, hm⟩ := k2; exact DataW.trod_lt m _ _ _ hm
  obtain ⟨a2, b2, rfl⟩ := open_job (hval 2 32 v2 rfl rfl) h2
  have k3 := h3
  have lt3 : ∀ x ∈ p3, x.block < W.heap.size := by obtain ⟨m, hm⟩ := k3; exact DataW.trod_lt m _ _ _ hm
  obtain ⟨s3, m3, c3, rfl, x3, y3⟩ := open_jobsK (hval 3 36 v3 rfl rfl) h3
  have k4 := h4
  have lt4 : ∀ x ∈ p4, x.block < W.heap.size := by obtain ⟨m, hm⟩ := k4; exact DataW.trod_lt m _ _ _ hm
  obtain ⟨a4, b4, rfl⟩ := open_job (hval 4 32 v4 rfl rfl) h4
  clear hA0 hval0
  refine (walk W g0_0 g0_1 g0_2 g0_3 g0_4 g0_5 g0_6 g0_7 g0_8 g0_9 t0_0 t0_1 t0_2 t0_3 t0_4 t0_5 t0_6 t0_7 t0_8 t0_9 s1 m1 c1 x1 y1 a2 b2 s3 m3 c3 x3 y3 a4 b4).mono fun e W' ⟨he, bel⟩ => ?_
  subst he
  exact ⟨_, rfl, _, _, _, [], _, [], hW', trodAll_mk1 (shut_bool Try.underlying4 _), (trodAll_cons_mk (Below.trod laidOut (by kernel_rfl) (of_decide_eq_true (by kernel_rfl)) k0 bel lt0) (trodAll_cons_mk (Below.trod laidOut (by kernel_rfl) (of_decide_eq_true (by kernel_rfl)) k1 bel lt1) (trodAll_cons_mk (Below.trod laidOut (by kernel_rfl) (of_decide_eq_true (by kernel_rfl)) k2 bel lt2) (trodAll_cons_mk (Below.trod laidOut (by kernel_rfl) (of_decide_eq_true (by kernel_rfl)) k3 bel lt3) (trodAll_cons_mk (Below.trod laidOut (by kernel_rfl) (of_decide_eq_true (by kernel_rfl)) k4 bel lt4) trodAll_mk0))))), rfl, bel.frame _, fun h => by cases h⟩

theorem over : Rows.closureOfRow.holds Try.pinned (OpenSpec.ofChange Rows.closureOfSpec) :=
  OpenClaim.holds_of_wide 4 Try.f4 rfl rfl rfl rfl rfl rfl rfl ⟨rfl, rfl, rfl, rfl, rfl⟩ rfl rfl rfl rfl rfl (by kernel_rfl) Try.func4 (by kernel_rfl)
    (of_decide_eq_true (by kernel_rfl)) (by unfold Func.isWrapper; first | (rw [if_pos (by decide +kernel)]; kernel_rfl) | (rw [if_neg (by decide +kernel)]; exact ⟨rfl, rfl⟩))
    (fun os started H enc _ => lifted os started H enc)

theorem proved : Rows.ClosureOfSaid := over
end Go.Proofs.Ytclgclcoblfddaa.closureOf
