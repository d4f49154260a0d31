/- Chapter 23: CycleKnown (under way). -/
import Derived.Test.YthlobpdcolgcoaaKnown23b
namespace Go.Proofs.Ythlobpdcolgcoaa
open Go.RowKit Go.Maps Go.Lib Go.Proofs.YthlobpdcolgcoaaW.PrintWords
set_option linter.unusedVariables false
set_option linter.unusedSimpArgs false

theorem RdI.all_at' {W : World} {A : Option Addr} {l : List It} (h : RdI W A l) (hl : l ≠ []) : ∃ b o, A = some ⟨b, o, none⟩ ∧ ∀ (i : Nat) a, l[i]? = some a → ∀ W', Ext W W' → W'.cell? ⟨b, o + i * 3, none⟩ = some (.int .i64 a.u) ∧ W'.cell? ⟨b, o + i * 3 + 1, none⟩ = some (.int .u8 a.t) ∧ W'.cell? ⟨b, o + i * 3 + 2, none⟩ = some (.bool a.m) := by
  rcases h with h | ⟨b, o, rfl, hc⟩
  · exact absurd h hl
  · refine ⟨b, o, rfl, fun i a hi W' hW => ?_⟩
    obtain ⟨u, t, m⟩ := a
    obtain ⟨h1, h2, h3⟩ := hc i u t m hi
    exact ⟨hW.cell h1, hW.cell h2, hW.cell h3⟩
theorem mixD_gen {P : Program} {ops : Array Oper} {Q : Exit → Act → World → Prop} {S : Nat → World → Prop} {st : List (Nat × Bool)} {a : Act} {w : World} (R : World → Prop) (hR : R w) (h : ∀ w', R w' → wpMixD P ops Q S st a w') : wpMixD P ops Q S st a w := h w hR
def J7 (F : Value → Value → Value → Value → Value → Value → Value → Array Value) (w : World) (q g1 g2 : Nat) (a : Act) (W : World) : Prop := ∃ x1 x2 x3 x4 x5 x6 x7, a = { tmps := F x1 x2 x3 x4 x5 x6 x7, defers := [] } ∧ K1 W q g1 g2 ∧ Ext w W
theorem J7.mk {F : Value → Value → Value → Value → Value → Value → Value → Array Value} {w : World} {q g1 g2 : Nat} {a : Act} {W : World} (x1 x2 x3 x4 x5 x6 x7 : Value) (h : a = { tmps := F x1 x2 x3 x4 x5 x6 x7, defers := [] }) (hK : K1 W q g1 g2) (hx : Ext w W) : J7 F w q g1 g2 a W := ⟨x1, x2, x3, x4, x5, x6, x7, h, hK, hx⟩
theorem join_have {P : Program} {c : Code} {K K1 : Act → World → Prop} {Q : Exit → Act → World → Prop} {a : Act} {w : World} (R : Act → World → Prop) (h2 : ∀ a w, R a w → K1 a w) (h1 : (∀ a w, R a w → K1 a w) → c.wp P (Exit.then K (Exit.then K1 Q)) a w) : c.wp P (Exit.then K (Exit.then K1 Q)) a w := h1 h2
theorem append_row1 {w : World} {ops : Array Oper} {rest : List Oper} {o : Oper} {a : Act} {Q : Exit → Act → World → Prop} (hgd : o.guard = none) (s x : Operand)
    (ho : o.op = .call { callee := .builtin .append, args := #[s, x], argTypes := #[22, 22] }) (base : Nat)
    (v : Value) (xs : List Value) (hs : a.eval s = v) (hown : w.ownsRow base 40 1 v xs.length xs)
    (g c : Nat) (u : Value) (hu : u.oneCell' = true) (hx : a.eval x = .slice (some ⟨g, 0, none⟩) 1 c) (hc : w.cell? ⟨g, 0, none⟩ = some u)
    (hbig : xs.length ≤ 1000) (hbase : base ≤ w.heap.size)
    (h : ∀ v' w', w'.ownsRow base 40 1 v' (xs ++ [u]).length (xs ++ [u]) → w.grownBy w' v.ownBlock → (∀ k, v'.ownBlock = some k → v.ownBlock = some k ∨ w.heap.size ≤ k) → wpList Try.prog ops Q rest (a.put o.dst v') w') : wpList Try.prog ops Q (o :: rest) a w := by
  obtain ⟨inf, hi, hz, hsz, hby⟩ := info_parts infoRow
  refine wpList_append_row hgd s x _ ho base _ inf _ 1 24 Try.underlying22 hi hz hsz hby rfl (by decide) v xs.length xs hs hown ⟨g, 0, none⟩ 1 c [u] hx rfl ?_ ?_ (by decide) (by unfold maxLen; omega) (by omega) hbase (fun v' w' h2 h3 h4 => h v' w' ?_ h3 h4)
  · intro j y hj
    cases j with
    | zero => cases hj; exact hc
    | succ j => simp at hj
  · intro y hy
    rw [List.mem_singleton.1 hy]; exact hu
  · rw [List.length_append]; exact h2
def KR (w : World) (vn : Value) (W : World) : Prop := ∃ n : Nat, 1 ≤ n ∧ n ≤ 9 ∧ vn = .int .i64 n ∧ Ext w W
set_option maxRecDepth 100000 in
set_option maxHeartbeats 80000000 in
theorem law_known (w : World) : Calls Try.prog 7 #[] w fun e w' => e = .returned (.bool true) ∧ Ext w w' := by
  have HT := Lib.hid (rowG 10 rfl)
  have HW := Lib.hid fun W => works_calls W
  go_enter Try.func7, Try.ntmps7
  go_upto_region 2 with (fail)
  go_loopw [1] (fun v W => ∃ k : Nat, k ≤ 16 ∧ v = .int .i64 k ∧ Ext w W) (fun v _ => 16 - (RowKit.intOf v).toNat)
  case atStart => exact ⟨0, by omega, rfl, Ext.refl _⟩
  case round =>
    obtain ⟨k, hk, rfl, hx⟩ := hrel
    by_cases hlt : k < 16
    · have hlti : (k : Int) < 16 := by omega
      go_upto_region 5 with (fail)
      obtain ⟨h, hh⟩ : ∃ h, wr.heap.size = h := ⟨_, rfl⟩
      refine wp_gen (fun W => K1 W (h + 1 + 1 + 1 + 1 + 1 + 1) (h + 1 + 1) (h + 1 + 1 + 1 + 1 + 1) ∧ Ext w W) ⟨⟨?_, ⟨[.slice (some ⟨h, 0, none⟩) 0 0, .slice (some ⟨h + 1, 0, none⟩) 0 0], [.slice (some ⟨h + 1 + 1 + 1, 0, none⟩) 0 0, .slice (some ⟨h + 1 + 1 + 1 + 1, 0, none⟩) 0 0], rfl, rfl, ?_, ?_, fun v hv => ?_⟩, by omega⟩, ?_⟩ ?_
      · rw [← hh]
        exact Blk.newAt _ (csK (.slice (some ⟨wr.heap.size + 1 + 1, 0, none⟩) 2 2) (.slice (some ⟨wr.heap.size + 1 + 1 + 1 + 1 + 1, 0, none⟩) 2 2)) _ _ (by simp)
      · rw [← hh]
        exact (((((Blk.newAt _ [.slice (some ⟨wr.heap.size, 0, none⟩) 0 0, .slice (some ⟨wr.heap.size + 1, 0, none⟩) 0 0] _ _ (by simp)).alloc _).alloc _).alloc _).alloc _)
      · rw [← hh]
        exact ((Blk.newAt _ [.slice (some ⟨wr.heap.size + 1 + 1 + 1, 0, none⟩) 0 0, .slice (some ⟨wr.heap.size + 1 + 1 + 1 + 1, 0, none⟩) 0 0] _ _ (by simp)).alloc _)
      · simp only [List.cons_append, List.nil_append, List.mem_cons, List.not_mem_nil, or_false] at hv
        rcases hv with rfl | rfl | rfl | rfl <;> exact RowV.nil _ _ _ _
      · exact ((((((hx.alloc _).alloc _).alloc _).alloc _).alloc _).alloc _).alloc _
      rw [hh]
      have hhw : w.heap.size ≤ h := by rw [← hh]; exact hx.size
      clear hh hx
      rintro W0 ⟨hK, hx⟩
      have hq1 : w.heap.size ≤ h + 1 + 1 := by omega
      have hq2 : w.heap.size ≤ h + 1 + 1 + 1 + 1 + 1 := by omega
      obtain ⟨q, hq⟩ : ∃ q, h + 1 + 1 + 1 + 1 + 1 + 1 = q := ⟨_, rfl⟩
      obtain ⟨g2, hg2⟩ : ∃ g2, h + 1 + 1 + 1 + 1 + 1 = g2 := ⟨_, rfl⟩
      obtain ⟨g1, hg1⟩ : ∃ g1, h + 1 + 1 = g1 := ⟨_, rfl⟩
      rw [hq, hg2, hg1] at hK
      rw [hg1] at hq1
      rw [hg2] at hq2
      rw [hq, hg2, hg1]
      clear hq hg1 hg2 hhw
      refine join_have (J7 (fun x21 x22 x23 x24 x25 x26 x27 => #[u0, .int .i64 k, .pointer (some ⟨q, 0, none⟩), u3, u4, u5, undef, undef, undef, undef, .int .i64 k, .bool true, u12, u13, .slice (some ⟨h, 0, none⟩) 0 0, .slice (some ⟨h + 1, 0, none⟩) 0 0, .slice (some ⟨g1, 0, none⟩) 2 2, .slice (some ⟨g1 + 1, 0, none⟩) 0 0, .slice (some ⟨g1 + 1 + 1, 0, none⟩) 0 0, .slice (some ⟨g2, 0, none⟩) 2 2, .agg #[.slice none 0 0, .slice none 0 0, .slice none 0 0, .slice none 0 0, .slice (some ⟨g1, 0, none⟩) 2 2, .slice (some ⟨g2, 0, none⟩) 2 2, .slice none 0 0, .slice none 0 0, .slice none 0 0, .slice none 0 0], x21, x22, x23, x24, x25, x26, x27, u28, u29, u30, u31, u32, u33, u34, u35, u36, u37, u38, u39, u40, u41, u42, u43, u44, u45, u46, u47, u48, u49, u50, u51, u52, u53, u54, u55, u56, u57, u58, u59, u60, u61, u62, u63, u64, u65, u66, u67, u68, u69, u70, u71, u72, u73, u74, u75, u76, u77, u78, u79, u80, u81, u82, u83, u84, u85, u86, u87, u88, u89, u90, u91, u92, u93, u94, u95, u96, u97, u98, u99, u100, u101, u102, u103, u104, u105, u106, u107, u108, undef, undef, undef, undef, undef, undef, undef, undef, undef, undef, undef, undef, undef, undef, undef, undef, undef, undef, undef, undef, undef, undef, undef, undef, undef, undef, undef, undef, undef, undef, undef, undef, undef, undef, undef, undef, undef, undef, undef, undef, undef, undef, undef, undef, undef, undef, undef, undef, undef, undef, undef, undef, undef, undef, undef, undef, undef, undef, undef, undef, undef, undef, undef, undef, undef, undef, undef, undef, undef, undef, undef, undef, undef, undef, undef, undef, undef, undef, undef, undef, undef, undef, undef, undef, undef, undef, undef, undef, undef, undef, undef, undef, undef]) w q g1 g2) ?_ ?_
      rotate_left
      · intro hJ
        obtain ⟨⟨y0, d0⟩, ⟨y1, d1⟩, ⟨y2, d2⟩, ⟨y3, d3⟩, d4, d5, z1, z2⟩ := hK.facts
        by_cases p : 0 < bits BinOp.and IntKind.i64 (k : Int) 1
        · go_wp2_with fail
          exact J7.mk _ _ _ _ _ _ _ rfl (hK.put1 0 [1] (by simp)) ((hx.alloc _).setCell (show _ ≤ _ from hq1) _)
        · go_wp2_with fail
          exact J7.mk _ _ _ _ _ _ _ rfl hK hx
      clear hK hx
      intro a0 W1 hR
      obtain ⟨x21, x22, x23, x24, x25, x26, x27, rfl, hK, hx⟩ := hR

      clear W0
      rename World => W0
      go_upto_region 7 with (fail)
      refine join_have (J7 (fun x28 x29 x30 x31 x32 x33 x34 => #[u0, .int .i64 k, .pointer (some ⟨q, 0, none⟩), u3, u4, u5, undef, undef, undef, undef, .int .i64 k, .bool true, u12, u13, .slice (some ⟨h, 0, none⟩) 0 0, .slice (some ⟨h + 1, 0, none⟩) 0 0, .slice (some ⟨g1, 0, none⟩) 2 2, .slice (some ⟨g1 + 1, 0, none⟩) 0 0, .slice (some ⟨g1 + 1 + 1, 0, none⟩) 0 0, .slice (some ⟨g2, 0, none⟩) 2 2, .agg #[.slice none 0 0, .slice none 0 0, .slice none 0 0, .slice none 0 0, .slice (some ⟨g1, 0, none⟩) 2 2, .slice (some ⟨g2, 0, none⟩) 2 2, .slice none 0 0, .slice none 0 0, .slice none 0 0, .slice none 0 0], x21, x22, x23, x24, x25, x26, x27, x28, x29, x30, x31, x32, x33, x34, u35, u36, u37, u38, u39, u40, u41, u42, u43, u44, u45, u46, u47, u48, u49, u50, u51, u52, u53, u54, u55, u56, u57, u58, u59, u60, u61, u62, u63, u64, u65, u66, u67, u68, u69, u70, u71, u72, u73, u74, u75, u76, u77, u78, u79, u80, u81, u82, u83, u84, u85, u86, u87, u88, u89, u90, u91, u92, u93, u94, u95, u96, u97, u98, u99, u100, u101, u102, u103, u104, u105, u106, u107, u108, undef, undef, undef, undef, undef, undef, undef, undef, undef, undef, undef, undef, undef, undef, undef, undef, undef, undef, undef, undef, undef, undef, undef, undef, undef, undef, undef, undef, undef, undef, undef, undef, undef, undef, undef, undef, undef, undef, undef, undef, undef, undef, undef, undef, undef, undef, undef, undef, undef, undef, undef, undef, undef, undef, undef, undef, undef, undef, undef, undef, undef, undef, undef, undef, undef, undef, undef, undef, undef, undef, undef, undef, undef, undef, undef, undef, undef, undef, undef, undef, undef, undef, undef, undef, undef, undef, undef, undef, undef, undef, undef, undef, undef]) w q g1 g2) ?_ ?_
      rotate_left
      · intro hJ
        obtain ⟨⟨y0, d0⟩, ⟨y1, d1⟩, ⟨y2, d2⟩, ⟨y3, d3⟩, d4, d5, z1, z2⟩ := hK.facts
        by_cases p : 0 < bits BinOp.and IntKind.i64 (k : Int) 2
        · go_wp2_with fail
          exact J7.mk _ _ _ _ _ _ _ rfl (hK.put1 1 [0] (by simp)) ((hx.alloc _).setCell (show _ ≤ _ from hq1) _)
        · go_wp2_with fail
          exact J7.mk _ _ _ _ _ _ _ rfl hK hx
      clear hK hx
      intro a0 W1 hR
      obtain ⟨x28, x29, x30, x31, x32, x33, x34, rfl, hK, hx⟩ := hR

      clear W0
      rename World => W0
      go_upto_region 9 with (fail)
      refine join_have (J7 (fun x35 x36 x37 x38 x39 x40 x41 => #[u0, .int .i64 k, .pointer (some ⟨q, 0, none⟩), u3, u4, u5, undef, undef, undef, undef, .int .i64 k, .bool true, u12, u13, .slice (some ⟨h, 0, none⟩) 0 0, .slice (some ⟨h + 1, 0, none⟩) 0 0, .slice (some ⟨g1, 0, none⟩) 2 2, .slice (some ⟨g1 + 1, 0, none⟩) 0 0, .slice (some ⟨g1 + 1 + 1, 0, none⟩) 0 0, .slice (some ⟨g2, 0, none⟩) 2 2, .agg #[.slice none 0 0, .slice none 0 0, .slice none 0 0, .slice none 0 0, .slice (some ⟨g1, 0, none⟩) 2 2, .slice (some ⟨g2, 0, none⟩) 2 2, .slice none 0 0, .slice none 0 0, .slice none 0 0, .slice none 0 0], x21, x22, x23, x24, x25, x26, x27, x28, x29, x30, x31, x32, x33, x34, x35, x36, x37, x38, x39, x40, x41, u42, u43, u44, u45, u46, u47, u48, u49, u50, u51, u52, u53, u54, u55, u56, u57, u58, u59, u60, u61, u62, u63, u64, u65, u66, u67, u68, u69, u70, u71, u72, u73, u74, u75, u76, u77, u78, u79, u80, u81, u82, u83, u84, u85, u86, u87, u88, u89, u90, u91, u92, u93, u94, u95, u96, u97, u98, u99, u100, u101, u102, u103, u104, u105, u106, u107, u108, undef, undef, undef, undef, undef, undef, undef, undef, undef, undef, undef, undef, undef, undef, undef, undef, undef, undef, undef, undef, undef, undef, undef, undef, undef, undef, undef, undef, undef, undef, undef, undef, undef, undef, undef, undef, undef, undef, undef, undef, undef, undef, undef, undef, undef, undef, undef, undef, undef, undef, undef, undef, undef, undef, undef, undef, undef, undef, undef, undef, undef, undef, undef, undef, undef, undef, undef, undef, undef, undef, undef, undef, undef, undef, undef, undef, undef, undef, undef, undef, undef, undef, undef, undef, undef, undef, undef, undef, undef, undef, undef, undef, undef]) w q g1 g2) ?_ ?_
      rotate_left
      · intro hJ
        obtain ⟨⟨y0, d0⟩, ⟨y1, d1⟩, ⟨y2, d2⟩, ⟨y3, d3⟩, d4, d5, z1, z2⟩ := hK.facts
        by_cases p : 0 < bits BinOp.and IntKind.i64 (k : Int) 4
        · go_wp2_with fail
          exact J7.mk _ _ _ _ _ _ _ rfl (hK.put2 0 [1, 1] (by simp)) ((hx.alloc _).setCell (show _ ≤ _ from hq2) _)
        · go_wp2_with fail
          exact J7.mk _ _ _ _ _ _ _ rfl hK hx
      clear hK hx
      intro a0 W1 hR
      obtain ⟨x35, x36, x37, x38, x39, x40, x41, rfl, hK, hx⟩ := hR

      clear W0
      rename World => W0
      go_upto_region 11 with (fail)
      refine join_have (J7 (fun x42 x43 x44 x45 x46 x47 x48 => #[u0, .int .i64 k, .pointer (some ⟨q, 0, none⟩), u3, u4, u5, undef, undef, undef, undef, .int .i64 k, .bool true, u12, u13, .slice (some ⟨h, 0, none⟩) 0 0, .slice (some ⟨h + 1, 0, none⟩) 0 0, .slice (some ⟨g1, 0, none⟩) 2 2, .slice (some ⟨g1 + 1, 0, none⟩) 0 0, .slice (some ⟨g1 + 1 + 1, 0, none⟩) 0 0, .slice (some ⟨g2, 0, none⟩) 2 2, .agg #[.slice none 0 0, .slice none 0 0, .slice none 0 0, .slice none 0 0, .slice (some ⟨g1, 0, none⟩) 2 2, .slice (some ⟨g2, 0, none⟩) 2 2, .slice none 0 0, .slice none 0 0, .slice none 0 0, .slice none 0 0], x21, x22, x23, x24, x25, x26, x27, x28, x29, x30, x31, x32, x33, x34, x35, x36, x37, x38, x39, x40, x41, x42, x43, x44, x45, x46, x47, x48, u49, u50, u51, u52, u53, u54, u55, u56, u57, u58, u59, u60, u61, u62, u63, u64, u65, u66, u67, u68, u69, u70, u71, u72, u73, u74, u75, u76, u77, u78, u79, u80, u81, u82, u83, u84, u85, u86, u87, u88, u89, u90, u91, u92, u93, u94, u95, u96, u97, u98, u99, u100, u101, u102, u103, u104, u105, u106, u107, u108, undef, undef, undef, undef, undef, undef, undef, undef, undef, undef, undef, undef, undef, undef, undef, undef, undef, undef, undef, undef, undef, undef, undef, undef, undef, undef, undef, undef, undef, undef, undef, undef, undef, undef, undef, undef, undef, undef, undef, undef, undef, undef, undef, undef, undef, undef, undef, undef, undef, undef, undef, undef, undef, undef, undef, undef, undef, undef, undef, undef, undef, undef, undef, undef, undef, undef, undef, undef, undef, undef, undef, undef, undef, undef, undef, undef, undef, undef, undef, undef, undef, undef, undef, undef, undef, undef, undef, undef, undef, undef, undef, undef, undef]) w q g1 g2) ?_ ?_
      rotate_left
      · intro hJ
        obtain ⟨⟨y0, d0⟩, ⟨y1, d1⟩, ⟨y2, d2⟩, ⟨y3, d3⟩, d4, d5, z1, z2⟩ := hK.facts
        by_cases p : 0 < bits BinOp.and IntKind.i64 (k : Int) 8
        · go_wp2_with fail
          exact J7.mk _ _ _ _ _ _ _ rfl (hK.put2 1 [0, 7, -1] (by simp)) ((hx.alloc _).setCell (show _ ≤ _ from hq2) _)
        · go_wp2_with fail
          exact J7.mk _ _ _ _ _ _ _ rfl hK hx
      clear hK hx
      intro a0 W1 hR
      obtain ⟨x42, x43, x44, x45, x46, x47, x48, rfl, hK, hx⟩ := hR

      clear W0
      rename World => W0
      go_upto_region 14 with (fail)
      have T1 := hK.tab1
      have T2 := hK.tab2
      have BQ := hK.bq
      clear hK hq1 hq2
      go_loopw [3, 4, 5] (fun va vb vl W => ∃ a : Nat, a ≤ 5 ∧ va = .int .u8 a ∧ Ext W0 W) (fun va _ _ _ => 5 - (RowKit.intOf va).toNat)
      case atStart => exact ⟨0, by omega, rfl, Ext.refl _⟩
      case round =>
        obtain ⟨a, ha, rfl, hxa⟩ := hrel
        by_cases hla : a < 5
        · have hlai : (a : Int) < 5 := by omega
          go_upto_region 17 with (fail)
          rename World => Wa
          go_loopw [4, 5] (fun vb vl W => ∃ b : Nat, b ≤ 5 ∧ vb = .int .u8 b ∧ Ext Wa W) (fun vb _ _ => 5 - (RowKit.intOf vb).toNat)
          case atStart => exact ⟨0, by omega, rfl, Ext.refl _⟩
          case round =>
            obtain ⟨b, hb, rfl, hxb⟩ := hrel
            by_cases hlb : b < 5
            · have hlbi : (b : Int) < 5 := by omega
              go_upto_region 20 with (fail)
              obtain ⟨m1, hm1⟩ : ∃ m1, decide (0 < bits BinOp.and IntKind.i64 (k : Int) 1) = m1 := ⟨_, rfl⟩
              obtain ⟨m2, hm2⟩ : ∃ m2, decide (0 < bits BinOp.and IntKind.i64 (k : Int) 2) = m2 := ⟨_, rfl⟩
              rw [hm1, hm2]
              clear hm1 hm2
              refine wp_gen (fun W => Blk W wr.heap.size [.int .i64 0, .int .u8 a, .bool m1, .int .i64 1, .int .u8 b, .bool m2] 30 ∧ Ext wr W) ⟨Blk.newAt wr [.int .i64 0, .int .u8 a, .bool m1, .int .i64 1, .int .u8 b, .bool m2] _ _ rfl, (Ext.refl wr).alloc _⟩ ?_
              obtain ⟨L, hL⟩ : ∃ L, wr.heap.size = L := ⟨_, rfl⟩
              rw [hL]
              clear hL
              rintro W3 ⟨hL, hx3⟩
              have xx := (hxa.trans hxb).trans hx3
              have S1 := T1.ext xx
              have S2 := T2.ext xx
              have BQ3 := BQ.ext xx
              have I3 := RdI.of2 hL
              have e0 : ∀ W', Ext W3 W' → W'.cell? ⟨L, 0, none⟩ = some (.int .i64 0) := fun W' hW => (hL.ext hW).cell 0 rfl
              have e1 : ∀ W', Ext W3 W' → W'.cell? ⟨L, 1, none⟩ = some (.int .u8 a) := fun W' hW => (hL.ext hW).cell 1 rfl
              have e2 : ∀ W', Ext W3 W' → W'.cell? ⟨L, 2, none⟩ = some (.bool m1) := fun W' hW => (hL.ext hW).cell 2 rfl
              have e3 : ∀ W', Ext W3 W' → W'.cell? ⟨L, 3, none⟩ = some (.int .i64 1) := fun W' hW => (hL.ext hW).cell 3 rfl
              have e4 : ∀ W', Ext W3 W' → W'.cell? ⟨L, 4, none⟩ = some (.int .u8 b) := fun W' hW => (hL.ext hW).cell 4 rfl
              refine wp_region_mixAll (fun W => Ext W3 W) [(0, true), (1, true), (2, true), (3, true), (4, true), (5, true), (6, true), (7, true), (8, true), (9, false), (10, true), (11, true), (12, true), (13, true), (14, true), (15, true), (16, true), (17, true), (18, true), (19, true), (20, true), (21, false), (22, true), (23, true), (24, true), (25, true), (26, true), (27, false), (28, true), (29, true), (30, true), (31, true), (32, true), (33, true), (34, true), (35, true), (36, false), (37, true), (38, true)] (by kernel_rfl) (by kernel_rfl) ((Ext.refl W3).drew) ?_
              (repeat (first | (apply mix_read; (case ho => rfl); (case hw => rfl); (case h1 => intro W' hx; exact read_load_blk rfl rfl (HT.out) (BQ3.ext hx)); (case hp => go_simp; first | done | with_reducible rfl)) | (apply mix_read; (case ho => rfl); (case hw => rfl); (case h1 => intro W' hx; (try dsimp only at hx); go_simp; (try go_bits); with_reducible rfl); (case hp => go_simp; first | done | with_reducible rfl)) | (apply mix_skip; (case ho => rfl); (case hw => rfl); (case hp => go_simp; first | done | with_reducible rfl))))
              refine mix_loud rfl ?_; intro KY hKY
              go_wp2_with fail
              refine (kn_ahead (S1.ext (Ext.refl W3).drew) (S2.ext (Ext.refl W3).drew) _ _ _ _).mono ?_
              rintro e W4 ⟨rfl, x4⟩
              have y4 := (Ext.refl W3).drew.trans x4
              go_wp2_with fail
              refine ⟨y4, ?_⟩
              (repeat (first | (apply mix_read; (case ho => rfl); (case hw => rfl); (case h1 => intro W' hx; exact read_load_blk rfl rfl (HT.out) (BQ3.ext hx)); (case hp => go_simp; first | done | with_reducible rfl)) | (apply mix_read; (case ho => rfl); (case hw => rfl); (case h1 => intro W' hx; (try dsimp only at hx); go_simp; (try go_bits); with_reducible rfl); (case hp => go_simp; first | done | with_reducible rfl)) | (apply mix_skip; (case ho => rfl); (case hw => rfl); (case hp => go_simp; first | done | with_reducible rfl))))
              refine mix_loud rfl ?_; intro KY hKY
              go_wp2_with fail
              refine (kn_ahead (S1.ext y4) (S2.ext y4) _ _ _ _).mono ?_
              rintro e W5 ⟨rfl, x5⟩
              have y5 := y4.trans x5
              go_wp2_with fail
              refine ⟨y5, ?_⟩
              (repeat (first | (apply mix_read; (case ho => rfl); (case hw => rfl); (case h1 => intro W' hx; exact read_load_blk rfl rfl (HT.out) (BQ3.ext hx)); (case hp => go_simp; first | done | with_reducible rfl)) | (apply mix_read; (case ho => rfl); (case hw => rfl); (case h1 => intro W' hx; (try dsimp only at hx); go_simp; (try go_bits); with_reducible rfl); (case hp => go_simp; first | done | with_reducible rfl)) | (apply mix_skip; (case ho => rfl); (case hw => rfl); (case hp => go_simp; first | done | with_reducible rfl))))
              refine mix_loud rfl ?_; intro KY hKY
              go_wp2_with fail
              refine (kn_ring (cap := 2) (S1.ext y5) (S2.ext y5) (I3.ext y5) (Nat.le_refl _) (by simp)).mono ?_
              rintro e W6 ⟨rfl, x6⟩
              have y6 := y5.trans x6
              go_wp2_with fail
              refine ⟨y6, ?_⟩
              (repeat (first | (apply mix_read; (case ho => rfl); (case hw => rfl); (case h1 => intro W' hx; exact read_load_blk rfl rfl (HT.out) (BQ3.ext hx)); (case hp => go_simp; first | done | with_reducible rfl)) | (apply mix_read; (case ho => rfl); (case hw => rfl); (case h1 => intro W' hx; (try dsimp only at hx); go_simp; (try go_bits); with_reducible rfl); (case hp => go_simp; first | done | with_reducible rfl)) | (apply mix_skip; (case ho => rfl); (case hw => rfl); (case hp => go_simp; first | done | with_reducible rfl))))
              refine mix_loud rfl ?_; intro KY hKY
              go_wp2_with fail
              refine (kn_many (cap := 2) (S1.ext y6) (S2.ext y6) (I3.ext y6) (Nat.le_refl _) (by simp) _ _ _).mono ?_
              rintro e W7 ⟨rfl, x7⟩
              have y7 := y6.trans x7
              go_wp2_with fail
              refine ⟨y7, ?_⟩
              (repeat (first | (apply mix_read; (case ho => rfl); (case hw => rfl); (case h1 => intro W' hx; exact read_load_blk rfl rfl (HT.out) (BQ3.ext hx)); (case hp => go_simp; first | done | with_reducible rfl)) | (apply mix_read; (case ho => rfl); (case hw => rfl); (case h1 => intro W' hx; (try dsimp only at hx); go_simp; (try go_bits); with_reducible rfl); (case hp => go_simp; first | done | with_reducible rfl)) | (apply mix_skip; (case ho => rfl); (case hw => rfl); (case hp => go_simp; first | done | with_reducible rfl))))
              refine mix_nil ?_; unfold Q0
              go_wp2_with fail
              go_roundw
              case rel => exact ⟨b + 1, by omega, by go_num, (hxb.trans hx3).trans y7⟩
              case measure => simp [RowKit.intOf]; omega
            · have hlbi : ¬ (b : Int) < 5 := by omega
              go_wp2_with fail
              go_roundw
              case rel => exact ⟨a + 1, by omega, by go_num, hxa.trans hxb⟩
              case measure => simp [RowKit.intOf]; omega
        · have hlai : ¬ (a : Int) < 5 := by omega
          go_wp2_with fail
          go_roundw
          case rel => exact ⟨k + 1, by omega, by go_num, hx.trans hxa⟩
          case measure => simp [RowKit.intOf]; omega
    · have hlti : ¬ (k : Int) < 16 := by omega
      go_upto_region 23 with (fail)
      go_loopw [6, 7, 8, 9] (fun vn v7 v8 v9 W => KR w vn W) (fun vn _ _ _ _ => 9 - (RowKit.intOf vn).toNat)
      case atStart => exact ⟨1, by omega, by omega, rfl, hx⟩
      case round =>
        clear hx hlt hk
        obtain ⟨n, hn1, hn9, rfl, hx⟩ := hrel
        by_cases hnl : n < 9
        · have hnli : (n : Int) < 9 := by omega
          have hn0 : ¬ (n : Int) = 0 := by omega
          have hn0n : ¬ n = 0 := by omega
          go_upto_region 28 with (fail)
          refine wp_gen (fun W => K2 W wr.heap.size (.slice none 0 0) (.slice none 0 0) (.slice none 0 0) [] [] [] ∧ Ext w W) ⟨K2.nil (Blk.newAt wr (csK (.slice none 0 0) (.slice none 0 0)) _ _ rfl), hx.alloc _⟩ ?_
          have hqw : w.heap.size ≤ wr.heap.size := hx.size
          obtain ⟨q, hq⟩ : ∃ q, wr.heap.size = q := ⟨_, rfl⟩
          rw [hq] at hqw ⊢
          clear hq hx
          rintro W0 ⟨hK, hx⟩
          go_loopw [8, 9] (fun vl vi W => ∃ i : Nat, i ≤ n ∧ vi = .int .i64 i ∧ KX W q i vl ∧ Ext w W) (fun _ vi _ => n - (RowKit.intOf vi).toNat)
          case atStart => exact ⟨0, Nat.zero_le _, rfl, ⟨_, _, [], [], [], rfl, rfl, rfl, hK⟩, hx⟩
          case round =>
            clear hK hx
            obtain ⟨i, hi, rfl, ⟨va, vb, vsA, vsB, l, hA, hB, hL, hK⟩, hx⟩ := hrel
            by_cases hil : i < n
            · have hili : (i : Int) < n := by omega
              have cA := hK.bq.cell 4 rfl
              go_upto_region 30 with (fail)
              have HA := Lib.hid hA
              have HB := Lib.hid hB
              have HL := Lib.hid hL
              have bA : vsA.length ≤ 8 := by omega
              have bB : vsB.length ≤ 8 := by omega
              have bL : l.length ≤ 8 := by omega
              clear hA hB hL
              have nofresh := fun k (hk : wr.heap.size ≤ k) => hK.fresh hk
              refine wp_region_mixD (fun k W => k = 1 → W.cell? ⟨q, 4, none⟩ = some va) [(0, true), (1, true), (2, true), (3, true), (4, true), (5, true), (6, true), (7, true), (8, true), (9, true), (10, true), (11, true), (12, false), (13, false), (14, false), (15, true), (16, false)] (by kernel_rfl) (by kernel_rfl) (fun k _ => cA) ?_
              (apply mixD_read; (case ho => rfl); (case hw => rfl); (case h1 => intro W' hx; (try dsimp only at hx); go_simp; (try go_bits); with_reducible rfl); (case hp => go_simp; first | done | with_reducible rfl))
              (apply mixD_read; (case ho => rfl); (case hw => rfl); (case h1 => intro W' hx; have hx := hx rfl; go_simp; (try go_bits); with_reducible rfl); (case hp => go_simp; first | done | with_reducible rfl))
              iterate 10 (apply mixD_read; (case ho => rfl); (case hw => rfl); (case h1 => intro W' hx; (try dsimp only at hx); go_simp; (try go_bits); with_reducible rfl); (case hp => go_simp; first | done | with_reducible rfl))
              refine mixD_loud rfl ?_; intro KY hKY
              go_wp2_with fail
              refine ⟨fun k hk h e => ((Ext.refl _).alloc _).cell (h e), ?_⟩
              refine mixD_loud rfl ?_; intro KY hKY
              go_wp2_with fail
              refine ⟨fun k hk h e => ((Ext.refl _).alloc _).cell (h e), ?_⟩
              refine mixD_gen (fun W => K2 W q va vb u8 vsA vsB l ∧ RowV W (NN q va vb u8) (.slice (some ⟨wr.heap.size, 0, none⟩) 2 2) ∧ W.cell? ⟨wr.heap.size + 1, 0, none⟩ = some (.slice (some ⟨wr.heap.size, 0, none⟩) 2 2) ∧ Ext w W)
                ⟨hK.ext (((Ext.refl wr).alloc _).alloc _).drew, RowV.new (xs := [_, _]) ((Blk.new wr [.int .i64 _, .int .i64 _] 3).alloc _).drew (nofresh _ (Nat.le_refl _)) (by simp) 2 (Nat.le_refl _), by simp, ((hx.alloc _).alloc _).drew⟩ ?_
              obtain ⟨N0, hN0⟩ : ∃ N0, wr.heap.size = N0 := ⟨_, rfl⟩
              rw [hN0]
              clear cA hx hK nofresh hN0
              rintro W5 ⟨hK, hU, hc5, hx⟩
              have hbq := hK.bq.lt
              refine mixD_loud rfl ?_; intro KY hKY
              go_wp2_with (refine append_row1 rfl (.tmp 120) (.tmp 132) rfl (q + 1) va vsA rfl hK.oa (N0 + 1) 1 (.slice (some ⟨N0, 0, none⟩) 2 2) rfl rfl hc5 (by omega) (by omega) ?_; intro v6 W6 o6 g6 s6; obtain ⟨A6, c6, e6, _, _⟩ := Owns.shape o6; rw [List.length_append, List.length_singleton] at e6; subst e6)
              have hqa : va.ownBlock ≠ some q := fun e => by have := (hK.oa.lt q e).1; omega
              have b6 : Blk W6 q (csK va vb) 24 := (g6.block q hbq (fun e => hqa e.symm)).trans hK.bq
              have d6 := b6.cell 4 rfl
              have z6 := b6.frozen 4
              refine ⟨fun k hk h e => ?_, ?_⟩
              · subst e; exact absurd hk (Bool.eq_false_iff.1 (by kernel_rfl))
              (apply mixD_read; (case ho => rfl); (case hw => rfl); (case h1 => intro W' hx; (try dsimp only at hx); go_simp; (try go_bits); with_reducible rfl); (case hp => go_simp; first | done | with_reducible rfl))
              refine mixD_loud rfl ?_; intro KY hKY
              go_wp2_with fail
              refine ⟨fun k hk h e => ?_, ?_⟩
              · subst e; exact absurd hk (Bool.eq_false_iff.1 (by kernel_rfl))
              refine mixD_nil ?_; unfold Q0
              go_upto_region 31 with (fail)
              have hx6 : Ext w W6 := Grown.toExt hx g6 (fun k hk => by have := (hK.oa.lt k hk).1; omega)
              refine wp_gen (fun W => K2 W q (.slice A6 (vsA.length + 1) c6) vb u8 (vsA ++ [Value.slice (some ⟨N0, 0, none⟩) 2 2]) vsB l ∧ Ext w W) ⟨hK.stepA o6 g6 s6 hU, hx6.setCell (show w.heap.size ≤ q from hqw) _⟩ ?_
              clear hqa b6 d6 z6 o6 g6 s6 hU hc5 hx hK hbq hx6
              generalize (Value.slice A6 (vsA.length + 1) c6) = v6
              rintro W7 ⟨hK, hx⟩
              have cB := hK.bq.cell 5 rfl
              have hbq := hK.bq.lt
              have hK7 := hK.ext ((Ext.refl W7).alloc (.cells #[.slice none 0 0] 40))
              have hqb : vb.ownBlock ≠ some q := fun e => by have := (hK.ob.lt q e).1; omega
              go_upto_region 32 with (refine append_row1 rfl (.tmp 136) (.tmp 137) rfl (q + 1) vb vsB rfl hK7.ob W7.heap.size 1 (.slice none 0 0) rfl rfl (by simp) (by omega) (by rw [World.size_alloc]; omega) ?_; intro v8 W8 o8 g8 s8; obtain ⟨A8, c8, e8, _, _⟩ := Owns.shape o8; rw [List.length_append, List.length_singleton] at e8; subst e8; have b8 : Blk W8 q (csK v6 vb) 24 := (g8.block q (by rw [World.size_alloc]; omega) (fun e => hqb e.symm)).trans hK7.bq; have d8 := b8.cell 5 rfl; have z8 := b8.frozen 5)
              have hx8 : Ext w W8 := Grown.toExt (hx.alloc _) g8 (fun k hk => by have := (hK.ob.lt k hk).1; omega)
              refine wp_gen (fun W => K2 W q v6 (.slice A8 (vsB.length + 1) c8) u8 (vsA ++ [Value.slice (some ⟨N0, 0, none⟩) 2 2]) (vsB ++ [Value.slice none 0 0]) l ∧ Ext w W) ⟨hK7.stepB o8 g8 s8 (RowV.nil _ _ _ _), hx8.setCell (show w.heap.size ≤ q from hqw) _⟩ ?_
              clear hqb b8 d8 z8 o8 g8 s8 hK7 cB hx hK hbq hx8
              generalize (Value.slice A8 (vsB.length + 1) c8) = v8
              rintro W9 ⟨hK, hx⟩
              have hbq := hK.bq.lt
              go_wp2_with (refine wpList_append_item rfl (.tmp 140) (.tmp 155) rfl (q + 1) u8 l rfl (Owns.ext hK.ol ((Ext.refl W9).alloc _)) W9.heap.size 1 ⟨_, _, _⟩ rfl (Blk.newAt W9 [.int .i64 _, .int .u8 _, .bool _] _ _ rfl) (by omega) (by rw [World.size_alloc]; omega) ?_; intro v10 W10 o10 g10 s10)
              have hx10 : Ext w W10 := Grown.toExt (hx.alloc _) g10 (fun k hk => by have := (hK.ol.lt k hk).1; omega)
              have hK10 := (hK.ext ((Ext.refl W9).alloc _)).stepL o10 g10 s10
              go_roundw
              case rel => exact ⟨i + 1, by omega, by go_num, ⟨v6, v8, _, _, _, by simp [HA.out], by simp [HB.out], by simp [HL.out], hK10⟩, hx10⟩
              case measure => simp [RowKit.intOf]; omega
            · obtain rfl : i = n := by omega
              obtain ⟨A, cap, rfl, hcap, hrd, _⟩ := OwnsI.rd hK.ol
              have hlen : l.length ≤ 8 := by omega
              have hlen1 : 1 ≤ l.length := by omega
              have hAl : vsA.length = l.length := by omega
              have hBl : vsB.length = l.length := by omega
              subst hL
              clear hA hB hi hil hn9 hn1
              have hb8 : vsA.length ≤ 8 := by omega
              have hc8 : vsB.length ≤ 8 := by omega
              obtain ⟨T1, T2⟩ := hK.tabs (by omega) (by omega)
              have BQ := hK.bq
              obtain ⟨bl, ol, rfl, fl⟩ := RdI.all_at' hrd (by intro e; rw [e] at hlen1; simp at hlen1)
              obtain ⟨i0, hi0⟩ : ∃ x, l[0]? = some x := ⟨_, List.getElem?_eq_getElem (by omega)⟩
              obtain ⟨i1, hi1⟩ : ∃ x, l[l.length - 1]? = some x := ⟨_, List.getElem?_eq_getElem (by omega)⟩
              have e0 := fun W' hW => (fl 0 i0 hi0 W' hW).1
              have e1 := fun W' hW => (fl 0 i0 hi0 W' hW).2.1
              have e2 := fun W' hW => (fl 0 i0 hi0 W' hW).2.2
              simp only [Nat.zero_mul, Nat.add_zero] at e0 e1 e2
              have hq0 : 0 < l.length := by omega
              have hq1 : (0 : Int) < l.length := by omega
              have d1 : (0 : Int) ≤ (l.length : Int) / 2 := by omega
              have d2 : (l.length : Int) / 2 ≤ cap := by omega
              have d3 : ((l.length : Int) / 2).toNat = l.length / 2 := by omega
              have d4 : l.length / 2 ≤ cap := by omega
              go_upto_region 33 with (fail)
              refine wp_region_mixAll (fun W => Ext wr W) [(0, true), (1, true), (2, false), (3, true), (4, true), (5, true), (6, true), (7, true), (8, true), (9, true), (10, false), (11, true), (12, true), (13, true), (14, true), (15, true), (16, true), (17, true), (18, true), (19, false), (20, true), (21, true)] (by kernel_rfl) (by kernel_rfl) ((Ext.refl wr).drew) ?_
              (repeat (first | (apply mix_read; (case ho => rfl); (case hw => rfl); (case h1 => intro W' hx; exact read_load_blk rfl rfl (HT.out) (BQ.ext hx)); (case hp => go_simp; first | done | with_reducible rfl)) | (apply mix_read; (case ho => rfl); (case hw => rfl); (case h1 => intro W' hx; (try dsimp only at hx); go_simp; (try go_bits); with_reducible rfl); (case hp => go_simp; first | done | with_reducible rfl)) | (apply mix_skip; (case ho => rfl); (case hw => rfl); (case hp => go_simp; first | done | with_reducible rfl))))
              refine mix_loud rfl ?_; intro KY hKY
              go_wp2_with fail
              refine (kn_ring (T1.ext (Ext.refl wr).drew) (T2.ext (Ext.refl wr).drew) (hrd.ext (Ext.refl wr).drew) hcap (by omega)).mono ?_
              rintro e W4 ⟨rfl, x4⟩
              have y4 := (Ext.refl wr).drew.trans x4
              go_wp2_with fail
              refine ⟨y4, ?_⟩
              (repeat (first | (apply mix_read; (case ho => rfl); (case hw => rfl); (case h1 => intro W' hx; exact read_load_blk rfl rfl (HT.out) (BQ.ext hx)); (case hp => go_simp; first | done | with_reducible rfl)) | (apply mix_read; (case ho => rfl); (case hw => rfl); (case h1 => intro W' hx; (try dsimp only at hx); go_simp; (try go_bits); with_reducible rfl); (case hp => go_simp; first | done | with_reducible rfl)) | (apply mix_skip; (case ho => rfl); (case hw => rfl); (case hp => go_simp; first | done | with_reducible rfl))))
              refine mix_loud rfl ?_; intro KY hKY
              go_wp2_with fail
              have N2 : (l.take (l.length / 2)).length = l.length / 2 := by rw [List.length_take]; omega
              have C2 := kn_ring (cap := cap) (T1.ext y4) (T2.ext y4) ((hrd.ext y4).takeK (l.length / 2)) (by rw [N2]; exact d4) (by rw [N2]; omega)
              rw [N2] at C2
              clear N2
              refine C2.mono ?_
              clear C2
              rintro e W5 ⟨rfl, x5⟩
              have y5 := y4.trans x5
              go_wp2_with fail
              refine ⟨y5, ?_⟩
              (repeat (first | (apply mix_read; (case ho => rfl); (case hw => rfl); (case h1 => intro W' hx; exact read_load_blk rfl rfl (HT.out) (BQ.ext hx)); (case hp => go_simp; first | done | with_reducible rfl)) | (apply mix_read; (case ho => rfl); (case hw => rfl); (case h1 => intro W' hx; (try dsimp only at hx); go_simp; (try go_bits); with_reducible rfl); (case hp => go_simp; first | done | with_reducible rfl)) | (apply mix_skip; (case ho => rfl); (case hw => rfl); (case hp => go_simp; first | done | with_reducible rfl))))
              refine mix_loud rfl ?_; intro KY hKY
              go_wp2_with fail
              refine (kn_many (T1.ext y5) (T2.ext y5) (hrd.ext y5) hcap (by omega) _ _ _).mono ?_
              rintro e W6 ⟨rfl, x6⟩
              have y6 := y5.trans x6
              go_wp2_with fail
              refine ⟨y6, ?_⟩
              (repeat (first | (apply mix_read; (case ho => rfl); (case hw => rfl); (case h1 => intro W' hx; exact read_load_blk rfl rfl (HT.out) (BQ.ext hx)); (case hp => go_simp; first | done | with_reducible rfl)) | (apply mix_read; (case ho => rfl); (case hw => rfl); (case h1 => intro W' hx; (try dsimp only at hx); go_simp; (try go_bits); with_reducible rfl); (case hp => go_simp; first | done | with_reducible rfl)) | (apply mix_skip; (case ho => rfl); (case hw => rfl); (case hp => go_simp; first | done | with_reducible rfl))))
              refine mix_nil ?_; unfold Q0
              go_upto_region 35 with (fail)
              have hqA : 0 < vsA.length := by omega
              have hqA1 : (0 : Int) < vsA.length := by omega
              clear T1 T2 BQ hAl hBl
              obtain ⟨g, cA, gr, hva, hgq, hcA, -, bA⟩ := Owns.blk hK.oa hqA
              subst hva
              have hK6 := hK.ext y6
              have x6w := hx.trans y6
              have c4 := hK6.bq.cell 4 rfl
              obtain ⟨cg, hcg⟩ : ∃ u, (vsA ++ gr)[0]? = some u := ⟨_, List.getElem?_eq_getElem (by rw [List.length_append]; omega)⟩
              have cg0 := (bA.ext y6).cell 0 hcg
              have fg0 : ∀ i, W6.frozen? ⟨g, i, none⟩ = false := (bA.ext y6).frozen
              go_upto_region 36 with (fail)
              refine wp_gen (fun W => ∃ va vs, vs.length ≤ 8 ∧ K2 W q va vb (.slice (some ⟨bl, ol, none⟩) l.length cap) vs vsB l ∧ Ext w W) ⟨_, _, by rw [List.length_set]; exact hb8, hK6.emptyA 0, x6w.setCell (show w.heap.size ≤ g by omega) _⟩ ?_
              clear hK6 x6w c4 hcg cg0 fg0 hK hx hrd fl e0 e1 e2 x4 y4 x5 y5 x6 y6 d1 d2 d3 d4 bA
              clear cg gr
              clear hb8
              rintro W0 ⟨va, vs, hb8, hK, hx⟩
              obtain ⟨A, cap2, hA2, hcap, hrd, _⟩ := OwnsI.rd hK.ol
              cases hA2
              obtain ⟨T1, T2⟩ := hK.tabs (by omega) (by omega)
              have BQ := hK.bq
              obtain ⟨bl', ol', hA3, fl⟩ := RdI.all_at' hrd (by intro e; rw [e] at hlen1; simp at hlen1)
              cases hA3
              have e0 := fun W' hW => (fl (l.length - 1) i1 hi1 W' hW).1
              have e1 := fun W' hW => (fl (l.length - 1) i1 hi1 W' hW).2.1
              have e2 := fun W' hW => (fl (l.length - 1) i1 hi1 W' hW).2.2
              have d1 : (1 : Int) ≤ (l.length : Int) := by omega
              have d2 : (l.length : Int) - 1 < (l.length : Int) := by omega
              have d3 : ((l.length : Int) - 1).toNat = l.length - 1 := by omega
              refine wp_region_mixAll (fun W => Ext W0 W) [(0, true), (1, true), (2, false), (3, true), (4, true), (5, true), (6, true), (7, true), (8, true), (9, true), (10, true), (11, true), (12, false), (13, true), (14, true)] (by kernel_rfl) (by kernel_rfl) ((Ext.refl W0).drew) ?_
              (repeat (first | (apply mix_read; (case ho => rfl); (case hw => rfl); (case h1 => intro W' hx; exact read_load_blk rfl rfl (HT.out) (BQ.ext hx)); (case hp => go_simp; first | done | with_reducible rfl)) | (apply mix_read; (case ho => rfl); (case hw => rfl); (case h1 => intro W' hx; (try dsimp only at hx); go_simp; (try go_bits); with_reducible rfl); (case hp => go_simp; first | done | with_reducible rfl)) | (apply mix_skip; (case ho => rfl); (case hw => rfl); (case hp => go_simp; first | done | with_reducible rfl))))
              refine mix_loud rfl ?_; intro KY hKY
              go_wp2_with fail
              refine (kn_ring (T1.ext (Ext.refl W0).drew) (T2.ext (Ext.refl W0).drew) (hrd.ext (Ext.refl W0).drew) hcap (by omega)).mono ?_
              rintro e W4 ⟨rfl, x4⟩
              have y4 := (Ext.refl W0).drew.trans x4
              go_wp2_with fail
              refine ⟨y4, ?_⟩
              (repeat (first | (apply mix_read; (case ho => rfl); (case hw => rfl); (case h1 => intro W' hx; exact read_load_blk rfl rfl (HT.out) (BQ.ext hx)); (case hp => go_simp; first | done | with_reducible rfl)) | (apply mix_read; (case ho => rfl); (case hw => rfl); (case h1 => intro W' hx; (try dsimp only at hx); go_simp; (try go_bits); with_reducible rfl); (case hp => go_simp; first | done | with_reducible rfl)) | (apply mix_skip; (case ho => rfl); (case hw => rfl); (case hp => go_simp; first | done | with_reducible rfl))))
              refine mix_loud rfl ?_; intro KY hKY
              go_wp2_with fail
              refine (kn_many (T1.ext y4) (T2.ext y4) (hrd.ext y4) hcap (by omega) _ _ _).mono ?_
              rintro e W5 ⟨rfl, x5⟩
              have y5 := y4.trans x5
              go_wp2_with fail
              refine ⟨y5, ?_⟩
              (repeat (first | (apply mix_read; (case ho => rfl); (case hw => rfl); (case h1 => intro W' hx; exact read_load_blk rfl rfl (HT.out) (BQ.ext hx)); (case hp => go_simp; first | done | with_reducible rfl)) | (apply mix_read; (case ho => rfl); (case hw => rfl); (case h1 => intro W' hx; (try dsimp only at hx); go_simp; (try go_bits); with_reducible rfl); (case hp => go_simp; first | done | with_reducible rfl)) | (apply mix_skip; (case ho => rfl); (case hw => rfl); (case hp => go_simp; first | done | with_reducible rfl))))
              refine mix_nil ?_; unfold Q0
              go_wp2_with fail
              go_roundw
              case rel => exact ⟨l.length + 1, by omega, by omega, by go_num, hx.trans y5⟩
              case measure => simp [RowKit.intOf]; omega
        · obtain rfl : n = 9 := by omega
          go_wp2_with fail
          refine (kn_ring (l := []) (A := none) (cap := 0) (TabK.nil _) (TabK.nil _) (.inl rfl) (Nat.le_refl _) (by simp)).mono ?_
          rintro e W4 ⟨rfl, x4⟩
          go_wp2_with fail
          refine (HW.out _).mono ?_
          rintro e W5 ⟨rfl, x5⟩
          go_wp2_with fail
          go_ret
          exact ⟨rfl, (hx.trans x4).trans x5⟩
end Go.Proofs.Ythlobpdcolgcoaa
