/- Several texts of this claim, joined. -/
import Derived.Test.YtclgclcoblfddaaJa1
import Derived.Lib.Hide
import Derived.RangeFuncBox
import Derived.RangeFuncNested
import Derived.RangeFuncBound
import Derived.RangeFuncCalls
import Derived.RangeFuncLeaves
import Derived.Shelf.RegionOpen
import Derived.OwnWalkIn
import Derived.TacticsInMore
import Derived.LoopNIn
import Derived.LoopIn
import Derived.Test.YtclgclcoblfddaaJw1
import Derived.Lib.SliceRun
namespace Go.Proofs.Ytclgclcoblfddaa
open Go.RowKit Go.Shelf
set_option linter.unusedVariables false
set_option linter.unusedSimpArgs false
attribute [local go_sem] Oper.semAt_some
def Old (B0 : Nat) (A B : World) : Prop := ∀ k, k < B0 → B.heap[k]? = A.heap[k]?
theorem Old.cell {B0 : Nat} {A B : World} (h : Old B0 A B) (hA : A.heap.size ≤ B0) {p : Addr} {v : Value} (hc : A.cell? p = some v) : B.cell? p = some v := by
 have hlt : p.block < A.heap.size := by
  unfold World.cell? at hc
  rcases Nat.lt_or_ge p.block A.heap.size with h1 | h1
  ·exact h1
  ·rw [Array.getElem?_eq_none h1] at hc; simp at hc
 have := h p.block (by omega)
 unfold World.cell? at hc ⊢
 rw [this]
 exact hc
theorem Old.rdv {B0 : Nat} {A B : World} (h : Old B0 A B) (hA : A.heap.size ≤ B0) {a : Option Addr} {vs : List Value} (hr : RdV A a vs) : RdV B a vs := by
 rcases hr with hr | ⟨b, o, e, hc⟩
 ·exact .inl hr
 ·exact .inr ⟨b, o, e, fun j v hv => h.cell hA (hc j v hv)⟩
theorem Old.rdr {B0 : Nat} {A B : World} (h : Old B0 A B) (hA : A.heap.size ≤ B0) {a : Option Addr} {rs : List Row} (hr : RdR A a rs) : RdR B a rs := ⟨h.rdv hA hr.1, fun r hr' => h.rdv hA (hr.2 r hr')⟩
def okB (u many n : Int) : Bool := decide (0 ≤ n) && decide (n < many) && decide (n ≠ u)
abbrev OkE (u many : Int) := { x : Int // okB u many x = true }
def okS (u many x : Int) : Option (OkE u many) := if h : okB u many x = true then some ⟨x, h⟩ else none
def rowS (u many : Int) (xs : List Int) : List (OkE u many) := xs.filterMap (okS u many)
theorem rowS_map (u many : Int) (xs : List Int) : (rowS u many xs).map (·.1) = xs.filter (okB u many) := by
 induction xs with
 | nil => rfl
 | cons x xs ih =>
  unfold rowS at ih ⊢
  rw [List.filterMap_cons, List.filter_cons]
  unfold okS at ih ⊢
  split
  ·rename_i h
   split at h
   ·cases h
   ·rename_i h'; rw [if_neg h']; exact ih
  ·rename_i y h
   split at h
   ·rename_i h'; cases h; rw [if_pos h', List.map_cons, ih]
   ·cases h
theorem rowS_length (u many : Int) (xs : List Int) : (rowS u many xs).length = (xs.filter (okB u many)).length := by rw [← rowS_map, List.length_map]
def rowU (tb : List (List Int)) (u many : Int) : List Int := (tb.getD u.toNat []).filter (okB u many)
def KpS (keep : Nat → Prop) (A B : World) : Prop := ∀ k, keep k → B.heap[k]? = A.heap[k]?
theorem KpS.trans {keep : Nat → Prop} {A B C : World} (h : KpS keep A B) (k : KpS keep B C) : KpS keep A C := fun i hi => (k i hi).trans (h i hi)
theorem KpS.cell {keep : Nat → Prop} {A B : World} (h : KpS keep A B) {b : Nat} (hb : keep b) (o : Nat) : B.cell? ⟨b, o, none⟩ = A.cell? ⟨b, o, none⟩ := by simp [World.cell?, h b hb]
set_option maxRecDepth 100000 in
set_option maxHeartbeats 4000000 in
theorem row_seq (F : Fence) (n : Nat) (hF : F.fn 76) (hro : F.round = none) (hn : 1 ≤ n) (keep : Nat → Prop) (b1 b2 b3 c : Nat) (u : Nat) (many : Int) (A : Option Addr) (rs : List Row) (w0 w : World)
  (h1 : w.cell? ⟨b1, 0, none⟩ = some (.int .i64 u)) (h2 : w.cell? ⟨b2, 0, none⟩ = some (.slice A rs.length c)) (h3 : w.cell? ⟨b3, 0, none⟩ = some (.int .i64 many)) (k1 : keep b1) (k2 : keep b2) (k3 : keep b3)
  (hr : RdR w0 A rs) (hk0 : ∀ k, k < w0.heap.size → keep k) (hold : Old w0.heap.size w0 w) (hkw : ∀ k, keep k → k < w.heap.size) (hrow : ∀ r ∈ rs, r.xs.length ≤ 1000000) (hlen : rs.length ≤ 1000000) :
  SeqStopsK F n Try.prog 76 #[.pointer (some ⟨b1, 0, none⟩), .pointer (some ⟨b2, 0, none⟩), .pointer (some ⟨b3, 0, none⟩)] (fun x : OkE u many => #[.int .i64 x.1]) (KpS keep) (fun xs => xs.map (·.1) = rowU (rows rs) u many) (fun _ => True) (rowU (rows rs) u many).length w := by
 intro l J Jx W hW hJ hJx hY h0
 have e1 : W.cell? ⟨b1, 0, none⟩ = some (.int .i64 u) := (hW.cell (p := ⟨b1, 0, none⟩) (hkw _ k1)).trans h1
 have e2 : W.cell? ⟨b2, 0, none⟩ = some (.slice A rs.length c) := (hW.cell (p := ⟨b2, 0, none⟩) (hkw _ k2)).trans h2
 have e3 : W.cell? ⟨b3, 0, none⟩ = some (.int .i64 many) := (hW.cell (p := ⟨b3, 0, none⟩) (hkw _ k3)).trans h3
 have ho : Old w0.heap.size w0 W := fun k hk => (hW.block k (hkw _ (hk0 k hk))).trans (hold k hk)
 clear h1 h2 h3 hW hold
 refine callsIn_of_wp Try.func76 rfl hF ?_ hro
 simp only [Try.ntmps76, List.size_toArray, List.length_cons, List.length_nil, Nat.reduceAdd, Nat.reduceSub, Array.replicate_succ, Array.replicate_zero, List.push_toArray, List.append_toArray, List.nil_append, List.cons_append]
 by_cases hu : u < rs.length
 case neg =>
  have hui : ¬ (u : Int) < rs.length := by omega
  have hui' : (rs.length : Int) ≤ u := by omega
  have hnil : rowU (rows rs) u many = [] := by
   unfold rowU
   rw [Int.toNat_natCast, List.getD_eq_getElem?_getD, List.getElem?_eq_none (by rw [rows_length]; omega)]; rfl
  gi_wp2
  refine bodyPost_ret (results_none rfl _ _ _) rfl ?_
  exact ⟨⟨_, rfl⟩, .inl ⟨[], (by first | rfl | (rw [hnil]; rfl)), h0⟩⟩
 case pos =>
  have hui : (u : Int) < rs.length := by omega
  have hui' : ¬ (rs.length : Int) ≤ u := by omega
  obtain ⟨b, o, B, cap, xs, rfl, he, f1, f2⟩ := (ho.rdr (Nat.le_refl _) hr).at hu
  have hxs : (rows rs).getD u [] = xs := by rw [List.getD_eq_getElem?_getD, rows_get, he]; rfl
  have hxl : xs.length ≤ 1000000 := hrow _ (List.mem_of_getElem? he)
  have hrowU : rowU (rows rs) u many = xs.filter (okB u many) := by unfold rowU; rw [Int.toNat_natCast, hxs]
  have hrx := (hr.2 _ (List.mem_of_getElem? he))
  rw [hrowU] at hY
  gi_wp2
  gi_loopw [6, 16] (fun v6 v wr => ∃ j : Nat, j ≤ xs.length ∧ v = .int .i64 j ∧ J (rowS u many (xs.take j)) wr ∧ wr.cell? ⟨b1, 0, none⟩ = some (.int .i64 u) ∧ wr.cell? ⟨b3, 0, none⟩ = some (.int .i64 many) ∧ Old w0.heap.size w0 wr)
   (fun _ v _ => xs.length - (RowKit.intOf v).toNat)
  case atStart => exact ⟨0, Nat.zero_le _, rfl, h0, e1, e3, ho⟩
  case round =>
   obtain ⟨j, hj, rfl, hJs, c1, c3, hov⟩ := hrel
   have hrv : RdV wr B (ints xs) := hov.rdv (Nat.le_refl _) hrx
   by_cases hjl : j < xs.length
   case neg =>
    have hji : ¬ (j : Int) < xs.length := by omega
    obtain rfl : j = xs.length := by omega
    rw [List.take_length] at hJs
    gi_wp2
    go_end0
    exact ⟨⟨_, rfl⟩, .inl ⟨_, (by first | exact rowS_map u many xs | (rw [hrowU]; exact rowS_map u many xs)), hJs⟩⟩
   case pos =>
    have hji : (j : Int) < xs.length := by omega
    obtain ⟨x, hx⟩ : ∃ x, xs[j]? = some x := ⟨_, List.getElem?_eq_getElem hjl⟩
    have htk : xs.take (j + 1) = xs.take j ++ [x] := by rw [List.take_add_one, hx]; rfl
    obtain ⟨bx, ox, rfl, hcx⟩ : ∃ b o, B = some ⟨b, o, none⟩ ∧ wr.cell? ⟨b, o + j, none⟩ = some (.int .i64 x) := by
     rcases hrv with hrv | ⟨b, o, e, hc⟩
     ·have : xs = [] := List.map_eq_nil_iff.1 hrv
      rw [this] at hjl; simp at hjl
     ·exact ⟨b, o, e, hc j _ (by simp [ints, hx])⟩
    have hfl : okB u many x = false → rowS u many (xs.take (j + 1)) = rowS u many (xs.take j) := fun h => by
     rw [htk]; unfold rowS; rw [List.filterMap_append]; simp [okS, h]
    have hft : ∀ h : okB u many x = true, rowS u many (xs.take (j + 1)) = rowS u many (xs.take j) ++ [⟨x, h⟩] := fun h => by
     rw [htk]; unfold rowS; rw [List.filterMap_append]; simp [okS, h]
    have HFL := Lib.hid hfl
    have HFT := Lib.hid hft
    have HX := Lib.hid hx
    clear hfl hft hx htk
    by_cases q1 : 0 ≤ x
    case neg =>
     have hk : okB u many x = false := by unfold okB; rw [decide_eq_false q1]; rfl
     have q1' : x < 0 := by omega
     gi_wp2
     refine ⟨fun f_ h_ => (by cases h_), ?_⟩
     gi_wp2
     go_roundw
     case rel => exact ⟨j + 1, by omega, by go_num, by rw [HFL.out hk]; exact hJs, c1, c3, hov⟩
     case measure => simp [RowKit.intOf]; omega
    by_cases q2 : x < many
    case neg =>
     have hk : okB u many x = false := by unfold okB; rw [decide_eq_false q2, Bool.and_false]; rfl
     have q2' : many ≤ x := by omega
     gi_wp2
     refine ⟨fun f_ h_ => (by cases h_), ?_⟩
     gi_wp2
     go_roundw
     case rel => exact ⟨j + 1, by omega, by go_num, by rw [HFL.out hk]; exact hJs, c1, c3, hov⟩
     case measure => simp [RowKit.intOf]; omega
    by_cases q3 : x = u
    case pos =>
     have hk : okB u many x = false := by unfold okB; rw [decide_eq_false (p := x ≠ u) (by simp [q3]), Bool.and_false]
     have q3' : (x == (u : Int)) = true := by simpa using q3
     have q3'' : (x != (u : Int)) = false := by simpa using q3
     have HQ := Lib.hid q3
     clear q3
     gi_wp2
     refine ⟨fun f_ h_ => (by cases h_), ?_⟩
     gi_wp2
     go_roundw
     case rel => exact ⟨j + 1, by omega, by go_num, by rw [HFL.out hk]; exact hJs, c1, c3, hov⟩
     case measure => simp [RowKit.intOf]; omega
    case neg =>
     have hk : okB u many x = true := by unfold okB; rw [decide_eq_true q1, decide_eq_true q2, decide_eq_true q3]; rfl
     have q3' : (x == (u : Int)) = false := by simpa using q3
     have q3'' : (x != (u : Int)) = true := by simpa using q3
     have hlt : (rowS u many (xs.take j)).length < (xs.filter (okB u many)).length := by
      have h1 : rowS u many xs = rowS u many (xs.take (j + 1)) ++ rowS u many (xs.drop (j + 1)) := by unfold rowS; rw [← List.filterMap_append, List.take_append_drop]
      rw [← rowS_length, h1, HFT.out hk]
      simp <;> omega
     obtain ⟨fn, tmps, assign, body, hy, hR⟩ := hY _ ⟨x, hk⟩ _ hJs hlt
     have hy : (Instr.yield l #[.int .i64 x]).run Try.prog wr = _ := hy
     clear hY hlt
     gi_wp2
     refine hR.mono ?_
     rintro e W3 (⟨rfl, hJ4, hk3⟩ | ⟨rfl, hJx⟩)
     ·gi_wp2
      go_roundw
      case rel => exact ⟨j + 1, by omega, by go_num, by rw [HFT.out hk]; exact hJ4, (hk3.cell k1 0).trans c1, (hk3.cell k3 0).trans c3, fun k hk => (hk3 k (hk0 k hk)).trans (hov k hk)⟩
      case measure => simp [RowKit.intOf]; omega
     ·gi_wp2
      refine bodyPost_ret (results_none rfl _ _ _) rfl ?_
      exact ⟨⟨_, rfl⟩, .inr ⟨_, by first | trivial | exact hJx, hJx⟩⟩
end Go.Proofs.Ytclgclcoblfddaa
namespace Go.Proofs.Ytclgclcoblfddaa
open Go.RowKit Go.Shelf
set_option linter.unusedVariables false
set_option linter.unusedSimpArgs false
attribute [local go_sem] Oper.semAt_some
theorem wpListIn_append_row {F : Fence} {n : Nat} {P : Program} (w : World) {ops : Array Oper} {rest : List Oper} {o : Oper} {a : Act} {Q : Exit → Act → World → Prop}
  (hg : o.guard = none) (s x : Operand) (t : TypeId) (hop : o.op = Op.call { callee := Callee.builtin Builtin.append, args := #[s, x], argTypes := #[t, t] })
  (base : Nat) (e : TypeId) (i : TypeInfo) (z : Value) (size bytes : Nat) (h1 : P.underlying t = some (.slice e)) (h2 : P.info? e = some i) (h3 : i.zero = some z) (h4 : i.size = size) (h5 : i.bytes = bytes) (h6 : z.cells.size = size) (h7 : 0 < size)
  (v : Value) (k : Nat) (xs : List Value) (hs : a.eval s = v) (hown : w.ownsRow base e size v k xs) (ad : Addr) (m c : Nat) (news : List Value) (hx : a.eval x = .slice (some ad) m c) (hn : news.length = m * size)
  (hc : ∀ j u, news[j]? = some u → w.cell? (ad.add j) = some u) (h1c : ∀ u ∈ news, u.oneCell' = true) (b1 : k + m ≤ maxLen) (b2 : (k + m) * bytes ≤ 140737488355328) (b3 : base ≤ w.heap.size)
  (hK : ∀ v' w', w'.ownsRow base e size v' (k + m) (xs ++ news) → w.grownBy w' v.ownBlock → (∀ j, v'.ownBlock = some j → v.ownBlock = some j ∨ w.heap.size ≤ j) → wpListIn F n P ops Q rest (a.put o.dst v') w') :
  wpListIn F n P ops Q (o :: rest) a w := by
 obtain ⟨v', w', hrun, r1, r2, r3⟩ : ∃ v' w', (Builtin.append_ #[t, t] o.type #[v, .slice (some ad) m c]).run P w = .ok v' w' ∧ w'.ownsRow base e size v' (k + m) (xs ++ news) ∧ w.grownBy w' v.ownBlock ∧ (∀ j, v'.ownBlock = some j → v.ownBlock = some j ∨ w.heap.size ≤ j) := by
  have lift : ∀ {v' : Value} {w' : World} {l : List Value}, w'.ownsRow w.heap.size e size v' (k + m) l → w'.ownsRow base e size v' (k + m) l := fun {v' w' l} h => by
   obtain ⟨q1, q2⟩ := h
   refine ⟨q1, q2.imp_right ?_⟩
   rintro ⟨g, cap, cur, p1, p2, p3⟩
   exact ⟨g, cap, cur, p1, by omega, p3⟩
  rcases hown.2 with ⟨rfl, rfl⟩ | ⟨g, cap, cur, rfl, hb, hgc, hnc, hcap, hcs, htk⟩
  ·obtain rfl : xs = [] := List.eq_nil_of_length_eq_zero (by simpa using hown.1)
   obtain ⟨v', w', hrun, r1, r2, _⟩ := run_append_own (P := P) w w.heap.size t o.type e i z size bytes h1 h2 h3 h4 h5 h6 h7 (.slice none 0 0) 0 [] (World.ownsRow_nil w _ e size) ad m c news hn hc h1c b1 b2 (Nat.le_refl _)
   exact ⟨v', w', hrun, lift r1, r2, fun j hj => .inr (r1.lt j hj).1⟩
  ·by_cases hroom : k + m ≤ cap
   ·obtain ⟨w', hrun, r1, r2⟩ := run_append_own_spare (P := P) w base t o.type e i size h1 h2 h4 g k cap xs hown ad m c news hn hc h1c hroom
    exact ⟨_, w', hrun, r1, r2, fun j hj => .inl hj⟩
   ·obtain ⟨v', w', hrun, r1, r2⟩ := run_append_arg_grows (P := P) w t o.type e i z size bytes h1 h2 h3 h4 h5 h6 h7 ⟨g, 0, none⟩ k cap xs hown.1 (hown.cells (g := g) rfl) ad m c news hn hc (by omega) b1 b2
    exact ⟨v', w', hrun, lift r1, ⟨r2.os, r2.tape, r2.output, r2.size, fun j hj _ => r2.block j hj (by simp)⟩, fun j hj => .inr (r1.lt j hj).1⟩
 refine wpListIn_plain hg fun K hK' => ?_
 unfold Oper.wpIn
 refine ⟨?_, ?_⟩
 ·simp [Oper.about, hop, resolve, Target.leads, Sem.run_pure]
 ·rw [Oper.semAt_plain F _ _ (by rw [hop]; intro c hc'; cases hc')]
  simp [execOp, hop, resolve, invoke, builtin, hs, hx, hrun, Result.andThen]
  exact hK' _ _ (hK v' w' r1 r2 r3)
def pl1 (on : List Bool) (t : Int) (m only : Bool) (n : Int) : List It := if on.getD n.toNat false || !only then [⟨n, t, m⟩] else []
def plRow (on : List Bool) (u t : Int) (m only : Bool) (tb : List (List Int)) : List It := (rowU tb u on.length).flatMap (pl1 on t m only)
def Zeb (on : List Bool) (u t : Int) (m only : Bool) (tbs : List (List (List Int))) : List It := tbs.flatMap (plRow on u t m only)
structure Tb where
 A : Option Addr
 rs : List Row
 c : Nat
def Tb.v (b : Tb) : Value := .slice b.A b.rs.length b.c
def Tb.l (b : Tb) : List (List Int) := rows b.rs
def Tb.ok (W : World) (b : Tb) : Prop := RdR W b.A b.rs ∧ b.rs.length ≤ 1000 ∧ ∀ r ∈ b.rs, r.xs.length ≤ 1000
def marks (ds : List Nat) : List Deferred := ds.map fun D => { target := .collected D, args := #[] }
def Marked (B : Nat) (ds : List Nat) (W : World) : Prop := ds.Nodup ∧ ∀ D ∈ ds, B ≤ D ∧ W.heap[D]? = some (.deferred (some []))
theorem leaves_marks {F : Fence} {n : Nat} {P : Program} {fn : Func} {tmps : Array Value} {R : Ending → World → Prop} (B : Nat) (Φ : World → Prop) (hΦ : ∀ W D, B ≤ D → W.heap[D]? = some (.deferred (some [])) → Φ W → Φ (W.putObj D (.deferred none)))
  (hR : ∀ W, Φ W → LeavesIn F n P fn tmps R [] .returning W) : ∀ (ds : List Nat) (W : World), Marked B ds W → Φ W → LeavesInM F n P fn tmps R (marks ds) .returning W
 | [], W, _, h => hR W h
 | D :: ds, W, ⟨hnd, hm⟩, h => by
  obtain ⟨h1, h2⟩ := List.nodup_cons.1 hnd
  obtain ⟨k1, k2⟩ := hm D List.mem_cons_self
  refine ⟨by simp, .inl ⟨D, _, rfl, run_takeDeferred k2, ?_⟩⟩
  exact leaves_marks B Φ hΦ hR ds _ ⟨h2, fun E hE => ⟨(hm E (List.mem_cons_of_mem _ hE)).1, (World.putObj_heap_other (fun e => h1 (by rw [← e]; exact hE))).trans (hm E (List.mem_cons_of_mem _ hE)).2⟩⟩ (hΦ W D k1 k2 h)
theorem KpS.refl (keep : Nat → Prop) (W : World) : KpS keep W W := fun _ _ => rfl
theorem KpS.grown {keep : Nat → Prop} {A B C : World} {row : Option Nat} (h : KpS keep A B) (hg : B.grownBy C row) (hk : ∀ k, keep k → k < B.heap.size ∧ some k ≠ row) : KpS keep A C := fun k h1 => (hg.block k (hk k h1).1 (hk k h1).2).trans (h k h1)
theorem KpS.boxed {keep : Nat → Prop} {A B : World} (h : KpS keep A B) {b : Nat} (hb : keep b) {t : TypeId} {v : Value} (hv : Boxed A b t v) : Boxed B b t v := (h b hb).trans hv
theorem row_calls (A : Option Addr) (n c : Nat) (u many : Int) (w : World) : Calls Try.prog 53 #[.slice A n c, .int .i64 u, .int .i64 many] w fun e w' => e = .returned (.func (.func 76) #[] #[.pointer (some ⟨w.heap.size + 1, 0, none⟩), .pointer (some ⟨w.heap.size, 0, none⟩), .pointer (some ⟨w.heap.size + 1 + 1, 0, none⟩)]) ∧
  w' = ((w.alloc (.cells #[.slice A n c] 22)).alloc (.cells #[.int .i64 u] 3)).alloc (.cells #[.int .i64 many] 3) := by
 go_enter Try.func53, Try.ntmps53
 go_wp2_with fail
 go_ret
 exact ⟨by simp, rfl⟩
theorem infoPull : (Try.prog.info? 55).map (fun i => (i.zero, i.size, i.bytes)) = some (some (.agg #[.int .i64 0, .int .u8 0, .bool false]), 3, 24) := by kernel_rfl
def kp0 (w : World) (bo : Nat) (v0 : Value) (k : Nat) : Prop := k < w.heap.size ∧ k ≠ bo ∧ v0.ownBlock ≠ some k
structure PI (base bo : Nat) (v0 : Value) (w1 : World) (l : List It) (W : World) : Prop where
 box : ∃ v, Boxed W bo 53 v ∧ W.ownsRow base 55 3 v l.length (Zcq l) ∧ ∀ k, v.ownBlock = some k → v0.ownBlock = some k ∨ w1.heap.size ≤ k
 bel : Below base w1 W
 kp : KpS (kp0 w1 bo v0) w1 W
 sz : w1.heap.size ≤ W.heap.size
theorem PI.own {base bo B : Nat} {v0 : Value} {w1 : World} {f : List Int → List It} (hB : w1.heap.size ≤ B) (hb : base ≤ w1.heap.size) : OwnFrom B (fun pre W => PI base bo v0 w1 (f pre) W) := by
 intro s X Y row h hg hr
 refine ⟨?_, h.bel.grown hg (Nat.le_trans hb h.sz) (fun k e => by have := (hr k e).1; omega), h.kp.grown hg (fun k hk => ⟨by have := hk.1; have := h.sz; omega, fun e => by have := (hr k e.symm).1; have := hk.1; omega⟩), Nat.le_trans h.sz hg.size⟩
 exact (Own.from (holdsRow_own base bo 53 55 3 (fun s : List Int => (f s).length) (fun s => Zcq (f s)) (fun _ v => ∀ k, v.ownBlock = some k → v0.ownBlock = some k ∨ w1.heap.size ≤ k)) B) s X Y row h.box hg hr
theorem PI.alloc {base bo : Nat} {v0 : Value} {w1 W : World} {l : List It} (h : PI base bo v0 w1 l W) (hb : base ≤ w1.heap.size) (o : Obj) : PI base bo v0 w1 l (W.alloc o) :=
 (PI.own (f := fun _ => l) (Nat.le_refl _) hb) ([] : List Int) _ _ none h (World.grownBy_alloc W o none) (fun _ e => by cases e)
theorem PI.putObj {base bo D : Nat} {v0 : Value} {w1 W : World} {l : List It} (h : PI base bo v0 w1 l W) (hb : base ≤ w1.heap.size) (hD : w1.heap.size ≤ D) {o : Obj} (hl : W.heap[D]? = some o) (ho : o.isCells = false) (o' : Obj) : PI base bo v0 w1 l (W.putObj D o') :=
 (PI.own (f := fun _ => l) (Nat.le_refl _) hb).putObj (s := ([] : List Int)) o' h hD hl ho
theorem Boxed.keep {W W' : World} {B : Nat} {t : TypeId} {v : Value} (h : Boxed W B t v) (hx : Ext W W') : Boxed W' B t v := (hx.block B h.lt).trans h
theorem World.cell?_lt {W : World} {p : Addr} {v : Value} (h : W.cell? p = some v) : p.block < W.heap.size := by
 unfold World.cell? at h
 rcases Nat.lt_or_ge p.block W.heap.size with h1 | h1
 ·exact h1
 ·rw [Array.getElem?_eq_none h1] at h; simp at h
theorem PI.back {base bo : Nat} {v0 : Value} {w w1 W : World} {l : List It} (hx : Ext w w1) (hb : base ≤ w.heap.size) (h : PI base bo v0 w1 l W) : PI base bo v0 w l W := by
 obtain ⟨v, h1, h2, h3⟩ := h.box
 have hs := hx.size
 exact ⟨⟨v, h1, h2, fun k hk => (h3 k hk).imp_right (fun h => by omega)⟩, (hx.mono hb).trans h.bel, fun k hk => (h.kp k ⟨by have := hk.1; omega, hk.2⟩).trans (hx.block k hk.1), by have := h.sz; omega⟩
theorem PI.trans {base bo : Nat} {v0 v4 : Value} {w1 W4 W : World} {l : List It} (h : PI base bo v4 W4 l W) (hv : ∀ k, v4.ownBlock = some k → v0.ownBlock = some k ∨ w1.heap.size ≤ k) (hb : Below base w1 W4) (hk : KpS (kp0 w1 bo v0) w1 W4) (hs : w1.heap.size ≤ W4.heap.size) : PI base bo v0 w1 l W := by
 obtain ⟨v, h1, h2, h3⟩ := h.box
 refine ⟨⟨v, h1, h2, fun k e => ?_⟩, hb.trans h.bel, fun k hk0 => (h.kp k ⟨by have := hk0.1; omega, hk0.2.1, fun e => ?_⟩).trans (hk k hk0), by have := h.sz; omega⟩
 ·rcases h3 k e with h4 | h4
  ·exact hv k h4
  ·exact .inr (by omega)
 ·rcases hv k e with h4 | h4
  ·exact hk0.2.2 h4
  ·have := hk0.1; omega
theorem PI.step {base bo B B1 : Nat} {v0 : Value} {w1 W w2 : World} {l : List It} {ds : List Nat} {y : It} {tmp : Obj} {v v' : Value} (h : PI base bo v0 w1 l W) (hbw1 : base ≤ w1.heap.size) (hbase : base ≤ bo) (hM : Marked B ds W) (hB1 : w1.heap.size ≤ B1)
  (hv : Boxed W bo 53 v) (hrow : W.ownsRow base 55 3 v l.length (Zcq l)) (hvo : ∀ k, v.ownBlock = some k → v0.ownBlock = some k ∨ w1.heap.size ≤ k)
  (hown' : w2.ownsRow base 55 3 v' (l.length + 1) (Zcq l ++ [.int .i64 y.u, .int .u8 y.t, .bool y.m])) (hgrow : (W.alloc tmp).grownBy w2 v.ownBlock) (hsb : ∀ k, v'.ownBlock = some k → v.ownBlock = some k ∨ (W.alloc tmp).heap.size ≤ k) :
  KeepsFrom B1 W (w2.setCell ⟨bo, 0, none⟩ v') ∧ KpS (kp0 w1 bo v0) W (w2.setCell ⟨bo, 0, none⟩ v') ∧ PI base bo v0 w1 (l ++ [y]) (w2.setCell ⟨bo, 0, none⟩ v') ∧ Marked B ds (w2.setCell ⟨bo, 0, none⟩ v') := by
 have hbl : base ≤ W.heap.size := Nat.le_trans hbw1 h.sz
 obtain ⟨hv1, hv2, hr2, hk2, hb2⟩ := hv.appended (by decide) hrow hbl hbase hown' hgrow
 have hkp : KpS (kp0 w1 bo v0) W (w2.setCell ⟨bo, 0, none⟩ v') := fun k hk => by
  have hks : k < W.heap.size := Nat.lt_of_lt_of_le hk.1 h.sz
  have h1 := (grownBy_setCell' w2 bo v').block k (by have := hgrow.size; simp at this; omega) (fun e => hk.2.1 (by cases e; rfl))
  have h2 := hgrow.block k (by simp; omega) (fun e => by
   rcases hvo k e.symm with h3 | h3
   ·exact hk.2.2 h3
   ·have := hk.1; omega)
  have h3 := (World.grownBy_alloc W tmp none).block k hks (by simp)
  exact h1.trans (h2.trans h3)
 have hz : W.heap.size ≤ (w2.setCell ⟨bo, 0, none⟩ v').heap.size := hk2.size
 refine ⟨hk2.from _, hkp, ⟨⟨v', hv2, ?_, fun k hk => ?_⟩, h.bel.trans hb2, h.kp.trans hkp, Nat.le_trans h.sz hz⟩, hM.1, fun D hD => ⟨(hM.2 D hD).1, hk2.same D _ (hM.2 D hD).2 rfl⟩⟩
 ·have e1 : Zcq (l ++ [y]) = Zcq l ++ [.int .i64 y.u, .int .u8 y.t, .bool y.m] := by simp [Zcq]
  rw [e1, List.length_append]; exact hr2
 ·rcases hsb k hk with h3 | h3
  ·exact hvo k h3
  ·refine .inr ?_
   have := h.sz
   simp at h3; omega
theorem okB_bounds {u many x : Int} (h : okB u many x = true) : 0 ≤ x ∧ x < many := by
 unfold okB at h
 simp only [Bool.and_eq_true, decide_eq_true_eq] at h
 exact ⟨h.1.1, h.1.2⟩
theorem rowU_length (tb : List (List Int)) (u many : Int) (n : Nat) (h : ∀ r ∈ tb, r.length ≤ n) : (rowU tb u many).length ≤ n := by
 unfold rowU
 refine Nat.le_trans (List.length_filter_le _ _) ?_
 rw [List.getD_eq_getElem?_getD]
 cases e : tb[u.toNat]? with
 | none => simp
 | some r => exact h r (List.mem_of_getElem? e)
theorem pl1_length (on : List Bool) (t : Int) (m only : Bool) (n : Int) : (pl1 on t m only n).length ≤ 1 := by
 unfold pl1; split <;> simp
theorem pls_length (on : List Bool) (t : Int) (m only : Bool) : ∀ l : List Int, (l.flatMap (pl1 on t m only)).length ≤ l.length
 | [] => Nat.le_refl _
 | x :: l => by
  have := pls_length on t m only l
  have := pl1_length on t m only x
  simp only [List.flatMap_cons, List.length_append, List.length_cons]
  omega
theorem plPut_length (on : List Bool) (u t : Int) (m only : Bool) (n : Nat) : ∀ tbs : List (List (List Int)), (∀ tb ∈ tbs, ∀ r ∈ tb, r.length ≤ n) → (Zeb on u t m only tbs).length ≤ tbs.length * n
 | [], _ => Nat.zero_le _
 | tb :: tbs, h => by
  have h1 := plPut_length on u t m only n tbs fun x hx => h x (List.mem_cons_of_mem _ hx)
  have h2 := pls_length on t m only (rowU tb u on.length)
  have h3 := rowU_length tb u on.length n (h tb List.mem_cons_self)
  unfold Zeb at h1 ⊢
  unfold plRow at h1 ⊢
  simp only [List.flatMap_cons, List.length_append, List.length_cons, Nat.succ_mul]
  omega
theorem Marked.own {β : Type} {B C : Nat} {ds : List Nat} (h : ∀ D ∈ ds, D < C) : OwnFrom C (fun (_ : β) W => Marked B ds W) := by
 intro s X Y row ⟨h1, h2⟩ hg hr
 exact ⟨h1, fun D hD => ⟨(h2 D hD).1, (hg.block D (Array.getElem?_eq_some_iff.1 (h2 D hD).2).1 (fun e => by have := (hr D e.symm).1; have := h D hD; omega)).trans (h2 D hD).2⟩⟩
set_option maxRecDepth 100000 in
set_option maxHeartbeats 4000000 in
theorem put_calls (n : Nat) (hn : 3 ≤ n) (base bj bon bo u con c3 : Nat) (t : Int) (m only : Bool) (on : List Bool) (Aon A3 : Option Addr) (tbs : List Tb) (l0 : List It) (v0 : Value) (wr0 w : World)
  (hj : w.cell? ⟨bj, 0, none⟩ = some (.int .i64 u)) (hon : Boxed w bon 25 (.slice Aon on.length con)) (hob : RdV w Aon (on.map .bool)) (hol : on.length ≤ 1000)
  (hbo : Boxed w bo 53 v0) (how : w.ownsRow base 55 3 v0 l0.length (Zcq l0)) (hbase : base ≤ bo) (hrows : RdV w A3 (tbs.map Tb.v)) (htb : ∀ tb ∈ tbs, tb.ok wr0) (hold : Below wr0.heap.size wr0 w) (hwb : wr0.heap.size ≤ base)
  (d1 : bj ≠ bo) (d2 : bon ≠ bo) (d3 : v0.ownBlock ≠ some bj) (d4 : v0.ownBlock ≠ some bon) (hbj : bj < w.heap.size)
  (d5 : ∀ a, Aon = some a → a.block ≠ bo ∧ v0.ownBlock ≠ some a.block) (d6 : ∀ a, A3 = some a → a.block ≠ bo ∧ v0.ownBlock ≠ some a.block) (hl0 : l0.length ≤ 100000) (htl : tbs.length ≤ 10) :
  CallsIn Fence.wide n Try.prog 52 #[.int .u8 t, .bool m, .bool only, .slice A3 tbs.length c3, .pointer (some ⟨bj, 0, none⟩), .pointer (some ⟨bon, 0, none⟩), .pointer (some ⟨bo, 0, none⟩)] w
   fun e w' => (∃ v, e = .returned v) ∧ PI base bo v0 w (l0 ++ Zeb on u t m only (tbs.map Tb.l)) w' := by
 refine callsIn_of_wp_marks Try.func52 rfl trivial ?_ rfl
 simp only [Try.ntmps52, List.size_toArray, List.length_cons, List.length_nil, Nat.reduceAdd, Nat.reduceSub, Array.replicate_succ, Array.replicate_zero, List.push_toArray, List.append_toArray, List.nil_append, List.cons_append]
 have hbw : base ≤ w.heap.size := by have := hbo.lt; omega
 gi_wp2
 obtain ⟨w1, hw1⟩ : ∃ w1, ((w.alloc (.cells #[.int .u8 t] 5)).alloc (.cells #[.bool m] 4)).alloc (.cells #[.bool only] 4) = w1 := ⟨_, rfl⟩
 have x1 : Ext w w1 := by rw [← hw1]; exact (((Ext.refl w).alloc _).alloc _).alloc _
 have b7 : Boxed w1 w.heap.size 5 (.int .u8 t) := by rw [← hw1]; exact ((Boxed.new w _ _).alloc _).alloc _
 have b8 : Boxed w1 (w.heap.size + 1) 4 (.bool m) := by rw [← hw1]; have := (Boxed.new (w.alloc (.cells #[.int .u8 t] 5)) 4 (.bool m)).alloc (.cells #[.bool only] 4); rwa [World.size_alloc] at this
 have b9 : Boxed w1 (w.heap.size + 1 + 1) 4 (.bool only) := by rw [← hw1]; have := Boxed.new ((w.alloc (.cells #[.int .u8 t] 5)).alloc (.cells #[.bool m] 4)) 4 (.bool only); rwa [World.size_alloc, World.size_alloc] at this
 have hs1 : w.heap.size + 3 ≤ w1.heap.size := by rw [← hw1]; simp
 have hbw1 : base ≤ w1.heap.size := by omega
 have P0 : PI base bo v0 w1 l0 w1 := ⟨⟨v0, Boxed.keep hbo x1, Owns.ext how x1, fun k h => .inl h⟩, Below.refl _ _, KpS.refl _ _, Nat.le_refl _⟩
 rw [hw1]
 have kj : kp0 w1 bo v0 bj := ⟨by omega, d1, d3⟩
 have kon : kp0 w1 bo v0 bon := ⟨by have := hon.lt; omega, d2, d4⟩
 have hbol := hbo.lt
 have hvl : ∀ k, v0.ownBlock = some k → k < w.heap.size := fun k hk => (how.lt k hk).2
 have k7 : kp0 w1 bo v0 w.heap.size := ⟨by omega, by omega, fun e => by have := hvl _ e; omega⟩
 have k8 : kp0 w1 bo v0 (w.heap.size + 1) := ⟨by omega, by omega, fun e => by have := hvl _ e; omega⟩
 have k9 : kp0 w1 bo v0 (w.heap.size + 1 + 1) := ⟨by omega, by omega, fun e => by have := hvl _ e; omega⟩
 replace hj : w1.cell? ⟨bj, 0, none⟩ = some (.int .i64 u) := x1.cell hj
 replace hon := Boxed.keep hon x1
 have kRow : ∀ (A : Option Addr) (vs : List Value), RdV w A vs → (∀ a, A = some a → a.block ≠ bo ∧ v0.ownBlock ≠ some a.block) → ∀ W, KpS (kp0 w1 bo v0) w1 W → RdV W A vs := by
  intro A vs hr hd W hk
  rcases hr with hr | ⟨b, o, e, hc⟩
  ·exact .inl hr
  ·refine .inr ⟨b, o, e, fun j v hv => ?_⟩
   have h1 := hc j v hv
   have hlt := World.cell?_lt h1
   have h2 := x1.cell h1
   rw [← h2]
   exact hk.cell ⟨by have h9 : b < w.heap.size := hlt; show b < w1.heap.size; omega, (hd _ e).1, (hd _ e).2⟩ _
 have hold1 : Old wr0.heap.size wr0 w1 := fun k hk => (x1.block k (by omega)).trans (hold.block k hk)
 have hwr0 : wr0.heap.size ≤ w.heap.size := by omega
 refine wpIn_loop (fun a' W => ∃ (i : Nat) (ds : List Nat) (x12 x13 x17 x18 x19 x20 x21 x22 x23 x24 x25 x26 x27 x28 x29 x30 x31 x32 x33 x34 x35 x36 x37 x38 x39 x40 x41 x42 x43 : Value), i ≤ tbs.length ∧ a' = { tmps := #[.int .u8 t, .bool m, .bool only, .slice A3 tbs.length c3, .pointer (some ⟨bj, 0, none⟩), .pointer (some ⟨bon, 0, none⟩), .pointer (some ⟨bo, 0, none⟩), .pointer (some ⟨w.heap.size, 0, none⟩), .pointer (some ⟨w.heap.size + 1, 0, none⟩), .pointer (some ⟨w.heap.size + 1 + 1, 0, none⟩), undef, undef, x12, x13, .slice A3 tbs.length c3, .int .i64 tbs.length, .int .i64 i, x17, x18, x19, x20, x21, x22, x23, x24, x25, x26, x27, x28, x29, x30, x31, x32, x33, x34, x35, x36, x37, x38, x39, x40, x41, x42, x43], defers := marks ds } ∧ Marked w1.heap.size ds W ∧ PI base bo v0 w1 (l0 ++ Zeb on u t m only ((tbs.take i).map Tb.l)) W)
  (fun a' _ => tbs.length - (RowKit.intOf (a'.tmps.getD 16 undef)).toNat) ?start ?round
 case start =>
  exact ⟨0, [], _, _, _, _, _, _, _, _, _, _, _, _, _, _, _, _, _, _, _, _, _, _, _, _, _, _, _, _, _, Nat.zero_le _, rfl, ⟨List.nodup_nil, fun D hD => by cases hD⟩, by simpa [Zeb] using P0⟩
 case round =>
  rintro a' W ⟨i, ds, x12, x13, x17, x18, x19, x20, x21, x22, x23, x24, x25, x26, x27, x28, x29, x30, x31, x32, x33, x34, x35, x36, x37, x38, x39, x40, x41, x42, x43, hi, rfl, hmk, hP⟩
  by_cases hil : i < tbs.length
  case neg =>
   have hili : ¬ (i : Int) < tbs.length := by omega
   obtain rfl : i = tbs.length := by omega
   rw [List.take_length] at hP
   gi_wp2
   refine leaves_marks w1.heap.size (PI base bo v0 w1 (l0 ++ Zeb on u t m only (tbs.map Tb.l))) (fun W D hD hd h => h.putObj hbw1 hD hd rfl _) (fun W h => ?_) ds W hmk hP
   exact ⟨_, results_none rfl _ _ _, ⟨_, rfl⟩, h.back x1 hbw⟩
  case pos =>
   have hili : (i : Int) < tbs.length := by omega
   obtain ⟨tb, htbi⟩ : ∃ tb, tbs[i]? = some tb := ⟨_, List.getElem?_eq_getElem hil⟩
   have htk : (tbs.take (i + 1)).map Tb.l = (tbs.take i).map Tb.l ++ [tb.l] := by rw [List.take_add_one, htbi]; simp
   have hacc : l0 ++ Zeb on u t m only ((tbs.take (i + 1)).map Tb.l) = (l0 ++ Zeb on u t m only ((tbs.take i).map Tb.l)) ++ plRow on u t m only tb.l := by
    rw [htk]; simp [Zeb]
   obtain ⟨b3, o3, e3, hc3⟩ : ∃ b o, A3 = some ⟨b, o, none⟩ ∧ W.cell? ⟨b, o + i, none⟩ = some tb.v := by
    rcases kRow A3 _ hrows d6 W hP.kp with hr | ⟨b, o, e, hc⟩
    ·rw [List.map_eq_nil_iff.1 hr] at hil; simp at hil
    ·exact ⟨b, o, e, hc i _ (by rw [List.getElem?_map, htbi]; rfl)⟩
   have HACC := Lib.hid hacc
   have HTB := Lib.hid htbi
   clear hacc htk htbi
   subst e3
   have cj : W.cell? ⟨bj, 0, none⟩ = some (.int .i64 u) := (hP.kp.cell kj 0).trans hj
   have con' := (hP.kp.boxed kon hon).cell
   obtain ⟨A, rs, c⟩ := tb
   gi_wp2
   refine ⟨trivial, fun _ => by omega, ?_⟩
   refine (callsIn_wide.2 (row_calls _ _ _ _ _ _)).mono ?_
   rintro e W4 ⟨rfl, hW4⟩
   have htb' := htb _ (List.mem_of_getElem? HTB.out)
   obtain ⟨Hr, hHr⟩ : ∃ Hr, W.heap.size = Hr := ⟨_, rfl⟩
   have x4 : Ext W W4 := by rw [hW4]; exact (((Ext.refl W).alloc _).alloc _).alloc _
   have q2 : Boxed W4 Hr 22 (.slice A rs.length c) := by rw [hW4, ← hHr]; exact ((Boxed.new W _ _).alloc _).alloc _
   have q1 : Boxed W4 (Hr + 1) 3 (.int .i64 u) := by rw [hW4, ← hHr]; have := (Boxed.new (W.alloc (.cells #[.slice A rs.length c] 22)) 3 (.int .i64 u)).alloc (.cells #[.int .i64 on.length] 3); rwa [World.size_alloc] at this
   have q3 : Boxed W4 (Hr + 1 + 1) 3 (.int .i64 on.length) := by rw [hW4, ← hHr]; have := Boxed.new ((W.alloc (.cells #[.slice A rs.length c] 22)).alloc (.cells #[.int .i64 u] 3)) 3 (.int .i64 on.length); rwa [World.size_alloc, World.size_alloc] at this
   have hs4 : Hr + 3 ≤ W4.heap.size := by rw [hW4, ← hHr]; simp
   have hP4 : PI base bo v0 w1 (l0 ++ Zeb on u t m only ((tbs.take i).map Tb.l)) W4 := by rw [hW4]; exact ((hP.alloc hbw1 _).alloc hbw1 _).alloc hbw1 _
   have hmk4 : Marked w1.heap.size ds W4 := ⟨hmk.1, fun D hD => ⟨(hmk.2 D hD).1, (x4.block D (Array.getElem?_eq_some_iff.1 (hmk.2 D hD).2).1).trans (hmk.2 D hD).2⟩⟩
   have hml4 : ∀ D ∈ ds, D < W4.heap.size := fun D hD => (Array.getElem?_eq_some_iff.1 (hmk4.2 D hD).2).1
   have hs14 := hP4.sz
   rw [hHr]
   have hsW : w1.heap.size ≤ Hr := by rw [← hHr]; exact hP.sz
   obtain ⟨v4, bv4, ov4, cv4⟩ := hP.box
   have lv4 : ∀ k, v4.ownBlock = some k → k < Hr := fun k hk => by rw [← hHr]; exact (ov4.lt k hk).2
   have lb4 : bo < Hr := by rw [← hHr]; exact bv4.lt
   replace bv4 := Boxed.keep bv4 x4
   replace ov4 := Owns.ext ov4 x4
   clear hW4 hP hmk x4 cj con' hHr hc3
   have hPI0 : PI base bo v4 W4 (l0 ++ Zeb on u t m only ((tbs.take i).map Tb.l)) W4 := ⟨⟨v4, bv4, ov4, fun k h => .inl h⟩, Below.refl _ _, KpS.refl _ _, Nat.le_refl _⟩
   have hold4 : Old wr0.heap.size wr0 W4 := fun k hk => (hP4.kp k ⟨by omega, by omega, fun e => by have := (how.lt k e).1; omega⟩).trans (hold1 k hk)
   have hacl : (l0 ++ Zeb on u t m only ((tbs.take i).map Tb.l)).length ≤ 110000 := by
    have := plPut_length on u t m only 1000 ((tbs.take i).map Tb.l) (by
     intro tb htm r hr
     obtain ⟨tb', h1, rfl⟩ := List.mem_map.1 htm
     obtain ⟨r', h2, rfl⟩ := List.mem_map.1 hr
     exact (htb tb' (List.mem_of_mem_take h1)).2.2 r' h2)
    rw [List.length_append]
    rw [List.length_map, List.length_take] at this
    have h9 : min i tbs.length ≤ 10 := by omega
    have := Nat.mul_le_mul_right 1000 h9
    omega
   have hrl : (rowU (rows rs) u on.length).length ≤ 1000 := rowU_length _ _ _ _ (fun r hr => by obtain ⟨r', h1, rfl⟩ := List.mem_map.1 hr; exact htb'.2.2 r' h1)
   obtain ⟨acc, hac⟩ : ∃ acc, l0 ++ Zeb on u t m only ((tbs.take i).map Tb.l) = acc := ⟨_, rfl⟩
   rw [hac] at hPI0 hacl hP4
   have HACC2 := Lib.hid (HACC.out.trans (congrArg (· ++ plRow on u t m only (Tb.l ⟨A, rs, c⟩)) hac))
   clear HACC hac
   gi_wp2
   refine wpIn_rangeFunc_ownH (F := Fence.wide) (n := n) rfl (by omega) (gf := 76) (lb := #[.pointer (some ⟨Hr + 1, 0, none⟩), .pointer (some ⟨Hr, 0, none⟩), .pointer (some ⟨Hr + 1 + 1, 0, none⟩)]) rfl trivial (enters_of Try.func76 (by kernel_rfl) rfl)
    (row_seq Fence.wide (n - 1) trivial rfl (by omega) (kp0 W4 bo v4) (Hr + 1) Hr (Hr + 1 + 1) c u on.length A rs wr0 W4 q1.cell q2.cell q3.cell ⟨by omega, by omega, fun e => by have := lv4 _ e; omega⟩ ⟨by omega, by omega, fun e => by have := lv4 _ e; omega⟩ ⟨by omega, by omega, fun e => by have := lv4 _ e; omega⟩
     htb'.1 (fun k hk => ⟨by omega, by omega, fun e => by have := (ov4.lt k e).1; omega⟩) hold4 (fun k hk => hk.1) (fun r hr => by have := htb'.2.2 r hr; omega) (by have := htb'.2.1; simp only at this; omega)) (fun h k => KpS.trans h k)
    (fun W l' o o' hl' ho hc _ => fun k hk => World.putObj_heap_other (by have := hk.1; omega)) (Below.refl _ W4) (fun _ => rfl)
    (fun pre W' => PI base bo v4 W4 (acc ++ (pre.map (·.1)).flatMap (pl1 on t m only)) W' ∧ Marked w1.heap.size ds W') (fun _ _ _ => False)
    (OwnFrom.and (fun s X Y row h hg hr => PI.own (f := fun p => acc ++ p.flatMap (pl1 on t m only)) (Nat.le_refl _) (by omega) (s.map (·.1)) X Y row h hg hr) (Marked.own hml4))
    (fun _ _ _ _ _ hs _ _ => hs) ⟨by simpa using hPI0, hmk4⟩
    (fun x a' W => a' = { tmps := #[.int .u8 t, .bool m, .bool only, .slice (some ⟨b3, o3, none⟩) tbs.length c3, .pointer (some ⟨bj, 0, none⟩), .pointer (some ⟨bon, 0, none⟩), .pointer (some ⟨bo, 0, none⟩), .pointer (some ⟨w.heap.size, 0, none⟩), .pointer (some ⟨w.heap.size + 1, 0, none⟩), .pointer (some ⟨w.heap.size + 1 + 1, 0, none⟩), undef, undef, (.slice A rs.length c), .int .i64 x.1, .slice (some ⟨b3, o3, none⟩) tbs.length c3, .int .i64 tbs.length, .int .i64 i, .bool true, .pointer (some ⟨b3, o3 + i, none⟩), .slice A rs.length c, .slice A rs.length c, .pointer (some ⟨bj, 0, none⟩), .int .i64 u, .slice Aon on.length con, .int .i64 on.length, .func (.func 76) #[] #[.pointer (some ⟨Hr + 1, 0, none⟩), .pointer (some ⟨Hr, 0, none⟩), .pointer (some ⟨Hr + 1 + 1, 0, none⟩)], .int .i64 x.1, x27, x28, x29, x30, x31, x32, x33, x34, x35, x36, x37, x38, x39, x40, x41, x42, x43], defers := [] })
    (fun x a' _ _ _ _ hs _ _ => hs)
    ?assign ?body ?done ?stop
   case assign =>
    rintro l' pre x W K hI hK
    gi_wp2
    exact hK _ _ (KeepsFrom.refl _ _) (KpS.refl _ _) hI rfl
   case body =>
    rintro l' pre ⟨x, hx⟩ a' W hl' ⟨rec, hrec⟩ ⟨hPI, hM⟩ rfl hlt
    obtain ⟨h0x, hxm⟩ := okB_bounds hx
    obtain ⟨p, rfl⟩ : ∃ p : Nat, x = p := ⟨x.toNat, by omega⟩
    have hpl : p < on.length := by omega
    have hpli : (p : Int) < on.length := hxm
    have hT := hPI.trans cv4 hP4.bel hP4.kp hP4.sz
    have e5 := (hT.kp.boxed kon hon).cell
    have e7 := (hT.kp.boxed k7 b7).cell
    have e8 := (hT.kp.boxed k8 b8).cell
    have e9 := (hT.kp.boxed k9 b9).cell
    obtain ⟨b, hb⟩ : ∃ b, on[p]? = some b := ⟨_, List.getElem?_eq_getElem hpl⟩
    obtain ⟨bA, oA, rfl, ecell⟩ : ∃ bA oA, Aon = some ⟨bA, oA, none⟩ ∧ W.cell? ⟨bA, oA + p, none⟩ = some (.bool b) := by
     rcases kRow Aon _ hob d5 W hT.kp with hr | ⟨b', o', e, hc⟩
     ·rw [List.map_eq_nil_iff.1 hr] at hpl; simp at hpl
     ·exact ⟨b', o', e, hc p _ (by rw [List.getElem?_map, hb]; rfl)⟩
    obtain ⟨v, hv, hrw, hvo⟩ := hPI.box
    have hc := hv.cell
    obtain ⟨i0, hi0, hz0, hz1, hz2⟩ := info_parts infoPull
    have hWs := hPI.sz
    have hsnoc : acc ++ ((pre ++ [(⟨(p : Int), hx⟩ : OkE u on.length)]).map (·.1)).flatMap (pl1 on t m only) = (acc ++ (pre.map (·.1)).flatMap (pl1 on t m only)) ++ pl1 on t m only p := by simp
    have hpf := pls_length on t m only (pre.map (·.1))
    rw [List.length_map] at hpf
    have hll : (acc ++ (pre.map (·.1)).flatMap (pl1 on t m only)).length ≤ 112000 := by rw [List.length_append]; omega
    have HS := Lib.hid hsnoc
    clear hpf hsnoc hT
    generalize acc ++ (pre.map (·.1)).flatMap (pl1 on t m only) = ll at *
    have hcell : ∀ (j : Nat) (y : Value), [Value.int .i64 p, Value.int .u8 t, Value.bool m][j]? = some y → (W.alloc (.cells #[.int .i64 p, .int .u8 t, .bool m] 55)).cell? ((⟨W.heap.size, 0, none⟩ : Addr).add j) = some y := by
     intro j y hj
     rw [show (⟨W.heap.size, 0, none⟩ : Addr).add j = ⟨W.heap.size, j, none⟩ by unfold Addr.add; split <;> simp_all]
     exact (Blk.newAt W [.int .i64 p, .int .u8 t, .bool m] 55 W.heap.size rfl).cell j hj
    have hbo4 : base ≤ W.heap.size := by omega
    have hg : on.getD (p : Int).toNat false = b := by rw [Int.toNat_natCast, List.getD_eq_getElem?_getD, hb]; rfl
    have hyes : (b || !only) = true → pl1 on t m only p = [⟨p, t, m⟩] := fun h => by unfold pl1; rw [hg, if_pos h]
    have hno : (b || !only) = false → pl1 on t m only p = [] := fun h => by unfold pl1; rw [hg, if_neg (by rw [h]; simp)]
    have HY := Lib.hid hyes
    have HN := Lib.hid hno
    clear hyes hno hg hb
    have hfin := fun (v' : Value) (w2 : World) tmp h1 h2 h3 => PI.step (B1 := W4.heap.size) (y := ⟨p, t, m⟩) (tmp := tmp) (v' := v') (w2 := w2) hPI (by omega) hbase hM (Nat.le_refl _) hv hrw hvo h1 h2 h3
    have HF := Lib.hid hfin
    clear hfin
    cases b
    ·cases only
     ·gi_wp2_with (gi_at_builtin; refine wpListIn_append_row _ rfl _ _ 53 rfl base 55 i0 _ 3 24 Try.underlying53 hi0 hz0 hz1 hz2 rfl (by decide) _ _ _ rfl (hrw.alloc _) ⟨W.heap.size, 0, none⟩ 1 1 [.int .i64 p, .int .u8 t, .bool m] rfl rfl hcell (by simp [Value.oneCell']) (by unfold maxLen; omega) (by omega) (by simp; omega) ?_; intro v' w2 hown' hgrow hsb; obtain ⟨g', cap', rfl⟩ := ownsRow_succ hown'; obtain ⟨hv1, _, _, _, _⟩ := hv.appended (by decide) hrw (by omega) hbase hown' hgrow; have hc1 := hv1.cell; have hf1 := hv1.frozen)
      obtain ⟨r1, r2, r3, r4⟩ := HF.out _ _ _ hown' hgrow hsb
      refine ⟨r1, r2, ?_, r4⟩
      have hfin := HS.out
      rw [HY.out rfl] at hfin
      exact hfin ▸ r3
     ·gi_wp2
      refine ⟨KeepsFrom.refl _ _, KpS.refl _ _, ?_, hM⟩
      have hfin := HS.out
      rw [HN.out rfl, List.append_nil] at hfin
      exact hfin ▸ hPI
    ·cases only
     all_goals
      gi_wp2_with (gi_at_builtin; refine wpListIn_append_row _ rfl _ _ 53 rfl base 55 i0 _ 3 24 Try.underlying53 hi0 hz0 hz1 hz2 rfl (by decide) _ _ _ rfl (hrw.alloc _) ⟨W.heap.size, 0, none⟩ 1 1 [.int .i64 p, .int .u8 t, .bool m] rfl rfl hcell (by simp [Value.oneCell']) (by unfold maxLen; omega) (by omega) (by simp; omega) ?_; intro v' w2 hown' hgrow hsb; obtain ⟨g', cap', rfl⟩ := ownsRow_succ hown'; obtain ⟨hv1, _, _, _, _⟩ := hv.appended (by decide) hrw (by omega) hbase hown' hgrow; have hc1 := hv1.cell; have hf1 := hv1.frozen)
      obtain ⟨r1, r2, r3, r4⟩ := HF.out _ _ _ hown' hgrow hsb
      refine ⟨r1, r2, ?_, r4⟩
      have hfin := HS.out
      rw [HY.out rfl] at hfin
      exact hfin ▸ r3
   case done =>
    rintro D xs W hD hS ⟨hPI, hM⟩ hK
    have hT := hPI.trans cv4 hP4.bel hP4.kp hP4.sz
    rw [hS] at hT
    have hT2 : PI base bo v0 w1 (l0 ++ Zeb on u t m only ((tbs.take (i + 1)).map Tb.l)) W := by rw [HACC2.out]; exact hT
    have hM2 : Marked w1.heap.size (D :: ds) W := ⟨List.nodup_cons.2 ⟨fun h => by have := hml4 D h; omega, hM.1⟩, fun E hE => by
     rcases List.mem_cons.1 hE with rfl | hE
     ·exact ⟨by omega, hK⟩
     ·exact hM.2 E hE⟩
    gi_wp2
    refine ⟨⟨i + 1, D :: ds, _, _, _, _, _, _, _, _, _, _, _, _, _, _, _, _, _, _, _, _, _, _, _, _, _, _, _, _, _, by omega, rfl, hM2, hT2⟩, ?_⟩
    show tbs.length - (RowKit.intOf (.int .i64 ((i : Int) + 1))).toNat < tbs.length - (RowKit.intOf (.int .i64 i)).toNat
    simp only [RowKit.intOf]
    omega
   case stop =>
    rintro D c pre W _ _ h _
    exact h.elim
end Go.Proofs.Ytclgclcoblfddaa
namespace Go.Proofs.Ytclgclcoblfddaa
open Go.RowKit Go.Shelf
set_option linter.unusedVariables false
set_option linter.unusedSimpArgs false
theorem Blk.rdv {W : World} {g : Nat} {cs : List Value} {T : TypeId} (h : Blk W g cs T) : RdV W (some ⟨g, 0, none⟩) cs := .inr ⟨g, 0, rfl, fun j v hv => by rw [Nat.zero_add]; exact h.cell j hv⟩
structure G7 where
 t0 : Tb
 t1 : Tb
 t2 : Tb
 v3 : Value
 v4 : Value
 v5 : Value
 t6 : Tb
 t7 : Tb
 t8 : Tb
 t9 : Tb
def G7.cs (G : G7) : List Value := [G.t0.v, G.t1.v, G.t2.v, G.v3, G.v4, G.v5, G.t6.v, G.t7.v, G.t8.v, G.t9.v]
structure G7.ok (W : World) (G : G7) : Prop where
 k0 : G.t0.ok W
 k1 : G.t1.ok W
 k2 : G.t2.ok W
 k6 : G.t6.ok W
 k7 : G.t7.ok W
 k8 : G.t8.ok W
 k9 : G.t9.ok W
structure GL where
 req : List (List Int)
 wants : List (List Int)
 binds : List (List Int)
 conf : List (List Int)
 reqBy : List (List Int)
 bound : List (List Int)
 parts : List (List Int)
def G7.l (G : G7) : GL := ⟨G.t0.l, G.t1.l, G.t2.l, G.t6.l, G.t7.l, G.t8.l, G.t9.l⟩
def pullsL (g : GL) (on : List Bool) (u t : Int) : List It :=
 if 0 ≤ u ∧ u < on.length ∧ knownB t = true then
  (if t = 2 then [] else Zeb on u 1 true false [g.req, g.binds] ++ Zeb on u 1 false false [g.wants] ++ Zeb on u 2 true false [g.conf]) ++
  (if t = 1 then [] else Zeb on u t true true [g.reqBy, g.bound, g.parts])
 else []
structure PSt (w0 : World) (G : G7) (Aon : Option Addr) (con : Nat) (on : List Bool) (u t : Int) (l : List It) (W : World) : Prop where
 box : ∃ v, Boxed W (w0.heap.size + 1 + 1 + 1) 53 v ∧ W.ownsRow w0.heap.size 55 3 v l.length (Zcq l) ∧ ∀ k, v.ownBlock = some k → w0.heap.size + 1 + 1 + 1 < k
 bg : Blk W w0.heap.size G.cs 24
 bon : Boxed W (w0.heap.size + 1) 25 (.slice Aon on.length con)
 bj : Blk W (w0.heap.size + 1 + 1) [.int .i64 u, .int .u8 t] 32
 bel : Below w0.heap.size w0 W
theorem PSt.keep {w0 W W' : World} {G : G7} {Aon : Option Addr} {con : Nat} {on : List Bool} {u t : Int} {l : List It} (h : PSt w0 G Aon con on u t l W) (hx : Ext W W') : PSt w0 G Aon con on u t l W' := by
 obtain ⟨v, h1, h2, h3⟩ := h.box
 exact ⟨⟨v, Boxed.keep h1 hx, Owns.ext h2 hx, h3⟩, h.bg.ext hx, Boxed.keep h.bon hx, h.bj.ext hx, h.bel.trans (hx.mono h.bel.size)⟩
theorem PSt.fresh {w0 W : World} {G : G7} {Aon : Option Addr} {con : Nat} {on : List Bool} {u t : Int} {l : List It} (h : PSt w0 G Aon con on u t l W) (o : Obj) (v : Value) (hv : Boxed (W.alloc o) (w0.heap.size + 1 + 1 + 1) 53 v) : v.ownBlock ≠ some W.heap.size := by
 obtain ⟨v', h1, h2, h3⟩ := h.box
 have e : v = v' := by
  have := (show _ = _ from hv).symm.trans (h1.alloc o)
  simpa using this
 subst e
 intro e
 have := (h2.lt _ e).2
 omega
theorem PSt.big {w0 W : World} {G : G7} {Aon : Option Addr} {con : Nat} {on : List Bool} {u t : Int} {l : List It} (h : PSt w0 G Aon con on u t l W) : w0.heap.size + 1 + 1 + 1 < W.heap.size := by
 obtain ⟨v', h1, _⟩ := h.box
 exact h1.lt
theorem put_step (w0 W : World) (G : G7) (Aon : Option Addr) (con : Nat) (on : List Bool) (u : Nat) (t : Int) (l : List It) (h : PSt w0 G Aon con on u t l W) (hob : RdV w0 Aon (on.map .bool)) (hol : on.length ≤ 1000) (hne : on ≠ [])
  (t' : Int) (m only : Bool) (tbs : List Tb) (htb : ∀ tb ∈ tbs, tb.ok w0) (htl : tbs.length ≤ 10) (hl : l.length ≤ 100000) (b3 c3 : Nat) (hb3 : Blk W b3 (tbs.map Tb.v) 22) (h3 : w0.heap.size + 1 + 1 + 1 < b3) (hnew : ∀ v, Boxed W (w0.heap.size + 1 + 1 + 1) 53 v → v.ownBlock ≠ some b3) :
  Calls Try.prog 52 #[.int .u8 t', .bool m, .bool only, .slice (some ⟨b3, 0, none⟩) tbs.length c3, .pointer (some ⟨w0.heap.size + 1 + 1, 0, none⟩), .pointer (some ⟨w0.heap.size + 1, 0, none⟩), .pointer (some ⟨w0.heap.size + 1 + 1 + 1, 0, none⟩)] W
   fun e W' => (∃ v, e = .returned v) ∧ PSt w0 G Aon con on u t (l ++ Zeb on u t' m only (tbs.map Tb.l)) W' := by
 obtain ⟨v, bv, ov, cv⟩ := h.box
 have hlt := bv.lt
 have hold : Below w0.heap.size w0 W := h.bel
 have hobW : ∀ a, Aon = some a → a.block < w0.heap.size := by
  intro a ha
  rcases hob with hr | ⟨b, o, e, hc⟩
  ·exact absurd (List.map_eq_nil_iff.1 hr) hne
  ·rw [e] at ha; cases ha
   obtain ⟨x, hx⟩ := List.exists_mem_of_ne_nil _ hne
   obtain ⟨j, hj⟩ := List.getElem?_of_mem hx
   have h9 := World.cell?_lt (hc j (.bool x) (by rw [List.getElem?_map, hj]; rfl))
   exact h9
 have hRd : RdV W Aon (on.map .bool) := by
  rcases hob with hr | ⟨b, o, e, hc⟩
  ·exact .inl hr
  ·exact .inr ⟨b, o, e, fun j y hy => by
    have h1 := hc j y hy
    have h2 : b < w0.heap.size := World.cell?_lt h1
    rw [← h1]; simp [World.cell?, hold.block b h2]⟩
 refine (callsIn_wide.1 (put_calls 3 (Nat.le_refl _) w0.heap.size (w0.heap.size + 1 + 1) (w0.heap.size + 1) (w0.heap.size + 1 + 1 + 1) u con c3 t' m only on Aon (some ⟨b3, 0, none⟩) tbs l v w0 W (h.bj.cell 0 rfl) h.bon hRd hol bv ov (by omega) (Blk.rdv hb3) htb hold (Nat.le_refl _) (by omega) (by omega)
  (fun e => by have := cv _ e; omega) (fun e => by have := cv _ e; omega) (by omega) (fun a ha => ⟨by have := hobW a ha; omega, fun e => by have := hobW a ha; have := cv _ e; omega⟩) (fun a ha => by cases ha; exact ⟨by simp only; omega, hnew v bv⟩) hl htl)).mono ?_
 rintro e W' ⟨hr, hP⟩
 refine ⟨hr, ?_⟩
 have keepB : ∀ k, k < w0.heap.size + 1 + 1 + 1 → W'.heap[k]? = W.heap[k]? := fun k hk => hP.kp k ⟨by omega, by omega, fun e => by have := cv _ e; omega⟩
 obtain ⟨v', h1, h2, h3'⟩ := hP.box
 exact ⟨⟨v', h1, h2, fun k hk => by
  rcases h3' k hk with h4 | h4
  ·exact cv k h4
  ·omega⟩, (keepB _ (by omega)).trans h.bg, (keepB _ (by omega)).trans h.bon, (keepB _ (by omega)).trans h.bj, h.bel.trans hP.bel⟩
set_option maxRecDepth 100000 in
set_option maxHeartbeats 4000000 in
theorem pulls_calls (w : World) (G : G7) (Aon : Option Addr) (con : Nat) (on : List Bool) (u t : Int) (hG : G.ok w) (hob : RdV w Aon (on.map .bool)) (hol : on.length ≤ 1000) :
  Calls Try.prog 24 #[.agg G.cs.toArray, .slice Aon on.length con, .agg #[.int .i64 u, .int .u8 t]] w
   fun e w' => ∃ v, e = .returned v ∧ w'.ownsRow w.heap.size 55 3 v (pullsL G.l on u t).length (Zcq (pullsL G.l on u t)) ∧ Below w.heap.size w w' := by
 have KN := Lib.hid known_calls
 have HN := Lib.hid hob
 have HG := Lib.hid hG
 clear hob hG
 by_cases h0 : 0 ≤ u
 case neg =>
  have hu : u < 0 := by omega
  rw [show pullsL G.l on u t = [] from if_neg (by omega)]
  go_enter Try.func24, Try.ntmps24
  go_wp2_with fail
  go_ret
  exact ⟨_, rfl, World.ownsRow_nil _ _ _ _, (((Ext.refl w).alloc _).alloc _).alloc _⟩
 obtain ⟨p, rfl⟩ : ∃ p : Nat, u = p := ⟨u.toNat, by omega⟩
 by_cases h1 : p < on.length
 case neg =>
  have hu : ¬ (p : Int) < on.length := by omega
  have hu' : (on.length : Int) ≤ p := by omega
  rw [show pullsL G.l on p t = [] from if_neg (by omega)]
  go_enter Try.func24, Try.ntmps24
  go_wp2_with fail
  go_ret
  exact ⟨_, rfl, World.ownsRow_nil _ _ _ _, (((Ext.refl w).alloc _).alloc _).alloc _⟩
 have hu : (p : Int) < on.length := by omega
 have hu' : ¬ (on.length : Int) ≤ p := by omega
 cases hk : knownB t
 case false =>
  rw [show pullsL G.l on p t = [] from if_neg (by rw [hk]; simp)]
  go_enter Try.func24, Try.ntmps24
  go_wp2_with fail
  refine (KN.out _ _).mono ?_
  rintro e W ⟨rfl, rfl⟩
  rw [hk]
  go_wp2_with fail
  go_ret
  exact ⟨_, rfl, World.ownsRow_nil _ _ _ _, (((Ext.refl w).alloc _).alloc _).alloc _⟩
 have hp0 : pullsL G.l on p t = (if t = 2 then [] else Zeb on p 1 true false [G.t0.l, G.t2.l] ++ Zeb on p 1 false false [G.t1.l] ++ Zeb on p 2 true false [G.t6.l]) ++ (if t = 1 then [] else Zeb on p t true true [G.t7.l, G.t8.l, G.t9.l]) := if_pos ⟨h0, hu, hk⟩
 rw [hp0]
 clear hp0
 have HNE := Lib.hid (show on ≠ [] from fun e => by rw [e] at h1; simp at h1)
 have HB := Lib.hid fun (t' : Int) (m only : Bool) (tbs : List Tb) (h : ∀ tb ∈ tbs, tb.ok w) => (plPut_length on p t' m only 1000 (tbs.map Tb.l) (by
  intro tb htm r hr
  obtain ⟨tb', h1, rfl⟩ := List.mem_map.1 htm
  obtain ⟨r', h2, rfl⟩ := List.mem_map.1 hr
  exact (h tb' h1).2.2 r' h2))
 simp only [List.length_map] at HB
 have ht : t = 1 ∨ t = 2 ∨ t = 3 := by
  simp only [knownB, Bool.and_eq_true, decide_eq_true_eq] at hk
  omega
 go_enter Try.func24, Try.ntmps24
 go_wp2_with fail
 refine (KN.out _ _).mono ?_
 rintro e W ⟨rfl, rfl⟩
 rw [hk]
 go_upto_region 5 with (fail)
 refine Zep (fun W => PSt w G Aon con on p t [] W) ?_ ?_
 ·have hs : ((w.alloc (.cells G.cs.toArray 24)).alloc (.cells #[.slice Aon on.length con] 25)).heap.size = w.heap.size + 1 + 1 := by simp
  refine ⟨⟨.slice none 0 0, ?_, World.ownsRow_nil _ _ _ _, fun k h => by cases h⟩, ?_, ?_, ?_, ((((Ext.refl w).alloc _).alloc _).alloc _).alloc _⟩
  ·have := Boxed.new (((w.alloc (.cells G.cs.toArray 24)).alloc (.cells #[.slice Aon on.length con] 25)).alloc (.cells #[.int .i64 p, .int .u8 t] 32)) 53 (.slice none 0 0)
   simp only [World.size_alloc] at this
   exact this
  ·exact (((Blk.newAt w G.cs _ _ rfl).alloc _).alloc _).alloc _
  ·have := ((Boxed.new (w.alloc (.cells G.cs.toArray 24)) 25 (.slice Aon on.length con)).alloc (.cells #[.int .i64 p, .int .u8 t] 32)).alloc (.cells #[.slice none 0 0] 53)
   simp only [World.size_alloc] at this
   exact this
  ·exact (Blk.newAt ((w.alloc (.cells G.cs.toArray 24)).alloc (.cells #[.slice Aon on.length con] 25)) [.int .i64 p, .int .u8 t] _ _ hs.symm).alloc _
 intro W0 hP
 clear hk
 rcases ht with rfl | rfl | rfl
 ·skip
  have g0 : W0.cell? ⟨w.heap.size, 0, none⟩ = some (.slice G.t0.A G.t0.rs.length G.t0.c) := hP.bg.cell 0 rfl
  have g1 : W0.cell? ⟨w.heap.size, 1, none⟩ = some (.slice G.t1.A G.t1.rs.length G.t1.c) := hP.bg.cell 1 rfl
  have g2 : W0.cell? ⟨w.heap.size, 2, none⟩ = some (.slice G.t2.A G.t2.rs.length G.t2.c) := hP.bg.cell 2 rfl
  have g6 : W0.cell? ⟨w.heap.size, 6, none⟩ = some (.slice G.t6.A G.t6.rs.length G.t6.c) := hP.bg.cell 6 rfl
  have g7 : W0.cell? ⟨w.heap.size, 7, none⟩ = some (.slice G.t7.A G.t7.rs.length G.t7.c) := hP.bg.cell 7 rfl
  have g8 : W0.cell? ⟨w.heap.size, 8, none⟩ = some (.slice G.t8.A G.t8.rs.length G.t8.c) := hP.bg.cell 8 rfl
  have g9 : W0.cell? ⟨w.heap.size, 9, none⟩ = some (.slice G.t9.A G.t9.rs.length G.t9.c) := hP.bg.cell 9 rfl
  have gj : W0.cell? ⟨w.heap.size + 1 + 1, 1, none⟩ = some (.int .u8 1) := hP.bj.cell 1 rfl
  go_wp2_with fail
  clear g0 g1 g2 g6 g7 g8 g9 gj
  refine (put_step w _ G Aon con on p 1 _ (hP.keep ((Ext.refl _).alloc _)) HN.out hol HNE.out 1 true false [G.t0, G.t2] (List.forall_mem_cons.2 ⟨HG.out.k0, (List.forall_mem_cons.2 ⟨HG.out.k2, (fun _ h => by cases h)⟩)⟩) (by simp) (by
   simp only [List.length_append, List.length_nil]
   omega) W0.heap.size 2 (Blk.newAt W0 [.slice G.t0.A G.t0.rs.length G.t0.c, .slice G.t2.A G.t2.rs.length G.t2.c] _ _ rfl) hP.big (fun v hv => hP.fresh _ v hv)).mono ?_
  rintro e W1 ⟨⟨v0, rfl⟩, hP1⟩
  clear hP
  have hP := hP1
  clear hP1
  have g0 : W1.cell? ⟨w.heap.size, 0, none⟩ = some (.slice G.t0.A G.t0.rs.length G.t0.c) := hP.bg.cell 0 rfl
  have g1 : W1.cell? ⟨w.heap.size, 1, none⟩ = some (.slice G.t1.A G.t1.rs.length G.t1.c) := hP.bg.cell 1 rfl
  have g2 : W1.cell? ⟨w.heap.size, 2, none⟩ = some (.slice G.t2.A G.t2.rs.length G.t2.c) := hP.bg.cell 2 rfl
  have g6 : W1.cell? ⟨w.heap.size, 6, none⟩ = some (.slice G.t6.A G.t6.rs.length G.t6.c) := hP.bg.cell 6 rfl
  have g7 : W1.cell? ⟨w.heap.size, 7, none⟩ = some (.slice G.t7.A G.t7.rs.length G.t7.c) := hP.bg.cell 7 rfl
  have g8 : W1.cell? ⟨w.heap.size, 8, none⟩ = some (.slice G.t8.A G.t8.rs.length G.t8.c) := hP.bg.cell 8 rfl
  have g9 : W1.cell? ⟨w.heap.size, 9, none⟩ = some (.slice G.t9.A G.t9.rs.length G.t9.c) := hP.bg.cell 9 rfl
  have gj : W1.cell? ⟨w.heap.size + 1 + 1, 1, none⟩ = some (.int .u8 1) := hP.bj.cell 1 rfl
  go_wp2_with fail
  clear g0 g1 g2 g6 g7 g8 g9 gj
  refine (put_step w _ G Aon con on p 1 _ (hP.keep ((Ext.refl _).alloc _)) HN.out hol HNE.out 1 false false [G.t1] (List.forall_mem_cons.2 ⟨HG.out.k1, (fun _ h => by cases h)⟩) (by simp) (by
   simp only [List.length_append, List.length_nil]
   have b0 := HB.out 1 true false [G.t0, G.t2] (List.forall_mem_cons.2 ⟨HG.out.k0, (List.forall_mem_cons.2 ⟨HG.out.k2, (fun _ h => by cases h)⟩)⟩)
   simp only [List.length_cons, List.length_nil] at b0
   omega) W1.heap.size 1 (Blk.newAt W1 [.slice G.t1.A G.t1.rs.length G.t1.c] _ _ rfl) hP.big (fun v hv => hP.fresh _ v hv)).mono ?_
  rintro e W2 ⟨⟨v1, rfl⟩, hP1⟩
  clear hP
  have hP := hP1
  clear hP1
  have g0 : W2.cell? ⟨w.heap.size, 0, none⟩ = some (.slice G.t0.A G.t0.rs.length G.t0.c) := hP.bg.cell 0 rfl
  have g1 : W2.cell? ⟨w.heap.size, 1, none⟩ = some (.slice G.t1.A G.t1.rs.length G.t1.c) := hP.bg.cell 1 rfl
  have g2 : W2.cell? ⟨w.heap.size, 2, none⟩ = some (.slice G.t2.A G.t2.rs.length G.t2.c) := hP.bg.cell 2 rfl
  have g6 : W2.cell? ⟨w.heap.size, 6, none⟩ = some (.slice G.t6.A G.t6.rs.length G.t6.c) := hP.bg.cell 6 rfl
  have g7 : W2.cell? ⟨w.heap.size, 7, none⟩ = some (.slice G.t7.A G.t7.rs.length G.t7.c) := hP.bg.cell 7 rfl
  have g8 : W2.cell? ⟨w.heap.size, 8, none⟩ = some (.slice G.t8.A G.t8.rs.length G.t8.c) := hP.bg.cell 8 rfl
  have g9 : W2.cell? ⟨w.heap.size, 9, none⟩ = some (.slice G.t9.A G.t9.rs.length G.t9.c) := hP.bg.cell 9 rfl
  have gj : W2.cell? ⟨w.heap.size + 1 + 1, 1, none⟩ = some (.int .u8 1) := hP.bj.cell 1 rfl
  go_wp2_with fail
  clear g0 g1 g2 g6 g7 g8 g9 gj
  refine (put_step w _ G Aon con on p 1 _ (hP.keep ((Ext.refl _).alloc _)) HN.out hol HNE.out 2 true false [G.t6] (List.forall_mem_cons.2 ⟨HG.out.k6, (fun _ h => by cases h)⟩) (by simp) (by
   simp only [List.length_append, List.length_nil]
   have b0 := HB.out 1 true false [G.t0, G.t2] (List.forall_mem_cons.2 ⟨HG.out.k0, (List.forall_mem_cons.2 ⟨HG.out.k2, (fun _ h => by cases h)⟩)⟩)
   simp only [List.length_cons, List.length_nil] at b0
   have b1 := HB.out 1 false false [G.t1] (List.forall_mem_cons.2 ⟨HG.out.k1, (fun _ h => by cases h)⟩)
   simp only [List.length_cons, List.length_nil] at b1
   omega) W2.heap.size 1 (Blk.newAt W2 [.slice G.t6.A G.t6.rs.length G.t6.c] _ _ rfl) hP.big (fun v hv => hP.fresh _ v hv)).mono ?_
  rintro e W3 ⟨⟨v2, rfl⟩, hP1⟩
  clear hP
  have hP := hP1
  clear hP1
  have gj : W3.cell? ⟨w.heap.size + 1 + 1, 1, none⟩ = some (.int .u8 1) := hP.bj.cell 1 rfl
  obtain ⟨v, bv, ov, _⟩ := hP.box
  have cv := bv.cell
  go_wp2_with fail
  go_ret
  refine ⟨_, rfl, ?_, hP.bel⟩
  simpa using ov
 ·skip
  have g0 : W0.cell? ⟨w.heap.size, 0, none⟩ = some (.slice G.t0.A G.t0.rs.length G.t0.c) := hP.bg.cell 0 rfl
  have g1 : W0.cell? ⟨w.heap.size, 1, none⟩ = some (.slice G.t1.A G.t1.rs.length G.t1.c) := hP.bg.cell 1 rfl
  have g2 : W0.cell? ⟨w.heap.size, 2, none⟩ = some (.slice G.t2.A G.t2.rs.length G.t2.c) := hP.bg.cell 2 rfl
  have g6 : W0.cell? ⟨w.heap.size, 6, none⟩ = some (.slice G.t6.A G.t6.rs.length G.t6.c) := hP.bg.cell 6 rfl
  have g7 : W0.cell? ⟨w.heap.size, 7, none⟩ = some (.slice G.t7.A G.t7.rs.length G.t7.c) := hP.bg.cell 7 rfl
  have g8 : W0.cell? ⟨w.heap.size, 8, none⟩ = some (.slice G.t8.A G.t8.rs.length G.t8.c) := hP.bg.cell 8 rfl
  have g9 : W0.cell? ⟨w.heap.size, 9, none⟩ = some (.slice G.t9.A G.t9.rs.length G.t9.c) := hP.bg.cell 9 rfl
  have gj : W0.cell? ⟨w.heap.size + 1 + 1, 1, none⟩ = some (.int .u8 2) := hP.bj.cell 1 rfl
  go_wp2_with fail
  clear g0 g1 g2 g6 g7 g8 g9 gj
  refine (put_step w _ G Aon con on p 2 _ (hP.keep ((Ext.refl _).alloc _)) HN.out hol HNE.out 2 true true [G.t7, G.t8, G.t9] (List.forall_mem_cons.2 ⟨HG.out.k7, (List.forall_mem_cons.2 ⟨HG.out.k8, (List.forall_mem_cons.2 ⟨HG.out.k9, (fun _ h => by cases h)⟩)⟩)⟩) (by simp) (by
   simp only [List.length_append, List.length_nil]
   omega) W0.heap.size 3 (Blk.newAt W0 [.slice G.t7.A G.t7.rs.length G.t7.c, .slice G.t8.A G.t8.rs.length G.t8.c, .slice G.t9.A G.t9.rs.length G.t9.c] _ _ rfl) hP.big (fun v hv => hP.fresh _ v hv)).mono ?_
  rintro e W1 ⟨⟨v0, rfl⟩, hP1⟩
  clear hP
  have hP := hP1
  clear hP1
  have gj : W1.cell? ⟨w.heap.size + 1 + 1, 1, none⟩ = some (.int .u8 2) := hP.bj.cell 1 rfl
  obtain ⟨v, bv, ov, _⟩ := hP.box
  have cv := bv.cell
  go_wp2_with fail
  go_ret
  refine ⟨_, rfl, ?_, hP.bel⟩
  simpa using ov
 ·skip
  have g0 : W0.cell? ⟨w.heap.size, 0, none⟩ = some (.slice G.t0.A G.t0.rs.length G.t0.c) := hP.bg.cell 0 rfl
  have g1 : W0.cell? ⟨w.heap.size, 1, none⟩ = some (.slice G.t1.A G.t1.rs.length G.t1.c) := hP.bg.cell 1 rfl
  have g2 : W0.cell? ⟨w.heap.size, 2, none⟩ = some (.slice G.t2.A G.t2.rs.length G.t2.c) := hP.bg.cell 2 rfl
  have g6 : W0.cell? ⟨w.heap.size, 6, none⟩ = some (.slice G.t6.A G.t6.rs.length G.t6.c) := hP.bg.cell 6 rfl
  have g7 : W0.cell? ⟨w.heap.size, 7, none⟩ = some (.slice G.t7.A G.t7.rs.length G.t7.c) := hP.bg.cell 7 rfl
  have g8 : W0.cell? ⟨w.heap.size, 8, none⟩ = some (.slice G.t8.A G.t8.rs.length G.t8.c) := hP.bg.cell 8 rfl
  have g9 : W0.cell? ⟨w.heap.size, 9, none⟩ = some (.slice G.t9.A G.t9.rs.length G.t9.c) := hP.bg.cell 9 rfl
  have gj : W0.cell? ⟨w.heap.size + 1 + 1, 1, none⟩ = some (.int .u8 3) := hP.bj.cell 1 rfl
  go_wp2_with fail
  clear g0 g1 g2 g6 g7 g8 g9 gj
  refine (put_step w _ G Aon con on p 3 _ (hP.keep ((Ext.refl _).alloc _)) HN.out hol HNE.out 1 true false [G.t0, G.t2] (List.forall_mem_cons.2 ⟨HG.out.k0, (List.forall_mem_cons.2 ⟨HG.out.k2, (fun _ h => by cases h)⟩)⟩) (by simp) (by
   simp only [List.length_append, List.length_nil]
   omega) W0.heap.size 2 (Blk.newAt W0 [.slice G.t0.A G.t0.rs.length G.t0.c, .slice G.t2.A G.t2.rs.length G.t2.c] _ _ rfl) hP.big (fun v hv => hP.fresh _ v hv)).mono ?_
  rintro e W1 ⟨⟨v0, rfl⟩, hP1⟩
  clear hP
  have hP := hP1
  clear hP1
  have g0 : W1.cell? ⟨w.heap.size, 0, none⟩ = some (.slice G.t0.A G.t0.rs.length G.t0.c) := hP.bg.cell 0 rfl
  have g1 : W1.cell? ⟨w.heap.size, 1, none⟩ = some (.slice G.t1.A G.t1.rs.length G.t1.c) := hP.bg.cell 1 rfl
  have g2 : W1.cell? ⟨w.heap.size, 2, none⟩ = some (.slice G.t2.A G.t2.rs.length G.t2.c) := hP.bg.cell 2 rfl
  have g6 : W1.cell? ⟨w.heap.size, 6, none⟩ = some (.slice G.t6.A G.t6.rs.length G.t6.c) := hP.bg.cell 6 rfl
  have g7 : W1.cell? ⟨w.heap.size, 7, none⟩ = some (.slice G.t7.A G.t7.rs.length G.t7.c) := hP.bg.cell 7 rfl
  have g8 : W1.cell? ⟨w.heap.size, 8, none⟩ = some (.slice G.t8.A G.t8.rs.length G.t8.c) := hP.bg.cell 8 rfl
  have g9 : W1.cell? ⟨w.heap.size, 9, none⟩ = some (.slice G.t9.A G.t9.rs.length G.t9.c) := hP.bg.cell 9 rfl
  have gj : W1.cell? ⟨w.heap.size + 1 + 1, 1, none⟩ = some (.int .u8 3) := hP.bj.cell 1 rfl
  go_wp2_with fail
  clear g0 g1 g2 g6 g7 g8 g9 gj
  refine (put_step w _ G Aon con on p 3 _ (hP.keep ((Ext.refl _).alloc _)) HN.out hol HNE.out 1 false false [G.t1] (List.forall_mem_cons.2 ⟨HG.out.k1, (fun _ h => by cases h)⟩) (by simp) (by
   simp only [List.length_append, List.length_nil]
   have b0 := HB.out 1 true false [G.t0, G.t2] (List.forall_mem_cons.2 ⟨HG.out.k0, (List.forall_mem_cons.2 ⟨HG.out.k2, (fun _ h => by cases h)⟩)⟩)
   simp only [List.length_cons, List.length_nil] at b0
   omega) W1.heap.size 1 (Blk.newAt W1 [.slice G.t1.A G.t1.rs.length G.t1.c] _ _ rfl) hP.big (fun v hv => hP.fresh _ v hv)).mono ?_
  rintro e W2 ⟨⟨v1, rfl⟩, hP1⟩
  clear hP
  have hP := hP1
  clear hP1
  have g0 : W2.cell? ⟨w.heap.size, 0, none⟩ = some (.slice G.t0.A G.t0.rs.length G.t0.c) := hP.bg.cell 0 rfl
  have g1 : W2.cell? ⟨w.heap.size, 1, none⟩ = some (.slice G.t1.A G.t1.rs.length G.t1.c) := hP.bg.cell 1 rfl
  have g2 : W2.cell? ⟨w.heap.size, 2, none⟩ = some (.slice G.t2.A G.t2.rs.length G.t2.c) := hP.bg.cell 2 rfl
  have g6 : W2.cell? ⟨w.heap.size, 6, none⟩ = some (.slice G.t6.A G.t6.rs.length G.t6.c) := hP.bg.cell 6 rfl
  have g7 : W2.cell? ⟨w.heap.size, 7, none⟩ = some (.slice G.t7.A G.t7.rs.length G.t7.c) := hP.bg.cell 7 rfl
  have g8 : W2.cell? ⟨w.heap.size, 8, none⟩ = some (.slice G.t8.A G.t8.rs.length G.t8.c) := hP.bg.cell 8 rfl
  have g9 : W2.cell? ⟨w.heap.size, 9, none⟩ = some (.slice G.t9.A G.t9.rs.length G.t9.c) := hP.bg.cell 9 rfl
  have gj : W2.cell? ⟨w.heap.size + 1 + 1, 1, none⟩ = some (.int .u8 3) := hP.bj.cell 1 rfl
  go_wp2_with fail
  clear g0 g1 g2 g6 g7 g8 g9 gj
  refine (put_step w _ G Aon con on p 3 _ (hP.keep ((Ext.refl _).alloc _)) HN.out hol HNE.out 2 true false [G.t6] (List.forall_mem_cons.2 ⟨HG.out.k6, (fun _ h => by cases h)⟩) (by simp) (by
   simp only [List.length_append, List.length_nil]
   have b0 := HB.out 1 true false [G.t0, G.t2] (List.forall_mem_cons.2 ⟨HG.out.k0, (List.forall_mem_cons.2 ⟨HG.out.k2, (fun _ h => by cases h)⟩)⟩)
   simp only [List.length_cons, List.length_nil] at b0
   have b1 := HB.out 1 false false [G.t1] (List.forall_mem_cons.2 ⟨HG.out.k1, (fun _ h => by cases h)⟩)
   simp only [List.length_cons, List.length_nil] at b1
   omega) W2.heap.size 1 (Blk.newAt W2 [.slice G.t6.A G.t6.rs.length G.t6.c] _ _ rfl) hP.big (fun v hv => hP.fresh _ v hv)).mono ?_
  rintro e W3 ⟨⟨v2, rfl⟩, hP1⟩
  clear hP
  have hP := hP1
  clear hP1
  have g0 : W3.cell? ⟨w.heap.size, 0, none⟩ = some (.slice G.t0.A G.t0.rs.length G.t0.c) := hP.bg.cell 0 rfl
  have g1 : W3.cell? ⟨w.heap.size, 1, none⟩ = some (.slice G.t1.A G.t1.rs.length G.t1.c) := hP.bg.cell 1 rfl
  have g2 : W3.cell? ⟨w.heap.size, 2, none⟩ = some (.slice G.t2.A G.t2.rs.length G.t2.c) := hP.bg.cell 2 rfl
  have g6 : W3.cell? ⟨w.heap.size, 6, none⟩ = some (.slice G.t6.A G.t6.rs.length G.t6.c) := hP.bg.cell 6 rfl
  have g7 : W3.cell? ⟨w.heap.size, 7, none⟩ = some (.slice G.t7.A G.t7.rs.length G.t7.c) := hP.bg.cell 7 rfl
  have g8 : W3.cell? ⟨w.heap.size, 8, none⟩ = some (.slice G.t8.A G.t8.rs.length G.t8.c) := hP.bg.cell 8 rfl
  have g9 : W3.cell? ⟨w.heap.size, 9, none⟩ = some (.slice G.t9.A G.t9.rs.length G.t9.c) := hP.bg.cell 9 rfl
  have gj : W3.cell? ⟨w.heap.size + 1 + 1, 1, none⟩ = some (.int .u8 3) := hP.bj.cell 1 rfl
  go_wp2_with fail
  clear g0 g1 g2 g6 g7 g8 g9 gj
  refine (put_step w _ G Aon con on p 3 _ (hP.keep ((Ext.refl _).alloc _)) HN.out hol HNE.out 3 true true [G.t7, G.t8, G.t9] (List.forall_mem_cons.2 ⟨HG.out.k7, (List.forall_mem_cons.2 ⟨HG.out.k8, (List.forall_mem_cons.2 ⟨HG.out.k9, (fun _ h => by cases h)⟩)⟩)⟩) (by simp) (by
   simp only [List.length_append, List.length_nil]
   have b0 := HB.out 1 true false [G.t0, G.t2] (List.forall_mem_cons.2 ⟨HG.out.k0, (List.forall_mem_cons.2 ⟨HG.out.k2, (fun _ h => by cases h)⟩)⟩)
   simp only [List.length_cons, List.length_nil] at b0
   have b1 := HB.out 1 false false [G.t1] (List.forall_mem_cons.2 ⟨HG.out.k1, (fun _ h => by cases h)⟩)
   simp only [List.length_cons, List.length_nil] at b1
   have b2 := HB.out 2 true false [G.t6] (List.forall_mem_cons.2 ⟨HG.out.k6, (fun _ h => by cases h)⟩)
   simp only [List.length_cons, List.length_nil] at b2
   omega) W3.heap.size 3 (Blk.newAt W3 [.slice G.t7.A G.t7.rs.length G.t7.c, .slice G.t8.A G.t8.rs.length G.t8.c, .slice G.t9.A G.t9.rs.length G.t9.c] _ _ rfl) hP.big (fun v hv => hP.fresh _ v hv)).mono ?_
  rintro e W4 ⟨⟨v3, rfl⟩, hP1⟩
  clear hP
  have hP := hP1
  clear hP1
  have gj : W4.cell? ⟨w.heap.size + 1 + 1, 1, none⟩ = some (.int .u8 3) := hP.bj.cell 1 rfl
  obtain ⟨v, bv, ov, _⟩ := hP.box
  have cv := bv.cell
  go_wp2_with fail
  go_ret
  refine ⟨_, rfl, ?_, hP.bel⟩
  simpa using ov
end Go.Proofs.Ytclgclcoblfddaa
namespace Go.Proofs.Ytclgclcoblfddaa
open Go.RowKit Go.Proofs.YtclgclcoblfddaaW.PrintWords
set_option linter.unusedVariables false
set_option linter.unusedSimpArgs false
def cellsK {α : Type} (en : α → List Value) (l : List α) : List Value := l.flatMap en
section
variable {α : Type} {en : α → List Value} {k : Nat} (hen : ∀ x, (en x).length = k)
include hen
theorem cellsK_take (l : List α) (m : Nat) : cellsK en (l.take m) = (cellsK en l).take (m * k) := by
 induction l generalizing m with
 | nil => simp [cellsK]
 | cons a l ih =>
  have e : ∀ l, cellsK en (a :: l) = en a ++ cellsK en l := fun _ => rfl
  cases m with
  | zero => simp [cellsK]
  | succ m =>
   rw [List.take_succ_cons, e, e, ih, List.take_append, hen, List.take_of_length_le (l := en a) (by rw [hen, Nat.succ_mul]; omega), show (m + 1) * k - k = m * k by rw [Nat.succ_mul]; omega]
end
theorem Owns.whole {w : World} {base : Nat} {e : TypeId} {k : Nat} {v : Value} {n : Nat} {xs : List Value} (h : w.ownsRow base e k v n xs) (hn : 0 < n) : ∃ g cap rest, v = .slice (some ⟨g, 0, none⟩) n cap ∧ base ≤ g ∧ g < w.heap.size ∧ n ≤ cap ∧ xs.length = n * k ∧ (xs ++ rest).length = cap * k ∧ Blk w g (xs ++ rest) e ∧ cap ≤ maxLen := by
 obtain ⟨h1, h2⟩ := h
 rcases h2 with ⟨_, h0⟩ | ⟨g, cap, cur, rfl, p1, p2, p3, p4, p5, p6⟩
 ·omega
 ·refine ⟨g, cap, cur.toList.drop (n * k), rfl, p1, (Array.getElem?_eq_some_iff.1 p2).1, p3, h1, ?_, ?_, p4⟩
  ·rw [← p6, List.take_append_drop, Array.length_toList, p5]
  ·unfold Blk
   rw [← p6, List.take_append_drop]
   exact p2
theorem Owns.ofBlk {w : World} {base : Nat} {e : TypeId} {k g n cap : Nat} {xs rest : List Value} (hb : Blk w g (xs ++ rest) e) (hg : base ≤ g) (hn : n ≤ cap) (hx : xs.length = n * k) (hl : (xs ++ rest).length = cap * k) (hcap : cap ≤ maxLen) : w.ownsRow base e k (.slice (some ⟨g, 0, none⟩) n cap) n xs :=
 ⟨hx, .inr ⟨g, cap, (xs ++ rest).toArray, rfl, hg, hb, hn, hcap, by simpa using hl, by rw [List.toList_toArray, ← hx]; simp⟩⟩
end Go.Proofs.Ytclgclcoblfddaa
namespace Go.Proofs.Ytclgclcoblfddaa
open Go.RowKit Go.Shelf
set_option linter.unusedVariables false
set_option linter.unusedSimpArgs false
theorem rowG7 (G : G7) : isRowT Try.prog 24 G.cs.length := ⟨by kernel_rfl, by kernel_rfl⟩
theorem Tb.ok.ext {W W' : World} {b : Tb} (h : b.ok W) (hx : Ext W W') : b.ok W' := ⟨h.1.ext hx, h.2⟩
theorem G7.ok.ext {W W' : World} {G : G7} (h : G.ok W) (hx : Ext W W') : G.ok W' := ⟨h.k0.ext hx, h.k1.ext hx, h.k2.ext hx, h.k6.ext hx, h.k7.ext hx, h.k8.ext hx, h.k9.ext hx⟩
theorem plPut_le (on : List Bool) (u t : Int) (m only : Bool) (W : World) (tbs : List Tb) (h : ∀ tb ∈ tbs, tb.ok W) : (Zeb on u t m only (tbs.map Tb.l)).length ≤ tbs.length * 1000 := by
 have := plPut_length on u t m only 1000 (tbs.map Tb.l) (by
  intro tb htm r hr
  obtain ⟨tb', h1, rfl⟩ := List.mem_map.1 htm
  obtain ⟨r', h2, rfl⟩ := List.mem_map.1 hr
  exact (h tb' h1).2.2 r' h2)
 simpa using this
def Zcc (g : GL) (on : List Bool) (j : Jb) : List It := pullsL g on j.1 j.2
theorem pullJ_len {W : World} {G : G7} (h : G.ok W) (on : List Bool) (j : Jb) : (Zcc G.l on j).length ≤ 7000 := by
 unfold Zcc pullsL
 split
 ·have h1 := plPut_le on j.1 1 true false W [G.t0, G.t2] (List.forall_mem_cons.2 ⟨h.k0, List.forall_mem_cons.2 ⟨h.k2, fun _ h => by cases h⟩⟩)
  have h2 := plPut_le on j.1 1 false false W [G.t1] (List.forall_mem_cons.2 ⟨h.k1, fun _ h => by cases h⟩)
  have h3 := plPut_le on j.1 2 true false W [G.t6] (List.forall_mem_cons.2 ⟨h.k6, fun _ h => by cases h⟩)
  have h4 := plPut_le on j.1 j.2 true true W [G.t7, G.t8, G.t9] (List.forall_mem_cons.2 ⟨h.k7, List.forall_mem_cons.2 ⟨h.k8, List.forall_mem_cons.2 ⟨h.k9, fun _ h => by cases h⟩⟩⟩)
  simp only [List.map_cons, List.map_nil, List.length_cons, List.length_nil] at h1 h2 h3 h4
  have e : G.l = ⟨G.t0.l, G.t1.l, G.t2.l, G.t6.l, G.t7.l, G.t8.l, G.t9.l⟩ := rfl
  rw [e]
  simp only [List.length_append]
  have k1 : (if j.2 = 2 then ([] : List It) else Zeb on j.1 1 true false [G.t0.l, G.t2.l] ++ Zeb on j.1 1 false false [G.t1.l] ++ Zeb on j.1 2 true false [G.t6.l]).length ≤ 4000 := by
   split
   ·simp
   ·simp only [List.length_append]; omega
  have k2 : (if j.2 = 1 then ([] : List It) else Zeb on j.1 j.2 true true [G.t7.l, G.t8.l, G.t9.l]).length ≤ 3000 := by
   split
   ·simp
   ·omega
  omega
 ·simp
theorem RdJ.kp {W W' : World} {A : Option Addr} {l : List Jb} (h : RdJ W A l) (hk : ∀ a, A = some a → W'.heap[a.block]? = W.heap[a.block]?) : RdJ W' A l := by
 rcases h with h | ⟨b, o, rfl, h⟩
 ·exact .inl h
 ·refine .inr ⟨b, o, rfl, fun j u t e => ?_⟩
  have hb : W'.heap[b]? = W.heap[b]? := hk _ rfl
  have hc : ∀ (i : Nat) (v : Value), W.cell? ⟨b, i, none⟩ = some v → W'.cell? ⟨b, i, none⟩ = some v := fun i v hv => by rw [← hv]; simp [World.cell?, hb]
  exact ⟨hc _ _ (h j u t e).1, hc _ _ (h j u t e).2⟩
theorem RdI.kp {W W' : World} {A : Option Addr} {l : List It} (h : RdI W A l) (hk : ∀ a, A = some a → a.block < W.heap.size → W'.heap[a.block]? = W.heap[a.block]?) : RdI W' A l := by
 rcases h with h | ⟨b, o, rfl, h⟩
 ·exact .inl h
 ·refine .inr ⟨b, o, rfl, fun j u t m e => ?_⟩
  have hlt : b < W.heap.size := World.cell?_lt (h j u t m e).1
  have hb : W'.heap[b]? = W.heap[b]? := hk _ rfl hlt
  have hc : ∀ (i : Nat) (v : Value), W.cell? ⟨b, i, none⟩ = some v → W'.cell? ⟨b, i, none⟩ = some v := fun i v hv => by rw [← hv]; simp [World.cell?, hb]
  exact ⟨hc _ _ (h j u t m e).1, hc _ _ (h j u t m e).2.1, hc _ _ (h j u t m e).2.2⟩
theorem Owns.takeJ {w : World} {base : Nat} {e : TypeId} {A : Option Addr} {c : Nat} {l : List Jb} (h : w.ownsRow base e 2 (.slice A l.length c) l.length (Zcr l)) {m : Nat} (hm : m ≤ l.length) : w.ownsRow base e 2 (.slice A m c) (l.take m).length (Zcr (l.take m)) := by
 have hlen : (l.take m).length = m := by rw [List.length_take]; omega
 have hc : Zcr (l.take m) = (Zcr l).take (m * 2) := cellsK_take (k := 2) (fun _ => rfl) l m
 rw [hlen]
 obtain ⟨h1, h2⟩ := h
 refine ⟨by rw [cellsJ_length, hlen], ?_⟩
 rcases h2 with ⟨e1, e2⟩ | ⟨g, cap, cur, e1, p1, p2, p3, p4, p5, p6⟩
 ·injection e1 with a1 a2 a3
  subst a1 a3
  left
  have : m = 0 := by omega
  subst this
  exact ⟨rfl, rfl⟩
 ·cases e1
  refine .inr ⟨g, c, cur, rfl, p1, p2, by omega, p4, p5, ?_⟩
  rw [hc, ← p6, List.take_take]
  congr 1
  omega
set_option maxRecDepth 100000 in
set_option maxHeartbeats 8000000 in
theorem spoilt_calls (w : World) (G : G7) (Aon : Option Addr) (con : Nat) (on : List Bool) (ban : List Jb) (Ab : Option Addr) (cb : Nat) (all : List Jb) (Aa : Option Addr) (ca : Nat)
  (hG : G.ok w) (hob : RdV w Aon (on.map .bool)) (hol : on.length ≤ 1000) (hb : RdJ w Ab ban) (hbl : ban.length ≤ 10000) (ha : RdJ w Aa all) (hal : all.length ≤ 10000) :
  Calls Try.prog 47 #[.agg G.cs.toArray, .slice Aon on.length con, .slice Ab ban.length cb, .slice Aa all.length ca] w
   fun e w' => ∃ b, e = .returned (.map (some b)) ∧ w.heap.size ≤ b ∧ SetM w' b (fun k => decide (k ∈ Zdy (Zcc G.l on) ban all)) ∧ Ext w w' := by
 have HS1 := Lib.hid (fun W (hx : Ext w W) => setOf_calls ban Ab cb W (hb.ext hx) (by omega))
 have HS2 := Lib.hid (fun W (hx : Ext w W) => setOf_calls all Aa ca W (ha.ext hx) (by omega))
 have HLN := Lib.hid (fun j => pullJ_len hG on j)
 have HPL0 := Lib.hid (fun W (hx : Ext w W) u t => pulls_calls W G Aon con on u t (hG.ext hx) (hob.ext hx) hol)
 obtain ⟨P, hP⟩ : ∃ P, Zcc G.l on = P := ⟨_, rfl⟩
 have HPL := Lib.hid (show ∀ W, Ext w W → ∀ u t, Calls Try.prog 24 #[.agg G.cs.toArray, .slice Aon on.length con, .agg #[.int .i64 u, .int .u8 t]] W
   fun e w' => ∃ v, e = .returned v ∧ w'.ownsRow W.heap.size 55 3 v (P (u, t)).length (Zcq (P (u, t))) ∧ Below W.heap.size W w' from fun W hx u t => by rw [← hP]; exact HPL0.out W hx u t)
 rw [hP] at HLN ⊢
 clear hG hob hb ha hP HPL0
 obtain ⟨B, hB⟩ : ∃ B, w.heap.size = B := ⟨_, rfl⟩
 go_enter Try.func47, Try.ntmps47
 have hmm := @run_makeMap Try.prog
 go_upto_region 2 with (go_at_call 70; refine (HS1.out _ ((Ext.refl w).alloc _)).mono ?_; rintro e W0 ⟨b0, rfl, hb0, hs0, hx0⟩)
 have hbg : Blk W0 B G.cs 24 := (Blk.newAt w G.cs _ _ hB.symm).ext hx0
 have hxw : Ext w W0 := ((Ext.refl w).alloc _).trans hx0
 rw [World.size_alloc] at hb0
 clear hx0 HS1
 go_upto_region 3 with (fail)
 refine Zep (fun W => RMap encJ W W0.heap.size ([] : List ((Int × Int) × Value)) ∧ Ext W0 W) ⟨RMap.made encJ W0, (Ext.refl W0).alloc _⟩ ?_
 rintro W1 ⟨m1, x1⟩
 clear hmm
 have hb01 : b0 < W0.heap.size := hs0.lt
 obtain ⟨b1, hb1⟩ : ∃ b1, W0.heap.size = b1 := ⟨_, rfl⟩
 rw [hb1] at m1 hb01 ⊢
 have hB1 : B ≤ b1 := by have := hxw.size; omega
 replace hs0 := hs0.ext x1
 replace hbg := hbg.ext x1
 replace hxw := hxw.trans x1
 clear x1 hb1
 go_wp2_with (first | (go_at_call 70; refine (HS2.out _ hxw).mono ?_; rintro e W2 ⟨b2, rfl, hb2, hs2, hx2⟩; obtain ⟨es2, m2, fm2⟩ := hs2) | (refine wpList_range rfl (.tmp 22) 87 3 rfl Try.underlying87 b2 es2 rfl m2 ?_; rintro W3 m3 r3 x3 s3; go_simp))
 have hb12 : b1 < b2 := by have := m1.lt; omega
 have x13 := hx2.trans x3
 replace m1 := m1.ext x13
 replace hs0 := hs0.ext x13
 replace hbg := hbg.ext x13
 replace hxw := hxw.trans x13
 obtain ⟨r, hr⟩ : ∃ r, W2.heap.size = r := ⟨_, rfl⟩
 have hbr : b2 < r := by have := m2.lt; omega
 rw [hr] at r3 ⊢
 have hks : ∀ k, k ∈ es2.map (·.1) ↔ k ∈ all := fun k => by rw [fm2.mem]; unfold one?; by_cases h : k ∈ all <;> simp [h]
 have hel : es2.length ≤ all.length := fm2.length all fun k hk => by unfold one? at hk; by_cases h : k ∈ all <;> simp [h] at hk ⊢
 clear x13 hx2 x3 s3 m2 hb2 HS2 fm2 hr
 go_loopw [11] (fun _ wr => ∃ (seen : List Nat) (es : List (Jb × Value)) (g : Jb → Option Value), RMap encJ wr b2 es2 ∧ Zfc wr r b2 es2.length seen ∧ seen.Nodup ∧ (∀ i ∈ seen, i < es2.length) ∧ seen.length ≤ es2.length ∧
   ByM wr B b1 (fun _ => True) ((Zdg es2 seen).foldl (byF P) (fun _ => [])) es g ∧ SetM wr b0 (fun k => decide (k ∈ ban)) ∧ Blk wr B G.cs 24 ∧ Ext w wr)
  (fun _ wr => es2.length - came wr r)
 case atStart =>
  exact ⟨[], [], _, m3, r3, List.nodup_nil, (fun i hi => by cases hi), Nat.zero_le _, ByM.nil m1, hs0, hbg, hxw⟩
 case round =>
  clear hbg hxw hs0 m1 m3 r3
  obtain ⟨seen, es, g, hmp, hit, hnd, hlt, hsl, hby, hs0, hbg, hxw⟩ := hrel
  go_wp2_with (first | (refine wpList_next rfl (.tmp 23) rfl b2 r es2 seen rfl hmp hit ?_ ?_))
  ·intro hall
   go_simp
   have hperm := keysAt_all hnd hlt hall
   have hmemk : ∀ y, y ∈ Zdg es2 seen ↔ y ∈ all := fun y => by rw [hperm.mem_iff]; exact hks y
   have hfm : ∀ x y, y ∈ (Zdg es2 seen).foldl (byF P) (fun _ => []) x ↔ y ∈ backE P all x := fun x y => by
    rw [byAll_mem, Zdv, Zdv, hmemk]; simp
   have hflen : ∀ (k : Jb) (ks : List Jb) (f : Jb → List Jb), (ks.foldl (byF P) f k).length ≤ (f k).length + ks.length * 7000 := fun k => byAll_len HLN.out
   have hkl : (Zdg es2 seen).length ≤ 10000 := by rw [Zdt hlt]; omega
   have hf0 : ∀ k, ((Zdg es2 seen).foldl (byF P) (fun _ => []) k).length ≤ 70000000 := fun k => by
    have := hflen k (Zdg es2 seen) (fun _ => [])
    simp only [List.length_nil] at this
    omega
   obtain ⟨E, hE⟩ : ∃ E, (Zdg es2 seen).foldl (byF P) (fun _ => []) = E := ⟨_, rfl⟩
   rw [hE] at hfm hf0 hby
   have HFM := Lib.hid hfm
   have HF0 := Lib.hid hf0
   obtain ⟨es0, m0, fm0⟩ := hs0
   have h0k : ∀ k, k ∈ es0.map (·.1) ↔ k ∈ ban := fun k => by rw [fm0.mem]; unfold one?; by_cases h : k ∈ ban <;> simp [h]
   have h0l : es0.length ≤ ban.length := fm0.length ban fun k hk => by unfold one? at hk; by_cases h : k ∈ ban <;> simp [h] at hk ⊢
   have hb0w : b0 < wr.heap.size := m0.lt
   have hbx : wr.heap.size < (wr.alloc (.cells #[.map (some b0)] 87)).heap.size := by rw [World.size_alloc]; omega
   have hC := Lib.hid (collectS_calls wr.heap.size b0 es0 (wr.alloc (.cells #[.map (some b0)] 87)) hbx ((Blk.new wr [.map (some b0)] 87).cell 0 rfl) (m0.ext ((Ext.refl wr).alloc _)) (by omega))
   clear hmp hit hnd hlt hsl hperm hmemk hflen hkl hE hall hf0 hfm hbg
   go_wp2_with (first | (go_at_call 71; refine (keysS_f b0 _).mono ?_; rintro e w' ⟨rfl, rfl⟩) | (go_at_call 44; refine hC.out.mono ?_; rintro e Wc ⟨vt, ss, rfl, hss, hrow, hbl⟩))
   obtain ⟨C0, hC0⟩ : ∃ C0, (wr.alloc (.cells #[.map (some b0)] 87)).heap.size = C0 := ⟨_, rfl⟩
   rw [hC0] at hrow hbl
   rw [World.size_alloc] at hC0
   have hxc : Ext wr Wc := Ext.trans ((Ext.refl wr).alloc _) (by rw [← World.size_alloc wr (.cells #[.map (some b0)] 87)] at hC0; rw [← hC0] at hbl; exact hbl)
   have hxwc : Ext w Wc := Ext.trans hxw hxc
   have hbyc := hby.ext hxc
   have hCs : C0 ≤ Wc.heap.size := by have := hbl.size; rw [World.size_alloc] at this; omega
   have hs0c : SetM Wc b0 (fun k => decide (k ∈ ban)) := ⟨es0, m0.ext hxc, fm0⟩
   have hmr : ∀ x, x ∈ ban ↔ x ∈ ss := fun x => by rw [← h0k, hss.mem_iff]
   have hssl : ss.length ≤ 10000 := by rw [hss.length_eq, List.length_map]; omega
   have hfree : free all (fun k => decide (k ∈ ban)) ≤ 10000 := Nat.le_trans (List.length_filter_le _ _) hal
   have hrl : ∀ x, (∃ k v, g k = some v ∧ v.ownBlock = some x) → x < wr.heap.size := fun x hx => (hby.typedR hx).2.1
   have hrt : ∀ x, (∃ k v, g k = some v ∧ v.ownBlock = some x) → x ≠ b0 := fun x hx e => by
    obtain ⟨_, _, c, h3⟩ := hby.typedR hx
    rw [e] at h3
    unfold RMap at m0
    rw [m0] at h3
    cases h3
   have hEU : ∀ x y, y ∈ E x → y ∈ all := fun x y hy => (Zdv.1 ((HFM.out x y).1 hy)).1
   have hst0 : Stk E ban (fun k => decide (k ∈ ban)) ss none := Stk.first (fun x => by simp) (fun x hx => (hmr x).1 hx) (fun x hx => (hmr x).2 hx)
   have hb1w : b1 < wr.heap.size := hby.map.lt
   clear hss h0k h0l fm0 m0 hbx hC hby hxw hmr hxc hbl
   obtain ⟨μ, hμ⟩ := exists_least
   obtain ⟨RR, hRR⟩ : ∃ RR : Nat → Value → World → Prop, ∀ n tv W, RR n tv W ↔ ∃ (B' : Jb → Bool) (todo : List Jb), SetM W b0 B' ∧ W.ownsRow C0 32 2 tv todo.length (Zcr todo) ∧ Stk E ban B' todo none ∧ todo.length + free all B' = n ∧ n ≤ 20000 ∧
    (∀ x, x < C0 → x ≠ b0 → W.heap[x]? = Wc.heap[x]?) ∧ C0 ≤ W.heap.size ∧ Ext w W := ⟨_, fun _ _ _ => Iff.rfl⟩
   have HRR := Lib.hid hRR
   have HMU := Lib.hid hμ
   have hini : RR (ss.length + free all (fun k => decide (k ∈ ban))) vt Wc := (HRR.out _ _ _).2 ⟨_, ss, hs0c, hrow, hst0, rfl, by omega, fun _ _ _ => rfl, hCs, hxwc⟩
   clear hRR hμ hs0c hrow hst0 hssl hfree
   go_loopw [14] (fun tv W => ∃ n, RR n tv W) (fun tv W => μ (fun n => RR n tv W))
   case atStart => exact ⟨_, hini⟩
   case round =>
    clear hini hxwc
    obtain ⟨hr1, _⟩ := HMU.out _ hrel
    obtain ⟨N, hN⟩ : ∃ N, μ (fun n => RR n u14 wr) = N := ⟨_, rfl⟩
    rw [hN] at hr1
    have HLT := Lib.hid (show ∀ n' tv' W', RR n' tv' W' → n' < N → μ (fun n => RR n tv' W') < μ (fun n => RR n u14 wr) from fun n' tv' W' h1 h2 => by
     rw [hN]; exact Nat.lt_of_le_of_lt ((HMU.out _ ⟨n', h1⟩).2 n' h1) h2)
    obtain ⟨B', todo, hs0, hown, hst, hn, hn2, hkp, hsz, hxw⟩ := (HRR.out _ _ _).1 hr1
    clear hrel hr1 hN
    rcases List.eq_nil_or_concat todo with h0 | ⟨init, j, h0⟩
    ·subst h0
     have hfin : (fun k => decide (k ∈ Zdy P ban all)) = B' := by
      funext x
      have h1 := hst.fin x
      have h2 := spoil_mem (P := P) (ban := ban) (all := all) x
      have h3 : Rc E ban x ↔ Rc (backE P all) ban x := ⟨fun h => h.mono (fun _ h => h) fun x y hy => (HFM.out x y).1 hy, fun h => h.mono (fun _ h => h) fun x y hy => (HFM.out x y).2 hy⟩
      cases hb : B' x with
      | true => exact decide_eq_true (h2.2 (h3.1 (h1.1 hb)))
      | false => exact decide_eq_false fun h => by rw [h1.2 (h3.2 (h2.1 h))] at hb; cases hb
     obtain ⟨A, cap, rfl, _, _, _⟩ := OwnsJ.rd hown
     rw [← hfin] at hs0
     have HS := Lib.hid hs0
     clear hs0 hfin hst
     go_wp2_with fail
     go_ret
     exact ⟨b0, rfl, by omega, HS.out, hxw⟩
    ·rw [List.concat_eq_append] at h0
     subst h0
     obtain ⟨gt, cap, rest, rfl, hg, hgl, hcap, hx2, hx3, hbk, hmax⟩ := Owns.whole hown (by simp)
     have hl1 : (init ++ [j]).length = init.length + 1 := by simp
     have hgj : (init ++ [j])[init.length]? = some j := by simp
     obtain ⟨uj, tj⟩ := j
     obtain ⟨hc1, hc2⟩ := cellsJ_get _ _ _ _ hgj
     have f1 : wr.cell? ⟨gt, init.length * 2, none⟩ = some (.int .i64 uj) := hbk.cell _ (by rw [List.getElem?_append_left (List.getElem?_eq_some_iff.1 hc1).1]; exact hc1)
     have f2 : wr.cell? ⟨gt, init.length * 2 + 1, none⟩ = some (.int .u8 tj) := hbk.cell _ (by rw [List.getElem?_append_left (List.getElem?_eq_some_iff.1 hc2).1]; exact hc2)
     have hown2 := Owns.takeJ (m := init.length) hown (by simp)
     rw [List.take_left' rfl] at hown2
     have hst2 := hst.pop
     have HMX := Lib.hid hmax
     have hcap' : init.length + 1 ≤ cap := by omega
     have HLN2 := Lib.hid hl1
     rw [hl1] at hn
     simp only [List.length_append, List.length_cons, List.length_nil, Nat.zero_add] at *
     clear hc1 hc2 hgj hbk hx2 hx3 hmax hown hst hcap
     have hil : (0 : Int) ≤ init.length := by omega
     have hil2 : (init.length : Int) + 1 - 1 = init.length := by omega
     go_upto_region 15 with (fail)
     refine Zep (fun W => Blk W wr.heap.size [.int .i64 uj, .int .u8 tj] 32 ∧ Ext wr W) ⟨Blk.newAt _ _ _ _ rfl, (Ext.refl wr).alloc _⟩ ?_
     rintro W1 ⟨hbq, hx1⟩
     obtain ⟨q, hq⟩ : ∃ q, wr.heap.size = q := ⟨_, rfl⟩
     rw [hq] at hbq ⊢
     have hs1 := hx1.size
     have hkp1 : ∀ x, x < C0 → x ≠ b0 → W1.heap[x]? = Wc.heap[x]? := fun x h1 h2 => (hx1.block x (by omega)).trans (hkp x h1 h2)
     have hby1 := hbyc.keepR (fun _ => True) (hkp1 b1 (by omega) (by omega)) (fun x hx => hkp1 x (by have := hrl x hx; omega) (hrt x hx)) (fun _ _ => trivial)
     have hlook := hby1.look uj tj
     have hget := hby1.get (uj, tj)
     have hgb : ∀ x, ((g (uj, tj)).getD (.slice none 0 0)).ownBlock = some x → x < C0 ∧ x ≠ b0 := fun x hx => by
      have : ∃ k v, g k = some v ∧ v.ownBlock = some x := by
       cases hgg : g (uj, tj) with
       | none => rw [hgg] at hx; cases hx
       | some y => rw [hgg] at hx; exact ⟨_, y, hgg, hx⟩
      exact ⟨by have := hrl x this; omega, hrt x this⟩
     obtain ⟨Aj, cj, hej, hcj, hrj, _⟩ := OwnsJ.rd hget
     rw [hej] at hlook hgb
     have hab : ∀ a, Aj = some a → a.block < C0 ∧ a.block ≠ b0 := fun a ha => hgb a.block (by rw [ha]; rfl)
     have hEl := HF0.out (uj, tj)
     replace hs0 := hs0.ext hx1
     replace hown2 := Owns.ext hown2 hx1
     replace hxw : Ext w W1 := Ext.trans hxw hx1
     have d0 := hbq.cell 0 rfl
     have d1 := hbq.cell 1 rfl
     obtain ⟨lj, hlj⟩ : ∃ lj, E (uj, tj) = lj := ⟨_, rfl⟩
     rw [hlj] at hst2 hrj hlook hcj hEl
     have HLJ := Lib.hid hlj
     have hCq : C0 ≤ q := by omega
     have hqW : q < W1.heap.size := hbq.lt
     clear hget hej hgb f1 f2 hkp hx1 hby1 hlj
     go_wp2_with fail
     go_loopw [70, 14] (fun iv tv W => ∃ (k : Nat) (B2 : Jb → Bool) (todo2 : List Jb), k ≤ lj.length ∧ iv = .int .i64 k ∧ SetM W b0 B2 ∧ W.ownsRow C0 32 2 tv todo2.length (Zcr todo2) ∧ Stk E ban B2 todo2 (some ((uj, tj), lj.drop k)) ∧ todo2.length + free all B2 + 1 ≤ N ∧
       (∀ x, x < C0 → x ≠ b0 → W.heap[x]? = Wc.heap[x]?) ∧ C0 ≤ W.heap.size ∧ Ext w W) (fun iv _ _ => lj.length - (RowKit.intOf iv).toNat)
     case atStart => exact ⟨0, B', init, by omega, rfl, hs0, hown2, hst2, by omega, hkp1, by omega, hxw⟩
     case round =>
      clear hs0 hown2 hst2 hxw
      obtain ⟨k, B2, todo2, hk, rfl, hs0, hown, hst, hn2', hkp, hsz2, hxw⟩ := hrel
      obtain ⟨At, ct, rfl, hct, _, hlow⟩ := OwnsJ.rd hown
      by_cases hlt : k < lj.length
      ·have hlti : (k : Int) < lj.length := by omega
       have hrj2 : RdJ wr Aj lj := hrj.kp fun a ha => (hkp a.block (hab a ha).1 (hab a ha).2).trans (hkp1 a.block (hab a ha).1 (hab a ha).2).symm
       obtain ⟨b9, o9, u2, t2, rfl, he, f1, f2⟩ := hrj2.at hlt
       have hdk : lj.drop k = (u2, t2) :: lj.drop (k + 1) := by
        rw [List.drop_eq_getElem_cons hlt]
        congr 1
        rw [List.getElem?_eq_getElem hlt] at he
        exact Option.some.inj he
       rw [hdk] at hst
       obtain ⟨hst1, hm1⟩ := hst.one hEU
       have hlook2 := (hs0.ext ((Ext.refl wr).alloc (.cells #[.int .i64 u2, .int .u8 t2] 32))).look u2 t2
       cases hB2 : B2 (u2, t2)
       ·have e1 : markOne (B2, todo2) (u2, t2) = (marked B2 (u2, t2), todo2 ++ [(u2, t2)]) := by unfold markOne; rw [if_neg (by simp [hB2])]
        rw [e1] at hst1 hm1
        rw [hB2] at hlook2
        simp only [Bool.false_eq_true, if_false] at hlook2
        have HS1 := Lib.hid hst1
        have HM1 := Lib.hid hm1
        obtain ⟨es1, m1, fm1⟩ := hs0
        have fm2 := fm1.put (u2, t2) (.int .i64 1)
        rw [one_put] at fm2
        have FM2 := Lib.hid fm2
        have hown1 := hown.alloc (.cells #[.int .i64 u2, .int .u8 t2] 32)
        have hb0C : b0 < C0 := by omega
        have hqk : wr.heap.size ≥ C0 := hsz2
        have hnb0 : ∀ x, (Value.slice At todo2.length ct).ownBlock = some x → C0 ≤ x := fun x hx => (hown.lt x hx).1
        clear hst1 hm1 hst hdk he hrj2 fm2 e1 hB2 hown
        go_wp2_with (first
         | (refine Zen keyJob rfl (.tmp 78) (.tmp 79) (.const (.int .i64 1)) 87 3 rfl Try.underlying87 b0 es1 rfl (m1.ext ((Ext.refl wr).alloc _)) (u2, t2) (.int .i64 1) rfl rfl ?_; rintro W8 m8 g8; have p0 := (Grown.blk g8 (Blk.newAt wr [.int .i64 u2, .int .u8 t2] 32 _ rfl) (fun e => by have := Option.some.inj e; omega)).cell 0 rfl; have p1 := (Grown.blk g8 (Blk.newAt wr [.int .i64 u2, .int .u8 t2] 32 _ rfl) (fun e => by have := Option.some.inj e; omega)).cell 1 rfl; have s8 := g8.size; rw [World.size_alloc] at s8)
         | (refine wpList_append_job rfl (.tmp 80) (.tmp 82) rfl C0 _ todo2 rfl ((Owns.kept hown1 g8 (fun k hk e => by have := hnb0 k hk; cases e; omega)).alloc _) W8.heap.size 1 u2 t2 rfl (Blk.newAt W8 _ _ _ rfl) (by omega) (by rw [World.size_alloc]; omega) ?_; rintro v' W9 o9' g9 d9))
        have s9 := g9.size
        rw [World.size_alloc] at s9
        have hkp9 : ∀ x, x < C0 → x ≠ b0 → W9.heap[x]? = Wc.heap[x]? := fun x h1 h2 =>
         (g9.block x (by rw [World.size_alloc]; omega) (fun e => by have := hnb0 x e.symm; omega)).trans ((Below.heap_alloc W8 _ x (by omega)).trans ((g8.block x (by rw [World.size_alloc]; omega) (fun e => h2 (Option.some.inj e))).trans ((Below.heap_alloc wr _ x (by omega)).trans (hkp x h1 h2))))
        have hset9 : SetM W9 b0 (marked B2 (u2, t2)) := ⟨_, (m8.ext ((Ext.refl W8).alloc _)).kept g9 (fun e => by have := hnb0 b0 e.symm; omega), FM2.out⟩
        have hxw8 : Ext w W8 := Below.grown (Ext.alloc hxw _) g8 (by rw [World.size_alloc]; omega) (fun k e => by cases e; omega)
        have hxw9 : Ext w W9 := Below.grown (Ext.alloc hxw8 _) g9 (by rw [World.size_alloc]; omega) (fun k e => by have := hnb0 k e; omega)
        have hmm := HM1.out
        have hsst := HS1.out
        go_roundw
        case rel => exact ⟨k + 1, _, _, by omega, by go_num, hset9, o9', hsst, by simp only [List.length_append, List.length_cons, List.length_nil] at hmm ⊢; omega, hkp9, by omega, hxw9⟩
        case measure => simp [RowKit.intOf]; omega
       ·have e1 : markOne (B2, todo2) (u2, t2) = (B2, todo2) := by unfold markOne; rw [if_pos hB2]
        rw [e1] at hst1
        rw [hB2] at hlook2
        simp only [if_true] at hlook2
        have HS1 := Lib.hid hst1
        have hs1' := hs0.ext ((Ext.refl wr).alloc (.cells #[.int .i64 u2, .int .u8 t2] 32))
        have hown1 := hown.alloc (.cells #[.int .i64 u2, .int .u8 t2] 32)
        have hkp9 : ∀ x, x < C0 → x ≠ b0 → (wr.alloc (.cells #[.int .i64 u2, .int .u8 t2] 32)).heap[x]? = Wc.heap[x]? := fun x h1 h2 => (Below.heap_alloc wr _ x (by omega)).trans (hkp x h1 h2)
        have hxw9 : Ext w (wr.alloc (.cells #[.int .i64 u2, .int .u8 t2] 32)) := Ext.alloc hxw _
        have hB1w : B ≤ wr.heap.size := by omega
        clear hst1 hm1 hst hdk he hrj2 e1 hB2 hown hs0
        go_wp2_with fail
        go_roundw
        case rel => exact ⟨k + 1, B2, todo2, by omega, by go_num, hs1', hown1, HS1.out, by omega, hkp9, by rw [World.size_alloc]; omega, hxw9⟩
        case measure => simp [RowKit.intOf]; omega
      ·obtain rfl : k = lj.length := by omega
       rw [List.drop_of_length_le (Nat.le_refl _)] at hst
       have hrr := (HRR.out (todo2.length + free all B2) _ _).2 ⟨B2, todo2, hs0, hown, hst.end, rfl, by omega, hkp, hsz2, hxw⟩
       have hlt2 := HLT.out _ _ _ hrr (by omega)
       clear hs0 hown hst hkp hxw hlow
       go_wp2_with fail
       go_roundw
       case rel => exact ⟨_, hrr⟩
       case measure => exact hlt2
  ·intro i u t v W4 hi hns hmp2 hit2 hg2 hs2 hen
   have hen' : (Instr.entry (.pointer (some ⟨r, 0, none⟩))).run Try.prog W4 = .ok (.tuple #[.agg #[.int .i64 u, .int .u8 t], v]) W4 := hen
   have hcm := Lib.hid hit.came
   have hlt2 : i < es2.length := (List.getElem?_eq_some_iff.1 hi).1
   have hlt3 : ∀ j ∈ seen ++ [i], j < es2.length := by
    intro j hj
    rcases List.mem_append.1 hj with h | h
    ·exact hlt j h
    ·rw [List.mem_singleton.1 h]; exact hlt2
   have hnd3 : (seen ++ [i]).Nodup := List.nodup_append.2 ⟨hnd, by simp, fun a ha b hb e => by rw [List.mem_singleton.1 hb] at e; exact hns (e ▸ ha)⟩
   have hsl3 : (seen ++ [i]).length ≤ es2.length := nodup_le _ hnd3 hlt3
   have hkey := keysAt_snoc (seen := seen) hi
   clear hen
   go_simp
   go_upto_region 6 with (fail)
   have hrby : ∀ q, (∃ k v, g k = some v ∧ v.ownBlock = some q) → W4.heap[q]? = wr.heap[q]? := fun q hq => by
    obtain ⟨_, h2, c, h3⟩ := hby.typedR hq
    refine hg2.block q h2 fun e => ?_
    cases e
    obtain ⟨_, _, h4⟩ := hit
    rw [h3] at h4
    cases h4
   have hb1r : b1 ≠ r := by omega
   have hb0r : b0 ≠ r := by omega
   have hBr : B ≠ r := by omega
   replace hby := hby.keepR (fun _ => True) (hg2.block b1 hby.map.lt (fun e => hb1r (Option.some.inj e))) hrby (fun _ _ => trivial)
   replace hs0 := hs0.kept hg2 (fun e => hb0r (Option.some.inj e))
   replace hbg := Grown.blk hg2 hbg (fun e => hBr (Option.some.inj e))
   replace hxw : Ext w W4 := Below.grown hxw hg2 hxw.size (fun k e => by cases e; omega)
   clear hit hmp hg2 hrby
   have hwq := hs2.symm
   refine Zep (fun W => Blk W wr.heap.size [.int .i64 u, .int .u8 t] 32 ∧ Ext W4 W) ⟨Blk.newAt _ _ _ _ hwq, (Ext.refl W4).alloc _⟩ ?_
   rintro W5 ⟨hbq, hx5⟩
   obtain ⟨q, hq⟩ : ∃ q, wr.heap.size = q := ⟨_, rfl⟩
   have hit2r := hit2
   have hrowq : ∀ x, (∃ k v, g k = some v ∧ v.ownBlock = some x) → x ≠ q ∧ x < W4.heap.size := fun x hx => by
    obtain ⟨_, h2, _⟩ := hby.typedR hx
    exact ⟨by omega, h2⟩
   replace hby := hby.ext hx5
   replace hs0 := hs0.ext hx5
   replace hbg := hbg.ext hx5
   replace hxw : Ext w W5 := hxw.trans hx5
   replace hmp2 := hmp2.ext hx5
   replace hit2 := hit2.ext hx5
   have hx5s := hx5.size
   rw [hq] at hbq ⊢
   have hqr : r < q := by
    obtain ⟨_, _, h4⟩ := hit2r
    have := (Array.getElem?_eq_some_iff.1 h4).1
    omega
   clear hit2r
   have e0 := hbq.cell 0 rfl
   have e1 := hbq.cell 1 rfl
   have HT := Lib.hid (rowG7 G)
   go_wp2_with (first | (refine Zcv rfl 24 (.tmp 4) rfl B rfl HT.out hbg ?_) | (go_at_call 24; refine (HPL.out _ hxw u t).mono ?_; rintro e W6 ⟨vp, rfl, hop, hx6⟩; obtain ⟨Ap, cp, rfl, hcp, hrp, hlp⟩ := OwnsI.rd hop))
   have hPN : (P (u, t)).length ≤ 7000 := HLN.out (u, t)
   obtain ⟨ps, hps⟩ : ∃ ps, P (u, t) = ps := ⟨_, rfl⟩
   rw [hps] at hcp hrp hPN ⊢
   have hfin : (Zdg es2 (seen ++ [i])).foldl (byF P) (fun _ => []) = ps.foldl (byAdd (u, t)) ((Zdg es2 seen).foldl (byF P) (fun _ => [])) := by
    rw [hkey, List.foldl_append, ← hps]; rfl
   have hflen : ∀ (k : Jb) (ks : List Jb) (f : Jb → List Jb), (ks.foldl (byF P) f k).length ≤ (f k).length + ks.length * 7000 := fun k => byAll_len HLN.out
   have hkl : (Zdg es2 seen).length ≤ 10000 := by rw [Zdt hlt]; omega
   have hf0 : ∀ k, ((Zdg es2 seen).foldl (byF P) (fun _ => []) k).length ≤ 70000000 := fun k => by
    have := hflen k (Zdg es2 seen) (fun _ => [])
    simp only [List.length_nil] at this
    omega
   obtain ⟨f0, hf⟩ : ∃ f0, (Zdg es2 seen).foldl (byF P) (fun _ => []) = f0 := ⟨_, rfl⟩
   rw [hf] at hfin hf0 hby
   have HFIN := Lib.hid hfin
   have HF0 := Lib.hid hf0
   clear hfin hflen hkl hf0 hkey hps hen' hi hns hlt hnd hsl
   have hW56 := hx6.size
   have hrW6 : ∀ x, (∃ k v, g k = some v ∧ v.ownBlock = some x) → x < W5.heap.size := fun x hx => Nat.lt_of_lt_of_le (hrowq x hx).2 hx5s
   replace hby := hby.ext hx6
   have hty6 := fun x (hx : ∃ k v, g k = some v ∧ v.ownBlock = some x) => (hby.typedR hx).2.2
   have hs06 := hs0.ext hx6
   have hbg6 := hbg.ext hx6
   have hxw6 : Ext w W6 := Ext.trans hxw hx6
   have hmp6 := hmp2.ext hx6
   have hit6 := hit2.ext hx6
   have hbq6 := hbq.ext hx6
   have hb1q : b1 < q := by omega
   have hqW5 : q < W5.heap.size := hbq.lt
   clear hs0 hbg hxw hmp2 hit2 hbq
   go_loopw [33] (fun iv W => ∃ (k : Nat) (es' : List (Jb × Value)) (g' : Jb → Option Value), k ≤ ps.length ∧ iv = .int .i64 k ∧ ByM W B b1 (fun x => (∃ k v, g k = some v ∧ v.ownBlock = some x) ∨ W6.heap.size ≤ x) ((ps.take k).foldl (byAdd (u, t)) f0) es' g' ∧
     (∀ x, x < W6.heap.size → x ≠ b1 → ¬ (∃ k v, g k = some v ∧ v.ownBlock = some x) → W.heap[x]? = W6.heap[x]?) ∧ W6.heap.size ≤ W.heap.size ∧ Ext w W) (fun iv _ => ps.length - (RowKit.intOf iv).toNat)
   case atStart => exact ⟨0, es, g, by omega, rfl, hby.keepR _ rfl (fun _ _ => rfl) (fun q hq => .inl hq), fun _ _ _ _ => rfl, Nat.le_refl _, hxw6⟩
   case round =>
    clear hby hxw6
    obtain ⟨k, es', g', hk, rfl, hby, hkp, hsz, hxw⟩ := hrel
    have hrp2 : RdI wr Ap ps := hrp.kp fun a ha hlt => hkp a.block hlt (fun e => by have := hlp a ha; omega) (fun hx => by have := hrW6 _ hx; have := hlp a ha; omega)
    have hq2 : Blk wr q [.int .i64 u, .int .u8 t] 32 := (hkp q (by omega) (by omega) (fun hx => (hrowq q hx).1 rfl)).trans hbq6
    by_cases hlt : k < ps.length
    ·have hlti : (k : Int) < ps.length := by omega
     obtain ⟨b9, o9, u2, t2, m2, rfl, he, f1, f2, f3⟩ := hrp2.at hlt
     have htk : ps.take (k + 1) = ps.take k ++ [⟨u2, t2, m2⟩] := by rw [List.take_succ_eq_append_getElem hlt]; congr 2; rw [List.getElem?_eq_getElem hlt] at he; exact Option.some.inj he
     have hstep : (ps.take (k + 1)).foldl (byAdd (u, t)) f0 = byAdd (u, t) ((ps.take k).foldl (byAdd (u, t)) f0) ⟨u2, t2, m2⟩ := by rw [htk, List.foldl_append]; rfl
     have hfk : ∀ x, ((ps.take k).foldl (byAdd (u, t)) f0 x).length ≤ 80000000 := fun x => by
      have h1 := byFold_len (j := (u, t)) (k := x) (ps.take k) f0
      have h2 := HF0.out x
      have h3 : (ps.take k).length ≤ 7000 := by rw [List.length_take]; omega
      omega
     obtain ⟨fk, hfk0⟩ : ∃ fk, (ps.take k).foldl (byAdd (u, t)) f0 = fk := ⟨_, rfl⟩
     rw [hfk0] at hstep hfk hby
     have HST := Lib.hid hstep
     have HFK := Lib.hid hfk
     clear htk hstep hfk hfk0 he hrp2
     have hxs := hxw.size
     go_upto_region 9 with (fail)
     refine Zep (fun W => Blk W wr.heap.size [.int .i64 u2, .int .u8 t2, .bool m2] 55 ∧ Ext wr W) ⟨Blk.newAt _ _ _ _ rfl, (Ext.refl wr).alloc _⟩ ?_
     rintro W7 ⟨hbp, hx7⟩
     have hkp7 : ∀ x, x < W6.heap.size → x ≠ b1 → ¬ (∃ k v, g k = some v ∧ v.ownBlock = some x) → W7.heap[x]? = W6.heap[x]? := fun x h1 h2 h3 => (hx7.block x (by omega)).trans (hkp x h1 h2 h3)
     have hs7 := hx7.size
     replace hby := hby.ext hx7
     replace hq2 := hq2.ext hx7
     replace hxw : Ext w W7 := Ext.trans hxw hx7
     obtain ⟨qp, hqp⟩ : ∃ qp, wr.heap.size = qp := ⟨_, rfl⟩
     rw [hqp] at hbp ⊢
     have e0 := hbp.cell 0 rfl
     have e1 := hbp.cell 1 rfl
     have e2 := hbp.cell 2 rfl
     have d0 := hq2.cell 0 rfl
     have d1 := hq2.cell 1 rfl
     clear f1 f2 f3 hkp
     cases m2
     ·have hs0' := HST.out
      have : byAdd (u, t) fk ⟨u2, t2, false⟩ = fk := rfl
      rw [this] at hs0'
      have HS0 := Lib.hid hs0'
      clear hs0'
      go_wp2_with fail
      go_roundw
      case rel => exact ⟨k + 1, es', g', by omega, by go_num, by rw [HS0.out]; exact hby, hkp7, by omega, hxw⟩
      case measure => simp [RowKit.intOf]; omega
     ·have hs0' := HST.out
      have : byAdd (u, t) fk ⟨u2, t2, true⟩ = fun x => if x = (u2, t2) then fk x ++ [(u, t)] else fk x := rfl
      rw [this] at hs0'
      have HS0 := Lib.hid hs0'
      clear hs0'
      have hget := hby.get (u2, t2)
      have hval : (valOf (u2, t2) es').getD (.slice none 0 0) = (g' (u2, t2)).getD (.slice none 0 0) := by rw [hby.fm.val]
      obtain ⟨vr, hvr⟩ : ∃ vr, (g' (u2, t2)).getD (.slice none 0 0) = vr := ⟨_, rfl⟩
      rw [hvr] at hget hval
      have hvb1 : vr.ownBlock ≠ some b1 := fun e => by
       have hh := hby.map
       obtain ⟨_, h2⟩ := hget
       rcases h2 with ⟨rfl, _⟩ | ⟨g9, cap, cur, rfl, p1, p2, p3⟩
       ·cases e
       ·cases e
        unfold RMap at hh
        rw [p2] at hh
        cases hh
      have HB := Lib.hid hby
      have HG := Lib.hid (hget.alloc (.cells #[.int .i64 u, .int .u8 t] 32))
      have hmap1 : RMap encJ (W7.alloc (.cells #[.int .i64 u, .int .u8 t] 32)) b1 es' := hby.map.ext ((Ext.refl W7).alloc _)
      have hb1lt := hby.map.lt
      have hBW7 : B ≤ W7.heap.size := by omega
      go_wp2_with (first
       | (refine wpList_entry keyJob rfl (.tmp 39) (.tmp 41) 113 36 rfl Try.underlying113 (zeroJs _) b1 es' rfl hmap1 (u2, t2) rfl ?_; rw [hval]; rintro W8 st m8 g8 c8)
       | (refine wpList_append_job rfl (.tmp 42) (.tmp 44) rfl B vr (fk (u2, t2)) rfl (Owns.kept HG.out g8 (fun k hk e => hvb1 (hk.trans e.symm))) W7.heap.size 1 u t rfl (Grown.blk g8 (Blk.newAt W7 _ _ _ rfl) (fun e => by have := Option.some.inj e; omega)) (by have := HFK.out (u2, t2); omega) (by have := g8.size; simp at this; omega) ?_; rintro v' W9 o9' g9 d9; obtain ⟨W10, run10, m10, g10⟩ := c8 W9 v' (m8.kept g9 (fun e => hvb1 e.symm)))
       | (refine wpList_entryStore rfl (.tmp 39) (.tmp 47) (.tmp 46) 113 rfl rfl rfl rfl run10 ?_))
      have hgx : ∀ x, vr.ownBlock = some x → g' (u2, t2) = some vr := fun x hx => by
       cases hgg : g' (u2, t2) with
       | none => rw [hgg] at hvr; subst hvr; cases hx
       | some y => rw [hgg] at hvr; rw [← hvr]; rfl
      have s8 := g8.size
      have s9 := g9.size
      have s10 := g10.size
      simp only [World.size_alloc] at s8
      have hkeep : ∀ x, x < W7.heap.size → x ≠ b1 → vr.ownBlock ≠ some x → W10.heap[x]? = W7.heap[x]? := fun x h1 h2 h3 =>
       (g10.block x (by omega) (fun e => h2 (Option.some.inj e))).trans ((g9.block x (by omega) (fun e => h3 e.symm)).trans ((g8.block x (by simp; omega) (fun e => h2 (Option.some.inj e))).trans (Below.heap_alloc W7 _ x h1)))
      have hst := HB.out.step (R' := fun x => (∃ k v, g k = some v ∧ v.ownBlock = some x) ∨ W6.heap.size ≤ x) (u2, t2) vr v' (fk (u2, t2) ++ [(u, t)]) hvr.symm m10
       (Owns.kept o9' g10 fun k hk e => by
        cases e
        rcases d9 _ hk with h | h
        ·exact hvb1 h
        ·omega)
       (fun k hk => (d9 k hk).imp_right (fun h => by omega)) hkeep (fun _ h => h) (fun q hq => .inr (by omega))
      have hfe : (fun x => if x = (u2, t2) then fk (u2, t2) ++ [(u, t)] else fk x) = fun x => if x = (u2, t2) then fk x ++ [(u, t)] else fk x := by
       funext x
       by_cases e : x = (u2, t2)
       ·subst e; rfl
       ·rw [if_neg e, if_neg e]
      rw [hfe, ← HS0.out] at hst
      have hxw8 : Ext w W8 := Below.grown (Ext.alloc hxw _) g8 (by rw [World.size_alloc]; omega) (fun k e => by cases e; omega)
      have hxw9 : Ext w W9 := Below.grown hxw8 g9 (by omega) (fun k e => by have := (hget.lt k e).1; omega)
      have hxw10 : Ext w W10 := Below.grown hxw9 g10 (by omega) (fun k e => by cases e; omega)
      have hkp10 : ∀ x, x < W6.heap.size → x ≠ b1 → ¬ (∃ k v, g k = some v ∧ v.ownBlock = some x) → W10.heap[x]? = W6.heap[x]? := fun x h1 h2 h3 =>
       (hkeep x (by omega) h2 (fun e => by
        rcases HB.out.off _ _ _ (hgx x e) e with h | h
        ·exact h3 h
        ·omega)).trans (hkp7 x h1 h2 h3)
      go_roundw
      case rel => exact ⟨k + 1, _, _, by omega, by go_num, hst, hkp10, by omega, hxw10⟩
      case measure => simp [RowKit.intOf]; omega
    ·obtain rfl : k = ps.length := by omega
     rw [List.take_of_length_le (Nat.le_refl _), ← HFIN.out] at hby
     have ht6 : ∀ (x : Nat) (o : Obj), W6.heap[x]? = some o → (∀ c, o ≠ .cells c 32 (0, 0)) → x ≠ b1 → wr.heap[x]? = W6.heap[x]? := fun x o h1 h2 hb => hkp x (Array.getElem?_eq_some_iff.1 h1).1 hb fun h3 => by
      obtain ⟨c, h4⟩ := hty6 x h3
      rw [h4] at h1
      cases h1
      exact h2 _ rfl
     obtain ⟨esb, hs1, hs2'⟩ := hs06
     have k0 : wr.heap[b0]? = W6.heap[b0]? := ht6 b0 _ hs1 (fun c e => by cases e) (by omega)
     have k2 : wr.heap[b2]? = W6.heap[b2]? := ht6 b2 _ hmp6 (fun c e => by cases e) (by omega)
     obtain ⟨cc, hcc, hit6'⟩ := hit6
     have kr : wr.heap[r]? = W6.heap[r]? := ht6 r _ hit6' (fun c e => by cases e) (by omega)
     have kB : wr.heap[B]? = W6.heap[B]? := ht6 B _ hbg6 (fun c e => by cases e) (by omega)
     have n2 : RMap encJ wr b2 es2 := k2.trans hmp6
     have nr : Zfc wr r b2 es2.length (seen ++ [i]) := ⟨cc, hcc, kr.trans hit6'⟩
     have n0 : SetM wr b0 (fun k => decide (k ∈ ban)) := ⟨esb, k0.trans hs1, hs2'⟩
     have nB : Blk wr B G.cs 24 := kB.trans hbg6
     have nby := hby.keepR (fun _ => True) rfl (fun _ _ => rfl) (fun _ _ => trivial)
     have hcm2 := nr.came
     clear hkp hrp2 hq2 hby hty6 ht6
     go_wp2_with fail
     go_roundw
     case rel => exact ⟨seen ++ [i], es', g', n2, nr, hnd3, hlt3, hsl3, nby, n0, nB, hxw⟩
     case measure =>
      rw [hcm2]
      have := hcm.out
      simp at hsl3 ⊢
      omega
end Go.Proofs.Ytclgclcoblfddaa
namespace Go.Proofs.Ytclgclcoblfddaa
open Go.RowKit Go.Shelf Go.Proofs.YtclgclcoblfddaaW.PrintWords
set_option linter.unusedVariables false
set_option linter.unusedSimpArgs false
theorem wpList_insert {α : Type} [DecidableEq α] {T : TypeId} {enc : α → Value} {w : World} {ops : Array Oper} {rest : List Oper} {o : Oper} {a : Act} {Q : Exit → Act → World → Prop} (K : KeyT T enc)
  (hg : o.guard = none) (m x v : Operand) (MT E : TypeId) (hop : o.op = Op.insert MT m x v) (ht : Try.prog.underlying MT = some (.map T E)) (b : Nat) (es : List (α × Value))
  (hm : a.eval m = .map (some b)) (hown : RMap enc w b es) (k : α) (c : Value) (hx : a.eval x = enc k) (hv : a.eval v = c)
  (hK : ∀ w', RMap enc w' b (putOf k c es) → w.grownBy w' (some b) → wpList Try.prog ops Q rest (a.put o.dst undef) w') :
  wpList Try.prog ops Q (o :: rest) a w := by
 refine wpList_plain hg fun K' hK' => ?_
 obtain ⟨w', hrun, r1, r2⟩ := hown.put K ht k c
 unfold Oper.wp
 simp [execOp, hop, hm, hx, hv, hrun, Result.andThen]
 exact hK' _ _ (hK w' r1 r2)
theorem Zeq {w : World} {ops : Array Oper} {rest : List Oper} {o : Oper} {a : Act} {Q : Exit → Act → World → Prop} (hgd : o.guard = none) (s x : Operand)
  (ho : o.op = .call { callee := .builtin .append, args := #[s, x], argTypes := #[36, 36] }) (base : Nat)
  (v : Value) (l : List Jb) (hs : a.eval s = v) (hown : QRow w base 32 2 v l.length (Zcr l))
  (g c : Nat) (u t : Int) (hx : a.eval x = .slice (some ⟨g, 0, none⟩) 1 c) (hc : Blk w g [.int .i64 u, .int .u8 t] 32)
  (hbig : l.length ≤ 100000000) (hbase : base ≤ w.heap.size)
  (h : ∀ v' w', QRow w' base 32 2 v' (l ++ [(u, t)]).length (Zcr (l ++ [(u, t)])) → w.grownBy w' v.ownBlock → (∀ k, v'.ownBlock = some k → v.ownBlock = some k ∨ w.heap.size ≤ k) → wpList Try.prog ops Q rest (a.put o.dst v') w') : wpList Try.prog ops Q (o :: rest) a w := by
 obtain ⟨i, hi, hz, hsz, hby⟩ := info_parts infoJob
 obtain ⟨v', w', hrun, h1, h2, h3⟩ := q_append (P := Try.prog) w base 36 o.type 32 i _ 2 16 Try.underlying36 hi hz hsz hby rfl (by decide) v l.length (Zcr l) hown ⟨g, 0, none⟩ 1 c [.int .i64 u, .int .u8 t] rfl (fun j y hj => by
  rw [add_at, Nat.zero_add]
  exact hc.cell j hj) (fun y hy => by
  simp only [List.mem_cons, List.not_mem_nil, or_false] at hy
  rcases hy with rfl | rfl <;> rfl) (by decide) (by unfold maxLen; omega) (by omega) hbase
 refine wpList_plain hgd fun K hK => ?_
 unfold Oper.wp
 simp [execOp, ho, resolve, invoke, builtin, hs, hx, hrun, Result.andThen]
 refine hK _ _ (h v' w' ?_ h2 (fun k hk => by
  rcases h3 with h3 | ⟨b, h3, h4⟩
  ·exact .inl (h3.symm.trans hk)
  ·rw [h3] at hk; cases hk; exact .inr h4))
 rw [cellsJ_snoc, List.length_append]
 exact h1
theorem QRow.pop {w : World} {base : Nat} {A : Option Addr} {c : Nat} {j : Jb} {l : List Jb} (h : QRow w base 32 2 (.slice A (j :: l).length c) (j :: l).length (Zcr (j :: l))) :
  ∃ g o, A = some ⟨g, o, none⟩ ∧ base ≤ g ∧ w.cell? ⟨g, o, none⟩ = some (.int .i64 j.1) ∧ w.cell? ⟨g, o + 1, none⟩ = some (.int .u8 j.2) ∧ l.length + 1 ≤ c ∧ QRow w base 32 2 (.slice (if c = 1 then A else some ⟨g, o + 2, none⟩) l.length (c - 1)) l.length (Zcr l) := by
 have hp : 0 < (j :: l).length := by simp
 obtain ⟨ad, rfl, hc⟩ := q_cells h hp
 have hd := q_drop (k := 1) h (by simp)
 have hty := Zfe h ad.block (by simp [Value.ownBlock])
 have hs : ad.spot = none := by
  have h0 := hc 0 (.int .i64 j.1) rfl
  have h1 := World.cell?_spot h0
  simpa [Addr.add] using h1
 obtain ⟨b, o, sp⟩ := ad
 simp only at hs
 subst hs
 have e1 : ((j :: l).length - 1) = l.length := by simp
 have e2 : (Zcr (j :: l)).drop (1 * 2) = Zcr l := rfl
 rw [e1, e2] at hd
 simp only [Option.map_some, add_at, Nat.one_mul] at hd
 have c0 := hc 0 (.int .i64 j.1) rfl
 have c1 := hc 1 (.int .u8 j.2) rfl
 rw [add_at] at c0 c1
 have hle : l.length + 1 ≤ c := by
  obtain ⟨_, _, e, hle⟩ := q_slice h
  cases e
  simpa using hle
 exact ⟨b, o, rfl, hty.1, c0, c1, hle, hd⟩
theorem metOne_eq (bad : Jb → Bool) (j : Jb) (f : Met) (todo : List Jb) (p : It) : metOne bad j (f, todo) p = if (bad (Zaz p) || ((f (Zaz p)).isSome && ((f (Zaz p)).getD false || !p.m || !((f j).getD false)))) then (f, todo) else (fun k => if k = Zaz p then some (p.m && (f j).getD false) else f k, todo ++ [Zaz p]) := by
 unfold metOne
 cases h : f (Zaz p) with
 | none => simp [h]
 | some b => simp [h]
def mustV (o : Option Bool) : Option Value := o.map fun b => .agg #[.bool b]
def MetM (W : World) (b : Nat) (f : Met) : Prop := ∃ es, RMap encJ W b es ∧ FM es fun k => mustV (f k)
theorem zeroMust (w : World) : (zeroValue 84).run Try.prog w = .ok (.agg #[.bool false]) w := by kernel_rfl
theorem MetM.ext {W W' : World} {b : Nat} {f : Met} (h : MetM W b f) (hx : Ext W W') : MetM W' b f := by
 obtain ⟨es, h1, h2⟩ := h
 exact ⟨es, h1.ext hx, h2⟩
theorem MetM.kept {W W' : World} {b : Nat} {f : Met} (h : MetM W b f) {row : Option Nat} (hg : W.grownBy W' row) (hne : some b ≠ row) : MetM W' b f := by
 obtain ⟨es, h1, h2⟩ := h
 exact ⟨es, h1.kept hg hne, h2⟩
theorem MetM.lt {W : World} {b : Nat} {f : Met} (h : MetM W b f) : b < W.heap.size := by
 obtain ⟨es, h1, h2⟩ := h
 exact h1.lt
theorem MetM.look {W : World} {b : Nat} {f : Met} (h : MetM W b f) (u t : Int) :
  (Instr.lookup 82 (.map (some b)) (.agg #[.int .i64 u, .int .u8 t]) false).run Try.prog W = .ok (.agg #[.bool ((f (u, t)).getD false)]) W := by
 obtain ⟨es, h1, h2⟩ := h
 have := h1.look keyJob Try.underlying82 (zeroMust W) (u, t)
 rw [h2.val] at this
 rw [show (Value.agg #[.int .i64 u, .int .u8 t]) = encJ (u, t) from rfl, this]
 cases f (u, t) <;> rfl
theorem MetM.lookOk {W : World} {b : Nat} {f : Met} (h : MetM W b f) (u t : Int) :
  (Instr.lookup 82 (.map (some b)) (.agg #[.int .i64 u, .int .u8 t]) true).run Try.prog W = .ok (.tuple #[.agg #[.bool ((f (u, t)).getD false)], .bool (f (u, t)).isSome]) W := by
 obtain ⟨es, h1, h2⟩ := h
 have := h1.lookOk keyJob Try.underlying82 (zeroMust W) (u, t)
 rw [h2.val] at this
 rw [show (Value.agg #[.int .i64 u, .int .u8 t]) = encJ (u, t) from rfl, this]
 cases f (u, t) <;> rfl
theorem mustV_put {f : Met} (x : Jb) (c : Bool) : (fun k => if k = x then some (Value.agg #[.bool c]) else mustV (f k)) = fun k => mustV (if k = x then some c else f k) := by
 funext k
 by_cases h : k = x <;> simp [h, mustV]
set_option maxRecDepth 100000 in
set_option maxHeartbeats 16000000 in
theorem reach_calls (w : World) (G : G7) (Aon : Option Addr) (con : Nat) (on : List Bool) (a : Jb) (mb : Option Nat) (Bad : Jb → Bool)
  (hG : G.ok w) (hob : RdV w Aon (on.map .bool)) (hol : on.length ≤ 1000) (hbad : ∀ W, Ext w W → ∀ u t, (Instr.lookup 87 (.map mb) (.agg #[.int .i64 u, .int .u8 t]) false).run Try.prog W = .ok (.int .i64 (if Bad (u, t) then 1 else 0)) W)
  (U : List Jb) (hUn : U.Nodup) (hUl : U.length ≤ 3000) (hT : Tame (Zcc G.l on) U) :
  Calls Try.prog 46 #[.agg G.cs.toArray, .slice Aon on.length con, .agg #[.int .i64 a.1, .int .u8 a.2], .map mb] w
   fun e w' => ∃ b, e = .returned (.map (some b)) ∧ w.heap.size ≤ b ∧ MetM w' b (fun k => if k ∈ Zdb (Zcc G.l on) U Bad a then some (decide (k ∈ mustL (Zcc G.l on) U Bad a)) else none) ∧ Ext w w' := by
 obtain ⟨u0, t0⟩ := a
 have HLN := Lib.hid (fun j => pullJ_len hG on j)
 have HPL0 := Lib.hid (fun W (hx : Ext w W) u t => pulls_calls W G Aon con on u t (hG.ext hx) (hob.ext hx) hol)
 obtain ⟨P, hP⟩ : ∃ P, Zcc G.l on = P := ⟨_, rfl⟩
 have HPL := Lib.hid (show ∀ W, Ext w W → ∀ u t, Calls Try.prog 24 #[.agg G.cs.toArray, .slice Aon on.length con, .agg #[.int .i64 u, .int .u8 t]] W
   fun e w' => ∃ v, e = .returned v ∧ w'.ownsRow W.heap.size 55 3 v (P (u, t)).length (Zcq (P (u, t))) ∧ Below W.heap.size W w' from fun W hx u t => by rw [← hP]; exact HPL0.out W hx u t)
 rw [hP] at HLN hT ⊢
 have HBD := Lib.hid hbad
 have HTT := Lib.hid hT
 clear hG hob hP HPL0 hbad hT
 obtain ⟨B, hB⟩ : ∃ B, w.heap.size = B := ⟨_, rfl⟩
 simp only
 go_enter Try.func46, Try.ntmps46
 have hmm := @run_makeMap Try.prog
 go_upto_region 1 with (fail)
 refine Zep (fun W => Blk W B G.cs 24 ∧ Blk W (B + 1) [.int .i64 u0, .int .u8 t0] 32 ∧ B + 1 + 1 ≤ W.heap.size ∧ Ext w W) ⟨(Blk.newAt w G.cs _ _ hB.symm).alloc _, Blk.newAt _ _ _ _ (by rw [World.size_alloc, hB]), by rw [World.size_alloc, World.size_alloc, hB]; exact Nat.le_refl _, ((Ext.refl w).alloc _).alloc _⟩ ?_
 rintro W0 ⟨hbg, hb1, hs0, hx0⟩
 have e0 := (hb1.alloc (.map #[] 0)).cell 0 rfl
 have e1 := (hb1.alloc (.map #[] 0)).cell 1 rfl
 go_upto_region 2 with (first | (refine wpList_insert keyJob rfl (.tmp 16) (.tmp 17) (.tmp 18) 82 84 rfl Try.underlying82 W0.heap.size [] rfl (RMap.made encJ W0) (u0, t0) (.agg #[.bool true]) rfl rfl ?_; rintro W1 m1 g1))
 have hB0 := hbg.lt
 have h10 := hb1.lt
 have hbg1 := Grown.blk g1 (hbg.alloc (.map #[] 0)) (fun e => by have := Option.some.inj e; omega)
 have hb11 := Grown.blk g1 (hb1.alloc (.map #[] 0)) (fun e => by have := Option.some.inj e; omega)
 have s1 := g1.size
 rw [World.size_alloc] at s1
 have hx1 : Ext w W1 := Below.grown (Ext.alloc hx0 _) g1 (by rw [World.size_alloc]; omega) (fun k e => by cases e; omega)
 have hm1 : MetM W1 W0.heap.size (fun k => if k = (u0, t0) then some true else none) := by
  refine ⟨_, m1, ?_⟩
  have := FM.nil.put (u0, t0) (.agg #[.bool true])
  have hf : (fun k : Jb => if k = (u0, t0) then some (Value.agg #[.bool true]) else none) = fun k => mustV (if k = (u0, t0) then some true else none) := by
   funext k
   by_cases h : k = (u0, t0) <;> simp [h, mustV]
  rw [hf] at this
  exact this
 obtain ⟨b, hb⟩ : ∃ b, W0.heap.size = b := ⟨_, rfl⟩
 rw [hb] at hm1 hs0 s1 ⊢
 clear m1 g1 hbg hb1 hmm hx0 e0 e1 hb
 have e0 := hb11.cell 0 rfl
 have e1 := hb11.cell 1 rfl
 go_upto_region 3 with (fail)
 obtain ⟨C0, hC0⟩ : ∃ C0, W1.heap.size = C0 := ⟨_, rfl⟩
 have hbC : b < C0 := by have := hm1.lt; omega
 have hBb : B < b := by omega
 have hq0 : QRow (W1.alloc (.cells #[.int .i64 u0, .int .u8 t0] 32)) C0 32 2 (.slice (some ⟨C0, 0, none⟩) [(u0, t0)].length 1) [(u0, t0)].length (Zcr [(u0, t0)]) :=
  q_of_own (Owns.ofBlk (rest := []) (Blk.newAt W1 (Zcr [(u0, t0)] ++ []) _ _ hC0.symm) (Nat.le_refl _) (by simp) rfl rfl (by unfold maxLen; omega))
 have hm2 := hm1.ext ((Ext.refl W1).alloc (.cells #[.int .i64 u0, .int .u8 t0] 32))
 have hbg2 := hbg1.alloc (.cells #[.int .i64 u0, .int .u8 t0] 32)
 have hx2 : Ext w (W1.alloc (.cells #[.int .i64 u0, .int .u8 t0] 32)) := Ext.alloc hx1 _
 have hst0 := Srch.first P U Bad (u0, t0)
 have hleft : ∀ (f : Met) (V : List Jb), left V f ≤ 2 * V.length := by
  intro f V
  induction V with
  | nil => exact Nat.le_refl _
  | cons z V ih =>
   have e : left (z :: V) f = rank (f z) + left V f := rfl
   have : rank (f z) ≤ 2 := by cases f z with | none => simp [rank] | some c => cases c <;> simp [rank]
   rw [e, List.length_cons]
   omega
 have hl0 := hleft (fun k => if k = (u0, t0) then some true else none) U
 have hsz2 : C0 ≤ (W1.alloc (.cells #[.int .i64 u0, .int .u8 t0] 32)).heap.size := by rw [World.size_alloc]; omega
 rw [hC0]
 generalize (W1.alloc (.cells #[.int .i64 u0, .int .u8 t0] 32)) = W2 at hq0 hm2 hbg2 hx2 hsz2 ⊢
 clear hm1 hbg1 hb11 e0 e1 hx1 hleft hC0 s1
 obtain ⟨μ, hμ⟩ := exists_least
 obtain ⟨RR, hRR⟩ : ∃ RR : Nat → Value → World → Prop, ∀ n tv W, RR n tv W ↔ ∃ (f : Met) (todo : List Jb), MetM W b f ∧ QRow W C0 32 2 tv todo.length (Zcr todo) ∧ Srch P U Bad (u0, t0) f todo none ∧ todo.length + left U f = n ∧ n ≤ 10000 ∧ Blk W B G.cs 24 ∧ C0 ≤ W.heap.size ∧ Ext w W := ⟨_, fun _ _ _ => Iff.rfl⟩
 have HRR := Lib.hid hRR
 have HMU := Lib.hid hμ
 have hini : RR (1 + left U (fun k => if k = (u0, t0) then some true else none)) (.slice (some ⟨C0, 0, none⟩) 1 1) W2 := (HRR.out _ _ _).2 ⟨_, [(u0, t0)], hm2, hq0, hst0, rfl, by omega, hbg2, hsz2, hx2⟩
 clear hRR hμ hm2 hq0 hst0 hbg2 hl0 hsz2 hx2
 go_loopw [10] (fun tv W => ∃ n, RR n tv W) (fun tv W => μ (fun n => RR n tv W))
 case atStart => exact ⟨_, hini⟩
 case round =>
  clear hini
  obtain ⟨hr1, _⟩ := HMU.out _ hrel
  obtain ⟨N, hN⟩ : ∃ N, μ (fun n => RR n u10 wr) = N := ⟨_, rfl⟩
  rw [hN] at hr1
  have HLT := Lib.hid (show ∀ n' tv' W', RR n' tv' W' → n' < N → μ (fun n => RR n tv' W') < μ (fun n => RR n u10 wr) from fun n' tv' W' h1 h2 => by
   rw [hN]; exact Nat.lt_of_le_of_lt ((HMU.out _ ⟨n', h1⟩).2 n' h1) h2)
  obtain ⟨f, todo, hmm, hown, hst, hn, hn2, hbg, hsz, hxw⟩ := (HRR.out _ _ _).1 hr1
  clear hrel hr1 hN
  cases todo with
  | nil =>
   have hfin : (fun k => if k ∈ Zdb P U Bad (u0, t0) then some (decide (k ∈ mustL P U Bad (u0, t0))) else none) = f := by
    funext k
    exact (hst.fin HTT.out k).symm
   obtain ⟨A, cap, rfl, _⟩ := q_slice hown
   rw [← hfin] at hmm
   have HM := Lib.hid hmm
   clear hmm hfin hst
   go_wp2_with fail
   go_ret
   exact ⟨b, rfl, by omega, HM.out, hxw⟩
  | cons j todo =>
   obtain ⟨A, cap, rfl, _⟩ := q_slice hown
   obtain ⟨gt, ot, rfl, hgC, f1, f2, hcap, hown2⟩ := QRow.pop hown
   obtain ⟨uj, tj⟩ := j
   have hst2 := hst.pop
   have hgl : gt < wr.heap.size := q_lt hown gt rfl
   have hj0 := hst.tod _ List.mem_cons_self
   have hcn : (0 : Int) < (todo.length : Int) + 1 := by omega
   simp only [List.length_cons] at *
   clear hown hst
   go_upto_region 5 with (fail)
   refine Zep (fun W => Blk W wr.heap.size [.int .i64 uj, .int .u8 tj] 32 ∧ Ext wr W) ⟨Blk.newAt _ _ _ _ rfl, (Ext.refl wr).alloc _⟩ ?_
   rintro W3 ⟨hbq, hx3⟩
   obtain ⟨q, hq⟩ : ∃ q, wr.heap.size = q := ⟨_, rfl⟩
   rw [hq] at hbq hgl hsz ⊢
   have hs3 := hx3.size
   have hqW := hbq.lt
   replace hown2 := q_move hown2 (w1 := W3) (fun k hk => hx3.block k (q_lt hown2 k hk))
   replace hmm := hmm.ext hx3
   replace hbg := hbg.ext hx3
   replace hxw : Ext w W3 := Ext.trans hxw hx3
   have e0 := hbq.cell 0 rfl
   have e1 := hbq.cell 1 rfl
   have HT := Lib.hid (rowG7 G)
   obtain ⟨v2, hv2⟩ : ∃ v2, Value.slice (if cap = 1 then some ⟨gt, ot, none⟩ else some ⟨gt, ot + 2, none⟩) todo.length (cap - 1) = v2 := ⟨_, rfl⟩
   have hv2b : v2.ownBlock = some gt := by rw [← hv2]; split <;> rfl
   rw [hv2] at hown2
   clear f1 f2 hx3
   go_upto_region 6 with (fail)
   clear hv2
   go_wp2_with (first | (refine Zcv rfl 24 (.tmp 4) rfl B rfl HT.out hbg ?_) | (go_at_call 24; refine (HPL.out _ hxw uj tj).mono ?_; rintro e W6 ⟨vp, rfl, hop, hx6⟩; obtain ⟨Ap, cp, rfl, hcp, hrp, hlp⟩ := OwnsI.rd hop))
   have hPN : (P (uj, tj)).length ≤ 7000 := HLN.out (uj, tj)
   obtain ⟨ps, hps⟩ : ∃ ps, P (uj, tj) = ps := ⟨_, rfl⟩
   rw [hps] at hcp hrp hPN hst2 ⊢
   have hs6 := hx6.size
   have hown6 := q_move hown2 (w1 := W6) (fun k hk => hx6.block k (q_lt hown2 k hk))
   have hmm6 := hmm.ext hx6
   have hbg6 := hbg.ext hx6
   have hxw6 : Ext w W6 := Ext.trans hxw hx6
   have hbq6 := hbq.ext hx6
   have hb6 : b < q := by have := hmm.lt; omega
   clear hown2 hmm hbg hxw hbq hop hx6 e0 e1 hps
   go_loopw [35, 10] (fun iv tv W => ∃ (k : Nat) (f2 : Met) (todo2 : List Jb), k ≤ ps.length ∧ iv = .int .i64 k ∧ MetM W b f2 ∧ QRow W C0 32 2 tv todo2.length (Zcr todo2) ∧ Srch P U Bad (u0, t0) f2 todo2 (some ((uj, tj), ps.drop k)) ∧ todo2.length + left U f2 + 1 ≤ N ∧
     (∀ x, x < W6.heap.size → x ≠ b → x ≠ gt → W.heap[x]? = W6.heap[x]?) ∧ (∀ x, tv.ownBlock = some x → x = gt ∨ W6.heap.size ≤ x) ∧ W6.heap.size ≤ W.heap.size ∧ Ext w W) (fun iv _ _ => ps.length - (RowKit.intOf iv).toNat)
   case atStart => exact ⟨0, f, todo, by omega, rfl, hmm6, hown6, hst2, by omega, fun _ _ _ _ => rfl, fun x hx => by rw [hv2b] at hx; cases hx; exact .inl rfl, Nat.le_refl _, hxw6⟩
   case round =>
    clear hmm6 hown6 hst2 hxw6
    obtain ⟨k, f2, todo2, hk, rfl, hmm, hown, hst, hn3, hkp, htb, hsz6, hxw⟩ := hrel
    obtain ⟨At, ct, rfl, hct⟩ := q_slice hown
    by_cases hlt : k < ps.length
    ·have hlti : (k : Int) < ps.length := by omega
     have hrp2 : RdI wr Ap ps := hrp.kp fun a ha hl => hkp a.block hl (by have := hlp a ha; omega) (by have := hlp a ha; omega)
     have hq2 : Blk wr q [.int .i64 uj, .int .u8 tj] 32 := (hkp q (by omega) (by omega) (by omega)).trans hbq6
     obtain ⟨b9, o9, u2, t2, m2, rfl, he, f1, f3, f4⟩ := hrp2.at hlt
     have hdk : ps.drop k = ⟨u2, t2, m2⟩ :: ps.drop (k + 1) := by
      rw [List.drop_eq_getElem_cons hlt]
      congr 1
      rw [List.getElem?_eq_getElem hlt] at he
      exact Option.some.inj he
     rw [hdk] at hst
     obtain ⟨hst1, hm1⟩ := hst.one HTT.out hUn
     clear hdk he hrp2
     go_upto_region 9 with (fail)
     refine Zep (fun W => Blk W wr.heap.size [.int .i64 u2, .int .u8 t2, .bool m2] 55 ∧ Ext wr W) ⟨Blk.newAt _ _ _ _ rfl, (Ext.refl wr).alloc _⟩ ?_
     rintro W4 ⟨hbp, hx4⟩
     obtain ⟨qp, hqp⟩ : ∃ qp, wr.heap.size = qp := ⟨_, rfl⟩
     rw [hqp] at hbp hsz6 ⊢
     have hs4 := hx4.size
     have hkp4 : ∀ x, x < W6.heap.size → x ≠ b → x ≠ gt → W4.heap[x]? = W6.heap[x]? := fun x h1 h2 h3 => (hx4.block x (by omega)).trans (hkp x h1 h2 h3)
     replace hmm := hmm.ext hx4
     have hownl : ∀ x, (Value.slice At todo2.length ct).ownBlock = some x → x < qp := fun x hx => by have := q_lt hown x hx; omega
     replace hown := q_move hown (w1 := W4) (fun k hk => hx4.block k (q_lt hown k hk))
     replace hq2 := hq2.ext hx4
     replace hxw : Ext w W4 := Ext.trans hxw hx4
     have e0 := hbp.cell 0 rfl
     have e1 := hbp.cell 1 rfl
     have hlk := hmm.lookOk u2 t2
     clear f1 f3 f4 hkp hx4
     go_upto_region 10 with (fail)
     obtain ⟨nw, hnw⟩ : ∃ nw, (f2 (u2, t2)).getD false = nw := ⟨_, rfl⟩
     obtain ⟨mt, hmt⟩ : ∃ mt, (f2 (u2, t2)).isSome = mt := ⟨_, rfl⟩
     have himp : mt = false → nw = false := fun h => by
      rw [← hmt] at h
      rw [← hnw]
      cases hf : f2 (u2, t2) with
      | none => rfl
      | some c => rw [hf] at h; cases h
     rw [hnw]
     rw [hmt]
     refine Zep (fun W => Blk W W4.heap.size [.bool nw] 84 ∧ Ext W4 W) ⟨Blk.newAt _ _ _ _ rfl, (Ext.refl W4).alloc _⟩ ?_
     rintro W5 ⟨hbm, hx5⟩
     obtain ⟨qm, hqm⟩ : ∃ qm, W4.heap.size = qm := ⟨_, rfl⟩
     rw [hqm] at hbm ⊢
     have hs5 := hx5.size
     have hkp5 : ∀ x, x < W6.heap.size → x ≠ b → x ≠ gt → W5.heap[x]? = W6.heap[x]? := fun x h1 h2 h3 => (hx5.block x (by omega)).trans (hkp4 x h1 h2 h3)
     have hmm5 := hmm.ext hx5
     have hown5 := q_move hown (w1 := W5) (fun k hk => hx5.block k (q_lt hown k hk))
     have hxw5 : Ext w W5 := Ext.trans hxw hx5
     replace hbp := hbp.ext hx5
     replace hq2 := hq2.ext hx5
     have hqpW := hbp.lt
     obtain ⟨fj, hfj⟩ : ∃ fj, (f2 (uj, tj)).getD false = fj := ⟨_, rfl⟩
     obtain ⟨bd, hbd⟩ : ∃ bd, Bad (u2, t2) = bd := ⟨_, rfl⟩
     have HBV := Lib.hid (show Bad (Zaz ⟨u2, t2, m2⟩) = bd from hbd)
     have HMV := Lib.hid (show (f2 (Zaz ⟨u2, t2, m2⟩)).isSome = mt from hmt)
     have HNV := Lib.hid (show (f2 (Zaz ⟨u2, t2, m2⟩)).getD false = nw from hnw)
     have HFV := Lib.hid hfj
     have d0 := HBD.out W5 hxw5 u2 t2
     have d1 := hmm5.look uj tj
     rw [hbd] at d0
     rw [hfj] at d1
     have ad0 : ∀ W', Ext W5 W' → (Instr.lookup 82 (.map (some b)) (.agg #[.int .i64 uj, .int .u8 tj]) false).run Try.prog W' = .ok (.agg #[.bool fj]) W' := fun W' h => by rw [← hfj]; exact (hmm5.ext h).look uj tj
     have b0 := hbp.cell 0 rfl
     have b1 := hbp.cell 1 rfl
     have b2 := hbp.cell 2 rfl
     have n0 := hbm.cell 0 rfl
     have p0 := hq2.cell 0 rfl
     have p1 := hq2.cell 1 rfl
     have a0 : ∀ W', Ext W5 W' → W'.cell? ⟨qp, 0, none⟩ = some (.int .i64 u2) := fun W' h => (hbp.ext h).cell 0 rfl
     have a1 : ∀ W', Ext W5 W' → W'.cell? ⟨qp, 1, none⟩ = some (.int .u8 t2) := fun W' h => (hbp.ext h).cell 1 rfl
     have a2 : ∀ W', Ext W5 W' → W'.cell? ⟨qp, 2, none⟩ = some (.bool m2) := fun W' h => (hbp.ext h).cell 2 rfl
     have ad1 : ∀ W', Ext W5 W' → W'.cell? ⟨q, 0, none⟩ = some (.int .i64 uj) ∧ W'.cell? ⟨q, 1, none⟩ = some (.int .u8 tj) := fun W' h => ⟨(hq2.ext h).cell 0 rfl, (hq2.ext h).cell 1 rfl⟩
     have hfd : ∀ (y : Bool) (W : World), (Instr.field 84 (.agg #[.bool y]) 0).run Try.prog W = .ok (.bool y) W := fun _ _ => by kernel_rfl
     clear hlk hnw hmt hfj hbd hmm hown hxw hkp4 hx5 hbm e0 e1
     cases bd
     ·simp only [Bool.false_eq_true, if_false] at d0
      cases mt
      ·obtain rfl := himp rfl
       cases m2
       ·(have e1 : metOne Bad (uj, tj) (f2, todo2) ⟨u2, t2, false⟩ = (fun k => if k = (u2, t2) then some false else f2 k, todo2 ++ [(u2, t2)]) := (by (rw [metOne_eq, HBV.out, HMV.out, HNV.out, HFV.out]; simp [Zaz])); rw [e1] at hst1 hm1; have HS1 := Lib.hid hst1; have HM1 := Lib.hid hm1; clear hst1 hm1 e1 hst; obtain ⟨es2, r2, fm2⟩ := hmm5; have fm3 := fm2.put (u2, t2) (.agg #[.bool false]); rw [mustV_put] at fm3; have FM3 := Lib.hid fm3; clear fm2 fm3; go_upto_region 11 with (fail); clear d0 d1 b0 b1 b2 n0; refine Zds (fun W => Ext W5 W) 12 [(0, true), (1, true), (2, true), (3, true), (4, true), (5, true), (6, true), (7, true), (8, true), (9, true), (10, true), (11, true), (12, false)] (by kernel_rfl) (by kernel_rfl) ((Ext.refl W5).drew) ?_; (repeat (first | (apply mix_read; (case ho => rfl); (case hw => rfl); (case h1 => intro W' hx; (try dsimp only at hx); go_simp; (try go_bits); with_reducible rfl); (case hp => go_simp; first | done | with_reducible rfl)) | (apply mix_skip; (case ho => rfl); (case hw => rfl); (case hp => go_simp; first | done | with_reducible rfl)))); refine mix_end 12 (by kernel_rfl) (by kernel_rfl) ?_; simp only [List.take_succ_cons, List.take_zero, List.drop_succ_cons, List.drop_zero]; unfold Q0; refine Zen keyJob rfl (.tmp 70) (.tmp 72) (.tmp 81) 82 84 rfl Try.underlying82 b es2 rfl r2.drew (u2, t2) (.agg #[.bool false]) rfl rfl ?_; rintro W8 m8 g8; have hb8 : Blk W8 qp [.int .i64 u2, .int .u8 t2, .bool false] 55 := Grown.blk g8 (show Blk W5.drew qp _ _ from hbp) (fun e => by have := Option.some.inj e; omega); have s8 : W5.heap.size ≤ W8.heap.size := g8.size; have c0 := hb8.cell 0 rfl; have c1 := hb8.cell 1 rfl; have hown8 := q_move hown5 (w1 := W8) (fun k hk => g8.block k (q_lt hown5 k hk) (fun e => by have h1 := (Zfe hown5 k hk).1; have h2 := Option.some.inj e; omega)); have hown9 := q_move hown8 (w1 := W8.alloc (.cells #[.int .i64 u2, .int .u8 t2] 32)) (fun k hk => Below.heap_alloc W8 _ k (q_lt hown8 k hk)); have hxw8 : Ext w W8 := Below.grown (show Ext w W5.drew from Ext.drew hxw5) g8 (show w.heap.size ≤ W5.heap.size by omega) (fun k e => by cases e; omega); have hkp8 : ∀ x, x < W6.heap.size → x ≠ b → x ≠ gt → W8.heap[x]? = W6.heap[x]? := fun x h1 h2 h3 => (g8.block x (show x < W5.heap.size by omega) (fun e => h2 (Option.some.inj e))).trans (hkp5 x h1 h2 h3); clear a0 a1 a2 ad0 ad1 hbp hown5 hown8; go_wp2_with (first | (refine Zeq rfl (.tmp 82) (.tmp 85) rfl C0 _ todo2 rfl hown9 W8.heap.size 1 u2 t2 rfl (Blk.newAt W8 _ _ _ rfl) (by omega) (by rw [World.size_alloc]; omega) ?_; rintro v9 W9 o9' g9 d9)); have s9 := g9.size; rw [World.size_alloc] at s9; have hgx : ∀ x, (Value.slice At todo2.length ct).ownBlock = some x → x ≠ b ∧ (x = gt ∨ W6.heap.size ≤ x) := fun x hx => ⟨fun e => by (have h1 := (Zfe hown9 x hx).1; omega), htb x hx⟩; have hmm9 : MetM W9 b (fun k => if k = (u2, t2) then some false else f2 k) := ⟨_, (m8.ext ((Ext.refl W8).alloc _)).kept g9 (fun e => (hgx b e.symm).1 rfl), FM3.out⟩; have hkp9 : ∀ x, x < W6.heap.size → x ≠ b → x ≠ gt → W9.heap[x]? = W6.heap[x]? := fun x h1 h2 h3 => (g9.block x (by rw [World.size_alloc]; omega) (fun e => by (rcases (hgx x e.symm).2 with h4 | h4; exact h3 h4; omega))).trans ((Below.heap_alloc W8 _ x (by omega)).trans (hkp8 x h1 h2 h3)); have hxw9 : Ext w W9 := Below.grown (Ext.alloc hxw8 _) g9 (by rw [World.size_alloc]; omega) (fun k e => by have := (Zfe hown9 k e).1; omega); have htb9 : ∀ x, v9.ownBlock = some x → x = gt ∨ W6.heap.size ≤ x := (fun x hx => by (rcases d9 x hx with h4 | h4; exact htb x h4; right; rw [World.size_alloc] at h4; omega)); have hm9 := HM1.out; have hs9 := HS1.out; go_roundw; (case rel => exact ⟨k + 1, _, _, by omega, by go_num, hmm9, o9', hs9, by (have hl9 : (todo2 ++ [(u2, t2)]).length = todo2.length + 1 := (by simp); exact Nat.le_trans (Nat.succ_le_succ hm9) hn3), hkp9, htb9, by omega, hxw9⟩); (case measure => simp [RowKit.intOf]; omega))
       ·cases fj
        ·(have e1 : metOne Bad (uj, tj) (f2, todo2) ⟨u2, t2, true⟩ = (fun k => if k = (u2, t2) then some false else f2 k, todo2 ++ [(u2, t2)]) := (by (rw [metOne_eq, HBV.out, HMV.out, HNV.out, HFV.out]; simp [Zaz])); rw [e1] at hst1 hm1; have HS1 := Lib.hid hst1; have HM1 := Lib.hid hm1; clear hst1 hm1 e1 hst; obtain ⟨es2, r2, fm2⟩ := hmm5; have fm3 := fm2.put (u2, t2) (.agg #[.bool false]); rw [mustV_put] at fm3; have FM3 := Lib.hid fm3; clear fm2 fm3; go_upto_region 11 with (fail); clear d0 d1 b0 b1 b2 n0; refine Zds (fun W => Ext W5 W) 12 [(0, true), (1, true), (2, true), (3, true), (4, true), (5, true), (6, true), (7, true), (8, true), (9, true), (10, true), (11, true), (12, false)] (by kernel_rfl) (by kernel_rfl) ((Ext.refl W5).drew) ?_; (repeat (first | (apply mix_read; (case ho => rfl); (case hw => rfl); (case h1 => intro W' hx; (try dsimp only at hx); go_simp; (try go_bits); with_reducible rfl); (case hp => go_simp; first | done | with_reducible rfl)) | (apply mix_skip; (case ho => rfl); (case hw => rfl); (case hp => go_simp; first | done | with_reducible rfl)))); refine mix_end 12 (by kernel_rfl) (by kernel_rfl) ?_; simp only [List.take_succ_cons, List.take_zero, List.drop_succ_cons, List.drop_zero]; unfold Q0; refine Zen keyJob rfl (.tmp 70) (.tmp 72) (.tmp 81) 82 84 rfl Try.underlying82 b es2 rfl r2.drew (u2, t2) (.agg #[.bool false]) rfl rfl ?_; rintro W8 m8 g8; have hb8 : Blk W8 qp [.int .i64 u2, .int .u8 t2, .bool true] 55 := Grown.blk g8 (show Blk W5.drew qp _ _ from hbp) (fun e => by have := Option.some.inj e; omega); have s8 : W5.heap.size ≤ W8.heap.size := g8.size; have c0 := hb8.cell 0 rfl; have c1 := hb8.cell 1 rfl; have hown8 := q_move hown5 (w1 := W8) (fun k hk => g8.block k (q_lt hown5 k hk) (fun e => by have h1 := (Zfe hown5 k hk).1; have h2 := Option.some.inj e; omega)); have hown9 := q_move hown8 (w1 := W8.alloc (.cells #[.int .i64 u2, .int .u8 t2] 32)) (fun k hk => Below.heap_alloc W8 _ k (q_lt hown8 k hk)); have hxw8 : Ext w W8 := Below.grown (show Ext w W5.drew from Ext.drew hxw5) g8 (show w.heap.size ≤ W5.heap.size by omega) (fun k e => by cases e; omega); have hkp8 : ∀ x, x < W6.heap.size → x ≠ b → x ≠ gt → W8.heap[x]? = W6.heap[x]? := fun x h1 h2 h3 => (g8.block x (show x < W5.heap.size by omega) (fun e => h2 (Option.some.inj e))).trans (hkp5 x h1 h2 h3); clear a0 a1 a2 ad0 ad1 hbp hown5 hown8; go_wp2_with (first | (refine Zeq rfl (.tmp 82) (.tmp 85) rfl C0 _ todo2 rfl hown9 W8.heap.size 1 u2 t2 rfl (Blk.newAt W8 _ _ _ rfl) (by omega) (by rw [World.size_alloc]; omega) ?_; rintro v9 W9 o9' g9 d9)); have s9 := g9.size; rw [World.size_alloc] at s9; have hgx : ∀ x, (Value.slice At todo2.length ct).ownBlock = some x → x ≠ b ∧ (x = gt ∨ W6.heap.size ≤ x) := fun x hx => ⟨fun e => by (have h1 := (Zfe hown9 x hx).1; omega), htb x hx⟩; have hmm9 : MetM W9 b (fun k => if k = (u2, t2) then some false else f2 k) := ⟨_, (m8.ext ((Ext.refl W8).alloc _)).kept g9 (fun e => (hgx b e.symm).1 rfl), FM3.out⟩; have hkp9 : ∀ x, x < W6.heap.size → x ≠ b → x ≠ gt → W9.heap[x]? = W6.heap[x]? := fun x h1 h2 h3 => (g9.block x (by rw [World.size_alloc]; omega) (fun e => by (rcases (hgx x e.symm).2 with h4 | h4; exact h3 h4; omega))).trans ((Below.heap_alloc W8 _ x (by omega)).trans (hkp8 x h1 h2 h3)); have hxw9 : Ext w W9 := Below.grown (Ext.alloc hxw8 _) g9 (by rw [World.size_alloc]; omega) (fun k e => by have := (Zfe hown9 k e).1; omega); have htb9 : ∀ x, v9.ownBlock = some x → x = gt ∨ W6.heap.size ≤ x := (fun x hx => by (rcases d9 x hx with h4 | h4; exact htb x h4; right; rw [World.size_alloc] at h4; omega)); have hm9 := HM1.out; have hs9 := HS1.out; go_roundw; (case rel => exact ⟨k + 1, _, _, by omega, by go_num, hmm9, o9', hs9, by (have hl9 : (todo2 ++ [(u2, t2)]).length = todo2.length + 1 := (by simp); exact Nat.le_trans (Nat.succ_le_succ hm9) hn3), hkp9, htb9, by omega, hxw9⟩); (case measure => simp [RowKit.intOf]; omega))
        ·(have e1 : metOne Bad (uj, tj) (f2, todo2) ⟨u2, t2, true⟩ = (fun k => if k = (u2, t2) then some true else f2 k, todo2 ++ [(u2, t2)]) := (by (rw [metOne_eq, HBV.out, HMV.out, HNV.out, HFV.out]; simp [Zaz])); rw [e1] at hst1 hm1; have HS1 := Lib.hid hst1; have HM1 := Lib.hid hm1; clear hst1 hm1 e1 hst; obtain ⟨es2, r2, fm2⟩ := hmm5; have fm3 := fm2.put (u2, t2) (.agg #[.bool true]); rw [mustV_put] at fm3; have FM3 := Lib.hid fm3; clear fm2 fm3; go_upto_region 11 with (fail); clear d0 d1 b0 b1 b2 n0; refine Zds (fun W => Ext W5 W) 12 [(0, true), (1, true), (2, true), (3, true), (4, true), (5, true), (6, true), (7, true), (8, true), (9, true), (10, true), (11, true), (12, false)] (by kernel_rfl) (by kernel_rfl) ((Ext.refl W5).drew) ?_; (repeat (first | (apply mix_read; (case ho => rfl); (case hw => rfl); (case h1 => intro W' hx; (try dsimp only at hx); go_simp; (try go_bits); with_reducible rfl); (case hp => go_simp; first | done | with_reducible rfl)) | (apply mix_skip; (case ho => rfl); (case hw => rfl); (case hp => go_simp; first | done | with_reducible rfl)))); refine mix_end 12 (by kernel_rfl) (by kernel_rfl) ?_; simp only [List.take_succ_cons, List.take_zero, List.drop_succ_cons, List.drop_zero]; unfold Q0; refine Zen keyJob rfl (.tmp 70) (.tmp 72) (.tmp 81) 82 84 rfl Try.underlying82 b es2 rfl r2.drew (u2, t2) (.agg #[.bool true]) rfl rfl ?_; rintro W8 m8 g8; have hb8 : Blk W8 qp [.int .i64 u2, .int .u8 t2, .bool true] 55 := Grown.blk g8 (show Blk W5.drew qp _ _ from hbp) (fun e => by have := Option.some.inj e; omega); have s8 : W5.heap.size ≤ W8.heap.size := g8.size; have c0 := hb8.cell 0 rfl; have c1 := hb8.cell 1 rfl; have hown8 := q_move hown5 (w1 := W8) (fun k hk => g8.block k (q_lt hown5 k hk) (fun e => by have h1 := (Zfe hown5 k hk).1; have h2 := Option.some.inj e; omega)); have hown9 := q_move hown8 (w1 := W8.alloc (.cells #[.int .i64 u2, .int .u8 t2] 32)) (fun k hk => Below.heap_alloc W8 _ k (q_lt hown8 k hk)); have hxw8 : Ext w W8 := Below.grown (show Ext w W5.drew from Ext.drew hxw5) g8 (show w.heap.size ≤ W5.heap.size by omega) (fun k e => by cases e; omega); have hkp8 : ∀ x, x < W6.heap.size → x ≠ b → x ≠ gt → W8.heap[x]? = W6.heap[x]? := fun x h1 h2 h3 => (g8.block x (show x < W5.heap.size by omega) (fun e => h2 (Option.some.inj e))).trans (hkp5 x h1 h2 h3); clear a0 a1 a2 ad0 ad1 hbp hown5 hown8; go_wp2_with (first | (refine Zeq rfl (.tmp 82) (.tmp 85) rfl C0 _ todo2 rfl hown9 W8.heap.size 1 u2 t2 rfl (Blk.newAt W8 _ _ _ rfl) (by omega) (by rw [World.size_alloc]; omega) ?_; rintro v9 W9 o9' g9 d9)); have s9 := g9.size; rw [World.size_alloc] at s9; have hgx : ∀ x, (Value.slice At todo2.length ct).ownBlock = some x → x ≠ b ∧ (x = gt ∨ W6.heap.size ≤ x) := fun x hx => ⟨fun e => by (have h1 := (Zfe hown9 x hx).1; omega), htb x hx⟩; have hmm9 : MetM W9 b (fun k => if k = (u2, t2) then some true else f2 k) := ⟨_, (m8.ext ((Ext.refl W8).alloc _)).kept g9 (fun e => (hgx b e.symm).1 rfl), FM3.out⟩; have hkp9 : ∀ x, x < W6.heap.size → x ≠ b → x ≠ gt → W9.heap[x]? = W6.heap[x]? := fun x h1 h2 h3 => (g9.block x (by rw [World.size_alloc]; omega) (fun e => by (rcases (hgx x e.symm).2 with h4 | h4; exact h3 h4; omega))).trans ((Below.heap_alloc W8 _ x (by omega)).trans (hkp8 x h1 h2 h3)); have hxw9 : Ext w W9 := Below.grown (Ext.alloc hxw8 _) g9 (by rw [World.size_alloc]; omega) (fun k e => by have := (Zfe hown9 k e).1; omega); have htb9 : ∀ x, v9.ownBlock = some x → x = gt ∨ W6.heap.size ≤ x := (fun x hx => by (rcases d9 x hx with h4 | h4; exact htb x h4; right; rw [World.size_alloc] at h4; omega)); have hm9 := HM1.out; have hs9 := HS1.out; go_roundw; (case rel => exact ⟨k + 1, _, _, by omega, by go_num, hmm9, o9', hs9, by (have hl9 : (todo2 ++ [(u2, t2)]).length = todo2.length + 1 := (by simp); exact Nat.le_trans (Nat.succ_le_succ hm9) hn3), hkp9, htb9, by omega, hxw9⟩); (case measure => simp [RowKit.intOf]; omega))
      ·cases nw
       ·cases m2
        ·(have e1 : metOne Bad (uj, tj) (f2, todo2) ⟨u2, t2, false⟩ = (f2, todo2) := (by (rw [metOne_eq, HBV.out, HMV.out, HNV.out, HFV.out]; simp [Zaz])); rw [e1] at hst1 hm1; have HS1 := Lib.hid hst1; clear hst1 hm1 e1 hst a0 a1 a2 ad0 ad1; go_wp2_with fail; go_roundw; (case rel => exact ⟨k + 1, f2, todo2, by omega, by go_num, hmm5, hown5, HS1.out, hn3, hkp5, htb, by omega, hxw5⟩); (case measure => simp [RowKit.intOf]; omega))
        ·cases fj
         ·(have e1 : metOne Bad (uj, tj) (f2, todo2) ⟨u2, t2, true⟩ = (f2, todo2) := (by (rw [metOne_eq, HBV.out, HMV.out, HNV.out, HFV.out]; simp [Zaz])); rw [e1] at hst1 hm1; have HS1 := Lib.hid hst1; clear hst1 hm1 e1 hst a0 a1 a2 ad0 ad1; go_wp2_with fail; go_roundw; (case rel => exact ⟨k + 1, f2, todo2, by omega, by go_num, hmm5, hown5, HS1.out, hn3, hkp5, htb, by omega, hxw5⟩); (case measure => simp [RowKit.intOf]; omega))
         ·(have e1 : metOne Bad (uj, tj) (f2, todo2) ⟨u2, t2, true⟩ = (fun k => if k = (u2, t2) then some true else f2 k, todo2 ++ [(u2, t2)]) := (by (rw [metOne_eq, HBV.out, HMV.out, HNV.out, HFV.out]; simp [Zaz])); rw [e1] at hst1 hm1; have HS1 := Lib.hid hst1; have HM1 := Lib.hid hm1; clear hst1 hm1 e1 hst; obtain ⟨es2, r2, fm2⟩ := hmm5; have fm3 := fm2.put (u2, t2) (.agg #[.bool true]); rw [mustV_put] at fm3; have FM3 := Lib.hid fm3; clear fm2 fm3; go_upto_region 11 with (fail); clear d0 d1 b0 b1 b2 n0; refine Zds (fun W => Ext W5 W) 12 [(0, true), (1, true), (2, true), (3, true), (4, true), (5, true), (6, true), (7, true), (8, true), (9, true), (10, true), (11, true), (12, false)] (by kernel_rfl) (by kernel_rfl) ((Ext.refl W5).drew) ?_; (repeat (first | (apply mix_read; (case ho => rfl); (case hw => rfl); (case h1 => intro W' hx; (try dsimp only at hx); go_simp; (try go_bits); with_reducible rfl); (case hp => go_simp; first | done | with_reducible rfl)) | (apply mix_skip; (case ho => rfl); (case hw => rfl); (case hp => go_simp; first | done | with_reducible rfl)))); refine mix_end 12 (by kernel_rfl) (by kernel_rfl) ?_; simp only [List.take_succ_cons, List.take_zero, List.drop_succ_cons, List.drop_zero]; unfold Q0; refine Zen keyJob rfl (.tmp 70) (.tmp 72) (.tmp 81) 82 84 rfl Try.underlying82 b es2 rfl r2.drew (u2, t2) (.agg #[.bool true]) rfl rfl ?_; rintro W8 m8 g8; have hb8 : Blk W8 qp [.int .i64 u2, .int .u8 t2, .bool true] 55 := Grown.blk g8 (show Blk W5.drew qp _ _ from hbp) (fun e => by have := Option.some.inj e; omega); have s8 : W5.heap.size ≤ W8.heap.size := g8.size; have c0 := hb8.cell 0 rfl; have c1 := hb8.cell 1 rfl; have hown8 := q_move hown5 (w1 := W8) (fun k hk => g8.block k (q_lt hown5 k hk) (fun e => by have h1 := (Zfe hown5 k hk).1; have h2 := Option.some.inj e; omega)); have hown9 := q_move hown8 (w1 := W8.alloc (.cells #[.int .i64 u2, .int .u8 t2] 32)) (fun k hk => Below.heap_alloc W8 _ k (q_lt hown8 k hk)); have hxw8 : Ext w W8 := Below.grown (show Ext w W5.drew from Ext.drew hxw5) g8 (show w.heap.size ≤ W5.heap.size by omega) (fun k e => by cases e; omega); have hkp8 : ∀ x, x < W6.heap.size → x ≠ b → x ≠ gt → W8.heap[x]? = W6.heap[x]? := fun x h1 h2 h3 => (g8.block x (show x < W5.heap.size by omega) (fun e => h2 (Option.some.inj e))).trans (hkp5 x h1 h2 h3); clear a0 a1 a2 ad0 ad1 hbp hown5 hown8; go_wp2_with (first | (refine Zeq rfl (.tmp 82) (.tmp 85) rfl C0 _ todo2 rfl hown9 W8.heap.size 1 u2 t2 rfl (Blk.newAt W8 _ _ _ rfl) (by omega) (by rw [World.size_alloc]; omega) ?_; rintro v9 W9 o9' g9 d9)); have s9 := g9.size; rw [World.size_alloc] at s9; have hgx : ∀ x, (Value.slice At todo2.length ct).ownBlock = some x → x ≠ b ∧ (x = gt ∨ W6.heap.size ≤ x) := fun x hx => ⟨fun e => by (have h1 := (Zfe hown9 x hx).1; omega), htb x hx⟩; have hmm9 : MetM W9 b (fun k => if k = (u2, t2) then some true else f2 k) := ⟨_, (m8.ext ((Ext.refl W8).alloc _)).kept g9 (fun e => (hgx b e.symm).1 rfl), FM3.out⟩; have hkp9 : ∀ x, x < W6.heap.size → x ≠ b → x ≠ gt → W9.heap[x]? = W6.heap[x]? := fun x h1 h2 h3 => (g9.block x (by rw [World.size_alloc]; omega) (fun e => by (rcases (hgx x e.symm).2 with h4 | h4; exact h3 h4; omega))).trans ((Below.heap_alloc W8 _ x (by omega)).trans (hkp8 x h1 h2 h3)); have hxw9 : Ext w W9 := Below.grown (Ext.alloc hxw8 _) g9 (by rw [World.size_alloc]; omega) (fun k e => by have := (Zfe hown9 k e).1; omega); have htb9 : ∀ x, v9.ownBlock = some x → x = gt ∨ W6.heap.size ≤ x := (fun x hx => by (rcases d9 x hx with h4 | h4; exact htb x h4; right; rw [World.size_alloc] at h4; omega)); have hm9 := HM1.out; have hs9 := HS1.out; go_roundw; (case rel => exact ⟨k + 1, _, _, by omega, by go_num, hmm9, o9', hs9, by (have hl9 : (todo2 ++ [(u2, t2)]).length = todo2.length + 1 := (by simp); exact Nat.le_trans (Nat.succ_le_succ hm9) hn3), hkp9, htb9, by omega, hxw9⟩); (case measure => simp [RowKit.intOf]; omega))
       ·(have e1 : metOne Bad (uj, tj) (f2, todo2) ⟨u2, t2, m2⟩ = (f2, todo2) := (by (rw [metOne_eq, HBV.out, HMV.out, HNV.out, HFV.out]; simp [Zaz])); rw [e1] at hst1 hm1; have HS1 := Lib.hid hst1; clear hst1 hm1 e1 hst a0 a1 a2 ad0 ad1; go_wp2_with fail; go_roundw; (case rel => exact ⟨k + 1, f2, todo2, by omega, by go_num, hmm5, hown5, HS1.out, hn3, hkp5, htb, by omega, hxw5⟩); (case measure => simp [RowKit.intOf]; omega))
     ·simp only [if_true] at d0
      (have e1 : metOne Bad (uj, tj) (f2, todo2) ⟨u2, t2, m2⟩ = (f2, todo2) := (by (rw [metOne_eq, HBV.out, HMV.out, HNV.out, HFV.out]; simp [Zaz])); rw [e1] at hst1 hm1; have HS1 := Lib.hid hst1; clear hst1 hm1 e1 hst a0 a1 a2 ad0 ad1; go_wp2_with fail; go_roundw; (case rel => exact ⟨k + 1, f2, todo2, by omega, by go_num, hmm5, hown5, HS1.out, hn3, hkp5, htb, by omega, hxw5⟩); (case measure => simp [RowKit.intOf]; omega))
    ·obtain rfl : k = ps.length := by omega
     rw [List.drop_of_length_le (Nat.le_refl _)] at hst
     have kB : wr.heap[B]? = W6.heap[B]? := hkp B (by omega) (by omega) (by omega)
     have hrr := (HRR.out (todo2.length + left U f2) _ _).2 ⟨f2, todo2, hmm, hown, hst.end, rfl, by omega, kB.trans hbg6, by omega, hxw⟩
     have hlt2 := HLT.out _ _ _ hrr (by omega)
     clear hmm hown hst hkp hxw
     go_wp2_with fail
     go_roundw
     case rel => exact ⟨_, hrr⟩
     case measure => exact hlt2
end Go.Proofs.Ytclgclcoblfddaa
namespace Go.Proofs.Ytclgclcoblfddaa
open Go.RowKit Go.Shelf
set_option linter.unusedVariables false
set_option linter.unusedSimpArgs false
theorem sortedL_of_mem {l l' : List It} (h : ∀ x, x ∈ l ↔ x ∈ l') : Zcf l = Zcf l' := by
 obtain ⟨h1, h2, h3⟩ := sortedL_facts l
 have hn : ((Zcf l).map Zaz).Nodup := by
  unfold List.Nodup
  rw [List.pairwise_map]
  exact h1.imp fun hxy => ltJ_ne hxy
 have hm : ∀ k, Zch l k = Zch l' k := fun k => by
  unfold Zch
  rw [Bool.eq_iff_iff, List.any_eq_true, List.any_eq_true]
  exact ⟨fun ⟨x, hx, hp⟩ => ⟨x, (h x).1 hx, hp⟩, fun ⟨x, hx, hp⟩ => ⟨x, (h x).2 hx, hp⟩⟩
 have hk : ∀ k, k ∈ l.map Zaz ↔ k ∈ l'.map Zaz := fun k => by
  rw [List.mem_map, List.mem_map]
  exact ⟨fun ⟨x, hx, hp⟩ => ⟨x, (h x).1 hx, hp⟩, fun ⟨x, hx, hp⟩ => ⟨x, (h x).2 hx, hp⟩⟩
 rw [← sortedL_of (l := l) hn h2, ← sortedL_of (l := l') hn (fun k => (h2 k).trans (hk k))]
 exact List.map_congr_left fun k _ => by rw [hm]
theorem mem_plPut {on : List Bool} {u t : Int} {m only : Bool} {tbs : List (List (List Int))} {p : It} (h : p ∈ Zeb on u t m only tbs) : p.t = t ∧ p.m = m ∧ 0 ≤ p.u ∧ p.u < on.length ∧ p.u ≠ u := by
 unfold Zeb at h
 obtain ⟨tb, _, h⟩ := List.mem_flatMap.1 h
 unfold plRow at h
 obtain ⟨n, hn, h⟩ := List.mem_flatMap.1 h
 unfold rowU at hn
 have hn := (List.mem_filter.1 hn).2
 unfold pl1 at h
 split at h
 ·rw [List.mem_singleton.1 h]
  unfold okB at hn
  simp only [Bool.and_eq_true, decide_eq_true_eq] at hn
  exact ⟨rfl, rfl, hn.1.1, hn.1.2, hn.2⟩
 ·cases h
theorem jobsU_nodup (n : Nat) : (Zdu n).Nodup := by
 unfold Zdu
 induction n with
 | zero => exact List.nodup_nil
 | succ n ih =>
  rw [List.range_succ, List.flatMap_append]
  refine List.nodup_append.2 ⟨ih, by simp, fun a ha b hb e => ?_⟩
  have h1 := mem_jobsU.1 (show a ∈ Zdu n from ha)
  simp at hb
  rw [e] at h1
  rcases hb with rfl | rfl | rfl <;> simp at h1 <;> omega
theorem pull_tame (g : GL) (on : List Bool) : Tame (Zcc g on) (Zdu on.length) := by
 intro x p hp
 unfold Zcc pullsL at hp
 split at hp
 ·rename_i hc
  have hk := hc.2.2
  simp only [knownB, Bool.and_eq_true, decide_eq_true_eq] at hk
  have key : (p.t = 1 ∨ p.t = 2 ∨ p.t = x.2) ∧ 0 ≤ p.u ∧ p.u < on.length ∧ p.u ≠ x.1 := by
   rcases List.mem_append.1 hp with h | h
   ·split at h
    ·cases h
    ·rcases List.mem_append.1 h with h | h
     ·rcases List.mem_append.1 h with h | h
      ·have := mem_plPut h; exact ⟨.inl this.1, this.2.2⟩
      ·have := mem_plPut h; exact ⟨.inl this.1, this.2.2⟩
     ·have := mem_plPut h; exact ⟨.inr (.inl this.1), this.2.2⟩
   ·split at h
    ·cases h
    ·have := mem_plPut h; exact ⟨.inr (.inr this.1), this.2.2⟩
  refine ⟨mem_jobsU.2 ⟨⟨key.2.1, key.2.2.1⟩, ?_⟩, fun e => key.2.2.2 (congrArg Prod.fst e)⟩
  show 1 ≤ p.t ∧ p.t ≤ 3
  omega
 ·cases hp
def ofL (g : GL) (on : List Bool) (ban : List Jb) (a : Jb) : List It × Bool :=
 if 0 ≤ a.1 ∧ a.1 < on.length ∧ knownB a.2 = true then
  if a ∈ Zdy (Zcc g on) ban (Zdb (Zcc g on) (Zdu on.length) (fun _ => false) a) then ([], false)
  else (Zcf ((Zdb (Zcc g on) (Zdu on.length) (fun x => decide (x ∈ Zdy (Zcc g on) ban (Zdb (Zcc g on) (Zdu on.length) (fun _ => false) a))) a).map fun k =>
   ⟨k.1, k.2, decide (k ∈ mustL (Zcc g on) (Zdu on.length) (fun x => decide (x ∈ Zdy (Zcc g on) ban (Zdb (Zcc g on) (Zdu on.length) (fun _ => false) a))) a)⟩), true)
 else ([], false)
theorem reach_in {P : Jb → List It} {U : List Jb} (hT : Tame P U) (bad : Jb → Bool) (a : Jb) {x : Jb} (h : x ∈ Zdb P U bad a) : x ∈ a :: U := by
 have := (Zel hT bad a x).1 h
 exact this.least (T := fun x => x ∈ a :: U) (fun x hx => by rw [List.mem_singleton.1 hx]; exact List.mem_cons_self) fun x y _ hy => by
  obtain ⟨⟨p, hp, rfl⟩, _⟩ := Zdn.1 hy
  exact List.mem_cons_of_mem _ (hT x p hp).1
set_option maxRecDepth 100000 in
set_option maxHeartbeats 8000000 in
theorem of_calls (w : World) (G : G7) (Aon : Option Addr) (con : Nat) (on : List Bool) (u t : Int) (ban : List Jb) (Ab : Option Addr) (cb : Nat)
  (hG : G.ok w) (hob : RdV w Aon (on.map .bool)) (hol : on.length ≤ 1000) (hb : RdJ w Ab ban) (hbl : ban.length ≤ 10000) :
  Calls Try.prog 14 #[.agg G.cs.toArray, .slice Aon on.length con, .agg #[.int .i64 u, .int .u8 t], .slice Ab ban.length cb] w
   fun e w' => ∃ v, e = .returned (.tuple #[v, .bool (ofL G.l on ban (u, t)).2]) ∧ w'.ownsRow w.heap.size 34 3 v (ofL G.l on ban (u, t)).1.length (Zcq (ofL G.l on ban (u, t)).1) ∧ Ext w w' := by
 have KN := Lib.hid known_calls
 by_cases h0 : 0 ≤ u
 case neg =>
  have hu : u < 0 := by omega
  have ho : ofL G.l on ban (u, t) = ([], false) := if_neg fun h => h0 h.1
  rw [ho]
  go_enter Try.func14, Try.ntmps14
  go_wp2_with fail
  go_ret2
  exact ⟨_, rfl, World.ownsRow_nil _ _ _ _, ((Ext.refl w).alloc _).alloc _⟩
 have hu0 : ¬ u < 0 := by omega
 by_cases h1 : u < on.length
 case neg =>
  have hu1 : (on.length : Int) ≤ u := by omega
  have ho : ofL G.l on ban (u, t) = ([], false) := if_neg fun h => h1 h.2.1
  rw [ho]
  go_enter Try.func14, Try.ntmps14
  go_wp2_with fail
  go_ret2
  exact ⟨_, rfl, World.ownsRow_nil _ _ _ _, ((Ext.refl w).alloc _).alloc _⟩
 have hu1 : ¬ (on.length : Int) ≤ u := by omega
 cases hk : knownB t
 case false =>
  have ho : ofL G.l on ban (u, t) = ([], false) := if_neg fun h => by have := h.2.2; simp only [hk] at this; cases this
  rw [ho]
  have HK := Lib.hid hk
  clear hk
  go_enter Try.func14, Try.ntmps14
  go_wp2_with (go_at_call 43; refine (KN.out _ _).mono ?_; rintro e W ⟨rfl, rfl⟩; rw [HK.out])
  go_ret2
  exact ⟨_, rfl, World.ownsRow_nil _ _ _ _, ((Ext.refl w).alloc _).alloc _⟩
 have ho : ofL G.l on ban (u, t) = if (u, t) ∈ Zdy (Zcc G.l on) ban (Zdb (Zcc G.l on) (Zdu on.length) (fun _ => false) (u, t)) then ([], false)
  else (Zcf ((Zdb (Zcc G.l on) (Zdu on.length) (fun x => decide (x ∈ Zdy (Zcc G.l on) ban (Zdb (Zcc G.l on) (Zdu on.length) (fun _ => false) (u, t)))) (u, t)).map fun k =>
   ⟨k.1, k.2, decide (k ∈ mustL (Zcc G.l on) (Zdu on.length) (fun x => decide (x ∈ Zdy (Zcc G.l on) ban (Zdb (Zcc G.l on) (Zdu on.length) (fun _ => false) (u, t)))) (u, t))⟩), true) := if_pos ⟨h0, h1, hk⟩
 have hUl : (Zdu on.length).length ≤ 3000 := by rw [jobsU_length]; omega
 have hT := pull_tame G.l on
 have HR1 := Lib.hid (fun W (hx : Ext w W) => reach_calls W G Aon con on (u, t) none (fun _ => false) (hG.ext hx) (hob.ext hx) hol (fun W' _ u t => lookSet_nil W' u t) (Zdu on.length) (jobsU_nodup _) hUl hT)
 have HR2 := Lib.hid (fun W (hx : Ext w W) b B (hs : SetM W b B) => reach_calls W G Aon con on (u, t) (some b) B (hG.ext hx) (hob.ext hx) hol (fun W' hx' u t => (hs.ext hx').look u t) (Zdu on.length) (jobsU_nodup _) hUl hT)
 have HS := Lib.hid (fun W (hx : Ext w W) all Aa ca ha hal => spoilt_calls W G Aon con on ban Ab cb all Aa ca (hG.ext hx) (hob.ext hx) hol (hb.ext hx) hbl ha hal)
 have hin : ∀ bad x, x ∈ Zdb (Zcc G.l on) (Zdu on.length) bad (u, t) → x ∈ (u, t) :: Zdu on.length := fun bad x h => reach_in hT bad (u, t) h
 obtain ⟨P, hP⟩ : ∃ P, Zcc G.l on = P := ⟨_, rfl⟩
 rw [hP] at HR1 HR2 HS ho hin
 obtain ⟨U, hU⟩ : ∃ U, Zdu on.length = U := ⟨_, rfl⟩
 rw [hU] at HR1 HR2 ho hin hUl
 rw [ho]
 obtain ⟨bad, hbad⟩ : ∃ bad, Zdy P ban (Zdb P U (fun _ => false) (u, t)) = bad := ⟨_, rfl⟩
 rw [hbad]
 obtain ⟨R, hR⟩ : ∃ R, (if (u, t) ∈ bad then (([] : List It), false) else (Zcf ((Zdb P U (fun x => decide (x ∈ bad)) (u, t)).map fun k => (⟨k.1, k.2, decide (k ∈ mustL P U (fun x => decide (x ∈ bad)) (u, t))⟩ : It)), true)) = R := ⟨_, rfl⟩
 rw [hR]
 have HRV := Lib.hid hR
 have HBAD := Lib.hid hbad
 have HIN := Lib.hid hin
 have HK := Lib.hid hk
 clear hG hob hb ho hT hP hU hbad hk hin hR
 have hBw : ∃ B, w.heap.size = B := ⟨_, rfl⟩
 obtain ⟨B, hB⟩ := hBw
 go_enter Try.func14, Try.ntmps14
 go_upto_region 1 with (fail)
 refine Zep (fun W => Blk W B G.cs 24 ∧ Blk W (B + 1) [.int .i64 u, .int .u8 t] 32 ∧ B + 1 + 1 ≤ W.heap.size ∧ Ext w W) ⟨(Blk.newAt w G.cs _ _ hB.symm).alloc _, Blk.newAt _ _ _ _ (by rw [World.size_alloc, hB]), by rw [World.size_alloc, World.size_alloc, hB]; exact Nat.le_refl _, ((Ext.refl w).alloc _).alloc _⟩ ?_
 rintro W0 ⟨hbg, hb1, hs0, hx0⟩
 have HT := Lib.hid (rowG7 G)
 have e0 := hb1.cell 0 rfl
 have e1 := hb1.cell 1 rfl
 go_wp2_with (first
  | (go_at_call 43; refine (KN.out _ _).mono ?_; rintro e W ⟨rfl, rfl⟩; rw [HK.out])
  | (refine Zcv rfl 24 (.tmp 4) rfl B rfl HT.out hbg ?_)
  | (go_at_call 46; refine (HR1.out _ hx0).mono ?_; rintro e W1 ⟨ba, rfl, hba, hma, hx1⟩)
  | (go_at_call 45; refine (keysM_f ba _).mono ?_; rintro e w' ⟨rfl, rfl⟩))
 have hx01 : Ext w W1 := Ext.trans hx0 hx1
 obtain ⟨esa, ma, fma⟩ := hma
 have hka : ∀ k, k ∈ esa.map (·.1) ↔ k ∈ Zdb P U (fun _ => false) (u, t) := fun k => by rw [fma.mem]; unfold mustV; by_cases h : k ∈ Zdb P U (fun _ => false) (u, t) <;> simp [h]
 have hla : esa.length ≤ 3001 := by
  have := fma.length ((u, t) :: U) fun k hk => by
   rw [← fma.mem] at hk
   exact HIN.out _ k ((hka k).1 hk)
  rw [List.length_cons] at this
  omega
 have hbaw : ba < W1.heap.size := ma.lt
 have hbx : W1.heap.size < (W1.alloc (.cells #[.map (some ba)] 82)).heap.size := by rw [World.size_alloc]; omega
 have hC := Lib.hid (collectM_calls W1.heap.size ba esa (W1.alloc (.cells #[.map (some ba)] 82)) hbx ((Blk.new W1 [.map (some ba)] 82).cell 0 rfl) (ma.ext ((Ext.refl W1).alloc _)) (by omega))
 refine hC.out.mono ?_
 rintro e W2 ⟨va, ss, rfl, hss, hrow, hbl⟩
 obtain ⟨Ass, css, rfl, hcss, hrds, _⟩ := OwnsJ.rd hrow
 have hx12 : Ext W1 W2 := Ext.trans ((Ext.refl W1).alloc _) hbl
 have hx02 : Ext w W2 := Ext.trans hx01 hx12
 have hbg2 := (hbg.ext hx1).ext hx12
 have hb12 := (hb1.ext hx1).ext hx12
 have hssl : ss.length ≤ 10000 := by rw [hss.length_eq, List.length_map]; omega
 have hsm : ∀ x, x ∈ Zdy P ban ss ↔ x ∈ bad := fun x => by
  rw [← HBAD.out]
  exact spoil_all (fun y => by rw [hss.mem_iff]; exact hka y) x
 have hfs : (fun k => decide (k ∈ Zdy P ban ss)) = fun k => decide (k ∈ bad) := by
  funext k
  exact decide_eq_decide.2 (hsm k)
 have HSP := Lib.hid (HS.out W2 hx02 ss Ass css hrds hssl)
 rw [hfs] at HSP
 clear hss hrow hbl hka hla hbaw hbx hC ma fma hsm hfs hrds HS HR1 hbg hb1 e0 e1 hx0 hx1 hx01 hx12
 have e0 := hb12.cell 0 rfl
 have e1 := hb12.cell 1 rfl
 by_cases hbd : (u, t) ∈ bad
 ·have hRV := HRV.out
  rw [if_pos hbd] at hRV
  subst hRV
  have hdt : decide ((u, t) ∈ bad) = true := decide_eq_true hbd
  have HDT := Lib.hid hdt
  clear hbd hdt
  go_wp2_with (first
   | (refine Zcv rfl 24 (.tmp 4) rfl B rfl HT.out hbg2 ?_)
   | (go_at_call 47; refine HSP.out.mono ?_; rintro e W3 ⟨bb, rfl, hbb, hmb, hx3⟩; have hl3 := hmb.look u t; rw [HDT.out] at hl3; simp only [if_true] at hl3; have g0 := (hb12.ext hx3).cell 0 rfl; have g1 := (hb12.ext hx3).cell 1 rfl; clear e0 e1))
  go_ret2
  exact ⟨_, rfl, World.ownsRow_nil _ _ _ _, Ext.trans hx02 hx3⟩
 ·have HRV2 := Lib.hid (HRV.out.symm.trans (if_neg hbd))
  clear HRV
  have hdt : decide ((u, t) ∈ bad) = false := decide_eq_false hbd
  have HDT := Lib.hid hdt
  clear hbd hdt
  go_wp2_with (first
   | (refine Zcv rfl 24 (.tmp 4) rfl B rfl HT.out hbg2 ?_)
   | (go_at_call 47; refine HSP.out.mono ?_; rintro e W3 ⟨bb, rfl, hbb, hmb, hx3⟩; have hl3 := hmb.look u t; rw [HDT.out] at hl3; simp only [Bool.false_eq_true, if_false] at hl3; have g0 := (hb12.ext hx3).cell 0 rfl; have g1 := (hb12.ext hx3).cell 1 rfl; have hbg3 := hbg2.ext hx3; have hx03 : Ext w W3 := Ext.trans hx02 hx3; have HR := Lib.hid (HR2.out W3 hx03 bb _ hmb); clear e0 e1)
   | (refine Zcv rfl 24 (.tmp 4) rfl B rfl HT.out hbg3 ?_)
   | (go_at_call 46; refine HR.out.mono ?_; rintro e W4 ⟨bm, rfl, hbm, hmm, hx4⟩; obtain ⟨esm, mm, fmm⟩ := hmm)
   | (refine wpList_range rfl (.tmp 50) 82 84 rfl Try.underlying82 bm esm rfl mm ?_; rintro W5 m5 r5 x5 s5; go_simp))
  have hx05 : Ext w W5 := Ext.trans hx03 (Ext.trans hx4 x5)
  have hkm : ∀ k, k ∈ esm.map (·.1) ↔ k ∈ Zdb P U (fun x => decide (x ∈ bad)) (u, t) := fun k => by rw [fmm.mem]; unfold mustV; by_cases h : k ∈ Zdb P U (fun x => decide (x ∈ bad)) (u, t) <;> simp [h]
  have hlm : esm.length ≤ 3001 := by
   have := fmm.length ((u, t) :: U) fun k hk => by
    rw [← fmm.mem] at hk
    exact HIN.out _ k ((hkm k).1 hk)
   rw [List.length_cons] at this
   omega
  have hval : ∀ (i : Nat) (k : Jb) (v : Value), esm[i]? = some (k, v) → v = .agg #[.bool (decide (k ∈ mustL P U (fun x => decide (x ∈ bad)) (u, t)))] := fun i k v hi => by
   have hm := List.mem_of_getElem? hi
   have h1 := fmm.entry hm
   have h2 : k ∈ Zdb P U (fun x => decide (x ∈ bad)) (u, t) := (hkm k).1 (List.mem_map_of_mem (f := (·.1)) hm)
   simp only [if_pos h2, mustV, Option.map_some, Option.some.injEq] at h1
   exact h1.symm
  obtain ⟨r, hr⟩ : ∃ r, W4.heap.size = r := ⟨_, rfl⟩
  rw [hr] at r5 ⊢
  have hrB : bm < r := by have := mm.lt; omega
  have hBr : B ≤ bm := by have := hx03.size; omega
  have HKM := Lib.hid hkm
  clear hkm HR2 HR HSP hmb hl3 g0 g1 hbg3 hbg2 hb12 fmm mm s5 x5 hx4 hx3
  generalize Zdb P U (fun x => decide (x ∈ bad)) (u, t) = RL at HKM HRV2
  generalize mustL P U (fun x => decide (x ∈ bad)) (u, t) = ML at hval HRV2
  go_loopw [12] (fun ov W => ∃ (seen : List Nat) (l : List It), RMap encJ W bm esm ∧ Zfc W r bm esm.length seen ∧ seen.Nodup ∧ (∀ i ∈ seen, i < esm.length) ∧ seen.length ≤ esm.length ∧ l.map Zaz = Zdg esm seen ∧ (∀ x ∈ l, x.m = decide (Zaz x ∈ ML)) ∧ W.ownsRow W5.heap.size 34 3 ov l.length (Zcq l) ∧ W5.heap.size ≤ W.heap.size ∧ Ext w W)
   (fun _ W => esm.length - came W r)
  case atStart => exact ⟨[], [], m5, r5, List.nodup_nil, (fun i hi => by cases hi), Nat.zero_le _, rfl, (fun x hx => by cases hx), World.ownsRow_nil _ _ _ _, Nat.le_refl _, hx05⟩
  case round =>
   have h5r : r < W5.heap.size := by obtain ⟨_, _, h⟩ := r5; exact (Array.getElem?_eq_some_iff.1 h).1
   clear m5 r5 hx05
   obtain ⟨seen, l, hmp, hit, hnd, hlt, hsl, hlk, hlm2, hown, hsz, hxw⟩ := hrel
   go_wp2_with (first | (refine wpList_next rfl (.tmp 51) rfl bm r esm seen rfl hmp hit ?_ ?_))
   ·intro hall
    go_simp
    have hperm := keysAt_all hnd hlt hall
    have hmem : ∀ x, x ∈ l ↔ x ∈ RL.map fun k => (⟨k.1, k.2, decide (k ∈ ML)⟩ : It) := by
     intro x
     rw [List.mem_map]
     constructor
     ·intro hx
      have h1 : Zaz x ∈ l.map Zaz := List.mem_map_of_mem hx
      rw [hlk, hperm.mem_iff, HKM.out] at h1
      refine ⟨Zaz x, h1, ?_⟩
      have h2 := hlm2 x hx
      obtain ⟨xu, xt, xm⟩ := x
      simp only at h2
      rw [h2]
      rfl
     ·rintro ⟨k, hk, rfl⟩
      have h1 : k ∈ l.map Zaz := by rw [hlk, hperm.mem_iff, HKM.out]; exact hk
      obtain ⟨y, hy, rfl⟩ := List.mem_map.1 h1
      have h2 := hlm2 y hy
      rw [← h2]
      exact hy
    have hll : l.length ≤ 1000000 := by
     have h1 := congrArg List.length hlk
     rw [List.length_map, Zdt hlt] at h1
     omega
    have HSL := Lib.hid (sortedL_of_mem hmem)
    obtain ⟨Al, cl, rfl, _, hrl, _⟩ := OwnsI.rd hown
    have HSO := Lib.hid (Sorted_calls l Al cl wr hrl hll)
    clear hperm hmem hmp hit hnd hlt hsl hlk hlm2 hown hall hval
    go_wp2_with (go_at_call 48; refine HSO.out.mono ?_; rintro e W7 ⟨v7, rfl, ho7, hx7⟩)
    have hR2 := HRV2.out
    subst hR2
    have hxx : Ext w W7 := Ext.trans hxw hx7
    have hBW : w.heap.size ≤ wr.heap.size := hxw.size
    go_ret2
    refine ⟨_, rfl, ?_, hxx⟩
    rw [← HSL.out]
    exact Owns.low ho7 hBW
   ·intro i u2 t2 v W6 hi hns hmp2 hit2 hg2 hs2 hen
    have hvv := hval i (u2, t2) v hi
    subst hvv
    have hen' : (Instr.entry (.pointer (some ⟨r, 0, none⟩))).run Try.prog W6 = .ok (.tuple #[.agg #[.int .i64 u2, .int .u8 t2], .agg #[.bool (decide ((u2, t2) ∈ ML))]]) W6 := hen
    have hcm := Lib.hid hit.came
    have hlt2 : i < esm.length := (List.getElem?_eq_some_iff.1 hi).1
    have hlt3 : ∀ j ∈ seen ++ [i], j < esm.length := by
     intro j hj
     rcases List.mem_append.1 hj with h | h
     ·exact hlt j h
     ·rw [List.mem_singleton.1 h]; exact hlt2
    have hnd3 : (seen ++ [i]).Nodup := List.nodup_append.2 ⟨hnd, by simp, fun a ha b hb e => by rw [List.mem_singleton.1 hb] at e; exact hns (e ▸ ha)⟩
    have hsl3 : (seen ++ [i]).length ≤ esm.length := nodup_le _ hnd3 hlt3
    have hkey := keysAt_snoc (seen := seen) hi
    have hl1 : l.length ≤ 100000000 := by
     have h1 := congrArg List.length hlk
     rw [List.length_map, Zdt hlt] at h1
     omega
    have hlk3 : ∀ c, (l ++ [(⟨u2, t2, c⟩ : It)]).map Zaz = Zdg esm (seen ++ [i]) := fun c => by rw [hkey, List.map_append, hlk]; rfl
    have hown6 := Owns.kept hown hg2 (fun k hk e => by have := (hown.lt k hk).1; cases e; omega)
    have hxw6 : Ext w W6 := Below.grown hxw hg2 hxw.size (fun k e => by cases e; omega)
    have hm3 : ∀ x ∈ l ++ [(⟨u2, t2, decide ((u2, t2) ∈ ML)⟩ : It)], x.m = decide (Zaz x ∈ ML) := fun x hx => by
     rcases List.mem_append.1 hx with h | h
     ·exact hlm2 x h
     ·rw [List.mem_singleton.1 h]; rfl
    have HLK3 := Lib.hid (hlk3 (decide ((u2, t2) ∈ ML)))
    have HM3 := Lib.hid hm3
    clear hen hi hns hnd hlt hsl hlk hlm2 hmp hit hg2 hown hkey hlk3 hm3 hxw
    generalize decide ((u2, t2) ∈ ML) = c at hen' HLK3 HM3 ⊢
    have hsz6 : W5.heap.size ≤ W6.heap.size := by omega
    have hq6 : W6.heap.size = wr.heap.size := hs2
    go_simp
    go_upto_region 11 with (fail)
    have hq6' := hq6.symm
    refine Zep (fun W => Blk W wr.heap.size [.int .i64 u2, .int .u8 t2] 32 ∧ Blk W (wr.heap.size + 1) [.bool c] 84 ∧ Ext W6 W) ⟨(Blk.newAt W6 _ _ _ hq6').alloc _, Blk.newAt _ _ _ _ (by rw [World.size_alloc, hq6]), ((Ext.refl W6).alloc _).alloc _⟩ ?_
    rintro W7 ⟨hbj, hbc, hx7⟩
    obtain ⟨q, hq⟩ : ∃ q, wr.heap.size = q := ⟨_, rfl⟩
    rw [hq] at hbj hbc ⊢
    have e0 := hbj.cell 0 rfl
    have e1 := hbj.cell 1 rfl
    have e2 := hbc.cell 0 rfl
    have hown7 := Owns.ext hown6 hx7
    have s7 := hx7.size
    have hmp7 := hmp2.ext hx7
    have hit7 := hit2.ext hx7
    have hxw7 : Ext w W7 := Ext.trans hxw6 hx7
    have hBW5 : w.heap.size ≤ W5.heap.size := by omega
    have hown8 := hown7.alloc (.cells #[.int .i64 u2, .int .u8 t2, .bool c] 34)
    clear hown6 hmp2 hit2 hxw6 hx7 hen' hbj hbc hown7
    go_wp2_with (refine wpList_append_item rfl (.tmp 57) (.tmp 62) rfl W5.heap.size u12 l rfl hown8 W7.heap.size 1 ⟨u2, t2, c⟩ rfl (Blk.newAt W7 _ _ _ rfl) hl1 (by rw [World.size_alloc]; omega) ?_; rintro v' W8 o8 g8 d8)
    have s8 := g8.size
    rw [World.size_alloc] at s8
    have hnb : ∀ k, u12.ownBlock = some k → W5.heap.size ≤ k := fun k hk => (hown8.lt k hk).1
    have hmp8 : RMap encJ W8 bm esm := (hmp7.ext ((Ext.refl W7).alloc _)).kept g8 (fun e => by have := hnb bm e.symm; omega)
    have hit8 : Zfc W8 r bm esm.length (seen ++ [i]) := (hit7.ext ((Ext.refl W7).alloc _)).kept g8 (fun e => by have := hnb r e.symm; omega)
    have hxw8 : Ext w W8 := Below.grown (Ext.alloc hxw7 _) g8 (by rw [World.size_alloc]; omega) (fun k e => by have := hnb k e; omega)
    have hcm8 := hit8.came
    go_roundw
    case rel => exact ⟨seen ++ [i], _, hmp8, hit8, hnd3, hlt3, hsl3, HLK3.out, HM3.out, o8, by omega, hxw8⟩
    case measure =>
     rw [hcm8]
     have := hcm.out
     simp at hsl3 ⊢
     omega
end Go.Proofs.Ytclgclcoblfddaa
namespace Go.Proofs.Ytclgclcoblfddaa
open Go.RowKit Go.Maps Go.Lib
set_option linter.unusedVariables false
set_option linter.unusedSimpArgs false
def g21 : GL := ⟨[[1], [], [1]], [[2], [], []], [], [], [], [], []⟩
theorem of21a : ofL g21 [false, false, false] [] (0, 1) = ([⟨0, 1, true⟩, ⟨1, 1, true⟩, ⟨2, 1, false⟩], true) := by kernel_rfl
theorem of21b : ofL g21 [false, false, false] [(2, 1)] (0, 1) = ([⟨0, 1, true⟩, ⟨1, 1, true⟩], true) := by kernel_rfl
theorem of21c : ofL g21 [false, false, false] [(1, 1)] (0, 1) = ([], false) := by kernel_rfl
theorem RdV.one {W : World} {b : Nat} {v0 : Value} {T : TypeId} (h : Blk W b [v0] T) : RdV W (some ⟨b, 0, none⟩) [v0] := Blk.rdv h
theorem RdJ.one {W : World} {b : Nat} {u t : Int} {T : TypeId} (h : Blk W b [.int .i64 u, .int .u8 t] T) : RdJ W (some ⟨b, 0, none⟩) [(u, t)] := .inr ⟨b, 0, rfl, fun j u t hj => by
 match j, hj with
 | 0, hj => cases hj; exact ⟨h.cell 0 rfl, h.cell 1 rfl⟩⟩
def tbNil : Tb := ⟨none, [], 0⟩
theorem tbNil_ok (W : World) : tbNil.ok W := ⟨⟨.inl rfl, fun r hr => by cases hr⟩, by decide, fun r hr => by cases hr⟩
theorem madeCells_one (v : Value) (n : Nat) (h : v.cells = #[v]) : madeCells v.cells n = (List.replicate n v).toArray := by
 rw [h]
 unfold madeCells
 apply Array.ext
 ·simp
 ·intro i h1 h2
  simp [Nat.mod_one]
theorem infoBool : (Try.prog.info? 4).map (fun i => (i.zero, i.size, i.bytes)) = some (some (.bool false), 1, 1) := by kernel_rfl
set_option maxRecDepth 100000 in
theorem make_bools (n : Nat) (hn : n ≤ 1000000) (W : World) : (Instr.makeSlice 25 (.int .i64 n) (.int .i64 n)).run Try.prog W = .ok (.slice (some ⟨W.heap.size, 0, none⟩) n n) (W.alloc (.cells (List.replicate n (Value.bool false)).toArray 4)) := by
 obtain ⟨i, hi, hz, hsz, hby⟩ := info_parts infoBool
 rw [run_makeSlice W 25 4 i _ Try.underlying25 hi hz .i64 .i64 n n (by omega) (by omega) (by rw [hsz]; simp; omega) (by rw [hby]; omega) (by omega)]
 rw [hsz, Nat.mul_one, Int.toNat_natCast]
 congr 3
 exact madeCells_one _ n rfl
set_option maxRecDepth 100000 in
set_option maxHeartbeats 4000000 in
theorem works21_calls (w : World) : Calls Try.prog 13 #[] w fun e w' => e = .returned (.bool true) ∧ Ext w w' := by
 obtain ⟨B, hB⟩ : ∃ B, w.heap.size = B := ⟨_, rfl⟩
 go_enter Try.func13, Try.ntmps13
 go_upto_region 2 with (fail)
 refine Zep (fun W => Blk W B [.int .i64 1] 3 ∧ Blk W (B + 1 + 1) [.int .i64 1] 3 ∧ Blk W (B + 1 + 1 + 1) [.slice (some ⟨B, 0, none⟩) 1 1, .slice (some ⟨B + 1, 0, none⟩) 0 0, .slice (some ⟨B + 1 + 1, 0, none⟩) 1 1] 60 ∧ Blk W (B + 1 + 1 + 1 + 1) [.int .i64 2] 3 ∧
   Blk W (B + 1 + 1 + 1 + 1 + 1 + 1 + 1) [.slice (some ⟨B + 1 + 1 + 1 + 1, 0, none⟩) 1 1, .slice (some ⟨B + 1 + 1 + 1 + 1 + 1, 0, none⟩) 0 0, .slice (some ⟨B + 1 + 1 + 1 + 1 + 1 + 1, 0, none⟩) 0 0] 60 ∧
   Blk W (B + 1 + 1 + 1 + 1 + 1 + 1 + 1 + 1) [.slice (some ⟨B + 1 + 1 + 1, 0, none⟩) 3 3, .slice (some ⟨B + 1 + 1 + 1 + 1 + 1 + 1 + 1, 0, none⟩) 3 3, .slice none 0 0, .slice none 0 0, .slice none 0 0, .slice none 0 0, .slice none 0 0, .slice none 0 0, .slice none 0 0, .slice none 0 0] 24 ∧ Ext w W)
  ⟨by repeat (first | (refine Blk.newAt _ _ _ _ ?_; simp [hB]; done) | apply Blk.alloc), by repeat (first | (refine Blk.newAt _ _ _ _ ?_; simp [hB]; done) | apply Blk.alloc), by repeat (first | (refine Blk.newAt _ _ _ _ ?_; simp [hB]; done) | apply Blk.alloc), by repeat (first | (refine Blk.newAt _ _ _ _ ?_; simp [hB]; done) | apply Blk.alloc), by repeat (first | (refine Blk.newAt _ _ _ _ ?_; simp [hB]; done) | apply Blk.alloc), by repeat (first | (refine Blk.newAt _ _ _ _ ?_; simp [hB]; done) | apply Blk.alloc), by repeat (first | exact Ext.refl w | apply Ext.alloc)⟩ ?_
 rintro W0 ⟨b0, b2, b3, b4, b7, b8, hx0⟩
 obtain ⟨G, hcs, hok, hGl⟩ : ∃ G : G7, G.cs = [.slice (some ⟨B + 1 + 1 + 1, 0, none⟩) 3 3, .slice (some ⟨B + 1 + 1 + 1 + 1 + 1 + 1 + 1, 0, none⟩) 3 3, .slice none 0 0, .slice none 0 0, .slice none 0 0, .slice none 0 0, .slice none 0 0, .slice none 0 0, .slice none 0 0, .slice none 0 0] ∧ G.ok W0 ∧ G.l = g21 := by
  refine ⟨⟨⟨some ⟨B + 1 + 1 + 1, 0, none⟩, [⟨some ⟨B, 0, none⟩, 1, [1]⟩, ⟨some ⟨B + 1, 0, none⟩, 0, []⟩, ⟨some ⟨B + 1 + 1, 0, none⟩, 1, [1]⟩], 3⟩, ⟨some ⟨B + 1 + 1 + 1 + 1 + 1 + 1 + 1, 0, none⟩, [⟨some ⟨B + 1 + 1 + 1 + 1, 0, none⟩, 1, [2]⟩, ⟨some ⟨B + 1 + 1 + 1 + 1 + 1, 0, none⟩, 0, []⟩, ⟨some ⟨B + 1 + 1 + 1 + 1 + 1 + 1, 0, none⟩, 0, []⟩], 3⟩, tbNil, .slice none 0 0, .slice none 0 0, .slice none 0 0, tbNil, tbNil, tbNil, tbNil⟩, rfl, ⟨?_, ?_, tbNil_ok _, tbNil_ok _, tbNil_ok _, tbNil_ok _, tbNil_ok _⟩, rfl⟩
  ·refine ⟨⟨Blk.rdv b3, fun r hr => ?_⟩, (by show 3 ≤ 1000; omega), fun r hr => ?_⟩
   ·simp only [List.mem_cons, List.not_mem_nil, or_false] at hr
    rcases hr with rfl | rfl | rfl
    ·exact Blk.rdv b0
    ·exact .inl rfl
    ·exact Blk.rdv b2
   ·simp only [List.mem_cons, List.not_mem_nil, or_false] at hr
    rcases hr with rfl | rfl | rfl <;> simp
  ·refine ⟨⟨Blk.rdv b7, fun r hr => ?_⟩, (by show 3 ≤ 1000; omega), fun r hr => ?_⟩
   ·simp only [List.mem_cons, List.not_mem_nil, or_false] at hr
    rcases hr with rfl | rfl | rfl
    ·exact Blk.rdv b4
    ·exact .inl rfl
    ·exact .inl rfl
   ·simp only [List.mem_cons, List.not_mem_nil, or_false] at hr
    rcases hr with rfl | rfl | rfl <;> simp
 rw [← hcs] at b8
 generalize B + 1 + 1 + 1 + 1 + 1 + 1 + 1 + 1 = q at b8 ⊢
 have HO := Lib.hid (fun W (hx : Ext W0 W) Aon con (hon : RdV W Aon [.bool false, .bool false, .bool false]) (ban : List Jb) Ab cb (hb : RdJ W Ab ban) (hbl : ban.length ≤ 10000) => of_calls W G Aon con [false, false, false] 0 1 ban Ab cb (hok.ext hx) hon (by decide) hb hbl)
 rw [hGl] at HO
 have HT := Lib.hid (rowG7 G)
 clear b0 b2 b3 b4 b7 hcs hok hGl
 have hmk : (Instr.makeSlice 25 (.int .i64 3) (.int .i64 3)).run Try.prog W0 = .ok (.slice (some ⟨W0.heap.size, 0, none⟩) 3 3) (W0.alloc (.cells #[.bool false, .bool false, .bool false] 4)) := make_bools 3 (by omega) W0
 go_upto_region 3 with (fail)
 clear hmk
 refine Zep (fun W => Blk W W0.heap.size [.bool false, .bool false, .bool false] 4 ∧ Blk W q G.cs 24 ∧ Ext W0 W) ⟨Blk.newAt _ _ _ _ rfl, b8.alloc _, (Ext.refl W0).alloc _⟩ ?_
 obtain ⟨qo, hqo⟩ : ∃ qo, W0.heap.size = qo := ⟨_, rfl⟩
 rw [hqo]
 clear b8
 rintro W1 ⟨bo, bg, hx1⟩
 go_upto_region 4 with (fail)
 refine Zep (fun W => Blk W W1.heap.size [.int .i64 0, .int .u8 1] 32 ∧ Blk W qo [.bool false, .bool false, .bool false] 4 ∧ Blk W q G.cs 24 ∧ Ext W0 W) ⟨Blk.newAt _ _ _ _ rfl, bo.alloc _, bg.alloc _, Ext.alloc hx1 _⟩ ?_
 obtain ⟨qa, hqa⟩ : ∃ qa, W1.heap.size = qa := ⟨_, rfl⟩
 rw [hqa]
 clear bo bg hx1
 rintro W2 ⟨ba, bo, bg, hx2⟩
 have a0 := ba.cell 0 rfl
 have a1 := ba.cell 1 rfl
 have H1 := HO.out W2 hx2 (some ⟨qo, 0, none⟩) 3 (Blk.rdv bo) [] none 0 (.inl rfl) (by decide)
 rw [of21a] at H1
 replace H1 := Lib.hid H1
 go_upto_region 5 with (first
  | (refine Zcv rfl 24 (.tmp 1) rfl q rfl HT.out bg ?_)
  | (go_at_call 14; refine H1.out.mono ?_; rintro e W3 ⟨v1, rfl, o1, hx3⟩))
 replace ba := ba.ext hx3
 replace bo := bo.ext hx3
 replace bg := bg.ext hx3
 have hx3' : Ext W0 W3 := Ext.trans hx2 hx3
 clear a0 a1 H1 hx2 hx3
 have a0 := ba.cell 0 rfl
 have a1 := ba.cell 1 rfl
 have hx3a : Ext W0 (W3.alloc (.cells #[.int .i64 2, .int .u8 1] 32)) := Ext.alloc hx3' _
 have H2 := HO.out (W3.alloc (.cells #[.int .i64 2, .int .u8 1] 32)) hx3a (some ⟨qo, 0, none⟩) 3 (Blk.rdv (bo.alloc _)) [(2, 1)] (some ⟨W3.heap.size, 0, none⟩) 1 (RdJ.one (Blk.newAt W3 [.int .i64 2, .int .u8 1] 32 _ rfl)) (by decide)
 rw [of21b] at H2
 replace H2 := Lib.hid H2
 go_upto_region 6 with (first
  | (refine Zcv rfl 24 (.tmp 1) rfl q rfl HT.out bg ?_)
  | (go_at_call 14; refine H2.out.mono ?_; rintro e W4 ⟨v2, rfl, o2, hx4⟩))
 have hx4' : Ext W3 W4 := Ext.trans ((Ext.refl W3).alloc _) hx4
 replace ba := ba.ext hx4'
 replace bo := bo.ext hx4'
 replace bg := bg.ext hx4'
 replace o1 := Owns.ext o1 hx4'
 have hx4'' : Ext W0 W4 := Ext.trans hx3' hx4'
 clear a0 a1 H2 hx3a hx4 hx4' hx3'
 have a0 := ba.cell 0 rfl
 have a1 := ba.cell 1 rfl
 have hx4a : Ext W0 (W4.alloc (.cells #[.int .i64 1, .int .u8 1] 32)) := Ext.alloc hx4'' _
 have H3 := HO.out (W4.alloc (.cells #[.int .i64 1, .int .u8 1] 32)) hx4a (some ⟨qo, 0, none⟩) 3 (Blk.rdv (bo.alloc _)) [(1, 1)] (some ⟨W4.heap.size, 0, none⟩) 1 (RdJ.one (Blk.newAt W4 [.int .i64 1, .int .u8 1] 32 _ rfl)) (by decide)
 rw [of21c] at H3
 replace H3 := Lib.hid H3
 go_upto_region 7 with (first
  | (refine Zcv rfl 24 (.tmp 1) rfl q rfl HT.out bg ?_)
  | (go_at_call 14; refine H3.out.mono ?_; rintro e W5 ⟨v3, rfl, o3, hx5⟩))
 have hx5' : Ext W4 W5 := Ext.trans ((Ext.refl W4).alloc _) hx5
 replace o1 := Owns.ext o1 hx5'
 replace o2 := Owns.ext o2 hx5'
 have hxw : Ext w W5 := Ext.trans hx0 (Ext.trans hx4'' hx5')
 clear a0 a1 H3 hx4a hx5 hx5' hx4'' ba bo bg o3
 obtain ⟨A1, c1, rfl, hc1, hr1, _⟩ := OwnsI.rd o1
 obtain ⟨A2, c2, rfl, hc2, hr2, _⟩ := OwnsI.rd o2
 obtain ⟨b1, o1', u, t, m, rfl, he, f1, f2, f3⟩ := hr1.at (i := 0) (by decide)
 rcases hr1 with hr1 | ⟨b1', o1'', h1, h2⟩
 ·cases hr1
 cases h1
 rcases hr2 with hr2 | ⟨b2, o2', h3, h4⟩
 ·cases hr2
 subst h3
 have x0 := (h2 0 0 1 true rfl).2.2
 have x1 := (h2 1 1 1 true rfl).2.2
 have x2 := (h2 2 2 1 false rfl).2.2
 have x3 := (h2 2 2 1 false rfl).2.1
 have x4 := (h4 1 1 1 true rfl).2.2
 simp only [Nat.zero_mul, Nat.add_zero, Nat.one_mul] at x0 x1 x2 x3 x4
 clear f1 f2 f3 he h2 h4 o1 o2
 clear HO HT
 simp only [List.length_cons, List.length_nil, Nat.zero_add, Nat.reduceAdd] at *
 go_wp2_with fail
 go_ret
 exact ⟨rfl, hxw⟩
end Go.Proofs.Ytclgclcoblfddaa
namespace Go.Proofs.Ytclgclcoblfddaa
open Go.RowKit Go.Lib
set_option linter.unusedVariables false
set_option linter.unusedSimpArgs false
def firstP {α : Type} (p : α → Bool) : List α → Nat
 | [] => 0
 | x :: l => if p x then 0 else firstP p l + 1
theorem firstP_take {α : Type} {p : α → Bool} : ∀ {l : List α}, ∀ x ∈ l.take (firstP p l), p x = false
 | [], x, h => by simp at h
 | y :: l, x, h => by
  unfold firstP at h
  cases hy : p y with
  | true => rw [hy] at h; simp at h
  | false =>
   rw [hy] at h
   simp at h
   rcases h with rfl | h
   ·exact hy
   ·exact firstP_take x h
theorem firstP_at {α : Type} {p : α → Bool} : ∀ {l : List α} {x : α}, l[firstP p l]? = some x → p x = true
 | [], x, h => by cases h
 | y :: l, x, h => by
  unfold firstP at h
  cases hy : p y with
  | true => rw [hy] at h; simp at h; rw [← h]; exact hy
  | false => rw [hy] at h; simp at h; exact firstP_at h
structure DelSt {α : Type} (p : α → Bool) (l : List α) (j i : Nat) (xs : List α) : Prop where
 len : xs.length = l.length
 hj : j ≤ l.length
 cnt : i = ((l.take j).filter fun x => !p x).length
 pre : xs.take i = (l.take j).filter fun x => !p x
 post : xs.drop j = l.drop j
theorem DelSt.first {α : Type} {p : α → Bool} {l : List α} {m : Nat} (h : firstP p l = m) (hm : m < l.length) : DelSt p l (m + 1) m l := by
 have h1 : ∀ x ∈ l.take m, p x = false := fun x hx => by rw [← h] at hx; exact firstP_take x hx
 have h2 : p l[m] = true := firstP_at (l := l) (by rw [h]; exact List.getElem?_eq_getElem hm)
 have h3 : (l.take m).filter (fun x => !p x) = l.take m := List.filter_eq_self.2 fun x hx => by simp [h1 x hx]
 have h4 : (l.take (m + 1)).filter (fun x => !p x) = l.take m := by
  rw [List.take_succ_eq_append_getElem hm, List.filter_append, h3]
  simp [h2]
 exact ⟨rfl, by omega, by rw [h4, List.length_take]; omega, h4.symm, rfl⟩
theorem DelSt.lt {α : Type} {p : α → Bool} {l : List α} {j i : Nat} {xs : List α} (h : DelSt p l j i xs) {m : Nat} (h1 : firstP p l = m) (hm : m < j) : i < j := by
 have hml : m < l.length := by have := h.hj; omega
 have h2 : p l[m] = true := firstP_at (l := l) (by rw [h1]; exact List.getElem?_eq_getElem hml)
 rw [h.cnt]
 have h3 : ((l.take j).filter fun x => !p x).length < (l.take j).length := by
  refine Nat.lt_of_le_of_ne (List.length_filter_le _ _) fun e => ?_
  have := List.length_filter_eq_length_iff.1 e l[m] (List.mem_take_iff_getElem.2 ⟨m, by omega, by simp⟩)
  simp [h2] at this
 rw [List.length_take] at h3
 omega
theorem DelSt.keep {α : Type} {p : α → Bool} {l : List α} {j i : Nat} {xs : List α} (h : DelSt p l j i xs) {x : α} (hx : l[j]? = some x) (hp : p x = false) (hij : i < j) : DelSt p l (j + 1) (i + 1) (xs.set i x) := by
 have hjl : j < l.length := (List.getElem?_eq_some_iff.1 hx).1
 have hxx : l[j] = x := by rw [List.getElem?_eq_getElem hjl] at hx; exact Option.some.inj hx
 have h1 : (l.take (j + 1)).filter (fun x => !p x) = (l.take j).filter (fun x => !p x) ++ [x] := by
  rw [List.take_succ_eq_append_getElem hjl, List.filter_append, hxx]
  simp [hp]
 have hlen := h.len
 refine ⟨by simp [hlen], by omega, by rw [h1, List.length_append, ← h.cnt]; rfl, ?_, ?_⟩
 ·rw [h1, ← h.pre, List.take_succ_eq_append_getElem (by simp; omega), List.take_set_of_le (Nat.le_refl _)]
  simp
 ·rw [List.drop_set_of_lt (by omega)]
  have := congrArg (List.drop 1) h.post
  rwa [List.drop_drop, List.drop_drop] at this
theorem DelSt.at {α : Type} {p : α → Bool} {l : List α} {j i : Nat} {xs : List α} (h : DelSt p l j i xs) (hj : j < l.length) : xs[j]? = l[j]? := by
 have := congrArg (fun l => l[0]?) h.post
 simpa using this
theorem RdJ.cells {W : World} {b o : Nat} {l : List Jb} (h : RdJ W (some ⟨b, o, none⟩) l) {j : Nat} {y : Value} (hj : (Zcr l)[j]? = some y) : W.cell? ⟨b, o + j, none⟩ = some y := by
 have hlt := (List.getElem?_eq_some_iff.1 hj).1
 rw [cellsJ_length] at hlt
 rcases h with h | ⟨b', o', he, hc⟩
 ·subst h; simp at hlt
 ·cases he
  have hd : j / 2 < l.length := by omega
  obtain ⟨x, hx⟩ : ∃ x, l[j / 2]? = some x := ⟨_, List.getElem?_eq_getElem hd⟩
  obtain ⟨u, t⟩ := x
  obtain ⟨g1, g2⟩ := cellsJ_get l (j / 2) u t hx
  obtain ⟨k1, k2⟩ := hc (j / 2) u t hx
  rcases Nat.mod_two_eq_zero_or_one j with h2 | h2
  ·have e : j / 2 * 2 = j := by omega
   rw [e] at g1 k1
   rw [g1] at hj
   cases hj
   exact k1
  ·have e : j / 2 * 2 + 1 = j := by omega
   rw [e] at g2
   rw [show o + j / 2 * 2 + 1 = o + j by omega] at k2
   rw [g2] at hj
   cases hj
   exact k2
end Go.Proofs.Ytclgclcoblfddaa
namespace Go.Proofs.Ytclgclcoblfddaa
open Go.RowKit Go.Shelf Go.Sort
set_option linter.unusedVariables false
set_option linter.unusedSimpArgs false
def Grew (w w' : World) : Prop := ∃ q os', w' = grow (w.drewN q) os'
theorem Grew.alloc {w w' : World} (h : Grew w w') (o : Obj) : Grew w (w'.alloc o) := by
 obtain ⟨q, os, rfl⟩ := h
 exact ⟨q, os ++ #[o], by rw [alloc_eq_grow, grow_grow]⟩
theorem Grew.refl (w : World) : Grew w w := ⟨0, #[], by rw [grow_empty]; rfl⟩
theorem Grew.trans {a b c : World} (h : Grew a b) (k : Grew b c) : Grew a c := by
 obtain ⟨q, os, rfl⟩ := h
 obtain ⟨q', os', rfl⟩ := k
 refine ⟨q + q', os ++ os', ?_⟩
 rw [show (grow (a.drewN q) os).drewN q' = grow ((a.drewN q).drewN q') os from rfl, grow_grow, World.drewN_drewN]
theorem Grew.blk {w w' : World} (h : Grew w w') {g : Nat} {cs : List Value} {T : TypeId} (hb : Blk w g cs T) : Blk w' g cs T := by
 obtain ⟨q, os, rfl⟩ := h
 have hlt := hb.lt
 unfold Blk at *
 show (w.heap ++ os)[g]? = _
 rw [Array.getElem?_append_left hlt]
 exact hb
end Go.Proofs.Ytclgclcoblfddaa
