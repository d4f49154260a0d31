/- Chapter 21: row, as an iterator. -/
import Derived.Test.YtclgclcoblfddaaMem
import Derived.Lib.Hide
import Derived.RangeFuncBox
import Derived.RangeFuncNested
import Derived.RangeFuncBound
import Derived.RangeFuncCalls
import Derived.RangeFuncLeaves
import Derived.Shelf.RegionOpen
import Derived.OwnWalkIn
import Derived.TacticsInMore
import Derived.LoopNIn
import Derived.LoopIn
namespace Go.Proofs.Ytclgclcoblfddaa
open Go.RowKit Go.Shelf
set_option linter.unusedVariables false
set_option linter.unusedSimpArgs false
attribute [local go_sem] Oper.semAt_some

/-- Old blocks as they were. -/
def Old (B0 : Nat) (A B : World) : Prop := ∀ k, k < B0 → B.heap[k]? = A.heap[k]?
theorem Old.cell {B0 : Nat} {A B : World} (h : Old B0 A B) (hA : A.heap.size ≤ B0) {p : Addr} {v : Value} (hc : A.cell? p = some v) : B.cell? p = some v := by
  have hlt : p.block < A.heap.size := by
    unfold World.cell? at hc
    rcases Nat.lt_or_ge p.block A.heap.size with h1 | h1
    · exact h1
    · rw [Array.getElem?_eq_none h1] at hc; simp at hc
  have := h p.block (by omega)
  unfold World.cell? at hc ⊢
  rw [this]
  exact hc
theorem Old.rdv {B0 : Nat} {A B : World} (h : Old B0 A B) (hA : A.heap.size ≤ B0) {a : Option Addr} {vs : List Value} (hr : RdV A a vs) : RdV B a vs := by
  rcases hr with hr | ⟨b, o, e, hc⟩
  · exact .inl hr
  · exact .inr ⟨b, o, e, fun j v hv => h.cell hA (hc j v hv)⟩
theorem Old.rdr {B0 : Nat} {A B : World} (h : Old B0 A B) (hA : A.heap.size ≤ B0) {a : Option Addr} {rs : List Row} (hr : RdR A a rs) : RdR B a rs := ⟨h.rdv hA hr.1, fun r hr' => h.rdv hA (hr.2 r hr')⟩
/-- Of a unit's row those that there are, but itself. -/
def okB (u many n : Int) : Bool := decide (0 ≤ n) && decide (n < many) && decide (n ≠ u)
abbrev OkE (u many : Int) := { x : Int // okB u many x = true }
def okS (u many x : Int) : Option (OkE u many) := if h : okB u many x = true then some ⟨x, h⟩ else none
def rowS (u many : Int) (xs : List Int) : List (OkE u many) := xs.filterMap (okS u many)
theorem rowS_map (u many : Int) (xs : List Int) : (rowS u many xs).map (·.1) = xs.filter (okB u many) := by
  induction xs with
  | nil => rfl
  | cons x xs ih =>
    unfold rowS at ih ⊢
    rw [List.filterMap_cons, List.filter_cons]
    unfold okS at ih ⊢
    split
    · rename_i h
      split at h
      · cases h
      · rename_i h'; rw [if_neg h']; exact ih
    · rename_i y h
      split at h
      · rename_i h'; cases h; rw [if_pos h', List.map_cons, ih]
      · cases h
theorem rowS_length (u many : Int) (xs : List Int) : (rowS u many xs).length = (xs.filter (okB u many)).length := by rw [← rowS_map, List.length_map]
def rowU (tb : List (List Int)) (u many : Int) : List Int := (tb.getD u.toNat []).filter (okB u many)
/-- What stays while the iterator runs. -/
def KpS (keep : Nat → Prop) (A B : World) : Prop := ∀ k, keep k → B.heap[k]? = A.heap[k]?
theorem KpS.trans {keep : Nat → Prop} {A B C : World} (h : KpS keep A B) (k : KpS keep B C) : KpS keep A C := fun i hi => (k i hi).trans (h i hi)
theorem KpS.cell {keep : Nat → Prop} {A B : World} (h : KpS keep A B) {b : Nat} (hb : keep b) (o : Nat) : B.cell? ⟨b, o, none⟩ = A.cell? ⟨b, o, none⟩ := by simp [World.cell?, h b hb]

set_option maxRecDepth 100000 in
set_option maxHeartbeats 4000000 in
theorem row_seq (F : Fence) (n : Nat) (hF : F.fn 76) (hro : F.round = none) (hn : 1 ≤ n) (keep : Nat → Prop) (b1 b2 b3 c : Nat) (u : Nat) (many : Int) (A : Option Addr) (rs : List Row) (w0 w : World)
    (h1 : w.cell? ⟨b1, 0, none⟩ = some (.int .i64 u)) (h2 : w.cell? ⟨b2, 0, none⟩ = some (.slice A rs.length c)) (h3 : w.cell? ⟨b3, 0, none⟩ = some (.int .i64 many)) (k1 : keep b1) (k2 : keep b2) (k3 : keep b3)
    (hr : RdR w0 A rs) (hk0 : ∀ k, k < w0.heap.size → keep k) (hold : Old w0.heap.size w0 w) (hkw : ∀ k, keep k → k < w.heap.size) (hrow : ∀ r ∈ rs, r.xs.length ≤ 1000000) (hlen : rs.length ≤ 1000000) :
    SeqStopsK F n Try.prog 76 #[.pointer (some ⟨b1, 0, none⟩), .pointer (some ⟨b2, 0, none⟩), .pointer (some ⟨b3, 0, none⟩)] (fun x : OkE u many => #[.int .i64 x.1]) (KpS keep) (fun xs => xs.map (·.1) = rowU (rows rs) u many) (fun _ => True) (rowU (rows rs) u many).length w := by
  intro l J Jx W hW hJ hJx hY h0
  have e1 : W.cell? ⟨b1, 0, none⟩ = some (.int .i64 u) := (hW.cell (p := ⟨b1, 0, none⟩) (hkw _ k1)).trans h1
  have e2 : W.cell? ⟨b2, 0, none⟩ = some (.slice A rs.length c) := (hW.cell (p := ⟨b2, 0, none⟩) (hkw _ k2)).trans h2
  have e3 : W.cell? ⟨b3, 0, none⟩ = some (.int .i64 many) := (hW.cell (p := ⟨b3, 0, none⟩) (hkw _ k3)).trans h3
  have ho : Old w0.heap.size w0 W := fun k hk => (hW.block k (hkw _ (hk0 k hk))).trans (hold k hk)
  clear h1 h2 h3 hW hold
  refine callsIn_of_wp Try.func76 rfl hF ?_ hro
  simp only [Try.ntmps76, List.size_toArray, List.length_cons, List.length_nil, Nat.reduceAdd, Nat.reduceSub, Array.replicate_succ, Array.replicate_zero, List.push_toArray, List.append_toArray, List.nil_append, List.cons_append]
  by_cases hu : u < rs.length
  case neg =>
    have hui : ¬ (u : Int) < rs.length := by omega
    have hui' : (rs.length : Int) ≤ u := by omega
    have hnil : rowU (rows rs) u many = [] := by
      unfold rowU
      rw [Int.toNat_natCast, List.getD_eq_getElem?_getD, List.getElem?_eq_none (by rw [rows_length]; omega)]; rfl
    gi_wp2
    refine bodyPost_ret (results_none rfl _ _ _) rfl ?_
    exact ⟨⟨_, rfl⟩, .inl ⟨[], (by first | rfl | (rw [hnil]; rfl)), h0⟩⟩
  case pos =>
    have hui : (u : Int) < rs.length := by omega
    have hui' : ¬ (rs.length : Int) ≤ u := by omega
    obtain ⟨b, o, B, cap, xs, rfl, he, f1, f2⟩ := (ho.rdr (Nat.le_refl _) hr).at hu
    have hxs : (rows rs).getD u [] = xs := by rw [List.getD_eq_getElem?_getD, rows_get, he]; rfl
    have hxl : xs.length ≤ 1000000 := hrow _ (List.mem_of_getElem? he)
    have hrowU : rowU (rows rs) u many = xs.filter (okB u many) := by unfold rowU; rw [Int.toNat_natCast, hxs]
    have hrx := (hr.2 _ (List.mem_of_getElem? he))
    rw [hrowU] at hY
    gi_wp2
    gi_loopw [6, 16] (fun v6 v wr => ∃ j : Nat, j ≤ xs.length ∧ v = .int .i64 j ∧ J (rowS u many (xs.take j)) wr ∧ wr.cell? ⟨b1, 0, none⟩ = some (.int .i64 u) ∧ wr.cell? ⟨b3, 0, none⟩ = some (.int .i64 many) ∧ Old w0.heap.size w0 wr)
      (fun _ v _ => xs.length - (RowKit.intOf v).toNat)
    case atStart => exact ⟨0, Nat.zero_le _, rfl, h0, e1, e3, ho⟩
    case round =>
      obtain ⟨j, hj, rfl, hJs, c1, c3, hov⟩ := hrel
      have hrv : RdV wr B (ints xs) := hov.rdv (Nat.le_refl _) hrx
      by_cases hjl : j < xs.length
      case neg =>
        have hji : ¬ (j : Int) < xs.length := by omega
        obtain rfl : j = xs.length := by omega
        rw [List.take_length] at hJs
        gi_wp2
        go_end0
        exact ⟨⟨_, rfl⟩, .inl ⟨_, (by first | exact rowS_map u many xs | (rw [hrowU]; exact rowS_map u many xs)), hJs⟩⟩
      case pos =>
        have hji : (j : Int) < xs.length := by omega
        obtain ⟨x, hx⟩ : ∃ x, xs[j]? = some x := ⟨_, List.getElem?_eq_getElem hjl⟩
        have htk : xs.take (j + 1) = xs.take j ++ [x] := by rw [List.take_add_one, hx]; rfl
        obtain ⟨bx, ox, rfl, hcx⟩ : ∃ b o, B = some ⟨b, o, none⟩ ∧ wr.cell? ⟨b, o + j, none⟩ = some (.int .i64 x) := by
          rcases hrv with hrv | ⟨b, o, e, hc⟩
          · have : xs = [] := List.map_eq_nil_iff.1 hrv
            rw [this] at hjl; simp at hjl
          · exact ⟨b, o, e, hc j _ (by simp [ints, hx])⟩
        have hfl : okB u many x = false → rowS u many (xs.take (j + 1)) = rowS u many (xs.take j) := fun h => by
          rw [htk]; unfold rowS; rw [List.filterMap_append]; simp [okS, h]
        have hft : ∀ h : okB u many x = true, rowS u many (xs.take (j + 1)) = rowS u many (xs.take j) ++ [⟨x, h⟩] := fun h => by
          rw [htk]; unfold rowS; rw [List.filterMap_append]; simp [okS, h]
        have HFL := Lib.hid hfl
        have HFT := Lib.hid hft
        have HX := Lib.hid hx
        clear hfl hft hx htk
        by_cases q1 : 0 ≤ x
        case neg =>
          have hk : okB u many x = false := by unfold okB; rw [decide_eq_false q1]; rfl
          have q1' : x < 0 := by omega
          gi_wp2
          refine ⟨fun f_ h_ => (by cases h_), ?_⟩
          gi_wp2
          go_roundw
          case rel => exact ⟨j + 1, by omega, by go_num, by rw [HFL.out hk]; exact hJs, c1, c3, hov⟩
          case measure => simp [RowKit.intOf]; omega
        by_cases q2 : x < many
        case neg =>
          have hk : okB u many x = false := by unfold okB; rw [decide_eq_false q2, Bool.and_false]; rfl
          have q2' : many ≤ x := by omega
          gi_wp2
          refine ⟨fun f_ h_ => (by cases h_), ?_⟩
          gi_wp2
          go_roundw
          case rel => exact ⟨j + 1, by omega, by go_num, by rw [HFL.out hk]; exact hJs, c1, c3, hov⟩
          case measure => simp [RowKit.intOf]; omega
        by_cases q3 : x = u
        case pos =>
          have hk : okB u many x = false := by unfold okB; rw [decide_eq_false (p := x ≠ u) (by simp [q3]), Bool.and_false]
          have q3' : (x == (u : Int)) = true := by simpa using q3
          have q3'' : (x != (u : Int)) = false := by simpa using q3
          have HQ := Lib.hid q3
          clear q3
          gi_wp2
          refine ⟨fun f_ h_ => (by cases h_), ?_⟩
          gi_wp2
          go_roundw
          case rel => exact ⟨j + 1, by omega, by go_num, by rw [HFL.out hk]; exact hJs, c1, c3, hov⟩
          case measure => simp [RowKit.intOf]; omega
        case neg =>
          have hk : okB u many x = true := by unfold okB; rw [decide_eq_true q1, decide_eq_true q2, decide_eq_true q3]; rfl
          have q3' : (x == (u : Int)) = false := by simpa using q3
          have q3'' : (x != (u : Int)) = true := by simpa using q3
          have hlt : (rowS u many (xs.take j)).length < (xs.filter (okB u many)).length := by
            have h1 : rowS u many xs = rowS u many (xs.take (j + 1)) ++ rowS u many (xs.drop (j + 1)) := by unfold rowS; rw [← List.filterMap_append, List.take_append_drop]
            rw [← rowS_length, h1, HFT.out hk]
            simp <;> omega
          obtain ⟨fn, tmps, assign, body, hy, hR⟩ := hY _ ⟨x, hk⟩ _ hJs hlt
          have hy : (Instr.yield l #[.int .i64 x]).run Try.prog wr = _ := hy
          clear hY hlt
          gi_wp2
          refine hR.mono ?_
          rintro e W3 (⟨rfl, hJ4, hk3⟩ | ⟨rfl, hJx⟩)
          · gi_wp2
            go_roundw
            case rel => exact ⟨j + 1, by omega, by go_num, by rw [HFT.out hk]; exact hJ4, (hk3.cell k1 0).trans c1, (hk3.cell k3 0).trans c3, fun k hk => (hk3 k (hk0 k hk)).trans (hov k hk)⟩
            case measure => simp [RowKit.intOf]; omega
          · gi_wp2
            refine bodyPost_ret (results_none rfl _ _ _) rfl ?_
            exact ⟨⟨_, rfl⟩, .inr ⟨_, by first | trivial | exact hJx, hJx⟩⟩
end Go.Proofs.Ytclgclcoblfddaa
