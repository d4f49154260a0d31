/- Parts of slices, whatever their address. -/
import Derived.Test.YthgepclmlhbbaaaRowLaw
import Derived.Test.YthgepclmlhbbaaaRef04Sum
namespace Go.Proofs.Ythgepclmlhbbaaa
open Go.RowKit
set_option linter.unusedVariables false
set_option linter.unusedSimpArgs false

/-- A part of a slice. -/
def partA (A : Option Addr) (cap l : Nat) : Option Addr := if cap = l then A else A.map (·.add l)
theorem RdV.part {W : World} {A : Option Addr} {msg : List Int} (h : RdV W A (nums8 msg)) (cap l n : Nat) (hcap : msg.length ≤ cap) (hl : l ≤ msg.length) : RdV W (partA A cap l) (nums8 ((msg.drop l).take n)) := by
  by_cases h0 : (msg.drop l).take n = []
  · exact .inl (by rw [h0]; rfl)
  have hlt : l < msg.length := by
    rcases Nat.lt_or_ge l msg.length with h | h
    · exact h
    · rw [List.drop_eq_nil_of_le h] at h0; simp at h0
  rcases h with h | ⟨b, o, rfl, h⟩
  · have : msg = [] := List.map_eq_nil_iff.1 h
    subst this
    simp at hlt
  · refine .inr ⟨b, o + l, ?_, fun j v hv => ?_⟩
    · unfold partA
      rw [if_neg (by omega)]
      simp only [Option.map_some, Addr.add]
      split
      · rename_i e; subst e; rfl
      · rfl
    · simp only [nums8, List.getElem?_map, List.getElem?_take] at hv
      split at hv
      · rw [List.getElem?_drop] at hv
        rw [Nat.add_assoc]
        exact h (l + j) v (by simpa [nums8] using hv)
      · cases hv
theorem partA_ne {A : Option Addr} {cap l : Nat} {g : Nat} (h : ∀ a, A = some a → a.block ≠ g) : ∀ a, partA A cap l = some a → a.block ≠ g := by
  intro a ha
  unfold partA at ha
  split at ha
  · exact h a ha
  · cases A with
    | none => cases ha
    | some x =>
      cases ha
      have := h x rfl
      simp only [Addr.add]
      split <;> exact this
theorem RdV.take {W : World} {A : Option Addr} {msg : List Int} (h : RdV W A (nums8 msg)) (n : Nat) : RdV W A (nums8 (msg.take n)) := by
  rcases h with h | ⟨b, o, rfl, h⟩
  · have : msg = [] := List.map_eq_nil_iff.1 h
    subst this
    exact .inl (by simp [nums8])
  · refine .inr ⟨b, o, rfl, fun j v hv => ?_⟩
    simp only [nums8, List.getElem?_map, List.getElem?_take] at hv
    split at hv
    · exact h j v (by simpa [nums8] using hv)
    · cases hv
theorem RdV.lt {W : World} {A : Option Addr} {vs : List Value} (h : RdV W A vs) (hne : vs ≠ []) : ∃ b o, A = some ⟨b, o, none⟩ ∧ b < W.heap.size := by
  rcases h with h | ⟨b, o, rfl, h⟩
  · exact absurd h hne
  · cases vs with
    | nil => exact absurd rfl hne
    | cons v vs => exact ⟨b, o, rfl, World.block_lt_of_cell? W _ (h 0 v rfl)⟩
theorem take_step (msg : List Int) (l h : Nat) (hl : l ≤ h) : msg.take l ++ (msg.drop l).take (h - l) = msg.take h := by
  have := List.take_add (l := msg) (i := l) (j := h - l)
  rw [← this, Nat.add_sub_cancel' hl]

section
variable {P : Program}
theorem run_slice_part {t e : TypeId} (ht : P.underlying t = some (.slice e)) (hs : (P.info? e).map (·.size) = some 1) (A : Option Addr) (len cap : Nat) (kl kh : IntKind) (l h : Nat) (h1 : l ≤ h) (h2 : h ≤ cap) (w : World) :
    (Instr.sliceAt t (.slice A len cap) (some (.int kl l)) (some (.int kh h)) none).run P w = .ok (.slice (partA A cap l) (h - l) (cap - l)) w := by
  have he : P.elem t = e := by simp [Program.elem, ht]
  have ht' : P.underlying t = some (.slice (P.elem t)) := by rw [he]; exact ht
  have hz : (sizeOf (P.elem t)).run P w = .ok 1 w := by
    rw [he]
    cases hq : P.info? e with
    | none => simp [hq] at hs
    | some i => simp [hq] at hs; simp [sizeOf, typeInfo, hq, hs]
  rw [run_sliceAt_slice w t _ _ _ _ ht', run_slice_lh w t A len cap ht' kl kh l h (by omega) (by omega) (by omega), hz]
  simp [Result.andThen, sliced, partA]
theorem run_slice_head {t e : TypeId} (ht : P.underlying t = some (.slice e)) (hs : (P.info? e).map (·.size) = some 1) (A : Option Addr) (len cap : Nat) (kh : IntKind) (h : Nat) (h2 : h ≤ cap) (w : World) :
    (Instr.sliceAt t (.slice A len cap) none (some (.int kh h)) none).run P w = .ok (.slice A h cap) w := by
  have he : P.elem t = e := by simp [Program.elem, ht]
  have ht' : P.underlying t = some (.slice (P.elem t)) := by rw [he]; exact ht
  have hz : (sizeOf (P.elem t)).run P w = .ok 1 w := by
    rw [he]
    cases hq : P.info? e with
    | none => simp [hq] at hs
    | some i => simp [hq] at hs; simp [sizeOf, typeInfo, hq, hs]
  rw [run_sliceAt_slice w t _ _ _ _ ht', run_slice_h w t A len cap ht' kh h (by omega) (by omega), hz]
  have : A.map (fun x => x.add 0) = A := by cases A <;> simp [Addr.add]
  simp [Result.andThen, sliced, this]

theorem wpList_slice_part {w : World} {ops : Array Oper} {rest : List Oper} {o : Oper} {a : Act} {Q : Exit → Act → World → Prop} (hw : Region.wanted o (yielded ops a.tmps) = true) (t : TypeId) (x lo hi : Operand) (ho : o.op = .slice t x (some lo) (some hi) none)
    {e : TypeId} (ht : P.underlying t = some (.slice e)) (hs : (P.info? e).map (·.size) = some 1) (A : Option Addr) (len cap : Nat) (hx : a.eval x = .slice A len cap) (kl kh : IntKind) (l h : Nat) (hl : a.eval lo = .int kl l) (hh : a.eval hi = .int kh h) (h1 : l ≤ h) (h2 : h ≤ cap)
    (hk : wpList P ops Q rest (a.put o.dst (.slice (partA A cap l) (h - l) (cap - l))) w) : wpList P ops Q (o :: rest) a w := by
  unfold wpList
  rw [if_pos hw]
  refine .inl ?_
  unfold Oper.wp
  simp only [execOp, ho, hx, hl, hh, Option.map_some, Option.map_none, Sem.run_bind, run_slice_part ht hs A len cap kl kh l h h1 h2 w, Result.andThen]
  exact hk
theorem wpList_slice_head {w : World} {ops : Array Oper} {rest : List Oper} {o : Oper} {a : Act} {Q : Exit → Act → World → Prop} (hw : Region.wanted o (yielded ops a.tmps) = true) (t : TypeId) (x hi : Operand) (ho : o.op = .slice t x none (some hi) none)
    {e : TypeId} (ht : P.underlying t = some (.slice e)) (hs : (P.info? e).map (·.size) = some 1) (A : Option Addr) (len cap : Nat) (hx : a.eval x = .slice A len cap) (kh : IntKind) (h : Nat) (hh : a.eval hi = .int kh h) (h2 : h ≤ cap)
    (hk : wpList P ops Q rest (a.put o.dst (.slice A h cap)) w) : wpList P ops Q (o :: rest) a w := by
  unfold wpList
  rw [if_pos hw]
  refine .inl ?_
  unfold Oper.wp
  simp only [execOp, ho, hx, hh, Option.map_some, Option.map_none, Sem.run_bind, run_slice_head ht hs A len cap kh h h2 w, Result.andThen]
  exact hk
theorem quietAt_slice_head {W : World} {C : World → Prop} {a : Act} {o : Oper} (t : TypeId) (x hi : Operand) (ho : o.op = .slice t x none (some hi) none)
    {e : TypeId} (ht : P.underlying t = some (.slice e)) (hs : (P.info? e).map (·.size) = some 1) (A : Option Addr) (len cap : Nat) (hx : a.eval x = .slice A len cap) (kh : IntKind) (h : Nat) (hh : a.eval hi = .int kh h) (h2 : h ≤ cap) :
    Oper.quietAt P o a C W (.slice A h cap) := by
  refine quietAt_value ?_
  simp only [execOp, ho, hx, hh, Option.map_some, Option.map_none, Sem.run_bind, run_slice_head ht hs A len cap kh h h2 W, Result.andThen]
  rfl
end
end Go.Proofs.Ythgepclmlhbbaaa
