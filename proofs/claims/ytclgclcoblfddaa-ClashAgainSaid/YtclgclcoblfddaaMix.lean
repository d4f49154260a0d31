/- Regions that draw their order: what only reads is taken first, the rest follows in the one order that is left; what the reads see must stay only till all of them are taken. -/
import Derived.Test.YtclgclcoblfddaaQuiet
import Derived.OrdersHeld
namespace Go.Proofs.Ytclgclcoblfddaa
open Go.RowKit
set_option linter.unusedVariables false
section
variable {P : Program} {ops : Array Oper} {md : Region.Mode} {S : World → Prop} {Q : Exit → Act → World → Prop}

/-- No panic. -/
def QF (Q : Exit → Act → World → Prop) : Exit → Act → World → Prop
  | .panic _, _, _ => False
  | e, a, w => Q e a w
def Q0 (Q : Exit → Act → World → Prop) : Exit → Act → World → Prop := Exit.then (fun a w => Q .normal a w) (QF Q)
theorem Q0_le (e : Exit) (a : Act) (w : World) (h : Q0 Q e a w) : Q e a w := by
  cases e <;> first | exact h | exact h.elim

def wpAnyT (P : Program) (md : Region.Mode) (ops : Array Oper) (Q : Exit → Act → World → Prop) (S : World → Prop) (n : Nat) : Nat → Array Bool → Act → World → Prop
  | 0, listed, a, w => Region.ready md ops listed = [] ∧ Q .normal a w
  | fuel + 1, listed, a, w =>
    (Region.ready md ops listed = [] → Q .normal a w) ∧
    ∀ i ∈ Region.ready md ops listed, wpOp P ops Q i (fun a' w' => (i < n → S w') ∧ wpAnyT P md ops Q S n fuel (listed.setIfInBounds i true) a' w') a w
theorem wpAny_of_T {n : Nat} : ∀ (fuel : Nat) (listed : Array Bool) (a : Act) (w : World), wpAnyT P md ops Q S n fuel listed a w → wpAny P md ops Q fuel listed a w
  | 0, _, _, _, h => h
  | fuel + 1, _, _, _, h => ⟨h.1, fun i hi => wpOp_mono (fun a' w' h' => wpAny_of_T fuel _ a' w' h'.2) (h.2 i hi)⟩

theorem wpAnyT_first {n i : Nat} {oi : Oper} {v : Value} (hi : ops[i]? = some oi) (hsel : ∀ (j : Nat) (o : Oper) cs b, ops[j]? = some o → o.op ≠ .select cs b)
    (hQ : ∀ c a w, Q (.panic c) (a.put oi.dst v) w → Q (.panic c) a w)
    (hwt : ∀ listed, HeadInv md ops n listed → ∀ i, i < n → listed.getD i true = false → ∀ j ∈ Region.ready md ops listed, j < n) (hin : i < n) :
    ∀ (fuel : Nat) (listed : Array Bool) (a : Act) (w : World), HeadInv md ops n listed →
      (∀ j oj, ops[j]? = some oj → j ≠ i → listed.getD j true = false → (∀ e ∈ oj.after, Region.binds md e = true → e.on ≠ i) → oi.apart ops oj = true) →
      i ∈ Region.ready md ops listed → YieldsIf P ops S oi v a → S w →
      wpAnyT P md ops Q S n fuel (listed.setIfInBounds i true) (a.put oi.dst v) w → wpAnyT P md ops Q S n (fuel + 1) listed a w := by
  intro fuel
  induction fuel with
  | zero =>
    intro listed a w inv _ hr hy hS H
    refine ⟨fun h => (by rw [h] at hr; cases hr), fun j hj => ?_⟩
    by_cases hji : j = i
    · subst hji; exact hy.wpOp hi hS ⟨fun _ => hS, H⟩
    · have := ready_mono hj hji
      rw [H.1] at this
      cases this
  | succ fuel ih =>
    intro listed a w inv hfree hr hy hS H
    have hun := (mem_ready.1 hr).1
    refine ⟨fun h => (by rw [h] at hr; cases hr), fun j hj => ?_⟩
    have hjn : j < n := hwt listed inv i hin hun j hj
    by_cases hji : j = i
    · subst hji; exact hy.wpOp hi hS ⟨fun _ => hS, H⟩
    · have h1 := H.2 j (ready_mono hj hji)
      obtain ⟨hjun, oj, hoj, hall⟩ := mem_ready.1 hj
      have hnot : ∀ e ∈ oj.after, Region.binds md e = true → e.on ≠ i := fun e he hb heq => by
        have h1 := hall e he hb
        rw [heq, getD_both hun] at h1
        cases h1
      have h2 := wpOp_putIf hoj (hfree j oj hoj hji hjun hnot) (fun cs b => hsel i oi cs b hi) (fun cs b => hsel j oj cs b hoj) hQ hy h1
      have hfree' : ∀ k ok, ops[k]? = some ok → k ≠ i → (listed.setIfInBounds j true).getD k true = false →
          (∀ e ∈ ok.after, Region.binds md e = true → e.on ≠ i) → oi.apart ops ok = true := fun k ok hk hki hun hno => by
        refine hfree k ok hk hki ?_ hno
        by_cases hjk : j = k
        · subst hjk; exact hjun
        · rw [getD_set_ne true hjk] at hun; exact hun
      refine wpOp_mono (fun a' w' h3 => ?_) h2
      obtain ⟨h3, h4, h5⟩ := h3
      have hS' := h4 hjn
      refine ⟨fun _ => hS', ih (listed.setIfInBounds j true) a' w' (inv.set hj hjn) hfree' (ready_mono hr (Ne.symm hji)) h3 hS' ?_⟩
      rw [Array.setIfInBounds_comm _ _ hji]
      exact h5

def mixB (md : Region.Mode) (ops : Array Oper) (n : Nat) : List (Nat × Bool) → Array Bool → Bool
  | [], listed => (Region.ready md ops listed).isEmpty
  | (i, true) :: r, listed => (Region.ready md ops listed).contains i && Region.free md ops listed i && decide (i < n) && mixB md ops n r (listed.setIfInBounds i true)
  | (i, false) :: r, listed => decide (Region.ready md ops listed = [i]) && (decide (i < n) || r.all fun s => !s.2) && mixB md ops n r (listed.setIfInBounds i true)
def mixTopB (ops : Array Oper) (n : Nat) (st : List (Nat × Bool)) : Bool :=
  Region.noSelect ops && decide (n < ops.size) && Region.sinkB .any ops n && Region.chainB .any ops n && decide (st.length = ops.size) && mixB .any ops n st (Array.replicate ops.size false)
def wpMix (P : Program) (ops : Array Oper) (Q : Exit → Act → World → Prop) (S : World → Prop) (n : Nat) : List (Nat × Bool) → Act → World → Prop
  | [], a, w => Q .normal a w
  | (i, true) :: r, a, w => ∃ o v, ops[i]? = some o ∧ YieldsIf P ops S o v a ∧ wpMix P ops Q S n r (a.put o.dst v) w
  | (i, false) :: r, a, w => wpOp P ops Q i (fun a' w' => (i < n → S w') ∧ wpMix P ops Q S n r a' w') a w

theorem wpAnyT_false {n : Nat} : ∀ (st : List (Nat × Bool)) (listed : Array Bool) (a : Act) (w : World), (st.all fun s => !s.2) = true → mixB md ops n st listed = true → wpMix P ops Q S n st a w → wpAnyT P md ops Q S n st.length listed a w
  | [], listed, a, w, _, hB, h => ⟨by simpa [mixB] using hB, h⟩
  | (i, true) :: r, listed, a, w, hf, _, _ => by simp at hf
  | (i, false) :: r, listed, a, w, hf, hB, h => by
    simp only [mixB, Bool.and_eq_true, decide_eq_true_eq] at hB
    refine ⟨fun h0 => by rw [h0] at hB; exact absurd hB.1.1 (by simp), fun j hj => ?_⟩
    rw [hB.1.1] at hj
    have : j = i := by simpa using hj
    subst this
    exact wpOp_mono (fun a' w' h' => ⟨h'.1, wpAnyT_false r _ a' w' (by simpa using hf) hB.2 h'.2⟩) h

theorem wpAnyT_mix {n : Nat} (hsel : Region.noSelect ops = true) (hQ : ∀ c a d v w, Q (.panic c) (a.put d v) w → Q (.panic c) a w)
    (hwt : ∀ listed, HeadInv md ops n listed → ∀ i, i < n → listed.getD i true = false → ∀ j ∈ Region.ready md ops listed, j < n) :
    ∀ (st : List (Nat × Bool)) (listed : Array Bool) (a : Act) (w : World), HeadInv md ops n listed → S w → mixB md ops n st listed = true → wpMix P ops Q S n st a w → wpAnyT P md ops Q S n st.length listed a w
  | [], listed, a, w, _, _, hB, h => ⟨by simpa [mixB] using hB, h⟩
  | (i, true) :: r, listed, a, w, inv, hS, hB, h => by
    simp only [mixB, Bool.and_eq_true, decide_eq_true_eq] at hB
    obtain ⟨⟨⟨hr, hf⟩, hin⟩, hB'⟩ := hB
    obtain ⟨o, v, ho, hy, hk⟩ := h
    have hr' : i ∈ Region.ready md ops listed := by simpa using hr
    exact wpAnyT_first ho (Region.noSelect_spec hsel) (fun c a w => hQ c a o.dst v w) hwt hin r.length listed a w inv (Region.free_spec ho hf) hr' hy hS
      (wpAnyT_mix hsel hQ hwt r _ _ _ (inv.set hr' hin) hS hB' hk)
  | (i, false) :: r, listed, a, w, inv, hS, hB, h => by
    have hB0 := hB
    simp only [mixB, Bool.and_eq_true, decide_eq_true_eq] at hB
    refine ⟨fun h0 => by rw [h0] at hB; exact absurd hB.1.1 (by simp), fun j hj => ?_⟩
    have hj' := hj
    rw [hB.1.1] at hj
    have : j = i := by simpa using hj
    subst this
    refine wpOp_mono (fun a' w' h' => ⟨h'.1, ?_⟩) h
    by_cases hin : j < n
    · exact wpAnyT_mix hsel hQ hwt r _ a' w' (inv.set hj' hin) (h'.1 hin) hB.2 h'.2
    · have hall : (r.all fun s => !s.2) = true := by
        have := hB.1.2
        simpa [hin] using this
      exact wpAnyT_false r _ a' w' hall hB.2 h'.2

theorem wp_region_mix {id : Nat} {a : Act} {w : World} {l : List Oper} (S : World → Prop) (n : Nat) (st : List (Nat × Bool)) (hm : P.follows .mixedOrders = true) (hB : mixTopB l.toArray n st = true) (hS : S { w with drawn := w.drawn + 1 })
    (h : wpMix P l.toArray (Q0 Q) S n st a { w with drawn := w.drawn + 1 }) : (Code.region id l.toArray true).wp P Q a w := by
  simp only [mixTopB, Bool.and_eq_true, decide_eq_true_eq] at hB
  obtain ⟨⟨⟨⟨⟨hsel, hn⟩, hs⟩, hc⟩, hlen⟩, hB⟩ := hB
  refine Code.wp_mono Q0_le (wp_region_any hm ?_)
  have inv0 : HeadInv .any l.toArray n (Array.replicate l.toArray.size false) :=
    ⟨by simp, fun j oj _ hl => (by rw [getD_replicate_false] at hl; cases hl), fun t _ ht => getD_in (by simpa using ht) (getD_replicate_false _ _)⟩
  have h1 := wpAnyT_mix (P := P) (md := .any) (Q := Q0 Q) (S := S) hsel (fun c a d v w h => h) (fun listed inv i hin hun j hj => by
    rcases Nat.lt_or_ge j n with h | h
    · exact h
    · exact absurd hj (tail_waits hs hc hn inv _ i rfl hin hun j h)) st (Array.replicate l.toArray.size false) a _ inv0 hS hB h
  rw [hlen] at h1
  exact wpAny_of_T _ _ _ _ h1

def mixAllB (ops : Array Oper) (st : List (Nat × Bool)) : Bool :=
  Region.noSelect ops && decide (st.length = ops.size) && mixB .any ops ops.size st (Array.replicate ops.size false)
/-- The same where every operation keeps what the reads see. -/
theorem wp_region_mixAll {id : Nat} {a : Act} {w : World} {l : List Oper} (S : World → Prop) (st : List (Nat × Bool)) (hm : P.follows .mixedOrders = true) (hB : mixAllB l.toArray st = true) (hS : S { w with drawn := w.drawn + 1 })
    (h : wpMix P l.toArray (Q0 Q) S l.toArray.size st a { w with drawn := w.drawn + 1 }) : (Code.region id l.toArray true).wp P Q a w := by
  simp only [mixAllB, Bool.and_eq_true, decide_eq_true_eq] at hB
  obtain ⟨⟨hsel, hlen⟩, hB⟩ := hB
  refine Code.wp_mono Q0_le (wp_region_any hm ?_)
  have inv0 : HeadInv .any l.toArray l.toArray.size (Array.replicate l.toArray.size false) :=
    ⟨by simp, fun j oj _ hl => (by rw [getD_replicate_false] at hl; cases hl), fun t _ ht => getD_in (by simpa using ht) (getD_replicate_false _ _)⟩
  have h1 := wpAnyT_mix (P := P) (md := .any) (Q := Q0 Q) (S := S) hsel (fun c a d v w h => h) (fun listed inv i hin hun j hj => by
    obtain ⟨_, oj, hoj, _⟩ := mem_ready.1 hj
    exact (Array.getElem?_eq_some_iff.1 hoj).1) st (Array.replicate l.toArray.size false) a _ inv0 hS hB h
  rw [hlen] at h1
  exact wpAny_of_T _ _ _ _ h1
theorem mix_nil {n : Nat} {a : Act} {w : World} (h : Q .normal a w) : wpMix P ops Q S n [] a w := h

theorem mix_read {l : List Oper} {n i : Nat} {r : List (Nat × Bool)} {a : Act} {w : World} {o : Oper} (x : Value) (a' : Act) (ho : l[i]? = some o) (hw : Region.wanted o (yielded l.toArray a.tmps) = true) (h1 : ∀ W, S W → (execOp a.eval o).run P W = .ok (.value x) W)
    (hp : a.put o.dst x = a') (h : wpMix P l.toArray Q S n r a' w) : wpMix P l.toArray Q S n ((i, true) :: r) a w := ⟨o, x, by simpa using ho, .inl ⟨hw, h1⟩, hp ▸ h⟩
theorem mix_skip {l : List Oper} {n i : Nat} {r : List (Nat × Bool)} {a : Act} {w : World} {o : Oper} (a' : Act) (ho : l[i]? = some o) (hw : Region.wanted o (yielded l.toArray a.tmps) = false)
    (hp : a.put o.dst undef = a') (h : wpMix P l.toArray Q S n r a' w) : wpMix P l.toArray Q S n ((i, true) :: r) a w := ⟨o, undef, by simpa using ho, .inr ⟨hw, rfl⟩, hp ▸ h⟩
theorem wpList_cons_wpOp {i : Nat} {o : Oper} {rest : List Oper} {a : Act} {w : World} (ho : ops[i]? = some o) (h : wpList P ops Q (o :: rest) a w) : wpOp P ops Q i (wpList P ops Q rest) a w := by
  unfold wpOp
  rw [ho]
  exact h
/-- The end in its one order. -/
theorem mix_tail {n : Nat} : ∀ (st : List (Nat × Bool)) (l : List Oper) (a : Act) (w : World), (st.all fun s => !s.2 && decide (n ≤ s.1)) = true → (st.map fun s => ops[s.1]?) = l.map some → wpList P ops Q l a w → wpMix P ops Q S n st a w
  | [], l, a, w, _, hl, h => by
    cases l with
    | nil => exact h
    | cons o l => simp at hl
  | (i, true) :: r, l, a, w, hf, _, _ => by simp at hf
  | (i, false) :: r, l, a, w, hf, hl, h => by
    cases l with
    | nil => simp at hl
    | cons o l =>
      simp only [List.map_cons, List.cons.injEq] at hl
      simp only [List.all_cons, Bool.and_eq_true, decide_eq_true_eq, Bool.not_eq_true'] at hf
      exact wpOp_mono (fun a' w' h' => ⟨fun hi => absurd hi (by omega), mix_tail r l a' w' hf.2 hl.2 h'⟩) (wpList_cons_wpOp hl.1 h)
theorem wpOp_of_list {i : Nat} {o : Oper} {K : Act → World → Prop} {a : Act} {w : World} (ho : ops[i]? = some o) (h : wpList P ops (Exit.then K Q) [o] a w) : wpOp P ops Q i K a w := by
  unfold wpOp
  rw [ho]
  unfold wpList at h
  simp only at h ⊢
  split
  · rename_i hw
    rw [if_pos hw] at h
    rcases h with h | ⟨h1, h2⟩
    · left
      unfold Oper.wp at *
      generalize (execOp a.eval o).run P w = r at *
      cases r with
      | ok nx w' => cases nx <;> exact h
      | halt x w' => cases x <;> exact h
    · right
      exact ⟨h1, h2⟩
  · rename_i hw
    rw [if_neg hw] at h
    exact h
/-- One operation that is not only a read, ahead of a read's end. -/
theorem mix_loud {l : List Oper} {n i : Nat} {r : List (Nat × Bool)} {a : Act} {w : World} {o : Oper} (ho : l[i]? = some o)
    (h : ∀ K : Act → World → Prop, (∀ a' w', (S w' ∧ wpMix P l.toArray Q S n r a' w') → K a' w') → wpList P l.toArray (Exit.then K Q) [o] a w) : wpMix P l.toArray Q S n ((i, false) :: r) a w :=
  wpOp_mono (fun a' w' h' => ⟨fun _ => h'.1, h'.2⟩) (wpOp_of_list (by simpa using ho) (h _ fun _ _ h => h))
/-- The end in its one order: the operations from number k on. -/
theorem mix_end {n : Nat} {l : List Oper} {st : List (Nat × Bool)} {a : Act} {w : World} (k : Nat) (hst : decide (st = (List.range' k (l.length - k)).map fun i => (i, false)) = true) (hk : decide (n ≤ k) = true) (h : wpList P l.toArray Q (l.drop k) a w) : wpMix P l.toArray Q S n st a w := by
  have hst := of_decide_eq_true hst
  have hk := of_decide_eq_true hk
  subst hst
  refine mix_tail _ (l.drop k) a w ?_ ?_ h
  · simp [List.all_map, List.all_eq_true]
    intro x hx _
    omega
  · rw [List.map_map]
    refine List.ext_getElem? fun j => ?_
    simp only [List.getElem?_map, List.getElem?_drop]
    by_cases hj : j < l.length - k
    · rw [List.getElem?_eq_getElem (show j < (List.range' k (l.length - k)).length by simpa using hj), List.getElem_range', List.getElem?_eq_getElem (show k + j < l.length by omega)]
      simp
    · rw [List.getElem?_eq_none (show (List.range' k (l.length - k)).length ≤ j by simpa using hj), List.getElem?_eq_none (show l.length ≤ k + j by omega)]
      rfl
end
end Go.Proofs.Ytclgclcoblfddaa
