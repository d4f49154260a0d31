/- Regions that draw their order: what only reads is taken first; each read has its own condition, which must stand only behind those operations that may come ahead of it. -/
import Derived.Test.YtclgclcoblfddaaMix
namespace Go.Proofs.Ytclgclcoblfddaa
open Go.RowKit
set_option linter.unusedVariables false
section
variable {P : Program} {ops : Array Oper} {md : Region.Mode} {S : Nat → World → Prop} {Q : Exit → Act → World → Prop}
/-- May operation i come behind operation j? -/
def mayB (md : Region.Mode) (ops : Array Oper) (j i : Nat) : Bool := match ops[j]? with
  | some o => o.after.all fun e => !(Region.binds md e) || decide (e.on ≠ i)
  | none => true
def wpAnyD (P : Program) (md : Region.Mode) (ops : Array Oper) (Q : Exit → Act → World → Prop) (S : Nat → World → Prop) : Nat → Array Bool → Act → World → Prop
  | 0, listed, a, w => Region.ready md ops listed = [] ∧ Q .normal a w
  | fuel + 1, listed, a, w =>
    (Region.ready md ops listed = [] → Q .normal a w) ∧
    ∀ i ∈ Region.ready md ops listed, wpOp P ops Q i (fun a' w' => (∀ k, mayB md ops i k = true → S k w → S k w') ∧ wpAnyD P md ops Q S fuel (listed.setIfInBounds i true) a' w') a w
theorem wpAny_of_D : ∀ (fuel : Nat) (listed : Array Bool) (a : Act) (w : World), wpAnyD P md ops Q S fuel listed a w → wpAny P md ops Q fuel listed a w
  | 0, _, _, _, h => h
  | fuel + 1, _, _, _, h => ⟨h.1, fun i hi => wpOp_mono (fun a' w' h' => wpAny_of_D fuel _ a' w' h'.2) (h.2 i hi)⟩
theorem may_of_ready {listed : Array Bool} {j k : Nat} (hj : j ∈ Region.ready md ops listed) (hk : listed.getD k true = false) : mayB md ops j k = true := by
  obtain ⟨hjun, oj, hoj, hall⟩ := mem_ready.1 hj
  unfold mayB
  rw [hoj]
  simp only [Array.all_eq_true_iff_forall_mem, Bool.or_eq_true, Bool.not_eq_true', decide_eq_true_eq]
  intro e he
  by_cases hb : Region.binds md e = true
  · right
    intro heq
    have h1 := hall e he hb
    rw [heq, getD_both hk] at h1
    cases h1
  · left
    simpa using hb
theorem getD_old {listed : Array Bool} {i k : Nat} (hk : (listed.setIfInBounds i true).getD k true = false) : listed.getD k true = false := by
  by_cases hik : i = k
  · subst hik
    by_cases hs : i < listed.size
    · simp [Array.getD, hs] at hk
    · simp [Array.getD, hs] at hk
  · rwa [getD_set_ne true hik] at hk
theorem wpAnyD_first {i : Nat} {oi : Oper} {v : Value} (hi : ops[i]? = some oi) (hsel : ∀ (j : Nat) (o : Oper) cs b, ops[j]? = some o → o.op ≠ .select cs b)
    (hQ : ∀ c a w, Q (.panic c) (a.put oi.dst v) w → Q (.panic c) a w) :
    ∀ (fuel : Nat) (listed : Array Bool) (a : Act) (w : World), 
      (∀ j oj, ops[j]? = some oj → j ≠ i → listed.getD j true = false → (∀ e ∈ oj.after, Region.binds md e = true → e.on ≠ i) → oi.apart ops oj = true) →
      i ∈ Region.ready md ops listed → YieldsIf P ops (S i) oi v a → S i w →
      wpAnyD P md ops Q S fuel (listed.setIfInBounds i true) (a.put oi.dst v) w → wpAnyD P md ops Q S (fuel + 1) listed a w := by
  intro fuel
  induction fuel with
  | zero =>
    intro listed a w _ hr hy hS H
    refine ⟨fun h => (by rw [h] at hr; cases hr), fun j hj => ?_⟩
    by_cases hji : j = i
    · subst hji; exact hy.wpOp hi hS ⟨fun _ _ h => h, H⟩
    · have := ready_mono hj hji
      rw [H.1] at this
      cases this
  | succ fuel ih =>
    intro listed a w hfree hr hy hS H
    have hun := (mem_ready.1 hr).1
    refine ⟨fun h => (by rw [h] at hr; cases hr), fun j hj => ?_⟩
    by_cases hji : j = i
    · subst hji; exact hy.wpOp hi hS ⟨fun _ _ h => h, H⟩
    · have h1 := H.2 j (ready_mono hj hji)
      obtain ⟨hjun, oj, hoj, hall⟩ := mem_ready.1 hj
      have hnot : ∀ e ∈ oj.after, Region.binds md e = true → e.on ≠ i := fun e he hb heq => by
        have h1 := hall e he hb
        rw [heq, getD_both hun] at h1
        cases h1
      have h2 := wpOp_putIf hoj (hfree j oj hoj hji hjun hnot) (fun cs b => hsel i oi cs b hi) (fun cs b => hsel j oj cs b hoj) hQ hy h1
      have hfree' : ∀ k ok, ops[k]? = some ok → k ≠ i → (listed.setIfInBounds j true).getD k true = false →
          (∀ e ∈ ok.after, Region.binds md e = true → e.on ≠ i) → oi.apart ops ok = true := fun k ok hk hki hun hno => hfree k ok hk hki (getD_old hun) hno
      refine wpOp_mono (fun a' w' h3 => ?_) h2
      obtain ⟨h3, h4, h5⟩ := h3
      refine ⟨h4, ih (listed.setIfInBounds j true) a' w' hfree' (ready_mono hr (Ne.symm hji)) h3 (h4 i (may_of_ready hj hun) hS) ?_⟩
      rw [Array.setIfInBounds_comm _ _ hji]
      exact h5
def wpMixD (P : Program) (ops : Array Oper) (Q : Exit → Act → World → Prop) (S : Nat → World → Prop) : List (Nat × Bool) → Act → World → Prop
  | [], a, w => Q .normal a w
  | (i, true) :: r, a, w => ∃ o v, ops[i]? = some o ∧ YieldsIf P ops (S i) o v a ∧ wpMixD P ops Q S r (a.put o.dst v) w
  | (i, false) :: r, a, w => wpOp P ops Q i (fun a' w' => (∀ k, mayB .any ops i k = true → S k w → S k w') ∧ wpMixD P ops Q S r a' w') a w
theorem wpAnyD_mix (hsel : Region.noSelect ops = true) (hQ : ∀ c a d v w, Q (.panic c) (a.put d v) w → Q (.panic c) a w) :
    ∀ (st : List (Nat × Bool)) (listed : Array Bool) (a : Act) (w : World), (∀ k, listed.getD k true = false → S k w) → mixB .any ops ops.size st listed = true → wpMixD P ops Q S st a w → wpAnyD P .any ops Q S st.length listed a w
  | [], listed, a, w, _, hB, h => ⟨by simpa [mixB] using hB, h⟩
  | (i, true) :: r, listed, a, w, hS, hB, h => by
    simp only [mixB, Bool.and_eq_true, decide_eq_true_eq] at hB
    obtain ⟨⟨⟨hr, hf⟩, hin⟩, hB'⟩ := hB
    obtain ⟨o, v, ho, hy, hk⟩ := h
    have hr' : i ∈ Region.ready .any ops listed := by simpa using hr
    exact wpAnyD_first ho (Region.noSelect_spec hsel) (fun c a w => hQ c a o.dst v w) r.length listed a w (Region.free_spec ho hf) hr' hy (hS i (mem_ready.1 hr').1)
      (wpAnyD_mix hsel hQ r _ _ _ (fun k hk => hS k (getD_old hk)) hB' hk)
  | (i, false) :: r, listed, a, w, hS, hB, h => by
    simp only [mixB, Bool.and_eq_true, decide_eq_true_eq] at hB
    refine ⟨fun h0 => by rw [h0] at hB; exact absurd hB.1.1 (by simp), fun j hj => ?_⟩
    have hj' := hj
    rw [hB.1.1] at hj
    have : j = i := by simpa using hj
    subst this
    exact wpOp_mono (fun a' w' h' => ⟨h'.1, wpAnyD_mix hsel hQ r _ a' w' (fun k hk => h'.1 k (may_of_ready hj' (getD_old hk)) (hS k (getD_old hk))) hB.2 h'.2⟩) h
theorem wp_region_mixD {id : Nat} {a : Act} {w : World} {l : List Oper} (S : Nat → World → Prop) (st : List (Nat × Bool)) (hm : P.follows .mixedOrders = true) (hB : mixAllB l.toArray st = true) (hS : ∀ k, S k { w with drawn := w.drawn + 1 })
    (h : wpMixD P l.toArray (Q0 Q) S st a { w with drawn := w.drawn + 1 }) : (Code.region id l.toArray true).wp P Q a w := by
  simp only [mixAllB, Bool.and_eq_true, decide_eq_true_eq] at hB
  obtain ⟨⟨hsel, hlen⟩, hB⟩ := hB
  refine Code.wp_mono Q0_le (wp_region_any hm ?_)
  have h1 := wpAnyD_mix (P := P) (Q := Q0 Q) (S := S) hsel (fun c a d v w h => h) st (Array.replicate l.toArray.size false) a _ (fun k _ => hS k) hB h
  rw [hlen] at h1
  exact wpAny_of_D _ _ _ _ h1
theorem mixD_nil {a : Act} {w : World} (h : Q .normal a w) : wpMixD P ops Q S [] a w := h
theorem mixD_read {l : List Oper} {i : Nat} {r : List (Nat × Bool)} {a : Act} {w : World} {o : Oper} (x : Value) (a' : Act) (ho : l[i]? = some o) (hw : Region.wanted o (yielded l.toArray a.tmps) = true) (h1 : ∀ W, S i W → (execOp a.eval o).run P W = .ok (.value x) W)
    (hp : a.put o.dst x = a') (h : wpMixD P l.toArray Q S r a' w) : wpMixD P l.toArray Q S ((i, true) :: r) a w := ⟨o, x, by simpa using ho, .inl ⟨hw, h1⟩, hp ▸ h⟩
theorem mixD_skip {l : List Oper} {i : Nat} {r : List (Nat × Bool)} {a : Act} {w : World} {o : Oper} (a' : Act) (ho : l[i]? = some o) (hw : Region.wanted o (yielded l.toArray a.tmps) = false)
    (hp : a.put o.dst undef = a') (h : wpMixD P l.toArray Q S r a' w) : wpMixD P l.toArray Q S ((i, true) :: r) a w := ⟨o, undef, by simpa using ho, .inr ⟨hw, rfl⟩, hp ▸ h⟩
theorem mixD_loud {l : List Oper} {i : Nat} {r : List (Nat × Bool)} {a : Act} {w : World} {o : Oper} (ho : l[i]? = some o)
    (h : ∀ K : Act → World → Prop, (∀ a' w', ((∀ k, mayB .any l.toArray i k = true → S k w → S k w') ∧ wpMixD P l.toArray Q S r a' w') → K a' w') → wpList P l.toArray (Exit.then K Q) [o] a w) : wpMixD P l.toArray Q S ((i, false) :: r) a w :=
  wpOp_of_list (by simpa using ho) (h _ fun _ _ h => h)
/-- What comes last needs no condition any more. -/
theorem mixD_to {id : Nat} {a a0 : Act} {w : World} {l : List Oper} (S : Nat → World → Prop) (R : World → Prop) (st : List (Nat × Bool)) (hm : P.follows .mixedOrders = true) (hB : mixAllB l.toArray st = true) (hS : ∀ k, S k { w with drawn := w.drawn + 1 })
    (h : wpMixD P l.toArray (Q0 (fun e a w => e = .normal ∧ a = a0 ∧ R w)) S st a { w with drawn := w.drawn + 1 }) (k : ∀ W, R W → Q .normal a0 W) : (Code.region id l.toArray true).wp P Q a w :=
  Code.wp_mono (fun e' a' w' h' => by obtain ⟨rfl, rfl, hR⟩ := h'; exact k w' hR) (wp_region_mixD (Q := fun e a w => e = .normal ∧ a = a0 ∧ R w) S st hm hB hS h)
end
end Go.Proofs.Ytclgclcoblfddaa
