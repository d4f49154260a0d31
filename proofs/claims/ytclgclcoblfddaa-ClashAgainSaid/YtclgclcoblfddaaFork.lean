/- Regions that draw their order, where two operations are left in either order: a tree of steps. -/
import Derived.Test.YtclgclcoblfddaaMix
namespace Go.Proofs.Ytclgclcoblfddaa
open Go.RowKit
set_option linter.unusedVariables false

inductive Mix where
  | nil : Mix
  | read : Nat → Mix → Mix
  | one : Nat → Mix → Mix
  | fork : Nat → Nat → Mix → Mix → Mix
section
variable {P : Program} {ops : Array Oper} {md : Region.Mode} {S : World → Prop} {Q : Exit → Act → World → Prop}

def forkB (md : Region.Mode) (ops : Array Oper) : Nat → Mix → Array Bool → Bool
  | 0, .nil, listed => (Region.ready md ops listed).isEmpty
  | f + 1, .read i r, listed => (Region.ready md ops listed).contains i && Region.free md ops listed i && decide (i < ops.size) && forkB md ops f r (listed.setIfInBounds i true)
  | f + 1, .one i r, listed => decide (Region.ready md ops listed = [i]) && decide (i < ops.size) && forkB md ops f r (listed.setIfInBounds i true)
  | f + 1, .fork i j r1 r2, listed => decide (Region.ready md ops listed = [i, j]) && decide (i < ops.size) && decide (j < ops.size) && forkB md ops f r1 (listed.setIfInBounds i true) && forkB md ops f r2 (listed.setIfInBounds j true)
  | _, _, _ => false
def wpFork (P : Program) (ops : Array Oper) (Q : Exit → Act → World → Prop) (S : World → Prop) : Mix → Act → World → Prop
  | .nil, a, w => Q .normal a w
  | .read i r, a, w => ∃ o v, ops[i]? = some o ∧ YieldsIf P ops S o v a ∧ wpFork P ops Q S r (a.put o.dst v) w
  | .one i r, a, w => wpOp P ops Q i (fun a' w' => S w' ∧ wpFork P ops Q S r a' w') a w
  | .fork i j r1 r2, a, w => wpOp P ops Q i (fun a' w' => S w' ∧ wpFork P ops Q S r1 a' w') a w ∧ wpOp P ops Q j (fun a' w' => S w' ∧ wpFork P ops Q S r2 a' w') a w

theorem wpAnyT_fork (hsel : Region.noSelect ops = true) (hQ : ∀ c a d v w, Q (.panic c) (a.put d v) w → Q (.panic c) a w)
    (hwt : ∀ listed, HeadInv md ops ops.size listed → ∀ i, i < ops.size → listed.getD i true = false → ∀ j ∈ Region.ready md ops listed, j < ops.size) :
    ∀ (f : Nat) (st : Mix) (listed : Array Bool) (a : Act) (w : World), HeadInv md ops ops.size listed → S w → forkB md ops f st listed = true → wpFork P ops Q S st a w → wpAnyT P md ops Q S ops.size f listed a w
  | 0, .nil, listed, a, w, _, _, hB, h => ⟨by simpa [forkB] using hB, h⟩
  | f + 1, .read i r, listed, a, w, inv, hS, hB, h => by
    simp only [forkB, Bool.and_eq_true, decide_eq_true_eq] at hB
    obtain ⟨⟨⟨hr, hf⟩, hin⟩, hB'⟩ := hB
    obtain ⟨o, v, ho, hy, hk⟩ := h
    have hr' : i ∈ Region.ready md ops listed := by simpa using hr
    exact wpAnyT_first ho (Region.noSelect_spec hsel) (fun c a w => hQ c a o.dst v w) hwt hin f listed a w inv (Region.free_spec ho hf) hr' hy hS
      (wpAnyT_fork hsel hQ hwt f r _ _ _ (inv.set hr' hin) hS hB' hk)
  | f + 1, .one i r, listed, a, w, inv, hS, hB, h => by
    simp only [forkB, Bool.and_eq_true, decide_eq_true_eq] at hB
    obtain ⟨⟨hr, hin⟩, hB'⟩ := hB
    refine ⟨fun h0 => (by rw [h0] at hr; cases hr), fun j hj => ?_⟩
    have hj' := hj
    rw [hr] at hj
    obtain rfl : j = i := by simpa using hj
    exact wpOp_mono (fun a' w' h' => ⟨fun _ => h'.1, wpAnyT_fork hsel hQ hwt f r _ a' w' (inv.set hj' hin) h'.1 hB' h'.2⟩) h
  | f + 1, .fork i j r1 r2, listed, a, w, inv, hS, hB, h => by
    simp only [forkB, Bool.and_eq_true, decide_eq_true_eq] at hB
    obtain ⟨⟨⟨⟨hr, hin⟩, hjn⟩, hB1⟩, hB2⟩ := hB
    refine ⟨fun h0 => (by rw [h0] at hr; cases hr), fun k hk => ?_⟩
    have hk' := hk
    rw [hr] at hk
    rcases List.mem_cons.1 hk with rfl | hk
    · exact wpOp_mono (fun a' w' h' => ⟨fun _ => h'.1, wpAnyT_fork hsel hQ hwt f r1 _ a' w' (inv.set hk' hin) h'.1 hB1 h'.2⟩) h.1
    · obtain rfl : k = j := by simpa using hk
      exact wpOp_mono (fun a' w' h' => ⟨fun _ => h'.1, wpAnyT_fork hsel hQ hwt f r2 _ a' w' (inv.set hk' hjn) h'.1 hB2 h'.2⟩) h.2
  | 0, .read _ _, _, _, _, _, _, hB, _ => by simp [forkB] at hB
  | 0, .one _ _, _, _, _, _, _, hB, _ => by simp [forkB] at hB
  | 0, .fork _ _ _ _, _, _, _, _, _, hB, _ => by simp [forkB] at hB
  | _ + 1, .nil, _, _, _, _, _, hB, _ => by simp [forkB] at hB

def forkAllB (ops : Array Oper) (st : Mix) : Bool := Region.noSelect ops && forkB .any ops ops.size st (Array.replicate ops.size false)
theorem wp_region_fork {id : Nat} {a : Act} {w : World} {l : List Oper} (S : World → Prop) (st : Mix) (hm : P.follows .mixedOrders = true) (hB : forkAllB l.toArray st = true) (hS : S { w with drawn := w.drawn + 1 })
    (h : wpFork P l.toArray (Q0 Q) S st a { w with drawn := w.drawn + 1 }) : (Code.region id l.toArray true).wp P Q a w := by
  simp only [forkAllB, Bool.and_eq_true] at hB
  obtain ⟨hsel, hB⟩ := hB
  refine Code.wp_mono Q0_le (wp_region_any hm ?_)
  have inv0 : HeadInv .any l.toArray l.toArray.size (Array.replicate l.toArray.size false) :=
    ⟨by simp, fun j oj _ hl => (by rw [getD_replicate_false] at hl; cases hl), fun t _ ht => getD_in (by simpa using ht) (getD_replicate_false _ _)⟩
  exact wpAny_of_T _ _ _ _ (wpAnyT_fork (P := P) (md := .any) (Q := Q0 Q) (S := S) hsel (fun c a d v w h => h) (fun listed inv i hin hun j hj => by
    obtain ⟨_, oj, hoj, _⟩ := mem_ready.1 hj
    exact (Array.getElem?_eq_some_iff.1 hoj).1) _ st _ a _ inv0 hS hB h)

theorem fork_nil {a : Act} {w : World} (h : Q .normal a w) : wpFork P ops Q S .nil a w := h
/-- All orders end in one state: what follows is walked once. -/
def QTo (a0 : Act) (R : World → Prop) : Exit → Act → World → Prop := fun e a w => e = .normal ∧ a = a0 ∧ R w
theorem wp_region_fork_to {id : Nat} {a a0 : Act} {w : World} {l : List Oper} (S R : World → Prop) (st : Mix) (hm : P.follows .mixedOrders = true) (hB : forkAllB l.toArray st = true) (hS : S { w with drawn := w.drawn + 1 })
    (h : wpFork P l.toArray (Q0 (QTo a0 R)) S st a { w with drawn := w.drawn + 1 }) (k : ∀ W, R W → Q .normal a0 W) : (Code.region id l.toArray true).wp P Q a w :=
  Code.wp_mono (fun e' a' w' h' => by obtain ⟨rfl, rfl, hR⟩ := h'; exact k w' hR) (wp_region_fork (Q := QTo a0 R) S st hm hB hS h)
theorem fork_gen {r : Mix} {a : Act} {w : World} (R : World → Prop) (hR : R w) (h : ∀ w', R w' → wpFork P ops Q S r a w') : wpFork P ops Q S r a w := h w hR
theorem fork_read {l : List Oper} {i : Nat} {r : Mix} {a : Act} {w : World} {o : Oper} (x : Value) (a' : Act) (ho : l[i]? = some o) (hw : Region.wanted o (yielded l.toArray a.tmps) = true) (h1 : ∀ W, S W → (execOp a.eval o).run P W = .ok (.value x) W)
    (hp : a.put o.dst x = a') (h : wpFork P l.toArray Q S r a' w) : wpFork P l.toArray Q S (.read i r) a w := ⟨o, x, by simpa using ho, .inl ⟨hw, h1⟩, hp ▸ h⟩
theorem fork_skip {l : List Oper} {i : Nat} {r : Mix} {a : Act} {w : World} {o : Oper} (a' : Act) (ho : l[i]? = some o) (hw : Region.wanted o (yielded l.toArray a.tmps) = false)
    (hp : a.put o.dst undef = a') (h : wpFork P l.toArray Q S r a' w) : wpFork P l.toArray Q S (.read i r) a w := ⟨o, undef, by simpa using ho, .inr ⟨hw, rfl⟩, hp ▸ h⟩
theorem fork_one {l : List Oper} {i : Nat} {r : Mix} {a : Act} {w : World} {o : Oper} (ho : l[i]? = some o)
    (h : ∀ K : Act → World → Prop, (∀ a' w', (S w' ∧ wpFork P l.toArray Q S r a' w') → K a' w') → wpList P l.toArray (Exit.then K Q) [o] a w) : wpFork P l.toArray Q S (.one i r) a w :=
  wpOp_of_list (by simpa using ho) (h _ fun _ _ h => h)
theorem fork_two {l : List Oper} {i j : Nat} {r1 r2 : Mix} {a : Act} {w : World} {o1 o2 : Oper} (ho1 : l[i]? = some o1) (ho2 : l[j]? = some o2)
    (h1 : ∀ K : Act → World → Prop, (∀ a' w', (S w' ∧ wpFork P l.toArray Q S r1 a' w') → K a' w') → wpList P l.toArray (Exit.then K Q) [o1] a w)
    (h2 : ∀ K : Act → World → Prop, (∀ a' w', (S w' ∧ wpFork P l.toArray Q S r2 a' w') → K a' w') → wpList P l.toArray (Exit.then K Q) [o2] a w) : wpFork P l.toArray Q S (.fork i j r1 r2) a w :=
  ⟨wpOp_of_list (by simpa using ho1) (h1 _ fun _ _ h => h), wpOp_of_list (by simpa using ho2) (h2 _ fun _ _ h => h)⟩
end
end Go.Proofs.Ytclgclcoblfddaa
