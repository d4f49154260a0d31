/- JobsKnown, as a plain law. -/
import Derived.Test.YtgchfibcaecjcaaPx13
import Derived.Test.YtgchfibcaecjcaaPLawW
import Derived.Test.YtgchfibcaecjcaaPTypes
import Derived.Test.YtgchfibcaecjcaaPureJobsMerge
namespace Go.Proofs.Ytgchfibcaecjcaa.Pure
open Go.RowKit Go.Proofs.Ytgchfibcaecjcaa.P Go.Proofs.Ytgchfibcaecjcaa
theorem known_l2 {a b : Nat} (ha : a < 6) (hb : b < 6) (h : Ev (fun k => clepsydralaw20_JobsKnown.l1 k (a : Int) ((b + 1 : Nat) : Int)) true) :
    ∀ (n c : Nat), n = 7 - c → c ≤ 7 → Ev (fun k => clepsydralaw20_JobsKnown.l2 k (a : Int) (b : Int) (c : Int)) true := by
  intro n
  induction n with
  | zero =>
    intro c hn hc
    have : c = 7 := by omega
    subst this
    refine h.next fun k => ?_
    rw [clepsydralaw20_JobsKnown.l2, if_neg (by omega), show ((b : Int) + 1) % 256 = ((b + 1 : Nat) : Int) by omega]
  | succ n ih =>
    intro c hn hc
    have h1 := ih (c + 1) (by omega) (by omega)
    have hm : Ev (fun k => clepsydralaw20_JobsMerge.f k (a : Int) (b : Int) (c : Int)) true := ⟨1, fun k hk => JobsMerge_all (by omega) _ _ _⟩
    have ht : ∀ u t v s x : Int, Ev (fun k => clepsydralaw20_JobsTypes.f k u t v s x) true := fun u t v s x => ⟨5, fun k hk => by
      obtain ⟨j, rfl⟩ : ∃ j, k = j + 5 := ⟨k - 5, by omega⟩
      exact JobsTypes_f u t v s x j⟩
    have hw := JobsWhole_f [⟨1, (a : Int), false⟩, ⟨wrap64 (Int.tmod (c : Int) 3), (b : Int), true⟩, ⟨1, (c : Int), false⟩, ⟨-1, (a : Int), false⟩] a (by omega)
    refine Ev.next (Ev.bind hm (f := fun k t369 => (if t369 = true then ((clepsydralaw20_JobsTypes.f k 1 (a : Int) (wrap64 ((wrap64 ((c : Int))) - 2)) (b : Int) (c : Int)).bind fun t370 => (if t370 = true then ((clepsydralaw20_JobsWhole.f k (([(⟨(⟨1, (a : Int)⟩ : S35), false⟩ : S39), (⟨(⟨wrap64 (Int.tmod (c : Int) 3), (b : Int)⟩ : S35), true⟩ : S39), (⟨(⟨1, (c : Int)⟩ : S35), false⟩ : S39), (⟨(⟨(-1), (a : Int)⟩ : S35), false⟩ : S39)] : List (S39))) (a : Int)).bind fun t371 => (if t371 = true then (clepsydralaw20_JobsKnown.l2 k (a : Int) (b : Int) (((c : Int) + 1) % 256)) else (some false))) else (some false))) else (some false))) ?_) fun k => ?_
    · simp only [if_true]
      refine Ev.bind (ht _ _ _ _ _) ?_
      simp only [if_true]
      refine Ev.bind hw ?_
      simp only [if_true]
      rw [show ((c : Int) + 1) % 256 = ((c + 1 : Nat) : Int) by omega]
      exact h1
    · rw [clepsydralaw20_JobsKnown.l2, if_pos (by omega)]
theorem known_l1 {a : Nat} (ha : a < 6) (h : Ev (fun k => clepsydralaw20_JobsKnown.l0 k ((a + 1 : Nat) : Int)) true) :
    ∀ (n b : Nat), n = 6 - b → b ≤ 6 → Ev (fun k => clepsydralaw20_JobsKnown.l1 k (a : Int) (b : Int)) true := by
  intro n
  induction n with
  | zero =>
    intro b hn hb
    have : b = 6 := by omega
    subst this
    refine h.next fun k => ?_
    rw [clepsydralaw20_JobsKnown.l1, if_neg (by omega), show ((a : Int) + 1) % 256 = ((a + 1 : Nat) : Int) by omega]
  | succ n ih =>
    intro b hn hb
    refine (known_l2 ha (by omega) (ih (b + 1) (by omega) (by omega)) 7 0 rfl (by omega)).next fun k => ?_
    rw [clepsydralaw20_JobsKnown.l1, if_pos (by omega)]
    rfl
theorem known_l0 : ∀ (n a : Nat), n = 6 - a → a ≤ 6 → Ev (fun k => clepsydralaw20_JobsKnown.l0 k (a : Int)) true := by
  intro n
  induction n with
  | zero =>
    intro a hn ha
    have : a = 6 := by omega
    subst this
    refine Ev.next (Ev.bind (JobsWhole_f [] 0 (by omega)) (f := fun k t364 => (if t364 = true then ((clepsydralaw20_works.f k).bind fun t365 => (some t365)) else (some false))) ?_) fun k => ?_
    · simp only [if_true]
      exact Ev.bind works_ev (Ev.const _)
    · rw [clepsydralaw20_JobsKnown.l0, if_neg (by omega)]
      rfl
  | succ n ih =>
    intro a hn ha
    refine (known_l1 (by omega) (ih (a + 1) (by omega) (by omega)) 6 0 rfl (by omega)).next fun k => ?_
    rw [clepsydralaw20_JobsKnown.l0, if_pos (by omega)]
    rfl
theorem JobsKnown : clepsydralaw20_JobsKnown.Pure := (known_l0 6 0 rfl (by omega)).one
end Go.Proofs.Ytgchfibcaecjcaa.Pure
