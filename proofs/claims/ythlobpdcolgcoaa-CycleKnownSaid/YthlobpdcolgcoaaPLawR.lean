/- Plain: CycleRing answers true. -/
import Derived.Test.YthlobpdcolgcoaaPRing2
import Derived.Test.YthlobpdcolgcoaaPx8
import Derived.Test.YthlobpdcolgcoaaVictimG
namespace Go.Proofs.Ythlobpdcolgcoaa
open Go.RowKit Go.Proofs.Ythlobpdcolgcoaa.P Go.Proofs.YthlobpdcolgcoaaW.PrintWords
set_option linter.unusedVariables false
set_option linter.unusedSimpArgs false
theorem few_ev (g0 g1 g2 g3 af be g6 g7 g8 g9 : List (List Int)) (h1 : Big af) (h2 : Big be) : ∃ b, Ev (fun k => clepsydralaw23_few.f k g0 g1 g2 g3 af be g6 g7 g8 g9) b := by
  have L1 : ∀ (m i : Nat), m = be.length - i → i ≤ be.length → ∃ b, Ev (fun k => clepsydralaw23_few.l1 k (i : Int) g0 g1 g2 g3 af be g6 g7 g8 g9) b := by
    intro m
    induction m with
    | zero =>
      intro i hm hi
      refine ⟨if (af.length : Int) ≤ 100 then decide ((be.length : Int) ≤ 100) else false, (Ev.const _).next fun k => ?_⟩
      rw [clepsydralaw23_few.l1, if_neg (by omega)]
      split <;> rfl
    | succ m ih =>
      intro i hm hi
      have hil : i < be.length := by omega
      by_cases hbig : ((rd_L1 be (i : Int)).length : Int) > 100
      · refine ⟨false, (Ev.const _).next fun k => ?_⟩
        rw [clepsydralaw23_few.l1, if_pos (by omega), if_pos (by omega), if_pos hbig]
      · obtain ⟨b, hb⟩ := ih (i + 1) (by omega) (by omega)
        refine ⟨b, hb.next fun k => ?_⟩
        rw [clepsydralaw23_few.l1, if_pos (by omega), if_pos (by omega), if_neg hbig, wrap_lt hil h2.1]
  have L0 : ∀ (m i : Nat), m = af.length - i → i ≤ af.length → ∃ b, Ev (fun k => clepsydralaw23_few.l0 k (i : Int) g0 g1 g2 g3 af be g6 g7 g8 g9) b := by
    intro m
    induction m with
    | zero =>
      intro i hm hi
      obtain ⟨b, hb⟩ := L1 _ 0 rfl (Nat.zero_le _)
      refine ⟨b, hb.next fun k => ?_⟩
      rw [clepsydralaw23_few.l0, if_neg (by omega)]
      rfl
    | succ m ih =>
      intro i hm hi
      have hil : i < af.length := by omega
      by_cases hbig : ((rd_L1 af (i : Int)).length : Int) > 100
      · refine ⟨false, (Ev.const _).next fun k => ?_⟩
        rw [clepsydralaw23_few.l0, if_pos (by omega), if_pos (by omega), if_pos hbig]
      · obtain ⟨b, hb⟩ := ih (i + 1) (by omega) (by omega)
        refine ⟨b, hb.next fun k => ?_⟩
        rw [clepsydralaw23_few.l0, if_pos (by omega), if_pos (by omega), if_neg hbig, wrap_lt hil h1.1]
  exact L0 _ 0 rfl (Nat.zero_le _)
theorem units_ev (g0 g1 g2 g3 af be g6 g7 g8 g9 : List (List Int)) (L : List S30) (hL : L.length ≤ 8) : ∃ b, Ev (fun k => clepsydralaw23_units.f k g0 g1 g2 g3 af be g6 g7 g8 g9 L) b := by
  have L0 : ∀ (m i : Nat), m = L.length - i → i ≤ L.length → ∃ b, Ev (fun k => clepsydralaw23_units.l0 k L (i : Int) g0 g1 g2 g3 af be g6 g7 g8 g9) b := by
    intro m
    induction m with
    | zero =>
      intro i hm hi
      refine ⟨true, (Ev.const _).next fun k => ?_⟩
      rw [clepsydralaw23_units.l0, if_neg (by omega)]
    | succ m ih =>
      intro i hm hi
      have hil : i < L.length := by omega
      obtain ⟨b, hb⟩ := ih (i + 1) (by omega) (by omega)
      by_cases c1 : (rd_T30 L (i : Int)).f0.f0 < 0
      · refine ⟨false, (Ev.const _).next fun k => ?_⟩
        rw [clepsydralaw23_units.l0, if_pos (by omega), if_pos (by omega), if_pos c1]
      by_cases c2 : (rd_T30 L (i : Int)).f0.f0 ≥ (af.length : Int)
      · refine ⟨false, (Ev.const _).next fun k => ?_⟩
        rw [clepsydralaw23_units.l0, if_pos (by omega), if_pos (by omega), if_neg c1, if_pos c2]
      by_cases c3 : (rd_T30 L (i : Int)).f0.f0 ≥ (be.length : Int)
      · refine ⟨false, (Ev.const _).next fun k => ?_⟩
        rw [clepsydralaw23_units.l0, if_pos (by omega), if_pos (by omega), if_neg c1, if_neg c2, if_pos c3]
      · refine ⟨b, hb.next fun k => ?_⟩
        rw [clepsydralaw23_units.l0, if_pos (by omega), if_pos (by omega), if_neg c1, if_neg c2, if_neg c3, wrap_lt hil (by omega)]
  exact L0 _ 0 rfl (Nat.zero_le _)
theorem ri_at' {L : List S30} {i : Nat} {x : S30} (h : L[i]? = some x) : rd_T30 L (i : Int) = x := by
  unfold rd_T30
  rw [Int.toNat_natCast, List.getD_eq_getElem?_getD, h]; rfl
theorem items_ev (L : List S30) (hL : L.length ≤ 8) : Ev (fun k => clepsydralaw23_items.f k L) ((its L).map rfI) := by
  have L0 : ∀ (m i : Nat), m = L.length - i → i ≤ L.length → Ev (fun k => clepsydralaw23_items.l0 k L ((its (L.take i)).map rfI) (i : Int)) ((its L).map rfI) := by
    intro m
    induction m with
    | zero =>
      intro i hm hi
      obtain rfl : i = L.length := by omega
      refine (Ev.const _).next fun k => ?_
      rw [clepsydralaw23_items.l0, if_neg (by omega), List.take_length]
    | succ m ih =>
      intro i hm hi
      have hil : i < L.length := by omega
      have hx : L[i]? = some L[i] := List.getElem?_eq_getElem hil
      have h := ih (i + 1) (by omega) (by omega)
      have e2 : (its (L.take i ++ [L[i]])).map rfI = (its (L.take i)).map rfI ++ [⟨L[i].f0.f0, L[i].f0.f1, L[i].f1⟩] := by
        rw [its, its, List.map_append, List.map_append]
        rfl
      rw [List.take_add_one, hx, Option.toList, e2] at h
      refine h.next fun k => ?_
      rw [clepsydralaw23_items.l0, if_pos (by omega), if_pos (by omega), if_pos (by simp [its]; omega), ri_at' hx, wrap_lt hil (by omega)]
  exact L0 _ 0 rfl (Nat.zero_le _)
theorem same_ev (a : List Int) (ha : a.length ≤ 1000) : Ev (fun k => clepsydrakit_SameInts.f k a a) true := by
  have L0 : ∀ (m i : Nat), m = a.length - i → i ≤ a.length → Ev (fun k => clepsydrakit_SameInts.l0 k a a (i : Int)) true := by
    intro m
    induction m with
    | zero =>
      intro i hm hi
      refine (Ev.const _).next fun k => ?_
      rw [clepsydrakit_SameInts.l0, if_neg (by omega)]
    | succ m ih =>
      intro i hm hi
      have hil : i < a.length := by omega
      refine (ih (i + 1) (by omega) (by omega)).next fun k => ?_
      rw [clepsydrakit_SameInts.l0, if_pos (by omega), if_pos (by omega), if_pos (by omega), if_pos rfl, wrap_lt hil (by omega)]
  refine (L0 _ 0 rfl (Nat.zero_le _)).congr fun k => ?_
  unfold clepsydrakit_SameInts.f
  rw [if_pos rfl]
  rfl
theorem mx_max (a b : Int) : mx a b = max a b := by unfold mx; split <;> omega
/-- The law's own look for the victim. -/
theorem ring_l0 {L : List S30} (hL : L.length ≤ 8) {r : List Int} (hr : r.length ≤ 1000) (hr0 : ∀ y ∈ r, 0 ≤ y ∧ y < L.length) :
    ∀ (m i : Nat), m = r.length - i → i ≤ r.length → ∀ a : Int, vic (its L) r = (r.drop i).foldl (fun a x => if mustAt (its L) x then a else max a x) a →
      Ev (fun k => clepsydralaw23_CycleRing.l0 k L r (vicV (its L) r).2.2.1 (vicV (its L) r).2.2.2 a (i : Int) (vicV (its L) r).1 (vicV (its L) r).2.1) true := by
  intro m
  induction m with
  | zero =>
    intro i hm hi a ha
    obtain rfl : i = r.length := by omega
    rw [List.drop_length, List.foldl_nil] at ha
    subst ha
    by_cases hv : 0 ≤ vic (its L) r
    · have hvv : vicV (its L) r = (((its L).getD (vic (its L) r).toNat dIt).u, ((its L).getD (vic (its L) r).toNat dIt).t, true, 0) := by unfold vicV; rw [if_pos hv]
      -- the victim is one of the ring
      have hmem : vic (its L) r ∈ r := by
        have key : ∀ (s : List Int) (b : Int), s.foldl (fun a x => if mustAt (its L) x then a else max a x) b = b ∨ s.foldl (fun a x => if mustAt (its L) x then a else max a x) b ∈ s := by
          intro s
          induction s with
          | nil => exact fun b => .inl rfl
          | cons y s ih =>
            intro b
            rw [List.foldl_cons]
            cases mustAt (its L) y
            · rw [if_neg (by simp)]
              rcases ih (max b y) with h | h
              · rw [h]
                rcases (show max b y = b ∨ max b y = y by omega) with h | h
                · exact .inl h
                · exact .inr (by rw [h]; exact List.mem_cons_self)
              · exact .inr (List.mem_cons_of_mem _ h)
            · rw [if_pos rfl]
              rcases ih b with h | h
              · exact .inl h
              · exact .inr (List.mem_cons_of_mem _ h)
        rcases key r (-1) with h | h
        · have : vic (its L) r = -1 := h
          omega
        · exact h
      obtain ⟨h0, hlt⟩ := hr0 _ hmem
      obtain ⟨p, hp⟩ : ∃ p : Nat, vic (its L) r = p := ⟨(vic (its L) r).toNat, by omega⟩
      have hpl : p < L.length := by omega
      have hx : L[p]? = some L[p] := List.getElem?_eq_getElem hpl
      have hget : (its L).getD p dIt = ⟨L[p].f0.f0, L[p].f0.f1, L[p].f1⟩ := by
        rw [List.getD_eq_getElem?_getD, its, List.getElem?_map, hx]; rfl
      refine (Ev.const true).next fun k => ?_
      rw [hvv, hp, Int.toNat_natCast, hget, clepsydralaw23_CycleRing.l0, if_neg (by omega), if_pos (by omega), if_pos rfl, if_pos rfl, if_pos (by omega), if_pos (by omega), ri_at' hx, if_pos (by simp)]
      rfl
    · have hvv : vicV (its L) r = (0, 0, false, if r = [] then 0 else 230) := by unfold vicV; rw [if_neg hv]
      refine (Ev.const true).next fun k => ?_
      rw [hvv, clepsydralaw23_CycleRing.l0, if_neg (by omega), if_neg (by omega), if_neg (by simp), if_pos (by simp)]
      by_cases hr : r = []
      · subst hr
        rfl
      · have := List.length_pos_iff.2 hr
        rw [if_neg hr, if_pos (by simp; omega), if_neg (by simp), if_pos rfl]
        rfl
  | succ m ih =>
    intro i hm hi a ha
    have hil : i < r.length := by omega
    obtain ⟨y, hy⟩ : ∃ y, r[i]? = some y := ⟨_, List.getElem?_eq_getElem hil⟩
    have hd : r.drop i = y :: r.drop (i + 1) := by
      rw [List.drop_eq_getElem_cons hil]
      congr 1
      rw [List.getElem?_eq_getElem hil] at hy
      exact Option.some.inj hy
    rw [hd, List.foldl_cons] at ha
    obtain ⟨h0, hlt⟩ := hr0 y (List.mem_of_getElem? hy)
    obtain ⟨p, rfl⟩ : ∃ p : Nat, y = p := ⟨y.toNat, by omega⟩
    have hpl : p < L.length := by omega
    have hx : L[p]? = some L[p] := List.getElem?_eq_getElem hpl
    have hmust : mustAt (its L) (p : Int) = L[p].f1 := by
      unfold mustAt
      rw [Int.toNat_natCast, List.getD_eq_getElem?_getD, its, List.getElem?_map, hx]; rfl
    rw [hmust] at ha
    cases hb : L[p].f1
    · rw [hb, if_neg (by simp)] at ha
      refine (ih (i + 1) (by omega) (by omega) _ ha).next fun k => ?_
      rw [clepsydralaw23_CycleRing.l0, if_pos (by omega), if_pos (by omega), rd_at' hy, if_pos (by omega), if_pos (by omega), ri_at' hx, hb, if_neg (by simp), mx_max, wrap_lt hil (by omega)]
    · rw [hb, if_pos rfl] at ha
      refine (ih (i + 1) (by omega) (by omega) _ ha).next fun k => ?_
      rw [clepsydralaw23_CycleRing.l0, if_pos (by omega), if_pos (by omega), rd_at' hy, if_pos (by omega), if_pos (by omega), ri_at' hx, hb, if_pos rfl, wrap_lt hil (by omega)]
theorem ring_law (g0 g1 g2 g3 af be g6 g7 g8 g9 : List (List Int)) (h1 : Big af) (h2 : Big be) (L : List S30) : Ev (fun k => clepsydralaw23_CycleRing.f k g0 g1 g2 g3 af be g6 g7 g8 g9 L) true := by
  have yes : Ev (fun k => clepsydralaw23_CycleRing.j0 k L true g0 g1 g2 g3 af be g6 g7 g8 g9) true := by
    refine (Ev.const true).next fun k => ?_
    rw [clepsydralaw23_CycleRing.j0, if_pos rfl]
    rfl
  have no : L.length ≤ 8 → Ev (fun k => clepsydralaw23_CycleRing.j0 k L false g0 g1 g2 g3 af be g6 g7 g8 g9) true := by
    intro hL
    have hl8 : (its L).length ≤ 8 := by rw [its_length]; exact hL
    have hrl := many_rlen af be (its L)
    have hol := many_len af be (its L)
    have hN := many_none (af := af) (be := be) (l := its L)
    have hS := many_some (af := af) (be := be) (l := its L)
    have hr0 : ∀ y ∈ RingL (nextL af be (its L)), 0 ≤ y ∧ y < L.length := by
      intro y hy
      obtain ⟨i, hi⟩ := List.getElem?_of_mem hy
      obtain ⟨p, _, _, _, _, e, _, _, _, hp, _⟩ := many_ring (List.getElem?_eq_some_iff.1 hi).1
      rw [hi] at e
      cases e
      rw [its_length] at hp
      omega
    have hR := Ring_f h1 h2 (l := its L) (by omega)
    have hO := Order_f h1 h2 (l := its L) (by omega)
    generalize hr : RingL (nextL af be (its L)) = r at *
    generalize ho : OrderL (nextL af be (its L)) = o at *
    rw [its_length] at hrl hol hN
    have J1 : ∀ b : Bool, b = false → Ev (fun k => clepsydralaw23_CycleRing.j1 k L r b g0 g1 g2 g3 af be g6 g7 g8 g9) true := by
      rintro b rfl
      have h := ring_l0 hL (by omega) hr0 _ 0 rfl (Nat.zero_le _) (-1) rfl
      have e : Ev (fun k => (cycle_Victim.f g0 g1 g2 g3 af be g6 g7 g8 g9 L).bind fun bt221 => clepsydralaw23_CycleRing.l0 k L r bt221.2.2.1 bt221.2.2.2 (-1) 0 bt221.1 bt221.2.1) true := by
        refine Ev.bind (g := fun _ => cycle_Victim.f g0 g1 g2 g3 af be g6 g7 g8 g9 L) (a := vicV (its L) r) (Ev.of fun k => ?_) h
        unfold cycle_Victim.f
        rw [if_pos hL, hr]
      refine e.next fun k => ?_
      rw [clepsydralaw23_CycleRing.j1, if_neg (by simp)]
    have e : Ev (fun k => (clepsydralaw23_plain.f g0 g1 g2 g3 af be g6 g7 g8 g9).bind fun bt197 => ((clepsydralaw23_items.f k L).bind fun t203 => ((cycle_Ring.f g0 g1 g2 g3 af be g6 g7 g8 g9 L).bind fun t207 => ((clepsydraref23_Ring.f k bt197.1 bt197.2 t203).bind fun t210 => ((cycle_Order.f g0 g1 g2 g3 af be g6 g7 g8 g9 L).bind fun t213 => ((clepsydrakit_SameInts.f k t207 t210).bind fun t216 => (if t216 = true then ((clepsydraref23_Order.f k bt197.1 bt197.2 t203).bind fun t217 => ((clepsydrakit_SameInts.f k t213 t217).bind fun t220 => (if t220 = true then (if (L.length : Int) > 0 then (clepsydralaw23_CycleRing.j1 k L t210 (((t207.length : Int) == 0) != (decide ((t213.length : Int) > 0))) g0 g1 g2 g3 af be g6 g7 g8 g9) else (clepsydralaw23_CycleRing.j1 k L t210 false g0 g1 g2 g3 af be g6 g7 g8 g9)) else (clepsydralaw23_CycleRing.j1 k L t210 true g0 g1 g2 g3 af be g6 g7 g8 g9)))) else (clepsydralaw23_CycleRing.j1 k L t210 true g0 g1 g2 g3 af be g6 g7 g8 g9)))))))) true := by
      refine Ev.bind (g := fun _ => clepsydralaw23_plain.f g0 g1 g2 g3 af be g6 g7 g8 g9) (a := (af, be)) (Ev.of fun k => rfl) ?_
      refine Ev.bind (items_ev L hL) ?_
      refine Ev.bind (g := fun _ => cycle_Ring.f g0 g1 g2 g3 af be g6 g7 g8 g9 L) (a := r) (Ev.of fun k => by unfold cycle_Ring.f; rw [if_pos (by omega), hr]) ?_
      refine Ev.bind hR ?_
      refine Ev.bind (g := fun _ => cycle_Order.f g0 g1 g2 g3 af be g6 g7 g8 g9 L) (a := o) (Ev.of fun k => by unfold cycle_Order.f; rw [if_pos (by omega), ho]) ?_
      refine Ev.bind (same_ev r (by omega)) ?_
      simp only [if_true]
      refine Ev.bind hO ?_
      refine Ev.bind (same_ev o (by omega)) ?_
      simp only [if_true]
      by_cases hL0 : (L.length : Int) > 0
      · simp only [if_pos hL0]
        refine J1 _ ?_
        by_cases hr' : r = []
        · have := hN hr'
          rw [hr', decide_eq_true (by omega)]
          rfl
        · have := hS hr'
          have hp := List.length_pos_iff.2 hr'
          rw [this, show ((r.length : Int) == 0) = false from by rw [beq_eq_false_iff_ne]; omega]
          rfl
      · simp only [if_neg hL0]
        exact J1 _ rfl
    refine e.next fun k => ?_
    rw [clepsydralaw23_CycleRing.j0, if_neg (by simp)]
  have e : Ev (fun k => (clepsydralaw23_few.f k g0 g1 g2 g3 af be g6 g7 g8 g9).bind fun t194 => (if t194 = true then (if (L.length : Int) > 8 then (clepsydralaw23_CycleRing.j0 k L true g0 g1 g2 g3 af be g6 g7 g8 g9) else ((clepsydralaw23_units.f k g0 g1 g2 g3 af be g6 g7 g8 g9 L).bind fun t195 => (clepsydralaw23_CycleRing.j0 k L (!t195) g0 g1 g2 g3 af be g6 g7 g8 g9))) else (clepsydralaw23_CycleRing.j0 k L true g0 g1 g2 g3 af be g6 g7 g8 g9))) true := by
    obtain ⟨b, hb⟩ := few_ev g0 g1 g2 g3 af be g6 g7 g8 g9 h1 h2
    refine Ev.bind hb ?_
    cases b
    · simpa using yes
    · simp only [if_true]
      by_cases hL : (L.length : Int) > 8
      · simp only [if_pos hL]; exact yes
      · simp only [if_neg hL]
        obtain ⟨u, hu⟩ := units_ev g0 g1 g2 g3 af be g6 g7 g8 g9 L (by omega)
        refine Ev.bind hu ?_
        cases u
        · exact yes
        · exact no (by omega)
  exact e
end Go.Proofs.Ythlobpdcolgcoaa
