/- The document's Ring and Order, as plain functions: told. -/
import Derived.Test.YthlobpdcolgcoaaPRing
import Derived.Test.YthlobpdcolgcoaaPx7
namespace Go.Proofs.Ythlobpdcolgcoaa
open Go.RowKit Go.Proofs.Ythlobpdcolgcoaa.P Go.Proofs.YthlobpdcolgcoaaW.PrintWords
set_option linter.unusedVariables false
set_option linter.unusedSimpArgs false
theorem ringN_tryN (E : Int → Int → Bool) (n s : Nat) : ringN E n s = tryN (fun i => goR E n i s [i] i) 0 n := by
  unfold ringN
  rw [List.range_eq_range', tryN_eq]
theorem Ring_l1 {E : Int → Int → Bool} {l : List It} (hn : l.length ≤ 60) {s : Nat} (hs : s < 40) {r0 : List Int} (h0 : Ev (fun k => clepsydraref23_Ring.l0 k (l.map rfI) (tabE E l.length) ((s + 2 : Nat) : Int)) r0) :
    ∀ (m i : Nat), m = l.length - i → i ≤ l.length → Ev (fun k => clepsydraref23_Ring.l1 k (l.map rfI) (tabE E l.length) ((s + 1 : Nat) : Int) (i : Int))
      (if tryN (fun i => goR E l.length i s [i] i) i m ≠ [] then tryN (fun i => goR E l.length i s [i] i) i m else r0) := by
  intro m
  induction m with
  | zero =>
    intro i hm hi
    obtain rfl : i = l.length := by omega
    rw [tryN, if_neg (by simp)]
    refine h0.next fun k => ?_
    rw [clepsydraref23_Ring.l1, if_neg (by simp), show wrap64 (((s + 1 : Nat) : Int) + 1) = ((s + 2 : Nat) : Int) by rw [wrap64_in' _ (by omega)]; omega]
  | succ m ih =>
    intro i hm hi
    have hil : i < l.length := by omega
    have h1 := goes_f (E := E) hn hil s [(i : Int)] i hil (by simp) (by simp; omega)
    have e : Ev (fun k => (clepsydraref23_goes.f k (tabE E l.length) [(i : Int)] (i : Int) ((s + 1 : Nat) : Int) (i : Int)).bind fun t171 => if (t171.length : Int) > 0 then some t171 else clepsydraref23_Ring.l1 k (l.map rfI) (tabE E l.length) ((s + 1 : Nat) : Int) ((i + 1 : Nat) : Int))
        (if tryN (fun i => goR E l.length i s [i] i) i (m + 1) ≠ [] then tryN (fun i => goR E l.length i s [i] i) i (m + 1) else r0) := by
      refine Ev.bind h1 ?_
      by_cases h0 : goR E l.length i s [(i : Int)] i = []
      · have ht : tryN (fun i => goR E l.length i s [i] i) i (m + 1) = tryN (fun i => goR E l.length i s [i] i) (i + 1) m := by
          rw [tryN]
          exact if_neg (by simp [h0])
        rw [ht]
        simp only [h0]
        exact ih (i + 1) (by omega) (by omega)
      · have ht : tryN (fun i => goR E l.length i s [i] i) i (m + 1) = goR E l.length i s [(i : Int)] i := by
          rw [tryN]
          exact if_pos h0
        rw [ht, if_pos h0]
        have : ((goR E l.length i s [(i : Int)] i).length : Int) > 0 := by have := List.length_pos_iff.2 h0; omega
        simp only [if_pos this]
        exact Ev.const _
    refine e.next fun k => ?_
    rw [clepsydraref23_Ring.l1, if_pos (by simpa using hil), wrap_lt hil (by omega)]
theorem Ring_l0 {E : Int → Int → Bool} {l : List It} (hn : l.length ≤ 30) : ∀ (j s : Nat), j = l.length - s → s ≤ 31 → Ev (fun k => clepsydraref23_Ring.l0 k (l.map rfI) (tabE E l.length) ((s + 1 : Nat) : Int)) (refRing E l.length s j)
  | 0, s, hj, hs => by
    refine (Ev.const _).next fun k => ?_
    rw [clepsydraref23_Ring.l0, if_neg (by simp; omega)]
    rfl
  | j + 1, s, hj, hs => by
    have h0 := Ring_l0 hn j (s + 1) (by omega) (by omega) (E := E)
    have h1 := Ring_l1 (by omega) (by omega) h0 _ 0 rfl (Nat.zero_le _) (E := E) (s := s)
    rw [refRing, ringN_tryN]
    refine h1.next fun k => ?_
    rw [clepsydraref23_Ring.l0, if_pos (by simp; omega)]
    rfl
theorem isRow_next (af be : List (List Int)) (l : List It) : IsRow (EE af be l) (nextL af be l) := by
  intro x hx
  rw [nextL_length] at hx ⊢
  rw [row_getD, List.getD_eq_getElem?_getD]
  unfold nextL
  rw [List.getElem?_map, List.getElem?_eq_getElem hx]
  show rowTo af be l l[x] l.length = _
  unfold rowTo
  rw [List.filter_map]
  congr 1
  refine List.filter_congr fun j hj => ?_
  show ahd af be l[x] (l.getD j dIt) = EE af be l (x : Int) (Int.ofNat j)
  unfold EE
  rw [Int.toNat_natCast, List.getD_eq_getElem?_getD (l := l) (i := x), List.getElem?_eq_getElem hx]
  rfl
theorem no_self {af be : List (List Int)} {l : List It} (h d : Nat) (hw : wk (nextL af be l) h d h = true) : 1 ≤ d := by
  cases d with
  | succ d => omega
  | zero =>
    obtain ⟨i, j, hi, hj, a, b, ha, hb, hab⟩ := mem_next.1 (wk_zero.1 hw).2
    obtain rfl : i = j := by omega
    rw [ha] at hb
    cases hb
    unfold ahd aheadB at hab
    rw [if_pos rfl] at hab
    cases hab
theorem Ring_f {af be : List (List Int)} (h1 : Big af) (h2 : Big be) {l : List It} (hn : l.length ≤ 30) : Ev (fun k => clepsydraref23_Ring.f k af be (l.map rfI)) (RingL (nextL af be l)) := by
  have h := Ring_l0 hn _ 1 rfl (by omega) (E := EE af be l)
  have e := refRing_eq (isRow_next af be l) (l.length - 1) 1 (fun h d hw => no_self h d hw) (by rw [nextL_length]; omega)
  rw [nextL_length] at e
  rw [e] at h
  exact Ev.bind (table_f h1 h2 (by omega)) h

/-- Which are gone. -/
def goneL (n : Nat) (G : List Int) : List Bool := (List.range n).map fun (k : Nat) => G.contains (k : Int)
theorem goneL_length (n : Nat) (G : List Int) : (goneL n G).length = n := by simp [goneL]
theorem goneL_at {n k : Nat} {G : List Int} (hk : k < n) : rdOf false (goneL n G) (k : Int) = G.contains (k : Int) := by
  unfold rdOf goneL
  rw [Int.toNat_natCast, List.getD_eq_getElem?_getD, List.getElem?_map, List.getElem?_range hk]
  rfl
theorem goneL_nil (n : Nat) : goneL n [] = List.replicate n false := by
  refine List.ext_getElem? fun j => ?_
  unfold goneL
  rw [List.getElem?_map, List.getElem?_replicate]
  by_cases hj : j < n
  · rw [List.getElem?_range hj, if_pos hj]; rfl
  · rw [List.getElem?_eq_none (by simpa using hj), if_neg hj]; rfl
theorem goneL_set {n p : Nat} (G : List Int) (hp : p < n) : (goneL n G).set p true = goneL n ((p : Int) :: G) := by
  refine List.ext_getElem? fun j => ?_
  by_cases hj : j < n
  · by_cases hjc : p = j
    · subst hjc
      rw [List.getElem?_set_self (by rw [goneL_length]; exact hp)]
      unfold goneL
      rw [List.getElem?_map, List.getElem?_range hj]
      simp
    · rw [List.getElem?_set_ne hjc]
      unfold goneL
      rw [List.getElem?_map, List.getElem?_map, List.getElem?_range hj]
      simp only [Option.map_some, List.contains_cons]
      have : ((j : Int) == (p : Int)) = false := by rw [beq_eq_false_iff_ne]; omega
      rw [this, Bool.false_or]
  · rw [List.getElem?_eq_none (by rw [List.length_set, goneL_length]; omega), List.getElem?_eq_none (by rw [goneL_length]; omega)]
/-- Is i free, told by E? -/
def freeE (E : Int → Int → Bool) (n : Nat) (G : List Int) (i : Nat) : Bool := !G.contains (i : Int) && (List.range n).all fun (k : Nat) => G.contains (k : Int) || !E (k : Int) (i : Int)
theorem freeE_eq {E : Int → Int → Bool} {tb : List (List Int)} (hE : IsRow E tb) {G : List Int} {i : Nat} (hi : i < tb.length) : freeE E tb.length G i = freeB tb G i := by
  unfold freeE freeB
  congr 1
  rw [Bool.eq_iff_iff, List.all_eq_true, List.all_eq_true]
  have key : ∀ k : Nat, k < tb.length → (tb.getD k []).contains (i : Int) = E (k : Int) (i : Int) := fun k hk => by
    rw [← row_getD, Bool.eq_iff_iff, List.contains_iff_mem, hE.mem hk]
    exact ⟨fun h => h.2, fun h => ⟨⟨i, hi, rfl⟩, h⟩⟩
  constructor
  · intro h k hk
    have := h k hk
    rw [key k (by simpa using hk)]
    exact this
  · intro h k hk
    have := h k hk
    rw [key k (by simpa using hk)] at this
    exact this
theorem Order_l2 {E : Int → Int → Bool} {l : List It} (hn : l.length ≤ 60) {G x6 : List Int} {b : Int} {i : Nat} (hi : i < l.length) {r : List Int}
    (h : Ev (fun k => if freeE E l.length G i = true then clepsydraref23_Order.l1 k (l.map rfI) (tabE E l.length) x6 (goneL l.length G) (i : Int) ((i : Int) - 1) else clepsydraref23_Order.l1 k (l.map rfI) (tabE E l.length) x6 (goneL l.length G) b ((i : Int) - 1)) r) :
    ∀ (m c : Nat) (f : Bool), m = l.length - c → c ≤ l.length → (f && ((List.range' c m).all fun (k : Nat) => G.contains (k : Int) || !E (k : Int) (i : Int))) = freeE E l.length G i →
      Ev (fun k => clepsydraref23_Order.l2 k (l.map rfI) (tabE E l.length) x6 (goneL l.length G) b (i : Int) f (c : Int)) r := by
  have hw : wrap64 ((i : Int) - 1) = (i : Int) - 1 := wrap64_in' _ (by omega)
  intro m
  induction m with
  | zero =>
    intro c f hm hc hf
    rw [List.range'_zero, List.all_nil, Bool.and_true] at hf
    subst hf
    refine h.next fun k => ?_
    rw [clepsydraref23_Order.l2, if_neg (by simp; omega), hw]
  | succ m ih =>
    intro c f hm hc hf
    have hcl : c < l.length := by omega
    rw [List.range'_succ, List.all_cons] at hf
    cases f
    · rw [Bool.false_and] at hf
      refine (ih (c + 1) false (by omega) (by omega) (by rw [Bool.false_and]; exact hf)).next fun k => ?_
      rw [clepsydraref23_Order.l2, if_pos (by simpa using hcl), if_neg (by simp), wrap_lt hcl (by omega)]
    · rw [Bool.true_and] at hf
      by_cases hg : G.contains (c : Int) = true
      · rw [hg, Bool.true_or, Bool.true_and] at hf
        refine (ih (c + 1) true (by omega) (by omega) (by rw [Bool.true_and]; exact hf)).next fun k => ?_
        rw [clepsydraref23_Order.l2, if_pos (by simpa using hcl), if_pos rfl, if_pos (by omega), if_pos (by rw [goneL_length]; omega), goneL_at hcl, if_pos hg, wrap_lt hcl (by omega)]
      · have hg' : G.contains (c : Int) = false := by simpa using hg
        rw [hg', Bool.false_or] at hf
        refine (ih (c + 1) _ (by omega) (by omega) hf).next fun k => ?_
        rw [clepsydraref23_Order.l2, if_pos (by simpa using hcl), if_pos rfl, if_pos (by omega), if_pos (by rw [goneL_length]; omega), goneL_at hcl, if_neg hg, if_pos (by rw [tabE_length]; omega), if_pos (by omega), tabE_at hcl, if_pos (by rw [rowE_length]; omega), rowE_at hi, wrap_lt hcl (by omega)]
def bst (b0 : Option Nat) (b : Int) : Int := match b0 with
  | some p => (p : Int)
  | none => b
theorem Order_l1 {E : Int → Int → Bool} {l : List It} (hn : l.length ≤ 60) {G x6 : List Int} {r : List Int} (b0 : Option Nat)
    (h : ∀ b : Int, b = bst b0 (-1) → Ev (fun k => clepsydraref23_Order.l1 k (l.map rfI) (tabE E l.length) x6 (goneL l.length G) b (-1)) r) :
    ∀ (m : Nat) (b : Int), m ≤ l.length → bst ((List.range m).find? (freeE E l.length G)) b = bst b0 (-1) →
      Ev (fun k => clepsydraref23_Order.l1 k (l.map rfI) (tabE E l.length) x6 (goneL l.length G) b ((m : Int) - 1)) r := by
  intro m
  induction m with
  | zero =>
    intro b _ hb
    exact h b hb
  | succ m ih =>
    intro b hm hb
    have hml : m < l.length := by omega
    rw [List.range_succ, List.find?_append] at hb
    have hfin : Ev (fun k => if freeE E l.length G m = true then clepsydraref23_Order.l1 k (l.map rfI) (tabE E l.length) x6 (goneL l.length G) (m : Int) ((m : Int) - 1) else clepsydraref23_Order.l1 k (l.map rfI) (tabE E l.length) x6 (goneL l.length G) b ((m : Int) - 1)) r := by
      by_cases hf : freeE E l.length G m = true
      · simp only [if_pos hf]
        refine ih (m : Int) (by omega) ?_
        rw [← hb]
        cases (List.range m).find? (freeE E l.length G) with
        | some p => rfl
        | none => simp [hf, bst]
      · simp only [if_neg hf]
        refine ih b (by omega) ?_
        rw [← hb]
        cases (List.range m).find? (freeE E l.length G) with
        | some p => rfl
        | none => simp [hf, bst]
    have h2 := Order_l2 hn (G := G) (x6 := x6) (b := b) hml hfin l.length 0 (!G.contains (m : Int)) rfl (Nat.zero_le _) (by unfold freeE; rw [List.range_eq_range'])
    refine h2.next fun k => ?_
    have e : ((m + 1 : Nat) : Int) - 1 = (m : Int) := by omega
    rw [e, clepsydraref23_Order.l1, if_pos (by omega), if_pos (by omega), if_pos (by rw [goneL_length]; omega), goneL_at hml]
    rfl
theorem find_lt {n : Nat} {f : Nat → Bool} {p : Nat} (h : (List.range n).find? f = some p) : p < n := by
  have := List.mem_of_find?_eq_some h
  simpa using this
theorem Order_l0 {E : Int → Int → Bool} {l : List It} {tb : List (List Int)} (hE : IsRow E tb) (htb : tb.length = l.length) (hn : l.length ≤ 60) : ∀ (j : Nat) (G out : List Int), out.length + j = l.length →
    Ev (fun k => clepsydraref23_Order.l0 k (l.map rfI) (tabE E l.length) out (goneL l.length G)) ((ordG tb j G).elim [] (out ++ ·))
  | 0, G, out, h => by
    refine (Ev.const _).next fun k => ?_
    rw [clepsydraref23_Order.l0, if_neg (by simp; omega), ordG]
    simp
  | j + 1, G, out, h => by
    have hfe : (List.range l.length).find? (freeE E l.length G) = (List.range tb.length).find? (freeB tb G) := by
      rw [← htb]
      exact find_congr _ fun i hi => by rw [freeE_eq hE (by simpa using hi)]
    have hw : wrap64 (((l.map rfI).length : Int) - 1) = (l.length : Int) - 1 := by rw [List.length_map]; exact wrap64_in' _ (by omega)
    have fin : Ev (fun k => clepsydraref23_Order.l1 k (l.map rfI) (tabE E l.length) out (goneL l.length G) (-1) ((l.length : Int) - 1)) ((ordG tb (j + 1) G).elim [] (out ++ ·)) := by
      refine Order_l1 hn ((List.range tb.length).find? (freeB tb G)) ?_ l.length (-1) (Nat.le_refl _) (by rw [hfe])
      intro b hb
      rw [ordG]
      cases hf : (List.range tb.length).find? (freeB tb G) with
      | none =>
        rw [hf] at hb
        have hb : b = -1 := hb
        subst hb
        refine (Ev.const _).next fun k => ?_
        rw [clepsydraref23_Order.l1, if_neg (by omega), if_pos (by omega)]
        rfl
      | some p =>
        rw [hf] at hb
        have hb : b = (p : Int) := hb
        subst hb
        have hp := find_lt hf
        have := Order_l0 hE htb hn j ((p : Int) :: G) (out ++ [(p : Int)]) (by simp; omega)
        have e : ((ordG tb j ((p : Int) :: G)).elim [] (out ++ [(p : Int)] ++ ·)) = (((ordG tb j ((p : Int) :: G)).map ((p : Int) :: ·)).elim [] (out ++ ·)) := by
          cases ordG tb j ((p : Int) :: G) with
          | none => rfl
          | some o => simp
        rw [e] at this
        refine this.next fun k => ?_
        rw [clepsydraref23_Order.l1, if_neg (by omega), if_neg (by omega), if_pos (by omega), if_pos (by rw [goneL_length]; omega), if_pos (by omega), Int.toNat_natCast, goneL_set _ (by omega)]
    refine fin.next fun k => ?_
    rw [clepsydraref23_Order.l0, if_pos (by simp; omega), hw]
theorem Order_f {af be : List (List Int)} (h1 : Big af) (h2 : Big be) {l : List It} (hn : l.length ≤ 60) : Ev (fun k => clepsydraref23_Order.f k af be (l.map rfI)) (OrderL (nextL af be l)) := by
  have h := Order_l0 (isRow_next af be l) (nextL_length af be l) hn l.length [] [] (by simp)
  have e : (ordG (nextL af be l) l.length []).elim [] (([] : List Int) ++ ·) = OrderL (nextL af be l) := by
    rw [OrderL_ordG (next_ent af be l), nextL_length]
    cases ordG (nextL af be l) l.length [] <;> simp
  rw [e, goneL_nil] at h
  refine Ev.bind (table_f h1 h2 (by omega)) ?_
  refine h.congr fun k => ?_
  rw [if_pos (by omega), if_pos (by simp; omega)]
  simp
end Go.Proofs.Ythlobpdcolgcoaa
