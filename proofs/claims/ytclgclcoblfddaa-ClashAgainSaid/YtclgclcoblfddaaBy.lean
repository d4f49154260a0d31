/- Chapter 21: who must have a job: a map of rows of jobs. -/
import Derived.Test.YtclgclcoblfddaaSetOf
import Derived.Test.YtclgclcoblfddaaWholeL
namespace Go.Proofs.Ytclgclcoblfddaa
open Go.RowKit Go.Shelf
set_option linter.unusedVariables false
set_option linter.unusedSectionVars false
set_option linter.unusedSimpArgs false
section
variable {α : Type} [DecidableEq α] {T : TypeId} {enc : α → Value}
theorem wpList_entry {w : World} {ops : Array Oper} {rest : List Oper} {o : Oper} {a : Act} {Q : Exit → Act → World → Prop} (K : KeyT T enc)
    (hg : o.guard = none) (m x : Operand) (MT E : TypeId) (hop : o.op = Op.mapEntry MT m x) (ht : Try.prog.underlying MT = some (.map T E)) {z : Value} (hz : (zeroValue E).run Try.prog w = .ok z w) (b : Nat) (es : List (α × Value))
    (hm : a.eval m = .map (some b)) (hown : RMap enc w b es) (k : α) (hx : a.eval x = enc k)
    (hK : ∀ w' (st : Int), RMap enc w' b (putOf k ((valOf k es).getD z) es) → w.grownBy w' (some b) →
      (∀ W2 v, RMap enc W2 b (putOf k ((valOf k es).getD z) es) → ∃ W3, (Instr.entryStore MT (.map (some b)) (goInt st) v).run Try.prog W2 = .ok () W3 ∧ RMap enc W3 b (putOf k v es) ∧ W2.grownBy W3 (some b)) →
      wpList Try.prog ops Q rest (a.put o.dst (.tuple #[(valOf k es).getD z, goInt st])) w') :
    wpList Try.prog ops Q (o :: rest) a w := by
  refine wpList_plain hg fun K' hK' => ?_
  obtain ⟨w', st, hrun, r1, r2, r3⟩ := hown.entry K ht hz k
  unfold Oper.wp
  simp [execOp, hop, hm, hx, hrun, Result.andThen]
  exact hK' _ _ (hK w' st r1 r2 r3)
theorem wpList_entryStore {w w' : World} {ops : Array Oper} {rest : List Oper} {o : Oper} {a : Act} {Q : Exit → Act → World → Prop}
    (hg : o.guard = none) (m s v : Operand) (MT : TypeId) (hop : o.op = Op.entryStore MT m s v) {mv sv vv : Value}
    (hm : a.eval m = mv) (hs : a.eval s = sv) (hv : a.eval v = vv) (hrun : (Instr.entryStore MT mv sv vv).run Try.prog w = .ok () w')
    (hK : wpList Try.prog ops Q rest (a.put o.dst undef) w') :
    wpList Try.prog ops Q (o :: rest) a w := by
  refine wpList_plain hg fun K' hK' => ?_
  unfold Oper.wp
  simp [execOp, hop, hm, hs, hv, hrun, Result.andThen]
  exact hK' _ _ hK
end
/-- A row of jobs that may not be there. -/
def rowJ (W : World) (base : Nat) (v : Option Value) (l : List Jb) : Prop := match v with
  | none => l = []
  | some v => W.ownsRow base 32 2 v l.length (cellsJ l)
/-- A map of rows of jobs; R: the blocks that are rows. -/
structure ByM (W : World) (base b : Nat) (R : Nat → Prop) (f : Jb → List Jb) (es : List (Jb × Value)) (g : Jb → Option Value) : Prop where
  map : RMap encJ W b es
  fm : FM es g
  row : ∀ k, rowJ W base (g k) (f k)
  apart : ∀ k k' v v' q, k ≠ k' → g k = some v → g k' = some v' → v.ownBlock = some q → v'.ownBlock ≠ some q
  off : ∀ k v q, g k = some v → v.ownBlock = some q → R q
theorem ByM.nil {W : World} {base b : Nat} {R : Nat → Prop} (h : RMap encJ W b ([] : List (Jb × Value))) : ByM W base b R (fun _ => []) [] (fun _ => none) :=
  ⟨h, FM.nil, fun k => rfl, (fun _ _ _ _ _ _ h => by cases h), (fun _ _ _ h => by cases h)⟩
theorem rowJ.keep {W W' : World} {base : Nat} {v : Option Value} {l : List Jb} (h : rowJ W base v l) (hk : ∀ u q, v = some u → u.ownBlock = some q → W'.heap[q]? = W.heap[q]?) : rowJ W' base v l := by
  cases v with
  | none => exact h
  | some u =>
    obtain ⟨h1, h2⟩ := h
    refine ⟨h1, h2.imp_right ?_⟩
    rintro ⟨g, cap, cur, rfl, p1, p2, p3⟩
    exact ⟨g, cap, cur, rfl, p1, (hk _ g rfl rfl).trans p2, p3⟩
theorem ByM.keep {W W' : World} {base b : Nat} {R : Nat → Prop} {f : Jb → List Jb} {es : List (Jb × Value)} {g : Jb → Option Value} (h : ByM W base b R f es g) (hb : W'.heap[b]? = W.heap[b]?) (hR : ∀ q, q < W.heap.size → R q → W'.heap[q]? = W.heap[q]?) : ByM W' base b R f es g :=
  ⟨hb.trans h.map, h.fm, fun k => (h.row k).keep fun u q e1 e2 => hR q (by have := h.row k; rw [e1] at this; exact (World.ownsRow.lt this q e2).2) (h.off k u q e1 e2), h.apart, h.off⟩
theorem ByM.keepR {W W' : World} {base b : Nat} {R : Nat → Prop} {f : Jb → List Jb} {es : List (Jb × Value)} {g : Jb → Option Value} (h : ByM W base b R f es g) (R' : Nat → Prop) (hb : W'.heap[b]? = W.heap[b]?) (hR : ∀ q, (∃ k v, g k = some v ∧ v.ownBlock = some q) → W'.heap[q]? = W.heap[q]?) (hR' : ∀ q, (∃ k v, g k = some v ∧ v.ownBlock = some q) → R' q) : ByM W' base b R' f es g :=
  ⟨hb.trans h.map, h.fm, fun k => (h.row k).keep fun u q e1 e2 => hR q ⟨k, u, e1, e2⟩, h.apart, fun k v q e1 e2 => hR' q ⟨k, v, e1, e2⟩⟩
theorem ByM.typedR {W : World} {base b : Nat} {R : Nat → Prop} {f : Jb → List Jb} {es : List (Jb × Value)} {g : Jb → Option Value} (h : ByM W base b R f es g) {q : Nat} (hq : ∃ k v, g k = some v ∧ v.ownBlock = some q) : base ≤ q ∧ q < W.heap.size ∧ ∃ cells, W.heap[q]? = some (.cells cells 32 (0, 0)) := by
  obtain ⟨k, v, e1, e2⟩ := hq
  have h1 := h.row k
  rw [e1] at h1
  obtain ⟨_, h2⟩ := h1
  rcases h2 with ⟨rfl, _⟩ | ⟨g', cap, cur, rfl, p1, p2, p3⟩
  · cases e2
  · cases e2; exact ⟨p1, (Array.getElem?_eq_some_iff.1 p2).1, cur, p2⟩
theorem ByM.ext {W W' : World} {base b : Nat} {R : Nat → Prop} {f : Jb → List Jb} {es : List (Jb × Value)} {g : Jb → Option Value} (h : ByM W base b R f es g) (hx : Ext W W') : ByM W' base b R f es g :=
  h.keep (hx.block b h.map.lt) fun q hq _ => hx.block q hq
theorem ByM.low {W : World} {base b : Nat} {R : Nat → Prop} {f : Jb → List Jb} {es : List (Jb × Value)} {g : Jb → Option Value} (h : ByM W base b R f es g) (k : Jb) (u : Value) (q : Nat) (e1 : g k = some u) (e2 : u.ownBlock = some q) : base ≤ q ∧ q < W.heap.size := by
  have := h.row k
  rw [e1] at this
  exact World.ownsRow.lt this q e2
/-- A key's row is grown. -/
theorem ByM.step {W W3 : World} {base b : Nat} {R R' : Nat → Prop} {f : Jb → List Jb} {es : List (Jb × Value)} {g : Jb → Option Value} (h : ByM W base b R f es g) (x : Jb) (v v' : Value) (l : List Jb) (hv : v = (g x).getD (.slice none 0 0))
    (hmap : RMap encJ W3 b (putOf x v' es)) (hrow : W3.ownsRow base 32 2 v' l.length (cellsJ l)) (hown : ∀ k, v'.ownBlock = some k → v.ownBlock = some k ∨ W.heap.size ≤ k)
    (hkeep : ∀ q, q < W.heap.size → q ≠ b → v.ownBlock ≠ some q → W3.heap[q]? = W.heap[q]?) (hR : ∀ q, R q → R' q) (hR2 : ∀ q, W.heap.size ≤ q → R' q) :
    ByM W3 base b R' (fun k => if k = x then l else f k) (putOf x v' es) (fun k => if k = x then some v' else g k) := by
  have hx : ∀ q, v.ownBlock = some q → g x = some v := by
    intro q hq
    cases hg : g x with
    | none => rw [hg] at hv; subst hv; cases hq
    | some u => rw [hg] at hv; rw [hv]; rfl
  have hnb : ∀ k u q, g k = some u → u.ownBlock = some q → q ≠ b := by
    intro k u q e1 e2 e3
    have h1 := h.row k
    rw [e1] at h1
    obtain ⟨_, h2⟩ := h1
    rcases h2 with ⟨rfl, _⟩ | ⟨g', cap, cur, rfl, p1, p2, p3⟩
    · cases e2
    · cases e2
      have h3 := h.map
      unfold RMap at h3
      rw [← e3, p2] at h3
      cases h3
  refine ⟨hmap, h.fm.put x v', fun k => ?_, fun k k' u u' q hne e1 e2 e3 e4 => ?_, fun k u q e1 e2 => ?_⟩
  · by_cases e : k = x
    · simp only [if_pos e]; exact hrow
    · simp only [if_neg e]
      refine (h.row k).keep fun u q e1 e2 => hkeep q (h.low k u q e1 e2).2 (hnb k u q e1 e2) fun e3 => ?_
      exact h.apart k x u v q e e1 (hx q e3) e2 e3
  · have hlt : ∀ k u q, g k = some u → u.ownBlock = some q → q < W.heap.size := fun k u q e1 e2 => (h.low k u q e1 e2).2
    by_cases c1 : k = x
    · rw [if_pos c1] at e1
      rw [if_neg (fun e => hne (c1.trans e.symm))] at e2
      cases e1
      rcases hown q e3 with e5 | e5
      · exact h.apart k k' v u' q hne (by rw [c1]; exact hx q e5) e2 e5 e4
      · have := hlt k' u' q e2 e4; omega
    · rw [if_neg c1] at e1
      by_cases c2 : k' = x
      · rw [if_pos c2] at e2
        cases e2
        rcases hown q e4 with e5 | e5
        · exact h.apart k k' u v q hne e1 (by rw [c2]; exact hx q e5) e3 e5
        · have := hlt k u q e1 e3; omega
      · rw [if_neg c2] at e2
        exact h.apart k k' u u' q hne e1 e2 e3 e4
  · by_cases c1 : k = x
    · rw [if_pos c1] at e1
      cases e1
      rcases hown q e2 with e5 | e5
      · exact hR q (h.off x v q (hx q e5) e5)
      · exact hR2 q e5
    · rw [if_neg c1] at e1
      exact hR q (h.off k u q e1 e2)
theorem zeroJs (w : World) : (zeroValue 36).run Try.prog w = .ok (.slice none 0 0) w := by kernel_rfl
theorem ByM.get {W : World} {base b : Nat} {R : Nat → Prop} {f : Jb → List Jb} {es : List (Jb × Value)} {g : Jb → Option Value} (h : ByM W base b R f es g) (k : Jb) : W.ownsRow base 32 2 ((g k).getD (.slice none 0 0)) (f k).length (cellsJ (f k)) := by
  have := h.row k
  cases hg : g k with
  | none =>
    rw [hg] at this
    have : f k = [] := this
    rw [this]
    exact World.ownsRow_nil _ _ _ _
  | some v => rw [hg] at this; exact this
theorem ByM.look {W : World} {base b : Nat} {R : Nat → Prop} {f : Jb → List Jb} {es : List (Jb × Value)} {g : Jb → Option Value} (h : ByM W base b R f es g) (u t : Int) :
    (Instr.lookup 113 (.map (some b)) (.agg #[.int .i64 u, .int .u8 t]) false).run Try.prog W = .ok ((g (u, t)).getD (.slice none 0 0)) W := by
  have := h.map.look keyJob Try.underlying113 (zeroJs W) (u, t)
  rw [h.fm.val] at this
  exact this
/-! Plain: what the map holds. -/
def byAdd (j : Jb) (f : Jb → List Jb) (p : It) : Jb → List Jb := if p.m then fun k => if k = jobOf p then f k ++ [j] else f k else f
def byF (P : Jb → List It) (f : Jb → List Jb) (j : Jb) : Jb → List Jb := (P j).foldl (byAdd j) f
theorem byAdd_mem {j : Jb} {f : Jb → List Jb} {p : It} {k y : Jb} : y ∈ byAdd j f p k ↔ y ∈ f k ∨ y = j ∧ p.m = true ∧ jobOf p = k := by
  unfold byAdd
  cases hm : p.m with
  | false => simp
  | true =>
    simp only [if_true]
    by_cases h : k = jobOf p
    · simp [h]
    · have h' : ¬ jobOf p = k := fun e => h e.symm
      simp [h, h']
theorem byFold_mem {j : Jb} {k y : Jb} : ∀ (l : List It) (f : Jb → List Jb), y ∈ l.foldl (byAdd j) f k ↔ y ∈ f k ∨ y = j ∧ ∃ p ∈ l, p.m = true ∧ jobOf p = k
  | [], f => by simp
  | p :: l, f => by
    rw [List.foldl_cons, byFold_mem l, byAdd_mem]
    constructor
    · rintro ((h | ⟨h1, h2⟩) | ⟨h1, q, h2, h3⟩)
      · exact .inl h
      · exact .inr ⟨h1, p, List.mem_cons_self, h2⟩
      · exact .inr ⟨h1, q, List.mem_cons_of_mem _ h2, h3⟩
    · rintro (h | ⟨h1, q, h2, h3⟩)
      · exact .inl (.inl h)
      · rcases List.mem_cons.1 h2 with rfl | h2
        · exact .inl (.inr ⟨h1, h3⟩)
        · exact .inr ⟨h1, q, h2, h3⟩
theorem byAll_mem {P : Jb → List It} {k y : Jb} : ∀ (ks : List Jb) (f : Jb → List Jb), y ∈ ks.foldl (byF P) f k ↔ y ∈ f k ∨ y ∈ backE P ks k
  | [], f => by simp [backE]
  | j :: ks, f => by
    rw [List.foldl_cons, byAll_mem ks]
    unfold byF
    rw [byFold_mem, mem_back, mem_back]
    constructor
    · rintro ((h | ⟨h1, h2⟩) | ⟨h1, h2⟩)
      · exact .inl h
      · exact .inr ⟨by rw [h1]; exact List.mem_cons_self, by rw [h1]; exact h2⟩
      · exact .inr ⟨List.mem_cons_of_mem _ h1, h2⟩
    · rintro (h | ⟨h1, h2⟩)
      · exact .inl (.inl h)
      · rcases List.mem_cons.1 h1 with rfl | h1
        · exact .inl (.inr ⟨rfl, h2⟩)
        · exact .inr ⟨h1, h2⟩
theorem byFold_len {j : Jb} {k : Jb} : ∀ (l : List It) (f : Jb → List Jb), (l.foldl (byAdd j) f k).length ≤ (f k).length + l.length
  | [], f => by simp
  | p :: l, f => by
    rw [List.foldl_cons]
    refine Nat.le_trans (byFold_len l _) ?_
    have : (byAdd j f p k).length ≤ (f k).length + 1 := by
      unfold byAdd
      split
      · simp only; split <;> simp
      · omega
    simp only [List.length_cons]
    omega
theorem byAll_len {P : Jb → List It} {N : Nat} (hP : ∀ j, (P j).length ≤ N) {k : Jb} : ∀ (ks : List Jb) (f : Jb → List Jb), (ks.foldl (byF P) f k).length ≤ (f k).length + ks.length * N
  | [], f => by simp
  | j :: ks, f => by
    rw [List.foldl_cons]
    refine Nat.le_trans (byAll_len hP ks _) ?_
    have h1 := byFold_len (j := j) (k := k) (P j) f
    have h2 := hP j
    unfold byF
    simp only [List.length_cons, Nat.succ_mul]
    omega
end Go.Proofs.Ytclgclcoblfddaa
