/- Whole rows: what jobs.Whole computes from a sorted row. -/
import Derived.Test.YtclgclcoblfddaaWholeB
namespace Go.Proofs.Ytclgclcoblfddaa
open Go.RowKit Go.Lib
set_option linter.unusedVariables false
set_option linter.unusedSimpArgs false
def mrgs (t : Int) (m ok : Bool) : List It → Int × Bool × Bool
  | [] => (t, m, ok)
  | x :: r => mrgs (mrg t x.t).1 (m || x.m) (ok && (mrg t x.t).2) r
def runOf (u : Int) (s : List It) : List It := s.takeWhile fun x => decide (x.u = u)
def afterOf (u : Int) (s : List It) : List It := s.dropWhile fun x => decide (x.u = u)
/-- One unit's row in front of the answer to the rest. -/
def glue (x : It) (g : List It) (q : List It × List (Int × Int)) : List It × List (Int × Int) :=
  if (mrgs x.t x.m (knownB x.t) g).2.2 then (⟨x.u, (mrgs x.t x.m (knownB x.t) g).1, (mrgs x.t x.m (knownB x.t) g).2.1⟩ :: q.1, q.2) else (q.1, g.map jobOf ++ q.2)
def wholeF : Nat → List It → List It × List (Int × Int)
  | 0, _ => ([], [])
  | k + 1, [] => ([], [])
  | k + 1, x :: r => glue x (runOf x.u (x :: r)) (wholeF k (afterOf x.u (x :: r)))
def wholeL (s : List It) : List It × List (Int × Int) := wholeF s.length s
theorem afterOf_lt (x : It) (r : List It) : (afterOf x.u (x :: r)).length ≤ r.length := by
  unfold afterOf
  rw [List.dropWhile_cons_of_pos (by simp)]
  exact (List.dropWhile_sublist _).length_le
theorem wholeF_le : ∀ (k : Nat) (s : List It), s.length ≤ k → wholeF k s = wholeL s
  | 0, s, h => by rw [List.eq_nil_of_length_eq_zero (Nat.le_zero.1 h)]; rfl
  | k + 1, [], h => rfl
  | k + 1, x :: r, h => by
    have h1 := afterOf_lt x r
    unfold wholeL
    rw [List.length_cons, wholeF, wholeF]
    have h2 : r.length ≤ k := by simpa using h
    rw [wholeF_le k _ (by omega)]
    rcases Nat.lt_or_ge r.length (k + 1) with h3 | h3
    · rw [wholeF_le r.length _ h1]
    · omega
theorem wholeL_cons (x : It) (r : List It) : wholeL (x :: r) = glue x (runOf x.u (x :: r)) (wholeL (afterOf x.u (x :: r))) := by
  rw [← wholeF_le (r.length + 1) (x :: r) (Nat.le_refl _), wholeF, wholeF_le _ _ (afterOf_lt x r)]
theorem run_eq {u : Int} : ∀ {s : List It} {m : Nat}, m ≤ s.length → (∀ x ∈ s.take m, x.u = u) → (∀ x, s[m]? = some x → x.u ≠ u) → s.take m = runOf u s ∧ s.drop m = afterOf u s
  | [], m, h, _, _ => by simp [runOf, afterOf]
  | y :: s, 0, h, _, h2 => by
    have : ¬ y.u = u := h2 y rfl
    simp [runOf, afterOf, this]
  | y :: s, m + 1, h, h1, h2 => by
    have hy : y.u = u := h1 y (by simp)
    obtain ⟨e1, e2⟩ := run_eq (u := u) (s := s) (m := m) (by simpa using h) (fun x hx => h1 x (by simp [hx])) (fun x hx => h2 x (by simpa using hx))
    refine ⟨?_, ?_⟩
    · rw [List.take_succ_cons, e1]; unfold runOf; rw [List.takeWhile_cons_of_pos (by simp [hy])]
    · rw [List.drop_succ_cons, e2]; unfold afterOf; rw [List.dropWhile_cons_of_pos (by simp [hy])]
theorem mrgs_snoc (x : It) : ∀ (g : List It) (t : Int) (m ok : Bool), mrgs t m ok (g ++ [x]) = ((mrg (mrgs t m ok g).1 x.t).1, (mrgs t m ok g).2.1 || x.m, (mrgs t m ok g).2.2 && (mrg (mrgs t m ok g).1 x.t).2)
  | [], t, m, ok => rfl
  | y :: g, t, m, ok => by rw [List.cons_append, mrgs, mrgs, mrgs_snoc]
theorem ins_len (x : It) : ∀ (l : List It), (ins x l).length ≤ l.length + 1
  | [] => by simp [ins]
  | y :: l => by
    have := ins_len x l
    unfold ins
    split
    · simp; omega
    · split <;> simp
theorem sortedL_len (l : List It) : (sortedL l).length ≤ l.length := by
  have key : ∀ (l acc : List It), (l.foldl (fun acc x => ins x acc) acc).length ≤ acc.length + l.length := by
    intro l
    induction l with
    | nil => intro acc; simp
    | cons y l ih =>
      intro acc
      have h1 := ih (ins y acc)
      have h2 := ins_len y acc
      simp only [List.foldl_cons, List.length_cons]
      omega
  have := key l []
  simpa [sortedL] using this
theorem RdI.drop {W : World} {b o : Nat} {l : List It} (h : RdI W (some ⟨b, o, none⟩) l) (n : Nat) : RdI W (some ⟨b, o + n * 3, none⟩) (l.drop n) := by
  rcases h with h | ⟨b', o', hA, hc⟩
  · exact .inl (by rw [h]; simp)
  · cases hA
    refine .inr ⟨b, o + n * 3, rfl, fun j u t m hj => ?_⟩
    rw [List.getElem?_drop] at hj
    have := hc (n + j) u t m hj
    rw [show o + n * 3 + j * 3 = o + (n + j) * 3 by omega]
    exact this
theorem RdI.take {W : World} {A : Option Addr} {l : List It} (h : RdI W A l) (n : Nat) : RdI W A (l.take n) := by
  rcases h with h | ⟨b', o', hA, hc⟩
  · exact .inl (by rw [h]; simp)
  · refine .inr ⟨b', o', hA, fun j u t m hj => ?_⟩
    rw [List.getElem?_take] at hj
    split at hj
    · exact hc j u t m hj
    · cases hj
/-- append of one job. -/
theorem wpList_append_job {w : World} {ops : Array Oper} {rest : List Oper} {o : Oper} {a : Act} {Q : Exit → Act → World → Prop} (hgd : o.guard = none) (s x : Operand)
    (ho : o.op = .call { callee := .builtin .append, args := #[s, x], argTypes := #[36, 36] }) (base : Nat)
    (v : Value) (l : List (Int × Int)) (hs : a.eval s = v) (hown : w.ownsRow base 32 2 v l.length (cellsJ l))
    (g c : Nat) (u t : Int) (hx : a.eval x = .slice (some ⟨g, 0, none⟩) 1 c) (hc : Blk w g [.int .i64 u, .int .u8 t] 32)
    (hbig : l.length ≤ 100000000) (hbase : base ≤ w.heap.size)
    (h : ∀ v' w', w'.ownsRow base 32 2 v' (l ++ [(u, t)]).length (cellsJ (l ++ [(u, t)])) → w.grownBy w' v.ownBlock → (∀ k, v'.ownBlock = some k → v.ownBlock = some k ∨ w.heap.size ≤ k) → wpList Try.prog ops Q rest (a.put o.dst v') w') : wpList Try.prog ops Q (o :: rest) a w := by
  obtain ⟨inf, hi, hz, hsz, hby⟩ := info_parts infoJob
  refine wpList_append_row hgd s x _ ho base _ inf _ 2 16 Try.underlying36 hi hz hsz hby rfl (by decide) v l.length (cellsJ l) hs hown ⟨g, 0, none⟩ 1 c [.int .i64 u, .int .u8 t] hx rfl ?_ ?_ (by decide) (by unfold maxLen; omega) (by omega) hbase (fun v' w' h2 h3 h4 => h v' w' ?_ h3 h4)
  · intro j y hj
    have : (⟨g, 0, none⟩ : Addr).add j = ⟨g, j, none⟩ := by unfold Addr.add; split <;> simp_all
    rw [this]
    exact hc.cell j hj
  · intro y hy
    simp only [List.mem_cons, List.not_mem_nil, or_false] at hy
    rcases hy with rfl | rfl <;> rfl
  · rw [cellsJ_snoc, List.length_append]
    exact h2
/-- Rows of different kinds share no block. -/
theorem Owns.kept {w w' : World} {base : Nat} {e : TypeId} {size : Nat} {v : Value} {n : Nat} {xs : List Value} (h : w.ownsRow base e size v n xs) {row : Option Nat} (hg : w.grownBy w' row) (hne : ∀ k, v.ownBlock = some k → row ≠ some k) : w'.ownsRow base e size v n xs := by
  obtain ⟨hl, hv⟩ := h
  rcases hv with h | ⟨g, cap, cur, rfl, h1, h2, h3⟩
  · exact ⟨hl, .inl h⟩
  · exact ⟨hl, .inr ⟨g, cap, cur, rfl, h1, Grown.heap hg h2 (fun e => hne g rfl e.symm), h3⟩⟩
theorem Owns.set' {w : World} {base : Nat} {e : TypeId} {size : Nat} {v : Value} {n : Nat} {xs : List Value} {g : Nat} (h : w.ownsRow base e size v n xs) (i : Nat) (u : Value) (hne : v.ownBlock ≠ some g) : (w.setCell ⟨g, i, none⟩ u).ownsRow base e size v n xs := by
  obtain ⟨hl, hv⟩ := h
  rcases hv with h | ⟨b, cap, cur, rfl, h1, h2, h3⟩
  · exact ⟨hl, .inl h⟩
  · refine ⟨hl, .inr ⟨b, cap, cur, rfl, h1, ?_, h3⟩⟩
    rw [Below.heap_setCell _ _ _ _ (fun e => hne (by show some b = some g; exact congrArg some e))]
    exact h2
theorem Owns.apart {w : World} {base base' : Nat} {e e' : TypeId} {size size' : Nat} {v v' : Value} {n n' : Nat} {xs xs' : List Value} (h : w.ownsRow base e size v n xs) (h' : w.ownsRow base' e' size' v' n' xs') (he : e ≠ e') : ∀ k, v.ownBlock = some k → v'.ownBlock ≠ some k := by
  obtain ⟨_, hv⟩ := h
  obtain ⟨_, hv'⟩ := h'
  intro k hk hk'
  rcases hv with ⟨rfl, _⟩ | ⟨b, cap, cur, rfl, h1, h2, h3⟩
  · cases hk
  rcases hv' with ⟨rfl, _⟩ | ⟨b', cap', cur', rfl, h1', h2', h3'⟩
  · cases hk'
  cases hk
  have e1 : b' = b := by cases hk'; rfl
  subst e1
  rw [h2] at h2'
  cases h2'
  exact he rfl
theorem Owns.notBlk {w : World} {base : Nat} {e : TypeId} {size : Nat} {v : Value} {n : Nat} {xs : List Value} {g : Nat} {cs : List Value} {T : TypeId} (h : w.ownsRow base e size v n xs) (hb : Blk w g cs T) (he : e ≠ T) : v.ownBlock ≠ some g := by
  obtain ⟨_, hv⟩ := h
  rcases hv with ⟨rfl, _⟩ | ⟨b, cap, cur, rfl, h1, h2, h3⟩
  · exact fun h => by cases h
  · intro hk
    cases hk
    unfold Blk at hb
    rw [h2] at hb
    cases hb
    exact he rfl
end Go.Proofs.Ytclgclcoblfddaa
