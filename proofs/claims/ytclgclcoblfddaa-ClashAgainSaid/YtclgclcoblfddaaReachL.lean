/- Plain: what is reached; the searches of closure. -/
import Derived.Test.YtclgclcoblfddaaSortL
import Derived.Test.YtclgclcoblfddaaFM
namespace Go.Proofs.Ytclgclcoblfddaa
set_option linter.unusedVariables false
set_option linter.unusedSimpArgs false

/-- Reached from some, by steps of E. -/
inductive Rc {α : Type} (E : α → List α) (S : List α) : α → Prop
  | base {x : α} : x ∈ S → Rc E S x
  | step {x y : α} : Rc E S x → y ∈ E x → Rc E S y
theorem Rc.least {α : Type} {E : α → List α} {S : List α} {T : α → Prop} (h0 : ∀ x ∈ S, T x) (h1 : ∀ x y, T x → y ∈ E x → T y) {x : α} (h : Rc E S x) : T x := by
  induction h with
  | base h => exact h0 _ h
  | step _ h2 ih => exact h1 _ _ ih h2
theorem Rc.mono {α : Type} {E E' : α → List α} {S S' : List α} (hS : ∀ x ∈ S, x ∈ S') (hE : ∀ x y, y ∈ E x → y ∈ E' x) {x : α} (h : Rc E S x) : Rc E' S' x :=
  h.least (fun x hx => .base (hS x hx)) fun x y hx hy => hx.step (hE x y hy)
def growF {α : Type} [DecidableEq α] (E : α → List α) : Nat → List α → List α
  | 0, l => l
  | n + 1, l => match (l.flatMap E).find? (fun y => !decide (y ∈ l)) with
    | none => l
    | some y => growF E n (l ++ [y])
theorem growF_mem {α : Type} [DecidableEq α] (E : α → List α) (U S : List α) (hU : ∀ x y, y ∈ E x → y ∈ U) : ∀ (n : Nat) (e : List α), e.Nodup → (∀ x ∈ e, x ∈ U) → U.length ≤ n + e.length → (∀ x ∈ e, Rc E S x) → ∀ x, x ∈ growF E n (S ++ e) ↔ Rc E S x := by
  have closed : ∀ (e : List α), (∀ x ∈ e, Rc E S x) → (∀ y ∈ (S ++ e).flatMap E, y ∈ S ++ e) → ∀ x, x ∈ S ++ e ↔ Rc E S x := by
    intro e he hc x
    refine ⟨fun h => (List.mem_append.1 h).elim .base (he x), fun h => h.least (T := fun x => x ∈ S ++ e) (fun x hx => List.mem_append_left _ hx) fun x y hx hy => hc y (List.mem_flatMap.2 ⟨x, hx, hy⟩)⟩
  intro n
  induction n with
  | zero =>
    intro e hn hs hl he
    refine closed e he fun y hy => ?_
    obtain ⟨x, hx, hxy⟩ := List.mem_flatMap.1 hy
    refine Classical.byContradiction fun hno => ?_
    have h1 : y ∉ e := fun h => hno (List.mem_append_right _ h)
    have h2 := nodup_len (l := e ++ [y]) (U := U) (List.nodup_append.2 ⟨hn, by simp, fun a ha b hb e' => by rw [List.mem_singleton.1 hb] at e'; exact h1 (e' ▸ ha)⟩) (fun z hz => (List.mem_append.1 hz).elim (hs z) fun h => by rw [List.mem_singleton.1 h]; exact hU _ _ hxy)
    rw [List.length_append] at h2
    simp at h2
    omega
  | succ n ih =>
    intro e hn hs hl he
    unfold growF
    cases hf : ((S ++ e).flatMap E).find? (fun y => !decide (y ∈ S ++ e)) with
    | none =>
      simp only
      refine closed e he fun y hy => ?_
      have := List.find?_eq_none.1 hf y hy
      exact Classical.byContradiction fun hno => this (by simp only [decide_eq_false hno, Bool.not_false])
    | some y =>
      simp only
      have h1 : y ∈ (S ++ e).flatMap E := List.mem_of_find?_eq_some hf
      have h2 : y ∉ S ++ e := by simpa using List.find?_some hf
      obtain ⟨x, hx, hxy⟩ := List.mem_flatMap.1 h1
      have hx' : Rc E S x := (List.mem_append.1 hx).elim .base (he x)
      rw [List.append_assoc]
      refine ih (e ++ [y]) (List.nodup_append.2 ⟨hn, by simp, fun a ha b hb e' => ?_⟩) (fun z hz => ?_) (by rw [List.length_append]; simp; omega) fun z hz => ?_
      · rw [List.mem_singleton.1 hb] at e'
        exact h2 (List.mem_append_right _ (e' ▸ ha))
      · rcases List.mem_append.1 hz with h | h
        · exact hs z h
        · rw [List.mem_singleton.1 h]; exact hU _ _ hxy
      · rcases List.mem_append.1 hz with h | h
        · exact he z h
        · rw [List.mem_singleton.1 h]; exact hx'.step hxy
/-- What is reached, where all that is stepped to stands in U. -/
def growL {α : Type} [DecidableEq α] (E : α → List α) (U S : List α) : List α := growF E U.length S
theorem growL_mem {α : Type} [DecidableEq α] {E : α → List α} {U S : List α} (hU : ∀ x y, y ∈ E x → y ∈ U) (x : α) : x ∈ growL E U S ↔ Rc E S x := by
  have := growF_mem E U S hU U.length [] List.nodup_nil (fun _ h => by cases h) (by simp) (fun _ h => by cases h) x
  rw [List.append_nil] at this
  exact this
abbrev Jb := Int × Int
/-- Who must have it. -/
def backE (P : Jb → List It) (all : List Jb) (x : Jb) : List Jb := all.filter fun j => (P j).any fun p => p.m && decide (jobOf p = x)
theorem mem_back {P : Jb → List It} {all : List Jb} {x j : Jb} : j ∈ backE P all x ↔ j ∈ all ∧ ∃ p ∈ P j, p.m = true ∧ jobOf p = x := by
  unfold backE
  rw [List.mem_filter, List.any_eq_true]
  simp
/-- Those that may not be. -/
def spoilL (P : Jb → List It) (ban all : List Jb) : List Jb := growL (backE P all) all ban
theorem spoil_mem {P : Jb → List It} {ban all : List Jb} (x : Jb) : x ∈ spoilL P ban all ↔ Rc (backE P all) ban x := growL_mem (fun _ _ h => (mem_back.1 h).1) x
theorem spoil_all {P : Jb → List It} {ban all all' : List Jb} (h : ∀ x, x ∈ all ↔ x ∈ all') (x : Jb) : x ∈ spoilL P ban all ↔ x ∈ spoilL P ban all' := by
  rw [spoil_mem, spoil_mem]
  exact ⟨fun hx => hx.mono (fun _ h => h) fun x y hy => mem_back.2 ⟨(h y).1 (mem_back.1 hy).1, (mem_back.1 hy).2⟩, fun hx => hx.mono (fun _ h => h) fun x y hy => mem_back.2 ⟨(h y).2 (mem_back.1 hy).1, (mem_back.1 hy).2⟩⟩
/-- The jobs of n units. -/
def jobsU (n : Nat) : List Jb := (List.range n).flatMap fun (i : Nat) => [((i : Int), 1), ((i : Int), 2), ((i : Int), 3)]
theorem mem_jobsU {n : Nat} {j : Jb} : j ∈ jobsU n ↔ (0 ≤ j.1 ∧ j.1 < n) ∧ (1 ≤ j.2 ∧ j.2 ≤ 3) := by
  unfold jobsU
  rw [List.mem_flatMap]
  constructor
  · rintro ⟨i, hi, h⟩
    have hi := List.mem_range.1 hi
    simp only [List.mem_cons, List.not_mem_nil, or_false] at h
    rcases h with rfl | rfl | rfl <;> simp <;> omega
  · rintro ⟨h1, h2⟩
    refine ⟨j.1.toNat, List.mem_range.2 (by omega), ?_⟩
    obtain ⟨u, t⟩ := j
    simp only at h1 h2
    have hu : ((u.toNat : Nat) : Int) = u := by omega
    have : t = 1 ∨ t = 2 ∨ t = 3 := by omega
    rw [hu]
    rcases this with rfl | rfl | rfl <;> simp
theorem jobsU_length (n : Nat) : (jobsU n).length = 3 * n := by
  unfold jobsU
  induction n with
  | zero => rfl
  | succ n ih => rw [List.range_succ, List.flatMap_append, List.length_append, ih]; simp; omega
/-- Pulled in, but what is bad; by what must be alone. -/
def pullE (P : Jb → List It) (bad : Jb → Bool) (x : Jb) : List Jb := ((P x).map jobOf).filter fun y => !bad y
def mustE (P : Jb → List It) (bad : Jb → Bool) (x : Jb) : List Jb := (((P x).filter (·.m)).map jobOf).filter fun y => !bad y
theorem mem_pullE {P : Jb → List It} {bad : Jb → Bool} {x y : Jb} : y ∈ pullE P bad x ↔ (∃ p ∈ P x, jobOf p = y) ∧ bad y = false := by
  unfold pullE
  rw [List.mem_filter, List.mem_map]
  simp
theorem mem_mustE {P : Jb → List It} {bad : Jb → Bool} {x y : Jb} : y ∈ mustE P bad x ↔ (∃ p ∈ P x, p.m = true ∧ jobOf p = y) ∧ bad y = false := by
  unfold mustE
  rw [List.mem_filter, List.mem_map]
  simp [and_assoc]
def reachL (P : Jb → List It) (U : List Jb) (bad : Jb → Bool) (a : Jb) : List Jb := growL (pullE P bad) U [a]
def mustL (P : Jb → List It) (U : List Jb) (bad : Jb → Bool) (a : Jb) : List Jb := growL (mustE P bad) U [a]
/-- All that is pulled in stands in U, and is not what pulls. -/
def Tame (P : Jb → List It) (U : List Jb) : Prop := ∀ x, ∀ p ∈ P x, jobOf p ∈ U ∧ jobOf p ≠ x
theorem reach_mem {P : Jb → List It} {U : List Jb} (hT : Tame P U) (bad : Jb → Bool) (a x : Jb) : x ∈ reachL P U bad a ↔ Rc (pullE P bad) [a] x :=
  growL_mem (fun x y h => by obtain ⟨⟨p, hp, rfl⟩, _⟩ := mem_pullE.1 h; exact (hT x p hp).1) x
theorem must_mem {P : Jb → List It} {U : List Jb} (hT : Tame P U) (bad : Jb → Bool) (a x : Jb) : x ∈ mustL P U bad a ↔ Rc (mustE P bad) [a] x :=
  growL_mem (fun x y h => by obtain ⟨⟨p, hp, _, rfl⟩, _⟩ := mem_mustE.1 h; exact (hT x p hp).1) x
/-! The search of reach: what each has been met as, and what is still to do. -/
abbrev Met := Jb → Option Bool
def metOne (bad : Jb → Bool) (j : Jb) (s : Met × List Jb) (p : It) : Met × List Jb :=
  if bad (jobOf p) || (match s.1 (jobOf p) with | some now => now || !p.m || !((s.1 j).getD false) | none => false) then s
  else (fun k => if k = jobOf p then some (p.m && (s.1 j).getD false) else s.1 k, s.2 ++ [jobOf p])
def rank : Option Bool → Nat
  | none => 2
  | some false => 1
  | some true => 0
def left (U : List Jb) (f : Met) : Nat := (U.map fun k => rank (f k)).foldr (· + ·) 0
theorem left_upd {f : Met} {x : Jb} {b : Bool} (hr : rank (some b) < rank (f x)) : ∀ {U : List Jb}, U.Nodup → x ∈ U → left U (fun k => if k = x then some b else f k) + 1 ≤ left U f
  | [], _, h => by cases h
  | y :: U, hn, h => by
    rw [List.nodup_cons] at hn
    have key : ∀ V : List Jb, left V (fun k => if k = x then some b else f k) ≤ left V f := by
      intro V
      induction V with
      | nil => exact Nat.le_refl _
      | cons z V ih =>
        have e : ∀ g : Met, left (z :: V) g = rank (g z) + left V g := fun _ => rfl
        rw [e, e]
        have : rank (if z = x then some b else f z) ≤ rank (f z) := by
          split
          · rename_i h; subst h; omega
          · exact Nat.le_refl _
        omega
    have e : ∀ g : Met, left (y :: U) g = rank (g y) + left U g := fun _ => rfl
    rw [e, e]
    by_cases hy : y = x
    · subst hy
      have := key U
      simp only [if_true]
      omega
    · have h' : x ∈ U := (List.mem_cons.1 h).resolve_left fun e => hy e.symm
      have := left_upd hr hn.2 h'
      simp only [if_neg hy]
      omega
structure Srch (P : Jb → List It) (U : List Jb) (bad : Jb → Bool) (a : Jb) (f : Met) (todo : List Jb) (now : Option (Jb × List It)) : Prop where
  start : f a = some true
  pull : ∀ k, (f k).isSome → Rc (pullE P bad) [a] k
  must : ∀ k, f k = some true → Rc (mustE P bad) [a] k
  tod : ∀ k ∈ todo, (f k).isSome
  cur : ∀ j l, now = some (j, l) → (f j).isSome ∧ ∃ done, P j = done ++ l ∧ ∀ p ∈ done, bad (jobOf p) = false → (f (jobOf p)).isSome ∧ (p.m = true → f j = some true → f (jobOf p) = some true)
  done : ∀ j, (f j).isSome → j ∉ todo → (∀ l, now ≠ some (j, l)) → ∀ p ∈ P j, bad (jobOf p) = false → (f (jobOf p)).isSome ∧ (p.m = true → f j = some true → f (jobOf p) = some true)
theorem Srch.first (P : Jb → List It) (U : List Jb) (bad : Jb → Bool) (a : Jb) : Srch P U bad a (fun k => if k = a then some true else none) [a] none where
  start := if_pos rfl
  pull k h := by
    by_cases e : k = a
    · subst e; exact .base (List.mem_singleton.2 rfl)
    · rw [if_neg e] at h; cases h
  must k h := by
    by_cases e : k = a
    · subst e; exact .base (List.mem_singleton.2 rfl)
    · rw [if_neg e] at h; cases h
  tod k h := by rw [List.mem_singleton.1 h]; simp
  cur j l h := by cases h
  done j h1 h2 _ := by
    by_cases e : j = a
    · subst e; exact absurd (List.mem_singleton.2 rfl) h2
    · rw [if_neg e] at h1; cases h1
theorem Srch.pop {P : Jb → List It} {U : List Jb} {bad : Jb → Bool} {a j : Jb} {f : Met} {todo : List Jb} (h : Srch P U bad a f (j :: todo) none) : Srch P U bad a f todo (some (j, P j)) where
  start := h.start
  pull := h.pull
  must := h.must
  tod k hk := h.tod k (List.mem_cons_of_mem _ hk)
  cur j' l e := by
    cases e
    exact ⟨h.tod _ List.mem_cons_self, [], rfl, fun _ hp => by cases hp⟩
  done j' h1 h2 h3 := h.done j' h1 (fun hm => (List.mem_cons.1 hm).elim (fun e => h3 (P j) (by rw [e])) h2) (fun l => by simp)
theorem Srch.end {P : Jb → List It} {U : List Jb} {bad : Jb → Bool} {a j : Jb} {f : Met} {todo : List Jb} (h : Srch P U bad a f todo (some (j, []))) : Srch P U bad a f todo none where
  start := h.start
  pull := h.pull
  must := h.must
  tod := h.tod
  cur j' l e := by cases e
  done j' h1 h2 _ := by
    by_cases e : j' = j
    · subst e
      obtain ⟨_, dn, e1, e2⟩ := h.cur j' [] rfl
      rw [List.append_nil] at e1
      rw [e1]
      exact e2
    · exact h.done j' h1 h2 (fun l e' => by cases e'; exact e rfl)
theorem Srch.one {P : Jb → List It} {U : List Jb} (hT : Tame P U) (hU : U.Nodup) {bad : Jb → Bool} {a j : Jb} {f : Met} {todo : List Jb} {p : It} {l : List It} (h : Srch P U bad a f todo (some (j, p :: l))) :
    Srch P U bad a (metOne bad j (f, todo) p).1 (metOne bad j (f, todo) p).2 (some (j, l)) ∧ (metOne bad j (f, todo) p).2.length + left U (metOne bad j (f, todo) p).1 ≤ todo.length + left U f := by
  obtain ⟨hj, dn, e1, e2⟩ := h.cur j _ rfl
  have hp : p ∈ P j := by rw [e1]; simp
  obtain ⟨hpU, hpj⟩ := hT j p hp
  unfold metOne
  by_cases hb : bad (jobOf p) = true
  · rw [if_pos (by simp [hb])]
    refine ⟨⟨h.start, h.pull, h.must, h.tod, fun j' l' e => ?_, fun j' h1 h2 h3 => h.done j' h1 h2 fun l' e => by cases e; exact h3 l rfl⟩, Nat.le_refl _⟩
    cases e
    refine ⟨hj, dn ++ [p], by rw [e1]; simp, fun q hq hqb => ?_⟩
    rcases List.mem_append.1 hq with hq | hq
    · exact e2 q hq hqb
    · rw [List.mem_singleton.1 hq, hb] at hqb; cases hqb
  · have hb : bad (jobOf p) = false := by simpa using hb
    obtain ⟨b, hfj⟩ := Option.isSome_iff_exists.1 hj
    have pullJ : Rc (pullE P bad) [a] (jobOf p) := (h.pull j hj).step (mem_pullE.2 ⟨⟨p, hp, rfl⟩, hb⟩)
    have raise : ∀ (c : Bool), rank (some c) < rank (f (jobOf p)) → (c = true → p.m = true ∧ b = true) → (p.m = true → b = true → c = true) → 
        Srch P U bad a (fun k => if k = jobOf p then some c else f k) (todo ++ [jobOf p]) (some (j, l)) ∧ (todo ++ [jobOf p]).length + left U (fun k => if k = jobOf p then some c else f k) ≤ todo.length + left U f := by
      intro c hr hc1 hc2
      have hup : ∀ k, (f k).isSome → ((fun k => if k = jobOf p then some c else f k) k).isSome := fun k hk => by
        show (if k = jobOf p then some c else f k).isSome = true
        split
        · rfl
        · exact hk
      have hut : ∀ k, f k = some true → (fun k => if k = jobOf p then some c else f k) k = some true := fun k hk => by
        show (if k = jobOf p then some c else f k) = some true
        split
        · rename_i e; subst e; rw [hk] at hr; exact absurd hr (by simp [rank])
        · exact hk
      have hjj : (if j = jobOf p then some c else f j) = f j := if_neg fun e => hpj e.symm
      have hne : a ≠ jobOf p := fun e => by rw [← e, h.start] at hr; exact absurd hr (by simp [rank])
      refine ⟨⟨hut a h.start, fun k hk => ?_, fun k hk => ?_, fun k hk => ?_, fun j' l' e => ?_, fun j' h1 h2 h3 q hq hqb => ?_⟩, ?_⟩
      · by_cases e : k = jobOf p
        · rw [e]; exact pullJ
        · exact h.pull k (by simpa [e] using hk)
      · by_cases e : k = jobOf p
        · subst e
          have hk : some c = some true := by simpa using hk
          obtain ⟨hm, hbt⟩ := hc1 (Option.some.inj hk)
          exact (h.must j (by rw [hfj, hbt])).step (mem_mustE.2 ⟨⟨p, hp, hm, rfl⟩, hb⟩)
        · exact h.must k (by simpa [e] using hk)
      · rcases List.mem_append.1 hk with hk | hk
        · exact hup k (h.tod k hk)
        · rw [List.mem_singleton.1 hk]
          show (if jobOf p = jobOf p then some c else f (jobOf p)).isSome = true
          rw [if_pos rfl]; rfl
      · cases e
        refine ⟨hup j hj, dn ++ [p], by rw [e1]; simp, fun q hq hqb => ?_⟩
        rcases List.mem_append.1 hq with hq | hq
        · obtain ⟨q1, q2⟩ := e2 q hq hqb
          exact ⟨hup _ q1, fun hm hjt => hut _ (q2 hm (by rw [← hjj]; exact hjt))⟩
        · rw [List.mem_singleton.1 hq]
          refine ⟨by show (if jobOf p = jobOf p then some c else f (jobOf p)).isSome = true; rw [if_pos rfl]; rfl, fun hm hjt => ?_⟩
          have hjt : f j = some true := by rw [← hjj]; exact hjt
          rw [hfj] at hjt
          show (if jobOf p = jobOf p then some c else f (jobOf p)) = some true
          rw [if_pos rfl, hc2 hm (Option.some.inj hjt)]
      · have hjn : j' ≠ jobOf p := fun e => h2 (by rw [e]; simp)
        have hfe : (if j' = jobOf p then some c else f j') = f j' := if_neg hjn
        have h1 : (f j').isSome := by rw [← hfe]; exact h1
        obtain ⟨q1, q2⟩ := h.done j' h1 (fun hm => h2 (List.mem_append_left _ hm)) (fun l' e => by cases e; exact h3 l rfl) q hq hqb
        exact ⟨hup _ q1, fun hm hjt => hut _ (q2 hm (by rw [← hfe]; exact hjt))⟩
      · have := left_upd hr hU hpU
        rw [List.length_append]
        simp only [List.length_cons, List.length_nil]
        omega
    have stay : (f (jobOf p)).isSome → (p.m = true → b = true → f (jobOf p) = some true) → Srch P U bad a f todo (some (j, l)) := by
      intro hs hm
      refine ⟨h.start, h.pull, h.must, h.tod, fun j' l' e => ?_, fun j' h1 h2 h3 => h.done j' h1 h2 fun l' e => by cases e; exact h3 l rfl⟩
      cases e
      refine ⟨hj, dn ++ [p], by rw [e1]; simp, fun q hq hqb => ?_⟩
      rcases List.mem_append.1 hq with hq | hq
      · exact e2 q hq hqb
      · rw [List.mem_singleton.1 hq]
        exact ⟨hs, fun h1 h2 => hm h1 (by rw [hfj] at h2; exact Option.some.inj h2)⟩
    simp only [hb, hfj, Bool.false_or, Option.getD_some]
    cases hf : f (jobOf p) with
    | none =>
      simp only [Bool.false_eq_true, if_false]
      refine raise (p.m && b) ?_ (fun h => by simpa using h) (fun h1 h2 => by simp [h1, h2])
      rw [hf]
      cases p.m && b <;> simp [rank]
    | some now =>
      simp only
      by_cases hc : (now || !p.m || !b) = true
      · rw [if_pos hc]
        refine ⟨stay (by rw [hf]; rfl) fun h1 h2 => ?_, Nat.le_refl _⟩
        rw [hf]
        rw [h1, h2] at hc
        simpa using hc
      · rw [if_neg hc]
        have hc : now = false ∧ p.m = true ∧ b = true := by
          cases now <;> cases hm : p.m <;> cases b <;> simp_all
        refine raise (p.m && b) ?_ (fun h => by simpa using h) (fun h1 h2 => by simp [h1, h2])
        rw [hf, hc.1, hc.2.1, hc.2.2]
        simp [rank]
/-- At the end. -/
theorem Srch.fin {P : Jb → List It} {U : List Jb} (hT : Tame P U) {bad : Jb → Bool} {a : Jb} {f : Met} (h : Srch P U bad a f [] none) (k : Jb) :
    f k = if k ∈ reachL P U bad a then some (decide (k ∈ mustL P U bad a)) else none := by
  have h1 : ∀ x, Rc (pullE P bad) [a] x → (f x).isSome := fun x hx => hx.least (T := fun x => (f x).isSome = true)
    (fun x hx => by rw [List.mem_singleton.1 hx, h.start]; rfl) fun x y hx hy => by
      obtain ⟨⟨p, hp, rfl⟩, hb⟩ := mem_pullE.1 hy
      exact (h.done x hx (by simp) (fun _ e => by cases e) p hp hb).1
  have h2 : ∀ x, Rc (mustE P bad) [a] x → f x = some true := fun x hx => hx.least (T := fun x => f x = some true)
    (fun x hx => by rw [List.mem_singleton.1 hx, h.start]) fun x y hx hy => by
      obtain ⟨⟨p, hp, hm, rfl⟩, hb⟩ := mem_mustE.1 hy
      exact (h.done x (by rw [hx]; rfl) (by simp) (fun _ e => by cases e) p hp hb).2 hm hx
  by_cases hk : k ∈ reachL P U bad a
  · rw [if_pos hk]
    obtain ⟨b, hb⟩ := Option.isSome_iff_exists.1 (h1 k ((reach_mem hT bad a k).1 hk))
    rw [hb]
    congr 1
    cases b with
    | true => exact (decide_eq_true ((must_mem hT bad a k).2 (h.must k hb))).symm
    | false => exact (decide_eq_false fun hm => by have := h2 k ((must_mem hT bad a k).1 hm); rw [hb] at this; cases this).symm
  · rw [if_neg hk]
    cases hf : f k with
    | none => rfl
    | some b => exact absurd ((reach_mem hT bad a k).2 (h.pull k (by rw [hf]; rfl))) hk
/-! The search of spoilt: what is marked, and what is still to do. -/
def marked (B : Jb → Bool) (y : Jb) : Jb → Bool := fun k => B k || decide (k = y)
def markOne (s : (Jb → Bool) × List Jb) (y : Jb) : (Jb → Bool) × List Jb := if s.1 y then s else (marked s.1 y, s.2 ++ [y])
def free (U : List Jb) (B : Jb → Bool) : Nat := (U.filter fun x => !B x).length
theorem free_mark {B : Jb → Bool} {y : Jb} (hy : B y = false) : ∀ {U : List Jb}, y ∈ U → free U (marked B y) + 1 ≤ free U B := by
  have cons : ∀ (C : Jb → Bool) (z : Jb) (V : List Jb), free (z :: V) C = (if C z then 0 else 1) + free V C := by
    intro C z V
    unfold free
    rw [List.filter_cons]
    cases C z <;> simp <;> omega
  have key : ∀ V : List Jb, free V (marked B y) ≤ free V B := by
    intro V
    induction V with
    | nil => exact Nat.le_refl _
    | cons z V ih =>
      rw [cons, cons]
      have : (if marked B y z then 0 else 1) ≤ (if B z then 0 else 1) := by
        unfold marked
        cases B z <;> cases decide (z = y) <;> simp
      omega
  intro U
  induction U with
  | nil => intro h; cases h
  | cons z U ih =>
    intro h
    rw [cons, cons]
    by_cases e : z = y
    · have := key U
      subst e
      have h1 : marked B z z = true := by unfold marked; simp
      rw [h1, hy]
      simp
      omega
    · have h' : y ∈ U := (List.mem_cons.1 h).resolve_left fun e2 => e e2.symm
      have := ih h'
      have h2 : (if marked B y z then 0 else 1) ≤ (if B z then 0 else 1) := by
        unfold marked
        cases B z <;> cases decide (z = y) <;> simp
      omega
structure Stk (E : Jb → List Jb) (ban : List Jb) (B : Jb → Bool) (todo : List Jb) (now : Option (Jb × List Jb)) : Prop where
  bn : ∀ x ∈ ban, B x = true
  rc : ∀ x, B x = true → Rc E ban x
  tod : ∀ x ∈ todo, B x = true
  cur : ∀ j l, now = some (j, l) → B j = true ∧ ∃ done, E j = done ++ l ∧ ∀ y ∈ done, B y = true
  done : ∀ x, B x = true → x ∉ todo → (∀ l, now ≠ some (x, l)) → ∀ y ∈ E x, B y = true
theorem Stk.first {E : Jb → List Jb} {ban todo : List Jb} {B : Jb → Bool} (h1 : ∀ x, B x = true ↔ x ∈ ban) (h2 : ∀ x ∈ ban, x ∈ todo) (h3 : ∀ x ∈ todo, x ∈ ban) : Stk E ban B todo none where
  bn x hx := (h1 x).2 hx
  rc x hx := .base ((h1 x).1 hx)
  tod x hx := (h1 x).2 (h3 x hx)
  cur j l e := by cases e
  done x hx hn _ := absurd (h2 x ((h1 x).1 hx)) hn
theorem Stk.pop {E : Jb → List Jb} {ban todo : List Jb} {B : Jb → Bool} {j : Jb} (h : Stk E ban B (todo ++ [j]) none) : Stk E ban B todo (some (j, E j)) where
  bn := h.bn
  rc := h.rc
  tod x hx := h.tod x (List.mem_append_left _ hx)
  cur j' l e := by
    cases e
    exact ⟨h.tod _ (by simp), [], rfl, fun _ hp => by cases hp⟩
  done x h1 h2 h3 := h.done x h1 (fun hm => (List.mem_append.1 hm).elim h2 fun e => h3 (E j) (by rw [List.mem_singleton.1 e])) (fun l => by simp)
theorem Stk.end {E : Jb → List Jb} {ban todo : List Jb} {B : Jb → Bool} {j : Jb} (h : Stk E ban B todo (some (j, []))) : Stk E ban B todo none where
  bn := h.bn
  rc := h.rc
  tod := h.tod
  cur j' l e := by cases e
  done x h1 h2 _ := by
    by_cases e : x = j
    · subst e
      obtain ⟨_, dn, e1, e2⟩ := h.cur x [] rfl
      rw [List.append_nil] at e1
      rw [e1]
      exact e2
    · exact h.done x h1 h2 (fun l e' => by cases e'; exact e rfl)
theorem Stk.one {E : Jb → List Jb} {ban todo : List Jb} {B : Jb → Bool} {j y : Jb} {l U : List Jb} (hU : ∀ x y, y ∈ E x → y ∈ U) (h : Stk E ban B todo (some (j, y :: l))) :
    Stk E ban (markOne (B, todo) y).1 (markOne (B, todo) y).2 (some (j, l)) ∧ (markOne (B, todo) y).2.length + free U (markOne (B, todo) y).1 ≤ todo.length + free U B := by
  obtain ⟨hj, dn, e1, e2⟩ := h.cur j _ rfl
  have hy : y ∈ E j := by rw [e1]; simp
  unfold markOne
  by_cases hb : B y = true
  · rw [if_pos hb]
    refine ⟨⟨h.bn, h.rc, h.tod, fun j' l' e => ?_, fun x h1 h2 h3 => h.done x h1 h2 fun l' e => by cases e; exact h3 l rfl⟩, Nat.le_refl _⟩
    cases e
    refine ⟨hj, dn ++ [y], by rw [e1]; simp, fun z hz => ?_⟩
    rcases List.mem_append.1 hz with hz | hz
    · exact e2 z hz
    · rw [List.mem_singleton.1 hz]; exact hb
  · rw [if_neg hb]
    have hb' : B y = false := by simpa using hb
    have up : ∀ x, B x = true → marked B y x = true := fun x hx => by unfold marked; rw [hx]; rfl
    have hyy : marked B y y = true := by unfold marked; simp
    have dn' : ∀ x, marked B y x = true → B x = true ∨ x = y := fun x hx => by unfold marked at hx; simpa using hx
    refine ⟨⟨fun x hx => up x (h.bn x hx), fun x hx => ?_, fun x hx => ?_, fun j' l' e => ?_, fun x h1 h2 h3 z hz => ?_⟩, ?_⟩
    · rcases dn' x hx with hx | rfl
      · exact h.rc x hx
      · exact (h.rc j hj).step hy
    · rcases List.mem_append.1 hx with hx | hx
      · exact up x (h.tod x hx)
      · rw [List.mem_singleton.1 hx]; exact hyy
    · cases e
      refine ⟨up j hj, dn ++ [y], by rw [e1]; simp, fun z hz => ?_⟩
      rcases List.mem_append.1 hz with hz | hz
      · exact up z (e2 z hz)
      · rw [List.mem_singleton.1 hz]; exact hyy
    · rcases dn' x h1 with h1 | rfl
      · exact up z (h.done x h1 (fun hm => h2 (List.mem_append_left _ hm)) (fun l' e => by cases e; exact h3 l rfl) z hz)
      · exact absurd (List.mem_append_right _ (List.mem_singleton.2 rfl)) h2
    · have := free_mark hb' (hU j y hy)
      rw [List.length_append]
      simp only [List.length_cons, List.length_nil]
      omega
theorem Stk.fin {E : Jb → List Jb} {ban : List Jb} {B : Jb → Bool} (h : Stk E ban B [] none) (x : Jb) : B x = true ↔ Rc E ban x :=
  ⟨h.rc x, fun hx => hx.least (T := fun x => B x = true) h.bn fun x y hx hy => h.done x hx (by simp) (fun _ e => by cases e) y hy⟩
/-- Least numbers. -/
theorem exists_least : ∃ μ : (Nat → Prop) → Nat, ∀ R : Nat → Prop, (∃ n, R n) → R (μ R) ∧ ∀ n, R n → μ R ≤ n := by
  have key : ∀ R : Nat → Prop, ∃ m, (∃ n, R n) → R m ∧ ∀ n, R n → m ≤ n := by
    intro R
    by_cases h : ∃ n, R n
    · have : ∀ k n, R n → n ≤ k → ∃ m, R m ∧ ∀ n, R n → m ≤ n := by
        intro k
        induction k with
        | zero => exact fun n hn hk => ⟨n, hn, fun i _ => by omega⟩
        | succ k ih =>
          intro n hn hk
          by_cases h2 : ∃ i, R i ∧ i < n
          · obtain ⟨i, hi, hl⟩ := h2
            exact ih i hi (by omega)
          · exact ⟨n, hn, fun i hi => Nat.le_of_not_lt fun hl => h2 ⟨i, hi, hl⟩⟩
      obtain ⟨n, hn⟩ := h
      obtain ⟨m, hm⟩ := this n n hn (Nat.le_refl _)
      exact ⟨m, fun _ => hm⟩
    · exact ⟨0, fun h2 => absurd h2 h⟩
  exact ⟨fun R => Classical.choose (key R), fun R h => Classical.choose_spec (key R) h⟩
end Go.Proofs.Ytclgclcoblfddaa
