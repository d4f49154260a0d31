/- Maps as functions, plain. -/
import Derived.Test.YtclgclcoblfddaaGMap
namespace Go.Proofs.Ytclgclcoblfddaa
open Go.RowKit
set_option linter.unusedVariables false
set_option linter.unusedSectionVars false
set_option linter.unusedSimpArgs false
section
variable {α : Type} [DecidableEq α]
theorem valOf_nil (x : α) : valOf x [] = none := rfl
theorem posOf_val {x : α} : ∀ (es : List (α × Value)) (i j : Nat), (posOf x es i).map (·.2) = (posOf x es j).map (·.2)
  | [], _, _ => rfl
  | p :: es, i, j => by
    unfold posOf
    split
    · rfl
    · exact posOf_val es _ _
theorem valOf_cons (x : α) (p : α × Value) (es : List (α × Value)) : valOf x (p :: es) = if x = p.1 then some p.2 else valOf x es := by
  unfold valOf
  rw [posOf]
  split
  · rfl
  · exact posOf_val es _ _
def putR (x : α) (v : Value) : List (α × Value) → List (α × Value)
  | [] => [(x, v)]
  | p :: es => if x = p.1 then (x, v) :: es else p :: putR x v es
theorem putOf_eqAt (x : α) (v : Value) : ∀ (es : List (α × Value)) (n : Nat), (match posOf x es n with | some (i, _) => es.set (i - n) (x, v) | none => es ++ [(x, v)]) = putR x v es
  | [], _ => rfl
  | p :: es, n => by
    unfold posOf putR
    by_cases h : x = p.1
    · rw [if_pos h, if_pos h]; simp
    · rw [if_neg h, if_neg h, ← putOf_eqAt x v es (n + 1)]
      cases hp : posOf x es (n + 1) with
      | none => rfl
      | some q =>
        obtain ⟨i, u⟩ := q
        have := (posOf_get hp).1
        simp only
        rw [show i - n = i - (n + 1) + 1 by omega]
        rfl
theorem putOf_eq (x : α) (v : Value) (es : List (α × Value)) : putOf x v es = putR x v es := putOf_eqAt x v es 0
theorem valOf_put (x : α) (v : Value) (y : α) : ∀ es : List (α × Value), valOf y (putR x v es) = if y = x then some v else valOf y es
  | [] => by unfold putR; rw [valOf_cons]
  | p :: es => by
    unfold putR
    by_cases h : x = p.1
    · rw [if_pos h, valOf_cons, valOf_cons]
      by_cases h2 : y = x
      · simp [h2]
      · rw [if_neg h2, if_neg h2, if_neg (fun e => h2 (e.trans h.symm))]
    · rw [if_neg h, valOf_cons, valOf_cons, valOf_put x v y es]
      by_cases h2 : y = x
      · subst h2; simp [h]
      · simp [h2]
theorem keys_put (x : α) (v : Value) : ∀ es : List (α × Value), (putR x v es).map (·.1) = if x ∈ es.map (·.1) then es.map (·.1) else es.map (·.1) ++ [x]
  | [] => by simp [putR]
  | p :: es => by
    unfold putR
    by_cases h : x = p.1
    · rw [if_pos h, if_pos (by simp [h])]; simp [h]
    · rw [if_neg h, List.map_cons, keys_put x v es]
      by_cases h2 : x ∈ es.map (·.1)
      · rw [if_pos h2, if_pos (by simp only [List.map_cons, List.mem_cons]; exact .inr h2)]; rfl
      · rw [if_neg h2, if_neg (show ¬ x ∈ (p :: es).map (·.1) from fun hh => (List.mem_cons.1 hh).elim h h2)]; rfl
theorem nodup_len {β : Type} [DecidableEq β] : ∀ {l U : List β}, l.Nodup → (∀ x ∈ l, x ∈ U) → l.length ≤ U.length
  | [], _, _, _ => Nat.zero_le _
  | a :: l, U, hn, hs => by
    rw [List.nodup_cons] at hn
    have h1 : a ∈ U := hs a List.mem_cons_self
    have h2 := nodup_len (U := U.erase a) hn.2 fun x hx => (List.mem_erase_of_ne (fun (e : x = a) => hn.1 (by rw [← e]; exact hx))).2 (hs x (List.mem_cons_of_mem _ hx))
    have h3 := List.length_erase_of_mem h1
    have h4 := List.length_pos_of_mem h1
    simp only [List.length_cons]
    omega
/-- The entries of a map that is f. -/
structure FM (es : List (α × Value)) (f : α → Option Value) : Prop where
  nodup : (es.map (·.1)).Nodup
  val : ∀ k, valOf k es = f k
theorem FM.nil : FM ([] : List (α × Value)) fun _ => none := ⟨List.nodup_nil, fun _ => rfl⟩
theorem FM.put {es : List (α × Value)} {f : α → Option Value} (h : FM es f) (x : α) (v : Value) : FM (putOf x v es) fun k => if k = x then some v else f k := by
  rw [putOf_eq]
  refine ⟨?_, fun k => by rw [valOf_put, h.val]⟩
  rw [keys_put]
  split
  · exact h.nodup
  · rename_i hn
    exact List.nodup_append.2 ⟨h.nodup, by simp, fun a ha b hb e => by rw [List.mem_singleton.1 hb] at e; exact hn (e ▸ ha)⟩
theorem valOf_mem {x : α} : ∀ {es : List (α × Value)}, (valOf x es).isSome ↔ x ∈ es.map (·.1)
  | [] => by simp [valOf_nil]
  | p :: es => by
    rw [valOf_cons, List.map_cons, List.mem_cons, ← valOf_mem (es := es)]
    split
    · rename_i h; simp [h]
    · rename_i h; simp [h]
theorem FM.mem {es : List (α × Value)} {f : α → Option Value} (h : FM es f) (k : α) : k ∈ es.map (·.1) ↔ (f k).isSome := by rw [← h.val, valOf_mem]
theorem valOf_entry : ∀ {es : List (α × Value)}, (es.map (·.1)).Nodup → ∀ {p : α × Value}, p ∈ es → valOf p.1 es = some p.2
  | [], _, p, h => by cases h
  | q :: es, hn, p, h => by
    rw [valOf_cons]
    rw [List.map_cons, List.nodup_cons] at hn
    rcases List.mem_cons.1 h with rfl | h
    · simp
    · rw [if_neg (fun (e : p.1 = q.1) => hn.1 (by rw [← e]; exact List.mem_map_of_mem (f := (·.1)) h))]
      exact valOf_entry hn.2 h
theorem FM.entry {es : List (α × Value)} {f : α → Option Value} (h : FM es f) {p : α × Value} (hp : p ∈ es) : f p.1 = some p.2 := by rw [← h.val]; exact valOf_entry h.nodup hp
theorem FM.length {es : List (α × Value)} {f : α → Option Value} (h : FM es f) (U : List α) (hU : ∀ k, (f k).isSome → k ∈ U) : es.length ≤ U.length := by
  have : (es.map (·.1)).length ≤ U.length := nodup_len h.nodup fun k hk => hU k ((h.mem k).1 hk)
  simpa using this
end
end Go.Proofs.Ytclgclcoblfddaa
