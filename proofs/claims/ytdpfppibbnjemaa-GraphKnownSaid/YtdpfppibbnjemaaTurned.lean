/- graph.turned: rows turned round, with others behind. -/
import Derived.Test.YtdpfppibbnjemaaGRows
import Derived.Test.YtdpfppibbnjemaaKeyPair
import Derived.Test.YtdpfppibbnjemaaFMap
namespace Go.Proofs.Ytdpfppibbnjemaa
open Go.RowKit Go.Shelf
set_option linter.unusedVariables false
set_option linter.unusedSimpArgs false
theorem zeroBool (w : World) : (zeroValue 4).run Try.prog w = .ok (.bool false) w := by kernel_rfl
/-- What turned has: the pairs that were put. -/
structure TSt (w0 W : World) (base g bS bO m n : Nat) (S : Int × Int → Bool) : Prop where
  cS : W.cell? ⟨bS, 0, none⟩ = some (.map (some m))
  cO : W.cell? ⟨bO, 0, none⟩ = some (.slice (some ⟨g, 0, none⟩) n n)
  map : ∃ es, RMap encP W m es ∧ FM es fun p => if S p then some (.bool true) else none
  rows : ∃ f : Nat → List Int, PInv W base g n f ∧ ∀ j, j < n → (f j).Nodup ∧ ∀ k, k ∈ f j ↔ S ((j : Int), k) = true
  rng : ∀ p, S p = true → 0 ≤ p.1 ∧ p.1 < n ∧ 0 ≤ p.2 ∧ p.2 < n
  lt : m < base ∧ bS < base ∧ bO < base ∧ m ≠ g ∧ bS ≠ g ∧ bO ≠ g ∧ m ≠ bS ∧ m ≠ bO
  x0 : Ext w0 W
  old : w0.heap.size ≤ m ∧ w0.heap.size ≤ g
theorem TSt.ext {w0 W W' : World} {base g bS bO m n : Nat} {S : Int × Int → Bool} (h : TSt w0 W base g bS bO m n S) (hx : Ext W W') : TSt w0 W' base g bS bO m n S := by
  obtain ⟨es, e1, e2⟩ := h.map
  obtain ⟨f, f1, f2⟩ := h.rows
  exact ⟨hx.cell h.cS, hx.cell h.cO, ⟨es, e1.ext hx, e2⟩, ⟨f, f1.ext hx, f2⟩, h.rng, h.lt, h.x0.trans hx, h.old⟩
theorem TSt.congr {w0 W : World} {base g bS bO m n : Nat} {S S' : Int × Int → Bool} (h : TSt w0 W base g bS bO m n S) (he : ∀ p, S p = S' p) : TSt w0 W base g bS bO m n S' := by
  obtain rfl : S = S' := funext he
  exact h
theorem PInv.kept {W W' : World} {base g n m : Nat} {f : Nat → List Int} (h : PInv W base g n f) (hg : W.grownBy W' (some m)) (hm : m < base) (hne : m ≠ g) : PInv W' base g n f := by
  obtain ⟨rs, h1, h2, h3⟩ := h
  exact ⟨rs, h1, h2.kept hg hm hne, h3⟩
set_option maxRecDepth 100000 in
set_option maxHeartbeats 1000000 in
theorem put_calls {w0 W : World} {base g bS bO m n : Nat} {S : Int × Int → Bool} (h : TSt w0 W base g bS bO m n S) (hn : n ≤ 1000) (i k : Nat) (hi : i < n) (hk : k < n) :
    Calls Try.prog 46 #[.int .i64 i, .int .i64 k, .pointer (some ⟨bS, 0, none⟩), .pointer (some ⟨bO, 0, none⟩)] W fun e w' => e = .returned (.tuple #[]) ∧ TSt w0 w' base g bS bO m n (fun p => S p || decide (p = ((i : Int), (k : Int)))) := by
  obtain ⟨es, hmap, hfm⟩ := h.map
  have hl := hmap.look keyPair Try.underlying112 (zeroBool W) ((i : Int), (k : Int))
  rw [hfm.val] at hl
  unfold encP at hl
  have hcS := h.cS
  have hcO := h.cO
  obtain ⟨l1, l2, l3, l4, l5, l6, l7, l8⟩ := h.lt
  cases hs : S ((i : Int), (k : Int)) with
  | true =>
    rw [hs] at hl
    simp only [if_true, Option.getD_some] at hl
    have HS := Lib.hid hs
    have H := Lib.hid h
    clear hs h hmap hfm hcO
    go_enter Try.func46, Try.ntmps46
    go_wp2_with fail
    go_end0
    exact ⟨rfl, H.out.congr (fun p => by
      by_cases hp : p = ((i : Int), (k : Int))
      · subst hp; rw [HS.out]; rfl
      · simp [hp])⟩
  | false =>
    rw [hs] at hl
    simp only [Bool.false_eq_true, if_false, Option.getD_none] at hl
    have HS := Lib.hid hs
    have H := Lib.hid h
    have HF := Lib.hid hfm
    clear hs h hfm
    go_enter Try.func46, Try.ntmps46
    go_upto_region 2 with (refine wpList_put keyPair rfl (.tmp 12) (.tmp 15) (.const (.bool true)) 112 4 rfl Try.underlying112 m es rfl hmap ((i : Int), (k : Int)) (.bool true) rfl rfl ?_; intro W1 hmap1 hg1)
    obtain ⟨f, hP, hf⟩ := H.out.rows
    have hP1 := hP.kept hg1 l1 l4
    have hx1 : Ext w0 W1 := Grown.toExt H.out.x0 hg1 (fun k hk => by cases hk; exact H.out.old.1)
    have e5 : W1.cell? ⟨bO, 0, none⟩ = some (.slice (some ⟨g, 0, none⟩) n n) := hg1.cell hcO (fun e => l8 (Option.some.inj e).symm)
    have e6 : W1.cell? ⟨bS, 0, none⟩ = some (.map (some m)) := hg1.cell hcS (fun e => l7 (Option.some.inj e).symm)
    obtain ⟨hnd, hfm⟩ := hf i hi
    have hfl : (f i).length ≤ 1000 := by
      refine Nat.le_trans (nodup_len (U := (List.range n).map fun (k : Nat) => (k : Int)) hnd fun x hx => ?_) (by simpa using hn)
      obtain ⟨_, _, h3, h4⟩ := H.out.rng _ ((hfm x).1 hx)
      simp only at h3 h4
      exact List.mem_map.2 ⟨x.toNat, List.mem_range.2 (by omega), by omega⟩
    have hkn : ¬ (k : Int) ∈ f i := fun h => by have := (hfm k).1 h; rw [HS.out] at this; cases this
    obtain ⟨A5, c5, hcell, hown, hbase, hback⟩ := hP1.at hi
    have hlow := hP1.low
    have HB := Lib.hid hback
    have HK := Lib.hid hkn
    have HFI := Lib.hid hf
    have HI := Lib.hid (show (i : Int) < n by omega)
    have hin : (i : Int) < n := HI.out
    clear hback hkn hf hnd hfm hmap hl hcS hcO hP hP1
    refine wp_region_mix (fun W => W.cell? ⟨bO, 0, none⟩ = some (.slice (some ⟨g, 0, none⟩) n n) ∧ W.cell? ⟨g, i, none⟩ = some (.slice A5 (f i).length c5)) 9 [(0, true), (1, true), (2, true), (3, true), (4, true), (5, true), (6, true), (7, false), (8, false), (9, false), (10, false)] (by kernel_rfl) (by kernel_rfl) (⟨e5, hcell⟩) ?_
    repeat (apply mix_read; (case ho => rfl); (case hw => rfl); (case h1 => intro W' hx; obtain ⟨q1, q2⟩ := hx; go_simp; (try go_bits); with_reducible rfl); (case hp => go_simp; first | done | with_reducible rfl))
    refine mix_loud rfl ?_; intro KY hKY
    go_wp2_with fail
    refine ⟨⟨((Ext.refl W1).drew.alloc _).cell e5, ((Ext.refl W1).drew.alloc _).cell hcell⟩, ?_⟩
    refine mix_loud rfl ?_; intro KY hKY
    refine wpList_append_int rfl (.tmp 21) (.tmp 23) 37 3 rfl Try.underlying37 infoInt base (.slice A5 (f i).length c5) (f i) rfl (Owns.ext hown (((Ext.refl W1).alloc _).drew)) W1.heap.size 1 k rfl ((Blk.new W1 [.int .i64 k] 3).cell 0 rfl) (by omega) (Nat.le_trans hlow.1 (((Ext.refl W1).alloc _).drew).size) ?_
    intro v' W5 o5 g5 s5
    obtain ⟨⟨old, ho⟩, hfz5, hP5⟩ := HB.out W5 v' _ o5 (Grown.after_ext (((Ext.refl W1).alloc _).drew) g5) (fun b hb => (s5 b hb).imp_right fun h => Nat.le_trans (((Ext.refl W1).alloc _).drew).size h)
    have hq5 := Grown.cell1 g5 ((((Ext.refl W1).alloc _).drew).cell e5) (fun a ha e => by have := hbase a ha; omega)
    have hq6 := Grown.cell1 g5 ((((Ext.refl W1).alloc _).drew).cell e6) (fun a ha e => by have := hbase a ha; omega)
    have hrowb : ∀ j, (Value.slice A5 (f i).length c5).ownBlock = some j → base ≤ j := fun j hj => by
      cases A5 with
      | none => cases hj
      | some ad => cases hj; exact hbase ad rfl
    have hx5 : Ext w0 W5 := Grown.toExt (hx1.trans (((Ext.refl W1).alloc _).drew)) g5 (fun j hj => by have := hrowb j hj; have := H.out.old.2; omega)
    have hmap5 := (hmap1.ext (((Ext.refl W1).alloc (.cells #[Value.int .i64 k] 3)).drew)).kept g5 (fun e => by have := hrowb m e.symm; omega)
    have hc5 : W5.cell? ⟨g, i, none⟩ = some old := ho
    have hcg : W5.cell? ⟨g, i, none⟩ = some (.slice A5 (f i).length c5) := Grown.cell1 g5 ((((Ext.refl W1).alloc _).drew).cell hcell) (fun a ha e => by have := hbase a ha; omega)
    obtain ⟨B5, cc5, rfl, _, _⟩ := Owns.rd o5
    go_wp2_with fail
    refine ⟨⟨hq5, hcg⟩, ?_⟩
    refine mix_end 9 (by kernel_rfl) (by kernel_rfl) ?_; simp only [List.take_succ_cons, List.take_zero, List.drop_succ_cons, List.drop_zero]; unfold Q0
    go_wp2_with fail
    go_end0
    rw [List.length_append] at hP5
    refine ⟨rfl, by rw [cell_set_other (by simp; omega)]; exact hq6, by rw [cell_set_other (by simp; omega)]; exact hq5, ⟨_, hmap5.kept (But.grown ((But.refl g W5).set i _)) (fun e => l4 (Option.some.inj e)), ?_⟩, ⟨_, hP5, fun j hj => ?_⟩, fun p hp => ?_, ⟨l1, l2, l3, l4, l5, l6, l7, l8⟩, hx5.setCell (by simp; have := H.out.old.2; omega) _, H.out.old⟩
    · have := HF.out.put ((i : Int), (k : Int)) (.bool true)
      refine ⟨this.nodup, fun p => ?_⟩
      rw [this.val]
      by_cases hp : p = ((i : Int), (k : Int))
      · simp [hp]
      · simp [hp]
    · obtain ⟨f1, f2⟩ := HFI.out j hj
      by_cases hji : j = i
      · subst hji
        simp only [if_true]
        refine ⟨List.nodup_append.2 ⟨f1, by simp, fun a ha b hb e => by rw [List.mem_singleton.1 hb] at e; exact HK.out (e ▸ ha)⟩, fun x => ?_⟩
        rw [List.mem_append, f2, List.mem_singleton, Bool.or_eq_true, decide_eq_true_eq, Prod.mk.injEq]
        simp
      · simp only [if_neg hji]
        refine ⟨f1, fun x => ?_⟩
        rw [f2, Bool.or_eq_true, decide_eq_true_eq, Prod.mk.injEq]
        have : ¬ (j : Int) = i := by omega
        simp [this]
    · rw [Bool.or_eq_true, decide_eq_true_eq] at hp
      rcases hp with hp | rfl
      · exact H.out.rng p hp
      · simp only
        omega
/-- The pairs put are those of Q. -/
def TQ (w0 W : World) (base g bS bO m n : Nat) (Q : Int × Int → Prop) : Prop := ∃ S, TSt w0 W base g bS bO m n S ∧ ∀ p, S p = true ↔ Q p
theorem TQ.congr {w0 W : World} {base g bS bO m n : Nat} {Q Q' : Int × Int → Prop} (h : TQ w0 W base g bS bO m n Q) (he : ∀ p, Q p ↔ Q' p) : TQ w0 W base g bS bO m n Q' := by
  obtain ⟨S, h1, h2⟩ := h
  exact ⟨S, h1, fun p => (h2 p).trans (he p)⟩
theorem TQ.ext {w0 W W' : World} {base g bS bO m n : Nat} {Q : Int × Int → Prop} (h : TQ w0 W base g bS bO m n Q) (hx : Ext W W') : TQ w0 W' base g bS bO m n Q := by
  obtain ⟨S, h1, h2⟩ := h
  exact ⟨S, h1.ext hx, h2⟩
theorem TQ.x0 {w0 W : World} {base g bS bO m n : Nat} {Q : Int × Int → Prop} (h : TQ w0 W base g bS bO m n Q) : Ext w0 W := by
  obtain ⟨S, h1, h2⟩ := h
  exact h1.x0
theorem putQ_calls {w0 W : World} {base g bS bO m n : Nat} {Q : Int × Int → Prop} (h : TQ w0 W base g bS bO m n Q) (hn : n ≤ 1000) (i k : Int) (hi : 0 ≤ i ∧ i < n) (hk : 0 ≤ k ∧ k < n) :
    Calls Try.prog 46 #[.int .i64 i, .int .i64 k, .pointer (some ⟨bS, 0, none⟩), .pointer (some ⟨bO, 0, none⟩)] W fun e w' => e = .returned (.tuple #[]) ∧ TQ w0 w' base g bS bO m n (fun p => Q p ∨ p = (i, k)) := by
  obtain ⟨S, h1, h2⟩ := h
  obtain ⟨i, rfl⟩ : ∃ a : Nat, i = a := ⟨i.toNat, by omega⟩
  obtain ⟨k, rfl⟩ : ∃ a : Nat, k = a := ⟨k.toNat, by omega⟩
  refine (put_calls h1 hn i k (by omega) (by omega)).mono ?_
  rintro e w' ⟨rfl, h3⟩
  exact ⟨rfl, _, h3, fun p => by rw [Bool.or_eq_true, decide_eq_true_eq, h2]⟩
theorem PInv.nils {W : World} {base g n : Nat} (hb : Blk W g (List.replicate n (Value.slice none 0 0)) 37) (hg : g < base) (hlow : base ≤ W.heap.size) : PInv W base g n (fun _ => []) := by
  refine ⟨List.replicate n (.slice none 0 0, []), by simp, ⟨?_, hg, hlow, ?_, ?_⟩, ?_⟩
  · rw [List.map_replicate]
    exact hb
  · intro i v xs hi
    rw [List.getElem?_replicate] at hi
    split at hi <;> cases hi
    exact World.ownsRow_nil _ _ _ _
  · intro i j v xs v' xs' k _ hi _ hk
    rw [List.getElem?_replicate] at hi
    split at hi <;> cases hi
    cases hk
  · intro j v xs hi
    rw [List.getElem?_replicate] at hi
    split at hi <;> cases hi
    rfl
/-- A table, as 'with' holds it. -/
structure TB where
  A : Option Addr
  cap : Nat
  rs : List Row
def TB.val (t : TB) : Value := .slice t.A t.rs.length t.cap
/-- All entries are places. -/
def places (n : Nat) (l : List (List Int)) : Prop := l.length ≤ n ∧ ∀ r ∈ l, r.length ≤ 1000000 ∧ ∀ x ∈ r, 0 ≤ x ∧ x < n
def qRow (L : List (List Int)) (i : Nat) (p : Int × Int) : Prop := ∃ a : Nat, a < i ∧ p.2 = a ∧ p.1 ∈ L.getD a []
def qWith (M : List (List Int)) (i : Nat) (p : Int × Int) : Prop := ∃ a : Nat, a < i ∧ p.1 = a ∧ p.2 ∈ M.getD a []
def qWiths (Ms : List (List (List Int))) (e : Nat) (p : Int × Int) : Prop := ∃ c : Nat, c < e ∧ qWith (Ms.getD c []) (Ms.getD c []).length p
def qTo (i : Int) (xs : List Int) (j : Nat) (a b : Int) : Prop := a = i ∧ b ∈ xs.take j
theorem qTo_zero {i : Int} {xs : List Int} {a b : Int} : ¬ qTo i xs 0 a b := fun h => by have := h.2; simp at this
theorem qTo_succ {i : Int} {xs : List Int} {j : Nat} {x : Int} (hx : xs[j]? = some x) {a b : Int} : qTo i xs (j + 1) a b ↔ qTo i xs j a b ∨ (a = i ∧ b = x) := by
  unfold qTo
  rw [List.take_add_one, hx]
  simp only [Option.toList_some, List.mem_append, List.mem_singleton]
  constructor
  · rintro ⟨h1, h2 | h2⟩
    · exact .inl ⟨h1, h2⟩
    · exact .inr ⟨h1, h2⟩
  · rintro (⟨h1, h2⟩ | ⟨h1, h2⟩)
    · exact ⟨h1, .inl h2⟩
    · exact ⟨h1, .inr h2⟩
theorem qRow_succ {L : List (List Int)} {i : Nat} {xs : List Int} (h : L.getD i [] = xs) {p : Int × Int} : qRow L (i + 1) p ↔ qRow L i p ∨ qTo i xs xs.length p.2 p.1 := by
  unfold qRow qTo
  rw [List.take_length]
  constructor
  · rintro ⟨a, h1, h2, h3⟩
    rcases Nat.lt_or_ge a i with h4 | h4
    · exact .inl ⟨a, h4, h2, h3⟩
    · obtain rfl : a = i := by omega
      exact .inr ⟨h2, h ▸ h3⟩
  · rintro (⟨a, h1, h2, h3⟩ | ⟨h2, h3⟩)
    · exact ⟨a, by omega, h2, h3⟩
    · exact ⟨i, by omega, h2, h ▸ h3⟩
theorem qWith_succ {M : List (List Int)} {i : Nat} {xs : List Int} (h : M.getD i [] = xs) {p : Int × Int} : qWith M (i + 1) p ↔ qWith M i p ∨ qTo i xs xs.length p.1 p.2 := by
  unfold qWith qTo
  rw [List.take_length]
  constructor
  · rintro ⟨a, h1, h2, h3⟩
    rcases Nat.lt_or_ge a i with h4 | h4
    · exact .inl ⟨a, h4, h2, h3⟩
    · obtain rfl : a = i := by omega
      exact .inr ⟨h2, h ▸ h3⟩
  · rintro (⟨a, h1, h2, h3⟩ | ⟨h2, h3⟩)
    · exact ⟨a, by omega, h2, h3⟩
    · exact ⟨i, by omega, h2, h ▸ h3⟩
theorem qWiths_succ {Ms : List (List (List Int))} {e : Nat} {M : List (List Int)} (h : Ms.getD e [] = M) {p : Int × Int} : qWiths Ms (e + 1) p ↔ qWiths Ms e p ∨ qWith M M.length p := by
  unfold qWiths
  constructor
  · rintro ⟨c, h1, h2⟩
    rcases Nat.lt_or_ge c e with h4 | h4
    · exact .inl ⟨c, h4, h2⟩
    · obtain rfl : c = e := by omega
      exact .inr (h ▸ h2)
  · rintro (⟨c, h1, h2⟩ | h2)
    · exact ⟨c, by omega, h2⟩
    · exact ⟨e, by omega, h ▸ h2⟩
def turnedQ (L : List (List Int)) (Ms : List (List (List Int))) (a b : Int) : Bool := (0 ≤ b && (L.getD b.toNat []).contains a) || (0 ≤ a && Ms.any fun M => (M.getD a.toNat []).contains b)
def turnedL (L : List (List Int)) (Ms : List (List (List Int))) : List (List Int) := (List.range L.length).map fun (j : Nat) => below L.length fun k => turnedQ L Ms (j : Int) (k : Int)
theorem getD_lt {α : Type} {l : List α} {i : Nat} {d : α} (h : i < l.length) : l.getD i d = l[i] := by rw [List.getD_eq_getElem?_getD, List.getElem?_eq_getElem h]; rfl
theorem turnedQ_iff {L : List (List Int)} {Ms : List (List (List Int))} {p : Int × Int} : (qRow L L.length p ∨ qWiths Ms Ms.length p) ↔ turnedQ L Ms p.1 p.2 = true := by
  unfold turnedQ
  simp only [Bool.or_eq_true, Bool.and_eq_true, decide_eq_true_eq, List.contains_iff_mem, List.any_eq_true]
  refine or_congr ⟨?_, ?_⟩ ⟨?_, ?_⟩
  · rintro ⟨a, h1, h2, h3⟩
    rw [h2]
    exact ⟨by omega, by simpa using h3⟩
  · rintro ⟨h1, h2⟩
    refine ⟨p.2.toNat, ?_, by omega, h2⟩
    rcases Nat.lt_or_ge p.2.toNat L.length with h | h
    · exact h
    · rw [List.getD_eq_getElem?_getD, List.getElem?_eq_none h] at h2
      simp at h2
  · rintro ⟨c, h1, a, h2, h3, h4⟩
    rw [h3]
    refine ⟨by omega, _, List.getElem_mem h1, ?_⟩
    rw [getD_lt h1] at h4
    simpa using h4
  · rintro ⟨h1, M, hM, h2⟩
    obtain ⟨c, hc, rfl⟩ := List.getElem_of_mem hM
    refine ⟨c, hc, p.1.toNat, ?_, by omega, ?_⟩
    · rw [getD_lt hc]
      rcases Nat.lt_or_ge p.1.toNat Ms[c].length with h | h
      · exact h
      · rw [List.getD_eq_getElem?_getD, List.getElem?_eq_none h] at h2
        simp at h2
    · rw [getD_lt hc]
      exact h2
end Go.Proofs.Ytdpfppibbnjemaa
