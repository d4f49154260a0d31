/- The printed predicates of rows in memory, as the ones that closure's contracts speak of. -/
import Derived.Test.YtclgclcoblfddaaPx0
import Derived.Test.YtclgclcoblfddaaJa2
namespace Go.Proofs.Ytclgclcoblfddaa
open Go.RowKit Go.Proofs.YtclgclcoblfddaaW.PrintWords
set_option linter.unusedVariables false
set_option linter.unusedSimpArgs false
theorem spot_none {w : World} {a : Addr} {v : Value} (h : w.cell? a = some v) : a.spot = none := by
 unfold World.cell? at h
 split at h
 ·split at h
  ·cases h
  ·rename_i hs
   cases e : a.spot with
   | none => rfl
   | some x => rw [e] at hs; simp at hs
 ·cases h
theorem add_of {a : Addr} (h : a.spot = none) (j : Nat) : a.add j = ⟨a.block, a.off + j, none⟩ := by
 obtain ⟨b, o, s⟩ := a
 simp only at h
 subst h
 unfold Addr.add
 split
 ·rename_i hj; subst hj; rfl
 ·rfl
theorem rdv_of {w : World} {A : Option Addr} {n : Nat} {l : List Int} (h : Kd.C (Kd.int .i64) w A n l) : RdV w A (ints l) ∧ l.length ≤ 9223372036854775807 := by
 obtain ⟨hl, hn, hc⟩ := h
 subst hl
 refine ⟨?_, hn⟩
 rcases Nat.eq_zero_or_pos l.length with h0 | hp
 ·left
  rw [List.eq_nil_of_length_eq_zero h0]; rfl
 ·obtain ⟨ad, rfl, hd⟩ := hc hp
  obtain ⟨c, hcl, hcv, hcc⟩ := hd 0 l[0] (List.getElem?_eq_getElem hp)
  have hs : ad.spot = none := by
   have := hcc 0 _ (by rw [hcv]; rfl)
   have := spot_none this
   simp [Addr.add] at this
   exact this
  right
  refine ⟨ad.block, ad.off, ?_, ?_⟩
  ·obtain ⟨b, o, s⟩ := ad
   simp only at hs
   rw [hs]
  ·intro j v hv
   rw [ints_get] at hv
   cases hj : l[j]? with
   | none => rw [hj] at hv; cases hv
   | some x =>
    rw [hj] at hv
    cases hv
    obtain ⟨c, hcl, hcv, hcc⟩ := hd j x hj
    have := hcc 0 _ (by rw [hcv]; rfl)
    rw [add_of hs] at this
    have hz : (Kd.int IntKind.i64).sz = 1 := rfl
    simpa [hz] using this
theorem rdr_of {w : World} {A : Option Addr} {n : Nat} {l : List (List Int)} (h : Kd.C (Kd.slice 3 (Kd.int .i64)) w A n l) :
  ∃ rs : List Row, rows rs = l ∧ RdR w A rs ∧ (∀ r ∈ rs, r.xs.length ≤ 9223372036854775807) ∧ rs.length ≤ 9223372036854775807 := by
 obtain ⟨hl, hn, hc⟩ := h
 subst hl
 rcases Nat.eq_zero_or_pos l.length with h0 | hp
 ·refine ⟨[], ?_, ⟨.inl rfl, fun r hr => by cases hr⟩, fun r hr => by (cases hr), by simp⟩
  rw [List.eq_nil_of_length_eq_zero h0]; rfl
 ·obtain ⟨ad, rfl, hd⟩ := hc hp
  have key : ∀ j : Fin l.length, ∃ r : Row, r.xs = l[j] ∧ w.cell? (ad.add j) = some r.val ∧ RdV w r.A (ints r.xs) ∧ r.xs.length ≤ 9223372036854775807 := by
   intro j
   obtain ⟨c, hcl, ⟨B, k, hcv, hk, hr⟩, hcc⟩ := hd j l[j] (List.getElem?_eq_getElem j.2)
   refine ⟨⟨B, k, l[j]⟩, rfl, ?_, (rdv_of hr).1, (rdv_of hr).2⟩
   have := hcc 0 _ (by rw [hcv]; rfl)
   have hz : (Kd.slice 3 (Kd.int IntKind.i64)).sz = 1 := rfl
   simpa [hz, Row.val] using this
  let f : Fin l.length → Row := fun j => Classical.choose (key j)
  have hf : ∀ j, (f j).xs = l[j] ∧ w.cell? (ad.add j) = some (f j).val ∧ RdV w (f j).A (ints (f j).xs) ∧ (f j).xs.length ≤ 9223372036854775807 := fun j => Classical.choose_spec (key j)
  have hs : ad.spot = none := by
   have := spot_none (hf ⟨0, hp⟩).2.1
   simpa [Addr.add] using this
  refine ⟨List.ofFn f, ?_, ⟨.inr ⟨ad.block, ad.off, ?_, ?_⟩, ?_⟩, ?_, ?_⟩
  ·unfold rows
   apply List.ext_getElem
   ·simp
   ·intro i h1 h2
    simp only [List.getElem_map, List.getElem_ofFn]
    exact (hf ⟨i, by simpa using h1⟩).1
  ·obtain ⟨b, o, s⟩ := ad
   simp only at hs
   rw [hs]
  ·intro j v hv
   rw [List.getElem?_map] at hv
   cases hj : (List.ofFn f)[j]? with
   | none => rw [hj] at hv; cases hv
   | some x =>
    rw [hj] at hv
    cases hv
    have hlt : j < l.length := by have := (List.getElem?_eq_some_iff.1 hj).1; simpa using this
    rw [List.getElem?_eq_getElem (by simpa using hlt)] at hj
    simp only [List.getElem_ofFn, Option.some.injEq] at hj
    have := (hf ⟨j, hlt⟩).2.1
    rw [add_of hs] at this
    rw [← hj]
    exact this
  ·intro r hr
   obtain ⟨j, rfl⟩ := (List.mem_ofFn ..).1 hr
   exact (hf j).2.2.1
  ·intro r hr
   obtain ⟨j, rfl⟩ := (List.mem_ofFn ..).1 hr
   exact (hf j).2.2.2
  ·simpa using hn
def its (l : List P.S34) : List It := l.map fun x => ⟨x.f0.f0, x.f0.f1, x.f1⟩
theorem its_length (l : List P.S34) : (its l).length = l.length := by simp [its]
theorem rdi_of {w : World} {A : Option Addr} {n : Nat} {l : List P.S34} (h : Kd.C P.k34 w A n l) : RdI w A (its l) := by
 obtain ⟨hl, hn, hc⟩ := h
 subst hl
 rcases Nat.eq_zero_or_pos l.length with h0 | hp
 ·left
  rw [List.eq_nil_of_length_eq_zero h0]; rfl
 ·obtain ⟨ad, rfl, hd⟩ := hc hp
  obtain ⟨c, hcl, hcv, hcc⟩ := hd 0 l[0] (List.getElem?_eq_getElem hp)
  have hcv := P.k34_open hcv
  have hs : ad.spot = none := by
   have := hcc 0 _ (by rw [hcv]; rfl)
   have := spot_none this
   simp [Addr.add] at this
   exact this
  right
  refine ⟨ad.block, ad.off, ?_, ?_⟩
  ·obtain ⟨b, o, s⟩ := ad
   simp only at hs
   rw [hs]
  ·intro j u t m hv
   unfold its at hv
   rw [List.getElem?_map] at hv
   cases hj : l[j]? with
   | none => rw [hj] at hv; cases hv
   | some x =>
    rw [hj] at hv
    cases hv
    obtain ⟨c, hcl, hcv, hcc⟩ := hd j x hj
    have hcv := P.k34_open hcv
    have hz : P.k34.sz = 3 := rfl
    have c0 := hcc 0 _ (by rw [hcv]; rfl)
    have c1 := hcc 1 _ (by rw [hcv]; rfl)
    have c2 := hcc 2 _ (by rw [hcv]; rfl)
    rw [add_of hs, hz] at c0 c1 c2
    exact ⟨by simpa using c0, by simpa [Nat.add_assoc] using c1, by simpa [Nat.add_assoc] using c2⟩
def ofIt (x : It) : P.S34 := ⟨⟨x.u, x.t⟩, x.m⟩
def ofJob (x : Int × Int) : P.S32 := ⟨x.1, x.2⟩
theorem itCells_part (l : List It) {j : Nat} {x : It} (h : l[j]? = some x) : ((Zcq l).drop (j * 3)).take 3 = [.int .i64 x.u, .int .u8 x.t, .bool x.m] := by
 obtain ⟨h0, h1, h2⟩ := itCells_get l j x.u x.t x.m h
 apply List.ext_getElem?
 intro i
 rw [List.getElem?_take]
 split
 ·rename_i hi
  rw [List.getElem?_drop]
  match i, hi with
  | 0, _ => exact h0
  | 1, _ => exact h1
  | 2, _ => exact h2
 ·rename_i hi
  rw [List.getElem?_eq_none (by simp; omega)]
theorem kdR_items {base : Nat} {W : World} {v : Value} {xs : List It} (h : W.ownsRow base 34 3 v xs.length (Zcq xs)) : Kd.R P.k34 34 W base (fun _ => True) v (xs.map ofIt) := by
 refine ⟨fun _ _ => trivial, Zcq xs, ?_, ?_, ?_⟩
 ·rw [List.length_map]; exact h
 ·show (Zcq xs).length = (xs.map ofIt).length * 3
  rw [itCells_length, List.length_map]
 ·intro j p hj
  rw [List.getElem?_map] at hj
  cases hx : xs[j]? with
  | none => rw [hx] at hj; cases hj
  | some x =>
   rw [hx] at hj
   cases hj
   show P.k34.M W base _ (ofIt x) (((Zcq xs).drop (j * 3)).take 3)
   rw [itCells_part xs hx]
   exact P.k34_mkM W base _ (ofIt x)
theorem rdb_of {w : World} {A : Option Addr} {n : Nat} {l : List Bool} (h : Kd.C Kd.bool w A n l) : RdV w A (l.map Value.bool) := by
 obtain ⟨hl, hn, hc⟩ := h
 subst hl
 rcases Nat.eq_zero_or_pos l.length with h0 | hp
 ·left
  rw [List.eq_nil_of_length_eq_zero h0]; rfl
 ·obtain ⟨ad, rfl, hd⟩ := hc hp
  obtain ⟨c, hcl, hcv, hcc⟩ := hd 0 l[0] (List.getElem?_eq_getElem hp)
  have hs : ad.spot = none := by
   have := hcc 0 _ (by rw [hcv]; rfl)
   have := spot_none this
   simp [Addr.add] at this
   exact this
  right
  refine ⟨ad.block, ad.off, ?_, ?_⟩
  ·obtain ⟨b, o, s⟩ := ad
   simp only at hs
   rw [hs]
  ·intro j v hv
   rw [List.getElem?_map] at hv
   cases hj : l[j]? with
   | none => rw [hj] at hv; cases hv
   | some x =>
    rw [hj] at hv
    cases hv
    obtain ⟨c, hcl, hcv, hcc⟩ := hd j x hj
    have := hcc 0 _ (by rw [hcv]; rfl)
    rw [add_of hs] at this
    have hz : Kd.bool.sz = 1 := rfl
    simpa [hz] using this
def jbs (l : List P.S32) : List Jb := l.map fun x => (x.f0, x.f1)
theorem jbs_length (l : List P.S32) : (jbs l).length = l.length := by simp [jbs]
theorem rdj_of {w : World} {A : Option Addr} {n : Nat} {l : List P.S32} (h : Kd.C P.k32 w A n l) : RdJ w A (jbs l) := by
 obtain ⟨hl, hn, hc⟩ := h
 subst hl
 rcases Nat.eq_zero_or_pos l.length with h0 | hp
 ·left
  rw [List.eq_nil_of_length_eq_zero h0]; rfl
 ·obtain ⟨ad, rfl, hd⟩ := hc hp
  obtain ⟨c, hcl, hcv, hcc⟩ := hd 0 l[0] (List.getElem?_eq_getElem hp)
  have hcv := P.k32_open hcv
  have hs : ad.spot = none := by
   have := hcc 0 _ (by rw [hcv]; rfl)
   have := spot_none this
   simp [Addr.add] at this
   exact this
  right
  refine ⟨ad.block, ad.off, ?_, ?_⟩
  ·obtain ⟨b, o, s⟩ := ad
   simp only at hs
   rw [hs]
  ·intro j u t hv
   unfold jbs at hv
   rw [List.getElem?_map] at hv
   cases hj : l[j]? with
   | none => rw [hj] at hv; cases hv
   | some x =>
    rw [hj] at hv
    cases hv
    obtain ⟨c, hcl, hcv, hcc⟩ := hd j x hj
    have hcv := P.k32_open hcv
    have hz : P.k32.sz = 2 := rfl
    have c0 := hcc 0 _ (by rw [hcv]; rfl)
    have c1 := hcc 1 _ (by rw [hcv]; rfl)
    rw [add_of hs, hz] at c0 c1
    exact ⟨by simpa using c0, by simpa [Nat.add_assoc] using c1⟩
def Zci (l : List (List Int)) : Bool := decide (l.length ≤ 1000) && l.all fun r => decide (r.length ≤ 1000)
theorem tb_of {w : World} {A : Option Addr} {c : Nat} {l : List (List Int)} (h : Kd.C (Kd.slice 3 (Kd.int .i64)) w A l.length l) (hok : Zci l = true) : ∃ b : Tb, b.v = .slice A l.length c ∧ b.l = l ∧ b.ok w := by
 obtain ⟨rs, e1, h1, _, _⟩ := rdr_of h
 have hl : rs.length = l.length := by rw [← e1, rows_length]
 unfold Zci at hok
 simp only [Bool.and_eq_true, decide_eq_true_eq, List.all_eq_true] at hok
 refine ⟨⟨A, rs, c⟩, ?_, e1, h1, by show rs.length ≤ 1000; omega, fun r hr => hok.2 r.xs (by rw [← e1]; exact List.mem_map_of_mem (f := Row.xs) hr)⟩
 unfold Tb.v
 rw [hl]
end Go.Proofs.Ytclgclcoblfddaa
