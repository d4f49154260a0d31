/- Chapter 23: the closure of far: one step of the search. -/
import Derived.Test.YthlobpdcolgcoaaIMap
import Derived.Test.YthlobpdcolgcoaaNext
import Derived.Test.YthlobpdcolgcoaaBfs
namespace Go.Proofs.Ythlobpdcolgcoaa
open Go.RowKit Go.Maps Go.Lib
set_option linter.unusedVariables false
set_option linter.unusedSimpArgs false

theorem IMap.noCell {W : World} {b n : Nat} {f : Int → Option Int} (h : IMap W b n f) (o : Nat) : W.cell? ⟨b, o, none⟩ = none := by
  obtain ⟨D, ⟨es, clock, hb, _⟩, _⟩ := h
  simp [World.cell?, hb]
theorem IMap.cell {W W' : World} {b n : Nat} {f : Int → Option Int} (h : IMap W b n f) (hg : W.grownBy W' (some b)) {g o : Nat} {v : Value} (hc : W.cell? ⟨g, o, none⟩ = some v) : W'.cell? ⟨g, o, none⟩ = some v :=
  hg.cell hc (by
    intro e
    simp only [Option.some.injEq] at e
    subst e
    rw [h.noCell] at hc
    cases hc)
theorem IMap.rdv {W W' : World} {b n : Nat} {f : Int → Option Int} (h : IMap W b n f) (hg : W.grownBy W' (some b)) {A : Option Addr} {vs : List Value} (hr : RdV W A vs) : RdV W' A vs := by
  rcases hr with hr | ⟨g, o, rfl, hr⟩
  · exact .inl hr
  · exact .inr ⟨g, o, rfl, fun j v hv => h.cell hg (hr j v hv)⟩
theorem IMap.rdr {W W' : World} {b n : Nat} {f : Int → Option Int} (h : IMap W b n f) (hg : W.grownBy W' (some b)) {A : Option Addr} {rs : List Row} (hr : RdR W A rs) : RdR W' A rs :=
  ⟨h.rdv hg hr.1, fun r hr' => h.rdv hg (hr.2 r hr')⟩
theorem IMap.notRow {W : World} {b n : Nat} {f : Int → Option Int} (h : IMap W b n f) {base : Nat} {e : TypeId} {v : Value} {m : Nat} {xs : List Value} (ho : W.ownsRow base e 1 v m xs) : v.ownBlock = none ∨ v.ownBlock ≠ some b := by
  rcases ho.2 with ⟨rfl, _⟩ | ⟨g, cap, cur, rfl, _, hg, _⟩
  · exact .inl rfl
  · refine .inr fun e => ?_
    simp only [Value.ownBlock, Option.some.injEq] at e
    subst e
    obtain ⟨D, ⟨es, clock, hb, _⟩, _⟩ := h
    rw [hg] at hb
    cases hb
theorem Grown.weak {w W : World} {row : Option Nat} (h : w.grownBy W none) : w.grownBy W row := ⟨h.os, h.tape, h.output, h.size, fun i hi _ => h.block i hi (by simp)⟩
theorem Grown.own {w W W1 : World} {row row' : Option Nat} (h : w.grownBy W row) (k : W.grownBy W1 row') (hr : ∀ j, row' = some j → w.heap.size ≤ j) : w.grownBy W1 row :=
  ⟨k.os.trans h.os, k.tape.trans h.tape, k.output.trans h.output, Nat.le_trans h.size k.size, fun i hi hne => (k.block i (Nat.lt_of_lt_of_le hi h.size) (fun e => by have := hr i e.symm; omega)).trans (h.block i hi hne)⟩
theorem Grown.trans' {w W W1 : World} {row : Option Nat} (h : w.grownBy W row) (k : W.grownBy W1 row) : w.grownBy W1 row :=
  ⟨k.os.trans h.os, k.tape.trans h.tape, k.output.trans h.output, Nat.le_trans h.size k.size, fun i hi hne => (k.block i (Nat.lt_of_lt_of_le hi h.size) hne).trans (h.block i hi hne)⟩
def updAll (f : Int → Option Int) (out : List Int) (n : Int) : Int → Option Int := fun x => if x ∈ out then some n else f x
theorem updAll_snoc (f : Int → Option Int) (out : List Int) (n x : Int) : upd (updAll f out n) x n = updAll f (out ++ [x]) n := by
  funext y
  unfold upd updAll
  by_cases h : y = x
  · subst h
    simp
  · simp [h]

set_option maxHeartbeats 1000000 in
theorem goes_calls (rs : List Row) (A : Option Addr) (cap qb qs qh mb cnt : Nat) (home k n : Int) (f : Int → Option Int) (w : World) (xs : List Int)
    (hb : w.cell? ⟨qb, 0, none⟩ = some (.slice A rs.length cap)) (hs : w.cell? ⟨qs, 0, none⟩ = some (.map (some mb))) (hh : w.cell? ⟨qh, 0, none⟩ = some (.int .i64 home))
    (hr : RdR w A rs) (hm : IMap w mb cnt f) (hk0 : 0 ≤ k) (hk : (rows rs)[k.toNat]? = some xs) (hxs : ∀ x ∈ xs, small x) (hn : small n) (hl : xs.length ≤ 100000) (hc : cnt ≤ 100000) :
    Calls Try.prog 39 #[.int .i64 k, .int .i64 n, .pointer (some ⟨qb, 0, none⟩), .pointer (some ⟨qs, 0, none⟩), .pointer (some ⟨qh, 0, none⟩)] w fun e w' =>
      ∃ B c out, e = .returned (.slice B (out : List Int).length c) ∧ RdV w' B (ints out) ∧ IMap w' mb (cnt + out.length) (updAll f out n) ∧ (∀ x, x ∈ out ↔ x ∈ xs ∧ home ≤ x ∧ f x = none) ∧ out.Nodup ∧ w.grownBy w' (some mb) := by
  obtain ⟨kk, rfl⟩ : ∃ kk : Nat, k = kk := ⟨k.toNat, by omega⟩
  rw [Int.toNat_natCast] at hk
  have hklt : kk < rs.length := by
    have := (List.getElem?_eq_some_iff.1 hk).1
    rwa [rows_length] at this
  have hki : (kk : Int) < rs.length := by omega
  obtain ⟨b, o, B0, c0, ys, rfl, he, hcell, hrd⟩ := hr.at hklt
  have hys : ys = xs := by
    rw [rows_get, he] at hk
    simpa using hk
  subst hys
  clear hk he hr
  go_enter Try.func39, Try.ntmps39
  go_wp2_with fail
  go_loopw [18, 8] (fun i v W => ∃ (j : Nat) (out : List Int), j ≤ ys.length ∧ i = .int .i64 j ∧ W.ownsRow w.heap.size 3 1 v out.length (ints out) ∧ IMap W mb (cnt + out.length) (updAll f out n) ∧
      (∀ x, x ∈ out ↔ x ∈ ys.take j ∧ home ≤ x ∧ f x = none) ∧ out.Nodup ∧ out.length ≤ j ∧ w.grownBy W (some mb)) (fun i _ _ => ys.length - (RowKit.intOf i).toNat)
  case atStart => exact ⟨0, [], by omega, rfl, World.ownsRow_nil _ _ _ _, by
    have : updAll f [] n = f := by funext x; simp [updAll]
    rw [this]
    exact hm, by simp, by simp, by simp, ⟨rfl, rfl, rfl, Nat.le_refl _, fun _ _ _ => rfl⟩⟩
  case round =>
    obtain ⟨j, out, hj, rfl, hown, hM, hout, hnd, hol, hgr⟩ := hrel
    obtain ⟨B, c, rfl, _, hBase⟩ := Owns.rd hown
    have c1 := hm.cell hgr hs
    have c2 := hm.cell hgr hh
    have hrd1 := hm.rdv hgr hrd
    have hO := Lib.hid hout
    clear hout
    have hMr : ∀ B' : Option Addr, B' = B → ∀ ad, B' = some ad → ad.block ≠ mb := fun B' e ad had e2 => by
      subst e
      rcases hM.notRow hown with h | h
      · rw [had] at h; cases h
      · rw [had] at h; exact h (by simp [Value.ownBlock, e2])
    by_cases hlt : j < ys.length
    · have hlti : (j : Int) < ys.length := by omega
      obtain ⟨b2, o2, rfl, hcc⟩ := hrd1.at (i := j) (by rw [ints_length]; exact hlt)
      obtain ⟨x, hx⟩ : ∃ x, ys[j]? = some x := ⟨_, List.getElem?_eq_getElem hlt⟩
      have c3 := hcc j (.int .i64 x) (by rw [ints_get, hx]; rfl)
      have hsx : small x := hxs x (List.mem_of_getElem? hx)
      have hlook := hM.lookOk hsx
      have HT : Hid (ys.take (j + 1) = ys.take j ++ [x]) := Lib.hid (by rw [List.take_add_one, hx]; rfl)
      obtain ⟨y, hy⟩ : ∃ y, updAll f out n x = y := ⟨_, rfl⟩
      rw [hy] at hlook
      obtain ⟨z, hz⟩ : ∃ z, y.getD 0 = z := ⟨_, rfl⟩
      rw [hz] at hlook
      have HY := Lib.hid hy
      clear hy hz
      have stay : ¬ (home ≤ x ∧ f x = none ∧ x ∉ out) → ∀ u, u ∈ out ↔ u ∈ ys.take (j + 1) ∧ home ≤ u ∧ f u = none := fun hno u => by
        rw [HT.out, List.mem_append, List.mem_singleton, hO.out u]
        constructor
        · exact fun h => ⟨.inl h.1, h.2⟩
        · rintro ⟨h1 | h1, h2⟩
          · exact ⟨h1, h2⟩
          · subst h1
            by_cases h3 : u ∈ out
            · exact (hO.out u).1 h3
            · exact absurd ⟨h2.1, h2.2, h3⟩ hno
      have ST := Lib.hid stay
      clear stay
      by_cases hge : home ≤ x
      · cases y with
        | none =>
          have hnew : x ∉ out ∧ f x = none := by
            have := HY.out
            unfold updAll at this
            split at this
            · cases this
            · exact ⟨by assumption, this⟩
          have HN := Lib.hid hnew
          clear hnew
          go_wp2_with (first
            | (at_mapUpdate; refine wpList_upd_int rfl _ _ _ rfl mb (cnt + out.length) (updAll f out n) rfl hM (by omega) x n rfl rfl hsx hn ?_; intro W1 m1 g1; have c3' := hM.cell g1 c3; have c1' := hM.cell g1 c1; have hown1 := hown.kept g1 (hM.notRow hown); clear hM hrd1 c1 c2 c3 hlook hcc)
            | (refine wpList_append_int rfl (.tmp 38) (.tmp 40) 40 3 rfl Try.underlying40 infoInt w.heap.size (.slice B out.length c) out rfl (hown1.alloc _) W1.heap.size 1 x rfl (by go_simp) (by omega) (Nat.le_trans hgr.size (Nat.le_trans g1.size (by rw [World.size_alloc]; omega))) ?_; intro v' W2 o2' g2 s2))
          go_roundw
          case rel =>
            refine ⟨j + 1, out ++ [x], by omega, by go_num, o2', ?_, fun u => ?_, ?_, by simp; omega, ?_⟩
            · rw [updAll_snoc] at m1
              rw [List.length_append, List.length_singleton, ← Nat.add_assoc]
              exact (m1.ext ((Ext.refl W1).alloc _)).kept g2 (by
                cases B with
                | none => simp [Value.ownBlock]
                | some ad =>
                  have := hMr (some ad) rfl
                  intro e
                  exact this ad rfl (by simpa [Value.ownBlock] using e.symm))
            · rw [HT.out, List.mem_append, List.mem_singleton, List.mem_append, List.mem_singleton, hO.out u]
              constructor
              · rintro (h | rfl)
                · exact ⟨.inl h.1, h.2⟩
                · exact ⟨.inr rfl, hge, HN.out.2⟩
              · rintro ⟨h1 | h1, h2⟩
                · exact .inl ⟨h1, h2⟩
                · exact .inr h1
            · rw [List.nodup_append]
              refine ⟨hnd, by simp, fun a ha b hb => ?_⟩
              rw [List.mem_singleton.1 hb]
              rintro rfl
              exact HN.out.1 ha
            · refine Grown.own (Grown.trans' (Grown.trans' hgr g1) (World.grownBy_alloc _ _ _)) g2 fun i hi => ?_
              cases B with
              | none => cases hi
              | some ad => cases hi; exact hBase ad rfl
          case measure => simp [RowKit.intOf]; omega
        | some y =>
          have HS := Lib.hid (ST.out (by
            rintro ⟨_, h1, h2⟩
            have := HY.out
            unfold updAll at this
            rw [if_neg h2, h1] at this
            cases this))
          go_wp2_with fail
          go_roundw
          case rel => exact ⟨j + 1, out, by omega, by go_num, hown, hM, HS.out, hnd, by omega, hgr⟩
          case measure => simp [RowKit.intOf]; omega
      · have HS := Lib.hid (ST.out (fun h => hge h.1))
        go_wp2_with fail
        go_roundw
        case rel => exact ⟨j + 1, out, by omega, by go_num, hown, hM, HS.out, hnd, by omega, hgr⟩
        case measure => simp [RowKit.intOf]; omega
    · obtain rfl : j = ys.length := by omega
      clear hrd1 c1 c2
      go_wp2_with fail
      go_ret
      obtain ⟨A', c', hv, hrd', _⟩ := Owns.rd hown
      cases hv
      exact ⟨_, _, out, rfl, hrd', hM, fun x => by rw [hO.out x, List.take_of_length_le (Nat.le_refl _)], hnd, hgr⟩
end Go.Proofs.Ythlobpdcolgcoaa
