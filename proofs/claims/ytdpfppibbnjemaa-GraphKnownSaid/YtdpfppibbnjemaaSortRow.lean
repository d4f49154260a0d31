/- slices.Sort and slices.Compact over rows of ints that a call owns; graph.sorted. -/
import Derived.Test.YtdpfppibbnjemaaTable
import Derived.Test.YtdpfppibbnjemaaDedup
import Derived.Test.YtdpfppibbnjemaaSortShelf
import Derived.Shelf.Sort.Plain
import Derived.Shelf.Slices.CompactI
import Derived.Shelf.Slices.In.SortNone
namespace Go.Proofs.Ytdpfppibbnjemaa
open Go.RowKit Go.Shelf Go.Sort
set_option linter.unusedVariables false
set_option linter.unusedSimpArgs false
theorem putCells_int (d : List Int) (cur : Array Value) (h : d.length ≤ cur.size) : (putCells (Value.int .i64) 0 d.toArray cur).toList.take d.length = ints d ∧ (putCells (Value.int .i64) 0 d.toArray cur).size = cur.size := by
  constructor
  · apply List.ext_getElem?
    intro t
    unfold putCells
    rw [List.getElem?_take, ints_get]
    by_cases ht : t < d.length
    · rw [if_pos ht, Array.getElem?_toList, Array.getElem?_mapIdx, Array.getElem?_eq_getElem (by omega), List.getElem?_eq_getElem ht]
      simp only [Option.map_some, Option.some.injEq]
      rw [if_pos ⟨Nat.zero_le _, by simpa using ht⟩, Nat.sub_zero, getElem!_pos d.toArray t (by simpa using ht)]
      rfl
    · rw [if_neg ht, List.getElem?_eq_none (by simpa using ht)]
      rfl
  · unfold putCells; simp
/-- The cells of an owned row that is not nil, as the sort wants them. -/
theorem Owns.holds {base g cap : Nat} {T : TypeId} {xs : List Int} {w : World} (h : w.ownsRow base T 1 (.slice (some ⟨g, 0, none⟩) xs.length cap) xs.length (ints xs)) :
    ∃ cur : Array Value, base ≤ g ∧ w.heap[g]? = some (.cells cur T (0, 0)) ∧ xs.length ≤ cap ∧ cap ≤ maxLen ∧ cur.size = cap ∧ Holds (Value.int .i64) w g 0 xs.toArray := by
  obtain ⟨hl, h2⟩ := h
  rcases h2 with ⟨h0, _⟩ | ⟨g', cap', cur, he, hb, hg, hn, hcap, hs, ht⟩
  · cases h0
  · cases he
    refine ⟨cur, hb, hg, hn, hcap, by simpa using hs, fun j hj => ?_⟩
    have hj' : j < xs.length := by simpa using hj
    rw [Nat.zero_add]
    refine ⟨?_, by simp [World.frozen?, hg]⟩
    have h3 : cur[j]? = some (Value.int .i64 xs[j]) := by
      rw [Nat.mul_one] at ht
      have := congrArg (fun l : List Value => l[j]?) ht
      simp only [List.getElem?_take, if_pos hj', ints_get, List.getElem?_eq_getElem hj', Option.map_some, Array.getElem?_toList] at this
      exact this
    rw [getElem!_pos xs.toArray j hj]
    simp [World.cell?, hg, h3]
/-- A row written into the same block. -/
theorem Owns.put {base g cap m n : Nat} {T : TypeId} {xs ys : List Int} {w : World} {os : Array Obj} (h : w.ownsRow base T 1 (.slice (some ⟨g, 0, none⟩) xs.length cap) xs.length (ints xs)) (hy : ys.length = xs.length) (hm : m ≤ ys.length) :
    (grow (putRow (Value.int .i64) (Sort.ahead w n) g 0 ys.toArray) os).ownsRow base T 1 (.slice (some ⟨g, 0, none⟩) m cap) m (ints (ys.take m)) ∧ w.grownBy (grow (putRow (Value.int .i64) (Sort.ahead w n) g 0 ys.toArray) os) (some g) := by
  obtain ⟨cur, hb, hg, hn, hcap, hs, _⟩ := Owns.holds h
  have hlt : g < w.heap.size := (Array.getElem?_eq_some_iff.1 hg).1
  have hw : (grow (putRow (Value.int .i64) (Sort.ahead w n) g 0 ys.toArray) os).heap[g]? = some (.cells (putCells (Value.int .i64) 0 ys.toArray cur) T (0, 0)) := by
    show (w.heap.modify g (onCells (putCells (Value.int .i64) 0 ys.toArray)) ++ os)[g]? = _
    rw [Array.getElem?_append_left (by simpa using hlt), Array.getElem?_modify, if_pos rfl, hg]
    rfl
  obtain ⟨k1, k2⟩ := putCells_int ys cur (by omega)
  refine ⟨⟨by rw [ints_length, List.length_take]; omega, .inr ⟨g, cap, _, rfl, hb, hw, by omega, hcap, by rw [k2, hs, Nat.mul_one], ?_⟩⟩, rfl, rfl, rfl, ?_, fun k hk hne => ?_⟩
  · rw [Nat.mul_one, show m = min m ys.length by omega, ← List.take_take, k1]
    unfold ints
    rw [List.map_take, Nat.min_eq_left hm]
  · show w.heap.size ≤ (w.heap.modify g _ ++ os).size
    simp
  · show (w.heap.modify g _ ++ os)[k]? = _
    have hgk : g ≠ k := fun e => hne (by rw [← e])
    rw [Array.getElem?_append_left (by simpa using hk), Array.getElem?_modify, if_neg hgk]
theorem Owns.nilOr {base : Nat} {T : TypeId} {v : Value} {xs : List Int} {w : World} (h : w.ownsRow base T 1 v xs.length (ints xs)) : (v = .slice none 0 0 ∧ xs = []) ∨ ∃ g cap, v = .slice (some ⟨g, 0, none⟩) xs.length cap := by
  obtain ⟨_, h2⟩ := h
  rcases h2 with ⟨rfl, h0⟩ | ⟨g, cap, cur, rfl, _⟩
  · exact .inl ⟨rfl, List.eq_nil_of_length_eq_zero h0⟩
  · exact .inr ⟨g, cap, rfl⟩
theorem sortR_calls {base : Nat} {T : TypeId} {v : Value} {xs : List Int} {w : World} (h : w.ownsRow base T 1 v xs.length (ints xs)) (hmax : xs.length ≤ 1000000) :
    Calls Try.prog 62 #[v] w fun e w' => e = .returned (.tuple #[]) ∧ w'.ownsRow base T 1 v (sortZ xs).length (ints (sortZ xs)) ∧ w.grownBy w' v.ownBlock := by
  rcases Owns.nilOr h with ⟨rfl, rfl⟩ | ⟨g, cap, rfl⟩
  · refine (Any.slices_Sort_int_none Try.lays189 none 0 w).mono ?_
    rintro e w' ⟨rfl, rfl⟩
    have hs : sortZ [] = [] := by simp [sortZ]
    rw [hs]
    exact ⟨rfl, World.ownsRow_nil _ _ _ _, rfl, rfl, rfl, Nat.le_refl _, fun _ _ _ => rfl⟩
  · obtain ⟨cur, hb, hg, hn, hcap, hs, hH⟩ := Owns.holds h
    have hlt : g < w.heap.size := (Array.getElem?_eq_some_iff.1 hg).1
    refine (Any.slices_Sort_int Try.lays189 g 0 cap xs w hH hlt (by omega)).mono ?_
    rintro e w' ⟨rfl, n, os, rfl⟩
    obtain ⟨k1, k2⟩ := Owns.put (m := xs.length) (n := n) (os := os) (ys := sortZ xs) h (sortZ_length xs) (by rw [sortZ_length]; exact Nat.le_refl _)
    rw [List.take_of_length_le (by rw [sortZ_length]; exact Nat.le_refl _)] at k1
    rw [sortZ_length]
    exact ⟨rfl, k1, k2⟩
theorem compactR_calls {base : Nat} {T : TypeId} {v : Value} {xs : List Int} {w : World} (h : w.ownsRow base T 1 v xs.length (ints xs)) (hmax : xs.length ≤ 1000000) :
    Calls Try.prog 63 #[v] w fun e w' => ∃ v', e = .returned v' ∧ w'.ownsRow base T 1 v' (Lib.compact xs).length (ints (Lib.compact xs)) ∧ w.grownBy w' v.ownBlock ∧ v'.ownBlock = v.ownBlock := by
  have hle : (Lib.compact xs).length ≤ xs.length := by
    unfold Lib.compact Lib.compactUpTo
    rw [List.length_map]
    refine Nat.le_trans (List.length_filter_le _ _) ?_
    rw [List.length_range]
    exact Nat.le_refl _
  rcases Owns.nilOr h with ⟨rfl, rfl⟩ | ⟨g, cap, rfl⟩
  · refine (Any.slices_Compact_int_empty Try.lays2_20 none 0 w).mono ?_
    rintro e w' ⟨rfl, rfl⟩
    exact ⟨_, rfl, World.ownsRow_nil _ _ _ _, ⟨rfl, rfl, rfl, Nat.le_refl _, fun _ _ _ => rfl⟩, rfl⟩
  · obtain ⟨cur, hb, hg, hn, hcap, hs, hH⟩ := Owns.holds h
    refine (Any.slices_Compact_int Try.lays2_20 g 0 cap xs w hH (by omega) hn).mono ?_
    rintro e w' ⟨rfl, n, rfl⟩
    obtain ⟨k1, k2⟩ := Owns.put (m := (Lib.compact xs).length) (n := n) (os := #[]) (ys := Lib.compact xs ++ List.replicate (xs.length - (Lib.compact xs).length) 0) h (by simp; omega) (by simp)
    have hg0 : ∀ W : World, grow W #[] = W := fun W => by simp [grow]
    rw [hg0, List.take_left] at k1
    rw [hg0] at k2
    exact ⟨_, rfl, k1, k2, rfl⟩
/-- A row has turned in its own block. -/
theorem ORows.put {W W1 : World} {base g : Nat} {T e : TypeId} {rs : List (Value × List Int)} (h : ORows W base g T e rs) {i : Nat} {v : Value} {xs xs' : List Int} (hi : rs[i]? = some (v, xs))
    (hown : W1.ownsRow base e 1 v xs'.length (ints xs')) (hg : W.grownBy W1 v.ownBlock) : ORows W1 base g T e (rs.set i (v, xs')) := by
  have hne : some g ≠ v.ownBlock := by
    intro e
    have := ((h.own i v xs hi).lt g e.symm).1
    have := h.lt
    omega
  have hlt := (List.getElem?_eq_some_iff.1 hi).1
  have key : ∀ (j : Nat) (u : Value) (ys : List Int), (rs.set i (v, xs'))[j]? = some (u, ys) → ∃ zs, rs[j]? = some (u, zs) := fun j u ys hj => by
    by_cases hij : i = j
    · subst hij
      rw [List.getElem?_set_self hlt] at hj
      cases hj
      exact ⟨_, hi⟩
    · rw [List.getElem?_set_ne hij] at hj
      exact ⟨_, hj⟩
  refine ⟨?_, h.lt, Nat.le_trans h.low hg.size, ?_, ?_⟩
  · have := Grown.blk hg h.blk hne
    rw [List.map_set, show (rs.map Prod.fst).set i (v, xs').1 = rs.map Prod.fst from ?_]
    · exact this
    · refine List.ext_getElem? fun j => ?_
      by_cases hij : i = j
      · subst hij
        rw [List.getElem?_set_self (by simpa using hlt), List.getElem?_map, hi]
        rfl
      · rw [List.getElem?_set_ne hij]
  · intro j u ys hj
    by_cases hij : i = j
    · subst hij
      rw [List.getElem?_set_self hlt] at hj
      cases hj
      exact hown
    · rw [List.getElem?_set_ne hij] at hj
      refine (h.own j u ys hj).kept hg ?_
      cases hu : u.ownBlock with
      | none => exact .inl rfl
      | some k => exact .inr (fun e => h.apart i j v xs u ys k hij hi hj e.symm hu)
  · intro j1 j2 u1 y1 u2 y2 k hne12 hj1 hj2 hu1 hu2
    obtain ⟨z1, h1⟩ := key _ _ _ hj1
    obtain ⟨z2, h2⟩ := key _ _ _ hj2
    exact h.apart j1 j2 u1 z1 u2 z2 k hne12 h1 h2 hu1 hu2
theorem ORows.kept {W W' : World} {base g m : Nat} {T e : TypeId} {rs : List (Value × List Int)} (h : ORows W base g T e rs) (hg : W.grownBy W' (some m)) (hm : m < base) (hne : m ≠ g) : ORows W' base g T e rs :=
  ⟨Grown.blk hg h.blk (fun e => hne (Option.some.inj e).symm), h.lt, Nat.le_trans h.low hg.size, fun i v xs hi => (h.own i v xs hi).kept hg (by
    cases hv : v.ownBlock with
    | none => exact .inl rfl
    | some k =>
      refine .inr (fun e => ?_)
      cases e
      have := ((h.own i v xs hi).lt _ hv).1
      omega), h.apart⟩
theorem ORows.at {W : World} {base g : Nat} {T e : TypeId} {rs : List (Value × List Int)} (h : ORows W base g T e rs) {i : Nat} {v : Value} {xs : List Int} (hi : rs[i]? = some (v, xs)) : W.cell? ⟨g, i, none⟩ = some v ∧ W.frozen? ⟨g, i, none⟩ = false :=
  ⟨h.blk.cell i (by rw [List.getElem?_map, hi]; rfl), h.blk.frozen i⟩
/-- graph.sorted, in place. -/
def scTo (i : Nat) (rs : List (Value × List Int)) (xss : List (List Int)) : Prop := rs.length = xss.length ∧ ∀ (j : Nat) (v : Value) (xs : List Int), rs[j]? = some (v, xs) → ∃ ys, xss[j]? = some ys ∧ xs = if j < i then sc ys else ys
set_option maxRecDepth 100000 in
theorem sorted_calls {base g c : Nat} (rs : List (Value × List Int)) (w : World) (h : ORows w base g 37 3 rs) (hlen : rs.length ≤ 1000000) (hrow : ∀ (j : Nat) (v : Value) (xs : List Int), rs[j]? = some (v, xs) → xs.length ≤ 1000000)
    (w0 : World) (hx0 : Ext w0 w) (hw0 : w0.heap.size ≤ g) :
    Calls Try.prog 45 #[.slice (some ⟨g, 0, none⟩) rs.length c] w fun e w' => e = .returned (.slice (some ⟨g, 0, none⟩) rs.length c) ∧ Ext w0 w' ∧ ∃ rs', ORows w' base g 37 3 rs' ∧ rs'.map Prod.snd = (rs.map Prod.snd).map sc := by
  have HROW := Lib.hid hrow
  clear hrow
  go_enter Try.func45, Try.ntmps45
  go_wp2_with fail
  go_loopw [6] (fun iv W => ∃ (i : Nat) (qs : List (Value × List Int)), iv = .int .i64 i ∧ i ≤ rs.length ∧ ORows W base g 37 3 qs ∧ scTo i qs (rs.map Prod.snd) ∧ Ext w0 W) (fun iv _ => rs.length - (RowKit.intOf iv).toNat)
  case atStart => exact ⟨0, rs, rfl, by omega, h, ⟨by simp, fun j v xs hj => ⟨xs, by rw [List.getElem?_map, hj]; rfl, by simp⟩⟩, hx0⟩
  case round =>
    clear h hx0
    obtain ⟨i, qs, rfl, hi, h, hsc, hx⟩ := hrel
    have hql : qs.length = rs.length := by rw [hsc.1, List.length_map]
    by_cases hlt : i < rs.length
    · have hlti : (i : Int) < rs.length := by omega
      obtain ⟨v, xs, hv⟩ : ∃ v xs, qs[i]? = some (v, xs) := ⟨_, _, List.getElem?_eq_getElem (by omega)⟩
      obtain ⟨ys, hy, hxs⟩ := hsc.2 i v xs hv
      rw [if_neg (by omega)] at hxs
      subst hxs
      have hxl : xs.length ≤ 1000000 := by
        rw [List.getElem?_map] at hy
        cases hr : rs[i]? with
        | none => rw [hr] at hy; cases hy
        | some p => rw [hr] at hy; cases hy; exact HROW.out i p.1 p.2 hr
      have hcl := (h.at hv).1
      have HS := Lib.hid (sortR_calls (h.own i v xs hv) hxl)
      have HSC := Lib.hid hsc
      have HQL := Lib.hid hql
      have hv0 := Lib.hid hv
      have hbs : ∀ k, v.ownBlock = some k → base ≤ k := fun k hk => ((h.own i v xs hv).lt k hk).1
      have hgb := h.lt
      clear hsc hql hv
      go_upto_region 5 with (go_at_call 62; refine HS.out.mono ?_; rintro e W1 ⟨rfl, hown1, hg1⟩)
      have h1 := h.put hv0.out hown1 hg1
      have hx1 : Ext w0 W1 := Grown.toExt hx hg1 (fun k hk => by have := hbs k hk; omega)
      have hv1 : (qs.set i (v, sortZ xs))[i]? = some (v, sortZ xs) := List.getElem?_set_self (List.getElem?_eq_some_iff.1 hv0.out).1
      obtain ⟨hc1, hf1⟩ := h1.at hv1
      have HC := Lib.hid (compactR_calls hown1 (by rw [sortZ_length]; exact hxl))
      have HV1 := Lib.hid hv1
      clear h hcl HS hx hg1 hown1 hv1
      go_wp2_with (go_at_call 63; refine HC.out.mono ?_; rintro e W2 ⟨v', rfl, hown2, hg2, hb2⟩; obtain ⟨A2, c2, rfl, _, _⟩ := Owns.rd hown2; have hx2 : Ext w0 W2 := Grown.toExt hx1 hg2 (fun k hk => by have := hbs k hk; omega); have hne : some g ≠ v.ownBlock := (fun e => by have := hbs g e.symm; omega); have hk2 := Grown.blk hg2 h1.blk hne; have hc2 := hk2.cell i (by rw [List.getElem?_map, HV1.out]; rfl); have hf2 := hk2.frozen i)
      have h2 := h1.step HV1.out (xs' := sc xs) hown2 hg2 (fun k hk => .inl (hb2 ▸ hk))
      go_roundw
      case rel =>
        refine ⟨i + 1, _, by go_num, by omega, h2, ⟨by simp; exact HSC.out.1.trans (by simp), fun j u zs hj => ?_⟩, hx2.setCell (by simp; omega) _⟩
        have hil := (List.getElem?_eq_some_iff.1 hv0.out).1
        by_cases hij : i = j
        · subst hij
          rw [List.getElem?_set_self (by simpa using hil)] at hj
          cases hj
          exact ⟨xs, hy, by rw [if_pos (by omega)]⟩
        · rw [List.getElem?_set_ne hij, List.getElem?_set_ne hij] at hj
          obtain ⟨ys, k1, k2⟩ := HSC.out.2 j u zs hj
          refine ⟨ys, k1, ?_⟩
          rw [k2]
          rcases Nat.lt_trichotomy j i with h5 | h5 | h5
          · rw [if_pos h5, if_pos (by omega)]
          · omega
          · rw [if_neg (by omega), if_neg (by omega)]
      case measure => simp [RowKit.intOf]; omega
    · obtain rfl : i = rs.length := by omega
      have HSC := Lib.hid hsc
      clear hsc hql
      go_wp2_with fail
      go_ret
      refine ⟨rfl, hx, qs, h, ?_⟩
      obtain ⟨k1, k2⟩ := HSC.out
      refine List.ext_getElem? fun j => ?_
      rw [List.getElem?_map]
      cases hq : qs[j]? with
      | none =>
        rw [List.getElem?_eq_none_iff] at hq
        rw [Option.map_none, eq_comm, List.getElem?_eq_none_iff]
        simp at k1 ⊢
        omega
      | some p =>
        obtain ⟨u, zs⟩ := p
        obtain ⟨ys, m1, m2⟩ := k2 j u zs hq
        have : j < rs.length := by
          have := (List.getElem?_eq_some_iff.1 hq).1
          rw [k1] at this
          simpa using this
        rw [List.getElem?_map, m1, m2, if_pos this]
        rfl
end Go.Proofs.Ytdpfppibbnjemaa
