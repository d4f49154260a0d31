/- Chapter 19, plain: the graph's rows are the document's. -/
import Derived.Test.YtdpfppibbnjemaaTab
import Derived.Test.YtdpfppibbnjemaaOfT
import Derived.Test.YtdpfppibbnjemaaNRefA
import Derived.Test.YtdpfppibbnjemaaAheadG
namespace Go.Proofs.Ytdpfppibbnjemaa
open Go.RowKit
set_option linter.unusedVariables false
set_option linter.unusedSimpArgs false
def nmOf (l : List NR) (k : Nat) (u : LU) : List ByteArray := match l.find? (fun x => decide (x.name = u.name)) with | some x => x.nm k | none => []
theorem nmOf_eq {l : List NR} (hn : (l.map NR.name).Nodup) (k : Nat) {x : NR} (hx : x ∈ l) : nmOf l k (luOf x) = x.nm k := by
  unfold nmOf
  have : l.find? (fun y => decide (y.name = (luOf x).name)) = some x := by
    induction l with
    | nil => cases hx
    | cons y l ih =>
      rw [List.map_cons, List.nodup_cons] at hn
      rw [List.find?_cons]
      rcases List.mem_cons.1 hx with rfl | hx
      · rw [decide_eq_true (show x.name = (luOf x).name from rfl)]
      · have : ¬ y.name = (luOf x).name := fun e => hn.1 (by rw [e]; exact List.mem_map_of_mem hx)
        rw [decide_eq_false this]
        exact ih hn.2 hx
  rw [this]
def gRows (l : List NR) (kind : Nat) : List (List Int) := (List.range l.length).map fun a => below l.length (rowP l a kind)
theorem gRows_length (l : List NR) (kind : Nat) : (gRows l kind).length = l.length := by simp [gRows]
theorem gRows_get (l : List NR) (kind : Nat) {a : Nat} (ha : a < l.length) : (gRows l kind)[a]? = some (below l.length (rowP l a kind)) := by
  unfold gRows
  rw [List.getElem?_map, List.getElem?_range ha]
  rfl
theorem gRows_getD (l : List NR) (kind : Nat) {a : Nat} (ha : a < l.length) : (gRows l kind).getD a [] = below l.length (rowP l a kind) := by
  rw [List.getD_eq_getElem?_getD, gRows_get l kind ha]
  rfl
theorem contains_below {n : Nat} {p : Nat → Bool} {b : Nat} (hb : b < n) : (below n p).contains (b : Int) = p b := by
  rw [Bool.eq_iff_iff, List.contains_iff_mem, mem_below]
  constructor
  · rintro ⟨k, _, h, e⟩
    have : b = k := by omega
    rw [this]
    exact h
  · exact fun h => ⟨b, hb, h, rfl⟩
theorem names_map (l : List NR) : (l.map luOf).map LU.name = l.map NR.name := by rw [List.map_map]; rfl
theorem rowsG_eq {l : List NR} (hn : (l.map NR.name).Nodup) (k : Nat) (hk : k < 6) : rowsG (l.map luOf) (nmOf l k) = gRows l k := by
  have hnu : ((l.map luOf).map LU.name).Nodup := by rw [names_map]; exact hn
  refine List.ext_getElem? fun i => ?_
  unfold rowsG
  rw [List.getElem?_mapIdx, List.getElem?_map]
  rcases Nat.lt_or_ge i l.length with hi | hi
  · rw [gRows_get l k hi, List.getElem?_eq_getElem hi]
    simp only [Option.map_some, Option.some.injEq]
    rw [nmOf_eq hn k (List.getElem_mem hi)]
    refine sc_eq (below_up _ _) fun x => ?_
    unfold hits
    rw [List.mem_filter, mem_below]
    have hrp : ∀ b, rowP l i k b = nmB l i b k := fun b => by
      unfold rowP
      rw [if_neg (by omega), if_neg (by omega), if_neg (by omega), if_neg (by omega)]
    have hna : namesAt l i k = (l[i]).nm k := by unfold namesAt; rw [List.getElem?_eq_getElem hi]
    constructor
    · rintro ⟨h1, h2⟩
      obtain ⟨s, hs, rfl⟩ := List.mem_map.1 h1
      simp only [Bool.and_eq_true, decide_eq_true_eq, Bool.not_eq_true', decide_eq_false_iff_not] at h2
      rcases idxU_lt (s := s) hnu with h3 | ⟨b, u, h3, h4, h5⟩
      · omega
      · rw [List.getElem?_map] at h3
        obtain ⟨x, hx, rfl⟩ := Option.map_eq_some_iff.1 h3
        have hb := (List.getElem?_eq_some_iff.1 hx).1
        refine ⟨b, hb, ?_, h5⟩
        rw [hrp]
        unfold nmB
        rw [decide_eq_false (fun e => h2.2 (by rw [h5, e])), hna]
        simp only [Bool.not_false, Bool.true_and]
        refine List.any_eq_true.2 ⟨s, hs, decide_eq_true ?_⟩
        unfold nameAt
        rw [hx]
        exact h4.symm
    · rintro ⟨b, hb, h1, rfl⟩
      rw [hrp] at h1
      unfold nmB at h1
      rw [hna] at h1
      simp only [Bool.and_eq_true, Bool.not_eq_true', decide_eq_false_iff_not, List.any_eq_true, decide_eq_true_eq] at h1
      obtain ⟨h1, s, hs, h2⟩ := h1
      have hx : l[b]? = some l[b] := List.getElem?_eq_getElem hb
      have h5 : idxU (l.map luOf) s = b := idxU_at (u := luOf l[b]) hnu (by rw [List.getElem?_map, hx]; rfl) (by rw [h2]; unfold nameAt; rw [hx]; rfl)
      refine ⟨List.mem_map.2 ⟨s, hs, h5⟩, ?_⟩
      simp only [Bool.and_eq_true, decide_eq_true_eq, Bool.not_eq_true', decide_eq_false_iff_not]
      omega
  · rw [List.getElem?_eq_none hi, List.getElem?_eq_none (by rw [gRows_length]; exact hi)]
    rfl
/-- Conflicts as they are named, one way. -/
def cRows (l : List NR) : List (List Int) := (List.range l.length).map fun a => below l.length fun b => nmB l a b 6
theorem rowsG_six {l : List NR} (hn : (l.map NR.name).Nodup) : rowsG (l.map luOf) (nmOf l 6) = cRows l := by
  have hnu : ((l.map luOf).map LU.name).Nodup := by rw [names_map]; exact hn
  refine List.ext_getElem? fun i => ?_
  unfold rowsG cRows
  rw [List.getElem?_mapIdx, List.getElem?_map, List.getElem?_map]
  rcases Nat.lt_or_ge i l.length with hi | hi
  · rw [List.getElem?_eq_getElem hi, List.getElem?_range hi]
    simp only [Option.map_some, Option.some.injEq]
    rw [nmOf_eq hn 6 (List.getElem_mem hi)]
    refine sc_eq (below_up _ _) fun x => ?_
    unfold hits
    rw [List.mem_filter, mem_below]
    have hna : namesAt l i 6 = (l[i]).nm 6 := by unfold namesAt; rw [List.getElem?_eq_getElem hi]
    constructor
    · rintro ⟨h1, h2⟩
      obtain ⟨s, hs, rfl⟩ := List.mem_map.1 h1
      simp only [Bool.and_eq_true, decide_eq_true_eq, Bool.not_eq_true', decide_eq_false_iff_not] at h2
      rcases idxU_lt (s := s) hnu with h3 | ⟨b, u, h3, h4, h5⟩
      · omega
      · rw [List.getElem?_map] at h3
        obtain ⟨x, hx, rfl⟩ := Option.map_eq_some_iff.1 h3
        have hb := (List.getElem?_eq_some_iff.1 hx).1
        refine ⟨b, hb, ?_, h5⟩
        unfold nmB
        rw [decide_eq_false (fun e => h2.2 (by rw [h5, e])), hna]
        simp only [Bool.not_false, Bool.true_and]
        refine List.any_eq_true.2 ⟨s, hs, decide_eq_true ?_⟩
        unfold nameAt
        rw [hx]
        exact h4.symm
    · rintro ⟨b, hb, h1, rfl⟩
      unfold nmB at h1
      rw [hna] at h1
      simp only [Bool.and_eq_true, Bool.not_eq_true', decide_eq_false_iff_not, List.any_eq_true, decide_eq_true_eq] at h1
      obtain ⟨h1, s, hs, h2⟩ := h1
      have hx : l[b]? = some l[b] := List.getElem?_eq_getElem hb
      have h5 : idxU (l.map luOf) s = b := idxU_at (u := luOf l[b]) hnu (by rw [List.getElem?_map, hx]; rfl) (by rw [h2]; unfold nameAt; rw [hx]; rfl)
      refine ⟨List.mem_map.2 ⟨s, hs, h5⟩, ?_⟩
      simp only [Bool.and_eq_true, decide_eq_true_eq, Bool.not_eq_true', decide_eq_false_iff_not]
      omega
  · rw [List.getElem?_eq_none hi, List.getElem?_eq_none (by simpa using hi)]
    rfl
theorem below_congr {n : Nat} {p q : Nat → Bool} (h : ∀ k, k < n → p k = q k) : below n p = below n q := by
  unfold below
  rw [List.filter_congr fun k hk => h k (List.mem_range.1 hk)]
theorem turned_eq (l : List NR) (k kind : Nat) (hk : k < 6) (h : ∀ a b, rowP l a kind b = nmB l b a k) : turnedL (gRows l k) [] = gRows l kind := by
  unfold turnedL
  rw [gRows_length]
  conv => rhs; unfold gRows
  refine List.map_congr_left fun a ha => ?_
  have ha := List.mem_range.1 ha
  refine below_congr fun b hb => ?_
  unfold turnedQ
  rw [h, decide_eq_true (show (0 : Int) ≤ b by omega), Int.toNat_natCast, gRows_getD l k hb, contains_below ha]
  simp only [Bool.true_and, List.any_nil, Bool.and_false, Bool.or_false]
  unfold rowP
  rw [if_neg (by omega), if_neg (by omega), if_neg (by omega), if_neg (by omega)]
theorem turned_six (l : List NR) : turnedL (cRows l) [cRows l] = gRows l 6 := by
  have hl : (cRows l).length = l.length := by simp [cRows]
  have hg : ∀ {a : Nat}, a < l.length → (cRows l).getD a [] = below l.length fun b => nmB l a b 6 := fun {a} ha => by
    unfold cRows
    rw [List.getD_eq_getElem?_getD, List.getElem?_map, List.getElem?_range ha]
    rfl
  unfold turnedL
  rw [hl]
  conv => rhs; unfold gRows
  refine List.map_congr_left fun a ha => ?_
  have ha := List.mem_range.1 ha
  refine below_congr fun b hb => ?_
  unfold turnedQ
  rw [decide_eq_true (show (0 : Int) ≤ b by omega), decide_eq_true (show (0 : Int) ≤ a by omega), Int.toNat_natCast, Int.toNat_natCast, hg hb, contains_below ha]
  simp only [List.any_cons, List.any_nil, Bool.or_false, Bool.true_and]
  rw [hg ha, contains_below hb, Bool.or_comm]
  rfl
theorem graphL_eq {l : List NR} (hn : (l.map NR.name).Nodup) : graphL (l.map luOf) (nmOf l) = [gRows l 0, gRows l 1, gRows l 2, gRows l 3, gRows l 4, gRows l 5, gRows l 6, gRows l 7, gRows l 8, gRows l 9] := by
  unfold graphL
  rw [rowsG_eq hn 0 (by omega), rowsG_eq hn 1 (by omega), rowsG_eq hn 2 (by omega), rowsG_eq hn 3 (by omega), rowsG_eq hn 4 (by omega), rowsG_eq hn 5 (by omega), rowsG_six hn, turned_six,
    turned_eq l 0 7 (by omega) (fun a b => rfl), turned_eq l 2 8 (by omega) (fun a b => rfl), turned_eq l 3 9 (by omega) (fun a b => rfl)]
theorem upB_eq (l : List NR) (a b : Int) : upB (gRows l 4) (gRows l 5) a b = aheadN l a b := by
  have key : ∀ (k : Nat), k < 6 → ∀ u n : Int, hasB (gRows l k) u n = (decide (0 ≤ u ∧ 0 ≤ n ∧ u < l.length ∧ n < l.length) && nmB l u.toNat n.toNat k) := fun k hk u n => by
    unfold hasB
    by_cases hu : 0 ≤ u
    · obtain ⟨u, rfl⟩ : ∃ m : Nat, u = m := ⟨u.toNat, by omega⟩
      rw [Int.toNat_natCast, decide_eq_true hu, Bool.true_and]
      rcases Nat.lt_or_ge u l.length with h1 | h1
      · rw [gRows_get l k h1, Option.getD_some]
        by_cases hn : 0 ≤ n ∧ n < l.length
        · obtain ⟨n, rfl⟩ : ∃ m : Nat, n = m := ⟨n.toNat, by omega⟩
          rw [contains_below (by omega), decide_eq_true (by omega), Bool.true_and, Int.toNat_natCast]
          unfold rowP
          rw [if_neg (by omega), if_neg (by omega), if_neg (by omega), if_neg (by omega)]
        · rw [decide_eq_false (by omega), Bool.false_and, ← Bool.not_eq_true, List.contains_iff_mem, mem_below]
          rintro ⟨m, h2, _, rfl⟩
          omega
      · rw [decide_eq_false (by omega), List.getElem?_eq_none (by rw [gRows_length]; exact h1)]
        rfl
    · rw [decide_eq_false hu, decide_eq_false (by omega)]
      rfl
  unfold upB aheadN
  rw [key 4 (by omega), key 5 (by omega)]
  by_cases h : 0 ≤ a ∧ 0 ≤ b ∧ a < l.length ∧ b < l.length
  · rw [decide_eq_true h, decide_eq_true (by omega)]
    rfl
  · rw [decide_eq_false h, decide_eq_false (by omega)]
    rfl
end Go.Proofs.Ytdpfppibbnjemaa
