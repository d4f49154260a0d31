/- Chapter 19: units by name, as the laws have them: in memory; short. -/
import Derived.Test.YtdpfppibbnjemaaRng
import Derived.Test.YtdpfppibbnjemaaUnits
namespace Go.Proofs.Ytdpfppibbnjemaa
open Go.RowKit Go.Shelf
set_option linter.unusedVariables false
set_option linter.unusedSimpArgs false
/-- Names of a kind. -/
structure SK where
  A : Option Addr
  cap : Nat
  ss : List ByteArray
def SK.val (k : SK) : Value := .slice k.A k.ss.length k.cap
structure NR where
  name : ByteArray
  ks : List SK
def NR.cells (x : NR) : List Value := .string x.name :: x.ks.map SK.val
def NR.ok (W : World) (x : NR) : Prop := x.ks.length = 7 ∧ ∀ s ∈ x.ks, RdV W s.A (s.ss.map .string)
def NR.nm (x : NR) (k : Nat) : List ByteArray := match x.ks[k]? with | some s => s.ss | none => []
theorem NR.ok.ext {W W' : World} {x : NR} (h : x.ok W) (hx : Ext W W') : x.ok W' := ⟨h.1, fun s hs => (h.2 s hs).ext hx⟩
def RdN (W : World) (A : Option Addr) (l : List NR) : Prop := (l = [] ∨ ∃ b o, A = some ⟨b, o, none⟩ ∧ ∀ (j : Nat) (x : NR), l[j]? = some x → Rng W b (o + j * 8) x.cells) ∧ ∀ x ∈ l, x.ok W
theorem RdN.ext {W W' : World} {A : Option Addr} {l : List NR} (h : RdN W A l) (hx : Ext W W') : RdN W' A l := by
  refine ⟨?_, fun x hm => (h.2 x hm).ext hx⟩
  rcases h.1 with h0 | ⟨b, o, rfl, h0⟩
  · exact .inl h0
  · exact .inr ⟨b, o, rfl, fun j x hj => (h0 j x hj).ext hx⟩
theorem RdN.at {W : World} {A : Option Addr} {l : List NR} (h : RdN W A l) {i : Nat} (hi : i < l.length) :
    ∃ b o nm ks, A = some ⟨b, o, none⟩ ∧ l[i]? = some ⟨nm, ks⟩ ∧ W.cell? ⟨b, o + i * 8, none⟩ = some (.string nm) ∧ (∀ (k : Nat) (s : SK), ks[k]? = some s → W.cell? ⟨b, o + i * 8 + 1 + k, none⟩ = some s.val) ∧ Rng W b (o + i * 8) (NR.cells ⟨nm, ks⟩) ∧ NR.ok W ⟨nm, ks⟩ := by
  rcases h.1 with h0 | ⟨b, o, hA, hc⟩
  · rw [h0] at hi; cases hi
  · have he : l[i]? = some l[i] := List.getElem?_eq_getElem hi
    generalize l[i] = x at he
    obtain ⟨nm, ks⟩ := x
    have hr := hc i _ he
    exact ⟨b, o, nm, ks, hA, he, hr 0 _ rfl, fun k s hk => by
      rw [Nat.add_assoc (o + i * 8) 1 k, Nat.add_comm 1 k]
      exact hr (k + 1) s.val (by simp [NR.cells, hk]), hr, h.2 _ (List.mem_of_getElem? he)⟩
def smallB (x : NR) : Bool := x.ks.all fun s => decide (s.ss.length ≤ 20)
def shortB (l : List NR) : Bool := decide (l.length ≤ 40) && (decide (l.map NR.name).Nodup && l.all smallB)
theorem str_ne {a b : ByteArray} (h : ¬ a = b) : (a.toList == b.toList) = false := by
  rw [beq_eq_false_iff_ne]
  exact toList_ne h
theorem shortB_twice {l : List NR} {i k : Nat} {s : ByteArray} {a b : List SK} (hi : l[i]? = some ⟨s, a⟩) (hk : l[k]? = some ⟨s, b⟩) (h : k < i) : shortB l = false := by
  unfold shortB
  have : ¬ (l.map NR.name).Nodup := fun hn => by
    have h1 := (List.getElem?_eq_some_iff.1 hi).1
    have := List.pairwise_iff_getElem.1 hn k i (by simp; omega) (by simpa using h1) h
    apply this
    simp only [List.getElem_map]
    rw [(List.getElem?_eq_some_iff.1 hi).2, (List.getElem?_eq_some_iff.1 hk).2]
  simp [this]
theorem shortB_big {l : List NR} {i k : Nat} {s : ByteArray} {a : List SK} {q : SK} (hi : l[i]? = some ⟨s, a⟩) (hk : a[k]? = some q) (h : ¬ q.ss.length ≤ 20) : shortB l = false := by
  unfold shortB
  have : l.all smallB = false := by
    rw [List.all_eq_false]
    refine ⟨_, List.mem_of_getElem? hi, ?_⟩
    unfold smallB
    rw [Bool.not_eq_true, List.all_eq_false]
    exact ⟨q, List.mem_of_getElem? hk, by simpa using h⟩
  simp [this]
/-- The first i are unlike and small. -/
def ShTo (l : List NR) (i : Nat) : Prop := (∀ a b : Nat, a < b → b < i → (l[a]?).map NR.name ≠ (l[b]?).map NR.name ∨ l.length ≤ b) ∧ ∀ a x, a < i → l[a]? = some x → smallB x = true
theorem ShTo.all {l : List NR} (h : ShTo l l.length) (h40 : l.length ≤ 40) : shortB l = true := by
  unfold shortB
  rw [decide_eq_true h40, Bool.true_and, Bool.and_eq_true]
  refine ⟨decide_eq_true (List.pairwise_iff_getElem.2 fun a b ha hb hab e => ?_), List.all_eq_true.2 fun x hx => ?_⟩
  · simp only [List.length_map] at ha hb
    rcases h.1 a b hab hb with h1 | h1
    · apply h1
      rw [List.getElem?_eq_getElem ha, List.getElem?_eq_getElem hb]
      simpa using e
    · omega
  · obtain ⟨a, ha⟩ := List.getElem?_of_mem hx
    exact h.2 a x (List.getElem?_eq_some_iff.1 ha).1 ha
theorem ShTo.succ {l : List NR} {i : Nat} {s : ByteArray} {ks : List SK} (h : ShTo l i) (hi : l[i]? = some ⟨s, ks⟩) (h1 : ∀ (k : Nat) (x : NR), k < i → l[k]? = some x → x.name ≠ s) (h2 : ∀ (k : Nat) (q : SK), ks[k]? = some q → q.ss.length ≤ 20) : ShTo l (i + 1) := by
  refine ⟨fun a b hab hb => ?_, fun a x ha hx => ?_⟩
  · by_cases hbi : b < i
    · exact h.1 a b hab hbi
    · obtain rfl : b = i := by omega
      left
      rw [hi]
      have hbl := (List.getElem?_eq_some_iff.1 hi).1
      have ha : l[a]? = some l[a] := List.getElem?_eq_getElem (by omega)
      rw [ha]
      intro e
      exact h1 a _ (by omega) ha (by simpa using e)
  · by_cases hai : a < i
    · exact h.2 a x hai hx
    · obtain rfl : a = i := by omega
      rw [hi] at hx
      cases hx
      unfold smallB
      rw [List.all_eq_true]
      intro q hq
      obtain ⟨k, hk⟩ := List.getElem?_of_mem hq
      exact decide_eq_true (h2 k q hk)
set_option maxRecDepth 100000 in
set_option maxHeartbeats 2000000 in
theorem short_calls (l : List NR) (A : Option Addr) (cap : Nat) (w : World) (hr : RdN w A l) (hlen : l.length ≤ 9223372036854775807) (hk20 : ∀ x ∈ l, ∀ s ∈ x.ks, s.ss.length ≤ 9223372036854775807) :
    Calls Try.prog 11 #[.slice A l.length cap] w fun e w' => e = .returned (.bool (shortB l)) ∧ Ext w w' := by
  by_cases h40 : l.length ≤ 40
  · have h40i : ¬ (40 : Int) < l.length := by omega
    have H20 := Lib.hid hk20
    clear hk20
    obtain ⟨q, hq⟩ : ∃ q, shortB l = q := ⟨_, rfl⟩
    have HQ := Lib.hid hq
    rw [hq]
    clear hq
    go_enter Try.func11, Try.ntmps11
    go_upto_region 4 with (fail)
    go_loopw [3] (fun iv W => ∃ i : Nat, iv = .int .i64 i ∧ i ≤ l.length ∧ ShTo l i ∧ Ext w W) (fun iv _ => l.length - (RowKit.intOf iv).toNat)
    case atStart => exact ⟨0, rfl, by omega, ⟨fun a b _ h => by omega, fun a x h => by omega⟩, Ext.refl w⟩
    case round =>
      obtain ⟨i, rfl, hi, hS, hx⟩ := hrel
      have HS := Lib.hid hS
      clear hS
      by_cases hlt : i < l.length
      · have hlti : (i : Int) < l.length := by omega
        obtain ⟨b, o, nm, ks, rfl, hli, hnm, hks, _, hok⟩ := (hr.ext hx).at hlt
        have HLI := Lib.hid hli
        have hk7 := hok.1
        simp only at hk7
        clear hli hnm hks hok
        go_upto_region 7 with (fail)
        go_loopw [4] (fun kv W => ∃ k : Nat, kv = .int .i64 k ∧ k ≤ i ∧ (∀ (q : Nat) (x : NR), q < k → l[q]? = some x → x.name ≠ nm) ∧ Ext w W) (fun kv _ => i - (RowKit.intOf kv).toNat)
        case atStart => exact ⟨0, rfl, by omega, fun q x h => by omega, hx⟩
        case round =>
          clear hx
          obtain ⟨k, rfl, hk, hne, hx⟩ := hrel
          have HNE := Lib.hid hne
          clear hne
          have hrr := hr.ext hx
          by_cases hki : k < i
          · have hkii : (k : Int) < i := by omega
            have hkl : (k : Int) < l.length := by omega
            obtain ⟨_, _, nk, kk, hA, hlk, hnk, _, _, _⟩ := hrr.at (i := k) (by omega)
            cases hA
            obtain ⟨_, _, ni, ki, hA, hli2, hni, _, _, _⟩ := hrr.at (i := i) (by omega)
            cases hA
            have e := HLI.out
            rw [hli2] at e
            cases e
            have HLK := Lib.hid hlk
            clear hlk hli2 hrr
            by_cases heq : nk = nm
            · subst heq
              have HF := Lib.hid (shortB_twice HLI.out HLK.out hki)
              go_upto_region 9 with (fail)
              refine wp_region_mixAll (fun W => W = wr.drew) [(0, true), (1, true), (2, true), (3, true), (4, true), (5, true), (6, true), (7, true), (8, true), (9, true), (10, true)] (by kernel_rfl) (by kernel_rfl) (rfl) ?_
              repeat (apply mix_read; (case ho => rfl); (case hw => rfl); (case h1 => intro W' hx; subst hx; go_simp; (try go_bits); with_reducible rfl); (case hp => go_simp; first | done | with_reducible rfl))
              refine mix_nil ?_; unfold Q0
              go_wp2_with fail
              go_ret
              exact ⟨by rw [← HQ.out, HF.out]; rfl, hx.drew⟩
            · have hb1 := str_ne heq
              have hb2 := toList_ne heq
              go_upto_region 9 with (fail)
              refine wp_region_mixAll (fun W => W = wr.drew) [(0, true), (1, true), (2, true), (3, true), (4, true), (5, true), (6, true), (7, true), (8, true), (9, true), (10, true)] (by kernel_rfl) (by kernel_rfl) (rfl) ?_
              repeat (apply mix_read; (case ho => rfl); (case hw => rfl); (case h1 => intro W' hx; subst hx; go_simp; (try go_bits); with_reducible rfl); (case hp => go_simp; first | done | with_reducible rfl))
              refine mix_nil ?_; unfold Q0
              have HEQ := Lib.hid heq
              clear hb1 hb2 heq
              go_wp2_with fail
              go_roundw
              case rel => exact ⟨k + 1, by go_num, by omega, fun q x hqk hqx => by
                rcases (show q < k ∨ q = k by omega) with h | rfl
                · exact HNE.out q x h hqx
                · rw [HLK.out] at hqx; cases hqx; exact HEQ.out, hx.drew⟩
              case measure => simp [RowKit.intOf]; omega
          · obtain rfl : k = i := by omega
            go_upto_region 12 with (fail)
            go_loopw [5] (fun kv W => ∃ k' : Nat, kv = .int .i64 k' ∧ k' ≤ 7 ∧ (∀ (q : Nat) (s : SK), q < k' → ks[q]? = some s → s.ss.length ≤ 20) ∧ Ext w W) (fun kv _ => 7 - (RowKit.intOf kv).toNat)
            case atStart => exact ⟨0, rfl, by omega, fun q s h => by omega, hx⟩
            case round =>
              clear hx hrr
              obtain ⟨k', rfl, hk', hsm, hx⟩ := hrel
              have HSM := Lib.hid hsm
              clear hsm
              by_cases h7 : k' < 7
              · have h7i : (k' : Int) < 7 := by omega
                obtain ⟨_, _, ni, ki, hA, hli2, _, hks, _, _⟩ := (hr.ext hx).at (i := k) (by omega)
                cases hA
                have e := HLI.out
                rw [hli2] at e
                cases e
                obtain ⟨s, hs⟩ : ∃ s, ks[k']? = some s := ⟨_, List.getElem?_eq_getElem (by omega)⟩
                have hc := hks k' s hs
                have hs63 := H20.out _ (List.mem_of_getElem? hli2) s (List.mem_of_getElem? hs)
                have HSS := Lib.hid hs
                obtain ⟨As, cs, ss⟩ := s
                simp only [SK.val] at hc hs63
                clear hli2 hks hs
                by_cases h20 : ss.length ≤ 20
                · have h20i : ¬ (20 : Int) < ss.length := by omega
                  go_wp2_with fail
                  go_roundw
                  case rel => exact ⟨k' + 1, by go_num, by omega, fun q s hqk hqs => by
                    rcases (show q < k' ∨ q = k' by omega) with h | rfl
                    · exact HSM.out q s h hqs
                    · rw [HSS.out] at hqs; cases hqs; exact h20, hx⟩
                  case measure => simp [RowKit.intOf]; omega
                · have h20i : (20 : Int) < ss.length := by omega
                  have HF := Lib.hid (shortB_big HLI.out HSS.out h20)
                  go_wp2_with fail
                  go_ret
                  exact ⟨by rw [← HQ.out, HF.out]; rfl, hx⟩
              · obtain rfl : k' = 7 := by omega
                go_wp2_with fail
                go_roundw
                case rel => exact ⟨k + 1, by go_num, by omega, HS.out.succ HLI.out HNE.out (fun q s hqs => HSM.out q s (by have := (List.getElem?_eq_some_iff.1 hqs).1; omega) hqs), hx⟩
                case measure => simp [RowKit.intOf]; omega
      · obtain rfl : i = l.length := by omega
        have HF := Lib.hid (HS.out.all h40)
        go_wp2_with fail
        go_ret
        exact ⟨by rw [← HQ.out, HF.out]; rfl, hx⟩
  · have h40i : (40 : Int) < l.length := by omega
    have : shortB l = false := by unfold shortB; rw [decide_eq_false h40]; rfl
    rw [this]
    clear hk20
    go_enter Try.func11, Try.ntmps11
    go_wp2_with fail
    go_ret
    exact ⟨rfl, Ext.refl w⟩
end Go.Proofs.Ytdpfppibbnjemaa
