/- Units in memory; load.Table.Index. -/
import Derived.Test.YtdpfppibbnjemaaMem
import Derived.Test.YtdpfppibbnjemaaSortShelf
import Derived.Shelf.SlicesQ.IndexFunc
namespace Go.Proofs.Ytdpfppibbnjemaa
open Go.RowKit Go.Shelf
set_option linter.unusedVariables false
set_option linter.unusedSimpArgs false
/-- A unit: its name, and its other cells. -/
structure LU where
  name : ByteArray
  cs : List Value
  len : cs.length = 25
  one : cs.all (·.oneCell') = true
instance : Inhabited LU := ⟨⟨ByteArray.empty, List.replicate 25 (.int .i64 0), by simp, rfl⟩⟩
def LU.cells (u : LU) : List Value := .string u.name :: u.cs
theorem LU.cells_length (u : LU) : u.cells.length = 26 := by simp [LU.cells, u.len]
theorem LU.cells_one (u : LU) : u.cells.all (·.oneCell') = true := by simp only [LU.cells, List.all_cons, u.one, Bool.and_true]; rfl
def RdU (W : World) (A : Option Addr) (us : List LU) : Prop := us = [] ∨ ∃ b o, A = some ⟨b, o, none⟩ ∧ ∀ j u, us[j]? = some u → ∀ i v, u.cells[i]? = some v → W.cell? ⟨b, o + j * 26 + i, none⟩ = some v
theorem RdU.ext {W W' : World} {A : Option Addr} {us : List LU} (h : RdU W A us) (hx : Ext W W') : RdU W' A us := by
  rcases h with h | ⟨b, o, rfl, h⟩
  · exact .inl h
  · exact .inr ⟨b, o, rfl, fun j u hu i v hv => hx.cell (h j u hu i v hv)⟩
theorem rowUnit (n : Nat) (h : n = 26) : isRowT Try.prog 50 n := by subst h; exact ⟨by kernel_rfl, by kernel_rfl⟩
def idxU (us : List LU) (s : ByteArray) : Int := Lib.idxBy (fun _ (u : LU) => decide (u.name = s)) us default
theorem idxU_at {us : List LU} {s : ByteArray} {k : Nat} {u : LU} (hn : (us.map LU.name).Nodup) (hk : us[k]? = some u) (hs : u.name = s) : idxU us s = k := by
  unfold idxU
  have hlt := (List.getElem?_eq_some_iff.1 hk).1
  have hv : us[k]! = u := by rw [getElem!_pos us k hlt]; exact (List.getElem?_eq_some_iff.1 hk).2
  have := Lib.idxBy_hit (fun _ (u : LU) => decide (u.name = s)) us us.length k default hlt (Nat.le_refl _) (by rw [hv]; simpa using hs) (fun j hj => by
    rw [getElem!_pos us j (by omega), decide_eq_false_iff_not]
    intro e
    have h1 := List.pairwise_iff_getElem.1 hn j k (by simp; omega) (by simpa using hlt) hj
    apply h1
    have h2 := (List.getElem?_eq_some_iff.1 hk).2
    simp only [List.getElem_map]
    rw [e, h2, hs])
  rwa [List.take_length] at this
theorem idxU_no {us : List LU} {s : ByteArray} (h : ∀ u ∈ us, u.name ≠ s) : idxU us s = -1 := by
  unfold idxU
  have := Lib.idxBy_miss (fun _ (u : LU) => decide (u.name = s)) us us.length default (fun j hj => by
    rw [getElem!_pos us j hj, decide_eq_false_iff_not]
    exact h _ (List.getElem_mem _))
  rwa [List.take_length] at this
theorem idxU_lt {us : List LU} {s : ByteArray} (hn : (us.map LU.name).Nodup) : idxU us s = -1 ∨ ∃ k : Nat, ∃ u, us[k]? = some u ∧ u.name = s ∧ idxU us s = k := by
  by_cases h : ∃ u ∈ us, u.name = s
  · obtain ⟨u, hu, hs⟩ := h
    obtain ⟨k, hk⟩ := List.getElem?_of_mem hu
    exact .inr ⟨k, u, hk, hs, idxU_at hn hk hs⟩
  · exact .inl (idxU_no fun u hu e => h ⟨u, hu, e⟩)
theorem toList_ne {a b : ByteArray} (h : ¬ a = b) : ¬ a.toList = b.toList := by
  intro e
  apply h
  rw [ByteArray.toList_eq, ByteArray.toList_eq] at e
  exact ByteArray.ext (Array.toList_inj.mp e)
theorem indexNil_calls (s : ByteArray) (A : Option Addr) (cap : Nat) (f : Value) (w : World) :
    Calls Try.prog 60 #[.slice A ([] : List LU).length cap, f] w fun e w' => e = .returned (.int .i64 (idxU [] s)) ∧ Ext w w' := by
  go_enter Try.func60, Try.ntmps60
  go_wp2_with fail
  refine wp_loop_once ?_
  go_wp2_with fail
  go_ret
  exact ⟨rfl, Ext.refl w⟩
theorem index1_calls (u : LU) (s : ByteArray) (B : Nat) (W : World) (hB : W.cell? ⟨B, 0, none⟩ = some (.string s)) :
    Calls Try.prog 61 #[.agg u.cells.toArray, .pointer (some ⟨B, 0, none⟩)] W fun e w' => e = .returned (.bool (decide (u.name = s))) ∧ Ext W w' := by
  go_enter Try.func61, Try.ntmps61
  go_upto_region 1 with (fail)
  refine wp_gen (fun W' => Blk W' W.heap.size u.cells 50 ∧ Ext W W') ⟨Blk.newAt W _ _ _ rfl, (Ext.refl W).alloc _⟩ ?_
  obtain ⟨g, hg⟩ : ∃ g, W.heap.size = g := ⟨_, rfl⟩
  rw [hg]
  rintro W1 ⟨hb, hx⟩
  have hc := hb.cell 0 (show u.cells[0]? = some (.string u.name) from rfl)
  have hB1 := hx.cell hB
  clear hb hB
  go_wp2_with fail
  go_ret
  refine ⟨?_, hx⟩
  by_cases h : u.name = s
  · simp [h]
  · simp [h, toList_ne h]
theorem indexU_calls (us : List LU) (A : Option Addr) (cap : Nat) (s : ByteArray) (w : World) (hr : RdU w A us) (hlen : us.length ≤ 1000000) :
    Calls Try.prog 44 #[.agg #[.slice A us.length cap], .string s] w fun e w' => e = .returned (.int .i64 (idxU us s)) ∧ Ext w w' := by
  have HC : Hid (∀ (W : World) (B : Nat), Ext w W → W.cell? ⟨B, 0, none⟩ = some (.string s) → Calls Try.prog 60 #[.slice A us.length cap, .func (.func 61) #[] #[.pointer (some ⟨B, 0, none⟩)]] W fun e w' => e = .returned (.int .i64 (idxU us s)) ∧ Ext W w') := Lib.hid fun W B hx hB => by
    rcases hr.ext hx with rfl | ⟨b, o, rfl, hc⟩
    · exact indexNil_calls _ _ _ _ _
    · by_cases h0 : us = []
      · subst h0
        exact indexNil_calls _ _ _ _ _
      have hb : b < W.heap.size := by
        cases hu : us with
        | nil => exact absurd hu h0
        | cons u us' => exact World.block_lt_of_cell? W _ (hc 0 u (by rw [hu]; rfl) 0 (.string u.name) rfl)
      have := AnyQ.slices_IndexFunc Try.laysIdx 26 Try.isAgg50 Try.sizeOf50 LU.cells LU.cells_length (fun u => decide (u.name = s)) 61 #[.pointer (some ⟨B, 0, none⟩)] (enters_of Try.func61 (by kernel_rfl) rfl) b o us.length cap us W
        (fun W' u hb' => (index1_calls u s B W' (Ext.cell hb' hB)).mono fun e w' h => ⟨h.1, Ext.trans hb' h.2⟩) (Nat.le_refl _) (by omega) hb (fun j hj i v hv => by
          rw [getElem!_pos us j hj] at hv
          exact hc j _ (List.getElem?_eq_getElem hj) i v hv)
      rw [List.take_length] at this
      exact this
  clear hr
  go_enter Try.func44, Try.ntmps44
  go_wp2_with (go_at_call 60; refine (HC.out _ _ ?hx ?hB).mono ?_; (case hx => exact ((Ext.refl w).alloc _).alloc _); (case hB => go_simp); rintro e w' ⟨rfl, hx⟩)
  go_ret
  exact ⟨rfl, (((Ext.refl w).alloc _).alloc _).trans hx⟩
end Go.Proofs.Ytdpfppibbnjemaa
