/- Chapter 16: the law's helper 'works'. -/
import Derived.Test.YthgepclmlhbbaaaStampTake
namespace Go.Proofs.Ythgepclmlhbbaaa
open Go.RowKit
set_option linter.unusedVariables false
set_option linter.unusedSimpArgs false

def nmA : ByteArray := ⟨#[97, 46, 116, 105, 109, 101, 114]⟩
def nmB : ByteArray := ⟨#[98, 46, 116, 105, 109, 101, 114]⟩
theorem okA : okSt nmA 5 = true := by decide +kernel
theorem noAB : okSt ⟨#[97, 47, 98]⟩ 5 = false := by decide +kernel
theorem noNeg : okSt ⟨#[97]⟩ (-1) = false := by decide +kernel
theorem noTmp : okSt ⟨#[97, 46, 116, 109, 112]⟩ 5 = false := by decide +kernel
theorem okB : okNm nmB = true := by decide +kernel
theorem takeB : takeOf nmB (stampOf nmA 5) = none := by decide +kernel
theorem stA16 : (nums8 (stampOf nmA 5))[16]? = some (.int .u8 5) := by
  have : (stampOf nmA 5)[16]? = some 5 := by decide +kernel
  exact nums8_get this
theorem stA17 : (nums8 (stampOf nmA 5))[17]? = some (.int .u8 0) := by
  have : (stampOf nmA 5)[17]? = some 0 := by decide +kernel
  exact nums8_get this
theorem RdA.take {W : World} {b o : Nat} {l : List Int} (h : RdA W b o (nums8 l)) (n : Nat) : RdA W b o (nums8 (l.take n)) := fun j v e => by
  refine h j v ?_
  simp only [nums8, List.getElem?_map, List.getElem?_take] at e ⊢
  split at e
  · exact e
  · cases e
theorem stHead8 (s : ByteArray) (u : Int) : (stampOf s u).take 8 = magicL := by
  unfold stampOf stHead
  rw [List.append_assoc, List.append_assoc]
  exact List.take_left' rfl

set_option maxRecDepth 100000 in
set_option maxHeartbeats 2000000 in
theorem works_calls (w : World) : Calls Try.prog 8 #[] w fun e w' => e = .returned (.bool true) ∧ Ext w w' := by
  go_enter Try.func8, Try.ntmps8
  go_wp2_with fail
  refine (put_yes nmA (by decide) 5 okA _).mono ?_
  rintro e W1 ⟨g, cg, rfl, hg, hcg, hrd, x1⟩
  go_wp2_with fail
  refine (put_no _ (by decide) 5 noAB _).mono ?_
  rintro e W2 ⟨rfl, x2⟩
  go_wp2_with fail
  refine (put_no _ (by decide) (-1) noNeg _).mono ?_
  rintro e W3 ⟨rfl, x3⟩
  go_wp2_with fail
  refine (put_no _ (by decide) 5 noTmp _).mono ?_
  rintro e W4 ⟨rfl, x4⟩
  replace hrd := ((hrd.ext x2).ext x3).ext x4
  replace x1 := ((x1.trans x2).trans x3).trans x4
  have HT := Lib.hid (take_loop nmB (by decide) okB (stampOf nmA 5) (stampOf_length _ _) (stampOf_bytes _ _) g 0 cg hcg W4 hrd)
  unfold Took at HT
  rw [takeB] at HT
  clear x2 x3 x4
  have HR := Lib.hid hrd
  clear hrd
  go_wp2_with fail
  refine HT.out.mono ?_
  rintro e W5 ⟨rfl, x5⟩
  unfold takeV
  have hrd := HR.out.ext x5
  have c16 : W5.cell? ⟨g, 16, none⟩ = some (.int .u8 5) := hrd 16 _ stA16
  have c17 : W5.cell? ⟨g, 17, none⟩ = some (.int .u8 0) := hrd 17 _ stA17
  have hml : ((strOfNums magicL).toList == [67, 76, 69, 80, 1, 0, 0, 0]) = true := by rw [Lib.strOfNums_toList]; rfl
  have h8 := hrd.take 8
  rw [stHead8] at h8
  have H8 := Lib.hid h8
  have hc8 : (8 : Int) ≤ cg := by omega
  clear HR hrd h8 HT
  go_wp2_with (refine wpList_string rfl 23 9 (.tmp 41) rfl Try.underlying23 Try.underlying5 Try.underlying9 (some ⟨g, 0, none⟩) 8 cg rfl magicL rfl (.inr ⟨g, 0, rfl, H8.out⟩) ?_)
  go_ret
  exact ⟨rfl, x1.trans x5⟩
end Go.Proofs.Ythgepclmlhbbaaa
