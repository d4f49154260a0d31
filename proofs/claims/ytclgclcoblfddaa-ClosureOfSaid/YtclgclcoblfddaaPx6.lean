/- Printed by a program for this claim: functions of the program as plain functions, and that the machine computes them. -/
import Derived.Test.YtclgclcoblfddaaPx0
import Derived.Test.YtclgclcoblfddaaPShort
namespace Go.Proofs.Ytclgclcoblfddaa.P
open Go.RowKit Go.Proofs.YtclgclcoblfddaaW.PrintWords Go.Proofs.YtclgclcoblfddaaW.PrintLast Go.Proofs.YtclgclcoblfddaaW.PrintMore
attribute [local go_sem] Zeg Zee Zfg Zff Zdo Zdm Zef Zed
set_option linter.unusedVariables false
set_option linter.unusedSimpArgs false
theorem t6_6 {p : Prop} (h : p := by exact (fun _ hk => hk.2)) : p := h
theorem t6_5 {p : Prop} (h : p := by exact (fun _ hk => hk.1.1.1)) : p := h
theorem t6_4 {p : Prop} (h : p := by first | rfl | (simp; done) | (simp [*]; done)) : p := h
theorem t6_3 {p : Prop} (h : p := by first | (with_reducible assumption) | assumption) : p := h
theorem t6_2 {p : Prop} (h : p := by repeat (first | (with_reducible first | exact HK.out | apply Kept.alloc | apply Kept.drewN | apply Kept.drew) | exact HK.out)) : p := h
theorem t6_1 {p : Prop} (h : p := by repeat (first | (with_reducible first | exact HB.out | apply Zau | apply Zaj | apply Zal | refine Zai ?_ GE138.out) | exact HB.out)) : p := h
theorem t6_0 {p : Prop} (h : p := by first | exact HK.out.1 | exact (show Kept w _ (fun k_ => P0_ k_) from by repeat (first | (with_reducible first | exact HK.out | apply Kept.alloc | apply Kept.drewN | apply Kept.drew) | exact HK.out)).1) : p := h
def Zct.f (l0_0 : List (List Int)) (l0_1 : List (List Int)) (l0_2 : List (List Int)) (l0_3 : List (List Int)) (l0_4 : List (List Int)) (l0_5 : List (List Int)) (l0_6 : List (List Int)) (l0_7 : List (List Int)) (l0_8 : List (List Int)) (l0_9 : List (List Int)) : Option ((List (List Int)) × (List (List Int)) × (List (List Int)) × (List (List Int)) × (List (List Int)) × (List (List Int)) × (List (List Int))) := some (l0_0, l0_1, l0_2, l0_6, l0_7, l0_8, l0_9)
set_option maxHeartbeats 8000000 in
set_option maxRecDepth 100000 in
theorem Zct.calls (P0_0_ : Nat → Prop) (A0_0 : Option Addr) (c0_0 : Nat) (l0_0 : List (List Int)) (P0_1_ : Nat → Prop) (A0_1 : Option Addr) (c0_1 : Nat) (l0_1 : List (List Int)) (P0_2_ : Nat → Prop) (A0_2 : Option Addr) (c0_2 : Nat) (l0_2 : List (List Int)) (A0_3 : Option Addr) (c0_3 : Nat) (l0_3 : List (List Int)) (A0_4 : Option Addr) (c0_4 : Nat) (l0_4 : List (List Int)) (A0_5 : Option Addr) (c0_5 : Nat) (l0_5 : List (List Int)) (P0_6_ : Nat → Prop) (A0_6 : Option Addr) (c0_6 : Nat) (l0_6 : List (List Int)) (P0_7_ : Nat → Prop) (A0_7 : Option Addr) (c0_7 : Nat) (l0_7 : List (List Int)) (P0_8_ : Nat → Prop) (A0_8 : Option Addr) (c0_8 : Nat) (l0_8 : List (List Int)) (P0_9_ : Nat → Prop) (A0_9 : Option Addr) (c0_9 : Nat) (l0_9 : List (List Int)) (r1 : List (List Int)) (r2 : List (List Int)) (r3 : List (List Int)) (r4 : List (List Int)) (r5 : List (List Int)) (r6 : List (List Int)) (r7 : List (List Int)) (w : World) (hs0_0 : Kd.V (Kd.slice 3 (Kd.int .i64)) 60 w w.heap.size (fun k_ => P0_0_ k_) (.slice A0_0 l0_0.length c0_0) l0_0) (hs0_1 : Kd.V (Kd.slice 3 (Kd.int .i64)) 60 w w.heap.size (fun k_ => P0_1_ k_) (.slice A0_1 l0_1.length c0_1) l0_1) (hs0_2 : Kd.V (Kd.slice 3 (Kd.int .i64)) 60 w w.heap.size (fun k_ => P0_2_ k_) (.slice A0_2 l0_2.length c0_2) l0_2) (hr0_3 : Kd.C (Kd.slice 3 (Kd.int .i64)) w A0_3 l0_3.length l0_3) (hc0_3 : l0_3.length ≤ c0_3) (hr0_4 : Kd.C (Kd.slice 3 (Kd.int .i64)) w A0_4 l0_4.length l0_4) (hc0_4 : l0_4.length ≤ c0_4) (hr0_5 : Kd.C (Kd.slice 3 (Kd.int .i64)) w A0_5 l0_5.length l0_5) (hc0_5 : l0_5.length ≤ c0_5) (hs0_6 : Kd.V (Kd.slice 3 (Kd.int .i64)) 60 w w.heap.size (fun k_ => P0_6_ k_) (.slice A0_6 l0_6.length c0_6) l0_6) (hs0_7 : Kd.V (Kd.slice 3 (Kd.int .i64)) 60 w w.heap.size (fun k_ => P0_7_ k_) (.slice A0_7 l0_7.length c0_7) l0_7) (hs0_8 : Kd.V (Kd.slice 3 (Kd.int .i64)) 60 w w.heap.size (fun k_ => P0_8_ k_) (.slice A0_8 l0_8.length c0_8) l0_8) (hs0_9 : Kd.V (Kd.slice 3 (Kd.int .i64)) 60 w w.heap.size (fun k_ => P0_9_ k_) (.slice A0_9 l0_9.length c0_9) l0_9) (h : Zct.f l0_0 l0_1 l0_2 l0_3 l0_4 l0_5 l0_6 l0_7 l0_8 l0_9 = some (r1, r2, r3, r4, r5, r6, r7)) :
  Calls Try.prog 15 #[.agg #[.slice A0_0 l0_0.length c0_0, .slice A0_1 l0_1.length c0_1, .slice A0_2 l0_2.length c0_2, .slice A0_3 l0_3.length c0_3, .slice A0_4 l0_4.length c0_4, .slice A0_5 l0_5.length c0_5, .slice A0_6 l0_6.length c0_6, .slice A0_7 l0_7.length c0_7, .slice A0_8 l0_8.length c0_8, .slice A0_9 l0_9.length c0_9]] w fun e w' => ∃ v0_ v1_ v2_ v3_ v4_ v5_ v6_ : Value, e = .returned (.agg #[v0_, v1_, v2_, v3_, v4_, v5_, v6_]) ∧ Kd.V (Kd.slice 3 (Kd.int .i64)) 60 w' w.heap.size (fun k_ => ((P0_0_ k_ ∨ P0_1_ k_ ∨ P0_2_ k_ ∨ P0_6_ k_ ∨ P0_7_ k_ ∨ P0_8_ k_ ∨ P0_9_ k_) ∨ w.heap.size ≤ k_)) v0_ r1 ∧ Kd.V (Kd.slice 3 (Kd.int .i64)) 60 w' w.heap.size (fun k_ => ((P0_0_ k_ ∨ P0_1_ k_ ∨ P0_2_ k_ ∨ P0_6_ k_ ∨ P0_7_ k_ ∨ P0_8_ k_ ∨ P0_9_ k_) ∨ w.heap.size ≤ k_)) v1_ r2 ∧ Kd.V (Kd.slice 3 (Kd.int .i64)) 60 w' w.heap.size (fun k_ => ((P0_0_ k_ ∨ P0_1_ k_ ∨ P0_2_ k_ ∨ P0_6_ k_ ∨ P0_7_ k_ ∨ P0_8_ k_ ∨ P0_9_ k_) ∨ w.heap.size ≤ k_)) v2_ r3 ∧ Kd.V (Kd.slice 3 (Kd.int .i64)) 60 w' w.heap.size (fun k_ => ((P0_0_ k_ ∨ P0_1_ k_ ∨ P0_2_ k_ ∨ P0_6_ k_ ∨ P0_7_ k_ ∨ P0_8_ k_ ∨ P0_9_ k_) ∨ w.heap.size ≤ k_)) v3_ r4 ∧ Kd.V (Kd.slice 3 (Kd.int .i64)) 60 w' w.heap.size (fun k_ => ((P0_0_ k_ ∨ P0_1_ k_ ∨ P0_2_ k_ ∨ P0_6_ k_ ∨ P0_7_ k_ ∨ P0_8_ k_ ∨ P0_9_ k_) ∨ w.heap.size ≤ k_)) v4_ r5 ∧ Kd.V (Kd.slice 3 (Kd.int .i64)) 60 w' w.heap.size (fun k_ => ((P0_0_ k_ ∨ P0_1_ k_ ∨ P0_2_ k_ ∨ P0_6_ k_ ∨ P0_7_ k_ ∨ P0_8_ k_ ∨ P0_9_ k_) ∨ w.heap.size ≤ k_)) v5_ r6 ∧ Kd.V (Kd.slice 3 (Kd.int .i64)) 60 w' w.heap.size (fun k_ => ((P0_0_ k_ ∨ P0_1_ k_ ∨ P0_2_ k_ ∨ P0_6_ k_ ∨ P0_7_ k_ ∨ P0_8_ k_ ∨ P0_9_ k_) ∨ w.heap.size ≤ k_)) v6_ r7 ∧ Below w.heap.size w w' := by
 have hu24 := Try.underlying24
 have hu38 := Try.underlying38
 have HO0_0 := Za.mk (show Kd.V (Kd.slice 3 (Kd.int .i64)) 60 w w.heap.size (fun k_ => ((P0_0_ k_ ∨ P0_1_ k_ ∨ P0_2_ k_ ∨ P0_6_ k_ ∨ P0_7_ k_ ∨ P0_8_ k_ ∨ P0_9_ k_) ∨ w.heap.size ≤ k_)) (.slice A0_0 l0_0.length c0_0) l0_0 from Kd.Zbo hs0_0 (fun k_ hk => .inl (.inl hk)))
 have HO0_1 := Za.mk (show Kd.V (Kd.slice 3 (Kd.int .i64)) 60 w w.heap.size (fun k_ => ((P0_0_ k_ ∨ P0_1_ k_ ∨ P0_2_ k_ ∨ P0_6_ k_ ∨ P0_7_ k_ ∨ P0_8_ k_ ∨ P0_9_ k_) ∨ w.heap.size ≤ k_)) (.slice A0_1 l0_1.length c0_1) l0_1 from Kd.Zbo hs0_1 (fun k_ hk => .inl (.inr (.inl hk))))
 have HO0_2 := Za.mk (show Kd.V (Kd.slice 3 (Kd.int .i64)) 60 w w.heap.size (fun k_ => ((P0_0_ k_ ∨ P0_1_ k_ ∨ P0_2_ k_ ∨ P0_6_ k_ ∨ P0_7_ k_ ∨ P0_8_ k_ ∨ P0_9_ k_) ∨ w.heap.size ≤ k_)) (.slice A0_2 l0_2.length c0_2) l0_2 from Kd.Zbo hs0_2 (fun k_ hk => .inl (.inr (.inr (.inl hk)))))
 have HR0_3 := Za.mk hr0_3
 have HC0_3 := Za.mk hc0_3
 clear hr0_3 hc0_3
 have HR0_4 := Za.mk hr0_4
 have HC0_4 := Za.mk hc0_4
 clear hr0_4 hc0_4
 have HR0_5 := Za.mk hr0_5
 have HC0_5 := Za.mk hc0_5
 clear hr0_5 hc0_5
 have HO0_6 := Za.mk (show Kd.V (Kd.slice 3 (Kd.int .i64)) 60 w w.heap.size (fun k_ => ((P0_0_ k_ ∨ P0_1_ k_ ∨ P0_2_ k_ ∨ P0_6_ k_ ∨ P0_7_ k_ ∨ P0_8_ k_ ∨ P0_9_ k_) ∨ w.heap.size ≤ k_)) (.slice A0_6 l0_6.length c0_6) l0_6 from Kd.Zbo hs0_6 (fun k_ hk => .inl (.inr (.inr (.inr (.inl hk))))))
 have HO0_7 := Za.mk (show Kd.V (Kd.slice 3 (Kd.int .i64)) 60 w w.heap.size (fun k_ => ((P0_0_ k_ ∨ P0_1_ k_ ∨ P0_2_ k_ ∨ P0_6_ k_ ∨ P0_7_ k_ ∨ P0_8_ k_ ∨ P0_9_ k_) ∨ w.heap.size ≤ k_)) (.slice A0_7 l0_7.length c0_7) l0_7 from Kd.Zbo hs0_7 (fun k_ hk => .inl (.inr (.inr (.inr (.inr (.inl hk)))))))
 have HO0_8 := Za.mk (show Kd.V (Kd.slice 3 (Kd.int .i64)) 60 w w.heap.size (fun k_ => ((P0_0_ k_ ∨ P0_1_ k_ ∨ P0_2_ k_ ∨ P0_6_ k_ ∨ P0_7_ k_ ∨ P0_8_ k_ ∨ P0_9_ k_) ∨ w.heap.size ≤ k_)) (.slice A0_8 l0_8.length c0_8) l0_8 from Kd.Zbo hs0_8 (fun k_ hk => .inl (.inr (.inr (.inr (.inr (.inr (.inl hk))))))))
 have HO0_9 := Za.mk (show Kd.V (Kd.slice 3 (Kd.int .i64)) 60 w w.heap.size (fun k_ => ((P0_0_ k_ ∨ P0_1_ k_ ∨ P0_2_ k_ ∨ P0_6_ k_ ∨ P0_7_ k_ ∨ P0_8_ k_ ∨ P0_9_ k_) ∨ w.heap.size ≤ k_)) (.slice A0_9 l0_9.length c0_9) l0_9 from Kd.Zbo hs0_9 (fun k_ hk => .inl (.inr (.inr (.inr (.inr (.inr (.inr hk))))))))
 have HB := Za.mk (Below.refl w.heap.size w)
 have H : (some (l0_0, l0_1, l0_2, l0_6, l0_7, l0_8, l0_9)) = some (r1, r2, r3, r4, r5, r6, r7) := h
 clear h
 simp only [Option.some.injEq, Prod.mk.injEq] at H
 obtain ⟨rfl, rfl, rfl, rfl, rfl, rfl, rfl⟩ := H
 go_enter Try.func15, Try.ntmps15
 go_wp2_with (first | ((with_reducible refine Zca (N := 1) rfl ?_); refine Zbu ?hg (N := 1) ?hd (cs := #[.slice A0_0 l0_0.length c0_0, .slice A0_1 l0_1.length c0_1, .slice A0_2 l0_2.length c0_2, .slice A0_3 l0_3.length c0_3, .slice A0_4 l0_4.length c0_4, .slice A0_5 l0_5.length c0_5, .slice A0_6 l0_6.length c0_6, .slice A0_7 l0_7.length c0_7, .slice A0_8 l0_8.length c0_8, .slice A0_9 l0_9.length c0_9]) (t := 24) ?hr ?_; (case hd => rfl); (case hg => rfl); (case hr => first | (go_simp; done) | (go_simp; rfl)); intro gb138 hg w2 hbox hb; have n0_ := Za.mk (Kd.Zbh (Kd.Zdd (VD HO0_0) gb138 (Nat.le_of_eq hg.symm)) hb); have n1_ := Za.mk (Kd.Zbh (Kd.Zdd (VD HO0_1) gb138 (Nat.le_of_eq hg.symm)) hb); have n2_ := Za.mk (Kd.Zbh (Kd.Zdd (VD HO0_2) gb138 (Nat.le_of_eq hg.symm)) hb); have n3_ := Za.mk (Kd.Zbh (Kd.Zdd (VD HO0_6) gb138 (Nat.le_of_eq hg.symm)) hb); have n4_ := Za.mk (Kd.Zbh (Kd.Zdd (VD HO0_7) gb138 (Nat.le_of_eq hg.symm)) hb); have n5_ := Za.mk (Kd.Zbh (Kd.Zdd (VD HO0_8) gb138 (Nat.le_of_eq hg.symm)) hb); have n6_ := Za.mk (Kd.Zbh (Kd.Zdd (VD HO0_9) gb138 (Nat.le_of_eq hg.symm)) hb); have n7_ := BS HB hb; have n8_ := Za.mk (hbox); have n9_ := Za.mk ((by rw [hg]; exact (Zat (BD HB)) : w.heap.size ≤ gb138)); have n10_ := Za.mk ((by rw [hg]; exact (Zat (BD HB)) : w.heap.size ≤ gb138)); clear HO0_0; clear HO0_1; clear HO0_2; clear HO0_6; clear HO0_7; clear HO0_8; clear HO0_9; clear HB; have HO0_0 := n0_; have HO0_1 := n1_; have HO0_2 := n2_; have HO0_6 := n3_; have HO0_7 := n4_; have HO0_8 := n5_; have HO0_9 := n6_; have HB := n7_; have BK138 := n8_; have GW138 := n9_; have GE138 := n10_; clear n0_ n1_ n2_ n3_ n4_ n5_ n6_ n7_ n8_ n9_ n10_; clear hb hbox hg) | ((with_reducible refine Zca (N := 2) rfl ?_); refine Zbu ?hg (N := 2) ?hd (cs := #[.slice none 0 0, .slice none 0 0, .slice none 0 0, .slice none 0 0, .slice none 0 0, .slice none 0 0, .slice none 0 0]) (t := 38) ?hr ?_; (case hd => rfl); (case hg => rfl); (case hr => first | (go_simp; done) | (go_simp; rfl)); intro gb139 hg w3 hbox hb; have n0_ := Za.mk (Kd.Zbh (Kd.Zdd (VD HO0_0) gb139 (Nat.le_of_eq hg.symm)) hb); have n1_ := Za.mk (Kd.Zbh (Kd.Zdd (VD HO0_1) gb139 (Nat.le_of_eq hg.symm)) hb); have n2_ := Za.mk (Kd.Zbh (Kd.Zdd (VD HO0_2) gb139 (Nat.le_of_eq hg.symm)) hb); have n3_ := Za.mk (Kd.Zbh (Kd.Zdd (VD HO0_6) gb139 (Nat.le_of_eq hg.symm)) hb); have n4_ := Za.mk (Kd.Zbh (Kd.Zdd (VD HO0_7) gb139 (Nat.le_of_eq hg.symm)) hb); have n5_ := Za.mk (Kd.Zbh (Kd.Zdd (VD HO0_8) gb139 (Nat.le_of_eq hg.symm)) hb); have n6_ := Za.mk (Kd.Zbh (Kd.Zdd (VD HO0_9) gb139 (Nat.le_of_eq hg.symm)) hb); have n7_ := Za.mk (Zam (KB BK138) hb); have n8_ := Za.mk (Zbb t6_1 hb); have n9_ := Za.mk (hbox); have n10_ := Za.mk ((by rw [hg]; exact (Zat t6_1) : w.heap.size ≤ gb139)); have n11_ := Za.mk ((by rw [hg]; exact (Zat t6_1) : w.heap.size ≤ gb139)); have n12_ := Za.mk ((by rw [hg]; exact Nat.ne_of_lt (Zcw (KB BK138)) : gb138 ≠ gb139)); have n13_ := Za.mk ((by rw [hg]; exact Nat.ne_of_gt (Zcw (KB BK138)) : gb139 ≠ gb138)); clear HO0_0; clear HO0_1; clear HO0_2; clear HO0_6; clear HO0_7; clear HO0_8; clear HO0_9; clear BK138; clear HB; have HO0_0 := n0_; have HO0_1 := n1_; have HO0_2 := n2_; have HO0_6 := n3_; have HO0_7 := n4_; have HO0_8 := n5_; have HO0_9 := n6_; have BK138 := n7_; have HB := n8_; have BK139 := n9_; have GW139 := n10_; have GE139 := n11_; have NB138_139 := n12_; have NB139_138 := n13_; clear n0_ n1_ n2_ n3_ n4_ n5_ n6_ n7_ n8_ n9_ n10_ n11_ n12_ n13_; clear hb hbox hg; have hnb4 := NB138_139.out; have hnc4 := NB139_138.out; obtain ⟨hcz5_0, hcz5_1, hcz5_2, hcz5_3, hcz5_4, hcz5_5, hcz5_6, hcz5_7, hcz5_8, hcz5_9, hfz5_0, hfz5_1, hfz5_2, hfz5_3, hfz5_4, hfz5_5, hfz5_6, hfz5_7, hfz5_8, hfz5_9⟩ := cz10 BK138; obtain ⟨hcz6_0, hcz6_1, hcz6_2, hcz6_3, hcz6_4, hcz6_5, hcz6_6, hfz6_0, hfz6_1, hfz6_2, hfz6_3, hfz6_4, hfz6_5, hfz6_6⟩ := cz7 BK139))
 refine bodyPost_ret (results_cell_row rfl _ _ gb139 38 #[.slice A0_0 l0_0.length c0_0, .slice A0_1 l0_1.length c0_1, .slice A0_2 l0_2.length c0_2, .slice A0_6 l0_6.length c0_6, .slice A0_7 l0_7.length c0_7, .slice A0_8 l0_8.length c0_8, .slice A0_9 l0_9.length c0_9] (0, 0) _ rfl (by (with_reducible repeat (first | refine Zan ?_ _ | refine Zap ?_ | refine Zao ?_ _)); refine Zeh (cs := #[.slice A0_0 l0_0.length c0_0, .slice A0_1 l0_1.length c0_1, .slice A0_2 l0_2.length c0_2, .slice A0_6 l0_6.length c0_6, .slice A0_7 l0_7.length c0_7, .slice A0_8 l0_8.length c0_8, .slice none 0 0]) ?_ 6 _ rfl; (with_reducible repeat (first | refine Zan ?_ _ | refine Zap ?_ | refine Zao ?_ _)); refine Zeh (cs := #[.slice A0_0 l0_0.length c0_0, .slice A0_1 l0_1.length c0_1, .slice A0_2 l0_2.length c0_2, .slice A0_6 l0_6.length c0_6, .slice A0_7 l0_7.length c0_7, .slice none 0 0, .slice none 0 0]) ?_ 5 _ rfl; (with_reducible repeat (first | refine Zan ?_ _ | refine Zap ?_ | refine Zao ?_ _)); refine Zeh (cs := #[.slice A0_0 l0_0.length c0_0, .slice A0_1 l0_1.length c0_1, .slice A0_2 l0_2.length c0_2, .slice A0_6 l0_6.length c0_6, .slice none 0 0, .slice none 0 0, .slice none 0 0]) ?_ 4 _ rfl; (with_reducible repeat (first | refine Zan ?_ _ | refine Zap ?_ | refine Zao ?_ _)); refine Zeh (cs := #[.slice A0_0 l0_0.length c0_0, .slice A0_1 l0_1.length c0_1, .slice A0_2 l0_2.length c0_2, .slice none 0 0, .slice none 0 0, .slice none 0 0, .slice none 0 0]) ?_ 3 _ rfl; (with_reducible repeat (first | refine Zan ?_ _ | refine Zap ?_ | refine Zao ?_ _)); refine Zeh (cs := #[.slice A0_0 l0_0.length c0_0, .slice A0_1 l0_1.length c0_1, .slice none 0 0, .slice none 0 0, .slice none 0 0, .slice none 0 0, .slice none 0 0]) ?_ 2 _ rfl; (with_reducible repeat (first | refine Zan ?_ _ | refine Zap ?_ | refine Zao ?_ _)); refine Zeh (cs := #[.slice A0_0 l0_0.length c0_0, .slice none 0 0, .slice none 0 0, .slice none 0 0, .slice none 0 0, .slice none 0 0, .slice none 0 0]) ?_ 1 _ rfl; (with_reducible repeat (first | refine Zan ?_ _ | refine Zap ?_ | refine Zao ?_ _)); refine Zeh (cs := #[.slice none 0 0, .slice none 0 0, .slice none 0 0, .slice none 0 0, .slice none 0 0, .slice none 0 0, .slice none 0 0]) ?_ 0 _ rfl; (with_reducible repeat (first | refine Zan ?_ _ | refine Zap ?_ | refine Zao ?_ _)); exact BK139.out) Try.underlying38 rfl (by kernel_rfl)) rfl ?_
 exact ⟨_, _, _, _, _, _, _, by first | rfl | (simp [Zbe, Zbd] <;> rfl) | (simp [*, Zbe, Zbd] <;> rfl), by (with_reducible repeat (first | apply Kd.Zbj | apply Kd.Zbi | apply Kd.Zbm)); exact Kd.Zbo (Kd.Zbz (p := ⟨gb139, 6, none⟩) (Kd.Zbz (p := ⟨gb139, 5, none⟩) (Kd.Zbz (p := ⟨gb139, 4, none⟩) (Kd.Zbz (p := ⟨gb139, 3, none⟩) (Kd.Zbz (p := ⟨gb139, 2, none⟩) (Kd.Zbz (p := ⟨gb139, 1, none⟩) (Kd.Zbz (p := ⟨gb139, 0, none⟩) (Kd.Zbo HO0_0.out (fun k_ hk => (⟨hk, hk.2⟩ : _ ∧ k_ ≠ gb139))) t6_6 (.slice A0_0 l0_0.length c0_0)) t6_6 (.slice A0_1 l0_1.length c0_1)) t6_6 (.slice A0_2 l0_2.length c0_2)) t6_6 (.slice A0_6 l0_6.length c0_6)) t6_6 (.slice A0_7 l0_7.length c0_7)) t6_6 (.slice A0_8 l0_8.length c0_8)) t6_6 (.slice A0_9 l0_9.length c0_9)) t6_5, by (with_reducible repeat (first | apply Kd.Zbj | apply Kd.Zbi | apply Kd.Zbm)); exact Kd.Zbo (Kd.Zbz (p := ⟨gb139, 6, none⟩) (Kd.Zbz (p := ⟨gb139, 5, none⟩) (Kd.Zbz (p := ⟨gb139, 4, none⟩) (Kd.Zbz (p := ⟨gb139, 3, none⟩) (Kd.Zbz (p := ⟨gb139, 2, none⟩) (Kd.Zbz (p := ⟨gb139, 1, none⟩) (Kd.Zbz (p := ⟨gb139, 0, none⟩) (Kd.Zbo HO0_1.out (fun k_ hk => (⟨hk, hk.2⟩ : _ ∧ k_ ≠ gb139))) t6_6 (.slice A0_0 l0_0.length c0_0)) t6_6 (.slice A0_1 l0_1.length c0_1)) t6_6 (.slice A0_2 l0_2.length c0_2)) t6_6 (.slice A0_6 l0_6.length c0_6)) t6_6 (.slice A0_7 l0_7.length c0_7)) t6_6 (.slice A0_8 l0_8.length c0_8)) t6_6 (.slice A0_9 l0_9.length c0_9)) t6_5, by (with_reducible repeat (first | apply Kd.Zbj | apply Kd.Zbi | apply Kd.Zbm)); exact Kd.Zbo (Kd.Zbz (p := ⟨gb139, 6, none⟩) (Kd.Zbz (p := ⟨gb139, 5, none⟩) (Kd.Zbz (p := ⟨gb139, 4, none⟩) (Kd.Zbz (p := ⟨gb139, 3, none⟩) (Kd.Zbz (p := ⟨gb139, 2, none⟩) (Kd.Zbz (p := ⟨gb139, 1, none⟩) (Kd.Zbz (p := ⟨gb139, 0, none⟩) (Kd.Zbo HO0_2.out (fun k_ hk => (⟨hk, hk.2⟩ : _ ∧ k_ ≠ gb139))) t6_6 (.slice A0_0 l0_0.length c0_0)) t6_6 (.slice A0_1 l0_1.length c0_1)) t6_6 (.slice A0_2 l0_2.length c0_2)) t6_6 (.slice A0_6 l0_6.length c0_6)) t6_6 (.slice A0_7 l0_7.length c0_7)) t6_6 (.slice A0_8 l0_8.length c0_8)) t6_6 (.slice A0_9 l0_9.length c0_9)) t6_5, by (with_reducible repeat (first | apply Kd.Zbj | apply Kd.Zbi | apply Kd.Zbm)); exact Kd.Zbo (Kd.Zbz (p := ⟨gb139, 6, none⟩) (Kd.Zbz (p := ⟨gb139, 5, none⟩) (Kd.Zbz (p := ⟨gb139, 4, none⟩) (Kd.Zbz (p := ⟨gb139, 3, none⟩) (Kd.Zbz (p := ⟨gb139, 2, none⟩) (Kd.Zbz (p := ⟨gb139, 1, none⟩) (Kd.Zbz (p := ⟨gb139, 0, none⟩) (Kd.Zbo HO0_6.out (fun k_ hk => (⟨hk, hk.2⟩ : _ ∧ k_ ≠ gb139))) t6_6 (.slice A0_0 l0_0.length c0_0)) t6_6 (.slice A0_1 l0_1.length c0_1)) t6_6 (.slice A0_2 l0_2.length c0_2)) t6_6 (.slice A0_6 l0_6.length c0_6)) t6_6 (.slice A0_7 l0_7.length c0_7)) t6_6 (.slice A0_8 l0_8.length c0_8)) t6_6 (.slice A0_9 l0_9.length c0_9)) t6_5, by (with_reducible repeat (first | apply Kd.Zbj | apply Kd.Zbi | apply Kd.Zbm)); exact Kd.Zbo (Kd.Zbz (p := ⟨gb139, 6, none⟩) (Kd.Zbz (p := ⟨gb139, 5, none⟩) (Kd.Zbz (p := ⟨gb139, 4, none⟩) (Kd.Zbz (p := ⟨gb139, 3, none⟩) (Kd.Zbz (p := ⟨gb139, 2, none⟩) (Kd.Zbz (p := ⟨gb139, 1, none⟩) (Kd.Zbz (p := ⟨gb139, 0, none⟩) (Kd.Zbo HO0_7.out (fun k_ hk => (⟨hk, hk.2⟩ : _ ∧ k_ ≠ gb139))) t6_6 (.slice A0_0 l0_0.length c0_0)) t6_6 (.slice A0_1 l0_1.length c0_1)) t6_6 (.slice A0_2 l0_2.length c0_2)) t6_6 (.slice A0_6 l0_6.length c0_6)) t6_6 (.slice A0_7 l0_7.length c0_7)) t6_6 (.slice A0_8 l0_8.length c0_8)) t6_6 (.slice A0_9 l0_9.length c0_9)) t6_5, by (with_reducible repeat (first | apply Kd.Zbj | apply Kd.Zbi | apply Kd.Zbm)); exact Kd.Zbo (Kd.Zbz (p := ⟨gb139, 6, none⟩) (Kd.Zbz (p := ⟨gb139, 5, none⟩) (Kd.Zbz (p := ⟨gb139, 4, none⟩) (Kd.Zbz (p := ⟨gb139, 3, none⟩) (Kd.Zbz (p := ⟨gb139, 2, none⟩) (Kd.Zbz (p := ⟨gb139, 1, none⟩) (Kd.Zbz (p := ⟨gb139, 0, none⟩) (Kd.Zbo HO0_8.out (fun k_ hk => (⟨hk, hk.2⟩ : _ ∧ k_ ≠ gb139))) t6_6 (.slice A0_0 l0_0.length c0_0)) t6_6 (.slice A0_1 l0_1.length c0_1)) t6_6 (.slice A0_2 l0_2.length c0_2)) t6_6 (.slice A0_6 l0_6.length c0_6)) t6_6 (.slice A0_7 l0_7.length c0_7)) t6_6 (.slice A0_8 l0_8.length c0_8)) t6_6 (.slice A0_9 l0_9.length c0_9)) t6_5, by (with_reducible repeat (first | apply Kd.Zbj | apply Kd.Zbi | apply Kd.Zbm)); exact Kd.Zbo (Kd.Zbz (p := ⟨gb139, 6, none⟩) (Kd.Zbz (p := ⟨gb139, 5, none⟩) (Kd.Zbz (p := ⟨gb139, 4, none⟩) (Kd.Zbz (p := ⟨gb139, 3, none⟩) (Kd.Zbz (p := ⟨gb139, 2, none⟩) (Kd.Zbz (p := ⟨gb139, 1, none⟩) (Kd.Zbz (p := ⟨gb139, 0, none⟩) (Kd.Zbo HO0_9.out (fun k_ hk => (⟨hk, hk.2⟩ : _ ∧ k_ ≠ gb139))) t6_6 (.slice A0_0 l0_0.length c0_0)) t6_6 (.slice A0_1 l0_1.length c0_1)) t6_6 (.slice A0_2 l0_2.length c0_2)) t6_6 (.slice A0_6 l0_6.length c0_6)) t6_6 (.slice A0_7 l0_7.length c0_7)) t6_6 (.slice A0_8 l0_8.length c0_8)) t6_6 (.slice A0_9 l0_9.length c0_9)) t6_5, by repeat (first | (with_reducible first | exact HB.out | apply Zau | apply Zaj | apply Zal | refine Zai ?_ GE138.out | refine Zai ?_ GE139.out) | exact HB.out)⟩
def Zak.l0 : Nat → List (S44) → Int → Int → Int → Bool → Option (Int)
 | 0, _, _, _, _, _ => none
 | k + 1, x0, x5, x141000, x141001, x141002 => if x5 < (x0.length : Int) then (if 0 ≤ x5 then (if ((Zaf x0 x5).f0) = x141000 then (if ((Zaf x0 x5).f1) = x141001 then (some x5) else (Zak.l0 k x0 (wrap64 (x5 + 1)) x141000 x141001 x141002)) else (Zak.l0 k x0 (wrap64 (x5 + 1)) x141000 x141001 x141002)) else (none)) else (some (-1))
def Zak.f (k : Nat) (l0 : List (S44)) (a1_0 : Int) (a1_1 : Int) (a1_2 : Bool) : Option (Int) := Zak.l0 k l0 0 a1_0 a1_1 a1_2
set_option maxHeartbeats 8000000 in
set_option maxRecDepth 100000 in
theorem Zak.calls (k : Nat) (A0 : Option Addr) (c0 : Nat) (l0 : List (S44)) (a1_0 : Int) (a1_1 : Int) (a1_2 : Bool) (r : Int) (w : World) (hr0 : Kd.C k44 w A0 l0.length l0) (hc0 : l0.length ≤ c0) (h : Zak.f k l0 a1_0 a1_1 a1_2 = some r) :
  Calls Try.prog 21 #[.slice A0 l0.length c0, .agg #[.int .i64 a1_0, .int .u8 a1_1, .bool a1_2]] w fun e w' => e = .returned (.int .i64 r) ∧ Below w.heap.size w w' := by
 have hu44 := Try.underlying44
 have HR0 := Za.mk hr0
 have HC0 := Za.mk hc0
 clear hr0 hc0
 have HB := Za.mk (Below.refl w.heap.size w)
 have H : (Zak.l0 k l0 0 a1_0 a1_1 a1_2) = some r := h
 clear h
 have H' := Za.mk H
 clear H
 go_enter Try.func21, Try.ntmps21
 go_wp2_with (first | ((with_reducible refine Zca (N := 3) rfl ?_); refine Zbu ?hg (N := 3) ?hd (cs := #[.int .i64 a1_0, .int .u8 a1_1, .bool a1_2]) (t := 44) ?hr ?_; (case hd => rfl); (case hg => rfl); (case hr => first | (go_simp; done) | (go_simp; rfl)); intro gb140 hg w3 hbox hb; have n0_ := BS HB hb; have n1_ := Za.mk (hbox); have n2_ := Za.mk ((by rw [hg]; exact (Zat (BD HB)) : w.heap.size ≤ gb140)); have n3_ := Za.mk ((by rw [hg]; exact (Zat (BD HB)) : w.heap.size ≤ gb140)); clear HB; have HB := n0_; have BK140 := n1_; have GW140 := n2_; have GE140 := n3_; clear n0_ n1_ n2_ n3_; clear hb hbox hg))
 repeat (go_quiet (first | ((with_reducible refine Zca (N := 3) rfl ?_); refine Zbu ?hg (N := 3) ?hd (cs := #[.int .i64 a1_0, .int .u8 a1_1, .bool a1_2]) (t := 44) ?hr ?_; (case hd => rfl); (case hg => rfl); (case hr => first | (go_simp; done) | (go_simp; rfl)); intro gb140 hg w3 hbox hb; have n0_ := BS HB hb; have n1_ := Za.mk (hbox); have n2_ := Za.mk ((by rw [hg]; exact (Zat (BD HB)) : w.heap.size ≤ gb140)); have n3_ := Za.mk ((by rw [hg]; exact (Zat (BD HB)) : w.heap.size ≤ gb140)); clear HB; have HB := n0_; have BK140 := n1_; have GW140 := n2_; have GE140 := n3_; clear n0_ n1_ n2_ n3_; clear hb hbox hg)); try go_wp2_with (first | ((with_reducible refine Zca (N := 3) rfl ?_); refine Zbu ?hg (N := 3) ?hd (cs := #[.int .i64 a1_0, .int .u8 a1_1, .bool a1_2]) (t := 44) ?hr ?_; (case hd => rfl); (case hg => rfl); (case hr => first | (go_simp; done) | (go_simp; rfl)); intro gb140 hg w3 hbox hb; have n0_ := BS HB hb; have n1_ := Za.mk (hbox); have n2_ := Za.mk ((by rw [hg]; exact (Zat (BD HB)) : w.heap.size ≤ gb140)); have n3_ := Za.mk ((by rw [hg]; exact (Zat (BD HB)) : w.heap.size ≤ gb140)); clear HB; have HB := n0_; have BK140 := n1_; have GW140 := n2_; have GE140 := n3_; clear n0_ n1_ n2_ n3_; clear hb hbox hg)))
 go_loopg [5] k (fun kq v5 w' => ∃ (x5_1 : Int), v5 = .int .i64 x5_1 ∧ Za (Zak.l0 kq l0 x5_1 a1_0 a1_1 a1_2 = some r) ∧ Za (kq ≤ k) ∧ Za (w'.heap[gb140]? = some (.cells #[.int .i64 a1_0, .int .u8 a1_1, .bool a1_2] 44 (0, 0))) ∧ Za (Below w.heap.size w w'))
 case atStart => exact ⟨(0), t6_4, H', ⟨Nat.le_refl _⟩, ⟨by (with_reducible repeat (first | refine Zan ?_ _ | refine Zap ?_ | refine Zao ?_ _)); exact BK140.out⟩, ⟨by repeat (first | (with_reducible first | exact HB.out | apply Zau | apply Zaj | apply Zal | refine Zai ?_ GE140.out) | exact HB.out)⟩⟩
 case round =>
  clear H'
  try clear c2
  try clear p2
  obtain ⟨x5_1, rfl, HA, HK1, BK140, HB⟩ := hrel
  cases gk with
  | zero => exact absurd HA.out (by simp [Zak.l0])
  | succ k1 =>
   have H := HA.out
   clear HA
   simp only [Zak.l0] at H
   by_cases c4 : x5_1 < (l0.length : Int)
   case neg =>
    rw [if_neg c4] at H
    have c4b0 : decide (x5_1 < (l0.length : Int)) = false := decide_eq_false c4
    clear c4
    obtain rfl := Option.some.inj H
    go_wp2
    repeat (go_quiet (fail); try go_wp2)
    go_ret
    exact ⟨by first | rfl | (simp [Zbe, Zbd] <;> rfl) | (simp [*, Zbe, Zbd] <;> rfl), by repeat (first | (with_reducible first | exact HB.out | apply Zau | apply Zaj | apply Zal | refine Zai ?_ GE140.out) | exact HB.out)⟩
   rw [if_pos c4] at H
   have c4b0 : decide (x5_1 < (l0.length : Int)) = true := decide_eq_true c4
   clear c4
   by_cases c5 : 0 ≤ x5_1
   case neg =>
    rw [if_neg c5] at H
    exact absurd H (by simp)
   rw [if_pos c5] at H
   have c5b0 : decide (0 ≤ x5_1) = true := decide_eq_true c5
   clear c5
   by_cases c6 : ((Zaf l0 x5_1).f0) = a1_0
   case neg =>
    rw [if_neg c6] at H
    have c6b0 : (((Zaf l0 x5_1).f0) == a1_0) = false := beq_eq_false_iff_ne.mpr c6
    have c6b1 : (((Zaf l0 x5_1).f0) != a1_0) = true := bne_iff_ne.mpr c6
    have H' := Za.mk H
    clear H
    have p141 : 0 ≤ (x5_1 : Int) := of_decide_eq_true t6_3
    have q141 : x5_1 < (l0.length : Int) := of_decide_eq_true t6_3
    obtain ⟨ad141, e141, hx141_0, hx141_1, hx141_2⟩ := Zc HR0.out x5_1 p141 q141
    cases e141
    replace hx141_0 := (HB.out.cell (World.block_lt_of_cell? w _ hx141_0)).trans hx141_0
    replace hx141_1 := (HB.out.cell (World.block_lt_of_cell? w _ hx141_1)).trans hx141_1
    replace hx141_2 := (HB.out.cell (World.block_lt_of_cell? w _ hx141_2)).trans hx141_2
    replace p141 := eq_true p141
    replace q141 := eq_true q141
    obtain ⟨hcz10_0, hcz10_1, hcz10_2, hfz10_0, hfz10_1, hfz10_2⟩ := cz3 BK140
    go_wp2
    repeat (go_quiet (fail); try go_wp2)
    go_roundg k1
    case measure => have := HK1.out; omega
    case rel => exact ⟨(wrap64 (x5_1 + 1)), t6_4, H', ⟨by have := HK1.out; omega⟩, ⟨by (with_reducible repeat (first | refine Zan ?_ _ | refine Zap ?_ | refine Zao ?_ _)); exact BK140.out⟩, ⟨by repeat (first | (with_reducible first | exact HB.out | apply Zau | apply Zaj | apply Zal | refine Zai ?_ GE140.out) | exact HB.out)⟩⟩
   rw [if_pos c6] at H
   have c6b0 : (((Zaf l0 x5_1).f0) == a1_0) = true := beq_iff_eq.mpr c6
   have c6b1 : (((Zaf l0 x5_1).f0) != a1_0) = false := bne_eq_false_iff_eq.mpr c6
   clear c6
   by_cases c7 : ((Zaf l0 x5_1).f1) = a1_1
   case neg =>
    rw [if_neg c7] at H
    have c7b0 : (((Zaf l0 x5_1).f1) == a1_1) = false := beq_eq_false_iff_ne.mpr c7
    have c7b1 : (((Zaf l0 x5_1).f1) != a1_1) = true := bne_iff_ne.mpr c7
    have H' := Za.mk H
    clear H
    have p141 : 0 ≤ (x5_1 : Int) := of_decide_eq_true t6_3
    have q141 : x5_1 < (l0.length : Int) := of_decide_eq_true t6_3
    obtain ⟨ad141, e141, hx141_0, hx141_1, hx141_2⟩ := Zc HR0.out x5_1 p141 q141
    cases e141
    replace hx141_0 := (HB.out.cell (World.block_lt_of_cell? w _ hx141_0)).trans hx141_0
    replace hx141_1 := (HB.out.cell (World.block_lt_of_cell? w _ hx141_1)).trans hx141_1
    replace hx141_2 := (HB.out.cell (World.block_lt_of_cell? w _ hx141_2)).trans hx141_2
    replace p141 := eq_true p141
    replace q141 := eq_true q141
    obtain ⟨hcz9_0, hcz9_1, hcz9_2, hfz9_0, hfz9_1, hfz9_2⟩ := cz3 BK140
    have p142 : 0 ≤ (x5_1 : Int) := of_decide_eq_true t6_3
    have q142 : x5_1 < (l0.length : Int) := of_decide_eq_true t6_3
    obtain ⟨ad142, e142, hx142_0, hx142_1, hx142_2⟩ := Zc HR0.out x5_1 p142 q142
    obtain rfl : ad141 = ad142 := (by injection e142)
    replace hx142_0 := (HB.out.cell (World.block_lt_of_cell? w _ hx142_0)).trans hx142_0
    replace hx142_1 := (HB.out.cell (World.block_lt_of_cell? w _ hx142_1)).trans hx142_1
    replace hx142_2 := (HB.out.cell (World.block_lt_of_cell? w _ hx142_2)).trans hx142_2
    replace p142 := eq_true p142
    replace q142 := eq_true q142
    go_wp2
    repeat (go_quiet (fail); try go_wp2)
    go_roundg k1
    case measure => have := HK1.out; omega
    case rel => exact ⟨(wrap64 (x5_1 + 1)), t6_4, H', ⟨by have := HK1.out; omega⟩, ⟨by (with_reducible repeat (first | refine Zan ?_ _ | refine Zap ?_ | refine Zao ?_ _)); exact BK140.out⟩, ⟨by repeat (first | (with_reducible first | exact HB.out | apply Zau | apply Zaj | apply Zal | refine Zai ?_ GE140.out) | exact HB.out)⟩⟩
   rw [if_pos c7] at H
   have c7b0 : (((Zaf l0 x5_1).f1) == a1_1) = true := beq_iff_eq.mpr c7
   have c7b1 : (((Zaf l0 x5_1).f1) != a1_1) = false := bne_eq_false_iff_eq.mpr c7
   clear c7
   obtain rfl := Option.some.inj H
   have p141 : 0 ≤ (x5_1 : Int) := of_decide_eq_true t6_3
   have q141 : x5_1 < (l0.length : Int) := of_decide_eq_true t6_3
   obtain ⟨ad141, e141, hx141_0, hx141_1, hx141_2⟩ := Zc HR0.out x5_1 p141 q141
   cases e141
   replace hx141_0 := (HB.out.cell (World.block_lt_of_cell? w _ hx141_0)).trans hx141_0
   replace hx141_1 := (HB.out.cell (World.block_lt_of_cell? w _ hx141_1)).trans hx141_1
   replace hx141_2 := (HB.out.cell (World.block_lt_of_cell? w _ hx141_2)).trans hx141_2
   replace p141 := eq_true p141
   replace q141 := eq_true q141
   obtain ⟨hcz8_0, hcz8_1, hcz8_2, hfz8_0, hfz8_1, hfz8_2⟩ := cz3 BK140
   have p142 : 0 ≤ (x5_1 : Int) := of_decide_eq_true t6_3
   have q142 : x5_1 < (l0.length : Int) := of_decide_eq_true t6_3
   obtain ⟨ad142, e142, hx142_0, hx142_1, hx142_2⟩ := Zc HR0.out x5_1 p142 q142
   obtain rfl : ad141 = ad142 := (by injection e142)
   replace hx142_0 := (HB.out.cell (World.block_lt_of_cell? w _ hx142_0)).trans hx142_0
   replace hx142_1 := (HB.out.cell (World.block_lt_of_cell? w _ hx142_1)).trans hx142_1
   replace hx142_2 := (HB.out.cell (World.block_lt_of_cell? w _ hx142_2)).trans hx142_2
   replace p142 := eq_true p142
   replace q142 := eq_true q142
   go_wp2
   repeat (go_quiet (fail); try go_wp2)
   go_ret
   exact ⟨by first | rfl | (simp [Zbe, Zbd] <;> rfl) | (simp [*, Zbe, Zbd] <;> rfl), by repeat (first | (with_reducible first | exact HB.out | apply Zau | apply Zaj | apply Zal | refine Zai ?_ GE140.out) | exact HB.out)⟩
def Zcb.f (a0 : Int) : Option (Bool) := if a0 ≥ 1 then (some (decide (a0 ≤ 3))) else (some false)
set_option maxHeartbeats 8000000 in
set_option maxRecDepth 100000 in
theorem Zcb.calls (a0 : Int) (r : Bool) (w : World) (h : Zcb.f a0 = some r) :
  Calls Try.prog 49 #[.int .u8 a0] w fun e w' => e = .returned (.bool r) ∧ Zdc w w' := by
 have H : (if a0 ≥ 1 then (some (decide (a0 ≤ 3))) else (some false)) = some r := h
 clear h
 by_cases c2 : a0 ≥ 1
 case neg =>
  rw [if_neg c2] at H
  have c2b0 : decide (1 ≤ a0) = false := decide_eq_false c2
  clear c2
  obtain rfl := Option.some.inj H
  go_enter Try.func49, Try.ntmps49
  go_wp2
  go_ret
  exact ⟨by first | rfl | (simp; done) | (simp [*]; done), by repeat (first | exact Zdc.refl _ | apply Zdc.step)⟩
 rw [if_pos c2] at H
 have c2b0 : decide (1 ≤ a0) = true := decide_eq_true c2
 clear c2
 obtain rfl := Option.some.inj H
 go_enter Try.func49, Try.ntmps49
 go_wp2
 go_ret
 exact ⟨by first | rfl | (simp; done) | (simp [*]; done), by repeat (first | exact Zdc.refl _ | apply Zdc.step)⟩
def Zar.l0 : Nat → List (S44) → List Int → Int → Bool → List Bool → Bool → Int → Option ((List (S44)))
 | 0, _, _, _, _, _, _, _ => none
 | k + 1, x0, x1, x2, x3, x4, x5, x13 => if x13 < (x1.length : Int) then (if x5 = true then (if 0 ≤ x13 then (if 0 ≤ (rd x1 x13) then (if (rd x1 x13) < (x4.length : Int) then (if rdOf false x4 (rd x1 x13) = true then (if x0.length < 8796093022208 then (Zar.l0 k (x0 ++ [(⟨rd x1 x13, x2, x3⟩ : S44)]) x1 x2 x3 x4 x5 (wrap64 (x13 + 1))) else (none)) else (Zar.l0 k x0 x1 x2 x3 x4 x5 (wrap64 (x13 + 1)))) else (none)) else (none)) else (none)) else (if 0 ≤ x13 then (if x0.length < 8796093022208 then (Zar.l0 k (x0 ++ [(⟨rd x1 x13, x2, x3⟩ : S44)]) x1 x2 x3 x4 x5 (wrap64 (x13 + 1))) else (none)) else (none))) else (some x0)
def Zar.f (k : Nat) (l0 : List (S44)) (l1 : List Int) (a2 : Int) (a3 : Bool) (l4 : List Bool) (a5 : Bool) : Option ((List (S44))) := Zar.l0 k l0 l1 a2 a3 l4 a5 0
set_option maxHeartbeats 8000000 in
set_option maxRecDepth 100000 in
theorem Zar.calls (k : Nat) (P0_ : Nat → Prop) (u9000_ : Value) (l0 : List (S44)) (A1 : Option Addr) (c1 : Nat) (l1 : List Int) (a2 : Int) (a3 : Bool) (A4 : Option Addr) (c4 : Nat) (l4 : List Bool) (a5 : Bool) (r : List (S44)) (w0 w : World) (hB : Below w0.heap.size w0 w) (ho0 : Kd.R k44 44 w w0.heap.size P0_ u9000_ l0) (hr1 : ∀ W_, Kept w W_ (fun k_ => P0_ k_) → Kd.C (Kd.int .i64) W_ A1 l1.length l1) (hc1 : l1.length ≤ c1) (hr4 : ∀ W_, Kept w W_ (fun k_ => P0_ k_) → Kd.C Kd.bool W_ A4 l4.length l4) (hc4 : l4.length ≤ c4) (h : Zar.f k l0 l1 a2 a3 l4 a5 = some r) :
  Calls Try.prog 54 #[u9000_, .slice A1 l1.length c1, .int .u8 a2, .bool a3, .slice A4 l4.length c4, .bool a5] w fun e w' => ∃ v0_ : Value, e = .returned (v0_) ∧ Kd.R k44 44 w' w0.heap.size (fun k_ => (P0_ k_ ∨ w.heap.size ≤ k_)) v0_ r ∧ Below w0.heap.size w0 w' ∧ Kept w w' (fun k_ => P0_ k_) := by
 have hu44 := Try.underlying44
 have HO0 := Za.mk (show Kd.R k44 44 w w0.heap.size (fun k_ => (P0_ k_ ∨ w.heap.size ≤ k_)) u9000_ l0 from Kd.Zbv ho0 (fun k_ hk => (.inl hk)))
 have HR1 := Za.mk hr1
 have HC1 := Za.mk hc1
 clear hr1 hc1
 have HR4 := Za.mk hr4
 have HC4 := Za.mk hc4
 clear hr4 hc4
 have HK := Za.mk (Kept.refl w (fun k_ => P0_ k_))
 have HW0 := Za.mk hB.size
 have HB := Za.mk hB
 clear hB
 have H : (Zar.l0 k l0 l1 a2 a3 l4 a5 0) = some r := h
 clear h
 have H' := Za.mk H
 clear H
 go_enter Try.func54, Try.ntmps54
 go_wp2
 go_loopg [0, 13] k (fun kq v0 v13 w' => ∃ (x0_1 : List (S44)) (x13_1 : Int), v13 = .int .i64 x13_1 ∧ Za (Zar.l0 kq x0_1 l1 a2 a3 l4 a5 x13_1 = some r) ∧ Za (kq ≤ k) ∧ Za (Kd.R k44 44 w' w0.heap.size (fun k_ => (P0_ k_ ∨ w.heap.size ≤ k_)) v0 x0_1) ∧ Za (Kept w w' (fun k_ => P0_ k_)) ∧ Za (Below w0.heap.size w0 w'))
 case atStart => exact ⟨(l0), (0), t6_4, H', ⟨Nat.le_refl _⟩, ⟨RD HO0⟩, ⟨by repeat (first | (with_reducible first | exact HK.out | apply Kept.alloc | apply Kept.drewN | apply Kept.drew) | exact HK.out)⟩, ⟨BD HB⟩⟩
 case round =>
  clear H'
  try clear c1
  try clear p2
  try clear c4
  try clear c5
  obtain ⟨x0_1, x13_1, rfl, HA, HK1, HO_0, HK, HB⟩ := hrel
  cases gk with
  | zero => exact absurd HA.out (by simp [Zar.l0])
  | succ k1 =>
   have H := HA.out
   clear HA
   simp only [Zar.l0] at H
   by_cases c7 : x13_1 < (l1.length : Int)
   case neg =>
    rw [if_neg c7] at H
    have c7b0 : decide (x13_1 < (l1.length : Int)) = false := decide_eq_false c7
    clear c7
    obtain rfl := Option.some.inj H
    go_wp2
    go_ret
    exact ⟨_, by first | rfl | (simp [Zbe, Zbd] <;> rfl) | (simp [*, Zbe, Zbd] <;> rfl), RD HO_0, BD HB, by repeat (first | (with_reducible first | exact HK.out | apply Kept.alloc | apply Kept.drewN | apply Kept.drew) | exact HK.out)⟩
   rw [if_pos c7] at H
   have c7b0 : decide (x13_1 < (l1.length : Int)) = true := decide_eq_true c7
   clear c7
   by_cases c8 : a5 = true
   case neg =>
    replace c8 := Bool.eq_false_iff.mpr c8
    subst c8
    have H1 : (if 0 ≤ x13_1 then (if x0_1.length < 8796093022208 then (Zar.l0 k1 (x0_1 ++ [(⟨rd l1 x13_1, a2, a3⟩ : S44)]) l1 a2 a3 l4 false (wrap64 (x13_1 + 1))) else (none)) else (none)) = some r := by rw [if_neg (show ¬ (false = true) by decide)] at H; exact H
    clear H
    have H := H1
    clear H1
    by_cases c16 : 0 ≤ x13_1
    case neg =>
     rw [if_neg c16] at H
     exact absurd H (by simp)
    rw [if_pos c16] at H
    have c16b0 : decide (0 ≤ x13_1) = true := decide_eq_true c16
    clear c16
    by_cases c17 : x0_1.length < 8796093022208
    case neg =>
     rw [if_neg c17] at H
     exact absurd H (by simp)
    rw [if_pos c17] at H
    have LMc17 := Za.mk c17
    clear c17
    obtain ⟨y150, hy150⟩ : ∃ y_ : List (S44), y_ = (x0_1 ++ [(⟨rd l1 x13_1, a2, a3⟩ : S44)]) := ⟨_, rfl⟩
    replace H : (Zar.l0 k1 y150 l1 a2 a3 l4 false (wrap64 (x13_1 + 1))) = some r := by first | (rw [hy150]; with_reducible exact H) | (have H2_ := (Option.bind_some _ _).symm.trans H; rw [hy150]; with_reducible exact H2_) | (have H2_ := (Option.bind_some _ _).symm.trans H; with_reducible exact H2_) | with_reducible exact H | (rw [hy150]; exact H) | exact H
    have Ny150 := Za.mk hy150
    clear hy150
    have H' := Za.mk H
    clear H
    have p149 : 0 ≤ (x13_1 : Int) := of_decide_eq_true t6_3
    have q149 : x13_1 < (l1.length : Int) := of_decide_eq_true t6_3
    obtain ⟨ad149, e149, hx149_0⟩ := Kd.at_int (Kd.C_kept_now HR1.out HK.out) x13_1 p149 q149
    cases e149
    replace p149 := eq_true p149
    replace q149 := eq_true q149
    go_wp2_with (first | ((with_reducible refine Zdl (b := .append) (xs := #[.tmp 31, .tmp 39]) rfl ?_); at_builtin; refine Kd.R_append k44 (w0 := w0) w0.heap.size rfl (.tmp 31) (.tmp 39) 40 44 (.agg #[(.int .i64 0), (.int .u8 0), (.bool false)]) 16 rfl Try.underlying40 info44 rfl (by decide) (by omega) u0 x0_1 (⟨rd l1 x13_1, a2, a3⟩ : S44) [.int .i64 (rd l1 x13_1), .int .u8 a2, .bool a3] (fun k_ => (P0_ k_ ∨ w.heap.size ≤ k_)) (fun _ => False) rfl rfl ?aP (fun _ hk => hk.elim) ?aF ?aO ?aB ?aS ?aL ?_; (case aP => exact k44_mkM _ _ _ (⟨rd l1 x13_1, a2, a3⟩ : S44)); (case aB => exact (BD HB)); (case aF => exact (fun k_ hk => (.inr (Nat.le_trans t6_0 hk)))); (case aO => exact (RD HO_0)); (case aS => exact (Zat (BD HB))); (case aL => have := LMc17.out; omega); intro v151 w18 ho hb hg hat; rw [← Ny150.out] at ho; have n0_ := Za.mk (hb); have n1_ := Za.mk (Kept.of_grown (S := (fun k_ => P0_ k_)) hg t6_2 (fun k_ e_ => (HO_0.out.1 k_ e_))); have n2_ := Za.mk (ho); clear HB; clear HK; clear HO_0; have HB := n0_; have HK := n1_; have HO152 := n2_; clear n0_ n1_ n2_; clear ho hb hg hat))
    go_roundg k1
    case measure => have := HK1.out; omega
    case rel => exact ⟨(y150), (wrap64 (x13_1 + 1)), t6_4, H', ⟨by have := HK1.out; omega⟩, ⟨RD HO152⟩, ⟨by repeat (first | (with_reducible first | exact HK.out | apply Kept.alloc | apply Kept.drewN | apply Kept.drew) | exact HK.out)⟩, ⟨BD HB⟩⟩
   subst c8
   have H1 : (if 0 ≤ x13_1 then (if 0 ≤ (rd l1 x13_1) then (if (rd l1 x13_1) < (l4.length : Int) then (if rdOf false l4 (rd l1 x13_1) = true then (if x0_1.length < 8796093022208 then (Zar.l0 k1 (x0_1 ++ [(⟨rd l1 x13_1, a2, a3⟩ : S44)]) l1 a2 a3 l4 true (wrap64 (x13_1 + 1))) else (none)) else (Zar.l0 k1 x0_1 l1 a2 a3 l4 true (wrap64 (x13_1 + 1)))) else (none)) else (none)) else (none)) = some r := by rw [if_pos rfl] at H; exact H
   clear H
   have H := H1
   clear H1
   by_cases c9 : 0 ≤ x13_1
   case neg =>
    rw [if_neg c9] at H
    exact absurd H (by simp)
   rw [if_pos c9] at H
   have c9b0 : decide (0 ≤ x13_1) = true := decide_eq_true c9
   clear c9
   by_cases c10 : 0 ≤ (rd l1 x13_1)
   case neg =>
    rw [if_neg c10] at H
    exact absurd H (by simp)
   rw [if_pos c10] at H
   have c10b0 : decide (0 ≤ (rd l1 x13_1)) = true := decide_eq_true c10
   clear c10
   by_cases c11 : (rd l1 x13_1) < (l4.length : Int)
   case neg =>
    rw [if_neg c11] at H
    exact absurd H (by simp)
   rw [if_pos c11] at H
   have c11b0 : decide ((rd l1 x13_1) < (l4.length : Int)) = true := decide_eq_true c11
   clear c11
   obtain ⟨bq12, hbq12⟩ : ∃ b_ : Bool, b_ = (rdOf false l4 (rd l1 x13_1)) := ⟨_, rfl⟩
   replace H : (if bq12 = true then (if x0_1.length < 8796093022208 then (Zar.l0 k1 (x0_1 ++ [(⟨rd l1 x13_1, a2, a3⟩ : S44)]) l1 a2 a3 l4 true (wrap64 (x13_1 + 1))) else (none)) else (Zar.l0 k1 x0_1 l1 a2 a3 l4 true (wrap64 (x13_1 + 1)))) = some r := by rw [← hbq12] at H; exact H
   have Nbq12 := Za.mk hbq12
   clear hbq12
   by_cases c13 : bq12 = true
   case neg =>
    replace c13 := Bool.eq_false_iff.mpr c13
    subst c13
    have H1 : (Zar.l0 k1 x0_1 l1 a2 a3 l4 true (wrap64 (x13_1 + 1))) = some r := by rw [if_neg (show ¬ (false = true) by decide)] at H; exact H
    clear H
    have H := H1
    clear H1
    have H' := Za.mk H
    clear H
    have p143 : 0 ≤ (x13_1 : Int) := of_decide_eq_true t6_3
    have q143 : x13_1 < (l1.length : Int) := of_decide_eq_true t6_3
    obtain ⟨ad143, e143, hx143_0⟩ := Kd.at_int (Kd.C_kept_now HR1.out HK.out) x13_1 p143 q143
    cases e143
    replace p143 := eq_true p143
    replace q143 := eq_true q143
    have p144 : 0 ≤ ((rd l1 x13_1) : Int) := of_decide_eq_true t6_3
    have q144 : (rd l1 x13_1) < (l4.length : Int) := of_decide_eq_true t6_3
    obtain ⟨ad144, e144, hx144_0⟩ := Kd.at_bool (Kd.C_kept_now HR4.out HK.out) (rd l1 x13_1) p144 q144
    (try rw [← Nbq12.out] at hx144_0)
    cases e144
    replace p144 := eq_true p144
    replace q144 := eq_true q144
    go_wp2
    go_roundg k1
    case measure => have := HK1.out; omega
    case rel => exact ⟨(x0_1), (wrap64 (x13_1 + 1)), t6_4, H', ⟨by have := HK1.out; omega⟩, ⟨RD HO_0⟩, ⟨by repeat (first | (with_reducible first | exact HK.out | apply Kept.alloc | apply Kept.drewN | apply Kept.drew) | exact HK.out)⟩, ⟨BD HB⟩⟩
   subst c13
   have H1 : (if x0_1.length < 8796093022208 then (Zar.l0 k1 (x0_1 ++ [(⟨rd l1 x13_1, a2, a3⟩ : S44)]) l1 a2 a3 l4 true (wrap64 (x13_1 + 1))) else (none)) = some r := by rw [if_pos rfl] at H; exact H
   clear H
   have H := H1
   clear H1
   by_cases c14 : x0_1.length < 8796093022208
   case neg =>
    rw [if_neg c14] at H
    exact absurd H (by simp)
   rw [if_pos c14] at H
   have LMc14 := Za.mk c14
   clear c14
   obtain ⟨y146, hy146⟩ : ∃ y_ : List (S44), y_ = (x0_1 ++ [(⟨rd l1 x13_1, a2, a3⟩ : S44)]) := ⟨_, rfl⟩
   replace H : (Zar.l0 k1 y146 l1 a2 a3 l4 true (wrap64 (x13_1 + 1))) = some r := by first | (rw [hy146]; with_reducible exact H) | (have H2_ := (Option.bind_some _ _).symm.trans H; rw [hy146]; with_reducible exact H2_) | (have H2_ := (Option.bind_some _ _).symm.trans H; with_reducible exact H2_) | with_reducible exact H | (rw [hy146]; exact H) | exact H
   have Ny146 := Za.mk hy146
   clear hy146
   have H' := Za.mk H
   clear H
   have p143 : 0 ≤ (x13_1 : Int) := of_decide_eq_true t6_3
   have q143 : x13_1 < (l1.length : Int) := of_decide_eq_true t6_3
   obtain ⟨ad143, e143, hx143_0⟩ := Kd.at_int (Kd.C_kept_now HR1.out HK.out) x13_1 p143 q143
   cases e143
   replace p143 := eq_true p143
   replace q143 := eq_true q143
   have p144 : 0 ≤ ((rd l1 x13_1) : Int) := of_decide_eq_true t6_3
   have q144 : (rd l1 x13_1) < (l4.length : Int) := of_decide_eq_true t6_3
   obtain ⟨ad144, e144, hx144_0⟩ := Kd.at_bool (Kd.C_kept_now HR4.out HK.out) (rd l1 x13_1) p144 q144
   (try rw [← Nbq12.out] at hx144_0)
   cases e144
   replace p144 := eq_true p144
   replace q144 := eq_true q144
   have p145 : 0 ≤ (x13_1 : Int) := of_decide_eq_true t6_3
   have q145 : x13_1 < (l1.length : Int) := of_decide_eq_true t6_3
   obtain ⟨ad145, e145, hx145_0⟩ := Kd.at_int (Kd.C_kept_now HR1.out HK.out) x13_1 p145 q145
   obtain rfl : ad143 = ad145 := (by injection e145)
   replace p145 := eq_true p145
   replace q145 := eq_true q145
   go_wp2_with (first | ((with_reducible refine Zdl (b := .append) (xs := #[.tmp 31, .tmp 39]) rfl ?_); at_builtin; refine Kd.R_append k44 (w0 := w0) w0.heap.size rfl (.tmp 31) (.tmp 39) 40 44 (.agg #[(.int .i64 0), (.int .u8 0), (.bool false)]) 16 rfl Try.underlying40 info44 rfl (by decide) (by omega) u0 x0_1 (⟨rd l1 x13_1, a2, a3⟩ : S44) [.int .i64 (rd l1 x13_1), .int .u8 a2, .bool a3] (fun k_ => (P0_ k_ ∨ w.heap.size ≤ k_)) (fun _ => False) rfl rfl ?aP (fun _ hk => hk.elim) ?aF ?aO ?aB ?aS ?aL ?_; (case aP => exact k44_mkM _ _ _ (⟨rd l1 x13_1, a2, a3⟩ : S44)); (case aB => exact (BD HB)); (case aF => exact (fun k_ hk => (.inr (Nat.le_trans t6_0 hk)))); (case aO => exact (RD HO_0)); (case aS => exact (Zat (BD HB))); (case aL => have := LMc14.out; omega); intro v147 w15 ho hb hg hat; rw [← Ny146.out] at ho; have n0_ := Za.mk (hb); have n1_ := Za.mk (Kept.of_grown (S := (fun k_ => P0_ k_)) hg t6_2 (fun k_ e_ => (HO_0.out.1 k_ e_))); have n2_ := Za.mk (ho); clear HB; clear HK; clear HO_0; have HB := n0_; have HK := n1_; have HO148 := n2_; clear n0_ n1_ n2_; clear ho hb hg hat))
   go_roundg k1
   case measure => have := HK1.out; omega
   case rel => exact ⟨(y146), (wrap64 (x13_1 + 1)), t6_4, H', ⟨by have := HK1.out; omega⟩, ⟨RD HO148⟩, ⟨by repeat (first | (with_reducible first | exact HK.out | apply Kept.alloc | apply Kept.drewN | apply Kept.drew) | exact HK.out)⟩, ⟨BD HB⟩⟩
mutual
def Zaq.j0 : Nat → List (List Int) → Int → Int → List Int → Bool → Option (List Int)
 | 0, _, _, _, _, _ => none
 | k + 1, x0, x1, x2, x7, x17 => if x17 = true then (some x7) else (Zaq.l0 k x0 x1 x2 x7 0)
def Zaq.l0 : Nat → List (List Int) → Int → Int → List Int → Int → Option (List Int)
 | 0, _, _, _, _, _ => none
 | k + 1, x0, x1, x2, x7, x8 => if 0 ≤ x1 then (if x1 < (x0.length : Int) then (if x8 < ((Zea x0 x1).length : Int) then (if 0 ≤ x8 then (if (rd (Zea x0 x1) x8) ≥ 0 then (if (rd (Zea x0 x1) x8) < x2 then (if (rd (Zea x0 x1) x8) = x1 then (Zaq.l0 k x0 x1 x2 x7 (wrap64 (x8 + 1))) else (if x7.length < 17592186044416 then (Zaq.l0 k x0 x1 x2 (x7 ++ [rd (Zea x0 x1) x8]) (wrap64 (x8 + 1))) else (none))) else (Zaq.l0 k x0 x1 x2 x7 (wrap64 (x8 + 1)))) else (Zaq.l0 k x0 x1 x2 x7 (wrap64 (x8 + 1)))) else (none)) else (some x7)) else (none)) else (none)
end
def Zaq.f (k : Nat) (l0 : List (List Int)) (a1 : Int) (a2 : Int) : Option (List Int) := if a1 < 0 then (Zaq.j0 k l0 a1 a2 ([] : List Int) true) else (Zaq.j0 k l0 a1 a2 ([] : List Int) (decide (a1 ≥ (l0.length : Int))))
set_option maxHeartbeats 8000000 in
set_option maxRecDepth 100000 in
theorem Zaq.calls (k : Nat) (A0 : Option Addr) (c0 : Nat) (l0 : List (List Int)) (a1 : Int) (a2 : Int) (r : List Int) (w : World) (hr0 : Kd.C (Kd.slice 3 (Kd.int .i64)) w A0 l0.length l0) (hc0 : l0.length ≤ c0) (h : Zaq.f k l0 a1 a2 = some r) :
  Calls Try.prog 55 #[.slice A0 l0.length c0, .int .i64 a1, .int .i64 a2] w fun e w' => ∃ v0_ : Value, e = .returned (v0_) ∧ Kd.R (Kd.int .i64) 3 w' w.heap.size (fun _ => True) v0_ r ∧ Below w.heap.size w w' := by
 have HR0 := Za.mk hr0
 have HC0 := Za.mk hc0
 clear hr0 hc0
 have HB := Za.mk (Below.refl w.heap.size w)
 have H : (if a1 < 0 then (Zaq.j0 k l0 a1 a2 ([] : List Int) true) else (Zaq.j0 k l0 a1 a2 ([] : List Int) (decide (a1 ≥ (l0.length : Int))))) = some r := h
 clear h
 have HC4 := Za.mk H
 clear H
 go_enter Try.func55, Try.ntmps55
 go_upto_region 2 with (fail)
 go_cut [17] (fun v17 wc => ∃ (kq : Nat) (x17_3 : Bool), v17 = .bool x17_3 ∧ Za (Zaq.j0 kq l0 a1 a2 ([] : List Int) x17_3 = some r) ∧ Za (kq ≤ k) ∧ Za (Kd.R (Kd.int .i64) 3 wc w.heap.size (fun _ => True) (.slice none 0 0) ([] : List Int)) ∧ Za (Below w.heap.size w wc))
 case first =>
  have H := HC4.out
  clear HC4
  by_cases c5 : a1 < 0
  case neg =>
   rw [if_neg c5] at H
   have c5b0 : decide (a1 < 0) = false := decide_eq_false c5
   clear c5
   (first | rw [c5b0] | (simp only [Zax, Zay]; rw [c5b0]) | skip)
   have H' := Za.mk H
   clear H
   go_wp2
   go_meet
   case rel => exact ⟨_, (decide (a1 ≥ (l0.length : Int))), t6_4, H', ⟨by first | omega | exact Nat.le_refl _⟩, ⟨by first | exact Kd.R_nil _ _ _ _ _ | exact Kd.N_nil _ _ _ _ _ | exact Kd.V_nil _ _ _ _ _ | exact Kd.Q_nil _ _ _ _ _ | exact Kd.S_nil _ _ _ _ _⟩, ⟨BD HB⟩⟩
  rw [if_pos c5] at H
  have c5b0 : decide (a1 < 0) = true := decide_eq_true c5
  clear c5
  (first | rw [c5b0] | (simp only [Zax, Zay]; rw [c5b0]) | skip)
  have H' := Za.mk H
  clear H
  go_wp2
  go_meet
  case rel => exact ⟨_, (true), t6_4, H', ⟨by first | omega | exact Nat.le_refl _⟩, ⟨by first | exact Kd.R_nil _ _ _ _ _ | exact Kd.N_nil _ _ _ _ _ | exact Kd.V_nil _ _ _ _ _ | exact Kd.Q_nil _ _ _ _ _ | exact Kd.S_nil _ _ _ _ _⟩, ⟨BD HB⟩⟩
 case rest =>
  clear HC4
  try clear p2
  try clear c5
  try clear c5b0
  obtain ⟨kq, x17_3, rfl, HA, HJ3, HO_7, HB⟩ := hcut
  cases kq with
  | zero => exact absurd HA.out (by simp [Zaq.j0])
  | succ kj3 =>
   have H := HA.out
   clear HA
   simp only [Zaq.j0] at H
   by_cases c6 : x17_3 = true
   case neg =>
    replace c6 := Bool.eq_false_iff.mpr c6
    subst c6
    have H1 : (Zaq.l0 kj3 l0 a1 a2 ([] : List Int) 0) = some r := by rw [if_neg (show ¬ (false = true) by decide)] at H; exact H
    clear H
    have H := H1
    clear H1
    have H' := Za.mk H
    clear H
    go_wp2
    go_loopg [7, 8] kj3 (fun kq v7 v8 w' => ∃ (x7_2 : List Int) (x8_2 : Int), v8 = .int .i64 x8_2 ∧ Za (Zaq.l0 kq l0 a1 a2 x7_2 x8_2 = some r) ∧ Za (kq ≤ kj3) ∧ Za (Kd.R (Kd.int .i64) 3 w' w.heap.size (fun _ => True) v7 x7_2) ∧ Za (Below w.heap.size w w'))
    case atStart => exact ⟨(([] : List Int)), (0), t6_4, H', ⟨Nat.le_refl _⟩, ⟨RD HO_7⟩, ⟨BD HB⟩⟩
    case round =>
     clear H'
     try clear p2
     try clear c5
     try clear c5b0
     try clear c6
     try clear p2
     obtain ⟨x7_2, x8_2, rfl, HA, HK2, HO_7, HB⟩ := hrel
     cases gk with
     | zero => exact absurd HA.out (by simp [Zaq.l0])
     | succ k2 =>
      have H := HA.out
      clear HA
      simp only [Zaq.l0] at H
      by_cases c7 : 0 ≤ a1
      case neg =>
       rw [if_neg c7] at H
       exact absurd H (by simp)
      rw [if_pos c7] at H
      have c7b0 : decide (0 ≤ a1) = true := decide_eq_true c7
      clear c7
      by_cases c8 : a1 < (l0.length : Int)
      case neg =>
       rw [if_neg c8] at H
       exact absurd H (by simp)
      rw [if_pos c8] at H
      have c8b0 : decide (a1 < (l0.length : Int)) = true := decide_eq_true c8
      clear c8
      by_cases c9 : x8_2 < ((Zea l0 a1).length : Int)
      case neg =>
       rw [if_neg c9] at H
       have c9b0 : decide (x8_2 < ((Zea l0 a1).length : Int)) = false := decide_eq_false c9
       clear c9
       obtain rfl := Option.some.inj H
       have p153 : 0 ≤ (a1 : Int) := of_decide_eq_true t6_3
       have q153 : a1 < (l0.length : Int) := of_decide_eq_true t6_3
       obtain ⟨ad153, A153_0, c153_0, e153, hx153_0, hl153_0, hi153_0⟩ := at_L1 HR0.out a1 p153 q153
       cases e153
       replace hx153_0 := (HB.out.cell (World.block_lt_of_cell? w _ hx153_0)).trans hx153_0
       have HR153_0 := Za.mk hi153_0
       have HC153_0 := Za.mk hl153_0
       clear hi153_0 hl153_0
       replace p153 := eq_true p153
       replace q153 := eq_true q153
       go_wp2
       go_ret
       exact ⟨_, by first | rfl | (simp [Zbe, Zbd] <;> rfl) | (simp [*, Zbe, Zbd] <;> rfl), RD HO_7, BD HB⟩
      rw [if_pos c9] at H
      have c9b0 : decide (x8_2 < ((Zea l0 a1).length : Int)) = true := decide_eq_true c9
      clear c9
      by_cases c10 : 0 ≤ x8_2
      case neg =>
       rw [if_neg c10] at H
       exact absurd H (by simp)
      rw [if_pos c10] at H
      have c10b0 : decide (0 ≤ x8_2) = true := decide_eq_true c10
      clear c10
      by_cases c11 : (rd (Zea l0 a1) x8_2) ≥ 0
      case neg =>
       rw [if_neg c11] at H
       have c11b0 : decide (0 ≤ (rd (Zea l0 a1) x8_2)) = false := decide_eq_false c11
       clear c11
       have H' := Za.mk H
       clear H
       have p153 : 0 ≤ (a1 : Int) := of_decide_eq_true t6_3
       have q153 : a1 < (l0.length : Int) := of_decide_eq_true t6_3
       obtain ⟨ad153, A153_0, c153_0, e153, hx153_0, hl153_0, hi153_0⟩ := at_L1 HR0.out a1 p153 q153
       cases e153
       replace hx153_0 := (HB.out.cell (World.block_lt_of_cell? w _ hx153_0)).trans hx153_0
       have HR153_0 := Za.mk hi153_0
       have HC153_0 := Za.mk hl153_0
       clear hi153_0 hl153_0
       replace p153 := eq_true p153
       replace q153 := eq_true q153
       have p154 : 0 ≤ (a1 : Int) := of_decide_eq_true t6_3
       have q154 : a1 < (l0.length : Int) := of_decide_eq_true t6_3
       obtain ⟨ad154, A154_0, c154_0, e154, hx154_0, hl154_0, hi154_0⟩ := at_L1 HR0.out a1 p154 q154
       obtain rfl : ad153 = ad154 := (by injection e154)
       replace hx154_0 := (HB.out.cell (World.block_lt_of_cell? w _ hx154_0)).trans hx154_0
       have HR154_0 := Za.mk hi154_0
       have HC154_0 := Za.mk hl154_0
       clear hi154_0 hl154_0
       replace p154 := eq_true p154
       replace q154 := eq_true q154
       have ea_ := Option.some.inj (hx153_0.symm.trans hx154_0)
       injection ea_ with ea_ en_ ec_
       subst ea_
       subst ec_
       clear en_
       have p155 : 0 ≤ (x8_2 : Int) := of_decide_eq_true t6_3
       have q155 : x8_2 < ((Zea l0 a1).length : Int) := of_decide_eq_true t6_3
       obtain ⟨ad155, e155, hx155_0⟩ := Kd.at_int HR154_0.out x8_2 p155 q155
       cases e155
       replace hx155_0 := (HB.out.cell (World.block_lt_of_cell? w _ hx155_0)).trans hx155_0
       replace p155 := eq_true p155
       replace q155 := eq_true q155
       go_wp2
       go_roundg k2
       case measure => have := HJ3.out; have := HK2.out; omega
       case rel => exact ⟨(x7_2), (wrap64 (x8_2 + 1)), t6_4, H', ⟨by have := HJ3.out; have := HK2.out; omega⟩, ⟨RD HO_7⟩, ⟨BD HB⟩⟩
      rw [if_pos c11] at H
      have c11b0 : decide (0 ≤ (rd (Zea l0 a1) x8_2)) = true := decide_eq_true c11
      clear c11
      by_cases c12 : (rd (Zea l0 a1) x8_2) < a2
      case neg =>
       rw [if_neg c12] at H
       have c12b0 : decide ((rd (Zea l0 a1) x8_2) < a2) = false := decide_eq_false c12
       clear c12
       have H' := Za.mk H
       clear H
       have p153 : 0 ≤ (a1 : Int) := of_decide_eq_true t6_3
       have q153 : a1 < (l0.length : Int) := of_decide_eq_true t6_3
       obtain ⟨ad153, A153_0, c153_0, e153, hx153_0, hl153_0, hi153_0⟩ := at_L1 HR0.out a1 p153 q153
       cases e153
       replace hx153_0 := (HB.out.cell (World.block_lt_of_cell? w _ hx153_0)).trans hx153_0
       have HR153_0 := Za.mk hi153_0
       have HC153_0 := Za.mk hl153_0
       clear hi153_0 hl153_0
       replace p153 := eq_true p153
       replace q153 := eq_true q153
       have p154 : 0 ≤ (a1 : Int) := of_decide_eq_true t6_3
       have q154 : a1 < (l0.length : Int) := of_decide_eq_true t6_3
       obtain ⟨ad154, A154_0, c154_0, e154, hx154_0, hl154_0, hi154_0⟩ := at_L1 HR0.out a1 p154 q154
       obtain rfl : ad153 = ad154 := (by injection e154)
       replace hx154_0 := (HB.out.cell (World.block_lt_of_cell? w _ hx154_0)).trans hx154_0
       have HR154_0 := Za.mk hi154_0
       have HC154_0 := Za.mk hl154_0
       clear hi154_0 hl154_0
       replace p154 := eq_true p154
       replace q154 := eq_true q154
       have ea_ := Option.some.inj (hx153_0.symm.trans hx154_0)
       injection ea_ with ea_ en_ ec_
       subst ea_
       subst ec_
       clear en_
       have p155 : 0 ≤ (x8_2 : Int) := of_decide_eq_true t6_3
       have q155 : x8_2 < ((Zea l0 a1).length : Int) := of_decide_eq_true t6_3
       obtain ⟨ad155, e155, hx155_0⟩ := Kd.at_int HR154_0.out x8_2 p155 q155
       cases e155
       replace hx155_0 := (HB.out.cell (World.block_lt_of_cell? w _ hx155_0)).trans hx155_0
       replace p155 := eq_true p155
       replace q155 := eq_true q155
       go_wp2
       go_roundg k2
       case measure => have := HJ3.out; have := HK2.out; omega
       case rel => exact ⟨(x7_2), (wrap64 (x8_2 + 1)), t6_4, H', ⟨by have := HJ3.out; have := HK2.out; omega⟩, ⟨RD HO_7⟩, ⟨BD HB⟩⟩
      rw [if_pos c12] at H
      have c12b0 : decide ((rd (Zea l0 a1) x8_2) < a2) = true := decide_eq_true c12
      clear c12
      by_cases c13 : (rd (Zea l0 a1) x8_2) = a1
      case neg =>
       rw [if_neg c13] at H
       have c13b0 : ((rd (Zea l0 a1) x8_2) == a1) = false := beq_eq_false_iff_ne.mpr c13
       have c13b1 : ((rd (Zea l0 a1) x8_2) != a1) = true := bne_iff_ne.mpr c13
       by_cases c14 : x7_2.length < 17592186044416
       case neg =>
        rw [if_neg c14] at H
        exact absurd H (by simp)
       rw [if_pos c14] at H
       have LMc14 := Za.mk c14
       clear c14
       obtain ⟨y156, hy156⟩ : ∃ y_ : List Int, y_ = (x7_2 ++ [rd (Zea l0 a1) x8_2]) := ⟨_, rfl⟩
       replace H : (Zaq.l0 k2 l0 a1 a2 y156 (wrap64 (x8_2 + 1))) = some r := by first | (rw [hy156]; with_reducible exact H) | (have H2_ := (Option.bind_some _ _).symm.trans H; rw [hy156]; with_reducible exact H2_) | (have H2_ := (Option.bind_some _ _).symm.trans H; with_reducible exact H2_) | with_reducible exact H | (rw [hy156]; exact H) | exact H
       have Ny156 := Za.mk hy156
       clear hy156
       have H' := Za.mk H
       clear H
       have p153 : 0 ≤ (a1 : Int) := of_decide_eq_true t6_3
       have q153 : a1 < (l0.length : Int) := of_decide_eq_true t6_3
       obtain ⟨ad153, A153_0, c153_0, e153, hx153_0, hl153_0, hi153_0⟩ := at_L1 HR0.out a1 p153 q153
       cases e153
       replace hx153_0 := (HB.out.cell (World.block_lt_of_cell? w _ hx153_0)).trans hx153_0
       have HR153_0 := Za.mk hi153_0
       have HC153_0 := Za.mk hl153_0
       clear hi153_0 hl153_0
       replace p153 := eq_true p153
       replace q153 := eq_true q153
       have p154 : 0 ≤ (a1 : Int) := of_decide_eq_true t6_3
       have q154 : a1 < (l0.length : Int) := of_decide_eq_true t6_3
       obtain ⟨ad154, A154_0, c154_0, e154, hx154_0, hl154_0, hi154_0⟩ := at_L1 HR0.out a1 p154 q154
       obtain rfl : ad153 = ad154 := (by injection e154)
       replace hx154_0 := (HB.out.cell (World.block_lt_of_cell? w _ hx154_0)).trans hx154_0
       have HR154_0 := Za.mk hi154_0
       have HC154_0 := Za.mk hl154_0
       clear hi154_0 hl154_0
       replace p154 := eq_true p154
       replace q154 := eq_true q154
       have ea_ := Option.some.inj (hx153_0.symm.trans hx154_0)
       injection ea_ with ea_ en_ ec_
       subst ea_
       subst ec_
       clear en_
       have p155 : 0 ≤ (x8_2 : Int) := of_decide_eq_true t6_3
       have q155 : x8_2 < ((Zea l0 a1).length : Int) := of_decide_eq_true t6_3
       obtain ⟨ad155, e155, hx155_0⟩ := Kd.at_int HR154_0.out x8_2 p155 q155
       cases e155
       replace hx155_0 := (HB.out.cell (World.block_lt_of_cell? w _ hx155_0)).trans hx155_0
       replace p155 := eq_true p155
       replace q155 := eq_true q155
       go_wp2_with (first | ((with_reducible refine Zdl (b := .append) (xs := #[.tmp 47, .tmp 49]) rfl ?_); (try (refine Zdr (by rfl) ?_; dsimp only)); at_builtin; refine Kd.R_append (Kd.int .i64) (w0 := w) w.heap.size rfl (.tmp 47) (.tmp 49) 60 3 (.int .i64 0) 8 rfl Try.underlying60 info3 rfl (by decide) (by omega) u7 x7_2 (rd (Zea l0 a1) x8_2) [.int .i64 (rd (Zea l0 a1) x8_2)] (fun _ => True) (fun _ => False) rfl rfl ?aP (fun _ hk => hk.elim) ?aF ?aO ?aB ?aS ?aL ?_; (case aP => exact rfl); (case aB => exact (BD HB)); (case aF => exact (fun _ _ => trivial)); (case aO => exact (RD HO_7)); (case aS => exact (Zat (BD HB))); (case aL => have := LMc14.out; omega); intro v157 w15 ho hb hg hat; rw [← Ny156.out] at ho; have n0_ := Za.mk (hb); have n1_ := Za.mk (ho); clear HB; clear HO_7; have HB := n0_; have HO158 := n1_; clear n0_ n1_; clear ho hb hg hat))
       go_roundg k2
       case measure => have := HJ3.out; have := HK2.out; omega
       case rel => exact ⟨(y156), (wrap64 (x8_2 + 1)), t6_4, H', ⟨by have := HJ3.out; have := HK2.out; omega⟩, ⟨RD HO158⟩, ⟨BD HB⟩⟩
      rw [if_pos c13] at H
      have c13b0 : ((rd (Zea l0 a1) x8_2) == a1) = true := beq_iff_eq.mpr c13
      have c13b1 : ((rd (Zea l0 a1) x8_2) != a1) = false := bne_eq_false_iff_eq.mpr c13
      clear c13
      have H' := Za.mk H
      clear H
      have p153 : 0 ≤ (a1 : Int) := of_decide_eq_true t6_3
      have q153 : a1 < (l0.length : Int) := of_decide_eq_true t6_3
      obtain ⟨ad153, A153_0, c153_0, e153, hx153_0, hl153_0, hi153_0⟩ := at_L1 HR0.out a1 p153 q153
      cases e153
      replace hx153_0 := (HB.out.cell (World.block_lt_of_cell? w _ hx153_0)).trans hx153_0
      have HR153_0 := Za.mk hi153_0
      have HC153_0 := Za.mk hl153_0
      clear hi153_0 hl153_0
      replace p153 := eq_true p153
      replace q153 := eq_true q153
      have p154 : 0 ≤ (a1 : Int) := of_decide_eq_true t6_3
      have q154 : a1 < (l0.length : Int) := of_decide_eq_true t6_3
      obtain ⟨ad154, A154_0, c154_0, e154, hx154_0, hl154_0, hi154_0⟩ := at_L1 HR0.out a1 p154 q154
      obtain rfl : ad153 = ad154 := (by injection e154)
      replace hx154_0 := (HB.out.cell (World.block_lt_of_cell? w _ hx154_0)).trans hx154_0
      have HR154_0 := Za.mk hi154_0
      have HC154_0 := Za.mk hl154_0
      clear hi154_0 hl154_0
      replace p154 := eq_true p154
      replace q154 := eq_true q154
      have ea_ := Option.some.inj (hx153_0.symm.trans hx154_0)
      injection ea_ with ea_ en_ ec_
      subst ea_
      subst ec_
      clear en_
      have p155 : 0 ≤ (x8_2 : Int) := of_decide_eq_true t6_3
      have q155 : x8_2 < ((Zea l0 a1).length : Int) := of_decide_eq_true t6_3
      obtain ⟨ad155, e155, hx155_0⟩ := Kd.at_int HR154_0.out x8_2 p155 q155
      cases e155
      replace hx155_0 := (HB.out.cell (World.block_lt_of_cell? w _ hx155_0)).trans hx155_0
      replace p155 := eq_true p155
      replace q155 := eq_true q155
      go_wp2
      go_roundg k2
      case measure => have := HJ3.out; have := HK2.out; omega
      case rel => exact ⟨(x7_2), (wrap64 (x8_2 + 1)), t6_4, H', ⟨by have := HJ3.out; have := HK2.out; omega⟩, ⟨RD HO_7⟩, ⟨BD HB⟩⟩
   subst c6
   have H1 : (some ([] : List Int)) = some r := by rw [if_pos rfl] at H; exact H
   clear H
   have H := H1
   clear H1
   obtain rfl := Option.some.inj H
   go_wp2
   go_ret
   exact ⟨_, by first | rfl | (simp [Zbe, Zbd] <;> rfl) | (simp [*, Zbe, Zbd] <;> rfl), RD HO_7, BD HB⟩
end Go.Proofs.Ytclgclcoblfddaa.P
