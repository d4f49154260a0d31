/- Printed by a program for this claim: functions of the program as plain functions, and that the machine computes them. -/
import Derived.Test.YtclgclcoblfddaaPx0
import Derived.Test.YtclgclcoblfddaaPShort
import Derived.Test.YtclgclcoblfddaaPx6
namespace Go.Proofs.Ytclgclcoblfddaa.P
open Go.RowKit Go.Proofs.YtclgclcoblfddaaW.PrintWords Go.Proofs.YtclgclcoblfddaaW.PrintLast Go.Proofs.YtclgclcoblfddaaW.PrintMore
attribute [local go_sem] Zeg Zee Zfg Zff Zdo Zdm Zef Zed
set_option linter.unusedVariables false
set_option linter.unusedSimpArgs false
theorem Zex {p : Prop} (h : p := by decide) : p := h
theorem t7_9 {p : Prop} (h : p := by kernel_rfl) : p := h
theorem t7_8 {p : Prop} (h : p := by exact (fun _ hk => hk)) : p := h
theorem t7_7 {p : Prop} (h : p := by exact (fun k_ hk_ => ⟨hk_.1.1.1, hk_.1.1.2⟩)) : p := h
theorem t7_6 {p : Prop} (h : p := by first | rfl | (simp; done) | (simp [*]; done)) : p := h
theorem t7_5 {p : Prop} (h : p := by exact (fun k_ hk_ => ⟨hk_.1.1.1.1, hk_.1.1.1.2, hk_.1.1.2⟩)) : p := h
theorem t7_4 {p : Prop} (h : p := by first | exact Kd.R_ne HO_7.out BK159.out  (by decide) | (intro h_; have h2_ := HO_7.out.1 _ h_.symm; simp at h2_)) : p := h
theorem t7_3 {p : Prop} (h : p := by (try simp only [List.map_toArray, List.map_cons, List.map_nil]); first | done | rfl | (simp only [List.length_drop, List.length_take]; rfl)) : p := h
theorem t7_2 {p : Prop} (h : p := by repeat (first | (with_reducible first | exact HB.out | apply Zau | apply Zaj | apply Zal | refine Zai ?_ GE159.out) | exact HB.out)) : p := h
theorem t7_1 {p : Prop} (h : p := by repeat (first | (with_reducible first | exact HB.out | apply Zau | apply Zaj | apply Zal | refine Zai ?_ GE159.out | refine Zai ?_ GE160.out) | exact HB.out)) : p := h
theorem t7_0 {p : Prop} (h : p := by exact (fun k_ hk_ => Or.elim hk_ (fun hs_ => fun e_ => (Kd.R_away HO_7.out (fun _ hk => hk)) (by rw [← e_]; exact hs_)) (fun hn_ => (Kd.freshB (g := gb160) (o := .cells #[.int .i64 a2_0, .int .u8 a2_1, .bool a2_2] 44 (0, 0)) (KB BK160) k_ hn_)))) : p := h
def u7_0 : Array Bool := #[false, false, false, false, false, false]
def u7_1 : Array Bool := #[true, false, false, false, false, false]
def u7_2 : Array Bool := #[true, true, false, false, false, false]
def u7_3 : Array Bool := #[true, true, true, false, false, false]
def u7_4 : Array Bool := #[true, true, true, false, true, false]
def u7_5 : Array Bool := #[true, true, true, true, true, false]
def u7_6 : Array Bool := #[true, true, true, true, true, true]
def u7_7 : Array Bool := #[false, false, false, false, false, false, false, false, false, false, false]
def u7_8 : Array Bool := #[true, false, false, false, false, false, false, false, false, false, false]
def u7_9 : Array Bool := #[true, true, false, false, false, false, false, false, false, false, false]
def u7_10 : Array Bool := #[true, true, false, true, false, false, false, false, false, false, false]
def u7_11 : Array Bool := #[true, true, false, true, true, false, false, false, false, false, false]
def u7_12 : Array Bool := #[true, true, false, true, true, false, true, false, false, false, false]
def u7_13 : Array Bool := #[true, true, false, true, true, false, true, false, true, false, false]
def u7_14 : Array Bool := #[true, true, true, true, true, false, true, false, true, false, false]
def u7_15 : Array Bool := #[true, true, true, true, true, false, true, true, true, false, false]
def u7_16 : Array Bool := #[true, true, true, true, true, true, true, true, true, false, false]
def u7_17 : Array Bool := #[true, true, true, true, true, true, true, true, true, true, false]
def u7_18 : Array Bool := #[true, true, true, true, true, true, true, true, true, true, true]
mutual
def Zag.j0 : Nat → List Bool → List (S44) → Int → Int → Bool → List (List Int) → List (List Int) → List (List Int) → List (List Int) → List (List Int) → List (List Int) → List (List Int) → Int → Int → Bool → Option ((List (S44)))
 | 0, _, _, _, _, _, _, _, _, _, _, _, _, _, _, _ => none
 | k + 1, x1, x7, x8, x9, x26, x160000, x160001, x160002, x160003, x160004, x160005, x160006, x161000, x161001, x161002 => if x26 = true then (some x7) else (if x161001 = 2 then (Zag.j1 k x1 x7 x8 x9 x160000 x160001 x160002 x160003 x160004 x160005 x160006 x161000 x161001 x161002) else ((Zaq.f k x160000 x9 x8).bind fun t162 => ((Zar.f k x7 t162 1 true x1 false).bind fun t165 => ((Zaq.f k x160002 x9 x8).bind fun t168 => ((Zar.f k t165 t168 1 true x1 false).bind fun t171 => ((Zaq.f k x160001 x9 x8).bind fun t174 => ((Zar.f k t171 t174 1 false x1 false).bind fun t177 => ((Zaq.f k x160003 x9 x8).bind fun t180 => ((Zar.f k t177 t180 2 true x1 false).bind fun t183 => (Zag.j1 k x1 t183 x8 x9 x160000 x160001 x160002 x160003 x160004 x160005 x160006 x161000 x161001 x161002))))))))))
def Zag.j1 : Nat → List Bool → List (S44) → Int → Int → List (List Int) → List (List Int) → List (List Int) → List (List Int) → List (List Int) → List (List Int) → List (List Int) → Int → Int → Bool → Option ((List (S44)))
 | 0, _, _, _, _, _, _, _, _, _, _, _, _, _, _ => none
 | k + 1, x1, x7, x8, x9, x160000, x160001, x160002, x160003, x160004, x160005, x160006, x161000, x161001, x161002 => if x161001 = 1 then (some x7) else ((Zaq.f k x160004 x9 x8).bind fun t186 => ((Zar.f k x7 t186 x161001 true x1 true).bind fun t189 => ((Zaq.f k x160005 x9 x8).bind fun t192 => ((Zar.f k t189 t192 x161001 true x1 true).bind fun t195 => ((Zaq.f k x160006 x9 x8).bind fun t198 => ((Zar.f k t195 t198 x161001 true x1 true).bind fun t201 => (some t201)))))))
end
def Zag.f (k : Nat) (l0_0 : List (List Int)) (l0_1 : List (List Int)) (l0_2 : List (List Int)) (l0_3 : List (List Int)) (l0_4 : List (List Int)) (l0_5 : List (List Int)) (l0_6 : List (List Int)) (l1 : List Bool) (a2_0 : Int) (a2_1 : Int) (a2_2 : Bool) : Option ((List (S44))) := if a2_0 < 0 then (Zag.j0 k l1 ([] : List (S44)) (l1.length : Int) a2_0 true l0_0 l0_1 l0_2 l0_3 l0_4 l0_5 l0_6 a2_0 a2_1 a2_2) else (if a2_0 ≥ (l1.length : Int) then (Zag.j0 k l1 ([] : List (S44)) (l1.length : Int) a2_0 true l0_0 l0_1 l0_2 l0_3 l0_4 l0_5 l0_6 a2_0 a2_1 a2_2) else ((Zcb.f a2_1).bind fun t161 => (Zag.j0 k l1 ([] : List (S44)) (l1.length : Int) a2_0 (!t161) l0_0 l0_1 l0_2 l0_3 l0_4 l0_5 l0_6 a2_0 a2_1 a2_2)))
def Zag.T11 : Bool × List (List Nat × List Nat) := (true, [([], []), ([], []), ([1], [1]), ([], []), ([], []), ([2, 3, 4], [2, 3, 4]), ([], []), ([6], [6]), ([], []), ([0, 5, 7, 8, 5], [0, 5, 7, 8]), ([9, 9, 0, 1, 2, 3, 4, 5, 6, 7, 8, 9], [0, 9])])
def Zag.B11 : List Nat := [0, 0, 2, 0, 0, 30, 0, 64, 0, 511, 1023]
theorem Zag.tab11 : rtab .any (opsOf Try.f25 11) = Zag.T11 := by kernel_rfl
theorem Zag.bits11 : Zeo Zag.T11.2 Zag.B11 = true := by kernel_rfl
def Zag.T12 : Bool × List (List Nat × List Nat) := (true, [([], []), ([], []), ([1], [1]), ([], []), ([], []), ([2, 3, 4], [2, 3, 4]), ([], []), ([6], [6]), ([], []), ([0, 5, 7, 8, 5], [0, 5, 7, 8]), ([9, 9, 0, 1, 2, 3, 4, 5, 6, 7, 8, 9], [0, 9])])
def Zag.B12 : List Nat := [0, 0, 2, 0, 0, 30, 0, 64, 0, 511, 1023]
theorem Zag.tab12 : rtab .any (opsOf Try.f25 12) = Zag.T12 := by kernel_rfl
theorem Zag.bits12 : Zeo Zag.T12.2 Zag.B12 = true := by kernel_rfl
def Zag.T13 : Bool × List (List Nat × List Nat) := (true, [([], []), ([], []), ([1], [1]), ([], []), ([], []), ([2, 3, 4], [2, 3, 4]), ([], []), ([6], [6]), ([], []), ([0, 5, 7, 8, 5], [0, 5, 7, 8]), ([9, 9, 0, 1, 2, 3, 4, 5, 6, 7, 8, 9], [0, 9])])
def Zag.B13 : List Nat := [0, 0, 2, 0, 0, 30, 0, 64, 0, 511, 1023]
theorem Zag.tab13 : rtab .any (opsOf Try.f25 13) = Zag.T13 := by kernel_rfl
theorem Zag.bits13 : Zeo Zag.T13.2 Zag.B13 = true := by kernel_rfl
set_option maxHeartbeats 8000000 in
set_option maxRecDepth 100000 in
theorem Zag.calls (k : Nat) (A0_0 : Option Addr) (c0_0 : Nat) (l0_0 : List (List Int)) (A0_1 : Option Addr) (c0_1 : Nat) (l0_1 : List (List Int)) (A0_2 : Option Addr) (c0_2 : Nat) (l0_2 : List (List Int)) (A0_3 : Option Addr) (c0_3 : Nat) (l0_3 : List (List Int)) (A0_4 : Option Addr) (c0_4 : Nat) (l0_4 : List (List Int)) (A0_5 : Option Addr) (c0_5 : Nat) (l0_5 : List (List Int)) (A0_6 : Option Addr) (c0_6 : Nat) (l0_6 : List (List Int)) (A1 : Option Addr) (c1 : Nat) (l1 : List Bool) (a2_0 : Int) (a2_1 : Int) (a2_2 : Bool) (r : List (S44)) (w : World) (hr0_0 : Kd.C (Kd.slice 3 (Kd.int .i64)) w A0_0 l0_0.length l0_0) (hc0_0 : l0_0.length ≤ c0_0) (hr0_1 : Kd.C (Kd.slice 3 (Kd.int .i64)) w A0_1 l0_1.length l0_1) (hc0_1 : l0_1.length ≤ c0_1) (hr0_2 : Kd.C (Kd.slice 3 (Kd.int .i64)) w A0_2 l0_2.length l0_2) (hc0_2 : l0_2.length ≤ c0_2) (hr0_3 : Kd.C (Kd.slice 3 (Kd.int .i64)) w A0_3 l0_3.length l0_3) (hc0_3 : l0_3.length ≤ c0_3) (hr0_4 : Kd.C (Kd.slice 3 (Kd.int .i64)) w A0_4 l0_4.length l0_4) (hc0_4 : l0_4.length ≤ c0_4) (hr0_5 : Kd.C (Kd.slice 3 (Kd.int .i64)) w A0_5 l0_5.length l0_5) (hc0_5 : l0_5.length ≤ c0_5) (hr0_6 : Kd.C (Kd.slice 3 (Kd.int .i64)) w A0_6 l0_6.length l0_6) (hc0_6 : l0_6.length ≤ c0_6) (hr1 : Kd.C Kd.bool w A1 l1.length l1) (hc1 : l1.length ≤ c1) (h : Zag.f k l0_0 l0_1 l0_2 l0_3 l0_4 l0_5 l0_6 l1 a2_0 a2_1 a2_2 = some r) :
  Calls Try.prog 25 #[.agg #[.slice A0_0 l0_0.length c0_0, .slice A0_1 l0_1.length c0_1, .slice A0_2 l0_2.length c0_2, .slice A0_3 l0_3.length c0_3, .slice A0_4 l0_4.length c0_4, .slice A0_5 l0_5.length c0_5, .slice A0_6 l0_6.length c0_6], .slice A1 l1.length c1, .agg #[.int .i64 a2_0, .int .u8 a2_1, .bool a2_2]] w fun e w' => ∃ v0_ : Value, e = .returned (v0_) ∧ Kd.R k44 44 w' w.heap.size (fun _ => True) v0_ r ∧ Below w.heap.size w w' := by
 have hu38 := Try.underlying38
 have hu44 := Try.underlying44
 have HR0_0 := Za.mk hr0_0
 have HC0_0 := Za.mk hc0_0
 clear hr0_0 hc0_0
 have HR0_1 := Za.mk hr0_1
 have HC0_1 := Za.mk hc0_1
 clear hr0_1 hc0_1
 have HR0_2 := Za.mk hr0_2
 have HC0_2 := Za.mk hc0_2
 clear hr0_2 hc0_2
 have HR0_3 := Za.mk hr0_3
 have HC0_3 := Za.mk hc0_3
 clear hr0_3 hc0_3
 have HR0_4 := Za.mk hr0_4
 have HC0_4 := Za.mk hc0_4
 clear hr0_4 hc0_4
 have HR0_5 := Za.mk hr0_5
 have HC0_5 := Za.mk hc0_5
 clear hr0_5 hc0_5
 have HR0_6 := Za.mk hr0_6
 have HC0_6 := Za.mk hc0_6
 clear hr0_6 hc0_6
 have HR1 := Za.mk hr1
 have HC1 := Za.mk hc1
 clear hr1 hc1
 have HB := Za.mk (Below.refl w.heap.size w)
 have H : (if a2_0 < 0 then (Zag.j0 k l1 ([] : List (S44)) (l1.length : Int) a2_0 true l0_0 l0_1 l0_2 l0_3 l0_4 l0_5 l0_6 a2_0 a2_1 a2_2) else (if a2_0 ≥ (l1.length : Int) then (Zag.j0 k l1 ([] : List (S44)) (l1.length : Int) a2_0 true l0_0 l0_1 l0_2 l0_3 l0_4 l0_5 l0_6 a2_0 a2_1 a2_2) else ((Zcb.f a2_1).bind fun t161 => (Zag.j0 k l1 ([] : List (S44)) (l1.length : Int) a2_0 (!t161) l0_0 l0_1 l0_2 l0_3 l0_4 l0_5 l0_6 a2_0 a2_1 a2_2)))) = some r := h
 clear h
 have HC4 := Za.mk H
 clear H
 go_enter Try.func25, Try.ntmps25
 try go_wp2_with (first | ((with_reducible refine Zca (N := 3) rfl ?_); refine Zbu ?hg (N := 3) ?hd (cs := #[.slice A0_0 l0_0.length c0_0, .slice A0_1 l0_1.length c0_1, .slice A0_2 l0_2.length c0_2, .slice A0_3 l0_3.length c0_3, .slice A0_4 l0_4.length c0_4, .slice A0_5 l0_5.length c0_5, .slice A0_6 l0_6.length c0_6]) (t := 38) ?hr ?_; (case hd => rfl); (case hg => rfl); (case hr => first | (go_simp; done) | (go_simp; rfl)); intro gb159 hg w5 hbox hb; have n0_ := BS HB hb; have n1_ := Za.mk (hbox); have n2_ := Za.mk ((by rw [hg]; exact (Zat (BD HB)) : w.heap.size ≤ gb159)); have n3_ := Za.mk ((by rw [hg]; exact (Zat (BD HB)) : w.heap.size ≤ gb159)); clear HB; have HB := n0_; have BK159 := n1_; have GW159 := n2_; have GE159 := n3_; clear n0_ n1_ n2_ n3_; clear hb hbox hg) | ((with_reducible refine Zca (N := 5) rfl ?_); refine Zbu ?hg (N := 5) ?hd (cs := #[.int .i64 a2_0, .int .u8 a2_1, .bool a2_2]) (t := 44) ?hr ?_; (case hd => rfl); (case hg => rfl); (case hr => first | (go_simp; done) | (go_simp; rfl)); intro gb160 hg w6 hbox hb; have n0_ := Za.mk (Zam (KB BK159) hb); have n1_ := Za.mk (Zbb t7_2 hb); have n2_ := Za.mk (hbox); have n3_ := Za.mk ((by rw [hg]; exact (Zat t7_2) : w.heap.size ≤ gb160)); have n4_ := Za.mk ((by rw [hg]; exact (Zat t7_2) : w.heap.size ≤ gb160)); have n5_ := Za.mk ((by rw [hg]; exact Nat.ne_of_lt (Zcw (KB BK159)) : gb159 ≠ gb160)); have n6_ := Za.mk ((by rw [hg]; exact Nat.ne_of_gt (Zcw (KB BK159)) : gb160 ≠ gb159)); clear BK159; clear HB; have BK159 := n0_; have HB := n1_; have BK160 := n2_; have GW160 := n3_; have GE160 := n4_; have NB159_160 := n5_; have NB160_159 := n6_; clear n0_ n1_ n2_ n3_ n4_ n5_ n6_; clear hb hbox hg))
 have n0_ := Za.mk (Zap BK159.out)
 have n1_ := Za.mk (Zap BK160.out)
 have n2_ := Za.mk (Zal HB.out)
 clear BK159
 clear BK160
 clear HB
 have BK159 := n0_
 have BK160 := n1_
 have HB := n2_
 clear n0_ n1_ n2_
 refine Zek (n := 6) (S := fun w' => w'.cell? ⟨gb160, 0, none⟩ = some (.int .i64 a2_0) ∧ w'.cell? ⟨gb160, 1, none⟩ = some (.int .u8 a2_1) ∧ w'.cell? ⟨gb160, 2, none⟩ = some (.bool a2_2)) (ds := []) u7_0 t7_9 rfl rfl ⟨(Zah BK160.out 0).trans rfl, (Zah BK160.out 1).trans rfl, (Zah BK160.out 2).trans rfl⟩ (fun hHeld => ?_)
 generalize w6.drew = w7 at BK159 BK160 HB hHeld ⊢
 refine Zbc (i := 0) (N := some 10) (v := ?_) (a' := ?_) u7_1 rfl rfl t7_9 (fun _ _ _ h => h) (Or.inl ⟨by rfl, ?_⟩) ?_ ?_
 rotate_left
 ·intro w'
  go_simp
  with_reducible rfl
 rotate_left
 ·simp only [Act.put, s0_, s1_, s2_, Zax, Zay]
  rfl
 refine Zbc (i := 1) (N := some 11) (v := ?_) (a' := ?_) u7_2 rfl rfl t7_9 (fun _ _ _ h => h) (Or.inl ⟨by rfl, ?_⟩) ?_ ?_
 rotate_left
 ·intro w'
  go_simp
  with_reducible rfl
 rotate_left
 ·simp only [Act.put, s0_, s1_, s2_, Zax, Zay]
  rfl
 refine Zbc (i := 2) (N := some 12) (v := ?_) (a' := ?_) u7_3 rfl rfl t7_9 (fun _ _ _ h => h) (Or.inl ⟨by rfl, ?_⟩) ?_ ?_
 rotate_left
 ·intro w'
  go_simp
  with_reducible rfl
 rotate_left
 ·simp only [Act.put, s0_, s1_, s2_, Zax, Zay]
  rfl
 refine Zbc (i := 4) (N := some 8) (v := ?_) (a' := ?_) u7_4 rfl rfl t7_9 (fun _ _ _ h => h) (Or.inl ⟨by rfl, ?_⟩) ?_ ?_
 rotate_left
 ·intro w'
  go_simp
  with_reducible rfl
 rotate_left
 ·simp only [Act.put, s0_, s1_, s2_, Zax, Zay]
  rfl
 refine Zdh (i := 3) (N := some 13) (v := ?_) (a' := ?_) u7_5 rfl rfl t7_9 (fun _ _ _ h => h) (Or.inl ⟨by rfl, ?_⟩) hHeld ?_ ?_
 rotate_left
 ·rintro w' ⟨s0, s1, s2⟩
  go_simp
  with_reducible rfl
 rotate_left
 ·simp only [Act.put, s0_, s1_, s2_, Zax, Zay]
  rfl
 refine Zbc (i := 5) (N := some 9) (v := ?_) (a' := ?_) u7_6 rfl rfl t7_9 (fun _ _ _ h => h) (Or.inl ⟨by rfl, ?_⟩) ?_ ?_
 rotate_left
 ·intro w'
  go_simp
  with_reducible rfl
 rotate_left
 ·simp only [Act.put, s0_, s1_, s2_, Zax, Zay]
  rfl
 refine done_ t7_9 ?_
 go_upto_region 3 with (fail)
 go_cut [26] (fun v26 wc => ∃ (kq : Nat) (x26_3 : Bool), v26 = .bool x26_3 ∧ Za (Zag.j0 kq l1 ([] : List (S44)) (l1.length : Int) a2_0 x26_3 l0_0 l0_1 l0_2 l0_3 l0_4 l0_5 l0_6 a2_0 a2_1 a2_2 = some r) ∧ Za (kq ≤ k) ∧ Za (Kd.R k44 44 wc w.heap.size (fun k_ => k_ ≠ gb160) (.slice none 0 0) ([] : List (S44))) ∧ Za (wc.heap[gb159]? = some (.cells #[(.slice A0_0 l0_0.length c0_0), (.slice A0_1 l0_1.length c0_1), (.slice A0_2 l0_2.length c0_2), (.slice A0_3 l0_3.length c0_3), (.slice A0_4 l0_4.length c0_4), (.slice A0_5 l0_5.length c0_5), (.slice A0_6 l0_6.length c0_6)] 38 (0, 0))) ∧ Za (wc.heap[gb160]? = some (.cells #[.int .i64 a2_0, .int .u8 a2_1, .bool a2_2] 44 (0, 0))) ∧ Za (Below w.heap.size w wc))
 case first =>
  have H := HC4.out
  clear HC4
  by_cases c8 : a2_0 < 0
  case neg =>
   rw [if_neg c8] at H
   have c8b0 : decide (a2_0 < 0) = false := decide_eq_false c8
   clear c8
   (first | rw [c8b0] | (simp only [Zax, Zay]; rw [c8b0]) | skip)
   by_cases c9 : a2_0 ≥ (l1.length : Int)
   case neg =>
    rw [if_neg c9] at H
    have c9b0 : decide ((l1.length : Int) ≤ a2_0) = false := decide_eq_false c9
    clear c9
    replace H := Option.bind_eq_some_iff.mp H
    obtain ⟨t161, A100, H⟩ := H
    try dsimp only at H
    have A10 := Za.mk A100
    clear A100
    have H' := Za.mk H
    clear H
    have hnb11 := NB160_159.out
    have hnc11 := NB159_160.out
    obtain ⟨hcz12_0, hcz12_1, hcz12_2, hfz12_0, hfz12_1, hfz12_2⟩ := cz3 BK160
    go_wp2_with (first | (go_at_call 49; (with_reducible refine (Zcb.calls a2_1 t161 _ A10.out).mono ?_); rintro e w' ⟨rfl, ⟨nd, rfl⟩⟩))
    go_meet
    case rel => exact ⟨_, (!t161), t7_6, H', ⟨by first | omega | exact Nat.le_refl _⟩, ⟨by first | exact Kd.R_nil _ _ _ _ _ | exact Kd.N_nil _ _ _ _ _ | exact Kd.V_nil _ _ _ _ _ | exact Kd.Q_nil _ _ _ _ _ | exact Kd.S_nil _ _ _ _ _⟩, ⟨by (with_reducible repeat (first | refine Zan ?_ _ | refine Zap ?_ | refine Zao ?_ _)); exact BK159.out⟩, ⟨by (with_reducible repeat (first | refine Zan ?_ _ | refine Zap ?_ | refine Zao ?_ _)); exact BK160.out⟩, ⟨by repeat (first | (with_reducible first | exact HB.out | apply Zau | apply Zaj | apply Zal | refine Zai ?_ GE159.out | refine Zai ?_ GE160.out) | exact HB.out)⟩⟩
   rw [if_pos c9] at H
   have c9b0 : decide ((l1.length : Int) ≤ a2_0) = true := decide_eq_true c9
   clear c9
   have H' := Za.mk H
   clear H
   go_wp2
   go_meet
   case rel => exact ⟨_, (true), t7_6, H', ⟨by first | omega | exact Nat.le_refl _⟩, ⟨by first | exact Kd.R_nil _ _ _ _ _ | exact Kd.N_nil _ _ _ _ _ | exact Kd.V_nil _ _ _ _ _ | exact Kd.Q_nil _ _ _ _ _ | exact Kd.S_nil _ _ _ _ _⟩, ⟨by (with_reducible repeat (first | refine Zan ?_ _ | refine Zap ?_ | refine Zao ?_ _)); exact BK159.out⟩, ⟨by (with_reducible repeat (first | refine Zan ?_ _ | refine Zap ?_ | refine Zao ?_ _)); exact BK160.out⟩, ⟨by repeat (first | (with_reducible first | exact HB.out | apply Zau | apply Zaj | apply Zal | refine Zai ?_ GE159.out | refine Zai ?_ GE160.out) | exact HB.out)⟩⟩
  rw [if_pos c8] at H
  have c8b0 : decide (a2_0 < 0) = true := decide_eq_true c8
  clear c8
  (first | rw [c8b0] | (simp only [Zax, Zay]; rw [c8b0]) | skip)
  have H' := Za.mk H
  clear H
  go_wp2
  go_meet
  case rel => exact ⟨_, (true), t7_6, H', ⟨by first | omega | exact Nat.le_refl _⟩, ⟨by first | exact Kd.R_nil _ _ _ _ _ | exact Kd.N_nil _ _ _ _ _ | exact Kd.V_nil _ _ _ _ _ | exact Kd.Q_nil _ _ _ _ _ | exact Kd.S_nil _ _ _ _ _⟩, ⟨by (with_reducible repeat (first | refine Zan ?_ _ | refine Zap ?_ | refine Zao ?_ _)); exact BK159.out⟩, ⟨by (with_reducible repeat (first | refine Zan ?_ _ | refine Zap ?_ | refine Zao ?_ _)); exact BK160.out⟩, ⟨by repeat (first | (with_reducible first | exact HB.out | apply Zau | apply Zaj | apply Zal | refine Zai ?_ GE159.out | refine Zai ?_ GE160.out) | exact HB.out)⟩⟩
 case rest =>
  clear HC4
  try clear c1
  try clear c2
  try clear p2
  try clear c8
  try clear c8b0
  try clear c9
  try clear c9b0
  try clear c11
  try clear hcz12_0
  try clear hcz12_1
  try clear hcz12_2
  try clear hfz12_0
  try clear hfz12_1
  try clear hfz12_2
  obtain ⟨kq, x26_3, rfl, HA, HJ3, HO_7, BK159, BK160, HB⟩ := hcut
  cases kq with
  | zero => exact absurd HA.out (by simp [Zag.j0])
  | succ kj3 =>
   have H := HA.out
   clear HA
   simp only [Zag.j0] at H
   by_cases c13 : x26_3 = true
   case neg =>
    replace c13 := Bool.eq_false_iff.mpr c13
    subst c13
    have H1 : (if a2_1 = 2 then (Zag.j1 kj3 l1 ([] : List (S44)) (l1.length : Int) a2_0 l0_0 l0_1 l0_2 l0_3 l0_4 l0_5 l0_6 a2_0 a2_1 a2_2) else ((Zaq.f kj3 l0_0 a2_0 (l1.length : Int)).bind fun t162 => ((Zar.f kj3 ([] : List (S44)) t162 1 true l1 false).bind fun t165 => ((Zaq.f kj3 l0_2 a2_0 (l1.length : Int)).bind fun t168 => ((Zar.f kj3 t165 t168 1 true l1 false).bind fun t171 => ((Zaq.f kj3 l0_1 a2_0 (l1.length : Int)).bind fun t174 => ((Zar.f kj3 t171 t174 1 false l1 false).bind fun t177 => ((Zaq.f kj3 l0_3 a2_0 (l1.length : Int)).bind fun t180 => ((Zar.f kj3 t177 t180 2 true l1 false).bind fun t183 => (Zag.j1 kj3 l1 t183 (l1.length : Int) a2_0 l0_0 l0_1 l0_2 l0_3 l0_4 l0_5 l0_6 a2_0 a2_1 a2_2)))))))))) = some r := by rw [if_neg (show ¬ (false = true) by decide)] at H; exact H
    clear H
    have H := H1
    clear H1
    have HC14 := Za.mk H
    clear H
    have hnb15 := NB160_159.out
    have hnc15 := NB159_160.out
    obtain ⟨hcz16_0, hcz16_1, hcz16_2, hfz16_0, hfz16_1, hfz16_2⟩ := cz3 BK160
    go_upto_if 30 with (fail)
    go_cut [7] (fun v7 wc => ∃ (kq : Nat) (x7_13 : List (S44)), Za (Zag.j1 kq l1 x7_13 (l1.length : Int) a2_0 l0_0 l0_1 l0_2 l0_3 l0_4 l0_5 l0_6 a2_0 a2_1 a2_2 = some r) ∧ Za (kq ≤ kj3) ∧ Za (Kd.R k44 44 wc w.heap.size (fun k_ => k_ ≠ gb160) v7 x7_13) ∧ Za (wc.heap[gb159]? = some (.cells #[(.slice A0_0 l0_0.length c0_0), (.slice A0_1 l0_1.length c0_1), (.slice A0_2 l0_2.length c0_2), (.slice A0_3 l0_3.length c0_3), (.slice A0_4 l0_4.length c0_4), (.slice A0_5 l0_5.length c0_5), (.slice A0_6 l0_6.length c0_6)] 38 (0, 0))) ∧ Za (wc.heap[gb160]? = some (.cells #[.int .i64 a2_0, .int .u8 a2_1, .bool a2_2] 44 (0, 0))) ∧ Za (Below w.heap.size w wc))
    case first =>
     have H := HC14.out
     clear HC14
     by_cases c17 : a2_1 = 2
     case neg =>
      rw [if_neg c17] at H
      have c17b0 : (a2_1 == 2) = false := beq_eq_false_iff_ne.mpr c17
      have c17b1 : (a2_1 != 2) = true := bne_iff_ne.mpr c17
      (first | rw [c17b0] | (simp only [Zax, Zay]; rw [c17b0]) | skip)
      replace H := Option.bind_eq_some_iff.mp H
      obtain ⟨t162, A180, H⟩ := H
      try dsimp only at H
      have A18 := Za.mk A180
      clear A180
      replace H := Option.bind_eq_some_iff.mp H
      obtain ⟨t165, A190, H⟩ := H
      try dsimp only at H
      have A19 := Za.mk A190
      clear A190
      replace H := Option.bind_eq_some_iff.mp H
      obtain ⟨t168, A200, H⟩ := H
      try dsimp only at H
      have A20 := Za.mk A200
      clear A200
      replace H := Option.bind_eq_some_iff.mp H
      obtain ⟨t171, A210, H⟩ := H
      try dsimp only at H
      have A21 := Za.mk A210
      clear A210
      replace H := Option.bind_eq_some_iff.mp H
      obtain ⟨t174, A220, H⟩ := H
      try dsimp only at H
      have A22 := Za.mk A220
      clear A220
      replace H := Option.bind_eq_some_iff.mp H
      obtain ⟨t177, A230, H⟩ := H
      try dsimp only at H
      have A23 := Za.mk A230
      clear A230
      replace H := Option.bind_eq_some_iff.mp H
      obtain ⟨t180, A240, H⟩ := H
      try dsimp only at H
      have A24 := Za.mk A240
      clear A240
      replace H := Option.bind_eq_some_iff.mp H
      obtain ⟨t183, A250, H⟩ := H
      try dsimp only at H
      have A25 := Za.mk A250
      clear A250
      have H' := Za.mk H
      clear H
      have hnb26 := NB159_160.out
      have hnc26 := NB160_159.out
      obtain ⟨hcz27_0, hcz27_1, hcz27_2, hcz27_3, hcz27_4, hcz27_5, hcz27_6, hfz27_0, hfz27_1, hfz27_2, hfz27_3, hfz27_4, hfz27_5, hfz27_6⟩ := cz7 BK159
      go_wp2_with (first | ((with_reducible refine Zbl (f := 55) rfl ?_); refine Zcx (some 36) rfl rfl Try.func55 t7_9 rfl #[.slice A0_0 l0_0.length c0_0, .int .i64 a2_0, .int .i64 (l1.length : Int)] rfl t7_3 ?_; (with_reducible refine (Zaq.calls kj3 _ _ l0_0 a2_0 (l1.length : Int) t162 _ ?side1 ?side2 A18.out).mono ?_); (case side1 => exact CD ((Kd.Zav HR0_0.out HB.out))); (case side2 => exact HC0_0.out); rintro e w28 ⟨v163, rfl, ho0, hb⟩; refine ⟨_, rfl, ?_⟩; have n0_ := RB HO_7 hb; have n1_ := Za.mk (Kd.Zdk ho0 (Zat t7_1)); have n2_ := Za.mk (Zam (KB BK159) hb); have n3_ := Za.mk (Zam (KB BK160) hb); have n4_ := Za.mk (Zbb t7_1 hb); clear HO_7; clear BK159; clear BK160; clear HB; have HO_7 := n0_; have HO164 := n1_; have BK159 := n2_; have BK160 := n3_; have HB := n4_; clear n0_ n1_ n2_ n3_ n4_; (try clear hb); (try clear hb2); (try clear hk); (try clear hi); (try clear ho0); obtain ⟨Ao29, co29, eo29⟩ := Kd.Zbp HO164.out; subst eo29) | ((with_reducible refine Zbl (f := 54) rfl ?_); refine Zcx (some 38) rfl rfl Try.func54 t7_9 rfl #[.slice none 0 0, .slice Ao29 t162.length co29, .int .u8 1, .bool true, .slice A1 l1.length c1, .bool false] rfl t7_3 ?_; (with_reducible refine (Zar.calls kj3 (fun k_ => some k_ = (.slice none 0 0 : Value).ownBlock) (.slice none 0 0) ([] : List (S44)) _ _ t162 1 true _ _ l1 false t165 w _ ?side1 ?side2 ?side3 ?side4 ?side5 ?side6 A19.out).mono ?_); (case side1 => repeat (first | (with_reducible first | exact HB.out | apply Zau | apply Zaj | apply Zal | refine Zai ?_ GE159.out | refine Zai ?_ GE160.out) | exact HB.out)); (case side2 => exact Kd.R_tight rfl HO_7.out); (case side3 => exact Kd.C_kept_own ((Kd.Zcz HO164.out (Kd.Zdf HO_7.out) Zex)) (fun k_ hk_ hs_ => (hk_.2) hs_)); (case side4 => exact (Kd.Zb HO164.out).2.1); (case side5 => exact Kd.Zfj Kd.heap_bool HR1.out t7_1 (fun k_ hs_ => (fun e_ => Kd.Zbx HO_7.out k_ e_.symm) hs_)); (case side6 => exact HC1.out); rintro e w30 ⟨v166, rfl, ho0, hb, hkp⟩; refine ⟨_, rfl, ?_⟩; have n0_ := Za.mk (Zer (KB BK159) hkp (fun hs_ => (fun e_ => absurd e_ t7_4) hs_)); have n1_ := Za.mk (Zer (KB BK160) hkp (fun hs_ => (fun e_ => (Kd.R_away HO_7.out t7_8) e_) hs_)); have n2_ := Za.mk (Kd.Zbv (ok' := fun k_ => True) (Kd.Zfb ((Kd.Zcz HO164.out (Kd.Zdf HO_7.out) Zex)) hkp (fun k_ hk_ hs_ => (hk_.2) hs_)) (fun k_ hk_ => trivial)); have n3_ := Za.mk (Kd.Zbv (ok' := fun k_ => k_ ≠ gb160) ho0 t7_0); have n4_ := Za.mk (hb); clear BK159; clear BK160; clear HO164; clear HB; clear HO_7; have BK159 := n0_; have BK160 := n1_; have HO164 := n2_; have HO167 := n3_; have HB := n4_; clear n0_ n1_ n2_ n3_ n4_; (try clear hb); (try clear hkp); (try clear ho0); obtain ⟨hcz31_0, hcz31_1, hcz31_2, hcz31_3, hcz31_4, hcz31_5, hcz31_6, hfz31_0, hfz31_1, hfz31_2, hfz31_3, hfz31_4, hfz31_5, hfz31_6⟩ := cz7 BK159) | ((with_reducible refine Zbl (f := 55) rfl ?_); refine Zcx (some 44) rfl rfl Try.func55 t7_9 rfl #[.slice A0_2 l0_2.length c0_2, .int .i64 a2_0, .int .i64 (l1.length : Int)] rfl t7_3 ?_; (with_reducible refine (Zaq.calls kj3 _ _ l0_2 a2_0 (l1.length : Int) t168 _ ?side1 ?side2 A20.out).mono ?_); (case side1 => exact CD ((Kd.Zav HR0_2.out HB.out))); (case side2 => exact HC0_2.out); rintro e w32 ⟨v169, rfl, ho0, hb⟩; refine ⟨_, rfl, ?_⟩; have n0_ := RE HO164 hb (Kd.Zbx ho0); have n1_ := RB HO167 hb; have n2_ := Za.mk (Kd.Zdk (Kd.Zec ho0 (Kd.R_lt (RD HO164))) (Zat t7_1)); have n3_ := Za.mk (Zam (KB BK159) hb); have n4_ := Za.mk (Zam (KB BK160) hb); have n5_ := Za.mk (Zbb t7_1 hb); clear HO164; clear HO167; clear BK159; clear BK160; clear HB; have HO164 := n0_; have HO167 := n1_; have HO170 := n2_; have BK159 := n3_; have BK160 := n4_; have HB := n5_; clear n0_ n1_ n2_ n3_ n4_ n5_; (try clear hb); (try clear hb2); (try clear hk); (try clear hi); (try clear ho0); obtain ⟨Ao33, co33, eo33⟩ := Kd.Zbp HO167.out; subst eo33; obtain ⟨Ao34, co34, eo34⟩ := Kd.Zbp HO170.out; subst eo34) | ((with_reducible refine Zbl (f := 54) rfl ?_); refine Zcx (some 46) rfl rfl Try.func54 t7_9 rfl #[.slice Ao33 t165.length co33, .slice Ao34 t168.length co34, .int .u8 1, .bool true, .slice A1 l1.length c1, .bool false] rfl t7_3 ?_; (with_reducible refine (Zar.calls kj3 (fun k_ => some k_ = (.slice Ao33 t165.length co33 : Value).ownBlock) (.slice Ao33 t165.length co33) t165 _ _ t168 1 true _ _ l1 false t171 w _ ?side1 ?side2 ?side3 ?side4 ?side5 ?side6 A21.out).mono ?_); (case side1 => repeat (first | (with_reducible first | exact HB.out | apply Zau | apply Zaj | apply Zal | refine Zai ?_ GE159.out | refine Zai ?_ GE160.out) | exact HB.out)); (case side2 => exact Kd.R_tight rfl HO167.out); (case side3 => exact Kd.C_kept_own ((Kd.Zcz HO170.out (Kd.Zdf HO167.out) Zex)) (fun k_ hk_ hs_ => (hk_.2) hs_)); (case side4 => exact (Kd.Zb HO170.out).2.1); (case side5 => exact Kd.Zfj Kd.heap_bool HR1.out t7_1 (fun k_ hs_ => (fun e_ => Kd.Zbx HO167.out k_ e_.symm) hs_)); (case side6 => exact HC1.out); rintro e w35 ⟨v172, rfl, ho0, hb, hkp⟩; refine ⟨_, rfl, ?_⟩; have n0_ := Za.mk (Zer (KB BK159) hkp (fun hs_ => (fun e_ => absurd e_ (by first | exact Kd.R_ne HO167.out BK159.out  Zex | (intro h_; have h2_ := HO167.out.1 _ h_.symm; simp at h2_))) hs_)); have n1_ := Za.mk (Zer (KB BK160) hkp (fun hs_ => (fun e_ => (Kd.R_away HO167.out t7_8) e_) hs_)); have n2_ := Za.mk (Kd.Zbv (ok' := fun k_ => some k_ ≠ (.slice Ao34 t168.length co34 : Value).ownBlock) (Kd.Zfb ((Kd.Zcz HO164.out (Kd.Zdf HO167.out) Zex)) hkp (fun k_ hk_ hs_ => (hk_.2) hs_)) (fun k_ hk_ => hk_.1.1.2)); have n3_ := Za.mk (Kd.Zbv (ok' := fun k_ => some k_ ≠ (.slice Ao29 t162.length co29 : Value).ownBlock) (Kd.Zfb ((Kd.Zcz HO170.out (Kd.Zdf HO167.out) Zex)) hkp (fun k_ hk_ hs_ => (hk_.2) hs_)) (fun k_ hk_ => hk_.1.1.2)); have n4_ := Za.mk (Kd.Zbv (ok' := fun k_ => k_ ≠ gb160) ho0 (fun k_ hk_ => Or.elim hk_ (fun hs_ => fun e_ => (Kd.R_away HO167.out t7_8) (by rw [← e_]; exact hs_)) (fun hn_ => (Kd.freshB (g := gb160) (o := .cells #[.int .i64 a2_0, .int .u8 a2_1, .bool a2_2] 44 (0, 0)) (KB BK160) k_ hn_)))); have n5_ := Za.mk (hb); clear BK159; clear BK160; clear HO164; clear HO170; clear HB; clear HO167; have BK159 := n0_; have BK160 := n1_; have HO164 := n2_; have HO170 := n3_; have HO173 := n4_; have HB := n5_; clear n0_ n1_ n2_ n3_ n4_ n5_; (try clear hb); (try clear hkp); (try clear ho0); obtain ⟨hcz36_0, hcz36_1, hcz36_2, hcz36_3, hcz36_4, hcz36_5, hcz36_6, hfz36_0, hfz36_1, hfz36_2, hfz36_3, hfz36_4, hfz36_5, hfz36_6⟩ := cz7 BK159) | ((with_reducible refine Zbl (f := 55) rfl ?_); refine Zcx (some 52) rfl rfl Try.func55 t7_9 rfl #[.slice A0_1 l0_1.length c0_1, .int .i64 a2_0, .int .i64 (l1.length : Int)] rfl t7_3 ?_; (with_reducible refine (Zaq.calls kj3 _ _ l0_1 a2_0 (l1.length : Int) t174 _ ?side1 ?side2 A22.out).mono ?_); (case side1 => exact CD ((Kd.Zav HR0_1.out HB.out))); (case side2 => exact HC0_1.out); rintro e w37 ⟨v175, rfl, ho0, hb⟩; refine ⟨_, rfl, ?_⟩; have n0_ := RE HO164 hb (Kd.Zbx ho0); have n1_ := RE HO170 hb (Kd.Zbx ho0); have n2_ := RB HO173 hb; have n3_ := Za.mk (Kd.Zdk (Kd.Zec (Kd.Zec ho0 (Kd.R_lt (RD HO164))) (Kd.R_lt (RD HO170))) (Zat t7_1)); have n4_ := Za.mk (Zam (KB BK159) hb); have n5_ := Za.mk (Zam (KB BK160) hb); have n6_ := Za.mk (Zbb t7_1 hb); clear HO164; clear HO170; clear HO173; clear BK159; clear BK160; clear HB; have HO164 := n0_; have HO170 := n1_; have HO173 := n2_; have HO176 := n3_; have BK159 := n4_; have BK160 := n5_; have HB := n6_; clear n0_ n1_ n2_ n3_ n4_ n5_ n6_; (try clear hb); (try clear hb2); (try clear hk); (try clear hi); (try clear ho0); obtain ⟨Ao38, co38, eo38⟩ := Kd.Zbp HO173.out; subst eo38; obtain ⟨Ao39, co39, eo39⟩ := Kd.Zbp HO176.out; subst eo39) | ((with_reducible refine Zbl (f := 54) rfl ?_); refine Zcx (some 54) rfl rfl Try.func54 t7_9 rfl #[.slice Ao38 t171.length co38, .slice Ao39 t174.length co39, .int .u8 1, .bool false, .slice A1 l1.length c1, .bool false] rfl t7_3 ?_; (with_reducible refine (Zar.calls kj3 (fun k_ => some k_ = (.slice Ao38 t171.length co38 : Value).ownBlock) (.slice Ao38 t171.length co38) t171 _ _ t174 1 false _ _ l1 false t177 w _ ?side1 ?side2 ?side3 ?side4 ?side5 ?side6 A23.out).mono ?_); (case side1 => repeat (first | (with_reducible first | exact HB.out | apply Zau | apply Zaj | apply Zal | refine Zai ?_ GE159.out | refine Zai ?_ GE160.out) | exact HB.out)); (case side2 => exact Kd.R_tight rfl HO173.out); (case side3 => exact Kd.C_kept_own ((Kd.Zcz HO176.out (Kd.Zdf HO173.out) Zex)) (fun k_ hk_ hs_ => (hk_.2) hs_)); (case side4 => exact (Kd.Zb HO176.out).2.1); (case side5 => exact Kd.Zfj Kd.heap_bool HR1.out t7_1 (fun k_ hs_ => (fun e_ => Kd.Zbx HO173.out k_ e_.symm) hs_)); (case side6 => exact HC1.out); rintro e w40 ⟨v178, rfl, ho0, hb, hkp⟩; refine ⟨_, rfl, ?_⟩; have n0_ := Za.mk (Zer (KB BK159) hkp (fun hs_ => (fun e_ => absurd e_ (by first | exact Kd.R_ne HO173.out BK159.out  Zex | (intro h_; have h2_ := HO173.out.1 _ h_.symm; simp at h2_))) hs_)); have n1_ := Za.mk (Zer (KB BK160) hkp (fun hs_ => (fun e_ => (Kd.R_away HO173.out t7_8) e_) hs_)); have n2_ := Za.mk (Kd.Zbv (ok' := fun k_ => some k_ ≠ (.slice Ao34 t168.length co34 : Value).ownBlock ∧ some k_ ≠ (.slice Ao39 t174.length co39 : Value).ownBlock) (Kd.Zfb ((Kd.Zcz HO164.out (Kd.Zdf HO173.out) Zex)) hkp (fun k_ hk_ hs_ => (hk_.2) hs_)) t7_7); have n3_ := Za.mk (Kd.Zbv (ok' := fun k_ => some k_ ≠ (.slice Ao29 t162.length co29 : Value).ownBlock ∧ some k_ ≠ (.slice Ao39 t174.length co39 : Value).ownBlock) (Kd.Zfb ((Kd.Zcz HO170.out (Kd.Zdf HO173.out) Zex)) hkp (fun k_ hk_ hs_ => (hk_.2) hs_)) t7_7); have n4_ := Za.mk (Kd.Zbv (ok' := fun k_ => some k_ ≠ (.slice Ao29 t162.length co29 : Value).ownBlock ∧ some k_ ≠ (.slice Ao34 t168.length co34 : Value).ownBlock) (Kd.Zfb ((Kd.Zcz HO176.out (Kd.Zdf HO173.out) Zex)) hkp (fun k_ hk_ hs_ => (hk_.2) hs_)) (fun k_ hk_ => ⟨hk_.1.1.1.2, hk_.1.1.2⟩)); have n5_ := Za.mk (Kd.Zbv (ok' := fun k_ => k_ ≠ gb160) ho0 (fun k_ hk_ => Or.elim hk_ (fun hs_ => fun e_ => (Kd.R_away HO173.out t7_8) (by rw [← e_]; exact hs_)) (fun hn_ => (Kd.freshB (g := gb160) (o := .cells #[.int .i64 a2_0, .int .u8 a2_1, .bool a2_2] 44 (0, 0)) (KB BK160) k_ hn_)))); have n6_ := Za.mk (hb); clear BK159; clear BK160; clear HO164; clear HO170; clear HO176; clear HB; clear HO173; have BK159 := n0_; have BK160 := n1_; have HO164 := n2_; have HO170 := n3_; have HO176 := n4_; have HO179 := n5_; have HB := n6_; clear n0_ n1_ n2_ n3_ n4_ n5_ n6_; (try clear hb); (try clear hkp); (try clear ho0); obtain ⟨hcz41_0, hcz41_1, hcz41_2, hcz41_3, hcz41_4, hcz41_5, hcz41_6, hfz41_0, hfz41_1, hfz41_2, hfz41_3, hfz41_4, hfz41_5, hfz41_6⟩ := cz7 BK159) | ((with_reducible refine Zbl (f := 55) rfl ?_); refine Zcx (some 60) rfl rfl Try.func55 t7_9 rfl #[.slice A0_3 l0_3.length c0_3, .int .i64 a2_0, .int .i64 (l1.length : Int)] rfl t7_3 ?_; (with_reducible refine (Zaq.calls kj3 _ _ l0_3 a2_0 (l1.length : Int) t180 _ ?side1 ?side2 A24.out).mono ?_); (case side1 => exact CD ((Kd.Zav HR0_3.out HB.out))); (case side2 => exact HC0_3.out); rintro e w42 ⟨v181, rfl, ho0, hb⟩; refine ⟨_, rfl, ?_⟩; have n0_ := RE HO164 hb (Kd.Zbx ho0); have n1_ := RE HO170 hb (Kd.Zbx ho0); have n2_ := RE HO176 hb (Kd.Zbx ho0); have n3_ := RB HO179 hb; have n4_ := Za.mk (Kd.Zdk (Kd.Zec (Kd.Zec (Kd.Zec ho0 (Kd.R_lt (RD HO164))) (Kd.R_lt (RD HO170))) (Kd.R_lt (RD HO176))) (Zat t7_1)); have n5_ := Za.mk (Zam (KB BK159) hb); have n6_ := Za.mk (Zam (KB BK160) hb); have n7_ := Za.mk (Zbb t7_1 hb); clear HO164; clear HO170; clear HO176; clear HO179; clear BK159; clear BK160; clear HB; have HO164 := n0_; have HO170 := n1_; have HO176 := n2_; have HO179 := n3_; have HO182 := n4_; have BK159 := n5_; have BK160 := n6_; have HB := n7_; clear n0_ n1_ n2_ n3_ n4_ n5_ n6_ n7_; (try clear hb); (try clear hb2); (try clear hk); (try clear hi); (try clear ho0); obtain ⟨Ao43, co43, eo43⟩ := Kd.Zbp HO179.out; subst eo43; obtain ⟨Ao44, co44, eo44⟩ := Kd.Zbp HO182.out; subst eo44) | ((with_reducible refine Zbl (f := 54) rfl ?_); refine Zcx (some 62) rfl rfl Try.func54 t7_9 rfl #[.slice Ao43 t177.length co43, .slice Ao44 t180.length co44, .int .u8 2, .bool true, .slice A1 l1.length c1, .bool false] rfl t7_3 ?_; (with_reducible refine (Zar.calls kj3 (fun k_ => some k_ = (.slice Ao43 t177.length co43 : Value).ownBlock) (.slice Ao43 t177.length co43) t177 _ _ t180 2 true _ _ l1 false t183 w _ ?side1 ?side2 ?side3 ?side4 ?side5 ?side6 A25.out).mono ?_); (case side1 => repeat (first | (with_reducible first | exact HB.out | apply Zau | apply Zaj | apply Zal | refine Zai ?_ GE159.out | refine Zai ?_ GE160.out) | exact HB.out)); (case side2 => exact Kd.R_tight rfl HO179.out); (case side3 => exact Kd.C_kept_own ((Kd.Zcz HO182.out (Kd.Zdf HO179.out) Zex)) (fun k_ hk_ hs_ => (hk_.2) hs_)); (case side4 => exact (Kd.Zb HO182.out).2.1); (case side5 => exact Kd.Zfj Kd.heap_bool HR1.out t7_1 (fun k_ hs_ => (fun e_ => Kd.Zbx HO179.out k_ e_.symm) hs_)); (case side6 => exact HC1.out); rintro e w45 ⟨v184, rfl, ho0, hb, hkp⟩; refine ⟨_, rfl, ?_⟩; have n0_ := Za.mk (Zer (KB BK159) hkp (fun hs_ => (fun e_ => absurd e_ (by first | exact Kd.R_ne HO179.out BK159.out  Zex | (intro h_; have h2_ := HO179.out.1 _ h_.symm; simp at h2_))) hs_)); have n1_ := Za.mk (Zer (KB BK160) hkp (fun hs_ => (fun e_ => (Kd.R_away HO179.out t7_8) e_) hs_)); have n2_ := Za.mk (Kd.Zbv (ok' := fun k_ => some k_ ≠ (.slice Ao34 t168.length co34 : Value).ownBlock ∧ some k_ ≠ (.slice Ao39 t174.length co39 : Value).ownBlock ∧ some k_ ≠ (.slice Ao44 t180.length co44 : Value).ownBlock) (Kd.Zfb ((Kd.Zcz HO164.out (Kd.Zdf HO179.out) Zex)) hkp (fun k_ hk_ hs_ => (hk_.2) hs_)) t7_5); have n3_ := Za.mk (Kd.Zbv (ok' := fun k_ => some k_ ≠ (.slice Ao29 t162.length co29 : Value).ownBlock ∧ some k_ ≠ (.slice Ao39 t174.length co39 : Value).ownBlock ∧ some k_ ≠ (.slice Ao44 t180.length co44 : Value).ownBlock) (Kd.Zfb ((Kd.Zcz HO170.out (Kd.Zdf HO179.out) Zex)) hkp (fun k_ hk_ hs_ => (hk_.2) hs_)) t7_5); have n4_ := Za.mk (Kd.Zbv (ok' := fun k_ => some k_ ≠ (.slice Ao29 t162.length co29 : Value).ownBlock ∧ some k_ ≠ (.slice Ao34 t168.length co34 : Value).ownBlock ∧ some k_ ≠ (.slice Ao44 t180.length co44 : Value).ownBlock) (Kd.Zfb ((Kd.Zcz HO176.out (Kd.Zdf HO179.out) Zex)) hkp (fun k_ hk_ hs_ => (hk_.2) hs_)) t7_5); have n5_ := Za.mk (Kd.Zbv (ok' := fun k_ => some k_ ≠ (.slice Ao29 t162.length co29 : Value).ownBlock ∧ some k_ ≠ (.slice Ao34 t168.length co34 : Value).ownBlock ∧ some k_ ≠ (.slice Ao39 t174.length co39 : Value).ownBlock) (Kd.Zfb ((Kd.Zcz HO182.out (Kd.Zdf HO179.out) Zex)) hkp (fun k_ hk_ hs_ => (hk_.2) hs_)) (fun k_ hk_ => ⟨hk_.1.1.1.1.2, hk_.1.1.1.2, hk_.1.1.2⟩)); have n6_ := Za.mk (Kd.Zbv (ok' := fun k_ => k_ ≠ gb160) ho0 (fun k_ hk_ => Or.elim hk_ (fun hs_ => fun e_ => (Kd.R_away HO179.out t7_8) (by rw [← e_]; exact hs_)) (fun hn_ => (Kd.freshB (g := gb160) (o := .cells #[.int .i64 a2_0, .int .u8 a2_1, .bool a2_2] 44 (0, 0)) (KB BK160) k_ hn_)))); have n7_ := Za.mk (hb); clear BK159; clear BK160; clear HO164; clear HO170; clear HO176; clear HO182; clear HB; clear HO179; have BK159 := n0_; have BK160 := n1_; have HO164 := n2_; have HO170 := n3_; have HO176 := n4_; have HO182 := n5_; have HO185 := n6_; have HB := n7_; clear n0_ n1_ n2_ n3_ n4_ n5_ n6_ n7_; (try clear hb); (try clear hkp); (try clear ho0)))
      go_meet
      case rel => exact ⟨_, (t183), H', ⟨by have := HJ3.out; first | omega | exact Nat.le_refl _⟩, ⟨RD HO185⟩, ⟨by (with_reducible repeat (first | refine Zan ?_ _ | refine Zap ?_ | refine Zao ?_ _)); exact BK159.out⟩, ⟨by (with_reducible repeat (first | refine Zan ?_ _ | refine Zap ?_ | refine Zao ?_ _)); exact BK160.out⟩, ⟨by repeat (first | (with_reducible first | exact HB.out | apply Zau | apply Zaj | apply Zal | refine Zai ?_ GE159.out | refine Zai ?_ GE160.out) | exact HB.out)⟩⟩
     rw [if_pos c17] at H
     have c17b0 : (a2_1 == 2) = true := beq_iff_eq.mpr c17
     have c17b1 : (a2_1 != 2) = false := bne_eq_false_iff_eq.mpr c17
     clear c17
     (first | rw [c17b0] | (simp only [Zax, Zay]; rw [c17b0]) | skip)
     have H' := Za.mk H
     clear H
     go_wp2
     go_meet
     case rel => exact ⟨_, (([] : List (S44))), H', ⟨by have := HJ3.out; first | omega | exact Nat.le_refl _⟩, ⟨RD HO_7⟩, ⟨by (with_reducible repeat (first | refine Zan ?_ _ | refine Zap ?_ | refine Zao ?_ _)); exact BK159.out⟩, ⟨by (with_reducible repeat (first | refine Zan ?_ _ | refine Zap ?_ | refine Zao ?_ _)); exact BK160.out⟩, ⟨by repeat (first | (with_reducible first | exact HB.out | apply Zau | apply Zaj | apply Zal | refine Zai ?_ GE159.out | refine Zai ?_ GE160.out) | exact HB.out)⟩⟩
    case rest =>
     clear HC14
     try clear c1
     try clear c2
     try clear p2
     try clear c5
     try clear c8
     try clear c8b0
     try clear c9
     try clear c9b0
     try clear c11
     try clear c13
     try clear c15
     try clear c17
     try clear c17b0
     try clear c17b1
     try clear c25
     try clear c26
     try clear hcz12_0
     try clear hcz12_1
     try clear hcz12_2
     try clear hcz16_0
     try clear hcz16_1
     try clear hcz16_2
     try clear hcz27_0
     try clear hcz27_1
     try clear hcz27_2
     try clear hcz27_3
     try clear hcz27_4
     try clear hcz27_5
     try clear hcz27_6
     try clear hcz31_0
     try clear hcz31_1
     try clear hcz31_2
     try clear hcz31_3
     try clear hcz31_4
     try clear hcz31_5
     try clear hcz31_6
     try clear hcz36_0
     try clear hcz36_1
     try clear hcz36_2
     try clear hcz36_3
     try clear hcz36_4
     try clear hcz36_5
     try clear hcz36_6
     try clear hcz41_0
     try clear hcz41_1
     try clear hcz41_2
     try clear hcz41_3
     try clear hcz41_4
     try clear hcz41_5
     try clear hcz41_6
     try clear hfz12_0
     try clear hfz12_1
     try clear hfz12_2
     try clear hfz16_0
     try clear hfz16_1
     try clear hfz16_2
     try clear hfz27_0
     try clear hfz27_1
     try clear hfz27_2
     try clear hfz27_3
     try clear hfz27_4
     try clear hfz27_5
     try clear hfz27_6
     try clear hfz31_0
     try clear hfz31_1
     try clear hfz31_2
     try clear hfz31_3
     try clear hfz31_4
     try clear hfz31_5
     try clear hfz31_6
     try clear hfz36_0
     try clear hfz36_1
     try clear hfz36_2
     try clear hfz36_3
     try clear hfz36_4
     try clear hfz36_5
     try clear hfz36_6
     try clear hfz41_0
     try clear hfz41_1
     try clear hfz41_2
     try clear hfz41_3
     try clear hfz41_4
     try clear hfz41_5
     try clear hfz41_6
     try clear p2
     obtain ⟨kq, x7_13, HA, HJ13, HO_7, BK159, BK160, HB⟩ := hcut
     cases kq with
     | zero => exact absurd HA.out (by simp [Zag.j1])
     | succ kj13 =>
      have H := HA.out
      clear HA
      simp only [Zag.j1] at H
      by_cases c46 : a2_1 = 1
      case neg =>
       rw [if_neg c46] at H
       have c46b0 : (a2_1 == 1) = false := beq_eq_false_iff_ne.mpr c46
       have c46b1 : (a2_1 != 1) = true := bne_iff_ne.mpr c46
       replace H := Option.bind_eq_some_iff.mp H
       obtain ⟨t186, A490, H⟩ := H
       try dsimp only at H
       have A49 := Za.mk A490
       clear A490
       replace H := Option.bind_eq_some_iff.mp H
       obtain ⟨t189, A500, H⟩ := H
       try dsimp only at H
       have A50 := Za.mk A500
       clear A500
       replace H := Option.bind_eq_some_iff.mp H
       obtain ⟨t192, A510, H⟩ := H
       try dsimp only at H
       have A51 := Za.mk A510
       clear A510
       replace H := Option.bind_eq_some_iff.mp H
       obtain ⟨t195, A520, H⟩ := H
       try dsimp only at H
       have A52 := Za.mk A520
       clear A520
       replace H := Option.bind_eq_some_iff.mp H
       obtain ⟨t198, A530, H⟩ := H
       try dsimp only at H
       have A53 := Za.mk A530
       clear A530
       replace H := Option.bind_eq_some_iff.mp H
       obtain ⟨t201, A540, H⟩ := H
       try dsimp only at H
       have A54 := Za.mk A540
       clear A540
       obtain rfl := Option.some.inj H
       have hnb55 := NB160_159.out
       have hnc55 := NB159_160.out
       obtain ⟨hcz56_0, hcz56_1, hcz56_2, hfz56_0, hfz56_1, hfz56_2⟩ := cz3 BK160
       try go_wp2
       have n0_ := Za.mk (Kd.Zbw HO_7.out)
       have n1_ := Za.mk (Zap BK159.out)
       have n2_ := Za.mk (Zap BK160.out)
       have n3_ := Za.mk (Zal HB.out)
       clear HO_7
       clear BK159
       clear BK160
       clear HB
       have HO_7 := n0_
       have BK159 := n1_
       have BK160 := n2_
       have HB := n3_
       clear n0_ n1_ n2_ n3_
       refine Zek (n := 11) (S := fun w' => w'.cell? ⟨gb159, 0, none⟩ = some (.slice A0_0 l0_0.length c0_0) ∧ w'.cell? ⟨gb159, 1, none⟩ = some (.slice A0_1 l0_1.length c0_1) ∧ w'.cell? ⟨gb159, 2, none⟩ = some (.slice A0_2 l0_2.length c0_2) ∧ w'.cell? ⟨gb159, 3, none⟩ = some (.slice A0_3 l0_3.length c0_3) ∧ w'.cell? ⟨gb159, 4, none⟩ = some (.slice A0_4 l0_4.length c0_4) ∧ w'.cell? ⟨gb159, 5, none⟩ = some (.slice A0_5 l0_5.length c0_5) ∧ w'.cell? ⟨gb159, 6, none⟩ = some (.slice A0_6 l0_6.length c0_6) ∧ w'.cell? ⟨gb160, 0, none⟩ = some (.int .i64 a2_0) ∧ w'.cell? ⟨gb160, 1, none⟩ = some (.int .u8 a2_1) ∧ w'.cell? ⟨gb160, 2, none⟩ = some (.bool a2_2)) (ds := []) u7_7 t7_9 rfl rfl ⟨(Zah BK159.out 0).trans rfl, (Zah BK159.out 1).trans rfl, (Zah BK159.out 2).trans rfl, (Zah BK159.out 3).trans rfl, (Zah BK159.out 4).trans rfl, (Zah BK159.out 5).trans rfl, (Zah BK159.out 6).trans rfl, (Zah BK160.out 0).trans rfl, (Zah BK160.out 1).trans rfl, (Zah BK160.out 2).trans rfl⟩ (fun hHeld => ?_); refine Zcp Zag.tab11 Zag.bits11 (fun HT_ HW_ => ?_)
       generalize wc.drew = w57 at HO_7 BK159 BK160 HB hHeld ⊢
       refine Zbc (i := 0) (N := some 66) (v := ?_) (a' := ?_) u7_8 rfl rfl (Zaw HT_.out t7_9) (fun _ _ _ h => h) (Or.inl ⟨by rfl, ?_⟩) ?_ ?_
       rotate_left
       ·intro w'
        go_simp
        with_reducible rfl
       rotate_left
       ·simp only [Act.put, s0_, s1_, s2_, Zax, Zay]
        rfl
       refine Zbc (i := 1) (N := some 67) (v := ?_) (a' := ?_) u7_9 rfl rfl (Zaw HT_.out t7_9) (fun _ _ _ h => h) (Or.inl ⟨by rfl, ?_⟩) ?_ ?_
       rotate_left
       ·intro w'
        go_simp
        with_reducible rfl
       rotate_left
       ·simp only [Act.put, s0_, s1_, s2_, Zax, Zay]
        rfl
       refine Zbc (i := 3) (N := some 69) (v := ?_) (a' := ?_) u7_10 rfl rfl (Zaw HT_.out t7_9) (fun _ _ _ h => h) (Or.inl ⟨by rfl, ?_⟩) ?_ ?_
       rotate_left
       ·intro w'
        go_simp
        with_reducible rfl
       rotate_left
       ·simp only [Act.put, s0_, s1_, s2_, Zax, Zay]
        rfl
       refine Zbc (i := 4) (N := some 70) (v := ?_) (a' := ?_) u7_11 rfl rfl (Zaw HT_.out t7_9) (fun _ _ _ h => h) (Or.inl ⟨by rfl, ?_⟩) ?_ ?_
       rotate_left
       ·intro w'
        go_simp
        with_reducible rfl
       rotate_left
       ·simp only [Act.put, s0_, s1_, s2_, Zax, Zay]
        rfl
       refine Zbc (i := 6) (N := some 72) (v := ?_) (a' := ?_) u7_12 rfl rfl (Zaw HT_.out t7_9) (fun _ _ _ h => h) (Or.inl ⟨by rfl, ?_⟩) ?_ ?_
       rotate_left
       ·intro w'
        go_simp
        with_reducible rfl
       rotate_left
       ·simp only [Act.put, s0_, s1_, s2_, Zax, Zay]
        rfl
       refine Zbc (i := 8) (N := some 74) (v := ?_) (a' := ?_) u7_13 rfl rfl (Zaw HT_.out t7_9) (fun _ _ _ h => h) (Or.inl ⟨by rfl, ?_⟩) ?_ ?_
       rotate_left
       ·intro w'
        go_simp
        with_reducible rfl
       rotate_left
       ·simp only [Act.put, s0_, s1_, s2_, Zax, Zay]
        rfl
       refine Zdh (i := 2) (N := some 68) (v := ?_) (a' := ?_) u7_14 rfl rfl (Zbt HT_.out HW_.out t7_9) (fun _ _ _ h => h) (Or.inl ⟨by rfl, ?_⟩) hHeld ?_ ?_
       rotate_left
       ·rintro w' ⟨s0, s1, s2, s3, s4, s5, s6, s7, s8, s9⟩
        go_simp
        with_reducible rfl
       rotate_left
       ·simp only [Act.put, s0_, s1_, s2_, Zax, Zay]
        rfl
       refine Zdh (i := 7) (N := some 73) (v := ?_) (a' := ?_) u7_15 rfl rfl (Zbt HT_.out HW_.out t7_9) (fun _ _ _ h => h) (Or.inl ⟨by rfl, ?_⟩) hHeld ?_ ?_
       rotate_left
       ·rintro w' ⟨s0, s1, s2, s3, s4, s5, s6, s7, s8, s9⟩
        go_simp
        with_reducible rfl
       rotate_left
       ·simp only [Act.put, s0_, s1_, s2_, Zax, Zay]
        rfl
       refine one_ (i := 5) (N := some 71) u7_16 rfl rfl (Zda HT_.out t7_9) Zex (fun K hK => ?_)
       refine goes_ Try.func55 t7_9 rfl #[.slice A0_4 l0_4.length c0_4, .int .i64 a2_0, .int .i64 (l1.length : Int)] (by rfl) rfl rfl t7_3 ?_
       with_reducible refine (Zaq.calls kj13 _ _ l0_4 a2_0 (l1.length : Int) t186 _ ?side1 ?side2 A49.out).mono ?_
       (case side1 => exact CD ((Kd.Zav HR0_4.out HB.out)))
       (case side2 => exact HC0_4.out)
       rintro e w58 ⟨v187, rfl, ho0, hb⟩
       refine ⟨_, rfl, ?_⟩
       have n0_ := RB HO_7 hb
       have n1_ := Za.mk (Kd.Zdk ho0 (Zat t7_1))
       have n2_ := Za.mk (Zam (KB BK159) hb)
       have n3_ := Za.mk (Zam (KB BK160) hb)
       have n4_ := Za.mk (Zbb t7_1 hb)
       clear HO_7
       clear BK159
       clear BK160
       clear HB
       have HO_7 := n0_
       have HO188 := n1_
       have BK159 := n2_
       have BK160 := n3_
       have HB := n4_
       clear n0_ n1_ n2_ n3_ n4_
       (try clear hb)
       (try clear hb2)
       (try clear hk)
       (try clear hi)
       (try clear ho0)
       obtain ⟨Ao59, co59, eo59⟩ := Kd.Zbp HO_7.out
       (first | subst eo59 | (injection eo59 with f1_ f2_ f3_; have f4_ := f1_.symm; have f5_ := f3_.symm; clear f1_ f2_ f3_; subst f4_; subst f5_))
       obtain ⟨Ao60, co60, eo60⟩ := Kd.Zbp HO188.out
       (first | subst eo60 | (injection eo60 with f1_ f2_ f3_; have f4_ := f1_.symm; have f5_ := f3_.symm; clear f1_ f2_ f3_; subst f4_; subst f5_))
       refine hK.out _ _ ⟨(Zah BK159.out 0).trans rfl, (Zah BK159.out 1).trans rfl, (Zah BK159.out 2).trans rfl, (Zah BK159.out 3).trans rfl, (Zah BK159.out 4).trans rfl, (Zah BK159.out 5).trans rfl, (Zah BK159.out 6).trans rfl, (Zah BK160.out 0).trans rfl, (Zah BK160.out 1).trans rfl, (Zah BK160.out 2).trans rfl⟩ (fun hHeld => ?_)
       clear hK K
       refine Zem (a' := ?_) ?_ ?_
       rotate_left
       ·show Act.put _ (some 71) _ = _
        simp only [Act.put, s0_, s1_, s2_, Zax, Zay]
        rfl
       refine one_ (i := 9) (N := some 75) u7_17 rfl rfl (Zda HT_.out t7_9) Zex (fun K hK => ?_)
       refine goes_ Try.func54 t7_9 rfl #[.slice Ao59 x7_13.length co59, .slice Ao60 t186.length co60, .int .u8 a2_1, .bool true, .slice A1 l1.length c1, .bool true] (by rfl) rfl rfl t7_3 ?_
       with_reducible refine (Zar.calls kj13 (fun k_ => some k_ = (.slice Ao59 x7_13.length co59 : Value).ownBlock) (.slice Ao59 x7_13.length co59) x7_13 _ _ t186 a2_1 true _ _ l1 true t189 w _ ?side1 ?side2 ?side3 ?side4 ?side5 ?side6 A50.out).mono ?_
       (case side1 => repeat (first | (with_reducible first | exact HB.out | apply Zau | apply Zaj | apply Zal | refine Zai ?_ GE159.out | refine Zai ?_ GE160.out) | exact HB.out))
       (case side2 => exact Kd.R_tight rfl HO_7.out)
       (case side3 => exact Kd.C_kept_own ((Kd.Zcz HO188.out (Kd.Zdf HO_7.out) Zex)) (fun k_ hk_ hs_ => (hk_.2) hs_))
       (case side4 => exact (Kd.Zb HO188.out).2.1)
       (case side5 => exact Kd.Zfj Kd.heap_bool HR1.out t7_1 (fun k_ hs_ => (fun e_ => Kd.Zbx HO_7.out k_ e_.symm) hs_))
       (case side6 => exact HC1.out)
       rintro e w61 ⟨v190, rfl, ho0, hb, hkp⟩
       refine ⟨_, rfl, ?_⟩
       have n0_ := Za.mk (Zer (KB BK159) hkp (fun hs_ => (fun e_ => absurd e_ t7_4) hs_))
       have n1_ := Za.mk (Zer (KB BK160) hkp (fun hs_ => (fun e_ => (Kd.R_away HO_7.out t7_8) e_) hs_))
       have n2_ := Za.mk (Kd.Zbv (ok' := fun k_ => True) (Kd.Zfb ((Kd.Zcz HO188.out (Kd.Zdf HO_7.out) Zex)) hkp (fun k_ hk_ hs_ => (hk_.2) hs_)) (fun k_ hk_ => trivial))
       have n3_ := Za.mk (Kd.Zbv (ok' := fun k_ => k_ ≠ gb160) ho0 t7_0)
       have n4_ := Za.mk (hb)
       clear BK159
       clear BK160
       clear HO188
       clear HB
       clear HO_7
       have BK159 := n0_
       have BK160 := n1_
       have HO188 := n2_
       have HO191 := n3_
       have HB := n4_
       clear n0_ n1_ n2_ n3_ n4_
       (try clear hb)
       (try clear hkp)
       (try clear ho0)
       refine hK.out _ _ ⟨(Zah BK159.out 0).trans rfl, (Zah BK159.out 1).trans rfl, (Zah BK159.out 2).trans rfl, (Zah BK159.out 3).trans rfl, (Zah BK159.out 4).trans rfl, (Zah BK159.out 5).trans rfl, (Zah BK159.out 6).trans rfl, (Zah BK160.out 0).trans rfl, (Zah BK160.out 1).trans rfl, (Zah BK160.out 2).trans rfl⟩ (fun hHeld => ?_)
       clear hK K
       refine Zem (a' := ?_) ?_ ?_
       rotate_left
       ·show Act.put _ (some 75) _ = _
        simp only [Act.put, s0_, s1_, s2_, Zax, Zay]
        rfl
       refine Zbc (i := 10) (N := some 7) (v := ?_) (a' := ?_) u7_18 rfl rfl (Zaw HT_.out t7_9) (fun _ _ _ h => h) (Or.inl ⟨by rfl, ?_⟩) ?_ ?_
       rotate_left
       ·intro w'
        go_simp
        with_reducible rfl
       rotate_left
       ·simp only [Act.put, s0_, s1_, s2_, Zax, Zay]
        rfl
       refine done_ (Zdj HT_.out t7_9) ?_
       try go_wp2
       have n0_ := Za.mk (Kd.Zbw HO188.out)
       have n1_ := Za.mk (Kd.Zbw HO191.out)
       have n2_ := Za.mk (Zap BK159.out)
       have n3_ := Za.mk (Zap BK160.out)
       have n4_ := Za.mk (Zal HB.out)
       clear HO188
       clear HO191
       clear BK159
       clear BK160
       clear HB
       have HO188 := n0_
       have HO191 := n1_
       have BK159 := n2_
       have BK160 := n3_
       have HB := n4_
       clear n0_ n1_ n2_ n3_ n4_
       refine Zek (n := 11) (S := fun w' => w'.cell? ⟨gb159, 0, none⟩ = some (.slice A0_0 l0_0.length c0_0) ∧ w'.cell? ⟨gb159, 1, none⟩ = some (.slice A0_1 l0_1.length c0_1) ∧ w'.cell? ⟨gb159, 2, none⟩ = some (.slice A0_2 l0_2.length c0_2) ∧ w'.cell? ⟨gb159, 3, none⟩ = some (.slice A0_3 l0_3.length c0_3) ∧ w'.cell? ⟨gb159, 4, none⟩ = some (.slice A0_4 l0_4.length c0_4) ∧ w'.cell? ⟨gb159, 5, none⟩ = some (.slice A0_5 l0_5.length c0_5) ∧ w'.cell? ⟨gb159, 6, none⟩ = some (.slice A0_6 l0_6.length c0_6) ∧ w'.cell? ⟨gb160, 0, none⟩ = some (.int .i64 a2_0) ∧ w'.cell? ⟨gb160, 1, none⟩ = some (.int .u8 a2_1) ∧ w'.cell? ⟨gb160, 2, none⟩ = some (.bool a2_2)) (ds := []) u7_7 t7_9 rfl rfl ⟨(Zah BK159.out 0).trans rfl, (Zah BK159.out 1).trans rfl, (Zah BK159.out 2).trans rfl, (Zah BK159.out 3).trans rfl, (Zah BK159.out 4).trans rfl, (Zah BK159.out 5).trans rfl, (Zah BK159.out 6).trans rfl, (Zah BK160.out 0).trans rfl, (Zah BK160.out 1).trans rfl, (Zah BK160.out 2).trans rfl⟩ (fun hHeld => ?_); refine Zcp Zag.tab12 Zag.bits12 (fun HT_ HW_ => ?_)
       generalize w61.drew = w62 at HO188 HO191 BK159 BK160 HB hHeld ⊢
       refine Zbc (i := 0) (N := some 76) (v := ?_) (a' := ?_) u7_8 rfl rfl (Zaw HT_.out t7_9) (fun _ _ _ h => h) (Or.inl ⟨by rfl, ?_⟩) ?_ ?_
       rotate_left
       ·intro w'
        go_simp
        with_reducible rfl
       rotate_left
       ·simp only [Act.put, s0_, s1_, s2_, Zax, Zay]
        rfl
       refine Zbc (i := 1) (N := some 77) (v := ?_) (a' := ?_) u7_9 rfl rfl (Zaw HT_.out t7_9) (fun _ _ _ h => h) (Or.inl ⟨by rfl, ?_⟩) ?_ ?_
       rotate_left
       ·intro w'
        go_simp
        with_reducible rfl
       rotate_left
       ·simp only [Act.put, s0_, s1_, s2_, Zax, Zay]
        rfl
       refine Zbc (i := 3) (N := some 79) (v := ?_) (a' := ?_) u7_10 rfl rfl (Zaw HT_.out t7_9) (fun _ _ _ h => h) (Or.inl ⟨by rfl, ?_⟩) ?_ ?_
       rotate_left
       ·intro w'
        go_simp
        with_reducible rfl
       rotate_left
       ·simp only [Act.put, s0_, s1_, s2_, Zax, Zay]
        rfl
       refine Zbc (i := 4) (N := some 80) (v := ?_) (a' := ?_) u7_11 rfl rfl (Zaw HT_.out t7_9) (fun _ _ _ h => h) (Or.inl ⟨by rfl, ?_⟩) ?_ ?_
       rotate_left
       ·intro w'
        go_simp
        with_reducible rfl
       rotate_left
       ·simp only [Act.put, s0_, s1_, s2_, Zax, Zay]
        rfl
       refine Zbc (i := 6) (N := some 82) (v := ?_) (a' := ?_) u7_12 rfl rfl (Zaw HT_.out t7_9) (fun _ _ _ h => h) (Or.inl ⟨by rfl, ?_⟩) ?_ ?_
       rotate_left
       ·intro w'
        go_simp
        with_reducible rfl
       rotate_left
       ·simp only [Act.put, s0_, s1_, s2_, Zax, Zay]
        rfl
       refine Zbc (i := 8) (N := some 84) (v := ?_) (a' := ?_) u7_13 rfl rfl (Zaw HT_.out t7_9) (fun _ _ _ h => h) (Or.inl ⟨by rfl, ?_⟩) ?_ ?_
       rotate_left
       ·intro w'
        go_simp
        with_reducible rfl
       rotate_left
       ·simp only [Act.put, s0_, s1_, s2_, Zax, Zay]
        rfl
       refine Zdh (i := 2) (N := some 78) (v := ?_) (a' := ?_) u7_14 rfl rfl (Zbt HT_.out HW_.out t7_9) (fun _ _ _ h => h) (Or.inl ⟨by rfl, ?_⟩) hHeld ?_ ?_
       rotate_left
       ·rintro w' ⟨s0, s1, s2, s3, s4, s5, s6, s7, s8, s9⟩
        go_simp
        with_reducible rfl
       rotate_left
       ·simp only [Act.put, s0_, s1_, s2_, Zax, Zay]
        rfl
       refine Zdh (i := 7) (N := some 83) (v := ?_) (a' := ?_) u7_15 rfl rfl (Zbt HT_.out HW_.out t7_9) (fun _ _ _ h => h) (Or.inl ⟨by rfl, ?_⟩) hHeld ?_ ?_
       rotate_left
       ·rintro w' ⟨s0, s1, s2, s3, s4, s5, s6, s7, s8, s9⟩
        go_simp
        with_reducible rfl
       rotate_left
       ·simp only [Act.put, s0_, s1_, s2_, Zax, Zay]
        rfl
       refine one_ (i := 5) (N := some 81) u7_16 rfl rfl (Zda HT_.out t7_9) Zex (fun K hK => ?_)
       refine goes_ Try.func55 t7_9 rfl #[.slice A0_5 l0_5.length c0_5, .int .i64 a2_0, .int .i64 (l1.length : Int)] (by rfl) rfl rfl t7_3 ?_
       with_reducible refine (Zaq.calls kj13 _ _ l0_5 a2_0 (l1.length : Int) t192 _ ?side1 ?side2 A51.out).mono ?_
       (case side1 => exact CD ((Kd.Zav HR0_5.out HB.out)))
       (case side2 => exact HC0_5.out)
       rintro e w63 ⟨v193, rfl, ho0, hb⟩
       refine ⟨_, rfl, ?_⟩
       have n0_ := RE HO188 hb (Kd.Zbx ho0)
       have n1_ := RB HO191 hb
       have n2_ := Za.mk (Kd.Zdk (Kd.Zec ho0 (Kd.R_lt (RD HO188))) (Zat t7_1))
       have n3_ := Za.mk (Zam (KB BK159) hb)
       have n4_ := Za.mk (Zam (KB BK160) hb)
       have n5_ := Za.mk (Zbb t7_1 hb)
       clear HO188
       clear HO191
       clear BK159
       clear BK160
       clear HB
       have HO188 := n0_
       have HO191 := n1_
       have HO194 := n2_
       have BK159 := n3_
       have BK160 := n4_
       have HB := n5_
       clear n0_ n1_ n2_ n3_ n4_ n5_
       (try clear hb)
       (try clear hb2)
       (try clear hk)
       (try clear hi)
       (try clear ho0)
       obtain ⟨Ao64, co64, eo64⟩ := Kd.Zbp HO191.out
       (first | subst eo64 | (injection eo64 with f1_ f2_ f3_; have f4_ := f1_.symm; have f5_ := f3_.symm; clear f1_ f2_ f3_; subst f4_; subst f5_))
       obtain ⟨Ao65, co65, eo65⟩ := Kd.Zbp HO194.out
       (first | subst eo65 | (injection eo65 with f1_ f2_ f3_; have f4_ := f1_.symm; have f5_ := f3_.symm; clear f1_ f2_ f3_; subst f4_; subst f5_))
       refine hK.out _ _ ⟨(Zah BK159.out 0).trans rfl, (Zah BK159.out 1).trans rfl, (Zah BK159.out 2).trans rfl, (Zah BK159.out 3).trans rfl, (Zah BK159.out 4).trans rfl, (Zah BK159.out 5).trans rfl, (Zah BK159.out 6).trans rfl, (Zah BK160.out 0).trans rfl, (Zah BK160.out 1).trans rfl, (Zah BK160.out 2).trans rfl⟩ (fun hHeld => ?_)
       clear hK K
       refine Zem (a' := ?_) ?_ ?_
       rotate_left
       ·show Act.put _ (some 81) _ = _
        simp only [Act.put, s0_, s1_, s2_, Zax, Zay]
        rfl
       refine one_ (i := 9) (N := some 85) u7_17 rfl rfl (Zda HT_.out t7_9) Zex (fun K hK => ?_)
       refine goes_ Try.func54 t7_9 rfl #[.slice Ao64 t189.length co64, .slice Ao65 t192.length co65, .int .u8 a2_1, .bool true, .slice A1 l1.length c1, .bool true] (by rfl) rfl rfl t7_3 ?_
       with_reducible refine (Zar.calls kj13 (fun k_ => some k_ = (.slice Ao64 t189.length co64 : Value).ownBlock) (.slice Ao64 t189.length co64) t189 _ _ t192 a2_1 true _ _ l1 true t195 w _ ?side1 ?side2 ?side3 ?side4 ?side5 ?side6 A52.out).mono ?_
       (case side1 => repeat (first | (with_reducible first | exact HB.out | apply Zau | apply Zaj | apply Zal | refine Zai ?_ GE159.out | refine Zai ?_ GE160.out) | exact HB.out))
       (case side2 => exact Kd.R_tight rfl HO191.out)
       (case side3 => exact Kd.C_kept_own ((Kd.Zcz HO194.out (Kd.Zdf HO191.out) Zex)) (fun k_ hk_ hs_ => (hk_.2) hs_))
       (case side4 => exact (Kd.Zb HO194.out).2.1)
       (case side5 => exact Kd.Zfj Kd.heap_bool HR1.out t7_1 (fun k_ hs_ => (fun e_ => Kd.Zbx HO191.out k_ e_.symm) hs_))
       (case side6 => exact HC1.out)
       rintro e w66 ⟨v196, rfl, ho0, hb, hkp⟩
       refine ⟨_, rfl, ?_⟩
       have n0_ := Za.mk (Zer (KB BK159) hkp (fun hs_ => (fun e_ => absurd e_ (by first | exact Kd.R_ne HO191.out BK159.out  Zex | (intro h_; have h2_ := HO191.out.1 _ h_.symm; simp at h2_))) hs_))
       have n1_ := Za.mk (Zer (KB BK160) hkp (fun hs_ => (fun e_ => (Kd.R_away HO191.out t7_8) e_) hs_))
       have n2_ := Za.mk (Kd.Zbv (ok' := fun k_ => some k_ ≠ (.slice Ao65 t192.length co65 : Value).ownBlock) (Kd.Zfb ((Kd.Zcz HO188.out (Kd.Zdf HO191.out) Zex)) hkp (fun k_ hk_ hs_ => (hk_.2) hs_)) (fun k_ hk_ => hk_.1.1.2))
       have n3_ := Za.mk (Kd.Zbv (ok' := fun k_ => some k_ ≠ (.slice Ao60 t186.length co60 : Value).ownBlock) (Kd.Zfb ((Kd.Zcz HO194.out (Kd.Zdf HO191.out) Zex)) hkp (fun k_ hk_ hs_ => (hk_.2) hs_)) (fun k_ hk_ => hk_.1.1.2))
       have n4_ := Za.mk (Kd.Zbv (ok' := fun k_ => k_ ≠ gb160) ho0 (fun k_ hk_ => Or.elim hk_ (fun hs_ => fun e_ => (Kd.R_away HO191.out t7_8) (by rw [← e_]; exact hs_)) (fun hn_ => (Kd.freshB (g := gb160) (o := .cells #[.int .i64 a2_0, .int .u8 a2_1, .bool a2_2] 44 (0, 0)) (KB BK160) k_ hn_))))
       have n5_ := Za.mk (hb)
       clear BK159
       clear BK160
       clear HO188
       clear HO194
       clear HB
       clear HO191
       have BK159 := n0_
       have BK160 := n1_
       have HO188 := n2_
       have HO194 := n3_
       have HO197 := n4_
       have HB := n5_
       clear n0_ n1_ n2_ n3_ n4_ n5_
       (try clear hb)
       (try clear hkp)
       (try clear ho0)
       refine hK.out _ _ ⟨(Zah BK159.out 0).trans rfl, (Zah BK159.out 1).trans rfl, (Zah BK159.out 2).trans rfl, (Zah BK159.out 3).trans rfl, (Zah BK159.out 4).trans rfl, (Zah BK159.out 5).trans rfl, (Zah BK159.out 6).trans rfl, (Zah BK160.out 0).trans rfl, (Zah BK160.out 1).trans rfl, (Zah BK160.out 2).trans rfl⟩ (fun hHeld => ?_)
       clear hK K
       refine Zem (a' := ?_) ?_ ?_
       rotate_left
       ·show Act.put _ (some 85) _ = _
        simp only [Act.put, s0_, s1_, s2_, Zax, Zay]
        rfl
       refine Zbc (i := 10) (N := some 7) (v := ?_) (a' := ?_) u7_18 rfl rfl (Zaw HT_.out t7_9) (fun _ _ _ h => h) (Or.inl ⟨by rfl, ?_⟩) ?_ ?_
       rotate_left
       ·intro w'
        go_simp
        with_reducible rfl
       rotate_left
       ·simp only [Act.put, s0_, s1_, s2_, Zax, Zay]
        rfl
       refine done_ (Zdj HT_.out t7_9) ?_
       try go_wp2
       have n0_ := Za.mk (Kd.Zbw HO188.out)
       have n1_ := Za.mk (Kd.Zbw HO194.out)
       have n2_ := Za.mk (Kd.Zbw HO197.out)
       have n3_ := Za.mk (Zap BK159.out)
       have n4_ := Za.mk (Zap BK160.out)
       have n5_ := Za.mk (Zal HB.out)
       clear HO188
       clear HO194
       clear HO197
       clear BK159
       clear BK160
       clear HB
       have HO188 := n0_
       have HO194 := n1_
       have HO197 := n2_
       have BK159 := n3_
       have BK160 := n4_
       have HB := n5_
       clear n0_ n1_ n2_ n3_ n4_ n5_
       refine Zek (n := 11) (S := fun w' => w'.cell? ⟨gb159, 0, none⟩ = some (.slice A0_0 l0_0.length c0_0) ∧ w'.cell? ⟨gb159, 1, none⟩ = some (.slice A0_1 l0_1.length c0_1) ∧ w'.cell? ⟨gb159, 2, none⟩ = some (.slice A0_2 l0_2.length c0_2) ∧ w'.cell? ⟨gb159, 3, none⟩ = some (.slice A0_3 l0_3.length c0_3) ∧ w'.cell? ⟨gb159, 4, none⟩ = some (.slice A0_4 l0_4.length c0_4) ∧ w'.cell? ⟨gb159, 5, none⟩ = some (.slice A0_5 l0_5.length c0_5) ∧ w'.cell? ⟨gb159, 6, none⟩ = some (.slice A0_6 l0_6.length c0_6) ∧ w'.cell? ⟨gb160, 0, none⟩ = some (.int .i64 a2_0) ∧ w'.cell? ⟨gb160, 1, none⟩ = some (.int .u8 a2_1) ∧ w'.cell? ⟨gb160, 2, none⟩ = some (.bool a2_2)) (ds := []) u7_7 t7_9 rfl rfl ⟨(Zah BK159.out 0).trans rfl, (Zah BK159.out 1).trans rfl, (Zah BK159.out 2).trans rfl, (Zah BK159.out 3).trans rfl, (Zah BK159.out 4).trans rfl, (Zah BK159.out 5).trans rfl, (Zah BK159.out 6).trans rfl, (Zah BK160.out 0).trans rfl, (Zah BK160.out 1).trans rfl, (Zah BK160.out 2).trans rfl⟩ (fun hHeld => ?_); refine Zcp Zag.tab13 Zag.bits13 (fun HT_ HW_ => ?_)
       generalize w66.drew = w67 at HO188 HO194 HO197 BK159 BK160 HB hHeld ⊢
       refine Zbc (i := 0) (N := some 86) (v := ?_) (a' := ?_) u7_8 rfl rfl (Zaw HT_.out t7_9) (fun _ _ _ h => h) (Or.inl ⟨by rfl, ?_⟩) ?_ ?_
       rotate_left
       ·intro w'
        go_simp
        with_reducible rfl
       rotate_left
       ·simp only [Act.put, s0_, s1_, s2_, Zax, Zay]
        rfl
       refine Zbc (i := 1) (N := some 87) (v := ?_) (a' := ?_) u7_9 rfl rfl (Zaw HT_.out t7_9) (fun _ _ _ h => h) (Or.inl ⟨by rfl, ?_⟩) ?_ ?_
       rotate_left
       ·intro w'
        go_simp
        with_reducible rfl
       rotate_left
       ·simp only [Act.put, s0_, s1_, s2_, Zax, Zay]
        rfl
       refine Zbc (i := 3) (N := some 89) (v := ?_) (a' := ?_) u7_10 rfl rfl (Zaw HT_.out t7_9) (fun _ _ _ h => h) (Or.inl ⟨by rfl, ?_⟩) ?_ ?_
       rotate_left
       ·intro w'
        go_simp
        with_reducible rfl
       rotate_left
       ·simp only [Act.put, s0_, s1_, s2_, Zax, Zay]
        rfl
       refine Zbc (i := 4) (N := some 90) (v := ?_) (a' := ?_) u7_11 rfl rfl (Zaw HT_.out t7_9) (fun _ _ _ h => h) (Or.inl ⟨by rfl, ?_⟩) ?_ ?_
       rotate_left
       ·intro w'
        go_simp
        with_reducible rfl
       rotate_left
       ·simp only [Act.put, s0_, s1_, s2_, Zax, Zay]
        rfl
       refine Zbc (i := 6) (N := some 92) (v := ?_) (a' := ?_) u7_12 rfl rfl (Zaw HT_.out t7_9) (fun _ _ _ h => h) (Or.inl ⟨by rfl, ?_⟩) ?_ ?_
       rotate_left
       ·intro w'
        go_simp
        with_reducible rfl
       rotate_left
       ·simp only [Act.put, s0_, s1_, s2_, Zax, Zay]
        rfl
       refine Zbc (i := 8) (N := some 94) (v := ?_) (a' := ?_) u7_13 rfl rfl (Zaw HT_.out t7_9) (fun _ _ _ h => h) (Or.inl ⟨by rfl, ?_⟩) ?_ ?_
       rotate_left
       ·intro w'
        go_simp
        with_reducible rfl
       rotate_left
       ·simp only [Act.put, s0_, s1_, s2_, Zax, Zay]
        rfl
       refine Zdh (i := 2) (N := some 88) (v := ?_) (a' := ?_) u7_14 rfl rfl (Zbt HT_.out HW_.out t7_9) (fun _ _ _ h => h) (Or.inl ⟨by rfl, ?_⟩) hHeld ?_ ?_
       rotate_left
       ·rintro w' ⟨s0, s1, s2, s3, s4, s5, s6, s7, s8, s9⟩
        go_simp
        with_reducible rfl
       rotate_left
       ·simp only [Act.put, s0_, s1_, s2_, Zax, Zay]
        rfl
       refine Zdh (i := 7) (N := some 93) (v := ?_) (a' := ?_) u7_15 rfl rfl (Zbt HT_.out HW_.out t7_9) (fun _ _ _ h => h) (Or.inl ⟨by rfl, ?_⟩) hHeld ?_ ?_
       rotate_left
       ·rintro w' ⟨s0, s1, s2, s3, s4, s5, s6, s7, s8, s9⟩
        go_simp
        with_reducible rfl
       rotate_left
       ·simp only [Act.put, s0_, s1_, s2_, Zax, Zay]
        rfl
       refine one_ (i := 5) (N := some 91) u7_16 rfl rfl (Zda HT_.out t7_9) Zex (fun K hK => ?_)
       refine goes_ Try.func55 t7_9 rfl #[.slice A0_6 l0_6.length c0_6, .int .i64 a2_0, .int .i64 (l1.length : Int)] (by rfl) rfl rfl t7_3 ?_
       with_reducible refine (Zaq.calls kj13 _ _ l0_6 a2_0 (l1.length : Int) t198 _ ?side1 ?side2 A53.out).mono ?_
       (case side1 => exact CD ((Kd.Zav HR0_6.out HB.out)))
       (case side2 => exact HC0_6.out)
       rintro e w68 ⟨v199, rfl, ho0, hb⟩
       refine ⟨_, rfl, ?_⟩
       have n0_ := RE HO188 hb (Kd.Zbx ho0)
       have n1_ := RE HO194 hb (Kd.Zbx ho0)
       have n2_ := RB HO197 hb
       have n3_ := Za.mk (Kd.Zdk (Kd.Zec (Kd.Zec ho0 (Kd.R_lt (RD HO188))) (Kd.R_lt (RD HO194))) (Zat t7_1))
       have n4_ := Za.mk (Zam (KB BK159) hb)
       have n5_ := Za.mk (Zam (KB BK160) hb)
       have n6_ := Za.mk (Zbb t7_1 hb)
       clear HO188
       clear HO194
       clear HO197
       clear BK159
       clear BK160
       clear HB
       have HO188 := n0_
       have HO194 := n1_
       have HO197 := n2_
       have HO200 := n3_
       have BK159 := n4_
       have BK160 := n5_
       have HB := n6_
       clear n0_ n1_ n2_ n3_ n4_ n5_ n6_
       (try clear hb)
       (try clear hb2)
       (try clear hk)
       (try clear hi)
       (try clear ho0)
       obtain ⟨Ao69, co69, eo69⟩ := Kd.Zbp HO197.out
       (first | subst eo69 | (injection eo69 with f1_ f2_ f3_; have f4_ := f1_.symm; have f5_ := f3_.symm; clear f1_ f2_ f3_; subst f4_; subst f5_))
       obtain ⟨Ao70, co70, eo70⟩ := Kd.Zbp HO200.out
       (first | subst eo70 | (injection eo70 with f1_ f2_ f3_; have f4_ := f1_.symm; have f5_ := f3_.symm; clear f1_ f2_ f3_; subst f4_; subst f5_))
       refine hK.out _ _ ⟨(Zah BK159.out 0).trans rfl, (Zah BK159.out 1).trans rfl, (Zah BK159.out 2).trans rfl, (Zah BK159.out 3).trans rfl, (Zah BK159.out 4).trans rfl, (Zah BK159.out 5).trans rfl, (Zah BK159.out 6).trans rfl, (Zah BK160.out 0).trans rfl, (Zah BK160.out 1).trans rfl, (Zah BK160.out 2).trans rfl⟩ (fun hHeld => ?_)
       clear hK K
       refine Zem (a' := ?_) ?_ ?_
       rotate_left
       ·show Act.put _ (some 91) _ = _
        simp only [Act.put, s0_, s1_, s2_, Zax, Zay]
        rfl
       refine one_ (i := 9) (N := some 95) u7_17 rfl rfl (Zda HT_.out t7_9) Zex (fun K hK => ?_)
       refine goes_ Try.func54 t7_9 rfl #[.slice Ao69 t195.length co69, .slice Ao70 t198.length co70, .int .u8 a2_1, .bool true, .slice A1 l1.length c1, .bool true] (by rfl) rfl rfl t7_3 ?_
       with_reducible refine (Zar.calls kj13 (fun k_ => some k_ = (.slice Ao69 t195.length co69 : Value).ownBlock) (.slice Ao69 t195.length co69) t195 _ _ t198 a2_1 true _ _ l1 true t201 w _ ?side1 ?side2 ?side3 ?side4 ?side5 ?side6 A54.out).mono ?_
       (case side1 => repeat (first | (with_reducible first | exact HB.out | apply Zau | apply Zaj | apply Zal | refine Zai ?_ GE159.out | refine Zai ?_ GE160.out) | exact HB.out))
       (case side2 => exact Kd.R_tight rfl HO197.out)
       (case side3 => exact Kd.C_kept_own ((Kd.Zcz HO200.out (Kd.Zdf HO197.out) Zex)) (fun k_ hk_ hs_ => (hk_.2) hs_))
       (case side4 => exact (Kd.Zb HO200.out).2.1)
       (case side5 => exact Kd.Zfj Kd.heap_bool HR1.out t7_1 (fun k_ hs_ => (fun e_ => Kd.Zbx HO197.out k_ e_.symm) hs_))
       (case side6 => exact HC1.out)
       rintro e w71 ⟨v202, rfl, ho0, hb, hkp⟩
       refine ⟨_, rfl, ?_⟩
       have n0_ := Za.mk (Zer (KB BK159) hkp (fun hs_ => (fun e_ => absurd e_ (by first | exact Kd.R_ne HO197.out BK159.out  Zex | (intro h_; have h2_ := HO197.out.1 _ h_.symm; simp at h2_))) hs_))
       have n1_ := Za.mk (Zer (KB BK160) hkp (fun hs_ => (fun e_ => (Kd.R_away HO197.out t7_8) e_) hs_))
       have n2_ := Za.mk (Kd.Zbv (ok' := fun k_ => some k_ ≠ (.slice Ao65 t192.length co65 : Value).ownBlock ∧ some k_ ≠ (.slice Ao70 t198.length co70 : Value).ownBlock) (Kd.Zfb ((Kd.Zcz HO188.out (Kd.Zdf HO197.out) Zex)) hkp (fun k_ hk_ hs_ => (hk_.2) hs_)) t7_7)
       have n3_ := Za.mk (Kd.Zbv (ok' := fun k_ => some k_ ≠ (.slice Ao60 t186.length co60 : Value).ownBlock ∧ some k_ ≠ (.slice Ao70 t198.length co70 : Value).ownBlock) (Kd.Zfb ((Kd.Zcz HO194.out (Kd.Zdf HO197.out) Zex)) hkp (fun k_ hk_ hs_ => (hk_.2) hs_)) t7_7)
       have n4_ := Za.mk (Kd.Zbv (ok' := fun k_ => some k_ ≠ (.slice Ao60 t186.length co60 : Value).ownBlock ∧ some k_ ≠ (.slice Ao65 t192.length co65 : Value).ownBlock) (Kd.Zfb ((Kd.Zcz HO200.out (Kd.Zdf HO197.out) Zex)) hkp (fun k_ hk_ hs_ => (hk_.2) hs_)) (fun k_ hk_ => ⟨hk_.1.1.1.2, hk_.1.1.2⟩))
       have n5_ := Za.mk (Kd.Zbv (ok' := fun k_ => k_ ≠ gb160) ho0 (fun k_ hk_ => Or.elim hk_ (fun hs_ => fun e_ => (Kd.R_away HO197.out t7_8) (by rw [← e_]; exact hs_)) (fun hn_ => (Kd.freshB (g := gb160) (o := .cells #[.int .i64 a2_0, .int .u8 a2_1, .bool a2_2] 44 (0, 0)) (KB BK160) k_ hn_))))
       have n6_ := Za.mk (hb)
       clear BK159
       clear BK160
       clear HO188
       clear HO194
       clear HO200
       clear HB
       clear HO197
       have BK159 := n0_
       have BK160 := n1_
       have HO188 := n2_
       have HO194 := n3_
       have HO200 := n4_
       have HO203 := n5_
       have HB := n6_
       clear n0_ n1_ n2_ n3_ n4_ n5_ n6_
       (try clear hb)
       (try clear hkp)
       (try clear ho0)
       refine hK.out _ _ ⟨(Zah BK159.out 0).trans rfl, (Zah BK159.out 1).trans rfl, (Zah BK159.out 2).trans rfl, (Zah BK159.out 3).trans rfl, (Zah BK159.out 4).trans rfl, (Zah BK159.out 5).trans rfl, (Zah BK159.out 6).trans rfl, (Zah BK160.out 0).trans rfl, (Zah BK160.out 1).trans rfl, (Zah BK160.out 2).trans rfl⟩ (fun hHeld => ?_)
       clear hK K
       refine Zem (a' := ?_) ?_ ?_
       rotate_left
       ·show Act.put _ (some 95) _ = _
        simp only [Act.put, s0_, s1_, s2_, Zax, Zay]
        rfl
       refine Zbc (i := 10) (N := some 7) (v := ?_) (a' := ?_) u7_18 rfl rfl (Zaw HT_.out t7_9) (fun _ _ _ h => h) (Or.inl ⟨by rfl, ?_⟩) ?_ ?_
       rotate_left
       ·intro w'
        go_simp
        with_reducible rfl
       rotate_left
       ·simp only [Act.put, s0_, s1_, s2_, Zax, Zay]
        rfl
       refine done_ (Zdj HT_.out t7_9) ?_
       try go_wp2
       go_ret
       exact ⟨_, by first | rfl | (simp [Zbe, Zbd] <;> rfl) | (simp [*, Zbe, Zbd] <;> rfl), by (with_reducible repeat (first | apply Kd.Zcm | apply Kd.Zcl | apply Kd.Zbw)); exact Kd.Zbv HO203.out (fun _ hk => trivial), by repeat (first | (with_reducible first | exact HB.out | apply Zau | apply Zaj | apply Zal | refine Zai ?_ GE159.out | refine Zai ?_ GE160.out) | exact HB.out)⟩
      rw [if_pos c46] at H
      have c46b0 : (a2_1 == 1) = true := beq_iff_eq.mpr c46
      have c46b1 : (a2_1 != 1) = false := bne_eq_false_iff_eq.mpr c46
      clear c46
      obtain rfl := Option.some.inj H
      have hnb47 := NB160_159.out
      have hnc47 := NB159_160.out
      obtain ⟨hcz48_0, hcz48_1, hcz48_2, hfz48_0, hfz48_1, hfz48_2⟩ := cz3 BK160
      go_wp2
      go_ret
      exact ⟨_, by first | rfl | (simp [Zbe, Zbd] <;> rfl) | (simp [*, Zbe, Zbd] <;> rfl), by (with_reducible repeat (first | apply Kd.Zcm | apply Kd.Zcl | apply Kd.Zbw)); exact Kd.Zbv HO_7.out (fun _ hk => trivial), by repeat (first | (with_reducible first | exact HB.out | apply Zau | apply Zaj | apply Zal | refine Zai ?_ GE159.out | refine Zai ?_ GE160.out) | exact HB.out)⟩
   subst c13
   have H1 : (some ([] : List (S44))) = some r := by rw [if_pos rfl] at H; exact H
   clear H
   have H := H1
   clear H1
   obtain rfl := Option.some.inj H
   go_wp2
   go_ret
   exact ⟨_, by first | rfl | (simp [Zbe, Zbd] <;> rfl) | (simp [*, Zbe, Zbd] <;> rfl), by (with_reducible repeat (first | apply Kd.Zcm | apply Kd.Zcl | apply Kd.Zbw)); exact Kd.Zbv HO_7.out (fun _ hk => trivial), by repeat (first | (with_reducible first | exact HB.out | apply Zau | apply Zaj | apply Zal | refine Zai ?_ GE159.out | refine Zai ?_ GE160.out) | exact HB.out)⟩
end Go.Proofs.Ytclgclcoblfddaa.P
