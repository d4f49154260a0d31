/- Chapter 21: closure.Of. -/
import Derived.Test.YtclgclcoblfddaaReach
namespace Go.Proofs.Ytclgclcoblfddaa
open Go.RowKit Go.Shelf
set_option linter.unusedVariables false
set_option linter.unusedSimpArgs false
theorem sortedL_of_mem {l l' : List It} (h : ∀ x, x ∈ l ↔ x ∈ l') : sortedL l = sortedL l' := by
  obtain ⟨h1, h2, h3⟩ := sortedL_facts l
  have hn : ((sortedL l).map jobOf).Nodup := by
    unfold List.Nodup
    rw [List.pairwise_map]
    exact h1.imp fun hxy => ltJ_ne hxy
  have hm : ∀ k, mustOf l k = mustOf l' k := fun k => by
    unfold mustOf
    rw [Bool.eq_iff_iff, List.any_eq_true, List.any_eq_true]
    exact ⟨fun ⟨x, hx, hp⟩ => ⟨x, (h x).1 hx, hp⟩, fun ⟨x, hx, hp⟩ => ⟨x, (h x).2 hx, hp⟩⟩
  have hk : ∀ k, k ∈ l.map jobOf ↔ k ∈ l'.map jobOf := fun k => by
    rw [List.mem_map, List.mem_map]
    exact ⟨fun ⟨x, hx, hp⟩ => ⟨x, (h x).1 hx, hp⟩, fun ⟨x, hx, hp⟩ => ⟨x, (h x).2 hx, hp⟩⟩
  rw [← sortedL_of (l := l) hn h2, ← sortedL_of (l := l') hn (fun k => (h2 k).trans (hk k))]
  exact List.map_congr_left fun k _ => by rw [hm]
/-! Pulls are of units that there are, not of what pulls. -/
theorem mem_plPut {on : List Bool} {u t : Int} {m only : Bool} {tbs : List (List (List Int))} {p : It} (h : p ∈ plPut on u t m only tbs) : p.t = t ∧ p.m = m ∧ 0 ≤ p.u ∧ p.u < on.length ∧ p.u ≠ u := by
  unfold plPut at h
  obtain ⟨tb, _, h⟩ := List.mem_flatMap.1 h
  unfold plRow at h
  obtain ⟨n, hn, h⟩ := List.mem_flatMap.1 h
  unfold rowU at hn
  have hn := (List.mem_filter.1 hn).2
  unfold pl1 at h
  split at h
  · rw [List.mem_singleton.1 h]
    unfold okB at hn
    simp only [Bool.and_eq_true, decide_eq_true_eq] at hn
    exact ⟨rfl, rfl, hn.1.1, hn.1.2, hn.2⟩
  · cases h
theorem jobsU_nodup (n : Nat) : (jobsU n).Nodup := by
  unfold jobsU
  induction n with
  | zero => exact List.nodup_nil
  | succ n ih =>
    rw [List.range_succ, List.flatMap_append]
    refine List.nodup_append.2 ⟨ih, by simp, fun a ha b hb e => ?_⟩
    have h1 := mem_jobsU.1 (show a ∈ jobsU n from ha)
    simp at hb
    rw [e] at h1
    rcases hb with rfl | rfl | rfl <;> simp at h1 <;> omega
theorem pull_tame (g : GL) (on : List Bool) : Tame (pullJ g on) (jobsU on.length) := by
  intro x p hp
  unfold pullJ pullsL at hp
  split at hp
  · rename_i hc
    have hk := hc.2.2
    simp only [knownB, Bool.and_eq_true, decide_eq_true_eq] at hk
    have key : (p.t = 1 ∨ p.t = 2 ∨ p.t = x.2) ∧ 0 ≤ p.u ∧ p.u < on.length ∧ p.u ≠ x.1 := by
      rcases List.mem_append.1 hp with h | h
      · split at h
        · cases h
        · rcases List.mem_append.1 h with h | h
          · rcases List.mem_append.1 h with h | h
            · have := mem_plPut h; exact ⟨.inl this.1, this.2.2⟩
            · have := mem_plPut h; exact ⟨.inl this.1, this.2.2⟩
          · have := mem_plPut h; exact ⟨.inr (.inl this.1), this.2.2⟩
      · split at h
        · cases h
        · have := mem_plPut h; exact ⟨.inr (.inr this.1), this.2.2⟩
    refine ⟨mem_jobsU.2 ⟨⟨key.2.1, key.2.2.1⟩, ?_⟩, fun e => key.2.2.2 (congrArg Prod.fst e)⟩
    show 1 ≤ p.t ∧ p.t ≤ 3
    omega
  · cases hp
/-- The jobs that are pulled in from one; whether there are any. -/
def ofL (g : GL) (on : List Bool) (ban : List Jb) (a : Jb) : List It × Bool :=
  if 0 ≤ a.1 ∧ a.1 < on.length ∧ knownB a.2 = true then
    if a ∈ spoilL (pullJ g on) ban (reachL (pullJ g on) (jobsU on.length) (fun _ => false) a) then ([], false)
    else (sortedL ((reachL (pullJ g on) (jobsU on.length) (fun x => decide (x ∈ spoilL (pullJ g on) ban (reachL (pullJ g on) (jobsU on.length) (fun _ => false) a))) a).map fun k =>
      ⟨k.1, k.2, decide (k ∈ mustL (pullJ g on) (jobsU on.length) (fun x => decide (x ∈ spoilL (pullJ g on) ban (reachL (pullJ g on) (jobsU on.length) (fun _ => false) a))) a)⟩), true)
  else ([], false)
theorem reach_in {P : Jb → List It} {U : List Jb} (hT : Tame P U) (bad : Jb → Bool) (a : Jb) {x : Jb} (h : x ∈ reachL P U bad a) : x ∈ a :: U := by
  have := (reach_mem hT bad a x).1 h
  exact this.least (T := fun x => x ∈ a :: U) (fun x hx => by rw [List.mem_singleton.1 hx]; exact List.mem_cons_self) fun x y _ hy => by
    obtain ⟨⟨p, hp, rfl⟩, _⟩ := mem_pullE.1 hy
    exact List.mem_cons_of_mem _ (hT x p hp).1
set_option maxRecDepth 100000 in
set_option maxHeartbeats 8000000 in
theorem of_calls (w : World) (G : G7) (Aon : Option Addr) (con : Nat) (on : List Bool) (u t : Int) (ban : List Jb) (Ab : Option Addr) (cb : Nat)
    (hG : G.ok w) (hob : RdV w Aon (on.map .bool)) (hol : on.length ≤ 1000) (hb : RdJ w Ab ban) (hbl : ban.length ≤ 10000) :
    Calls Try.prog 14 #[.agg G.cs.toArray, .slice Aon on.length con, .agg #[.int .i64 u, .int .u8 t], .slice Ab ban.length cb] w
      fun e w' => ∃ v, e = .returned (.tuple #[v, .bool (ofL G.l on ban (u, t)).2]) ∧ w'.ownsRow w.heap.size 34 3 v (ofL G.l on ban (u, t)).1.length (itCells (ofL G.l on ban (u, t)).1) ∧ Ext w w' := by
  have KN := Lib.hid known_calls
  by_cases h0 : 0 ≤ u
  case neg =>
    have hu : u < 0 := by omega
    have ho : ofL G.l on ban (u, t) = ([], false) := if_neg fun h => h0 h.1
    rw [ho]
    go_enter Try.func14, Try.ntmps14
    go_wp2_with fail
    go_ret2
    exact ⟨_, rfl, World.ownsRow_nil _ _ _ _, ((Ext.refl w).alloc _).alloc _⟩
  have hu0 : ¬ u < 0 := by omega
  by_cases h1 : u < on.length
  case neg =>
    have hu1 : (on.length : Int) ≤ u := by omega
    have ho : ofL G.l on ban (u, t) = ([], false) := if_neg fun h => h1 h.2.1
    rw [ho]
    go_enter Try.func14, Try.ntmps14
    go_wp2_with fail
    go_ret2
    exact ⟨_, rfl, World.ownsRow_nil _ _ _ _, ((Ext.refl w).alloc _).alloc _⟩
  have hu1 : ¬ (on.length : Int) ≤ u := by omega
  cases hk : knownB t
  case false =>
    have ho : ofL G.l on ban (u, t) = ([], false) := if_neg fun h => by have := h.2.2; simp only [hk] at this; cases this
    rw [ho]
    have HK := Lib.hid hk
    clear hk
    go_enter Try.func14, Try.ntmps14
    go_wp2_with (go_at_call 43; refine (KN.out _ _).mono ?_; rintro e W ⟨rfl, rfl⟩; rw [HK.out])
    go_ret2
    exact ⟨_, rfl, World.ownsRow_nil _ _ _ _, ((Ext.refl w).alloc _).alloc _⟩
  have ho : ofL G.l on ban (u, t) = if (u, t) ∈ spoilL (pullJ G.l on) ban (reachL (pullJ G.l on) (jobsU on.length) (fun _ => false) (u, t)) then ([], false)
    else (sortedL ((reachL (pullJ G.l on) (jobsU on.length) (fun x => decide (x ∈ spoilL (pullJ G.l on) ban (reachL (pullJ G.l on) (jobsU on.length) (fun _ => false) (u, t)))) (u, t)).map fun k =>
      ⟨k.1, k.2, decide (k ∈ mustL (pullJ G.l on) (jobsU on.length) (fun x => decide (x ∈ spoilL (pullJ G.l on) ban (reachL (pullJ G.l on) (jobsU on.length) (fun _ => false) (u, t)))) (u, t))⟩), true) := if_pos ⟨h0, h1, hk⟩
  have hUl : (jobsU on.length).length ≤ 3000 := by rw [jobsU_length]; omega
  have hT := pull_tame G.l on
  have HR1 := Lib.hid (fun W (hx : Ext w W) => reach_calls W G Aon con on (u, t) none (fun _ => false) (hG.ext hx) (hob.ext hx) hol (fun W' _ u t => lookSet_nil W' u t) (jobsU on.length) (jobsU_nodup _) hUl hT)
  have HR2 := Lib.hid (fun W (hx : Ext w W) b B (hs : SetM W b B) => reach_calls W G Aon con on (u, t) (some b) B (hG.ext hx) (hob.ext hx) hol (fun W' hx' u t => (hs.ext hx').look u t) (jobsU on.length) (jobsU_nodup _) hUl hT)
  have HS := Lib.hid (fun W (hx : Ext w W) all Aa ca ha hal => spoilt_calls W G Aon con on ban Ab cb all Aa ca (hG.ext hx) (hob.ext hx) hol (hb.ext hx) hbl ha hal)
  have hin : ∀ bad x, x ∈ reachL (pullJ G.l on) (jobsU on.length) bad (u, t) → x ∈ (u, t) :: jobsU on.length := fun bad x h => reach_in hT bad (u, t) h
  obtain ⟨P, hP⟩ : ∃ P, pullJ G.l on = P := ⟨_, rfl⟩
  rw [hP] at HR1 HR2 HS ho hin
  obtain ⟨U, hU⟩ : ∃ U, jobsU on.length = U := ⟨_, rfl⟩
  rw [hU] at HR1 HR2 ho hin hUl
  rw [ho]
  obtain ⟨bad, hbad⟩ : ∃ bad, spoilL P ban (reachL P U (fun _ => false) (u, t)) = bad := ⟨_, rfl⟩
  rw [hbad]
  obtain ⟨R, hR⟩ : ∃ R, (if (u, t) ∈ bad then (([] : List It), false) else (sortedL ((reachL P U (fun x => decide (x ∈ bad)) (u, t)).map fun k => (⟨k.1, k.2, decide (k ∈ mustL P U (fun x => decide (x ∈ bad)) (u, t))⟩ : It)), true)) = R := ⟨_, rfl⟩
  rw [hR]
  have HRV := Lib.hid hR
  have HBAD := Lib.hid hbad
  have HIN := Lib.hid hin
  have HK := Lib.hid hk
  clear hG hob hb ho hT hP hU hbad hk hin hR
  have hBw : ∃ B, w.heap.size = B := ⟨_, rfl⟩
  obtain ⟨B, hB⟩ := hBw
  go_enter Try.func14, Try.ntmps14
  go_upto_region 1 with (fail)
  refine wp_gen (fun W => Blk W B G.cs 24 ∧ Blk W (B + 1) [.int .i64 u, .int .u8 t] 32 ∧ B + 1 + 1 ≤ W.heap.size ∧ Ext w W) ⟨(Blk.newAt w G.cs _ _ hB.symm).alloc _, Blk.newAt _ _ _ _ (by rw [World.size_alloc, hB]), by rw [World.size_alloc, World.size_alloc, hB]; exact Nat.le_refl _, ((Ext.refl w).alloc _).alloc _⟩ ?_
  rintro W0 ⟨hbg, hb1, hs0, hx0⟩
  have HT := Lib.hid (rowG7 G)
  have e0 := hb1.cell 0 rfl
  have e1 := hb1.cell 1 rfl
  go_wp2_with (first
    | (go_at_call 43; refine (KN.out _ _).mono ?_; rintro e W ⟨rfl, rfl⟩; rw [HK.out])
    | (refine wpList_load_blk rfl 24 (.tmp 4) rfl B rfl HT.out hbg ?_)
    | (go_at_call 46; refine (HR1.out _ hx0).mono ?_; rintro e W1 ⟨ba, rfl, hba, hma, hx1⟩)
    | (go_at_call 45; refine (keysM_f ba _).mono ?_; rintro e w' ⟨rfl, rfl⟩))
  have hx01 : Ext w W1 := Ext.trans hx0 hx1
  obtain ⟨esa, ma, fma⟩ := hma
  have hka : ∀ k, k ∈ esa.map (·.1) ↔ k ∈ reachL P U (fun _ => false) (u, t) := fun k => by rw [fma.mem]; unfold mustV; by_cases h : k ∈ reachL P U (fun _ => false) (u, t) <;> simp [h]
  have hla : esa.length ≤ 3001 := by
    have := fma.length ((u, t) :: U) fun k hk => by
      rw [← fma.mem] at hk
      exact HIN.out _ k ((hka k).1 hk)
    rw [List.length_cons] at this
    omega
  have hbaw : ba < W1.heap.size := ma.lt
  have hbx : W1.heap.size < (W1.alloc (.cells #[.map (some ba)] 82)).heap.size := by rw [World.size_alloc]; omega
  have hC := Lib.hid (collectM_calls W1.heap.size ba esa (W1.alloc (.cells #[.map (some ba)] 82)) hbx ((Blk.new W1 [.map (some ba)] 82).cell 0 rfl) (ma.ext ((Ext.refl W1).alloc _)) (by omega))
  refine hC.out.mono ?_
  rintro e W2 ⟨va, ss, rfl, hss, hrow, hbl⟩
  obtain ⟨Ass, css, rfl, hcss, hrds, _⟩ := OwnsJ.rd hrow
  have hx12 : Ext W1 W2 := Ext.trans ((Ext.refl W1).alloc _) hbl
  have hx02 : Ext w W2 := Ext.trans hx01 hx12
  have hbg2 := (hbg.ext hx1).ext hx12
  have hb12 := (hb1.ext hx1).ext hx12
  have hssl : ss.length ≤ 10000 := by rw [hss.length_eq, List.length_map]; omega
  have hsm : ∀ x, x ∈ spoilL P ban ss ↔ x ∈ bad := fun x => by
    rw [← HBAD.out]
    exact spoil_all (fun y => by rw [hss.mem_iff]; exact hka y) x
  have hfs : (fun k => decide (k ∈ spoilL P ban ss)) = fun k => decide (k ∈ bad) := by
    funext k
    exact decide_eq_decide.2 (hsm k)
  have HSP := Lib.hid (HS.out W2 hx02 ss Ass css hrds hssl)
  rw [hfs] at HSP
  clear hss hrow hbl hka hla hbaw hbx hC ma fma hsm hfs hrds HS HR1 hbg hb1 e0 e1 hx0 hx1 hx01 hx12
  have e0 := hb12.cell 0 rfl
  have e1 := hb12.cell 1 rfl
  by_cases hbd : (u, t) ∈ bad
  · have hRV := HRV.out
    rw [if_pos hbd] at hRV
    subst hRV
    have hdt : decide ((u, t) ∈ bad) = true := decide_eq_true hbd
    have HDT := Lib.hid hdt
    clear hbd hdt
    go_wp2_with (first
      | (refine wpList_load_blk rfl 24 (.tmp 4) rfl B rfl HT.out hbg2 ?_)
      | (go_at_call 47; refine HSP.out.mono ?_; rintro e W3 ⟨bb, rfl, hbb, hmb, hx3⟩; have hl3 := hmb.look u t; rw [HDT.out] at hl3; simp only [if_true] at hl3; have g0 := (hb12.ext hx3).cell 0 rfl; have g1 := (hb12.ext hx3).cell 1 rfl; clear e0 e1))
    go_ret2
    exact ⟨_, rfl, World.ownsRow_nil _ _ _ _, Ext.trans hx02 hx3⟩
  · have HRV2 := Lib.hid (HRV.out.symm.trans (if_neg hbd))
    clear HRV
    have hdt : decide ((u, t) ∈ bad) = false := decide_eq_false hbd
    have HDT := Lib.hid hdt
    clear hbd hdt
    go_wp2_with (first
      | (refine wpList_load_blk rfl 24 (.tmp 4) rfl B rfl HT.out hbg2 ?_)
      | (go_at_call 47; refine HSP.out.mono ?_; rintro e W3 ⟨bb, rfl, hbb, hmb, hx3⟩; have hl3 := hmb.look u t; rw [HDT.out] at hl3; simp only [Bool.false_eq_true, if_false] at hl3; have g0 := (hb12.ext hx3).cell 0 rfl; have g1 := (hb12.ext hx3).cell 1 rfl; have hbg3 := hbg2.ext hx3; have hx03 : Ext w W3 := Ext.trans hx02 hx3; have HR := Lib.hid (HR2.out W3 hx03 bb _ hmb); clear e0 e1)
      | (refine wpList_load_blk rfl 24 (.tmp 4) rfl B rfl HT.out hbg3 ?_)
      | (go_at_call 46; refine HR.out.mono ?_; rintro e W4 ⟨bm, rfl, hbm, hmm, hx4⟩; obtain ⟨esm, mm, fmm⟩ := hmm)
      | (refine wpList_range rfl (.tmp 50) 82 84 rfl Try.underlying82 bm esm rfl mm ?_; rintro W5 m5 r5 x5 s5; go_simp))
    have hx05 : Ext w W5 := Ext.trans hx03 (Ext.trans hx4 x5)
    have hkm : ∀ k, k ∈ esm.map (·.1) ↔ k ∈ reachL P U (fun x => decide (x ∈ bad)) (u, t) := fun k => by rw [fmm.mem]; unfold mustV; by_cases h : k ∈ reachL P U (fun x => decide (x ∈ bad)) (u, t) <;> simp [h]
    have hlm : esm.length ≤ 3001 := by
      have := fmm.length ((u, t) :: U) fun k hk => by
        rw [← fmm.mem] at hk
        exact HIN.out _ k ((hkm k).1 hk)
      rw [List.length_cons] at this
      omega
    have hval : ∀ (i : Nat) (k : Jb) (v : Value), esm[i]? = some (k, v) → v = .agg #[.bool (decide (k ∈ mustL P U (fun x => decide (x ∈ bad)) (u, t)))] := fun i k v hi => by
      have hm := List.mem_of_getElem? hi
      have h1 := fmm.entry hm
      have h2 : k ∈ reachL P U (fun x => decide (x ∈ bad)) (u, t) := (hkm k).1 (List.mem_map_of_mem (f := (·.1)) hm)
      simp only [if_pos h2, mustV, Option.map_some, Option.some.injEq] at h1
      exact h1.symm
    obtain ⟨r, hr⟩ : ∃ r, W4.heap.size = r := ⟨_, rfl⟩
    rw [hr] at r5 ⊢
    have hrB : bm < r := by have := mm.lt; omega
    have hBr : B ≤ bm := by have := hx03.size; omega
    have HKM := Lib.hid hkm
    clear hkm HR2 HR HSP hmb hl3 g0 g1 hbg3 hbg2 hb12 fmm mm s5 x5 hx4 hx3
    generalize reachL P U (fun x => decide (x ∈ bad)) (u, t) = RL at HKM HRV2
    generalize mustL P U (fun x => decide (x ∈ bad)) (u, t) = ML at hval HRV2
    go_loopw [12] (fun ov W => ∃ (seen : List Nat) (l : List It), RMap encJ W bm esm ∧ RIter W r bm esm.length seen ∧ seen.Nodup ∧ (∀ i ∈ seen, i < esm.length) ∧ seen.length ≤ esm.length ∧ l.map jobOf = keysAt esm seen ∧ (∀ x ∈ l, x.m = decide (jobOf x ∈ ML)) ∧ W.ownsRow W5.heap.size 34 3 ov l.length (itCells l) ∧ W5.heap.size ≤ W.heap.size ∧ Ext w W)
      (fun _ W => esm.length - came W r)
    case atStart => exact ⟨[], [], m5, r5, List.nodup_nil, (fun i hi => by cases hi), Nat.zero_le _, rfl, (fun x hx => by cases hx), World.ownsRow_nil _ _ _ _, Nat.le_refl _, hx05⟩
    case round =>
      have h5r : r < W5.heap.size := by obtain ⟨_, _, h⟩ := r5; exact (Array.getElem?_eq_some_iff.1 h).1
      clear m5 r5 hx05
      obtain ⟨seen, l, hmp, hit, hnd, hlt, hsl, hlk, hlm2, hown, hsz, hxw⟩ := hrel
      go_wp2_with (first | (refine wpList_next rfl (.tmp 51) rfl bm r esm seen rfl hmp hit ?_ ?_))
      · intro hall
        go_simp
        have hperm := keysAt_all hnd hlt hall
        have hmem : ∀ x, x ∈ l ↔ x ∈ RL.map fun k => (⟨k.1, k.2, decide (k ∈ ML)⟩ : It) := by
          intro x
          rw [List.mem_map]
          constructor
          · intro hx
            have h1 : jobOf x ∈ l.map jobOf := List.mem_map_of_mem hx
            rw [hlk, hperm.mem_iff, HKM.out] at h1
            refine ⟨jobOf x, h1, ?_⟩
            have h2 := hlm2 x hx
            obtain ⟨xu, xt, xm⟩ := x
            simp only at h2
            rw [h2]
            rfl
          · rintro ⟨k, hk, rfl⟩
            have h1 : k ∈ l.map jobOf := by rw [hlk, hperm.mem_iff, HKM.out]; exact hk
            obtain ⟨y, hy, rfl⟩ := List.mem_map.1 h1
            have h2 := hlm2 y hy
            rw [← h2]
            exact hy
        have hll : l.length ≤ 1000000 := by
          have h1 := congrArg List.length hlk
          rw [List.length_map, keysAt_length hlt] at h1
          omega
        have HSL := Lib.hid (sortedL_of_mem hmem)
        obtain ⟨Al, cl, rfl, _, hrl, _⟩ := OwnsI.rd hown
        have HSO := Lib.hid (Sorted_calls l Al cl wr hrl hll)
        clear hperm hmem hmp hit hnd hlt hsl hlk hlm2 hown hall hval
        go_wp2_with (go_at_call 48; refine HSO.out.mono ?_; rintro e W7 ⟨v7, rfl, ho7, hx7⟩)
        have hR2 := HRV2.out
        subst hR2
        have hxx : Ext w W7 := Ext.trans hxw hx7
        have hBW : w.heap.size ≤ wr.heap.size := hxw.size
        go_ret2
        refine ⟨_, rfl, ?_, hxx⟩
        rw [← HSL.out]
        exact Owns.low ho7 hBW
      · intro i u2 t2 v W6 hi hns hmp2 hit2 hg2 hs2 hen
        have hvv := hval i (u2, t2) v hi
        subst hvv
        have hen' : (Instr.entry (.pointer (some ⟨r, 0, none⟩))).run Try.prog W6 = .ok (.tuple #[.agg #[.int .i64 u2, .int .u8 t2], .agg #[.bool (decide ((u2, t2) ∈ ML))]]) W6 := hen
        have hcm := Lib.hid hit.came
        have hlt2 : i < esm.length := (List.getElem?_eq_some_iff.1 hi).1
        have hlt3 : ∀ j ∈ seen ++ [i], j < esm.length := by
          intro j hj
          rcases List.mem_append.1 hj with h | h
          · exact hlt j h
          · rw [List.mem_singleton.1 h]; exact hlt2
        have hnd3 : (seen ++ [i]).Nodup := List.nodup_append.2 ⟨hnd, by simp, fun a ha b hb e => by rw [List.mem_singleton.1 hb] at e; exact hns (e ▸ ha)⟩
        have hsl3 : (seen ++ [i]).length ≤ esm.length := nodup_le _ hnd3 hlt3
        have hkey := keysAt_snoc (seen := seen) hi
        have hl1 : l.length ≤ 100000000 := by
          have h1 := congrArg List.length hlk
          rw [List.length_map, keysAt_length hlt] at h1
          omega
        have hlk3 : ∀ c, (l ++ [(⟨u2, t2, c⟩ : It)]).map jobOf = keysAt esm (seen ++ [i]) := fun c => by rw [hkey, List.map_append, hlk]; rfl
        have hown6 := Owns.kept hown hg2 (fun k hk e => by have := (hown.lt k hk).1; cases e; omega)
        have hxw6 : Ext w W6 := Below.grown hxw hg2 hxw.size (fun k e => by cases e; omega)
        have hm3 : ∀ x ∈ l ++ [(⟨u2, t2, decide ((u2, t2) ∈ ML)⟩ : It)], x.m = decide (jobOf x ∈ ML) := fun x hx => by
          rcases List.mem_append.1 hx with h | h
          · exact hlm2 x h
          · rw [List.mem_singleton.1 h]; rfl
        have HLK3 := Lib.hid (hlk3 (decide ((u2, t2) ∈ ML)))
        have HM3 := Lib.hid hm3
        clear hen hi hns hnd hlt hsl hlk hlm2 hmp hit hg2 hown hkey hlk3 hm3 hxw
        generalize decide ((u2, t2) ∈ ML) = c at hen' HLK3 HM3 ⊢
        have hsz6 : W5.heap.size ≤ W6.heap.size := by omega
        have hq6 : W6.heap.size = wr.heap.size := hs2
        go_simp
        go_upto_region 11 with (fail)
        have hq6' := hq6.symm
        refine wp_gen (fun W => Blk W wr.heap.size [.int .i64 u2, .int .u8 t2] 32 ∧ Blk W (wr.heap.size + 1) [.bool c] 84 ∧ Ext W6 W) ⟨(Blk.newAt W6 _ _ _ hq6').alloc _, Blk.newAt _ _ _ _ (by rw [World.size_alloc, hq6]), ((Ext.refl W6).alloc _).alloc _⟩ ?_
        rintro W7 ⟨hbj, hbc, hx7⟩
        obtain ⟨q, hq⟩ : ∃ q, wr.heap.size = q := ⟨_, rfl⟩
        rw [hq] at hbj hbc ⊢
        have e0 := hbj.cell 0 rfl
        have e1 := hbj.cell 1 rfl
        have e2 := hbc.cell 0 rfl
        have hown7 := Owns.ext hown6 hx7
        have s7 := hx7.size
        have hmp7 := hmp2.ext hx7
        have hit7 := hit2.ext hx7
        have hxw7 : Ext w W7 := Ext.trans hxw6 hx7
        have hBW5 : w.heap.size ≤ W5.heap.size := by omega
        have hown8 := hown7.alloc (.cells #[.int .i64 u2, .int .u8 t2, .bool c] 34)
        clear hown6 hmp2 hit2 hxw6 hx7 hen' hbj hbc hown7
        go_wp2_with (refine wpList_append_item rfl (.tmp 57) (.tmp 62) rfl W5.heap.size u12 l rfl hown8 W7.heap.size 1 ⟨u2, t2, c⟩ rfl (Blk.newAt W7 _ _ _ rfl) hl1 (by rw [World.size_alloc]; omega) ?_; rintro v' W8 o8 g8 d8)
        have s8 := g8.size
        rw [World.size_alloc] at s8
        have hnb : ∀ k, u12.ownBlock = some k → W5.heap.size ≤ k := fun k hk => (hown8.lt k hk).1
        have hmp8 : RMap encJ W8 bm esm := (hmp7.ext ((Ext.refl W7).alloc _)).kept g8 (fun e => by have := hnb bm e.symm; omega)
        have hit8 : RIter W8 r bm esm.length (seen ++ [i]) := (hit7.ext ((Ext.refl W7).alloc _)).kept g8 (fun e => by have := hnb r e.symm; omega)
        have hxw8 : Ext w W8 := Below.grown (Ext.alloc hxw7 _) g8 (by rw [World.size_alloc]; omega) (fun k e => by have := hnb k e; omega)
        have hcm8 := hit8.came
        go_roundw
        case rel => exact ⟨seen ++ [i], _, hmp8, hit8, hnd3, hlt3, hsl3, HLK3.out, HM3.out, o8, by omega, hxw8⟩
        case measure =>
          rw [hcm8]
          have := hcm.out
          simp at hsl3 ⊢
          omega
end Go.Proofs.Ytclgclcoblfddaa
