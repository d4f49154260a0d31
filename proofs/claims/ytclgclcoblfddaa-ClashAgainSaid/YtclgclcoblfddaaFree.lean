/- Chapter 22: clash.Free. -/
import Derived.Test.YtclgclcoblfddaaVict
import Derived.Test.YtclgclcoblfddaaCptJ
import Derived.Test.YtclgclcoblfddaaOrdJ
import Derived.Test.YtclgclcoblfddaaOnes
import Derived.WalkMore
import Derived.ScopeJumps
namespace Go.Proofs.Ytclgclcoblfddaa
open Go.RowKit Go.Shelf
set_option linter.unusedVariables false
set_option linter.unusedSimpArgs false
/-- What is left when all that clash are banned. -/
def freeF (g : GL) (on : List Bool) (a : Jb) : Nat → List Jb → List It × List Jb × Int
  | 0, _ => ([], [], 0)
  | n + 1, bans => if (ofL g on bans a).2 then
      if (victL (ofL g on bans a).1).2.2 = 0 then
        if (victL (ofL g on bans a).1).2.1 then freeF g on a n (bans ++ [(victL (ofL g on bans a).1).1])
        else ((wholeL (sortedL (ofL g on bans a).1)).1, compL (sortJ bans), 0)
      else ([], [], (victL (ofL g on bans a).1).2.2)
    else ([], [], 220)
def leftJ (n : Nat) (bans : List Jb) : Nat := ((jobsU n).filter fun k => !decide (k ∈ bans)).length
def freeL (g : GL) (on : List Bool) (ban : List Jb) (a : Jb) : List It × List Jb × Int :=
  if 0 ≤ a.1 ∧ a.1 < on.length ∧ knownB a.2 = true then freeF g on a (leftJ on.length ban + 1) ban else ([], [], 2)
def sliceLen : Value → Nat | .slice _ n _ => n | _ => 0
/-- The frame at the label. -/
def frame22 (Aon : Option Addr) (on : List Bool) (con b4 b6 : Nat) (v : Value) (s0 s2 s3 s5 s7 s8 s9 s10 s12 s13 s14 s15 s16 s17 s18 s19 s20 s21 s22 s23 s24 s25 s26 s27 s28 s29 s30 s31 s32 s33 s34 s35 s36 s37 s38 s39 s40 s41 s42 s43 s44 s45 s46 s47 s48 s49 s50 s51 s52 s53 s54 s55 s56 s57 s58 s59 s60 s61 s62 s63 s64 s65 s66 s67 s68 s69 s70 s71 s72 : Value) : Act := { tmps := #[s0, .slice Aon on.length con, s2, s3, .pointer (some ⟨b4, 0, none⟩), s5, .pointer (some ⟨b6, 0, none⟩), s7, s8, s9, s10, v, s12, s13, s14, s15, s16, s17, s18, s19, s20, s21, s22, s23, s24, s25, s26, s27, s28, s29, s30, s31, s32, s33, s34, s35, s36, s37, s38, s39, s40, s41, s42, s43, s44, s45, s46, s47, s48, s49, s50, s51, s52, s53, s54, s55, s56, s57, s58, s59, s60, s61, s62, s63, s64, s65, s66, s67, s68, s69, s70, s71, s72], defers := [] }
theorem of_listed {g : GL} {on : List Bool} {bans : List Jb} {a k : Jb} (hk : k ∈ (ofL g on bans a).1.map jobOf) : k ∈ jobsU on.length ∧ k ∉ bans := by
  have hT := pull_tame g on
  unfold ofL at hk
  split at hk
  · rename_i h
    split at hk
    · cases hk
    · rename_i hb
      dsimp only at hk
      rw [(sortedL_facts _).2.1, List.map_map] at hk
      obtain ⟨y, hy, rfl⟩ := List.mem_map.1 hk
      have hr := (reach_mem hT _ a y).1 hy
      have := hr.least (T := fun k => k ∈ jobsU on.length ∧ k ∉ spoilL (pullJ g on) bans (reachL (pullJ g on) (jobsU on.length) (fun _ => false) a)) (fun z hz => by
        rw [List.mem_singleton.1 hz]
        refine ⟨mem_jobsU.2 ⟨⟨h.1, h.2.1⟩, ?_⟩, hb⟩
        have := h.2.2
        unfold knownB at this
        simpa using this) fun y z _ hz => by
        obtain ⟨⟨p, hp, rfl⟩, hbad⟩ := mem_pullE.1 hz
        exact ⟨(hT y p hp).1, of_decide_eq_false hbad⟩
      exact ⟨this.1, fun hb => this.2 ((spoil_mem _).2 (.base hb))⟩
  · cases hk
theorem vict_mem {l : List It} (h : (victL l).2.1 = true) : (victL l).1 ∈ l.map jobOf := by
  unfold victL at h ⊢
  split at h
  · cases h
  · split at h
    · cases h
    · rename_i b bs hb _ x hx
      have h1 := List.mem_of_getLast? hx
      show jobOf x ∈ l.map jobOf
      rw [← (sortedL_facts l).2.1]
      exact List.mem_map_of_mem (List.mem_filter.1 h1).1
theorem leftJ_add {n : Nat} {bans : List Jb} {x : Jb} (hx : x ∈ jobsU n) (hn : x ∉ bans) : leftJ n (bans ++ [x]) < leftJ n bans := by
  unfold leftJ
  have e : ((jobsU n).filter fun z => !decide (z ∈ bans ++ [x])) = ((jobsU n).filter fun z => !decide (z ∈ bans)).filter fun z => !decide (z = x) := by
    rw [List.filter_filter]
    refine List.filter_congr fun z _ => ?_
    rw [Bool.eq_iff_iff]
    simp [not_or, and_comm]
  rw [e]
  refine Nat.lt_of_le_of_ne (List.length_filter_le _ _) fun h => ?_
  have := List.length_filter_eq_length_iff.1 h x (List.mem_filter.2 ⟨hx, by rw [decide_eq_false hn]; rfl⟩)
  simp at this
theorem growF_len' {α : Type} [DecidableEq α] (E : α → List α) : ∀ (n : Nat) (l : List α), (growF E n l).length ≤ l.length + n
  | 0, l => Nat.le_refl _
  | n + 1, l => by
    unfold growF
    split
    · omega
    · rename_i y _
      have := growF_len' E n (l ++ [y])
      rw [List.length_append] at this
      simp only [List.length_cons, List.length_nil] at this
      refine Nat.le_trans this ?_
      omega
theorem ofL_len' (g : GL) (on : List Bool) (ban : List Jb) (a : Jb) : (ofL g on ban a).1.length ≤ 1 + 3 * on.length := by
  unfold ofL
  split
  · split
    · simp
    · refine Nat.le_trans (sortedL_len _) ?_
      rw [List.length_map]
      unfold reachL growL
      refine Nat.le_trans (growF_len' _ _ _) ?_
      rw [jobsU_length]
      simp
  · simp
theorem leftJ_le (n : Nat) (bans : List Jb) : leftJ n bans ≤ 3 * n := by
  unfold leftJ
  exact Nat.le_trans (List.length_filter_le _ _) (Nat.le_of_eq (jobsU_length n))
theorem results_tmp3 {P : Program} {fn : Func} {p q r : Tmp} (h : fn.results = #[.tmp p, .tmp q, .tmp r]) (tmps : Array Value) (w : World) :
    (results fn tmps).run P w = .ok (.tuple #[tmps.getD p undef, tmps.getD q undef, tmps.getD r undef]) w := by simp [results, h]
/-- At the label. -/
structure FrSt (w : World) (G : G7) (on : List Bool) (u t : Int) (R : List It × List Jb × Int) (M b4 b6 : Nat) (bs : List Jb) (v : Value) (W : World) : Prop where
  fuel : ∃ k, leftJ on.length bs < k ∧ freeF G.l on (u, t) k bs = R
  own : W.ownsRow w.heap.size 32 2 v bs.length (cellsJ bs)
  g : Blk W b4 G.cs 24
  a : Blk W b6 [.int .i64 u, .int .u8 t] 32
  ext : Ext w W
  ne : ∀ k, v.ownBlock = some k → b4 < k ∧ b6 < k
  len : bs.length + leftJ on.length bs ≤ M
set_option maxRecDepth 100000 in
set_option maxHeartbeats 8000000 in
theorem free_calls (w : World) (G : G7) (Aon : Option Addr) (con : Nat) (on : List Bool) (u t : Int) (ban : List Jb) (Ab : Option Addr) (cb : Nat)
    (hG : G.ok w) (hob : RdV w Aon (on.map .bool)) (hol : on.length ≤ 1000) (hb : RdJ w Ab ban) (hbl : ban.length ≤ 1000) (hcb : ban.length ≤ cb) (hin : 0 ≤ u ∧ u < on.length ∧ knownB t = true) :
    Calls Try.prog 30 #[.agg G.cs.toArray, .slice Aon on.length con, .agg #[.int .i64 u, .int .u8 t], .slice Ab ban.length cb] w
      fun e w' => ∃ v1 v2, e = .returned (.tuple #[v1, v2, .int .i64 (freeL G.l on ban (u, t)).2.2]) ∧ w'.ownsRow w.heap.size 34 3 v1 (freeL G.l on ban (u, t)).1.length (itCells (freeL G.l on ban (u, t)).1) ∧ w'.ownsRow w.heap.size 32 2 v2 (freeL G.l on ban (u, t)).2.1.length (cellsJ (freeL G.l on ban (u, t)).2.1) ∧ Ext w w' := by
  have KN := Lib.hid known_calls
  have HOF := Lib.hid (fun W (hx : Ext w W) (bs : List Jb) (A : Option Addr) (c : Nat) (hr : RdJ W A bs) (hl : bs.length ≤ 10000) => of_calls W G Aon con on u t bs A c (hG.ext hx) (hob.ext hx) hol hr hl)
  have HCLO := Lib.hid (fun W (hx : Ext w W) => cloneJ_calls ban Ab cb W (hb.ext hx) hcb (by omega))
  obtain ⟨R, hR⟩ : ∃ R, freeL G.l on ban (u, t) = R := ⟨_, rfl⟩
  rw [hR]
  unfold freeL at hR
  rw [if_pos hin] at hR
  have hlj := leftJ_le on.length ban
  have HK := Lib.hid hR
  obtain ⟨h0, h1, h2⟩ := hin
  clear hR hG hob hb
  go_enter Try.func30, Try.ntmps30
  go_wp2_with fail
  refine wp_scope_jumps 0 (fun a' W => ∃ (b4 b6 : Nat) (bs : List Jb) (v : Value) (s0 s2 s3 s5 s7 s8 s9 s10 s12 s13 s14 s15 s16 s17 s18 s19 s20 s21 s22 s23 s24 s25 s26 s27 s28 s29 s30 s31 s32 s33 s34 s35 s36 s37 s38 s39 s40 s41 s42 s43 s44 s45 s46 s47 s48 s49 s50 s51 s52 s53 s54 s55 s56 s57 s58 s59 s60 s61 s62 s63 s64 s65 s66 s67 s68 s69 s70 s71 s72 : Value), a' = frame22 Aon on con b4 b6 v s0 s2 s3 s5 s7 s8 s9 s10 s12 s13 s14 s15 s16 s17 s18 s19 s20 s21 s22 s23 s24 s25 s26 s27 s28 s29 s30 s31 s32 s33 s34 s35 s36 s37 s38 s39 s40 s41 s42 s43 s44 s45 s46 s47 s48 s49 s50 s51 s52 s53 s54 s55 s56 s57 s58 s59 s60 s61 s62 s63 s64 s65 s66 s67 s68 s69 s70 s71 s72 ∧ FrSt w G on u t R (ban.length + 3 * on.length) b4 b6 bs v W) (fun a' _ => ban.length + 3 * on.length - sliceLen (a'.tmps.getD 11 undef)) rfl ?first ?pass
  case first =>
    have i0 : ¬ u < 0 := by omega
    have i1 : ¬ (on.length : Int) ≤ u := by omega
    go_upto_region 1 with (fail)
    refine wp_gen (fun W => Blk W w.heap.size G.cs 24 ∧ Blk W (w.heap.size + 1) [.int .i64 u, .int .u8 t] 32 ∧ Ext w W) ⟨(Blk.newAt w _ _ _ rfl).alloc _, Blk.newAt _ _ _ _ (by simp), ((Ext.refl w).alloc _).alloc _⟩ ?_
    obtain ⟨B, hB⟩ : ∃ B, w.heap.size = B := ⟨_, rfl⟩
    rw [hB]
    rintro W0 ⟨hbg, hba, hx0⟩
    have f0 := hba.cell 0 rfl
    have f1 := hba.cell 1 rfl
    have hHC := Lib.hid (HCLO.out W0 hx0)
    have hK := Lib.hid (show ∀ W, Calls Try.prog 43 #[.int .u8 t] W fun e w' => e = .returned (.bool true) ∧ w' = W from fun W => by have := KN.out t W; rwa [h2] at this)
    go_wp2_with (first
      | (go_at_call 43; refine (hK.out _).mono ?_; rintro e W ⟨rfl, rfl⟩)
      | (go_at_call 57; refine hHC.out.mono ?_; rintro e W3 ⟨v3, rfl, ho3, hx3⟩))
    go_step3
    have hst : FrSt w G on u t R (ban.length + 3 * on.length) B (B + 1) ban v3 W3 := ⟨⟨_, Nat.lt_succ_self _, HK.out⟩, Owns.low ho3 hx0.size, hbg.ext hx3, hba.ext hx3, Ext.trans hx0 hx3, (fun k hk => by have h1 := (ho3.lt k hk).1; have h2 := hbg.lt; have h3 := hba.lt; omega), by omega⟩
    clear ho3 hbg hba hx3 f0 f1 hx0 hHC hK HK
    obtain ⟨⟨k, hkl, hkR⟩, hown, hbG, hba, hxw, hne, hlen⟩ := hst
    obtain ⟨A, c, rfl, hc, hrd, _⟩ := OwnsJ.rd hown
    obtain ⟨k, rfl⟩ : ∃ k', k = k' + 1 := ⟨k - 1, by omega⟩
    have hlst := fun x (hx : x ∈ (ofL G.l on ban (u, t)).1.map jobOf) => of_listed hx
    have hof := HOF.out W3 hxw ban A c hrd (by omega)
    have hol1 := ofL_len' G.l on ban (u, t)
    unfold freeF at hkR
    obtain ⟨l, hl⟩ : ∃ l, (ofL G.l on ban (u, t)).1 = l := ⟨_, rfl⟩
    obtain ⟨ok, hk⟩ : ∃ ok, (ofL G.l on ban (u, t)).2 = ok := ⟨_, rfl⟩
    rw [hl, hk] at hof hkR
    rw [hl] at hol1 hlst
    have f0 := hba.cell 0 rfl
    have f1 := hba.cell 1 rfl
    have HT := Lib.hid (rowG7 G)
    replace hof := Lib.hid hof
    cases ok with
    | false =>
      rw [if_neg (by simp)] at hkR
      subst hkR
      clear hl hk
      go_wp2_with (first
        | (refine wpList_load_blk rfl 24 (.tmp 4) rfl _ rfl HT.out hbG ?_)
        | (go_at_call 14; refine hof.out.mono ?_; rintro e W1 ⟨v1, rfl, ho1, hx1⟩))
      simp only [Exit.jump]
      have hxe := Ext.trans hxw hx1
      exact bodyPost_ret (results_tmp3 Try.results30 _ _) rfl ⟨_, _, rfl, World.ownsRow_nil _ _ _ _, World.ownsRow_nil _ _ _ _, hxe⟩
    | true =>
      rw [if_pos rfl] at hkR
      have hvm := vict_mem (l := l)
      obtain ⟨vv, hvv⟩ : ∃ vv, victL l = vv := ⟨_, rfl⟩
      rw [hvv] at hkR hvm
      obtain ⟨⟨vu, vt⟩, fnd, er⟩ := vv
      dsimp only at hkR hvm
      have HVI := Lib.hid (fun W A c (hr : RdI W A l) => (by have h := vict_calls l A c W hr (by omega); rw [hvv] at h; exact h : Calls Try.prog 39 #[.slice A l.length c] W fun e w' => e = .returned (.tuple #[.agg #[.int .i64 vu, .int .u8 vt], .bool fnd, .int .i64 er]) ∧ Ext W w'))
      clear hl hk hvv
      go_upto_region 8 with (first
        | (refine wpList_load_blk rfl 24 (.tmp 4) rfl _ rfl HT.out hbG ?_)
        | (go_at_call 14; refine hof.out.mono ?_; rintro e W1 ⟨v1, rfl, ho1, hx1⟩; obtain ⟨A1, c1, hv1, _, hr1, _⟩ := OwnsI.rd ho1; subst hv1; have hVI := Lib.hid (HVI.out W1 A1 c1 hr1))
        | (go_at_call 39; refine hVI.out.mono ?_; rintro e W2 ⟨rfl, hx2⟩))
      have hxw2 : Ext w W2 := Ext.trans hxw (Ext.trans hx1 hx2)
      have hx12 : Ext W3 W2 := Ext.trans hx1 hx2
      refine wp_gen (fun W => Blk W W2.heap.size [.int .i64 vu, .int .u8 vt] 32 ∧ Ext W2 W) ⟨Blk.newAt W2 _ _ _ rfl, (Ext.refl W2).alloc _⟩ ?_
      obtain ⟨V, hV⟩ : ∃ V, W2.heap.size = V := ⟨_, rfl⟩
      rw [hV]
      rintro W4 ⟨hbv, hx4⟩
      have hx24 : Ext W3 W4 := Ext.trans hx12 hx4
      have hxw4 : Ext w W4 := Ext.trans hxw2 hx4
      have hown4 := Owns.ext hown hx24
      have hr14 := (hr1.ext hx2).ext hx4
      have f4 := hbv.cell 0 rfl
      have f5 := hbv.cell 1 rfl
      clear hof HVI hVI ho1 hr1 hx1 hx2 hown hrd f0 f1
      by_cases he : er = 0
      · subst he
        rw [if_pos rfl] at hkR
        cases fnd with
        | true =>
          rw [if_pos rfl] at hkR
          have hm := hlst _ (hvm rfl)
          have hlt := leftJ_add hm.1 hm.2
          have hsz4 := hxw4.size
          have hb4 := hbG.ext hx24
          have hb6 := hba.ext hx24
          go_wp2_with (refine wpList_append_jobs rfl (.tmp 59) (.tmp 61) rfl w.heap.size _ ban rfl (Owns.ext hown4 ((Ext.refl W4).alloc _)) _ 1 [(vu, vt)] rfl (RdJ.one (Blk.newAt W4 _ _ _ rfl)) (by simp; omega) (by simp; omega) ?_; rintro v5 W5 ho5 hg5 hv5)
          obtain ⟨A5, c5, hv5e, _, _, _⟩ := OwnsJ.rd ho5
          have hst5 : FrSt w G on u t R (ban.length + 3 * on.length) B (B + 1) (ban ++ [(vu, vt)]) v5 W5 := ⟨⟨k, by omega, hkR⟩, ho5, Grown.blk hg5 (hb4.alloc _) (fun e => by have := (hne _ e.symm).1; omega), Grown.blk hg5 (hb6.alloc _) (fun e => by have := (hne _ e.symm).2; omega), Below.grown (Ext.alloc hxw4 _) hg5 (by simp; omega) (fun k e => (hown4.lt k e).1), (fun k e => by
            rcases hv5 k e with h | h
            · exact hne k h
            · have h1 := hb4.lt; have h2 := hb6.lt; simp at h; omega), by rw [List.length_append, List.length_singleton]; omega⟩
          have hmu : ban.length + 3 * on.length - (ban ++ [(vu, vt)]).length < ban.length + 3 * on.length - ban.length := by rw [List.length_append, List.length_singleton]; omega
          subst hv5e
          go_step3
          exact ⟨rfl, ⟨B, (B + 1), ban ++ [(vu, vt)], _, _, _, _, _, _, _, _, _, _, _, _, _, _, _, _, _, _, _, _, _, _, _, _, _, _, _, _, _, _, _, _, _, _, _, _, _, _, _, _, _, _, _, _, _, _, _, _, _, _, _, _, _, _, _, _, _, _, _, _, _, _, _, _, _, _, _, _, _, _, rfl, hst5⟩⟩
        | false =>
          rw [if_neg (by simp)] at hkR
          subst hkR
          have hWF := Lib.hid (Whole_calls l A1 c1 W4 hr14 (by omega))
          have hvk : ∀ k, (Value.slice A ban.length c).ownBlock = some k → k < W4.heap.size := fun k hk => (hown4.lt k hk).2
          go_wp2_with (first
            | (go_at_call 63; refine hWF.out.mono ?_; rintro e W5 ⟨v5, v6, rfl, ho5, ho6, hx5⟩; have hSO := Lib.hid (sort_clash (Owns.ext hown4 hx5) (by omega)))
            | (go_at_call 59; refine hSO.out.mono ?_; rintro e W6 ⟨rfl, ho7, hg7⟩; have hCO := Lib.hid (compactJ_calls _ W6 ho7 (by rw [sortJ_length]; omega)))
            | (go_at_call 61; refine hCO.out.mono ?_; rintro e W8 ⟨v8, rfl, ho8, hg8, hv8⟩))
          simp only [Exit.jump]
          have hg9 := hg7.trans hg8
          have hx5w : Ext w W5 := Ext.trans hxw4 hx5
          have ho9 := Owns.low (Owns.kept ho5 hg9 (fun k hk e => by have h1 := hvk k e; have h2 := (ho5.lt k hk).1; omega)) hxw4.size
          have hxw9 : Ext w W8 := Below.grown hx5w hg9 hx5w.size (fun k e => (hown4.lt k e).1)
          exact bodyPost_ret (results_tmp3 Try.results30 _ _) rfl ⟨_, _, rfl, ho9, ho8, hxw9⟩
      · rw [if_neg he] at hkR
        subst hkR
        have hb9 : (er == 0) = false := by simpa using he
        go_wp2_with fail
        simp only [Exit.jump]
        exact bodyPost_ret (results_tmp3 Try.results30 _ _) rfl ⟨_, _, rfl, World.ownsRow_nil _ _ _ _, World.ownsRow_nil _ _ _ _, hxw4⟩
  case pass =>
    rintro a' WW ⟨b4, b6, bs, v, s0, s2, s3, s5, s7, s8, s9, s10, s12, s13, s14, s15, s16, s17, s18, s19, s20, s21, s22, s23, s24, s25, s26, s27, s28, s29, s30, s31, s32, s33, s34, s35, s36, s37, s38, s39, s40, s41, s42, s43, s44, s45, s46, s47, s48, s49, s50, s51, s52, s53, s54, s55, s56, s57, s58, s59, s60, s61, s62, s63, s64, s65, s66, s67, s68, s69, s70, s71, s72, rfl, hst⟩
    unfold frame22
    obtain ⟨⟨k, hkl, hkR⟩, hown, hbG, hba, hxw, hne, hlen⟩ := hst
    obtain ⟨A, c, rfl, hc, hrd, _⟩ := OwnsJ.rd hown
    obtain ⟨k, rfl⟩ : ∃ k', k = k' + 1 := ⟨k - 1, by omega⟩
    have hlst := fun x (hx : x ∈ (ofL G.l on bs (u, t)).1.map jobOf) => of_listed hx
    have hof := HOF.out WW hxw bs A c hrd (by omega)
    have hol1 := ofL_len' G.l on bs (u, t)
    unfold freeF at hkR
    obtain ⟨l, hl⟩ : ∃ l, (ofL G.l on bs (u, t)).1 = l := ⟨_, rfl⟩
    obtain ⟨ok, hk⟩ : ∃ ok, (ofL G.l on bs (u, t)).2 = ok := ⟨_, rfl⟩
    rw [hl, hk] at hof hkR
    rw [hl] at hol1 hlst
    have f0 := hba.cell 0 rfl
    have f1 := hba.cell 1 rfl
    have HT := Lib.hid (rowG7 G)
    replace hof := Lib.hid hof
    cases ok with
    | false =>
      rw [if_neg (by simp)] at hkR
      subst hkR
      clear hl hk
      go_wp2_with (first
        | (refine wpList_load_blk rfl 24 (.tmp 4) rfl _ rfl HT.out hbG ?_)
        | (go_at_call 14; refine hof.out.mono ?_; rintro e W1 ⟨v1, rfl, ho1, hx1⟩))
      simp only [Exit.jump]
      have hxe := Ext.trans hxw hx1
      exact bodyPost_ret (results_tmp3 Try.results30 _ _) rfl ⟨_, _, rfl, World.ownsRow_nil _ _ _ _, World.ownsRow_nil _ _ _ _, hxe⟩
    | true =>
      rw [if_pos rfl] at hkR
      have hvm := vict_mem (l := l)
      obtain ⟨vv, hvv⟩ : ∃ vv, victL l = vv := ⟨_, rfl⟩
      rw [hvv] at hkR hvm
      obtain ⟨⟨vu, vt⟩, fnd, er⟩ := vv
      dsimp only at hkR hvm
      have HVI := Lib.hid (fun W A c (hr : RdI W A l) => (by have h := vict_calls l A c W hr (by omega); rw [hvv] at h; exact h : Calls Try.prog 39 #[.slice A l.length c] W fun e w' => e = .returned (.tuple #[.agg #[.int .i64 vu, .int .u8 vt], .bool fnd, .int .i64 er]) ∧ Ext W w'))
      clear hl hk hvv
      go_upto_region 8 with (first
        | (refine wpList_load_blk rfl 24 (.tmp 4) rfl _ rfl HT.out hbG ?_)
        | (go_at_call 14; refine hof.out.mono ?_; rintro e W1 ⟨v1, rfl, ho1, hx1⟩; obtain ⟨A1, c1, hv1, _, hr1, _⟩ := OwnsI.rd ho1; subst hv1; have hVI := Lib.hid (HVI.out W1 A1 c1 hr1))
        | (go_at_call 39; refine hVI.out.mono ?_; rintro e W2 ⟨rfl, hx2⟩))
      have hxw2 : Ext w W2 := Ext.trans hxw (Ext.trans hx1 hx2)
      have hx12 : Ext WW W2 := Ext.trans hx1 hx2
      refine wp_gen (fun W => Blk W W2.heap.size [.int .i64 vu, .int .u8 vt] 32 ∧ Ext W2 W) ⟨Blk.newAt W2 _ _ _ rfl, (Ext.refl W2).alloc _⟩ ?_
      obtain ⟨V, hV⟩ : ∃ V, W2.heap.size = V := ⟨_, rfl⟩
      rw [hV]
      rintro W4 ⟨hbv, hx4⟩
      have hx24 : Ext WW W4 := Ext.trans hx12 hx4
      have hxw4 : Ext w W4 := Ext.trans hxw2 hx4
      have hown4 := Owns.ext hown hx24
      have hr14 := (hr1.ext hx2).ext hx4
      have f4 := hbv.cell 0 rfl
      have f5 := hbv.cell 1 rfl
      clear hof HVI hVI ho1 hr1 hx1 hx2 hown hrd f0 f1
      by_cases he : er = 0
      · subst he
        rw [if_pos rfl] at hkR
        cases fnd with
        | true =>
          rw [if_pos rfl] at hkR
          have hm := hlst _ (hvm rfl)
          have hlt := leftJ_add hm.1 hm.2
          have hsz4 := hxw4.size
          have hb4 := hbG.ext hx24
          have hb6 := hba.ext hx24
          go_wp2_with (refine wpList_append_jobs rfl (.tmp 59) (.tmp 61) rfl w.heap.size _ bs rfl (Owns.ext hown4 ((Ext.refl W4).alloc _)) _ 1 [(vu, vt)] rfl (RdJ.one (Blk.newAt W4 _ _ _ rfl)) (by simp; omega) (by simp; omega) ?_; rintro v5 W5 ho5 hg5 hv5)
          obtain ⟨A5, c5, hv5e, _, _, _⟩ := OwnsJ.rd ho5
          have hst5 : FrSt w G on u t R (ban.length + 3 * on.length) b4 b6 (bs ++ [(vu, vt)]) v5 W5 := ⟨⟨k, by omega, hkR⟩, ho5, Grown.blk hg5 (hb4.alloc _) (fun e => by have := (hne _ e.symm).1; omega), Grown.blk hg5 (hb6.alloc _) (fun e => by have := (hne _ e.symm).2; omega), Below.grown (Ext.alloc hxw4 _) hg5 (by simp; omega) (fun k e => (hown4.lt k e).1), (fun k e => by
            rcases hv5 k e with h | h
            · exact hne k h
            · have h1 := hb4.lt; have h2 := hb6.lt; simp at h; omega), by rw [List.length_append, List.length_singleton]; omega⟩
          have hmu : ban.length + 3 * on.length - (bs ++ [(vu, vt)]).length < ban.length + 3 * on.length - bs.length := by rw [List.length_append, List.length_singleton]; omega
          subst hv5e
          go_step3
          exact ⟨rfl, ⟨b4, b6, bs ++ [(vu, vt)], _, _, _, _, _, _, _, _, _, _, _, _, _, _, _, _, _, _, _, _, _, _, _, _, _, _, _, _, _, _, _, _, _, _, _, _, _, _, _, _, _, _, _, _, _, _, _, _, _, _, _, _, _, _, _, _, _, _, _, _, _, _, _, _, _, _, _, _, _, _, rfl, hst5⟩, hmu⟩
        | false =>
          rw [if_neg (by simp)] at hkR
          subst hkR
          have hWF := Lib.hid (Whole_calls l A1 c1 W4 hr14 (by omega))
          have hvk : ∀ k, (Value.slice A bs.length c).ownBlock = some k → k < W4.heap.size := fun k hk => (hown4.lt k hk).2
          go_wp2_with (first
            | (go_at_call 63; refine hWF.out.mono ?_; rintro e W5 ⟨v5, v6, rfl, ho5, ho6, hx5⟩; have hSO := Lib.hid (sort_clash (Owns.ext hown4 hx5) (by omega)))
            | (go_at_call 59; refine hSO.out.mono ?_; rintro e W6 ⟨rfl, ho7, hg7⟩; have hCO := Lib.hid (compactJ_calls _ W6 ho7 (by rw [sortJ_length]; omega)))
            | (go_at_call 61; refine hCO.out.mono ?_; rintro e W8 ⟨v8, rfl, ho8, hg8, hv8⟩))
          simp only [Exit.jump]
          have hg9 := hg7.trans hg8
          have hx5w : Ext w W5 := Ext.trans hxw4 hx5
          have ho9 := Owns.low (Owns.kept ho5 hg9 (fun k hk e => by have h1 := hvk k e; have h2 := (ho5.lt k hk).1; omega)) hxw4.size
          have hxw9 : Ext w W8 := Below.grown hx5w hg9 hx5w.size (fun k e => (hown4.lt k e).1)
          exact bodyPost_ret (results_tmp3 Try.results30 _ _) rfl ⟨_, _, rfl, ho9, ho8, hxw9⟩
      · rw [if_neg he] at hkR
        subst hkR
        have hb9 : (er == 0) = false := by simpa using he
        go_wp2_with fail
        simp only [Exit.jump]
        exact bodyPost_ret (results_tmp3 Try.results30 _ _) rfl ⟨_, _, rfl, World.ownsRow_nil _ _ _ _, World.ownsRow_nil _ _ _ _, hxw4⟩
end Go.Proofs.Ytclgclcoblfddaa
