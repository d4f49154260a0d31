/- Chapter 21: the jobs that may not be (spoilt). -/
import Derived.Test.YtclgclcoblfddaaBy
import Derived.Test.YtclgclcoblfddaaPulls
import Derived.Test.YtclgclcoblfddaaInPlace
namespace Go.Proofs.Ytclgclcoblfddaa
open Go.RowKit Go.Shelf
set_option linter.unusedVariables false
set_option linter.unusedSimpArgs false
theorem rowG7 (G : G7) : isRowT Try.prog 24 G.cs.length := ⟨by kernel_rfl, by kernel_rfl⟩
theorem Tb.ok.ext {W W' : World} {b : Tb} (h : b.ok W) (hx : Ext W W') : b.ok W' := ⟨h.1.ext hx, h.2⟩
theorem G7.ok.ext {W W' : World} {G : G7} (h : G.ok W) (hx : Ext W W') : G.ok W' := ⟨h.k0.ext hx, h.k1.ext hx, h.k2.ext hx, h.k6.ext hx, h.k7.ext hx, h.k8.ext hx, h.k9.ext hx⟩
theorem plPut_le (on : List Bool) (u t : Int) (m only : Bool) (W : World) (tbs : List Tb) (h : ∀ tb ∈ tbs, tb.ok W) : (plPut on u t m only (tbs.map Tb.l)).length ≤ tbs.length * 1000 := by
  have := plPut_length on u t m only 1000 (tbs.map Tb.l) (by
    intro tb htm r hr
    obtain ⟨tb', h1, rfl⟩ := List.mem_map.1 htm
    obtain ⟨r', h2, rfl⟩ := List.mem_map.1 hr
    exact (h tb' h1).2.2 r' h2)
  simpa using this
/-- What is pulled in by a job. -/
def pullJ (g : GL) (on : List Bool) (j : Jb) : List It := pullsL g on j.1 j.2
theorem pullJ_len {W : World} {G : G7} (h : G.ok W) (on : List Bool) (j : Jb) : (pullJ G.l on j).length ≤ 7000 := by
  unfold pullJ pullsL
  split
  · have h1 := plPut_le on j.1 1 true false W [G.t0, G.t2] (List.forall_mem_cons.2 ⟨h.k0, List.forall_mem_cons.2 ⟨h.k2, fun _ h => by cases h⟩⟩)
    have h2 := plPut_le on j.1 1 false false W [G.t1] (List.forall_mem_cons.2 ⟨h.k1, fun _ h => by cases h⟩)
    have h3 := plPut_le on j.1 2 true false W [G.t6] (List.forall_mem_cons.2 ⟨h.k6, fun _ h => by cases h⟩)
    have h4 := plPut_le on j.1 j.2 true true W [G.t7, G.t8, G.t9] (List.forall_mem_cons.2 ⟨h.k7, List.forall_mem_cons.2 ⟨h.k8, List.forall_mem_cons.2 ⟨h.k9, fun _ h => by cases h⟩⟩⟩)
    simp only [List.map_cons, List.map_nil, List.length_cons, List.length_nil] at h1 h2 h3 h4
    have e : G.l = ⟨G.t0.l, G.t1.l, G.t2.l, G.t6.l, G.t7.l, G.t8.l, G.t9.l⟩ := rfl
    rw [e]
    simp only [List.length_append]
    have k1 : (if j.2 = 2 then ([] : List It) else plPut on j.1 1 true false [G.t0.l, G.t2.l] ++ plPut on j.1 1 false false [G.t1.l] ++ plPut on j.1 2 true false [G.t6.l]).length ≤ 4000 := by
      split
      · simp
      · simp only [List.length_append]; omega
    have k2 : (if j.2 = 1 then ([] : List It) else plPut on j.1 j.2 true true [G.t7.l, G.t8.l, G.t9.l]).length ≤ 3000 := by
      split
      · simp
      · omega
    omega
  · simp
theorem RdJ.kp {W W' : World} {A : Option Addr} {l : List Jb} (h : RdJ W A l) (hk : ∀ a, A = some a → W'.heap[a.block]? = W.heap[a.block]?) : RdJ W' A l := by
  rcases h with h | ⟨b, o, rfl, h⟩
  · exact .inl h
  · refine .inr ⟨b, o, rfl, fun j u t e => ?_⟩
    have hb : W'.heap[b]? = W.heap[b]? := hk _ rfl
    have hc : ∀ (i : Nat) (v : Value), W.cell? ⟨b, i, none⟩ = some v → W'.cell? ⟨b, i, none⟩ = some v := fun i v hv => by rw [← hv]; simp [World.cell?, hb]
    exact ⟨hc _ _ (h j u t e).1, hc _ _ (h j u t e).2⟩
theorem RdI.kp {W W' : World} {A : Option Addr} {l : List It} (h : RdI W A l) (hk : ∀ a, A = some a → a.block < W.heap.size → W'.heap[a.block]? = W.heap[a.block]?) : RdI W' A l := by
  rcases h with h | ⟨b, o, rfl, h⟩
  · exact .inl h
  · refine .inr ⟨b, o, rfl, fun j u t m e => ?_⟩
    have hlt : b < W.heap.size := World.cell?_lt (h j u t m e).1
    have hb : W'.heap[b]? = W.heap[b]? := hk _ rfl hlt
    have hc : ∀ (i : Nat) (v : Value), W.cell? ⟨b, i, none⟩ = some v → W'.cell? ⟨b, i, none⟩ = some v := fun i v hv => by rw [← hv]; simp [World.cell?, hb]
    exact ⟨hc _ _ (h j u t m e).1, hc _ _ (h j u t m e).2.1, hc _ _ (h j u t m e).2.2⟩
/-- The blocks that are rows. -/
def rowsOf (g : Jb → Option Value) (q : Nat) : Prop := ∃ k v, g k = some v ∧ v.ownBlock = some q
theorem Owns.takeJ {w : World} {base : Nat} {e : TypeId} {A : Option Addr} {c : Nat} {l : List Jb} (h : w.ownsRow base e 2 (.slice A l.length c) l.length (cellsJ l)) {m : Nat} (hm : m ≤ l.length) : w.ownsRow base e 2 (.slice A m c) (l.take m).length (cellsJ (l.take m)) := by
  have hlen : (l.take m).length = m := by rw [List.length_take]; omega
  have hc : cellsJ (l.take m) = (cellsJ l).take (m * 2) := cellsK_take (k := 2) (fun _ => rfl) l m
  rw [hlen]
  obtain ⟨h1, h2⟩ := h
  refine ⟨by rw [cellsJ_length, hlen], ?_⟩
  rcases h2 with ⟨e1, e2⟩ | ⟨g, cap, cur, e1, p1, p2, p3, p4, p5, p6⟩
  · injection e1 with a1 a2 a3
    subst a1 a3
    left
    have : m = 0 := by omega
    subst this
    exact ⟨rfl, rfl⟩
  · cases e1
    refine .inr ⟨g, c, cur, rfl, p1, p2, by omega, p4, p5, ?_⟩
    rw [hc, ← p6, List.take_take]
    congr 1
    omega
set_option maxRecDepth 100000 in
set_option maxHeartbeats 8000000 in
theorem spoilt_calls (w : World) (G : G7) (Aon : Option Addr) (con : Nat) (on : List Bool) (ban : List Jb) (Ab : Option Addr) (cb : Nat) (all : List Jb) (Aa : Option Addr) (ca : Nat)
    (hG : G.ok w) (hob : RdV w Aon (on.map .bool)) (hol : on.length ≤ 1000) (hb : RdJ w Ab ban) (hbl : ban.length ≤ 10000) (ha : RdJ w Aa all) (hal : all.length ≤ 10000) :
    Calls Try.prog 47 #[.agg G.cs.toArray, .slice Aon on.length con, .slice Ab ban.length cb, .slice Aa all.length ca] w
      fun e w' => ∃ b, e = .returned (.map (some b)) ∧ w.heap.size ≤ b ∧ SetM w' b (fun k => decide (k ∈ spoilL (pullJ G.l on) ban all)) ∧ Ext w w' := by
  have HS1 := Lib.hid (fun W (hx : Ext w W) => setOf_calls ban Ab cb W (hb.ext hx) (by omega))
  have HS2 := Lib.hid (fun W (hx : Ext w W) => setOf_calls all Aa ca W (ha.ext hx) (by omega))
  have HLN := Lib.hid (fun j => pullJ_len hG on j)
  have HPL0 := Lib.hid (fun W (hx : Ext w W) u t => pulls_calls W G Aon con on u t (hG.ext hx) (hob.ext hx) hol)
  obtain ⟨P, hP⟩ : ∃ P, pullJ G.l on = P := ⟨_, rfl⟩
  have HPL := Lib.hid (show ∀ W, Ext w W → ∀ u t, Calls Try.prog 24 #[.agg G.cs.toArray, .slice Aon on.length con, .agg #[.int .i64 u, .int .u8 t]] W
      fun e w' => ∃ v, e = .returned v ∧ w'.ownsRow W.heap.size 55 3 v (P (u, t)).length (itCells (P (u, t))) ∧ Below W.heap.size W w' from fun W hx u t => by rw [← hP]; exact HPL0.out W hx u t)
  rw [hP] at HLN ⊢
  clear hG hob hb ha hP HPL0
  obtain ⟨B, hB⟩ : ∃ B, w.heap.size = B := ⟨_, rfl⟩
  go_enter Try.func47, Try.ntmps47
  have hmm := @run_makeMap Try.prog
  go_upto_region 2 with (go_at_call 70; refine (HS1.out _ ((Ext.refl w).alloc _)).mono ?_; rintro e W0 ⟨b0, rfl, hb0, hs0, hx0⟩)
  have hbg : Blk W0 B G.cs 24 := (Blk.newAt w G.cs _ _ hB.symm).ext hx0
  have hxw : Ext w W0 := ((Ext.refl w).alloc _).trans hx0
  rw [World.size_alloc] at hb0
  clear hx0 HS1
  go_upto_region 3 with (fail)
  refine wp_gen (fun W => RMap encJ W W0.heap.size ([] : List ((Int × Int) × Value)) ∧ Ext W0 W) ⟨RMap.made encJ W0, (Ext.refl W0).alloc _⟩ ?_
  rintro W1 ⟨m1, x1⟩
  clear hmm
  have hb01 : b0 < W0.heap.size := hs0.lt
  obtain ⟨b1, hb1⟩ : ∃ b1, W0.heap.size = b1 := ⟨_, rfl⟩
  rw [hb1] at m1 hb01 ⊢
  have hB1 : B ≤ b1 := by have := hxw.size; omega
  replace hs0 := hs0.ext x1
  replace hbg := hbg.ext x1
  replace hxw := hxw.trans x1
  clear x1 hb1
  go_wp2_with (first | (go_at_call 70; refine (HS2.out _ hxw).mono ?_; rintro e W2 ⟨b2, rfl, hb2, hs2, hx2⟩; obtain ⟨es2, m2, fm2⟩ := hs2) | (refine wpList_range rfl (.tmp 22) 87 3 rfl Try.underlying87 b2 es2 rfl m2 ?_; rintro W3 m3 r3 x3 s3; go_simp))
  have hb12 : b1 < b2 := by have := m1.lt; omega
  have x13 := hx2.trans x3
  replace m1 := m1.ext x13
  replace hs0 := hs0.ext x13
  replace hbg := hbg.ext x13
  replace hxw := hxw.trans x13
  obtain ⟨r, hr⟩ : ∃ r, W2.heap.size = r := ⟨_, rfl⟩
  have hbr : b2 < r := by have := m2.lt; omega
  rw [hr] at r3 ⊢
  have hks : ∀ k, k ∈ es2.map (·.1) ↔ k ∈ all := fun k => by rw [fm2.mem]; unfold one?; by_cases h : k ∈ all <;> simp [h]
  have hel : es2.length ≤ all.length := fm2.length all fun k hk => by unfold one? at hk; by_cases h : k ∈ all <;> simp [h] at hk ⊢
  clear x13 hx2 x3 s3 m2 hb2 HS2 fm2 hr
  go_loopw [11] (fun _ wr => ∃ (seen : List Nat) (es : List (Jb × Value)) (g : Jb → Option Value), RMap encJ wr b2 es2 ∧ RIter wr r b2 es2.length seen ∧ seen.Nodup ∧ (∀ i ∈ seen, i < es2.length) ∧ seen.length ≤ es2.length ∧
      ByM wr B b1 (fun _ => True) ((keysAt es2 seen).foldl (byF P) (fun _ => [])) es g ∧ SetM wr b0 (fun k => decide (k ∈ ban)) ∧ Blk wr B G.cs 24 ∧ Ext w wr)
    (fun _ wr => es2.length - came wr r)
  case atStart =>
    exact ⟨[], [], _, m3, r3, List.nodup_nil, (fun i hi => by cases hi), Nat.zero_le _, ByM.nil m1, hs0, hbg, hxw⟩
  case round =>
    clear hbg hxw hs0 m1 m3 r3
    obtain ⟨seen, es, g, hmp, hit, hnd, hlt, hsl, hby, hs0, hbg, hxw⟩ := hrel
    go_wp2_with (first | (refine wpList_next rfl (.tmp 23) rfl b2 r es2 seen rfl hmp hit ?_ ?_))
    · intro hall
      go_simp
      have hperm := keysAt_all hnd hlt hall
      have hmemk : ∀ y, y ∈ keysAt es2 seen ↔ y ∈ all := fun y => by rw [hperm.mem_iff]; exact hks y
      have hfm : ∀ x y, y ∈ (keysAt es2 seen).foldl (byF P) (fun _ => []) x ↔ y ∈ backE P all x := fun x y => by
        rw [byAll_mem, mem_back, mem_back, hmemk]; simp
      have hflen : ∀ (k : Jb) (ks : List Jb) (f : Jb → List Jb), (ks.foldl (byF P) f k).length ≤ (f k).length + ks.length * 7000 := fun k => byAll_len HLN.out
      have hkl : (keysAt es2 seen).length ≤ 10000 := by rw [keysAt_length hlt]; omega
      have hf0 : ∀ k, ((keysAt es2 seen).foldl (byF P) (fun _ => []) k).length ≤ 70000000 := fun k => by
        have := hflen k (keysAt es2 seen) (fun _ => [])
        simp only [List.length_nil] at this
        omega
      obtain ⟨E, hE⟩ : ∃ E, (keysAt es2 seen).foldl (byF P) (fun _ => []) = E := ⟨_, rfl⟩
      rw [hE] at hfm hf0 hby
      have HFM := Lib.hid hfm
      have HF0 := Lib.hid hf0
      obtain ⟨es0, m0, fm0⟩ := hs0
      have h0k : ∀ k, k ∈ es0.map (·.1) ↔ k ∈ ban := fun k => by rw [fm0.mem]; unfold one?; by_cases h : k ∈ ban <;> simp [h]
      have h0l : es0.length ≤ ban.length := fm0.length ban fun k hk => by unfold one? at hk; by_cases h : k ∈ ban <;> simp [h] at hk ⊢
      have hb0w : b0 < wr.heap.size := m0.lt
      have hbx : wr.heap.size < (wr.alloc (.cells #[.map (some b0)] 87)).heap.size := by rw [World.size_alloc]; omega
      have hC := Lib.hid (collectS_calls wr.heap.size b0 es0 (wr.alloc (.cells #[.map (some b0)] 87)) hbx ((Blk.new wr [.map (some b0)] 87).cell 0 rfl) (m0.ext ((Ext.refl wr).alloc _)) (by omega))
      clear hmp hit hnd hlt hsl hperm hmemk hflen hkl hE hall hf0 hfm hbg
      go_wp2_with (first | (go_at_call 71; refine (keysS_f b0 _).mono ?_; rintro e w' ⟨rfl, rfl⟩) | (go_at_call 44; refine hC.out.mono ?_; rintro e Wc ⟨vt, ss, rfl, hss, hrow, hbl⟩))
      obtain ⟨C0, hC0⟩ : ∃ C0, (wr.alloc (.cells #[.map (some b0)] 87)).heap.size = C0 := ⟨_, rfl⟩
      rw [hC0] at hrow hbl
      rw [World.size_alloc] at hC0
      have hxc : Ext wr Wc := Ext.trans ((Ext.refl wr).alloc _) (by rw [← World.size_alloc wr (.cells #[.map (some b0)] 87)] at hC0; rw [← hC0] at hbl; exact hbl)
      have hxwc : Ext w Wc := Ext.trans hxw hxc
      have hbyc := hby.ext hxc
      have hCs : C0 ≤ Wc.heap.size := by have := hbl.size; rw [World.size_alloc] at this; omega
      have hs0c : SetM Wc b0 (fun k => decide (k ∈ ban)) := ⟨es0, m0.ext hxc, fm0⟩
      have hmr : ∀ x, x ∈ ban ↔ x ∈ ss := fun x => by rw [← h0k, hss.mem_iff]
      have hssl : ss.length ≤ 10000 := by rw [hss.length_eq, List.length_map]; omega
      have hfree : free all (fun k => decide (k ∈ ban)) ≤ 10000 := Nat.le_trans (List.length_filter_le _ _) hal
      have hrl : ∀ x, (∃ k v, g k = some v ∧ v.ownBlock = some x) → x < wr.heap.size := fun x hx => (hby.typedR hx).2.1
      have hrt : ∀ x, (∃ k v, g k = some v ∧ v.ownBlock = some x) → x ≠ b0 := fun x hx e => by
        obtain ⟨_, _, c, h3⟩ := hby.typedR hx
        rw [e] at h3
        unfold RMap at m0
        rw [m0] at h3
        cases h3
      have hEU : ∀ x y, y ∈ E x → y ∈ all := fun x y hy => (mem_back.1 ((HFM.out x y).1 hy)).1
      have hst0 : Stk E ban (fun k => decide (k ∈ ban)) ss none := Stk.first (fun x => by simp) (fun x hx => (hmr x).1 hx) (fun x hx => (hmr x).2 hx)
      have hb1w : b1 < wr.heap.size := hby.map.lt
      clear hss h0k h0l fm0 m0 hbx hC hby hxw hmr hxc hbl
      obtain ⟨μ, hμ⟩ := exists_least
      obtain ⟨RR, hRR⟩ : ∃ RR : Nat → Value → World → Prop, ∀ n tv W, RR n tv W ↔ ∃ (B' : Jb → Bool) (todo : List Jb), SetM W b0 B' ∧ W.ownsRow C0 32 2 tv todo.length (cellsJ todo) ∧ Stk E ban B' todo none ∧ todo.length + free all B' = n ∧ n ≤ 20000 ∧
        (∀ x, x < C0 → x ≠ b0 → W.heap[x]? = Wc.heap[x]?) ∧ C0 ≤ W.heap.size ∧ Ext w W := ⟨_, fun _ _ _ => Iff.rfl⟩
      have HRR := Lib.hid hRR
      have HMU := Lib.hid hμ
      have hini : RR (ss.length + free all (fun k => decide (k ∈ ban))) vt Wc := (HRR.out _ _ _).2 ⟨_, ss, hs0c, hrow, hst0, rfl, by omega, fun _ _ _ => rfl, hCs, hxwc⟩
      clear hRR hμ hs0c hrow hst0 hssl hfree
      go_loopw [14] (fun tv W => ∃ n, RR n tv W) (fun tv W => μ (fun n => RR n tv W))
      case atStart => exact ⟨_, hini⟩
      case round =>
        clear hini hxwc
        obtain ⟨hr1, _⟩ := HMU.out _ hrel
        obtain ⟨N, hN⟩ : ∃ N, μ (fun n => RR n u14 wr) = N := ⟨_, rfl⟩
        rw [hN] at hr1
        have HLT := Lib.hid (show ∀ n' tv' W', RR n' tv' W' → n' < N → μ (fun n => RR n tv' W') < μ (fun n => RR n u14 wr) from fun n' tv' W' h1 h2 => by
          rw [hN]; exact Nat.lt_of_le_of_lt ((HMU.out _ ⟨n', h1⟩).2 n' h1) h2)
        obtain ⟨B', todo, hs0, hown, hst, hn, hn2, hkp, hsz, hxw⟩ := (HRR.out _ _ _).1 hr1
        clear hrel hr1 hN
        rcases List.eq_nil_or_concat todo with h0 | ⟨init, j, h0⟩
        · subst h0
          have hfin : (fun k => decide (k ∈ spoilL P ban all)) = B' := by
            funext x
            have h1 := hst.fin x
            have h2 := spoil_mem (P := P) (ban := ban) (all := all) x
            have h3 : Rc E ban x ↔ Rc (backE P all) ban x := ⟨fun h => h.mono (fun _ h => h) fun x y hy => (HFM.out x y).1 hy, fun h => h.mono (fun _ h => h) fun x y hy => (HFM.out x y).2 hy⟩
            cases hb : B' x with
            | true => exact decide_eq_true (h2.2 (h3.1 (h1.1 hb)))
            | false => exact decide_eq_false fun h => by rw [h1.2 (h3.2 (h2.1 h))] at hb; cases hb
          obtain ⟨A, cap, rfl, _, _, _⟩ := OwnsJ.rd hown
          rw [← hfin] at hs0
          have HS := Lib.hid hs0
          clear hs0 hfin hst
          go_wp2_with fail
          go_ret
          exact ⟨b0, rfl, by omega, HS.out, hxw⟩
        · rw [List.concat_eq_append] at h0
          subst h0
          obtain ⟨gt, cap, rest, rfl, hg, hgl, hcap, hx2, hx3, hbk, hmax⟩ := Owns.whole hown (by simp)
          have hl1 : (init ++ [j]).length = init.length + 1 := by simp
          have hgj : (init ++ [j])[init.length]? = some j := by simp
          obtain ⟨uj, tj⟩ := j
          obtain ⟨hc1, hc2⟩ := cellsJ_get _ _ _ _ hgj
          have f1 : wr.cell? ⟨gt, init.length * 2, none⟩ = some (.int .i64 uj) := hbk.cell _ (by rw [List.getElem?_append_left (List.getElem?_eq_some_iff.1 hc1).1]; exact hc1)
          have f2 : wr.cell? ⟨gt, init.length * 2 + 1, none⟩ = some (.int .u8 tj) := hbk.cell _ (by rw [List.getElem?_append_left (List.getElem?_eq_some_iff.1 hc2).1]; exact hc2)
          have hown2 := Owns.takeJ (m := init.length) hown (by simp)
          rw [List.take_left' rfl] at hown2
          have hst2 := hst.pop
          have HMX := Lib.hid hmax
          have hcap' : init.length + 1 ≤ cap := by omega
          have HLN2 := Lib.hid hl1
          rw [hl1] at hn
          simp only [List.length_append, List.length_cons, List.length_nil, Nat.zero_add] at *
          clear hc1 hc2 hgj hbk hx2 hx3 hmax hown hst hcap
          have hil : (0 : Int) ≤ init.length := by omega
          have hil2 : (init.length : Int) + 1 - 1 = init.length := by omega
          go_upto_region 15 with (fail)
          refine wp_gen (fun W => Blk W wr.heap.size [.int .i64 uj, .int .u8 tj] 32 ∧ Ext wr W) ⟨Blk.newAt _ _ _ _ rfl, (Ext.refl wr).alloc _⟩ ?_
          rintro W1 ⟨hbq, hx1⟩
          obtain ⟨q, hq⟩ : ∃ q, wr.heap.size = q := ⟨_, rfl⟩
          rw [hq] at hbq ⊢
          have hs1 := hx1.size
          have hkp1 : ∀ x, x < C0 → x ≠ b0 → W1.heap[x]? = Wc.heap[x]? := fun x h1 h2 => (hx1.block x (by omega)).trans (hkp x h1 h2)
          have hby1 := hbyc.keepR (fun _ => True) (hkp1 b1 (by omega) (by omega)) (fun x hx => hkp1 x (by have := hrl x hx; omega) (hrt x hx)) (fun _ _ => trivial)
          have hlook := hby1.look uj tj
          have hget := hby1.get (uj, tj)
          have hgb : ∀ x, ((g (uj, tj)).getD (.slice none 0 0)).ownBlock = some x → x < C0 ∧ x ≠ b0 := fun x hx => by
            have : ∃ k v, g k = some v ∧ v.ownBlock = some x := by
              cases hgg : g (uj, tj) with
              | none => rw [hgg] at hx; cases hx
              | some y => rw [hgg] at hx; exact ⟨_, y, hgg, hx⟩
            exact ⟨by have := hrl x this; omega, hrt x this⟩
          obtain ⟨Aj, cj, hej, hcj, hrj, _⟩ := OwnsJ.rd hget
          rw [hej] at hlook hgb
          have hab : ∀ a, Aj = some a → a.block < C0 ∧ a.block ≠ b0 := fun a ha => hgb a.block (by rw [ha]; rfl)
          have hEl := HF0.out (uj, tj)
          replace hs0 := hs0.ext hx1
          replace hown2 := Owns.ext hown2 hx1
          replace hxw : Ext w W1 := Ext.trans hxw hx1
          have d0 := hbq.cell 0 rfl
          have d1 := hbq.cell 1 rfl
          obtain ⟨lj, hlj⟩ : ∃ lj, E (uj, tj) = lj := ⟨_, rfl⟩
          rw [hlj] at hst2 hrj hlook hcj hEl
          have HLJ := Lib.hid hlj
          have hCq : C0 ≤ q := by omega
          have hqW : q < W1.heap.size := hbq.lt
          clear hget hej hgb f1 f2 hkp hx1 hby1 hlj
          go_wp2_with fail
          go_loopw [70, 14] (fun iv tv W => ∃ (k : Nat) (B2 : Jb → Bool) (todo2 : List Jb), k ≤ lj.length ∧ iv = .int .i64 k ∧ SetM W b0 B2 ∧ W.ownsRow C0 32 2 tv todo2.length (cellsJ todo2) ∧ Stk E ban B2 todo2 (some ((uj, tj), lj.drop k)) ∧ todo2.length + free all B2 + 1 ≤ N ∧
              (∀ x, x < C0 → x ≠ b0 → W.heap[x]? = Wc.heap[x]?) ∧ C0 ≤ W.heap.size ∧ Ext w W) (fun iv _ _ => lj.length - (RowKit.intOf iv).toNat)
          case atStart => exact ⟨0, B', init, by omega, rfl, hs0, hown2, hst2, by omega, hkp1, by omega, hxw⟩
          case round =>
            clear hs0 hown2 hst2 hxw
            obtain ⟨k, B2, todo2, hk, rfl, hs0, hown, hst, hn2', hkp, hsz2, hxw⟩ := hrel
            obtain ⟨At, ct, rfl, hct, _, hlow⟩ := OwnsJ.rd hown
            by_cases hlt : k < lj.length
            · have hlti : (k : Int) < lj.length := by omega
              have hrj2 : RdJ wr Aj lj := hrj.kp fun a ha => (hkp a.block (hab a ha).1 (hab a ha).2).trans (hkp1 a.block (hab a ha).1 (hab a ha).2).symm
              obtain ⟨b9, o9, u2, t2, rfl, he, f1, f2⟩ := hrj2.at hlt
              have hdk : lj.drop k = (u2, t2) :: lj.drop (k + 1) := by
                rw [List.drop_eq_getElem_cons hlt]
                congr 1
                rw [List.getElem?_eq_getElem hlt] at he
                exact Option.some.inj he
              rw [hdk] at hst
              obtain ⟨hst1, hm1⟩ := hst.one hEU
              have hlook2 := (hs0.ext ((Ext.refl wr).alloc (.cells #[.int .i64 u2, .int .u8 t2] 32))).look u2 t2
              cases hB2 : B2 (u2, t2)
              · have e1 : markOne (B2, todo2) (u2, t2) = (marked B2 (u2, t2), todo2 ++ [(u2, t2)]) := by unfold markOne; rw [if_neg (by simp [hB2])]
                rw [e1] at hst1 hm1
                rw [hB2] at hlook2
                simp only [Bool.false_eq_true, if_false] at hlook2
                have HS1 := Lib.hid hst1
                have HM1 := Lib.hid hm1
                obtain ⟨es1, m1, fm1⟩ := hs0
                have fm2 := fm1.put (u2, t2) (.int .i64 1)
                rw [one_put] at fm2
                have FM2 := Lib.hid fm2
                have hown1 := hown.alloc (.cells #[.int .i64 u2, .int .u8 t2] 32)
                have hb0C : b0 < C0 := by omega
                have hqk : wr.heap.size ≥ C0 := hsz2
                have hnb0 : ∀ x, (Value.slice At todo2.length ct).ownBlock = some x → C0 ≤ x := fun x hx => (hown.lt x hx).1
                clear hst1 hm1 hst hdk he hrj2 fm2 e1 hB2 hown
                go_wp2_with (first
                  | (refine wpList_put keyJob rfl (.tmp 78) (.tmp 79) (.const (.int .i64 1)) 87 3 rfl Try.underlying87 b0 es1 rfl (m1.ext ((Ext.refl wr).alloc _)) (u2, t2) (.int .i64 1) rfl rfl ?_; rintro W8 m8 g8; have p0 := (Grown.blk g8 (Blk.newAt wr [.int .i64 u2, .int .u8 t2] 32 _ rfl) (fun e => by have := Option.some.inj e; omega)).cell 0 rfl; have p1 := (Grown.blk g8 (Blk.newAt wr [.int .i64 u2, .int .u8 t2] 32 _ rfl) (fun e => by have := Option.some.inj e; omega)).cell 1 rfl; have s8 := g8.size; rw [World.size_alloc] at s8)
                  | (refine wpList_append_job rfl (.tmp 80) (.tmp 82) rfl C0 _ todo2 rfl ((Owns.kept hown1 g8 (fun k hk e => by have := hnb0 k hk; cases e; omega)).alloc _) W8.heap.size 1 u2 t2 rfl (Blk.newAt W8 _ _ _ rfl) (by omega) (by rw [World.size_alloc]; omega) ?_; rintro v' W9 o9' g9 d9))
                have s9 := g9.size
                rw [World.size_alloc] at s9
                have hkp9 : ∀ x, x < C0 → x ≠ b0 → W9.heap[x]? = Wc.heap[x]? := fun x h1 h2 =>
                  (g9.block x (by rw [World.size_alloc]; omega) (fun e => by have := hnb0 x e.symm; omega)).trans ((Below.heap_alloc W8 _ x (by omega)).trans ((g8.block x (by rw [World.size_alloc]; omega) (fun e => h2 (Option.some.inj e))).trans ((Below.heap_alloc wr _ x (by omega)).trans (hkp x h1 h2))))
                have hset9 : SetM W9 b0 (marked B2 (u2, t2)) := ⟨_, (m8.ext ((Ext.refl W8).alloc _)).kept g9 (fun e => by have := hnb0 b0 e.symm; omega), FM2.out⟩
                have hxw8 : Ext w W8 := Below.grown (Ext.alloc hxw _) g8 (by rw [World.size_alloc]; omega) (fun k e => by cases e; omega)
                have hxw9 : Ext w W9 := Below.grown (Ext.alloc hxw8 _) g9 (by rw [World.size_alloc]; omega) (fun k e => by have := hnb0 k e; omega)
                have hmm := HM1.out
                have hsst := HS1.out
                go_roundw
                case rel => exact ⟨k + 1, _, _, by omega, by go_num, hset9, o9', hsst, by simp only [List.length_append, List.length_cons, List.length_nil] at hmm ⊢; omega, hkp9, by omega, hxw9⟩
                case measure => simp [RowKit.intOf]; omega
              · have e1 : markOne (B2, todo2) (u2, t2) = (B2, todo2) := by unfold markOne; rw [if_pos hB2]
                rw [e1] at hst1
                rw [hB2] at hlook2
                simp only [if_true] at hlook2
                have HS1 := Lib.hid hst1
                have hs1' := hs0.ext ((Ext.refl wr).alloc (.cells #[.int .i64 u2, .int .u8 t2] 32))
                have hown1 := hown.alloc (.cells #[.int .i64 u2, .int .u8 t2] 32)
                have hkp9 : ∀ x, x < C0 → x ≠ b0 → (wr.alloc (.cells #[.int .i64 u2, .int .u8 t2] 32)).heap[x]? = Wc.heap[x]? := fun x h1 h2 => (Below.heap_alloc wr _ x (by omega)).trans (hkp x h1 h2)
                have hxw9 : Ext w (wr.alloc (.cells #[.int .i64 u2, .int .u8 t2] 32)) := Ext.alloc hxw _
                have hB1w : B ≤ wr.heap.size := by omega
                clear hst1 hm1 hst hdk he hrj2 e1 hB2 hown hs0
                go_wp2_with fail
                go_roundw
                case rel => exact ⟨k + 1, B2, todo2, by omega, by go_num, hs1', hown1, HS1.out, by omega, hkp9, by rw [World.size_alloc]; omega, hxw9⟩
                case measure => simp [RowKit.intOf]; omega
            · obtain rfl : k = lj.length := by omega
              rw [List.drop_of_length_le (Nat.le_refl _)] at hst
              have hrr := (HRR.out (todo2.length + free all B2) _ _).2 ⟨B2, todo2, hs0, hown, hst.end, rfl, by omega, hkp, hsz2, hxw⟩
              have hlt2 := HLT.out _ _ _ hrr (by omega)
              clear hs0 hown hst hkp hxw hlow
              go_wp2_with fail
              go_roundw
              case rel => exact ⟨_, hrr⟩
              case measure => exact hlt2
    · intro i u t v W4 hi hns hmp2 hit2 hg2 hs2 hen
      have hen' : (Instr.entry (.pointer (some ⟨r, 0, none⟩))).run Try.prog W4 = .ok (.tuple #[.agg #[.int .i64 u, .int .u8 t], v]) W4 := hen
      have hcm := Lib.hid hit.came
      have hlt2 : i < es2.length := (List.getElem?_eq_some_iff.1 hi).1
      have hlt3 : ∀ j ∈ seen ++ [i], j < es2.length := by
        intro j hj
        rcases List.mem_append.1 hj with h | h
        · exact hlt j h
        · rw [List.mem_singleton.1 h]; exact hlt2
      have hnd3 : (seen ++ [i]).Nodup := List.nodup_append.2 ⟨hnd, by simp, fun a ha b hb e => by rw [List.mem_singleton.1 hb] at e; exact hns (e ▸ ha)⟩
      have hsl3 : (seen ++ [i]).length ≤ es2.length := nodup_le _ hnd3 hlt3
      have hkey := keysAt_snoc (seen := seen) hi
      clear hen
      go_simp
      go_upto_region 6 with (fail)
      have hrby : ∀ q, (∃ k v, g k = some v ∧ v.ownBlock = some q) → W4.heap[q]? = wr.heap[q]? := fun q hq => by
        obtain ⟨_, h2, c, h3⟩ := hby.typedR hq
        refine hg2.block q h2 fun e => ?_
        cases e
        obtain ⟨_, _, h4⟩ := hit
        rw [h3] at h4
        cases h4
      have hb1r : b1 ≠ r := by omega
      have hb0r : b0 ≠ r := by omega
      have hBr : B ≠ r := by omega
      replace hby := hby.keepR (fun _ => True) (hg2.block b1 hby.map.lt (fun e => hb1r (Option.some.inj e))) hrby (fun _ _ => trivial)
      replace hs0 := hs0.kept hg2 (fun e => hb0r (Option.some.inj e))
      replace hbg := Grown.blk hg2 hbg (fun e => hBr (Option.some.inj e))
      replace hxw : Ext w W4 := Below.grown hxw hg2 hxw.size (fun k e => by cases e; omega)
      clear hit hmp hg2 hrby
      have hwq := hs2.symm
      refine wp_gen (fun W => Blk W wr.heap.size [.int .i64 u, .int .u8 t] 32 ∧ Ext W4 W) ⟨Blk.newAt _ _ _ _ hwq, (Ext.refl W4).alloc _⟩ ?_
      rintro W5 ⟨hbq, hx5⟩
      obtain ⟨q, hq⟩ : ∃ q, wr.heap.size = q := ⟨_, rfl⟩
      have hit2r := hit2
      have hrowq : ∀ x, (∃ k v, g k = some v ∧ v.ownBlock = some x) → x ≠ q ∧ x < W4.heap.size := fun x hx => by
        obtain ⟨_, h2, _⟩ := hby.typedR hx
        exact ⟨by omega, h2⟩
      replace hby := hby.ext hx5
      replace hs0 := hs0.ext hx5
      replace hbg := hbg.ext hx5
      replace hxw : Ext w W5 := hxw.trans hx5
      replace hmp2 := hmp2.ext hx5
      replace hit2 := hit2.ext hx5
      have hx5s := hx5.size
      rw [hq] at hbq ⊢
      have hqr : r < q := by
        obtain ⟨_, _, h4⟩ := hit2r
        have := (Array.getElem?_eq_some_iff.1 h4).1
        omega
      clear hit2r
      have e0 := hbq.cell 0 rfl
      have e1 := hbq.cell 1 rfl
      have HT := Lib.hid (rowG7 G)
      go_wp2_with (first | (refine wpList_load_blk rfl 24 (.tmp 4) rfl B rfl HT.out hbg ?_) | (go_at_call 24; refine (HPL.out _ hxw u t).mono ?_; rintro e W6 ⟨vp, rfl, hop, hx6⟩; obtain ⟨Ap, cp, rfl, hcp, hrp, hlp⟩ := OwnsI.rd hop))
      have hPN : (P (u, t)).length ≤ 7000 := HLN.out (u, t)
      obtain ⟨ps, hps⟩ : ∃ ps, P (u, t) = ps := ⟨_, rfl⟩
      rw [hps] at hcp hrp hPN ⊢
      have hfin : (keysAt es2 (seen ++ [i])).foldl (byF P) (fun _ => []) = ps.foldl (byAdd (u, t)) ((keysAt es2 seen).foldl (byF P) (fun _ => [])) := by
        rw [hkey, List.foldl_append, ← hps]; rfl
      have hflen : ∀ (k : Jb) (ks : List Jb) (f : Jb → List Jb), (ks.foldl (byF P) f k).length ≤ (f k).length + ks.length * 7000 := fun k => byAll_len HLN.out
      have hkl : (keysAt es2 seen).length ≤ 10000 := by rw [keysAt_length hlt]; omega
      have hf0 : ∀ k, ((keysAt es2 seen).foldl (byF P) (fun _ => []) k).length ≤ 70000000 := fun k => by
        have := hflen k (keysAt es2 seen) (fun _ => [])
        simp only [List.length_nil] at this
        omega
      obtain ⟨f0, hf⟩ : ∃ f0, (keysAt es2 seen).foldl (byF P) (fun _ => []) = f0 := ⟨_, rfl⟩
      rw [hf] at hfin hf0 hby
      have HFIN := Lib.hid hfin
      have HF0 := Lib.hid hf0
      clear hfin hflen hkl hf0 hkey hps hen' hi hns hlt hnd hsl
      have hW56 := hx6.size
      have hrW6 : ∀ x, (∃ k v, g k = some v ∧ v.ownBlock = some x) → x < W5.heap.size := fun x hx => Nat.lt_of_lt_of_le (hrowq x hx).2 hx5s
      replace hby := hby.ext hx6
      have hty6 := fun x (hx : ∃ k v, g k = some v ∧ v.ownBlock = some x) => (hby.typedR hx).2.2
      have hs06 := hs0.ext hx6
      have hbg6 := hbg.ext hx6
      have hxw6 : Ext w W6 := Ext.trans hxw hx6
      have hmp6 := hmp2.ext hx6
      have hit6 := hit2.ext hx6
      have hbq6 := hbq.ext hx6
      have hb1q : b1 < q := by omega
      have hqW5 : q < W5.heap.size := hbq.lt
      clear hs0 hbg hxw hmp2 hit2 hbq
      go_loopw [33] (fun iv W => ∃ (k : Nat) (es' : List (Jb × Value)) (g' : Jb → Option Value), k ≤ ps.length ∧ iv = .int .i64 k ∧ ByM W B b1 (fun x => (∃ k v, g k = some v ∧ v.ownBlock = some x) ∨ W6.heap.size ≤ x) ((ps.take k).foldl (byAdd (u, t)) f0) es' g' ∧
          (∀ x, x < W6.heap.size → x ≠ b1 → ¬ (∃ k v, g k = some v ∧ v.ownBlock = some x) → W.heap[x]? = W6.heap[x]?) ∧ W6.heap.size ≤ W.heap.size ∧ Ext w W) (fun iv _ => ps.length - (RowKit.intOf iv).toNat)
      case atStart => exact ⟨0, es, g, by omega, rfl, hby.keepR _ rfl (fun _ _ => rfl) (fun q hq => .inl hq), fun _ _ _ _ => rfl, Nat.le_refl _, hxw6⟩
      case round =>
        clear hby hxw6
        obtain ⟨k, es', g', hk, rfl, hby, hkp, hsz, hxw⟩ := hrel
        have hrp2 : RdI wr Ap ps := hrp.kp fun a ha hlt => hkp a.block hlt (fun e => by have := hlp a ha; omega) (fun hx => by have := hrW6 _ hx; have := hlp a ha; omega)
        have hq2 : Blk wr q [.int .i64 u, .int .u8 t] 32 := (hkp q (by omega) (by omega) (fun hx => (hrowq q hx).1 rfl)).trans hbq6
        by_cases hlt : k < ps.length
        · have hlti : (k : Int) < ps.length := by omega
          obtain ⟨b9, o9, u2, t2, m2, rfl, he, f1, f2, f3⟩ := hrp2.at hlt
          have htk : ps.take (k + 1) = ps.take k ++ [⟨u2, t2, m2⟩] := by rw [List.take_succ_eq_append_getElem hlt]; congr 2; rw [List.getElem?_eq_getElem hlt] at he; exact Option.some.inj he
          have hstep : (ps.take (k + 1)).foldl (byAdd (u, t)) f0 = byAdd (u, t) ((ps.take k).foldl (byAdd (u, t)) f0) ⟨u2, t2, m2⟩ := by rw [htk, List.foldl_append]; rfl
          have hfk : ∀ x, ((ps.take k).foldl (byAdd (u, t)) f0 x).length ≤ 80000000 := fun x => by
            have h1 := byFold_len (j := (u, t)) (k := x) (ps.take k) f0
            have h2 := HF0.out x
            have h3 : (ps.take k).length ≤ 7000 := by rw [List.length_take]; omega
            omega
          obtain ⟨fk, hfk0⟩ : ∃ fk, (ps.take k).foldl (byAdd (u, t)) f0 = fk := ⟨_, rfl⟩
          rw [hfk0] at hstep hfk hby
          have HST := Lib.hid hstep
          have HFK := Lib.hid hfk
          clear htk hstep hfk hfk0 he hrp2
          have hxs := hxw.size
          go_upto_region 9 with (fail)
          refine wp_gen (fun W => Blk W wr.heap.size [.int .i64 u2, .int .u8 t2, .bool m2] 55 ∧ Ext wr W) ⟨Blk.newAt _ _ _ _ rfl, (Ext.refl wr).alloc _⟩ ?_
          rintro W7 ⟨hbp, hx7⟩
          have hkp7 : ∀ x, x < W6.heap.size → x ≠ b1 → ¬ (∃ k v, g k = some v ∧ v.ownBlock = some x) → W7.heap[x]? = W6.heap[x]? := fun x h1 h2 h3 => (hx7.block x (by omega)).trans (hkp x h1 h2 h3)
          have hs7 := hx7.size
          replace hby := hby.ext hx7
          replace hq2 := hq2.ext hx7
          replace hxw : Ext w W7 := Ext.trans hxw hx7
          obtain ⟨qp, hqp⟩ : ∃ qp, wr.heap.size = qp := ⟨_, rfl⟩
          rw [hqp] at hbp ⊢
          have e0 := hbp.cell 0 rfl
          have e1 := hbp.cell 1 rfl
          have e2 := hbp.cell 2 rfl
          have d0 := hq2.cell 0 rfl
          have d1 := hq2.cell 1 rfl
          clear f1 f2 f3 hkp
          cases m2
          · have hs0' := HST.out
            have : byAdd (u, t) fk ⟨u2, t2, false⟩ = fk := rfl
            rw [this] at hs0'
            have HS0 := Lib.hid hs0'
            clear hs0'
            go_wp2_with fail
            go_roundw
            case rel => exact ⟨k + 1, es', g', by omega, by go_num, by rw [HS0.out]; exact hby, hkp7, by omega, hxw⟩
            case measure => simp [RowKit.intOf]; omega
          · have hs0' := HST.out
            have : byAdd (u, t) fk ⟨u2, t2, true⟩ = fun x => if x = (u2, t2) then fk x ++ [(u, t)] else fk x := rfl
            rw [this] at hs0'
            have HS0 := Lib.hid hs0'
            clear hs0'
            have hget := hby.get (u2, t2)
            have hval : (valOf (u2, t2) es').getD (.slice none 0 0) = (g' (u2, t2)).getD (.slice none 0 0) := by rw [hby.fm.val]
            obtain ⟨vr, hvr⟩ : ∃ vr, (g' (u2, t2)).getD (.slice none 0 0) = vr := ⟨_, rfl⟩
            rw [hvr] at hget hval
            have hvb1 : vr.ownBlock ≠ some b1 := fun e => by
              have hh := hby.map
              obtain ⟨_, h2⟩ := hget
              rcases h2 with ⟨rfl, _⟩ | ⟨g9, cap, cur, rfl, p1, p2, p3⟩
              · cases e
              · cases e
                unfold RMap at hh
                rw [p2] at hh
                cases hh
            have HB := Lib.hid hby
            have HG := Lib.hid (hget.alloc (.cells #[.int .i64 u, .int .u8 t] 32))
            have hmap1 : RMap encJ (W7.alloc (.cells #[.int .i64 u, .int .u8 t] 32)) b1 es' := hby.map.ext ((Ext.refl W7).alloc _)
            have hb1lt := hby.map.lt
            have hBW7 : B ≤ W7.heap.size := by omega
            go_wp2_with (first
              | (refine wpList_entry keyJob rfl (.tmp 39) (.tmp 41) 113 36 rfl Try.underlying113 (zeroJs _) b1 es' rfl hmap1 (u2, t2) rfl ?_; rw [hval]; rintro W8 st m8 g8 c8)
              | (refine wpList_append_job rfl (.tmp 42) (.tmp 44) rfl B vr (fk (u2, t2)) rfl (Owns.kept HG.out g8 (fun k hk e => hvb1 (hk.trans e.symm))) W7.heap.size 1 u t rfl (Grown.blk g8 (Blk.newAt W7 _ _ _ rfl) (fun e => by have := Option.some.inj e; omega)) (by have := HFK.out (u2, t2); omega) (by have := g8.size; simp at this; omega) ?_; rintro v' W9 o9' g9 d9; obtain ⟨W10, run10, m10, g10⟩ := c8 W9 v' (m8.kept g9 (fun e => hvb1 e.symm)))
              | (refine wpList_entryStore rfl (.tmp 39) (.tmp 47) (.tmp 46) 113 rfl rfl rfl rfl run10 ?_))
            have hgx : ∀ x, vr.ownBlock = some x → g' (u2, t2) = some vr := fun x hx => by
              cases hgg : g' (u2, t2) with
              | none => rw [hgg] at hvr; subst hvr; cases hx
              | some y => rw [hgg] at hvr; rw [← hvr]; rfl
            have s8 := g8.size
            have s9 := g9.size
            have s10 := g10.size
            simp only [World.size_alloc] at s8
            have hkeep : ∀ x, x < W7.heap.size → x ≠ b1 → vr.ownBlock ≠ some x → W10.heap[x]? = W7.heap[x]? := fun x h1 h2 h3 =>
              (g10.block x (by omega) (fun e => h2 (Option.some.inj e))).trans ((g9.block x (by omega) (fun e => h3 e.symm)).trans ((g8.block x (by simp; omega) (fun e => h2 (Option.some.inj e))).trans (Below.heap_alloc W7 _ x h1)))
            have hst := HB.out.step (R' := fun x => (∃ k v, g k = some v ∧ v.ownBlock = some x) ∨ W6.heap.size ≤ x) (u2, t2) vr v' (fk (u2, t2) ++ [(u, t)]) hvr.symm m10
              (Owns.kept o9' g10 fun k hk e => by
                cases e
                rcases d9 _ hk with h | h
                · exact hvb1 h
                · omega)
              (fun k hk => (d9 k hk).imp_right (fun h => by omega)) hkeep (fun _ h => h) (fun q hq => .inr (by omega))
            have hfe : (fun x => if x = (u2, t2) then fk (u2, t2) ++ [(u, t)] else fk x) = fun x => if x = (u2, t2) then fk x ++ [(u, t)] else fk x := by
              funext x
              by_cases e : x = (u2, t2)
              · subst e; rfl
              · rw [if_neg e, if_neg e]
            rw [hfe, ← HS0.out] at hst
            have hxw8 : Ext w W8 := Below.grown (Ext.alloc hxw _) g8 (by rw [World.size_alloc]; omega) (fun k e => by cases e; omega)
            have hxw9 : Ext w W9 := Below.grown hxw8 g9 (by omega) (fun k e => by have := (hget.lt k e).1; omega)
            have hxw10 : Ext w W10 := Below.grown hxw9 g10 (by omega) (fun k e => by cases e; omega)
            have hkp10 : ∀ x, x < W6.heap.size → x ≠ b1 → ¬ (∃ k v, g k = some v ∧ v.ownBlock = some x) → W10.heap[x]? = W6.heap[x]? := fun x h1 h2 h3 =>
              (hkeep x (by omega) h2 (fun e => by
                rcases HB.out.off _ _ _ (hgx x e) e with h | h
                · exact h3 h
                · omega)).trans (hkp7 x h1 h2 h3)
            go_roundw
            case rel => exact ⟨k + 1, _, _, by omega, by go_num, hst, hkp10, by omega, hxw10⟩
            case measure => simp [RowKit.intOf]; omega
        · obtain rfl : k = ps.length := by omega
          rw [List.take_of_length_le (Nat.le_refl _), ← HFIN.out] at hby
          have ht6 : ∀ (x : Nat) (o : Obj), W6.heap[x]? = some o → (∀ c, o ≠ .cells c 32 (0, 0)) → x ≠ b1 → wr.heap[x]? = W6.heap[x]? := fun x o h1 h2 hb => hkp x (Array.getElem?_eq_some_iff.1 h1).1 hb fun h3 => by
            obtain ⟨c, h4⟩ := hty6 x h3
            rw [h4] at h1
            cases h1
            exact h2 _ rfl
          obtain ⟨esb, hs1, hs2'⟩ := hs06
          have k0 : wr.heap[b0]? = W6.heap[b0]? := ht6 b0 _ hs1 (fun c e => by cases e) (by omega)
          have k2 : wr.heap[b2]? = W6.heap[b2]? := ht6 b2 _ hmp6 (fun c e => by cases e) (by omega)
          obtain ⟨cc, hcc, hit6'⟩ := hit6
          have kr : wr.heap[r]? = W6.heap[r]? := ht6 r _ hit6' (fun c e => by cases e) (by omega)
          have kB : wr.heap[B]? = W6.heap[B]? := ht6 B _ hbg6 (fun c e => by cases e) (by omega)
          have n2 : RMap encJ wr b2 es2 := k2.trans hmp6
          have nr : RIter wr r b2 es2.length (seen ++ [i]) := ⟨cc, hcc, kr.trans hit6'⟩
          have n0 : SetM wr b0 (fun k => decide (k ∈ ban)) := ⟨esb, k0.trans hs1, hs2'⟩
          have nB : Blk wr B G.cs 24 := kB.trans hbg6
          have nby := hby.keepR (fun _ => True) rfl (fun _ _ => rfl) (fun _ _ => trivial)
          have hcm2 := nr.came
          clear hkp hrp2 hq2 hby hty6 ht6
          go_wp2_with fail
          go_roundw
          case rel => exact ⟨seen ++ [i], es', g', n2, nr, hnd3, hlt3, hsl3, nby, n0, nB, hxw⟩
          case measure =>
            rw [hcm2]
            have := hcm.out
            simp at hsl3 ⊢
            omega
end Go.Proofs.Ytclgclcoblfddaa
