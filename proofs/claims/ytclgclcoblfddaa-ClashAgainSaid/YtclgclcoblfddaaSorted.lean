/- jobs.Sorted. -/
import Derived.Test.YtclgclcoblfddaaSortL
namespace Go.Proofs.Ytclgclcoblfddaa
open Go.RowKit Go.Lib Go.Shelf
set_option linter.unusedVariables false
set_option linter.unusedSimpArgs false
def encI (x : It) : Value := .agg #[.int .i64 x.u, .int .u8 x.t, .bool x.m]
/-- The map of the jobs of the first items, with their musts. -/
structure JMap (l : List It) (es : List ((Int × Int) × Value)) : Prop where
  nodup : (es.map (·.1)).Nodup
  mem : ∀ k, k ∈ es.map (·.1) ↔ k ∈ l.map jobOf
  val : ∀ p ∈ es, p.2 = encI ⟨p.1.1, p.1.2, mustOf l p.1⟩
  len : es.length ≤ l.length
theorem JMap.nil : JMap [] [] := ⟨List.nodup_nil, fun k => by simp, fun p hp => (by cases hp), Nat.le_refl _⟩
theorem posOf_mem {x : Int × Int} : ∀ {es : List ((Int × Int) × Value)} {i : Nat}, posOf x es i = none ↔ x ∉ es.map (·.1)
  | [], i => by simp [posOf]
  | p :: es, i => by
    rw [posOf]
    split
    · rename_i h; simp [h]
    · rename_i h
      rw [posOf_mem (es := es)]
      simp [h]
theorem mustOf_snoc (l : List It) (x : It) (k : Int × Int) : mustOf (l ++ [x]) k = (mustOf l k || (decide (jobOf x = k) && x.m)) := by simp [mustOf]
theorem mustOf_none {l : List It} {k : Int × Int} (h : k ∉ l.map jobOf) : mustOf l k = false := by
  unfold mustOf
  rw [List.any_eq_false]
  intro x hx
  have : jobOf x ≠ k := fun e => h (e ▸ List.mem_map_of_mem hx)
  simp [this]
theorem JMap.valOf {l : List It} {es : List ((Int × Int) × Value)} (h : JMap l es) (k : Int × Int) : (valOf k es).getD (encI ⟨0, 0, false⟩) = encI ⟨if k ∈ l.map jobOf then k.1 else 0, if k ∈ l.map jobOf then k.2 else 0, mustOf l k⟩ := by
  unfold Go.Proofs.Ytclgclcoblfddaa.valOf
  cases hp : posOf k es 0 with
  | none =>
    have h1 : k ∉ l.map jobOf := fun hk => posOf_mem.1 hp ((h.mem k).2 hk)
    rw [if_neg h1, if_neg h1, mustOf_none h1]
    rfl
  | some q =>
    obtain ⟨i, u⟩ := q
    obtain ⟨_, hi⟩ := posOf_get hp
    have hm : (k, u) ∈ es := List.mem_of_getElem? hi
    have h1 : k ∈ l.map jobOf := (h.mem k).1 (List.mem_map_of_mem (f := (·.1)) hm)
    rw [if_pos h1, if_pos h1]
    exact h.val _ hm
theorem JMap.put {l : List It} {es : List ((Int × Int) × Value)} (h : JMap l es) (x : It) : JMap (l ++ [x]) (putOf (jobOf x) (encI ⟨x.u, x.t, mustOf l (jobOf x) || x.m⟩) es) := by
  have hm : mustOf (l ++ [x]) (jobOf x) = (mustOf l (jobOf x) || x.m) := by rw [mustOf_snoc]; simp
  have ho : ∀ k, k ≠ jobOf x → mustOf (l ++ [x]) k = mustOf l k := fun k hk => by
    rw [mustOf_snoc]
    have : jobOf x ≠ k := fun e => hk e.symm
    simp [this]
  unfold putOf
  cases hp : posOf (jobOf x) es 0 with
  | none =>
    have h1 := posOf_mem.1 hp
    refine ⟨?_, fun k => ?_, fun p hpm => ?_, ?_⟩
    · simp only [List.map_append, List.map_cons, List.map_nil]
      exact List.nodup_append.2 ⟨h.nodup, by simp, fun a ha b hb e => by
        rw [List.mem_singleton.1 hb] at e
        exact h1 (e ▸ ha)⟩
    · simp only [List.map_append, List.map_cons, List.map_nil, List.mem_append, List.mem_singleton, h.mem]
    · rcases List.mem_append.1 hpm with hq | hq
      · have hne : p.1 ≠ jobOf x := fun e => h1 (e ▸ List.mem_map_of_mem (f := (·.1)) hq)
        rw [ho _ hne]; exact h.val p hq
      · rw [List.mem_singleton.1 hq, hm]; rfl
    · have := h.len; simp; omega
  | some q =>
    obtain ⟨i, u⟩ := q
    obtain ⟨_, hi⟩ := posOf_get hp
    rw [Nat.sub_zero] at hi
    have hlt := (List.getElem?_eq_some_iff.1 hi).1
    have hmap : (es.set i (jobOf x, encI ⟨x.u, x.t, mustOf l (jobOf x) || x.m⟩)).map (·.1) = es.map (·.1) := by
      rw [List.map_set]
      apply List.ext_getElem?
      intro j
      rw [List.getElem?_set]
      split
      · rename_i e
        subst e
        rw [if_pos (by simpa using hlt), List.getElem?_map, hi]; rfl
      · rfl
    have hin : jobOf x ∈ l.map jobOf := (h.mem _).1 (List.mem_map_of_mem (f := (·.1)) (List.mem_of_getElem? hi))
    refine ⟨by simp only; rw [hmap]; exact h.nodup, fun k => ?_, fun p hpm => ?_, ?_⟩
    · simp only
      rw [hmap, h.mem]
      simp only [List.map_append, List.map_cons, List.map_nil, List.mem_append, List.mem_singleton]
      constructor
      · exact .inl
      · rintro (h | rfl)
        · exact h
        · exact hin
    · simp only at hpm
      obtain ⟨j, hj⟩ := List.getElem?_of_mem hpm
      rw [List.getElem?_set] at hj
      split at hj
      · rename_i e
        first | rw [if_pos hlt] at hj | skip
        cases hj
        rw [hm]; rfl
      · rename_i e
        have hq := List.mem_of_getElem? hj
        have hne : p.1 ≠ jobOf x := by
          intro e2
          have h3 : (es.map (·.1))[i]? = some (jobOf x) := by rw [List.getElem?_map, hi]; rfl
          have h4 : (es.map (·.1))[j]? = some (jobOf x) := by rw [List.getElem?_map, hj]; simp [e2]
          have := (List.getElem?_inj (by simpa using hlt) h.nodup).1 (h3.trans h4.symm)
          exact e this
        rw [ho _ hne]; exact h.val p hq
    · have := h.len; simp; omega
/-- A slice of jobs that reads so. -/
def RdJ (W : World) (A : Option Addr) (l : List (Int × Int)) : Prop := l = [] ∨ ∃ b o, A = some ⟨b, o, none⟩ ∧
  ∀ j u t, l[j]? = some (u, t) → W.cell? ⟨b, o + j * 2, none⟩ = some (.int .i64 u) ∧ W.cell? ⟨b, o + j * 2 + 1, none⟩ = some (.int .u8 t)
theorem RdJ.ext {W W' : World} {A : Option Addr} {l : List (Int × Int)} (h : RdJ W A l) (hx : Ext W W') : RdJ W' A l := by
  rcases h with h | ⟨b, o, rfl, h⟩
  · exact .inl h
  · exact .inr ⟨b, o, rfl, fun j u t e => ⟨hx.cell (h j u t e).1, hx.cell (h j u t e).2⟩⟩
theorem RdJ.at {W : World} {A : Option Addr} {l : List (Int × Int)} (h : RdJ W A l) {i : Nat} (hi : i < l.length) :
    ∃ b o u t, A = some ⟨b, o, none⟩ ∧ l[i]? = some (u, t) ∧ W.cell? ⟨b, o + i * 2, none⟩ = some (.int .i64 u) ∧ W.cell? ⟨b, o + i * 2 + 1, none⟩ = some (.int .u8 t) := by
  rcases h with h | ⟨b, o, hA, hc⟩
  · rw [h] at hi; simp at hi
  · have he : l[i]? = some l[i] := List.getElem?_eq_getElem hi
    generalize l[i] = r at he
    obtain ⟨u, t⟩ := r
    exact ⟨b, o, u, t, hA, he, hc i u t he⟩
theorem cellsJ_get (l : List (Int × Int)) : ∀ (j : Nat) (u t : Int), l[j]? = some (u, t) → (cellsJ l)[j * 2]? = some (.int .i64 u) ∧ (cellsJ l)[j * 2 + 1]? = some (.int .u8 t) := by
  induction l with
  | nil => exact fun j u t h => by cases h
  | cons a l ih =>
    intro j u t h
    cases j with
    | zero => cases h; exact ⟨rfl, rfl⟩
    | succ j =>
      obtain ⟨h1, h2⟩ := ih j u t h
      refine ⟨?_, ?_⟩
      · rw [show (j + 1) * 2 = j * 2 + 2 by omega]; exact h1
      · rw [show (j + 1) * 2 + 1 = (j * 2 + 1) + 2 by omega]; exact h2
theorem OwnsJ.rd {W : World} {base : Nat} {e : TypeId} {v : Value} {l : List (Int × Int)} (h : W.ownsRow base e 2 v l.length (cellsJ l)) : ∃ A cap, v = .slice A l.length cap ∧ l.length ≤ cap ∧ RdJ W A l ∧ ∀ a, A = some a → base ≤ a.block := by
  obtain ⟨hl, hv⟩ := h
  rcases hv with ⟨rfl, h0⟩ | ⟨g, cap, cur, rfl, hb, hg, hn, hcap, hcs, htk⟩
  · exact ⟨none, 0, by rw [h0], by omega, .inl (List.eq_nil_of_length_eq_zero h0), fun a ha => by cases ha⟩
  · refine ⟨_, cap, rfl, hn, .inr ⟨g, 0, rfl, fun j u t hj => ?_⟩, fun a ha => by cases ha; exact hb⟩
    have key : ∀ k x, (cellsJ l)[k]? = some x → W.cell? ⟨g, k, none⟩ = some x := fun k x hk => by
      rw [← htk, List.getElem?_take] at hk
      split at hk
      · simp only [World.cell?, hg]
        simpa using hk
      · cases hk
    obtain ⟨h1, h2⟩ := cellsJ_get l j u t hj
    rw [Nat.zero_add]
    exact ⟨key _ _ h1, key _ _ h2⟩
theorem Owns.low {w : World} {base base' : Nat} {e : TypeId} {size : Nat} {v : Value} {n : Nat} {xs : List Value} (h : w.ownsRow base e size v n xs) (hb : base' ≤ base) : w.ownsRow base' e size v n xs := by
  obtain ⟨hl, hv⟩ := h
  rcases hv with h | ⟨g, cap, cur, rfl, h1, h2⟩
  · exact ⟨hl, .inl h⟩
  · exact ⟨hl, .inr ⟨g, cap, cur, rfl, Nat.le_trans hb h1, h2⟩⟩
theorem zeroItem (w : World) : (zeroValue 34).run Try.prog w = .ok (.agg #[.int .i64 0, .int .u8 0, .bool false]) w := by kernel_rfl
set_option maxRecDepth 100000 in
set_option maxHeartbeats 2000000 in
theorem Sorted_calls (l : List It) (A : Option Addr) (cap : Nat) (w : World) (hr : RdI w A l) (hlen : l.length ≤ 1000000) :
    Calls Try.prog 48 #[.slice A l.length cap] w fun e w' => ∃ v, e = .returned v ∧ w'.ownsRow w.heap.size 34 3 v (sortedL l).length (itCells (sortedL l)) ∧ Ext w w' := by
  go_enter Try.func48, Try.ntmps48
  have hmm := @run_makeMap Try.prog
  go_upto_region 3 with (fail)
  refine wp_gen (fun W => RMap encJ W w.heap.size ([] : List ((Int × Int) × Value)) ∧ Ext w W) ⟨RMap.made encJ w, (Ext.refl w).alloc _⟩ ?_
  obtain ⟨b, hb⟩ : ∃ b, w.heap.size = b := ⟨_, rfl⟩
  rw [hb]
  rintro W0 ⟨hm0, hx0⟩
  clear hmm
  go_loopw [12] (fun i W => ∃ (k : Nat) (es : List ((Int × Int) × Value)), k ≤ l.length ∧ i = .int .i64 k ∧ RMap encJ W b es ∧ JMap (l.take k) es ∧ Ext w W) (fun i _ => l.length - (RowKit.intOf i).toNat)
  case atStart => exact ⟨0, [], by omega, rfl, hm0, JMap.nil, hx0⟩
  case round =>
    clear hm0 hx0
    obtain ⟨k, es, hk, rfl, hmp, hj, hx⟩ := hrel
    by_cases hlt : k < l.length
    · have hlti : (k : Int) < l.length := by omega
      obtain ⟨b1, o1, u, t, m, rfl, he, f1, f2, f3⟩ := (hr.ext hx).at hlt
      have hlk := fun W' (h : Ext wr W') => (hmp.ext h).look keyJob Try.underlying115 (zeroItem W') (u, t)
      obtain ⟨mu, hmu⟩ : ∃ mu, mustOf (l.take k) (u, t) = mu := ⟨_, rfl⟩
      have hv := hj.valOf (u, t)
      rw [hmu] at hv
      have hv' : (valOf (u, t) es).getD (.agg #[.int .i64 0, .int .u8 0, .bool false]) = encI ⟨if (u, t) ∈ (l.take k).map jobOf then u else 0, if (u, t) ∈ (l.take k).map jobOf then t else 0, mu⟩ := hv
      rw [hv'] at hlk
      generalize (if (u, t) ∈ (l.take k).map jobOf then u else 0) = z1 at hlk
      generalize (if (u, t) ∈ (l.take k).map jobOf then t else 0) = z2 at hlk
      clear hv hv'
      go_upto_region 5 with (fail)
      have hp := hj.put ⟨u, t, m⟩
      have hjob : jobOf ⟨u, t, m⟩ = (u, t) := rfl
      rw [hjob, hmu] at hp
      have htk : l.take (k + 1) = l.take k ++ [⟨u, t, m⟩] := by rw [List.take_succ_eq_append_getElem hlt]; congr 2; rw [List.getElem?_eq_getElem hlt] at he; exact Option.some.inj he
      rw [← htk] at hp
      have HP := Lib.hid hp
      refine wp_gen (fun W => Blk W wr.heap.size [.int .i64 u, .int .u8 t, .bool m] 34 ∧ RMap encJ W b es ∧ Ext wr W) ⟨Blk.newAt _ _ _ _ rfl, hmp.ext ((Ext.refl wr).alloc _), (Ext.refl wr).alloc _⟩ ?_
      have hbq : b < wr.heap.size := hmp.lt
      have hwq : w.heap.size ≤ wr.heap.size := hx.size
      obtain ⟨q, hq⟩ : ∃ q, wr.heap.size = q := ⟨_, rfl⟩
      rw [hq] at hbq hwq ⊢
      clear hmp f1 f2 f3 hj hp htk hjob hmu
      rintro W1 ⟨hbk, hmp, hx1⟩
      have e0 : ∀ W', Ext W1 W' → W'.cell? ⟨q, 0, none⟩ = some (.int .i64 u) := fun W' h => (hbk.ext h).cell 0 rfl
      have e1 : ∀ W', Ext W1 W' → W'.cell? ⟨q, 1, none⟩ = some (.int .u8 t) := fun W' h => (hbk.ext h).cell 1 rfl
      have e2 : ∀ W', Ext W1 W' → W'.cell? ⟨q, 2, none⟩ = some (.bool m) := fun W' h => (hbk.ext h).cell 2 rfl
      have el : ∀ W', Ext W1 W' → (Instr.lookup 115 (.map (some b)) (.agg #[.int .i64 u, .int .u8 t]) false).run Try.prog W' = .ok (.agg #[.int .i64 z1, .int .u8 z2, .bool mu]) W' := fun W' h => hlk W' (hx1.trans h)
      have hxx := hx.trans hx1
      clear hlk hx hx1
      have hfd : ∀ (y1 y2 : Int) (y3 : Bool) (W : World), (Instr.field 34 (.agg #[.int .i64 y1, .int .u8 y2, .bool y3]) 1).run Try.prog W = .ok (.bool y3) W := fun _ _ _ _ => by kernel_rfl
      cases mu
      · refine wp_region_mix (fun W => Ext W1 W) 15 [(0, true), (1, true), (2, true), (3, true), (4, true), (5, true), (6, true), (7, true), (8, true), (9, true), (10, true), (11, true), (12, true), (13, true), (14, true), (15, false)] (by kernel_rfl) (by kernel_rfl) ((Ext.refl W1).drew) ?_
        (repeat (first | (apply mix_read; (case ho => rfl); (case hw => rfl); (case h1 => intro W' hx; (try dsimp only at hx); go_simp; (try go_bits); with_reducible rfl); (case hp => go_simp; first | done | with_reducible rfl)) | (apply mix_skip; (case ho => rfl); (case hw => rfl); (case hp => go_simp; first | done | with_reducible rfl))))
        refine mix_end 15 (by kernel_rfl) (by kernel_rfl) ?_; simp only [List.take_succ_cons, List.take_zero, List.drop_succ_cons, List.drop_zero]; unfold Q0
        refine wpList_put keyJob rfl (.tmp 16) (.tmp 18) (.tmp 30) 115 34 rfl Try.underlying115 b es rfl hmp.drew (u, t) (encI ⟨u, t, m⟩) rfl rfl ?_
        rintro W2 h1 h2
        have hx2 : Ext w W2 := Below.grown hxx.drew h2 hxx.drew.size (fun k e => by cases e; omega)
        go_wp2_with fail
        go_roundw
        case rel => exact ⟨k + 1, _, by omega, by go_num, h1, HP.out, hx2⟩
        case measure => simp [RowKit.intOf]; omega
      · refine wp_region_mix (fun W => Ext W1 W) 15 [(0, true), (1, true), (2, true), (3, true), (4, true), (5, true), (6, true), (7, true), (8, true), (9, true), (10, true), (11, true), (12, true), (13, true), (14, true), (15, false)] (by kernel_rfl) (by kernel_rfl) ((Ext.refl W1).drew) ?_
        (repeat (first | (apply mix_read; (case ho => rfl); (case hw => rfl); (case h1 => intro W' hx; (try dsimp only at hx); go_simp; (try go_bits); with_reducible rfl); (case hp => go_simp; first | done | with_reducible rfl)) | (apply mix_skip; (case ho => rfl); (case hw => rfl); (case hp => go_simp; first | done | with_reducible rfl))))
        refine mix_end 15 (by kernel_rfl) (by kernel_rfl) ?_; simp only [List.take_succ_cons, List.take_zero, List.drop_succ_cons, List.drop_zero]; unfold Q0
        refine wpList_put keyJob rfl (.tmp 16) (.tmp 18) (.tmp 30) 115 34 rfl Try.underlying115 b es rfl hmp.drew (u, t) (encI ⟨u, t, true⟩) rfl rfl ?_
        rintro W2 h1 h2
        have hx2 : Ext w W2 := Below.grown hxx.drew h2 hxx.drew.size (fun k e => by cases e; omega)
        go_wp2_with fail
        go_roundw
        case rel => exact ⟨k + 1, _, by omega, by go_num, h1, HP.out, hx2⟩
        case measure => simp [RowKit.intOf]; omega
    · obtain rfl : k = l.length := by omega
      rw [List.take_of_length_le (Nat.le_refl _)] at hj
      have hbw : b < wr.heap.size := hmp.lt
      have hbx : wr.heap.size < (wr.alloc (.cells #[.map (some b)] 115)).heap.size := by rw [World.size_alloc]; omega
      have hS := Lib.hid (sortedFunc_calls wr.heap.size b es (wr.alloc (.cells #[.map (some b)] 115)) hbx ((Blk.new wr [.map (some b)] 115).cell 0 rfl) (hmp.ext ((Ext.refl wr).alloc _)) (Nat.le_trans hj.len hlen))
      go_wp2_with (first | (go_at_call 73; refine (keysf b _).mono ?_; rintro e w' ⟨rfl, rfl⟩) | (go_at_call 72; refine hS.out.mono ?_; rintro e W2 ⟨v, ss, rfl, hss, hrow, hbl⟩; obtain ⟨A, cap2, rfl, hcap2, hrd, hlow⟩ := OwnsJ.rd hrow; have HSS := Lib.hid hss; clear hss))
      have hss := HSS.out
      have hx2 : Ext w W2 := Ext.trans (hx.alloc _) hbl
      have hmp2 : RMap encJ W2 b es := hmp.ext (Ext.trans ((Ext.refl wr).alloc _) hbl)
      have hfin := sortedL_of hj.nodup hj.mem
      rw [← hss] at hfin
      have hsl : ss.length ≤ 1000000 := by rw [hss, sortJ_length, List.length_map]; exact Nat.le_trans hj.len hlen
      have hmem : ∀ q ∈ ss, (valOf q es).getD (.agg #[.int .i64 0, .int .u8 0, .bool false]) = encI ⟨q.1, q.2, mustOf l q⟩ := fun q hq => by
        have h1 : q ∈ l.map jobOf := by
          rw [hss] at hq
          exact (hj.mem q).1 ((sortJ_perm _).mem_iff.1 hq)
        have := hj.valOf q
        rw [if_pos h1, if_pos h1] at this
        exact this
      clear HSS hS hss hrow hbl hx hmp hj hbx hbw hlow
      go_loopw [36, 6] (fun i v W => ∃ k : Nat, k ≤ ss.length ∧ i = .int .i64 k ∧ W.ownsRow W2.heap.size 34 3 v ((ss.take k).map fun q => (⟨q.1, q.2, mustOf l q⟩ : It)).length (itCells ((ss.take k).map fun q => (⟨q.1, q.2, mustOf l q⟩ : It))) ∧ Ext W2 W) (fun i _ _ => ss.length - (RowKit.intOf i).toNat)
      case atStart => exact ⟨0, by omega, rfl, ⟨rfl, .inl ⟨rfl, rfl⟩⟩, Ext.refl _⟩
      case round =>
        obtain ⟨k, hk, rfl, hown, hx⟩ := hrel
        by_cases hlt : k < ss.length
        · have hlti : (k : Int) < ss.length := by omega
          obtain ⟨b1, o1, u, t, rfl, he, f1, f2⟩ := (hrd.ext hx).at hlt
          have htk : ss.take (k + 1) = ss.take k ++ [(u, t)] := by rw [List.take_succ_eq_append_getElem hlt]; congr 2; rw [List.getElem?_eq_getElem hlt] at he; exact Option.some.inj he
          have hv := hmem (u, t) (List.mem_of_getElem? he)
          have hlk := fun W' (h : Ext W2 W') => (hmp2.ext h).look keyJob Try.underlying115 (zeroItem W') (u, t)
          rw [hv] at hlk
          go_upto_region 11 with (fail)
          refine wp_gen (fun W => Blk W wr.heap.size [.int .i64 u, .int .u8 t] 32 ∧ Ext W2 W ∧ W.ownsRow W2.heap.size 34 3 u6 ((ss.take k).map fun q => (⟨q.1, q.2, mustOf l q⟩ : It)).length (itCells ((ss.take k).map fun q => (⟨q.1, q.2, mustOf l q⟩ : It)))) ⟨Blk.newAt _ _ _ _ rfl, hx.alloc _, Owns.ext hown ((Ext.refl wr).alloc _)⟩ ?_
          obtain ⟨q, hq⟩ : ∃ q, wr.heap.size = q := ⟨_, rfl⟩
          rw [hq]
          clear hown hx f1 f2 hv
          rintro W1 ⟨hbk, hx, hown⟩
          have el : (Instr.lookup 115 (.map (some b)) (.agg #[.int .i64 u, .int .u8 t]) false).run Try.prog W1 = .ok (.agg #[.int .i64 u, .int .u8 t, .bool (mustOf l (u, t))]) W1 := hlk W1 hx
          have e0 := hbk.cell 0 rfl
          have e1 := hbk.cell 1 rfl
          have hw1 : W2.heap.size ≤ W1.heap.size := hx.size
          have hzz : ((ss.take (k + 1)).map fun q => (⟨q.1, q.2, mustOf l q⟩ : It)) = ((ss.take k).map fun q => (⟨q.1, q.2, mustOf l q⟩ : It)) ++ [⟨u, t, mustOf l (u, t)⟩] := by rw [htk, List.map_append]; rfl
          have HTK := Lib.hid hzz
          clear hlk htk hzz
          generalize mustOf l (u, t) = mu at el HTK
          have hown1 := Owns.ext hown ((Ext.refl W1).alloc (.cells #[.int .i64 u, .int .u8 t, .bool mu] 34))
          go_wp2_with (refine wpList_append_item rfl (.tmp 40) (.tmp 44) rfl W2.heap.size _ _ rfl hown1 W1.heap.size 1 ⟨u, t, mu⟩ rfl (Blk.newAt W1 [.int .i64 u, .int .u8 t, .bool mu] _ _ rfl) (by rw [List.length_map, List.length_take]; omega) (Nat.le_trans hw1 (by rw [World.size_alloc]; omega)) ?_; intro v' W5 o5 g5 s5)
          go_roundw
          case rel => exact ⟨k + 1, by omega, by go_num, by rw [HTK.out]; exact o5, Grown.toExt (hx.alloc _) g5 (fun k hk => (hown1.lt k hk).1)⟩
          case measure => simp [RowKit.intOf]; omega
        · obtain rfl : k = ss.length := by omega
          rw [List.take_of_length_le (Nat.le_refl _), hfin] at hown
          go_wp2_with fail
          go_ret
          exact ⟨_, rfl, Owns.low hown hx2.size, hx2.trans hx⟩
end Go.Proofs.Ytclgclcoblfddaa
