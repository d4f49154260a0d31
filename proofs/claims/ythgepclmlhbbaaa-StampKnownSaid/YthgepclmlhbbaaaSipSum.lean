/- The contract of the hash's Sum, and of sip.Sum. -/
import Derived.Test.YthgepclmlhbbaaaSipHash
import Derived.Laws.CopyOwn
namespace Go.Proofs.Ythgepclmlhbbaaa
open Go.RowKit
set_option linter.unusedVariables false
set_option linter.unusedSimpArgs false

theorem But.setRow {g : Nat} {a b : World} (h : But g a b) (cs : Array Value) : But g a (b.setRow g cs) :=
  ⟨h.os, h.tape, h.output, by simp [World.setRow]; exact h.size, fun k hk hg => (setRow_other b g k cs hg).trans (h.block k hk hg)⟩

/-- copy over the head of a block known whole. -/
theorem wpList_copy_head {P : Program} {w : World} {ops : Array Oper} {rest : List Oper} {o : Oper} {a : Act} {Q : Exit → Act → World → Prop} (hgd : o.guard = none) (d s : Operand) (dT sT : TypeId)
    (ho : o.op = .call { callee := .builtin .copy, args := #[d, s], argTypes := #[dT, sT] }) (elem : TypeId) (hu : P.underlying dT = some (.slice elem)) (hsz : (P.info? elem).map (·.size) = some 1)
    (g dLen dCap : Nat) (ad : Addr) (sLen sCap : Nat) (hd : a.eval d = .slice (some ⟨g, 0, none⟩) dLen dCap) (hs : a.eval s = .slice (some ad) sLen sCap)
    (cur : List Value) (t : TypeId) (hg : Blk w g cur t) (cs : List Value) (hn : cs.length = Nat.min sLen dLen)
    (hsrc : ∀ j v, cs[j]? = some v → w.cell? (ad.add j) = some v) (hfit : cs.length ≤ cur.length) (h1 : ∀ v ∈ cs, v.oneCell' = true)
    (h : ∀ w', Blk w' g (cs ++ cur.drop cs.length) t → But g w w' → wpList P ops Q rest (a.put o.dst (goInt cs.length)) w') : wpList P ops Q (o :: rest) a w := by
  by_cases h0 : cs.length = 0
  · obtain rfl : cs = [] := List.eq_nil_of_length_eq_zero h0
    refine wpList_copy_nothing hgd d s dT sT ho elem hu hsz _ _ dLen dCap sLen sCap hd hs (by simpa using hn.symm) ?_
    exact h w (by simpa using hg) (But.refl _ _)
  · refine wpList_copy_own hgd d s dT sT ho elem hu hsz g 0 dLen dCap ad sLen sCap hd hs cur.toArray t hg cs hn hsrc (by simpa using hfit) h1 ?_
    refine h _ ?_ ((But.refl _ _).setRow _)
    have := setRow_heap w g _ ((cur.toArray).toList.take 0 ++ (cs ++ (cur.toArray).toList.drop (0 + cs.length))).toArray t _ hg
    exact this.trans (by simp)

def finish (s : V4 × List Int) (n : Nat) : Int :=
  let v := eatsV s.1 (num8 (s.2 ++ List.replicate (7 - s.2.length) 0 ++ [((n : Int) % 256)]))
  let u := rndN 4 ⟨v.a, v.b, xor64 v.c 255, v.d⟩
  xor64 (xor64 (xor64 u.a u.b) u.c) u.d
def sipSum (ks m : List Int) : Int := finish (feed (initV ks, []) m) m.length

theorem But.toNew {g : Nat} {w a b : World} (h : Ext w a) (k : But g a b) (hg : w.heap.size ≤ g) : Ext w b := But.toExt h k hg

theorem last8 (left : List Int) (hl : left.length = 8) (r : Nat) (hr : r < 8) : ∃ q0 q1 q2 q3 q4 q5 q6 q7 : Int,
    (left.take r).map (Value.int .u8) ++ (List.replicate 8 (Value.int .u8 0)).drop r = [.int .u8 q0, .int .u8 q1, .int .u8 q2, .int .u8 q3, .int .u8 q4, .int .u8 q5, .int .u8 q6, .int .u8 q7] ∧
    ∀ c, left.take r ++ List.replicate (7 - (left.take r).length) 0 ++ [c] = [q0, q1, q2, q3, q4, q5, q6, c] := by
  obtain ⟨l0, l1, l2, l3, l4, l5, l6, l7, rfl⟩ := list8 left hl
  match r, hr with
  | 0, _ => exact ⟨_, _, _, _, _, _, _, _, rfl, fun c => rfl⟩
  | 1, _ => exact ⟨_, _, _, _, _, _, _, _, rfl, fun c => rfl⟩
  | 2, _ => exact ⟨_, _, _, _, _, _, _, _, rfl, fun c => rfl⟩
  | 3, _ => exact ⟨_, _, _, _, _, _, _, _, rfl, fun c => rfl⟩
  | 4, _ => exact ⟨_, _, _, _, _, _, _, _, rfl, fun c => rfl⟩
  | 5, _ => exact ⟨_, _, _, _, _, _, _, _, rfl, fun c => rfl⟩
  | 6, _ => exact ⟨_, _, _, _, _, _, _, _, rfl, fun c => rfl⟩
  | 7, _ => exact ⟨_, _, _, _, _, _, _, _, rfl, fun c => rfl⟩

set_option maxRecDepth 100000 in
set_option maxHeartbeats 2000000 in
theorem hsum_calls (ks m : List Int) (g : Nat) (T : TypeId) (w : World) (h : HashAt w g T ks m) (hlen : m.length ≤ 4611686018427387904) :
    Calls Try.prog 25 #[.pointer (some ⟨g, 0, none⟩)] w fun e w' => e = .returned (.int .u64 (sipSum ks m)) ∧ Ext w w' := by
  obtain ⟨v, left, hl, hf, hb⟩ := h
  obtain ⟨n, hn⟩ : ∃ n, m.length = n := ⟨_, rfl⟩
  have HF : Hid (sipSum ks m = finish (v, left.take (n % 8)) n) := by
    show _ = _
    unfold sipSum
    rw [hf, hn]
  rw [hn] at hb hlen
  clear hf hn
  obtain ⟨va, vb, vc, vd⟩ := v
  have c0 : w.cell? ⟨g, 0, none⟩ = some (.int .u64 va) := hb.cell 0 rfl
  have c1 : w.cell? ⟨g, 1, none⟩ = some (.int .u64 vb) := hb.cell 1 rfl
  have c2 : w.cell? ⟨g, 2, none⟩ = some (.int .u64 vc) := hb.cell 2 rfl
  have c3 : w.cell? ⟨g, 3, none⟩ = some (.int .u64 vd) := hb.cell 3 rfl
  go_enter Try.func25, Try.ntmps25
  go_wp2
  have hB1 := (Blk.new w [.int .u64 va, .int .u64 vb, .int .u64 vc, .int .u64 vd] 63).alloc (.cells #[.int .u8 0, .int .u8 0, .int .u8 0, .int .u8 0, .int .u8 0, .int .u8 0, .int .u8 0, .int .u8 0] 61)
  have hB2 := Blk.new (w.alloc (.cells #[.int .u64 va, .int .u64 vb, .int .u64 vc, .int .u64 vd] 63)) (List.replicate 8 (.int .u8 0)) 61
  rw [World.size_alloc] at hB2
  refine wp_gen (fun W => Blk W w.heap.size ((⟨va, vb, vc, vd⟩ : V4).vals ++ []) 63 ∧ Blk W (w.heap.size + 1) (List.replicate 8 (.int .u8 0)) 61 ∧ Ext w W) ⟨hB1, hB2, ((Ext.refl _).alloc _).alloc _⟩ ?_
  clear hB1 hB2 c0 c1 c2 c3
  rintro W ⟨hB1, hB2, hx⟩
  have d12 : W.cell? ⟨g, 12, none⟩ = some (.int .i64 n) := (hb.ext hx).cell 12 (cells_many ⟨va, vb, vc, vd⟩ _ hl _)
  obtain ⟨r, hr⟩ : ∃ r, n % 8 = r := ⟨_, rfl⟩
  have h8 : r < 8 := by omega
  have ht : (n : Int).tmod 8 = (r : Int) := by subst hr; rfl
  rw [hr] at HF
  clear hr
  have hr8 : (r : Int) ≤ 8 := by omega
  refine wp_region_drew_tail 10 (by kernel_rfl) (by kernel_rfl) ?_; simp only [List.take_succ_cons, List.take_zero, List.drop_succ_cons, List.drop_zero]; (repeat (quiet_step ((fail)))); refine wpQuiet_nil ?_; rintro _ ⟨nq, rfl⟩
  have hbW : Blk (W.drewN nq) g _ _ := (hb.ext hx).drewN nq
  refine wpList_copy_head rfl (.tmp 12) (.tmp 21) 23 23 rfl 5 Try.underlying23 (by kernel_rfl) (w.heap.size + 1) 8 8 ⟨g, 4, none⟩ r 8 rfl rfl (List.replicate 8 (.int .u8 0)) 61 (hB2.drewN _) ((left.take r).map (.int .u8)) ?_ ?_ ?_ ?_ ?_
  · simp [hl, Nat.min_def]
  · intro j u hj
    rw [show ((⟨g, 4, none⟩ : Addr).add j) = ⟨g, 4 + j, none⟩ by simp [Addr.add]]
    rw [List.getElem?_map] at hj
    obtain ⟨c, hc, rfl⟩ := Option.map_eq_some_iff.1 hj
    refine hbW.cell _ (cells_at ⟨va, vb, vc, vd⟩ left hl _ _ _ ?_)
    rw [List.getElem?_take] at hc
    split at hc
    · exact hc
    · cases hc
  · simp; omega
  · intro u hu; obtain ⟨c, _, rfl⟩ := List.mem_map.1 hu; rfl
  rintro W2 hB2' ho2
  have hx2 : Ext w W2 := But.toNew (hx.drewN nq) ho2 (by omega)
  have hB1' : Blk W2 w.heap.size ((⟨va, vb, vc, vd⟩ : V4).vals ++ []) 63 := ho2.blk (hB1.drewN nq) (by omega)
  rw [show ((left.take r).map (Value.int .u8)).length = r by simp; omega] at hB2'
  have d12' : W2.cell? ⟨g, 12, none⟩ = some (.int .i64 n) := (hb.ext hx2).cell 12 (cells_many ⟨va, vb, vc, vd⟩ _ hl _)
  obtain ⟨q0, q1, q2, q3, q4, q5, q6, q7, hq, hlast⟩ := last8 left hl r h8
  rw [hq] at hB2'
  have HL : Hid (∀ c, left.take r ++ List.replicate (7 - (left.take r).length) 0 ++ [c] = [q0, q1, q2, q3, q4, q5, q6, c]) := hlast
  clear hB1 hB2 ho2 hbW d12 ht hl hx hq hlast
  have k0 := hB2'.cell 0 rfl
  have k1 := hB2'.cell 1 rfl
  have k2 := hB2'.cell 2 rfl
  have k3 := hB2'.cell 3 rfl
  have k4 := hB2'.cell 4 rfl
  have k5 := hB2'.cell 5 rfl
  have k6 := hB2'.cell 6 rfl
  have k7 := hB2'.cell 7 rfl
  have f7 := hB2'.frozen 7
  go_wp2_with fail
  refine (number_calls _ _ _ _ _ _ _ _ _).mono ?_
  rintro e W3 ⟨rfl, hx3⟩
  have hx23 : But (w.heap.size + 1) W2 W3 := ((But.refl _ W2).set 7 _).ext hx3
  have hB1a : Blk W3 w.heap.size ((⟨va, vb, vc, vd⟩ : V4).vals ++ []) 63 := hx23.blk hB1' (by omega)
  have hx3w : Ext w W3 := But.toNew hx2 hx23 (by omega)
  clear hB1' hB2' hx23 hx3 k0 k1 k2 k3 k4 k5 k6 k7 f7 d12' hx2
  go_wp2_with fail
  refine (eats_calls _ _ _ _ _ _ hB1a).mono ?_
  rintro e W4 ⟨rfl, hB1b, ho4⟩
  obtain ⟨u, hu⟩ : ∃ u, eatsV ⟨va, vb, vc, vd⟩ (orNum q0 q1 q2 q3 q4 q5 q6 ((n : Int) % 256)) = u := ⟨_, rfl⟩
  rw [hu] at hB1b
  have HU : Hid _ := hu
  obtain ⟨ua, ub, uc, ud⟩ := u
  have hx4w : Ext w W4 := But.toNew hx3w ho4 (by omega)
  clear hu hB1a hx3w ho4
  have k2 : W4.cell? ⟨w.heap.size, 2, none⟩ = some (.int .u64 uc) := hB1b.cell 2 rfl
  have f2 := hB1b.frozen 2
  go_wp2_with fail
  have hB1c : Blk (W4.setCell ⟨w.heap.size, 2, none⟩ (.int .u64 (bits .xor .u64 uc 255))) w.heap.size ((⟨ua, ub, xor64 uc 255, ud⟩ : V4).vals ++ []) _ := (hB1b.set 2 _).congr rfl
  refine (rounds_calls 4 (by omega) _ _ _ _ _ hB1c).mono ?_
  rintro e W5 ⟨rfl, hB1d, ho5⟩
  have hx5w : Ext w W5 := But.toNew (hx4w.setCell (by simp) _) ho5 (by omega)
  obtain ⟨t, ht⟩ : ∃ t, rndN 4 ⟨ua, ub, xor64 uc 255, ud⟩ = t := ⟨_, rfl⟩
  rw [ht] at hB1d
  have HT : Hid _ := ht
  obtain ⟨ta, tb, tc, td⟩ := t
  clear ht hB1c hB1b ho5 k2 f2
  have k0 : W5.cell? ⟨w.heap.size, 0, none⟩ = some (.int .u64 ta) := hB1d.cell 0 rfl
  have k1 : W5.cell? ⟨w.heap.size, 1, none⟩ = some (.int .u64 tb) := hB1d.cell 1 rfl
  have k2 : W5.cell? ⟨w.heap.size, 2, none⟩ = some (.int .u64 tc) := hB1d.cell 2 rfl
  have k3 : W5.cell? ⟨w.heap.size, 3, none⟩ = some (.int .u64 td) := hB1d.cell 3 rfl
  go_wp2_with fail
  go_ret
  refine ⟨?_, hx5w⟩
  rw [HF.out]
  have h1 := HL.out ((n : Int) % 256)
  have h2 := HU.out
  have h3 := HT.out
  unfold finish
  dsimp only
  rw [h1]
  show _ = Ending.returned (.int .u64 (let v := eatsV ⟨va, vb, vc, vd⟩ (orNum q0 q1 q2 q3 q4 q5 q6 ((n : Int) % 256)); let u := rndN 4 ⟨v.a, v.b, xor64 v.c 255, v.d⟩; xor64 (xor64 (xor64 u.a u.b) u.c) u.d))
  rw [h2]
  dsimp only
  rw [h3]
  rfl
end Go.Proofs.Ythgepclmlhbbaaa
