/- The contracts of the hash of package sip: eats, New, Add, Sum. -/
import Derived.Test.YthgepclmlhbbaaaSipRounds
namespace Go.Proofs.Ythgepclmlhbbaaa
open Go.RowKit
set_option linter.unusedVariables false
set_option linter.unusedSimpArgs false

def eatsV (v : V4) (m : Int) : V4 :=
  let u := rndN 2 ⟨v.a, v.b, v.c, xor64 v.d m⟩
  ⟨xor64 u.a m, u.b, u.c, u.d⟩
def nums8 (l : List Int) : List Value := l.map (Value.int .u8)

set_option maxRecDepth 100000 in
set_option maxHeartbeats 1000000 in
theorem eats_calls (m : Int) (v : V4) (g : Nat) (rest : List Value) (T : TypeId) (w : World) (h : Blk w g (v.vals ++ rest) T) :
    Calls Try.prog 32 #[.pointer (some ⟨g, 0, none⟩), .int .u64 m] w fun e w' => e = .returned (.tuple #[]) ∧ Blk w' g ((eatsV v m).vals ++ rest) T ∧ But g w w' := by
  obtain ⟨a, b, c, d⟩ := v
  have hb : Blk w g (.int .u64 a :: .int .u64 b :: .int .u64 c :: .int .u64 d :: rest) T := h
  have c0 := hb.cell 0 rfl; have c1 := hb.cell 1 rfl; have c2 := hb.cell 2 rfl; have c3 := hb.cell 3 rfl; have f0 := hb.frozen 0; have f1 := hb.frozen 1; have f2 := hb.frozen 2; have f3 := hb.frozen 3
  go_enter Try.func32, Try.ntmps32
  go_wp2_with fail
  have h1 : Blk (w.setCell ⟨g, 3, none⟩ (.int .u64 (bits .xor .u64 d m))) g ((⟨a, b, c, xor64 d m⟩ : V4).vals ++ rest) T := (hb.set 3 _).congr rfl
  have o1 : But g w (w.setCell ⟨g, 3, none⟩ (.int .u64 (bits .xor .u64 d m))) := (But.refl _ _).set 3 _
  clear hb h c0 c1 c2 c3 f0 f1 f2 f3
  refine (rounds_calls 2 (by omega) _ g rest T _ h1).mono ?_
  rintro e w' ⟨rfl, hb, ho⟩
  replace ho := o1.trans ho
  clear h1 o1
  obtain ⟨a, b, c, d, he⟩ : ∃ a' b' c' d', rndN 2 ⟨a, b, c, xor64 d m⟩ = ⟨a', b', c', d'⟩ := ⟨_, _, _, _, rfl⟩
  rw [he] at hb
  have He : Hid _ := he
  clear he
  replace hb : Blk w' g (.int .u64 a :: .int .u64 b :: .int .u64 c :: .int .u64 d :: rest) T := hb
  have c0 := hb.cell 0 rfl; have c1 := hb.cell 1 rfl; have c2 := hb.cell 2 rfl; have c3 := hb.cell 3 rfl; have f0 := hb.frozen 0; have f1 := hb.frozen 1; have f2 := hb.frozen 2; have f3 := hb.frozen 3
  go_wp2
  go_end0
  refine ⟨rfl, (hb.set 0 _).congr ?_, ho.set 0 _⟩
  have hh := He.out
  unfold eatsV
  rw [hh]
  rfl

theorem vals16 (ks : List Int) (h : ks.length = 16) : ∃ k0 k1 k2 k3 k4 k5 k6 k7 k8 k9 k10 k11 k12 k13 k14 k15, ks = [k0, k1, k2, k3, k4, k5, k6, k7, k8, k9, k10, k11, k12, k13, k14, k15] := by
  match ks, h with
  | [k0, k1, k2, k3, k4, k5, k6, k7, k8, k9, k10, k11, k12, k13, k14, k15], _ => exact ⟨_, _, _, _, _, _, _, _, _, _, _, _, _, _, _, _, rfl⟩

def num8 : List Int → Int
  | [b0, b1, b2, b3, b4, b5, b6, b7] => orNum b0 b1 b2 b3 b4 b5 b6 b7
  | _ => 0
def initV (ks : List Int) : V4 :=
  let low := num8 (ks.take 8)
  let high := num8 (ks.drop 8)
  ⟨xor64 low 8317987319222330741, xor64 high 7237128888997146477, xor64 low 7816392313619706465, xor64 high 8387220255154660723⟩

set_option maxRecDepth 100000 in
set_option maxHeartbeats 1000000 in
theorem new_calls (ks : List Int) (hk : ks.length = 16) (w : World) :
    Calls Try.prog 23 #[.agg (nums8 ks).toArray] w fun e w' => ∃ g, e = .returned (.pointer (some ⟨g, 0, none⟩)) ∧ Ext w w' ∧ w.heap.size ≤ g ∧ Blk w' g ((initV ks).vals ++ nums8 [0, 0, 0, 0, 0, 0, 0, 0] ++ [.int .i64 0]) 65 := by
  obtain ⟨k0, k1, k2, k3, k4, k5, k6, k7, k8, k9, k10, k11, k12, k13, k14, k15, rfl⟩ := vals16 ks hk
  simp only [nums8, List.map_cons, List.map_nil]
  have ha1 : ∀ (b o : Nat) (W : World), Sem.run Try.prog (Instr.arrayAt 61 (.slice (some ⟨b, o, none⟩) 8 16)) W = .ok (.pointer (some ⟨b, o, none⟩)) W := fun _ _ _ => by kernel_rfl
  have ha2 : ∀ (b o : Nat) (W : World), Sem.run Try.prog (Instr.arrayAt 61 (.slice (some ⟨b, o, none⟩) 8 8)) W = .ok (.pointer (some ⟨b, o, none⟩)) W := fun _ _ _ => by kernel_rfl
  go_enter Try.func23, Try.ntmps23
  go_wp2
  have hb := Blk.new w [.int .u8 k0, .int .u8 k1, .int .u8 k2, .int .u8 k3, .int .u8 k4, .int .u8 k5, .int .u8 k6, .int .u8 k7, .int .u8 k8, .int .u8 k9, .int .u8 k10, .int .u8 k11, .int .u8 k12, .int .u8 k13, .int .u8 k14, .int .u8 k15] 45
  refine wp_gen (fun W => Blk W w.heap.size [.int .u8 k0, .int .u8 k1, .int .u8 k2, .int .u8 k3, .int .u8 k4, .int .u8 k5, .int .u8 k6, .int .u8 k7, .int .u8 k8, .int .u8 k9, .int .u8 k10, .int .u8 k11, .int .u8 k12, .int .u8 k13, .int .u8 k14, .int .u8 k15] 45 ∧ Ext w W) ⟨hb, (Ext.refl _).alloc _⟩ ?_
  clear hb
  rintro W ⟨hb, hx0⟩
  have e0 : ∀ W', Ext W W' → W'.cell? ⟨w.heap.size, 0, none⟩ = some (.int .u8 k0) := fun W' h => (hb.ext h).cell 0 rfl
  have e1 : ∀ W', Ext W W' → W'.cell? ⟨w.heap.size, 1, none⟩ = some (.int .u8 k1) := fun W' h => (hb.ext h).cell 1 rfl
  have e2 : ∀ W', Ext W W' → W'.cell? ⟨w.heap.size, 2, none⟩ = some (.int .u8 k2) := fun W' h => (hb.ext h).cell 2 rfl
  have e3 : ∀ W', Ext W W' → W'.cell? ⟨w.heap.size, 3, none⟩ = some (.int .u8 k3) := fun W' h => (hb.ext h).cell 3 rfl
  have e4 : ∀ W', Ext W W' → W'.cell? ⟨w.heap.size, 4, none⟩ = some (.int .u8 k4) := fun W' h => (hb.ext h).cell 4 rfl
  have e5 : ∀ W', Ext W W' → W'.cell? ⟨w.heap.size, 5, none⟩ = some (.int .u8 k5) := fun W' h => (hb.ext h).cell 5 rfl
  have e6 : ∀ W', Ext W W' → W'.cell? ⟨w.heap.size, 6, none⟩ = some (.int .u8 k6) := fun W' h => (hb.ext h).cell 6 rfl
  have e7 : ∀ W', Ext W W' → W'.cell? ⟨w.heap.size, 7, none⟩ = some (.int .u8 k7) := fun W' h => (hb.ext h).cell 7 rfl
  have e8 : ∀ W', Ext W W' → W'.cell? ⟨w.heap.size, 8, none⟩ = some (.int .u8 k8) := fun W' h => (hb.ext h).cell 8 rfl
  have e9 : ∀ W', Ext W W' → W'.cell? ⟨w.heap.size, 9, none⟩ = some (.int .u8 k9) := fun W' h => (hb.ext h).cell 9 rfl
  have e10 : ∀ W', Ext W W' → W'.cell? ⟨w.heap.size, 10, none⟩ = some (.int .u8 k10) := fun W' h => (hb.ext h).cell 10 rfl
  have e11 : ∀ W', Ext W W' → W'.cell? ⟨w.heap.size, 11, none⟩ = some (.int .u8 k11) := fun W' h => (hb.ext h).cell 11 rfl
  have e12 : ∀ W', Ext W W' → W'.cell? ⟨w.heap.size, 12, none⟩ = some (.int .u8 k12) := fun W' h => (hb.ext h).cell 12 rfl
  have e13 : ∀ W', Ext W W' → W'.cell? ⟨w.heap.size, 13, none⟩ = some (.int .u8 k13) := fun W' h => (hb.ext h).cell 13 rfl
  have e14 : ∀ W', Ext W W' → W'.cell? ⟨w.heap.size, 14, none⟩ = some (.int .u8 k14) := fun W' h => (hb.ext h).cell 14 rfl
  have e15 : ∀ W', Ext W W' → W'.cell? ⟨w.heap.size, 15, none⟩ = some (.int .u8 k15) := fun W' h => (hb.ext h).cell 15 rfl
  refine wp_region_ext (by kernel_rfl) (by kernel_rfl) ?_
  iterate 3 (apply quiet_onep; (case hw => rfl); (case h1 => intro W' hx; go_simp; (try go_bits); with_reducible rfl); (case hp => go_simp; first | done | with_reducible rfl))
  (apply quiet_onep; (case hw => rfl); (case h1 => intro W' hx; go_simp; go_at_call 31; refine (number_calls _ _ _ _ _ _ _ _ _).mono ?_; rintro e w'' ⟨rfl, hx2⟩; exact ⟨rfl, hx.trans hx2⟩); (case hp => go_simp; first | done | with_reducible rfl))
  iterate 3 (apply quiet_onep; (case hw => rfl); (case h1 => intro W' hx; go_simp; (try go_bits); with_reducible rfl); (case hp => go_simp; first | done | with_reducible rfl))
  (apply quiet_onep; (case hw => rfl); (case h1 => intro W' hx; go_simp; go_at_call 31; refine (number_calls _ _ _ _ _ _ _ _ _).mono ?_; rintro e w'' ⟨rfl, hx2⟩; exact ⟨rfl, hx.trans hx2⟩); (case hp => go_simp; first | done | with_reducible rfl))
  iterate 2 (apply quiet_onep; (case hw => rfl); (case h1 => intro W' hx; go_simp; (try go_bits); with_reducible rfl); (case hp => go_simp; first | done | with_reducible rfl))
  refine wpQuiet_nil ?_
  intro W' hx
  clear e0 e1 e2 e3 e4 e5 e6 e7 e8 e9 e10 e11 e12 e13 e14 e15
  go_wp2
  go_ret
  refine ⟨W'.heap.size, rfl, (hx0.trans hx).alloc _, (hx0.trans hx).size, ?_⟩
  exact (Blk.new W' [.int .u64 (initV [k0, k1, k2, k3, k4, k5, k6, k7, k8, k9, k10, k11, k12, k13, k14, k15]).a, .int .u64 (initV [k0, k1, k2, k3, k4, k5, k6, k7, k8, k9, k10, k11, k12, k13, k14, k15]).b, .int .u64 (initV [k0, k1, k2, k3, k4, k5, k6, k7, k8, k9, k10, k11, k12, k13, k14, k15]).c, .int .u64 (initV [k0, k1, k2, k3, k4, k5, k6, k7, k8, k9, k10, k11, k12, k13, k14, k15]).d, .int .u8 0, .int .u8 0, .int .u8 0, .int .u8 0, .int .u8 0, .int .u8 0, .int .u8 0, .int .u8 0, .int .i64 0] _).congr rfl

/-- One byte more: the state, and the bytes that wait. -/
def feed1 (s : V4 × List Int) (c : Int) : V4 × List Int := if s.2.length = 7 then (eatsV s.1 (num8 (s.2 ++ [c])), []) else (s.1, s.2 ++ [c])
def feed (s : V4 × List Int) (m : List Int) : V4 × List Int := m.foldl feed1 s

/-- A hash in memory: what was added is m. -/
def HashAt (W : World) (g : Nat) (T : TypeId) (ks m : List Int) : Prop :=
  ∃ (v : V4) (left : List Int), left.length = 8 ∧ feed (initV ks, []) m = (v, left.take (m.length % 8)) ∧ Blk W g (v.vals ++ (nums8 left ++ [.int .i64 m.length])) T

/-- A slice of values that is read. -/
def RdV (W : World) (A : Option Addr) (vs : List Value) : Prop := vs = [] ∨ ∃ b o, A = some ⟨b, o, none⟩ ∧ ∀ j v, vs[j]? = some v → W.cell? ⟨b, o + j, none⟩ = some v
theorem RdV.ext {W W' : World} {A : Option Addr} {vs : List Value} (h : RdV W A vs) (hx : Ext W W') : RdV W' A vs := by
  rcases h with h | ⟨b, o, rfl, h⟩
  · exact .inl h
  · exact .inr ⟨b, o, rfl, fun j v e => hx.cell (h j v e)⟩
theorem RdV.but {W W' : World} {A : Option Addr} {vs : List Value} {g : Nat} (h : RdV W A vs) (hx : But g W W') (hne : ∀ a, A = some a → a.block ≠ g) : RdV W' A vs := by
  rcases h with h | ⟨b, o, rfl, h⟩
  · exact .inl h
  · refine .inr ⟨b, o, rfl, fun j v e => ?_⟩
    have hc := h j v e
    have hb := World.block_lt_of_cell? W _ hc
    rw [← hc]
    exact World.cell?_of_block (w := W) (hx.block b hb (hne _ rfl))
theorem RdV.at_ {W : World} {A : Option Addr} {vs : List Value} (h : RdV W A vs) (j : Nat) (v : Value) (e : vs[j]? = some v) : ∃ b o, A = some ⟨b, o, none⟩ ∧ W.cell? ⟨b, o + j, none⟩ = some v := by
  rcases h with rfl | ⟨b, o, rfl, h⟩
  · simp at e
  · exact ⟨b, o, rfl, h j v e⟩

theorem hash_step_lt {v : V4} {left : List Int} {n : Nat} {s : V4 × List Int} (hl : left.length = 8) (hs : s = (v, left.take (n % 8))) (c : Int) (h7 : n % 8 ≠ 7) :
    feed1 s c = (v, (left.set (n % 8) c).take ((n + 1) % 8)) := by
  subst hs
  have h8 : n % 8 < 7 := by omega
  have e1 : (n + 1) % 8 = n % 8 + 1 := by omega
  rw [e1]
  generalize n % 8 = r at *
  unfold feed1
  rw [if_neg (by simp [hl]; omega)]
  congr 1
  rw [List.take_add_one]
  simp [List.take_set, hl, show r < 8 by omega]
  exact (List.set_eq_of_length_le (by simp; omega)).symm
theorem hash_step_eq {v : V4} {l0 l1 l2 l3 l4 l5 l6 l7 : Int} {n : Nat} {s : V4 × List Int} (hs : s = (v, [l0, l1, l2, l3, l4, l5, l6, l7].take (n % 8))) (c : Int) (h7 : n % 8 = 7) :
    feed1 s c = (eatsV v (orNum l0 l1 l2 l3 l4 l5 l6 c), []) := by
  subst hs
  rw [h7]
  rfl
theorem feed_snoc (s : V4 × List Int) (m : List Int) (c : Int) : feed s (m ++ [c]) = feed1 (feed s m) c := by simp [feed]


theorem cells_at (v : V4) (left : List Int) (hl : left.length = 8) (x : Value) (i : Nat) (c : Int) (h : left[i]? = some c) : (v.vals ++ (nums8 left ++ [x]))[4 + i]? = some (.int .u8 c) := by
  have hi : i < 8 := by have := (List.getElem?_eq_some_iff.1 h).1; omega
  rw [List.getElem?_append_right (by simp [V4.vals])]
  simp only [V4.vals, List.length_cons, List.length_nil]
  rw [show 4 + i - (0 + 1 + 1 + 1 + 1) = i by omega, List.getElem?_append_left (by simp [nums8, hl]; omega)]
  simp [nums8, h]
theorem cells_many (v : V4) (left : List Int) (hl : left.length = 8) (x : Value) : (v.vals ++ (nums8 left ++ [x]))[12]? = some x := by
  rw [List.getElem?_append_right (by simp [V4.vals])]
  simp only [V4.vals, List.length_cons, List.length_nil]
  rw [List.getElem?_append_right (by simp [nums8, hl])]
  simp [nums8, hl]
theorem cells_set (v : V4) (left : List Int) (hl : left.length = 8) (x : Value) (i : Nat) (hi : i < 8) (c : Int) : (v.vals ++ (nums8 left ++ [x])).set (4 + i) (.int .u8 c) = v.vals ++ (nums8 (left.set i c) ++ [x]) := by
  rw [List.set_append_right (4 + i) _ (by simp [V4.vals])]
  simp only [V4.vals, List.length_cons, List.length_nil]
  rw [show 4 + i - (0 + 1 + 1 + 1 + 1) = i by omega, List.set_append_left i _ (by simp [nums8, hl]; omega)]
  simp [nums8]
theorem cells_set_many (v : V4) (left : List Int) (hl : left.length = 8) (x y : Value) : (v.vals ++ (nums8 left ++ [x])).set 12 y = v.vals ++ (nums8 left ++ [y]) := by
  rw [List.set_append_right 12 _ (by simp [V4.vals])]
  simp only [V4.vals, List.length_cons, List.length_nil]
  rw [List.set_append_right _ _ (by simp [nums8, hl])]
  simp [nums8, hl]

theorem list8 (ks : List Int) (h : ks.length = 8) : ∃ k0 k1 k2 k3 k4 k5 k6 k7, ks = [k0, k1, k2, k3, k4, k5, k6, k7] := by
  match ks, h with
  | [k0, k1, k2, k3, k4, k5, k6, k7], _ => exact ⟨_, _, _, _, _, _, _, _, rfl⟩

set_option maxRecDepth 100000 in
set_option maxHeartbeats 2000000 in
theorem add_calls (ks m : List Int) (msg : List Int) (A : Option Addr) (cap : Nat) (g : Nat) (T : TypeId) (w : World) (h : HashAt w g T ks m) (hr : RdV w A (nums8 msg)) (hne : msg ≠ [] → ∀ a, A = some a → a.block ≠ g) (hlen : m.length + msg.length ≤ 4611686018427387904) :
    Calls Try.prog 24 #[.pointer (some ⟨g, 0, none⟩), .slice A msg.length cap] w fun e w' => e = .returned (.tuple #[]) ∧ HashAt w' g T ks (m ++ msg) ∧ But g w w' := by
  go_enter Try.func24, Try.ntmps24
  go_wp2
  go_loopw [10] (fun i W => ∃ k : Nat, k ≤ msg.length ∧ i = .int .i64 k ∧ HashAt W g T ks (m ++ msg.take k) ∧ But g w W) (fun i _ => msg.length - (intOf i).toNat)
  case atStart => exact ⟨0, by omega, rfl, by simpa using h, But.refl _ _⟩
  case round =>
    obtain ⟨k, hk, rfl, ⟨v, left, hl, hf, hb⟩, ho⟩ := hrel
    have Hr : RdV wr A (nums8 msg) := by
      by_cases hm0 : msg = []
      · exact .inl (by rw [hm0]; rfl)
      · exact hr.but ho (hne hm0)
    clear h hr
    by_cases hlt : k < msg.length
    · obtain ⟨c, hc⟩ : ∃ c, msg[k]? = some c := ⟨msg[k], by simp [hlt]⟩
      have Htake : Hid (msg.take (k + 1) = msg.take k ++ [c]) := by
        show _ = _
        rw [List.take_add_one, hc]; rfl
      obtain ⟨b, o, hA, hcell⟩ := Hr.at_ k (.int .u8 c) (by simp [nums8, hc])
      obtain ⟨n, hn⟩ : ∃ n, (m ++ msg.take k).length = n := ⟨_, rfl⟩
      have hn' : n = m.length + k := by rw [← hn]; simp; omega
      rw [hn] at hf hb
      have hnb : n < 4611686018427387904 := by omega
      have Hn : Hid (n = m.length + k) := hn'
      have Hnn : Hid ((m ++ msg.take k).length = n) := hn
      have Hf : Hid (feed (initV ks, []) (m ++ List.take k msg) = (v, List.take (n % 8) left)) := hf
      have Hc : Hid _ := hc
      have f12 := hb.frozen 12
      subst hA
      clear hn hn' hf hc
      by_cases h7 : n % 8 = 7
      · obtain ⟨l0, l1, l2, l3, l4, l5, l6, l7, rfl⟩ := list8 left hl
        have hi7 : (n : Int) % 8 = 7 := by omega
        have hi8 : (((n : Int) + 1) % 8 == 0) = true := by rw [beq_iff_eq]; omega
        have H7 : Hid (n % 8 = 7) := h7
        have d11 : wr.cell? ⟨g, 11, none⟩ = some (.int .u8 l7) := hb.cell 11 rfl
        have d12 : wr.cell? ⟨g, 12, none⟩ = some (.int .i64 n) := hb.cell 12 rfl
        have f11 := hb.frozen 11
        go_wp2
        refine wp_region_drew_tail 9 (by kernel_rfl) (by kernel_rfl) ?_; simp only [List.take_succ_cons, List.take_zero, List.drop_succ_cons, List.drop_zero]; (repeat (quiet_step ((fail)))); refine wpQuiet_nil ?_; rintro _ ⟨nq, rfl⟩
        go_wp2_with fail
        refine wp_gen (fun W => Blk W g (v.vals ++ (nums8 [l0, l1, l2, l3, l4, l5, l6, c] ++ [.int .i64 (n + 1)])) T ∧ But g w W) ⟨(hb |>.drewN _ |>.set 11 _ |>.set 12 _).congr rfl, (ho |>.drewN _ |>.set 11 _ |>.set 12 _)⟩ ?_
        clear hb ho d11 d12 f11 f12 hcell Hr
        rintro W ⟨hb, ho⟩
        have e4 : ∀ W', Ext W W' → W'.cell? ⟨g, 4, none⟩ = some (.int .u8 l0) := fun W' h => (hb.ext h).cell 4 rfl
        have e5 : ∀ W', Ext W W' → W'.cell? ⟨g, 5, none⟩ = some (.int .u8 l1) := fun W' h => (hb.ext h).cell 5 rfl
        have e6 : ∀ W', Ext W W' → W'.cell? ⟨g, 6, none⟩ = some (.int .u8 l2) := fun W' h => (hb.ext h).cell 6 rfl
        have e7 : ∀ W', Ext W W' → W'.cell? ⟨g, 7, none⟩ = some (.int .u8 l3) := fun W' h => (hb.ext h).cell 7 rfl
        have e8 : ∀ W', Ext W W' → W'.cell? ⟨g, 8, none⟩ = some (.int .u8 l4) := fun W' h => (hb.ext h).cell 8 rfl
        have e9 : ∀ W', Ext W W' → W'.cell? ⟨g, 9, none⟩ = some (.int .u8 l5) := fun W' h => (hb.ext h).cell 9 rfl
        have e10 : ∀ W', Ext W W' → W'.cell? ⟨g, 10, none⟩ = some (.int .u8 l6) := fun W' h => (hb.ext h).cell 10 rfl
        have e11 : ∀ W', Ext W W' → W'.cell? ⟨g, 11, none⟩ = some (.int .u8 c) := fun W' h => (hb.ext h).cell 11 rfl
        refine wp_region_ext_tail 8 (by kernel_rfl) (by kernel_rfl) ?_; simp only [List.take_succ_cons, List.take_zero, List.drop_succ_cons, List.drop_zero]
        iterate 7 (apply quiet_onep; (case hw => rfl); (case h1 => intro W' hx; go_simp; (try go_bits); with_reducible rfl); (case hp => go_simp; first | done | with_reducible rfl))
        (apply quiet_onep; (case hw => rfl); (case h1 => intro W' hx; go_simp; go_at_call 31; refine (number_calls _ _ _ _ _ _ _ _ _).mono ?_; rintro e w'' ⟨rfl, hx2⟩; exact ⟨rfl, hx.trans hx2⟩); (case hp => go_simp; first | done | with_reducible rfl))
        refine wpQuiet_nil ?_
        intro W' hx
        clear e4 e5 e6 e7 e8 e9 e10 e11
        go_wp2_with (go_at_call 32; refine (eats_calls _ v g _ T _ (hb.ext hx)).mono ?_; rintro e w3 ⟨rfl, hb3, ho3⟩)
        go_roundw
        case rel =>
          refine ⟨k + 1, by omega, by go_num, ⟨eatsV v (orNum l0 l1 l2 l3 l4 l5 l6 c), [l0, l1, l2, l3, l4, l5, l6, c], rfl, ?_, ?_⟩, (ho.ext hx).trans ho3⟩
          · rw [show m ++ List.take (k + 1) msg = (m ++ List.take k msg) ++ [c] by rw [Htake.out, List.append_assoc], feed_snoc, hash_step_eq Hf.out c H7.out]
            rw [show ((m ++ List.take k msg) ++ [c]).length = n + 1 by rw [List.length_append, Hnn.out]; rfl]
            rw [show (n + 1) % 8 = 0 by have := H7.out; omega]
            rfl
          · refine hb3.congr ?_
            rw [show m ++ List.take (k + 1) msg = (m ++ List.take k msg) ++ [c] by rw [Htake.out, List.append_assoc]]
            rw [show ((m ++ List.take k msg) ++ [c]).length = n + 1 by rw [List.length_append, Hnn.out]; rfl]
            rfl
        case measure => simp [intOf]; omega
      · have hi8 : (((n : Int) + 1) % 8 == 0) = false := by rw [beq_eq_false_iff_ne]; omega
        have d12 : wr.cell? ⟨g, 12, none⟩ = some (.int .i64 n) := hb.cell 12 (cells_many _ _ hl _)
        obtain ⟨u, hu⟩ : ∃ u, left[n % 8]? = some u := ⟨left[n % 8]'(by omega), by simp⟩
        have dr : wr.cell? ⟨g, 4 + n % 8, none⟩ = some (.int .u8 u) := hb.cell _ (cells_at _ _ hl _ _ _ hu)
        have fr : wr.frozen? ⟨g, 4 + n % 8, none⟩ = false := hb.frozen _
        have h8 : n % 8 < 8 := Nat.mod_lt _ (by omega)
        have H7 : Hid (n % 8 ≠ 7) := h7
        have Hl : Hid (left.length = 8) := hl
        clear hu h7 hl
        go_wp2
        refine wp_region_drew_tail 9 (by kernel_rfl) (by kernel_rfl) ?_; simp only [List.take_succ_cons, List.take_zero, List.drop_succ_cons, List.drop_zero]; (repeat (quiet_step ((fail)))); refine wpQuiet_nil ?_; rintro _ ⟨nq, rfl⟩
        go_wp2_with fail
        go_roundw
        case rel =>
          refine ⟨k + 1, by omega, by go_num, ⟨v, left.set (n % 8) c, by simp [Hl.out], ?_, ?_⟩, (ho |>.drewN _ |>.set _ _ |>.set 12 _)⟩
          · rw [show m ++ List.take (k + 1) msg = (m ++ List.take k msg) ++ [c] by rw [Htake.out, List.append_assoc], feed_snoc, hash_step_lt Hl.out Hf.out c H7.out]
            rw [show ((m ++ List.take k msg) ++ [c]).length = n + 1 by rw [List.length_append, Hnn.out]; rfl]
          · refine (hb |>.drewN _ |>.set _ _ |>.set 12 _).congr ?_
            rw [show m ++ List.take (k + 1) msg = (m ++ List.take k msg) ++ [c] by rw [Htake.out, List.append_assoc]]
            rw [show ((m ++ List.take k msg) ++ [c]).length = n + 1 by rw [List.length_append, Hnn.out]; rfl]
            rw [cells_set v left Hl.out _ _ h8, cells_set_many v _ (by simp [Hl.out])]
            rfl
        case measure => simp [intOf]; omega
    · go_wp2
      obtain rfl : k = msg.length := by omega
      go_end0
      exact ⟨rfl, ⟨v, left, hl, by simpa using hf, by simpa using hb⟩, ho⟩
end Go.Proofs.Ythgepclmlhbbaaa
