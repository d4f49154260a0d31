/- Chapter 23: ring. -/
import Derived.Test.YthlobpdcolgcoaaFar
namespace Go.Proofs.Ythlobpdcolgcoaa
open Go.RowKit Go.Maps Go.Lib
set_option linter.unusedVariables false
set_option linter.unusedSimpArgs false

def hit (tb : List (List Int)) (home n k : Int) : Bool := decide (home < k) && decide (dst tb home k = some n)
def nextOn (tb : List (List Int)) (home at' n : Int) : Int := ((rowOf tb at').find? (hit tb home n)).getD at'
def ringFrom (tb : List (List Int)) (home : Int) : Nat → Int → List Int
  | 0, _ => []
  | n + 1, at' => nextOn tb home at' (n + 1) :: ringFrom tb home n (nextOn tb home at' (n + 1))
def ringL (tb : List (List Int)) (home : Int) : List Int :=
  match dst tb home home with
  | none => []
  | some n => home :: ringFrom tb home (n - 1).toNat home
theorem ringFrom_length (tb : List (List Int)) (home : Int) : ∀ (n : Nat) (x : Int), (ringFrom tb home n x).length = n := by
  intro n
  induction n with
  | zero => exact fun x => rfl
  | succ n ih => exact fun x => by simp [ringFrom, ih]
theorem find_at {l : List Int} {p : Int → Bool} {q : Nat} {k : Int} (hk : l[q]? = some k) (hp : p k = true) (hno : ∀ j, j < q → ∀ x, l[j]? = some x → p x = false) : l.find? p = some k := by
  rw [List.find?_eq_some_iff_getElem]
  obtain ⟨hq, rfl⟩ := List.getElem?_eq_some_iff.1 hk
  exact ⟨hp, q, hq, rfl, fun j hj => by rw [hno j hj _ (List.getElem?_eq_getElem (by omega))]; rfl⟩
theorem find_no {l : List Int} {p : Int → Bool} (hno : ∀ j, j < l.length → ∀ x, l[j]? = some x → p x = false) : l.find? p = none := by
  rw [List.find?_eq_none]
  intro x hx
  obtain ⟨i, hi⟩ := List.getElem?_of_mem hx
  rw [hno i (List.getElem?_eq_some_iff.1 hi).1 x hi]
  simp
theorem hit_eq {tb : List (List Int)} {home n k : Int} (hn : 1 ≤ n) (h : home < k) : (((dst tb home k).getD 0) == n) = hit tb home n k := by
  unfold hit
  rw [decide_eq_true h, Bool.true_and]
  cases hd : dst tb home k with
  | none =>
    simp
    omega
  | some d =>
    rw [Bool.eq_iff_iff]
    simp

/-- A row of ints that reads so, and is owned from base on. -/
def RdO (base : Nat) (W : World) (B : Option Addr) (c : Nat) (xs : List Int) : Prop := RdV W B (ints xs) ∧ W.ownsRow base 3 1 (.slice B xs.length c) xs.length (ints xs)
theorem RdO.ext {base : Nat} {W W' : World} {B : Option Addr} {c : Nat} {xs : List Int} (h : RdO base W B c xs) (hx : Ext W W') : RdO base W' B c xs := ⟨h.1.ext hx, Owns.ext h.2 hx⟩
theorem RdO.nil (base : Nat) (W : World) : RdO base W none 0 [] := ⟨.inl rfl, World.ownsRow_nil _ _ _ _⟩
theorem Owns.lower {w : World} {base base' : Nat} {e : TypeId} {size : Nat} {v : Value} {n : Nat} {xs : List Value} (h : w.ownsRow base e size v n xs) (hb : base' ≤ base) : w.ownsRow base' e size v n xs := by
  obtain ⟨h1, h2⟩ := h
  refine ⟨h1, ?_⟩
  rcases h2 with h2 | ⟨g, cap, cur, rfl, hg, r⟩
  · exact .inl h2
  · exact .inr ⟨g, cap, cur, rfl, Nat.le_trans hb hg, r⟩
theorem RdO.lower {base base' : Nat} {W : World} {B : Option Addr} {c : Nat} {xs : List Int} (h : RdO base W B c xs) (hb : base' ≤ base) : RdO base' W B c xs := ⟨h.1, Owns.lower h.2 hb⟩

set_option maxHeartbeats 2000000 in
theorem ring_calls (rs : List Row) (A : Option Addr) (cap home : Nat) (w : World) (hr : RdR w A rs) (hlen : rs.length ≤ 64) (hrow : ∀ r ∈ rs, r.xs.length ≤ 64) (hent : ∀ r ∈ rs, ∀ x ∈ r.xs, 0 ≤ x ∧ x < rs.length) (hh : home < rs.length) :
    Calls Try.prog 26 #[.slice A rs.length cap, .int .i64 home] w fun e w' => ∃ B c, e = .returned (.slice B (ringL (rows rs) home).length c) ∧ RdO w.heap.size w' B c (ringL (rows rs) home) ∧ Ext w w' := by
  have HF := Lib.hid (far_calls rs A cap home w hr hlen hrow hent hh)
  obtain ⟨tb, htb⟩ : ∃ tb, rows rs = tb := ⟨_, rfl⟩
  have htl : tb.length = rs.length := by rw [← htb, rows_length]
  rw [htb] at HF ⊢
  go_enter Try.func26, Try.ntmps26
  go_wp2_with fail
  refine HF.out.mono ?_
  rintro e W1 ⟨mb, cnt, rfl, hM, hx1⟩
  clear HF
  have hlook := hM.lookOk (k := (home : Int)) ⟨by omega, by omega⟩
  cases hd : dst tb home home with
  | none =>
    rw [hd] at hlook
    have HR := Lib.hid (show ringL tb home = [] by unfold ringL; rw [hd])
    clear hd hM
    go_wp2_with fail
    go_ret
    exact ⟨none, 0, by rw [HR.out]; rfl, by rw [HR.out]; exact RdO.nil _ _, hx1⟩
  | some n =>
    rw [hd] at hlook
    have hb := dst_bound hd
    obtain ⟨m, rfl⟩ : ∃ m : Nat, n = (m : Int) + 1 := ⟨(n - 1).toNat, by omega⟩
    have HR := Lib.hid (show ringL tb home = (home : Int) :: ringFrom tb home m home by unfold ringL; rw [hd]; simp)
    have hm : m + 1 ≤ 64 := by omega
    clear hd hb
    go_upto_region 7 with (fail)
    have ho1 : (W1.alloc (.cells #[.int .i64 home] 3)).ownsRow W1.heap.size 3 1 (.slice (some ⟨W1.heap.size, 0, none⟩) 1 1) [(home : Int)].length (ints [(home : Int)]) :=
      ⟨rfl, .inr ⟨W1.heap.size, 1, #[.int .i64 home], rfl, Nat.le_refl _, heap_alloc_new _ _, by simp, by simp [maxLen], rfl, rfl⟩⟩
    go_loopw [6, 8, 9] (fun nv v xv W => ∃ (k : Nat) (pre : List Int) (x : Int), k ≤ m ∧ nv = .int .i64 ((k : Int) + 1) ∧ xv = .int .i64 x ∧ W.ownsRow W1.heap.size 3 1 v pre.length (ints pre) ∧ pre.length + k = m + 1 ∧
      pre ++ ringFrom tb home k x = (home : Int) :: ringFrom tb home m home ∧ 0 ≤ x ∧ x < rs.length ∧ Ext W1 W) (fun nv _ _ _ => (RowKit.intOf nv).toNat)
    case atStart => exact ⟨m, [(home : Int)], home, Nat.le_refl _, rfl, rfl, ho1, by simp; omega, rfl, by omega, by omega, (Ext.refl W1).alloc _⟩
    case round =>
      clear ho1 hlook
      obtain ⟨k, pre, x, hk, rfl, rfl, hown, hpl, hpre, hx0, hxn, hx⟩ := hrel
      obtain ⟨B, c, rfl, hrdo, hbase⟩ := Owns.rd hown
      cases k with
      | zero =>
        have HP := Lib.hid (show ringL tb home = pre by rw [HR.out, ← hpre]; simp [ringFrom])
        clear hpre
        go_wp2_with fail
        go_ret
        exact ⟨B, c, by rw [HP.out]; rfl, by rw [HP.out]; exact ⟨hrdo, Owns.lower hown hx1.size⟩, hx1.trans hx⟩
      | succ j =>
        obtain ⟨p, rfl⟩ : ∃ p : Nat, x = p := ⟨x.toNat, by omega⟩
        have hpn : p < rs.length := by omega
        obtain ⟨b, o, B2, c2, xs, hA, he, hcell, hrd⟩ := (hr.ext (hx1.trans hx)).at hpn
        subst hA
        have hxl := hrow _ (List.mem_of_getElem? he)
        have hxe := hent _ (List.mem_of_getElem? he)
        simp only at hxl hxe
        have hro : rowOf tb (p : Int) = xs := by
          unfold rowOf
          rw [if_neg (by omega), Int.toNat_natCast, ← htb]
          exact getD_row he
        have HPRE := Lib.hid hpre
        clear hpre
        have hj1 : ((j + 1 : Nat) : Int) + 1 = (j : Int) + 2 := by omega
        rw [hj1]
        have hM3 := hM.ext hx
        go_upto_region 10 with (fail)
        rename World => Wr
        go_loop [35, 9] (fun i v => ∃ q : Nat, q ≤ xs.length ∧ i = .int .i64 q ∧ v = .int .i64 p ∧ ∀ i, i < q → ∀ y, xs[i]? = some y → hit tb home (j + 1) y = false) (fun i _ => xs.length - (RowKit.intOf i).toNat)
        case atStart => exact ⟨0, by omega, rfl, rfl, fun i hi => absurd hi (by omega)⟩
        case round =>
          obtain ⟨q, hq, rfl, rfl, hno⟩ := hrel
          have HN := Lib.hid hno
          clear hno
          by_cases hqt : q < xs.length
          · have hqti : (q : Int) < xs.length := by omega
            obtain ⟨b5, o5, hB5, hcc⟩ := hrd.at (i := q) (by rw [ints_length]; exact hqt)
            subst hB5
            obtain ⟨y, hy⟩ : ∃ y, xs[q]? = some y := ⟨_, List.getElem?_eq_getElem hqt⟩
            have c3 := hcc q (.int .i64 y) (by rw [ints_get, hy]; rfl)
            obtain ⟨hy0, hyn⟩ := hxe y (List.mem_of_getElem? hy)
            by_cases hgt : (home : Int) < y
            · have hlook := hM3.look (k := y) ⟨by omega, by omega⟩
              obtain ⟨z, hz⟩ : ∃ z, (dst tb home y).getD 0 = z := ⟨_, rfl⟩
              rw [hz] at hlook
              obtain ⟨t, ht⟩ : ∃ t, (z == (j : Int) + 1) = t := ⟨_, rfl⟩
              have HH := Lib.hid (show hit tb home ((j : Int) + 1) y = t by rw [← hit_eq (by omega) hgt, hz, ht])
              have hj2 : (j : Int) + 2 - 1 = (j : Int) + 1 := by omega
              cases t
              · clear hcell hrdo hx hown
                go_wp2_with fail
                go_roundw
                case rel => exact ⟨q + 1, by omega, by go_num, rfl, fun i hi u hu => by
                  rcases (show i < q ∨ i = q by omega) with h | rfl
                  · exact HN.out i h u hu
                  · rw [hy] at hu; cases hu; exact HH.out⟩
                case measure => (first | (simp [RowKit.intOf]; done) | (simp [RowKit.intOf]; omega))
              · have HX := Lib.hid (show nextOn tb home p ((j : Int) + 1) = y by
                  unfold nextOn
                  rw [hro, find_at hy HH.out HN.out]
                  rfl)
                clear hcell
                go_wp2_with (refine wpList_append_int rfl (.tmp 52) (.tmp 54) 40 3 rfl Try.underlying40 infoInt W1.heap.size (.slice B pre.length c) pre rfl (hown.alloc _) Wr.heap.size 1 y rfl ((Blk.new Wr [.int .i64 y] 3).cell 0 rfl) (by omega) (by rw [World.size_alloc]; exact Nat.le_succ_of_le hx.size) ?_; intro v' W6 o6 g6 s6)
                go_roundw
                case rel =>
                  refine ⟨j, pre ++ [y], y, by omega, rfl, rfl, o6, by simp; omega, ?_, hy0, hyn, Grown.toExt (hx.alloc _) g6 (fun i hi => by
                    cases B with
                    | none => cases hi
                    | some ad => cases hi; exact hbase ad rfl)⟩
                  rw [← HPRE.out, ringFrom, HX.out, List.append_assoc]
                  rfl
                case measure => (first | (simp [RowKit.intOf]; done) | (simp [RowKit.intOf]; omega))
            · have HH := Lib.hid (show hit tb home ((j : Int) + 1) y = false by unfold hit; rw [decide_eq_false hgt]; rfl)
              clear hcell hrdo hx hown
              go_wp2_with fail
              go_roundw
              case rel => exact ⟨q + 1, by omega, by go_num, rfl, fun i hi u hu => by
                rcases (show i < q ∨ i = q by omega) with h | rfl
                · exact HN.out i h u hu
                · rw [hy] at hu; cases hu; exact HH.out⟩
              case measure => (first | (simp [RowKit.intOf]; done) | (simp [RowKit.intOf]; omega))
          · obtain rfl : q = xs.length := by omega
            have HX := Lib.hid (show nextOn tb home p ((j : Int) + 1) = p by
              unfold nextOn
              rw [hro, find_no HN.out]
              rfl)
            have hj2 : (j : Int) + 2 - 1 = (j : Int) + 1 := by omega
            clear hcell
            go_wp2_with (refine wpList_append_int rfl (.tmp 52) (.tmp 54) 40 3 rfl Try.underlying40 infoInt W1.heap.size (.slice B pre.length c) pre rfl (hown.alloc _) Wr.heap.size 1 p rfl ((Blk.new Wr [.int .i64 p] 3).cell 0 rfl) (by omega) (by rw [World.size_alloc]; exact Nat.le_succ_of_le hx.size) ?_; intro v' W6 o6 g6 s6)
            go_roundw
            case rel =>
              refine ⟨j, pre ++ [(p : Int)], p, by omega, rfl, rfl, o6, by simp; omega, ?_, hx0, hxn, Grown.toExt (hx.alloc _) g6 (fun i hi => by
                cases B with
                | none => cases hi
                | some ad => cases hi; exact hbase ad rfl)⟩
              rw [← HPRE.out, ringFrom, HX.out, List.append_assoc]
              rfl
            case measure => (first | (simp [RowKit.intOf]; done) | (simp [RowKit.intOf]; omega))
end Go.Proofs.Ythlobpdcolgcoaa
