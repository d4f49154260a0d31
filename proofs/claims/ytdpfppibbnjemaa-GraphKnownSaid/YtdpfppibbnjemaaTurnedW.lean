/- graph.turned, walked. -/
import Derived.Test.YtdpfppibbnjemaaTurned
namespace Go.Proofs.Ytdpfppibbnjemaa
open Go.RowKit Go.Shelf
set_option linter.unusedVariables false
set_option linter.unusedSimpArgs false
set_option maxRecDepth 100000 in
set_option maxHeartbeats 4000000 in
theorem turned_calls (R : List Row) (B : Option Addr) (cap : Nat) (ws : List TB) (A : Option Addr) (c : Nat) (w : World) (hn : R.length ≤ 1000) (hr : RdR w B R) (hp : places R.length (rows R))
    (hws : RdV w A (ws.map TB.val)) (hwr : ∀ t ∈ ws, RdR w t.A t.rs ∧ places R.length (rows t.rs)) (hwl : ws.length ≤ 1000) :
    Calls Try.prog 35 #[.slice B R.length cap, .slice A ws.length c] w fun e w' => ∃ B' c', e = .returned (.slice B' R.length c') ∧ RVn w' R.length w.heap.size B' (turnedL (rows R) (ws.map fun t => rows t.rs)) ∧ Ext w w' := by
  have HM := make_rows R.length (by omega)
  have HP := Lib.hid fun W base g bS bO m Q (h : TQ w W base g bS bO m R.length Q) i k hi hk => putQ_calls h hn i k hi hk
  have HSRT := Lib.hid fun base g c rs W h hl hro hx0 hw0 => sorted_calls (base := base) (g := g) (c := c) rs W h hl hro w hx0 hw0
  have HPL := Lib.hid hp
  have HWR := Lib.hid hwr
  have HHN := Lib.hid hn
  have hn' : R.length ≤ 1000 := hn
  clear hn hp hwr
  have hmm := @run_makeMap Try.prog
  go_enter Try.func35, Try.ntmps35
  go_upto_region 2 with (fail)
  refine wp_gen (fun W => RMap encP W w.heap.size ([] : List ((Int × Int) × Value)) ∧ W.cell? ⟨w.heap.size + 1, 0, none⟩ = some (.map (some w.heap.size)) ∧ W.heap.size = w.heap.size + 2 ∧ Ext w W) ⟨(RMap.made encP w).ext ((Ext.refl _).alloc _), by go_simp, by simp, ((Ext.refl w).alloc _).alloc _⟩ ?_
  obtain ⟨m, hm⟩ : ∃ m, w.heap.size = m := ⟨_, rfl⟩
  rw [hm]
  rintro W1 ⟨hmap1, hS1, hz1, hx1⟩
  have HZ1 := Lib.hid hz1
  clear hmm
  have hz1' : W1.heap.size ≤ m + 2 := by omega
  clear hz1
  go_upto_region 4 with (fail)
  refine wp_gen (fun W => TQ w W (m + 4) (m + 2) (m + 1) (m + 3) m R.length (fun _ => False)) ?_ ?_
  · have hz1 := HZ1.out
    refine ⟨fun _ => false, ⟨?_, ?_, ⟨[], ?_, ?_⟩, ⟨fun _ => [], PInv.nils ?_ (by omega) (by simp; omega), (fun j _ => ⟨List.nodup_nil, fun k => by simp⟩)⟩, (fun p h => by cases h), by omega, ?_, by omega⟩, fun p => by simp⟩
    · exact (((Ext.refl W1).alloc _).alloc _).cell hS1
    · rw [← hz1]
      go_simp
    · exact hmap1.ext (((Ext.refl W1).alloc _).alloc _)
    · exact FM.nil
    · rw [← hz1]
      exact (Blk.new W1 _ _).ext ((Ext.refl _).alloc _)
    · exact (hx1.alloc _).alloc _
  rw [HZ1.out]
  clear hmap1 hS1 HM HZ1 hz1' hx1 W1
  rintro W2 hT
  go_upto_region 5 with (fail)
  go_loopw [25] (fun iv W => ∃ i : Nat, iv = .int .i64 i ∧ i ≤ R.length ∧ TQ w W (m + 4) (m + 2) (m + 1) (m + 3) m R.length (qRow (rows R) i)) (fun iv _ => R.length - (RowKit.intOf iv).toNat)
  case atStart => exact ⟨0, rfl, by omega, hT.congr fun p => ⟨False.elim, fun ⟨a, h, _⟩ => by omega⟩⟩
  case round =>
    clear hT
    obtain ⟨i, rfl, hi, hT⟩ := hrel
    by_cases hlt : i < R.length
    · have hlti : (i : Int) < R.length := by omega
      obtain ⟨b, o, B1, cap1, xs, rfl, hRi, hcell, hrd⟩ := (hr.ext hT.x0).at hlt
      have HXS := Lib.hid (show (rows R).getD i [] = xs by rw [List.getD_eq_getElem?_getD, rows_get, hRi]; rfl)
      have hpx := HPL.out.2 xs (List.mem_of_getElem? (show (rows R)[i]? = some xs by rw [rows_get, hRi]; rfl))
      have HEN := Lib.hid hpx.2
      have hxl := hpx.1
      clear hpx
      have HRM := Lib.hid (List.mem_of_getElem? hRi)
      clear hRi
      go_upto_region 8 with (fail)
      go_loopw [32] (fun jv W => ∃ j : Nat, jv = .int .i64 j ∧ j ≤ xs.length ∧ TQ w W (m + 4) (m + 2) (m + 1) (m + 3) m R.length (fun p => qRow (rows R) i p ∨ qTo i xs j p.2 p.1)) (fun jv _ => xs.length - (RowKit.intOf jv).toNat)
      case atStart => exact ⟨0, rfl, by omega, hT.congr fun p => by simp [qTo_zero]⟩
      case round =>
        clear hT hcell
        obtain ⟨j, rfl, hj, hT⟩ := hrel
        by_cases hjt : j < xs.length
        · have hjti : (j : Int) < xs.length := by omega
          obtain ⟨x, hx⟩ : ∃ x, xs[j]? = some x := ⟨_, List.getElem?_eq_getElem hjt⟩
          obtain ⟨b2, o2, hB2, hcc⟩ := (hr.ext hT.x0).2 ⟨B1, cap1, xs⟩ HRM.out |>.at (i := j) (by rw [ints_length]; exact hjt)
          simp only at hB2
          subst hB2
          have c3 := hcc j (.int .i64 x) (by rw [ints_get, hx]; rfl)
          have HX := Lib.hid hx
          have hpc := HP.out _ _ _ _ _ _ _ hT x i (HEN.out x (List.mem_of_getElem? hx)) ⟨by omega, hlti⟩
          have HPC := Lib.hid hpc
          clear hpc hcc hx hT
          go_wp2_with (go_at_call 46; refine HPC.out.mono ?_; rintro e W3 ⟨rfl, hT3⟩)
          go_roundw
          case rel => exact ⟨j + 1, by go_num, by omega, hT3.congr fun p => by
            rw [qTo_succ HX.out, or_assoc]
            refine or_congr Iff.rfl (or_congr Iff.rfl ?_)
            rw [Prod.ext_iff]
            exact And.comm⟩
          case measure => simp [RowKit.intOf]; omega
        · obtain rfl : j = xs.length := by omega
          go_wp2_with fail
          go_roundw
          case rel => exact ⟨i + 1, by go_num, by omega, hT.congr fun p => (qRow_succ HXS.out).symm⟩
          case measure => simp [RowKit.intOf]; omega
    · obtain rfl : i = R.length := by omega
      rw [show qRow (rows R) R.length = qRow (rows R) (rows R).length by rw [rows_length]] at hT
      go_upto_region 14 with (fail)
      go_loopw [44] (fun ev W => ∃ e : Nat, ev = .int .i64 e ∧ e ≤ ws.length ∧ TQ w W (m + 4) (m + 2) (m + 1) (m + 3) m R.length (fun p => qRow (rows R) (rows R).length p ∨ qWiths (ws.map fun t => rows t.rs) e p)) (fun ev _ => ws.length - (RowKit.intOf ev).toNat)
      case atStart => exact ⟨0, rfl, by omega, hT.congr fun p => ⟨.inl, fun h => h.elim id fun ⟨c, h, _⟩ => by omega⟩⟩
      case round =>
        clear hT
        obtain ⟨e, rfl, he, hT⟩ := hrel
        by_cases hle : e < ws.length
        · have hlei : (e : Int) < ws.length := by omega
          obtain ⟨t, ht⟩ : ∃ t, ws[e]? = some t := ⟨_, List.getElem?_eq_getElem hle⟩
          obtain ⟨b2, o2, rfl, hcc⟩ := (hws.ext hT.x0).at (i := e) (by simpa using hle)
          have c3 := hcc e t.val (by rw [List.getElem?_map, ht]; rfl)
          obtain ⟨hrt, hpt⟩ := HWR.out t (List.mem_of_getElem? ht)
          obtain ⟨At, ct, rs⟩ := t
          simp only [TB.val] at c3 hrt hpt
          have HPT := Lib.hid hpt
          have hrl : rs.length ≤ R.length := by have := hpt.1; rwa [rows_length] at this
          have HME := Lib.hid (show (ws.map fun t => rows t.rs).getD e [] = rows rs by rw [List.getD_eq_getElem?_getD, List.getElem?_map, ht]; rfl)
          clear hcc ht hpt
          go_upto_region 17 with (fail)
          go_loopw [50] (fun iv W => ∃ i : Nat, iv = .int .i64 i ∧ i ≤ rs.length ∧ TQ w W (m + 4) (m + 2) (m + 1) (m + 3) m R.length (fun p => (qRow (rows R) (rows R).length p ∨ qWiths (ws.map fun t => rows t.rs) e p) ∨ qWith (rows rs) i p)) (fun iv _ => rs.length - (RowKit.intOf iv).toNat)
          case atStart => exact ⟨0, rfl, by omega, hT.congr fun p => ⟨.inl, fun h => h.elim id fun ⟨c, h, _⟩ => by omega⟩⟩
          case round =>
            clear hT c3
            obtain ⟨i, rfl, hi, hT⟩ := hrel
            by_cases hlt2 : i < rs.length
            · have hlti2 : (i : Int) < rs.length := by omega
              obtain ⟨b3, o3, B1, cap1, xs, rfl, hRi, hcell, hrd⟩ := (hrt.ext hT.x0).at hlt2
              have HXS := Lib.hid (show (rows rs).getD i [] = xs by rw [List.getD_eq_getElem?_getD, rows_get, hRi]; rfl)
              have hpx := HPT.out.2 xs (List.mem_of_getElem? (show (rows rs)[i]? = some xs by rw [rows_get, hRi]; rfl))
              have HEN := Lib.hid hpx.2
              have hxl := hpx.1
              clear hpx
              have HRM := Lib.hid (List.mem_of_getElem? hRi)
              clear hRi
              go_upto_region 20 with (fail)
              go_loopw [57] (fun jv W => ∃ j : Nat, jv = .int .i64 j ∧ j ≤ xs.length ∧ TQ w W (m + 4) (m + 2) (m + 1) (m + 3) m R.length (fun p => ((qRow (rows R) (rows R).length p ∨ qWiths (ws.map fun t => rows t.rs) e p) ∨ qWith (rows rs) i p) ∨ qTo i xs j p.1 p.2)) (fun jv _ => xs.length - (RowKit.intOf jv).toNat)
              case atStart => exact ⟨0, rfl, by omega, hT.congr fun p => by simp [qTo_zero]⟩
              case round =>
                clear hT hcell
                obtain ⟨j, rfl, hj, hT⟩ := hrel
                by_cases hjt : j < xs.length
                · have hjti : (j : Int) < xs.length := by omega
                  obtain ⟨x, hx⟩ : ∃ x, xs[j]? = some x := ⟨_, List.getElem?_eq_getElem hjt⟩
                  obtain ⟨b2, o2, hB2, hcc⟩ := (hrt.ext hT.x0).2 ⟨B1, cap1, xs⟩ HRM.out |>.at (i := j) (by rw [ints_length]; exact hjt)
                  simp only at hB2
                  subst hB2
                  have c3 := hcc j (.int .i64 x) (by rw [ints_get, hx]; rfl)
                  have HX := Lib.hid hx
                  have hpc := HP.out _ _ _ _ _ _ _ hT i x ⟨by omega, by omega⟩ (HEN.out x (List.mem_of_getElem? hx))
                  have HPC := Lib.hid hpc
                  clear hpc hcc hx hT
                  go_wp2_with (go_at_call 46; refine HPC.out.mono ?_; rintro e W3 ⟨rfl, hT3⟩)
                  go_roundw
                  case rel => exact ⟨j + 1, by go_num, by omega, hT3.congr fun p => by
                    rw [qTo_succ HX.out, or_assoc]
                    refine or_congr Iff.rfl (or_congr Iff.rfl ?_)
                    rw [Prod.ext_iff]⟩
                  case measure => simp [RowKit.intOf]; omega
                · obtain rfl : j = xs.length := by omega
                  go_wp2_with fail
                  go_roundw
                  case rel => exact ⟨i + 1, by go_num, by omega, hT.congr fun p => by rw [qWith_succ HXS.out, or_assoc]⟩
                  case measure => simp [RowKit.intOf]; omega
            · obtain rfl : i = rs.length := by omega
              go_wp2_with fail
              go_roundw
              case rel => exact ⟨e + 1, by go_num, by omega, hT.congr fun p => by rw [qWiths_succ HME.out, or_assoc, show qWith (rows rs) rs.length p = qWith (rows rs) (rows rs).length p by rw [rows_length]]⟩
              case measure => simp [RowKit.intOf]; omega
        · obtain rfl : e = ws.length := by omega
          have hT2 : TQ w wr (m + 4) (m + 2) (m + 1) (m + 3) m R.length (fun p => turnedQ (rows R) (ws.map fun t => rows t.rs) p.1 p.2 = true) := hT.congr fun p => by
            have h := turnedQ_iff (L := rows R) (Ms := ws.map fun t => rows t.rs) (p := p)
            rwa [List.length_map] at h
          obtain ⟨S, hS, hSQ⟩ := hT2
          have hcO := hS.cO
          obtain ⟨f, ⟨rs, r1, r2, r3⟩, hf⟩ := hS.rows
          have hff : ∀ j, j < R.length → sc (f j) = below R.length fun k => turnedQ (rows R) (ws.map fun t => rows t.rs) (j : Int) (k : Int) := fun j hj => by
            refine sc_eq (below_up _ _) fun x => ?_
            rw [(hf j hj).2 x, hSQ, mem_below]
            constructor
            · intro h
              obtain ⟨_, _, k3, k4⟩ := hS.rng _ ((hSQ _).2 h)
              simp only at k3 k4
              refine ⟨x.toNat, by omega, ?_, by omega⟩
              rw [show ((x.toNat : Nat) : Int) = x by omega]
              exact h
            · rintro ⟨k, _, h, rfl⟩
              exact h
          have hfl : ∀ j, j < R.length → (f j).length ≤ 1000000 := fun j hj => by
            refine Nat.le_trans (nodup_len (U := (List.range R.length).map fun (k : Nat) => (k : Int)) (hf j hj).1 fun x hx => ?_) (by simp; omega)
            obtain ⟨_, _, h3, h4⟩ := hS.rng _ (((hf j hj).2 x).1 hx)
            simp only at h3 h4
            exact List.mem_map.2 ⟨x.toNat, List.mem_range.2 (by omega), by omega⟩
          have hsr := HSRT.out (m + 4) (m + 2) R.length rs wr r2 (by omega) (fun j v xs hj => by
            have hj' := (List.getElem?_eq_some_iff.1 hj).1
            rw [r3 j v xs hj]
            exact hfl j (by omega)) hS.x0 hS.old.2
          rw [r1] at hsr
          have HSR := Lib.hid hsr
          have HFF := Lib.hid hff
          have HR3 := Lib.hid r3
          have HR1 := Lib.hid r1
          clear hsr r3 r2 r1 hf hff hfl hSQ hS hT
          go_wp2_with (go_at_call 45; refine HSR.out.mono ?_; rintro e W3 ⟨rfl, hx3, rs', o', m'⟩)
          obtain ⟨R', q1, q2, q3, q4⟩ := o'.rd4
          have hRl : R'.length = R.length := by
            have := congrArg List.length m'
            simp only [List.length_map] at this
            rw [q3, this, HR1.out]
          go_ret
          refine ⟨_, R.length, rfl, ⟨R', q1, ?_, hRl, fun a ha => by cases ha; simp only; omega, fun r hr a ha => by have := q4 r hr a ha; omega⟩, hx3⟩
          rw [q2, m']
          refine List.ext_getElem? fun j => ?_
          unfold turnedL
          rw [List.getElem?_map, List.getElem?_map, List.getElem?_map, rows_length]
          cases hj : rs[j]? with
          | none =>
            have : (List.range R.length)[j]? = none := by
              rw [List.getElem?_eq_none_iff] at hj ⊢
              have := HR1.out
              rw [List.length_range]
              omega
            rw [this]
            rfl
          | some p =>
            obtain ⟨v, xs⟩ := p
            have hj' := (List.getElem?_eq_some_iff.1 hj).1
            have hj2 : j < R.length := by have := HR1.out; omega
            have := HR3.out j v xs hj
            subst this
            rw [List.getElem?_range hj2, Option.map_some, Option.map_some, Option.map_some, HFF.out j hj2]
end Go.Proofs.Ytdpfppibbnjemaa
