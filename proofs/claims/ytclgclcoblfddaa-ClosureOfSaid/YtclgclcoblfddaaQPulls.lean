/- Chapter 21: the document's Pulls and Has, as plain functions. -/
import Derived.Test.YtclgclcoblfddaaPx7
import Derived.Test.YtclgclcoblfddaaQSort
import Derived.Test.YtclgclcoblfddaaBrG
namespace Go.Proofs.Ytclgclcoblfddaa
open Go.RowKit Go.Proofs.Ytclgclcoblfddaa.P Go.Proofs.YtclgclcoblfddaaW.PrintWords
set_option linter.unusedVariables false
set_option linter.unusedSimpArgs false
theorem knownR_f (a : Int) : Zcb.f a = some (knownB a) := by
 unfold Zcb.f knownB
 by_cases h : a ≥ 1
 ·have : (1 : Int) ≤ a := h
  simp [h, this]
 ·have : ¬ (1 : Int) ≤ a := h
  simp [h, this]
theorem rd_int {l : List Int} {i : Nat} {x : Int} (h : l[i]? = some x) : rd l (i : Int) = x := by
 unfold rd
 rw [Int.toNat_natCast, List.getD_eq_getElem?_getD, h]
 rfl
theorem row_l0 {tb : List (List Int)} {u : Nat} {r : List Int} (hr : tb[u]? = some r) (hl : r.length ≤ 1000) (many : Int) : ∀ (n i : Nat) (acc : List Int), n = r.length - i → i ≤ r.length → acc.length ≤ i →
  Ev (fun k => Zaq.l0 k tb (u : Int) many acc (i : Int)) (acc ++ (r.drop i).filter (okB u many)) := by
 have hul : (u : Int) < (tb.length : Int) := by have := (List.getElem?_eq_some_iff.1 hr).1; omega
 have hrd : Zea tb (u : Int) = r := by
  unfold Zea
  rw [Int.toNat_natCast, List.getD_eq_getElem?_getD, hr]
  rfl
 intro n
 induction n with
 | zero =>
  intro i acc hn hi ha
  have : i = r.length := by omega
  subst this
  refine (Ev.const _).next fun k => ?_
  rw [Zaq.l0, if_pos (by omega), if_pos hul, hrd, if_neg (by omega), List.drop_eq_nil_of_le (Nat.le_refl _)]
  simp
 | succ n ih =>
  intro i acc hn hi ha
  have hil : i < r.length := by omega
  obtain ⟨x, hx⟩ : ∃ x, r[i]? = some x := ⟨_, List.getElem?_eq_getElem hil⟩
  have hd : r.drop i = x :: r.drop (i + 1) := by
   rw [List.drop_eq_getElem_cons hil]
   congr 1
   rw [List.getElem?_eq_getElem hil] at hx
   exact Option.some.inj hx
  have hw : wrap64 ((i : Int) + 1) = ((i + 1 : Nat) : Int) := wrap_succ (by omega)
  rw [hd, List.filter_cons]
  by_cases hok : okB u many x = true
  ·rw [if_pos hok]
   have h1 := ih (i + 1) (acc ++ [x]) (by omega) (by omega) (by simp; omega)
   rw [List.append_assoc] at h1
   refine h1.next fun k => ?_
   unfold okB at hok
   simp only [Bool.and_eq_true, decide_eq_true_eq] at hok
   rw [Zaq.l0, if_pos (by omega), if_pos hul, hrd, if_pos (by omega), if_pos (by omega), rd_int hx, if_pos hok.1.1, if_pos hok.1.2, if_neg hok.2, if_pos (by omega), hw]
  ·rw [if_neg hok]
   have h1 := ih (i + 1) acc (by omega) (by omega) (by omega)
   refine h1.next fun k => ?_
   unfold okB at hok
   simp only [Bool.and_eq_true, decide_eq_true_eq] at hok
   rw [Zaq.l0, if_pos (by omega), if_pos hul, hrd, if_pos (by omega), if_pos (by omega), rd_int hx, hw]
   by_cases c1 : x ≥ 0
   ·rw [if_pos c1]
    by_cases c2 : x < many
    ·rw [if_pos c2]
     by_cases c3 : x = (u : Int)
     ·rw [if_pos c3]
     ·exact absurd ⟨⟨c1, c2⟩, c3⟩ hok
    ·rw [if_neg c2]
   ·rw [if_neg c1]
theorem row_f {tb : List (List Int)} (htb : Zci tb = true) (u : Nat) (many : Int) : Ev (fun k => Zaq.f k tb (u : Int) many) (rowU tb u many) := by
 unfold Zci at htb
 simp only [Bool.and_eq_true, decide_eq_true_eq, List.all_eq_true] at htb
 have hf : ∀ k, Zaq.f k tb (u : Int) many = Zaq.j0 k tb (u : Int) many [] (decide ((u : Int) ≥ (tb.length : Int))) := fun k => by
  unfold Zaq.f
  rw [if_neg (by omega)]
 unfold rowU
 rw [Int.toNat_natCast, List.getD_eq_getElem?_getD]
 cases hr : tb[u]? with
 | none =>
  have : tb.length ≤ u := List.getElem?_eq_none_iff.1 hr
  have h : Ev (fun k => Zaq.j0 k tb (u : Int) many [] (decide ((u : Int) ≥ (tb.length : Int)))) [] := by
   refine (Ev.const _).next fun k => ?_
   rw [Zaq.j0, if_pos (decide_eq_true (by omega))]
  exact h.congr hf
 | some r =>
  have hlt := (List.getElem?_eq_some_iff.1 hr).1
  have h0 := row_l0 hr (htb.2 r (List.mem_of_getElem? hr)) many _ 0 [] rfl (Nat.zero_le _) (Nat.le_refl _)
  rw [List.nil_append, List.drop_zero] at h0
  have h : Ev (fun k => Zaq.j0 k tb (u : Int) many [] (decide ((u : Int) ≥ (tb.length : Int)))) (r.filter (okB u many)) := by
   refine h0.next fun k => ?_
   rw [Zaq.j0, if_neg (by rw [decide_eq_true_iff]; omega)]
   rfl
  exact h.congr hf
theorem rdOn {on : List Bool} {x : Int} : rdOf false on x = on.getD x.toNat false := rfl
theorem pull_l0 {on : List Bool} {u : Nat} {l : List Int} (hl : l.length ≤ 1000) (hok : ∀ x ∈ l, 0 ≤ x ∧ x < on.length) (t : Int) (m only : Bool) : ∀ (n i : Nat) (acc : List It), n = l.length - i → i ≤ l.length → acc.length ≤ 1000000 + i →
  Ev (fun k => Zar.l0 k (acc.map rf) l t m on only (i : Int)) ((acc ++ (l.drop i).flatMap (pl1 on t m only)).map rf) := by
 intro n
 induction n with
 | zero =>
  intro i acc hn hi ha
  have : i = l.length := by omega
  subst this
  refine (Ev.const _).next fun k => ?_
  rw [Zar.l0, if_neg (by omega), List.drop_eq_nil_of_le (Nat.le_refl _)]
  simp
 | succ n ih =>
  intro i acc hn hi ha
  have hil : i < l.length := by omega
  obtain ⟨x, hx⟩ : ∃ x, l[i]? = some x := ⟨_, List.getElem?_eq_getElem hil⟩
  have hd : l.drop i = x :: l.drop (i + 1) := by
   rw [List.drop_eq_getElem_cons hil]
   congr 1
   rw [List.getElem?_eq_getElem hil] at hx
   exact Option.some.inj hx
  obtain ⟨hx0, hx1⟩ := hok x (List.mem_of_getElem? hx)
  have hw : wrap64 ((i : Int) + 1) = ((i + 1 : Nat) : Int) := wrap_succ (by omega)
  rw [hd, List.flatMap_cons]
  have h2 : ((acc.map rf).length : Nat) < 8796093022208 := by rw [List.length_map]; omega
  have hadd : ∀ k, Zar.l0 k (acc.map rf ++ [(⟨x, t, m⟩ : S44)]) l t m on only ((i + 1 : Nat) : Int) = Zar.l0 k ((acc ++ [(⟨x, t, m⟩ : It)]).map rf) l t m on only ((i + 1 : Nat) : Int) := fun k => by rw [List.map_append]; rfl
  have hput : pl1 on t m only x = (if on.getD x.toNat false || !only then [⟨x, t, m⟩] else []) := rfl
  rw [hput]
  have h1 := ih (i + 1) (acc ++ [⟨x, t, m⟩]) (by omega) (by omega) (by simp; omega)
  have h3 := ih (i + 1) acc (by omega) (by omega) (by omega)
  cases only
  ·rw [if_pos (by simp), ← List.append_assoc]
   refine h1.next fun k => ?_
   rw [Zar.l0, if_pos (by omega), if_neg (by simp), if_pos (by omega), if_pos h2, rd_int hx, hw, hadd]
  ·cases hon : on.getD x.toNat false
   ·rw [if_neg (by simp), List.nil_append]
    refine h3.next fun k => ?_
    rw [Zar.l0, if_pos (by omega), if_pos rfl, if_pos (by omega), rd_int hx, if_pos hx0, if_pos hx1, rdOn, hon, if_neg (by simp), hw]
   ·rw [if_pos (by simp), ← List.append_assoc]
    refine h1.next fun k => ?_
    rw [Zar.l0, if_pos (by omega), if_pos rfl, if_pos (by omega), rd_int hx, if_pos hx0, if_pos hx1, rdOn, hon, if_pos rfl, if_pos h2, hw, hadd]
theorem pull_f {on : List Bool} {tb : List (List Int)} (htb : Zci tb = true) (u : Nat) (t : Int) (m only : Bool) (acc : List It) (ha : acc.length ≤ 1000000) :
  Ev (fun k => Zar.f k (acc.map rf) (rowU tb u on.length) t m on only) ((acc ++ plRow on u t m only tb).map rf) := by
 unfold Zci at htb
 simp only [Bool.and_eq_true, decide_eq_true_eq, List.all_eq_true] at htb
 have := pull_l0 (on := on) (u := u) (l := rowU tb u on.length) (rowU_length tb u on.length 1000 htb.2) (fun x hx => by
  unfold rowU at hx
  have := (List.mem_filter.1 hx).2
  unfold okB at this
  simp only [Bool.and_eq_true, decide_eq_true_eq] at this
  exact this.1) t m only _ 0 acc rfl (Nat.zero_le _) (by omega)
 rw [List.drop_zero] at this
 exact this.congr fun k => rfl
def okG (g : GL) : Bool := Zci g.req && Zci g.wants && Zci g.binds && Zci g.conf && Zci g.reqBy && Zci g.bound && Zci g.parts
theorem Zdz {on : List Bool} {tb : List (List Int)} (htb : Zci tb = true) (u : Nat) (t : Int) (m only : Bool) : (plRow on u t m only tb).length ≤ 1000 := by
 unfold Zci at htb
 simp only [Bool.and_eq_true, decide_eq_true_eq, List.all_eq_true] at htb
 exact Nat.le_trans (pls_length on t m only _) (rowU_length tb u on.length 1000 htb.2)
theorem refPulls_f {g : GL} (hg : okG g = true) (on : List Bool) (u t : Int) (m : Bool) :
  Ev (fun k => Zag.f k g.req g.wants g.binds g.conf g.reqBy g.bound g.parts on u t m) ((Zcc g on (u, t)).map rf) := by
 unfold okG at hg
 simp only [Bool.and_eq_true] at hg
 obtain ⟨⟨⟨⟨⟨⟨k0, k1⟩, k2⟩, k3⟩, k4⟩, k5⟩, k6⟩ := hg
 have out : ∀ k, Zag.j0 (k + 1) on [] (on.length : Int) u true g.req g.wants g.binds g.conf g.reqBy g.bound g.parts u t m = some [] := fun k => by rw [Zag.j0, if_pos rfl]
 unfold Zcc pullsL
 by_cases h0 : 0 ≤ u
 case neg =>
  rw [if_neg (by omega)]
  have h : Ev (fun k => Zag.j0 k on [] (on.length : Int) u true g.req g.wants g.binds g.conf g.reqBy g.bound g.parts u t m) [] := (Ev.const _).next out
  exact h.congr fun k => by unfold Zag.f; rw [if_pos (by omega)]
 by_cases h1 : u < on.length
 case neg =>
  rw [if_neg (by simp only; omega)]
  have h : Ev (fun k => Zag.j0 k on [] (on.length : Int) u true g.req g.wants g.binds g.conf g.reqBy g.bound g.parts u t m) [] := (Ev.const _).next out
  exact h.congr fun k => by unfold Zag.f; rw [if_neg (by omega), if_pos (by omega)]
 obtain ⟨n, rfl⟩ : ∃ n : Nat, u = n := ⟨u.toNat, by omega⟩
 have hf : ∀ k, Zag.f k g.req g.wants g.binds g.conf g.reqBy g.bound g.parts on (n : Int) t m = Zag.j0 k on [] (on.length : Int) n (!knownB t) g.req g.wants g.binds g.conf g.reqBy g.bound g.parts n t m := fun k => by
  unfold Zag.f
  rw [if_neg (by omega), if_neg (by omega), knownR_f, Option.bind_some]
 cases hk : knownB t
 case false =>
  rw [if_neg (by simp)]
  rw [hk] at hf
  have h : Ev (fun k => Zag.j0 k on [] (on.length : Int) n (!false) g.req g.wants g.binds g.conf g.reqBy g.bound g.parts n t m) [] := (Ev.const _).next out
  exact h.congr hf
 rw [if_pos ⟨h0, h1, rfl⟩]
 rw [hk] at hf
 have plp : ∀ (t : Int) (m only : Bool) (a b c : List (List Int)), Zeb on n t m only [a, b, c] = plRow on n t m only a ++ plRow on n t m only b ++ plRow on n t m only c := fun t m only a b c => by simp [Zeb]
 have plq : ∀ (t : Int) (m only : Bool) (a b : List (List Int)), Zeb on n t m only [a, b] = plRow on n t m only a ++ plRow on n t m only b := fun t m only a b => by simp [Zeb]
 have plr : ∀ (t : Int) (m only : Bool) (a : List (List Int)), Zeb on n t m only [a] = plRow on n t m only a := fun t m only a => by simp [Zeb]
 have second : ∀ (acc : List It), acc.length ≤ 10000 → Ev (fun k => Zag.j1 k on (acc.map rf) (on.length : Int) n g.req g.wants g.binds g.conf g.reqBy g.bound g.parts n t m) ((acc ++ if t = 1 then [] else Zeb on n t true true [g.reqBy, g.bound, g.parts]).map rf) := by
  intro acc ha
  by_cases h : t = 1
  ·rw [if_pos h, List.append_nil]
   refine (Ev.const _).next fun k => ?_
   rw [Zag.j1, if_pos h]
  ·rw [if_neg h, plp]
   have l4 := Zdz (on := on) k4 n t true true
   have l5 := Zdz (on := on) k5 n t true true
   have e : Ev (fun k => (Zaq.f k g.reqBy (n : Int) on.length).bind fun t186 => ((Zar.f k (acc.map rf) t186 t true on true).bind fun t189 => ((Zaq.f k g.bound (n : Int) on.length).bind fun t192 => ((Zar.f k t189 t192 t true on true).bind fun t195 => ((Zaq.f k g.parts (n : Int) on.length).bind fun t198 => ((Zar.f k t195 t198 t true on true).bind fun t201 => (some t201))))))) ((acc ++ (plRow on n t true true g.reqBy ++ plRow on n t true true g.bound ++ plRow on n t true true g.parts)).map rf) := by
    refine Ev.bind (row_f k4 n _) ?_
    refine Ev.bind (pull_f k4 n t true true acc (by omega)) ?_
    refine Ev.bind (row_f k5 n _) ?_
    refine Ev.bind (pull_f k5 n t true true _ (by rw [List.length_append]; omega)) ?_
    refine Ev.bind (row_f k6 n _) ?_
    have := Ev.bind (pull_f (on := on) k6 n t true true (acc ++ plRow on n t true true g.reqBy ++ plRow on n t true true g.bound) (by rw [List.length_append, List.length_append]; omega)) (f := fun k t201 => some t201) (Ev.const _)
    simpa [List.append_assoc] using this
   refine e.next fun k => ?_
   rw [Zag.j1, if_neg h]
 by_cases h2 : t = 2
 ·rw [if_pos h2]
  have e := second [] (by simp)
  have h : Ev (fun k => Zag.j0 k on [] (on.length : Int) n (!true) g.req g.wants g.binds g.conf g.reqBy g.bound g.parts n t m) (([] ++ if t = 1 then [] else Zeb on n t true true [g.reqBy, g.bound, g.parts]).map rf) := by
   refine e.next fun k => ?_
   rw [Zag.j0, if_neg (by simp), if_pos h2]
   rfl
  exact h.congr hf
 ·rw [if_neg h2, plq, plr, plr]
  have l0 := Zdz (on := on) k0 n 1 true false
  have l1 := Zdz (on := on) k1 n 1 false false
  have l2 := Zdz (on := on) k2 n 1 true false
  have l3 := Zdz (on := on) k3 n 2 true false
  have e := second (plRow on n 1 true false g.req ++ plRow on n 1 true false g.binds ++ plRow on n 1 false false g.wants ++ plRow on n 2 true false g.conf) (by simp only [List.length_append]; omega)
  have h : Ev (fun k => (Zaq.f k g.req (n : Int) on.length).bind fun t162 => ((Zar.f k (([] : List It).map rf) t162 1 true on false).bind fun t165 => ((Zaq.f k g.binds (n : Int) on.length).bind fun t168 => ((Zar.f k t165 t168 1 true on false).bind fun t171 => ((Zaq.f k g.wants (n : Int) on.length).bind fun t174 => ((Zar.f k t171 t174 1 false on false).bind fun t177 => ((Zaq.f k g.conf (n : Int) on.length).bind fun t180 => ((Zar.f k t177 t180 2 true on false).bind fun t183 => (Zag.j1 k on t183 (on.length : Int) n g.req g.wants g.binds g.conf g.reqBy g.bound g.parts n t m))))))))) ((plRow on n 1 true false g.req ++ plRow on n 1 true false g.binds ++ plRow on n 1 false false g.wants ++ plRow on n 2 true false g.conf ++ if t = 1 then [] else Zeb on n t true true [g.reqBy, g.bound, g.parts]).map rf) := by
   refine Ev.bind (row_f k0 n _) ?_
   refine Ev.bind (pull_f k0 n 1 true false [] (by simp)) ?_
   refine Ev.bind (row_f k2 n _) ?_
   refine Ev.bind (pull_f k2 n 1 true false _ (by simp; omega)) ?_
   refine Ev.bind (row_f k1 n _) ?_
   refine Ev.bind (pull_f k1 n 1 false false _ (by simp; omega)) ?_
   refine Ev.bind (row_f k3 n _) ?_
   refine Ev.bind (pull_f k3 n 2 true false _ (by simp; omega)) ?_
   simpa using e
  have h' : Ev (fun k => Zag.j0 k on [] (on.length : Int) n (!true) g.req g.wants g.binds g.conf g.reqBy g.bound g.parts n t m) _ := h.next fun k => by
   rw [Zag.j0, if_neg (by simp), if_neg h2]
   rfl
  exact h'.congr hf
end Go.Proofs.Ytclgclcoblfddaa
