/- Chapter 21: the document's reach, as a plain function. -/
import Derived.Test.YtclgclcoblfddaaPx11
import Derived.Test.YtclgclcoblfddaaQHas
namespace Go.Proofs.Ytclgclcoblfddaa
open Go.RowKit Go.Proofs.Ytclgclcoblfddaa.P Go.Proofs.YtclgclcoblfddaaW.PrintWords
set_option linter.unusedVariables false
set_option linter.unusedSimpArgs false
def bIn (bad : List It) (y : Jb) : Bool := decide (y ∈ bad.map Zaz)
def edgeE (must : Bool) (P : Jb → List It) (b : Jb → Bool) (x : Jb) : List Jb := if must then mustE P b x else pullE P b x
theorem mem_edge {must : Bool} {P : Jb → List It} {b : Jb → Bool} {x y : Jb} : y ∈ edgeE must P b x ↔ ∃ p ∈ P x, (must = true → p.m = true) ∧ b (Zaz p) = false ∧ Zaz p = y := by
 unfold edgeE
 cases must
 ·rw [if_neg (by simp), Zdn]
  constructor
  ·rintro ⟨⟨p, hp, rfl⟩, hb⟩; exact ⟨p, hp, fun h => (by cases h), hb, rfl⟩
  ·rintro ⟨p, hp, _, hb, rfl⟩; exact ⟨⟨p, hp, rfl⟩, hb⟩
 ·rw [if_pos rfl, mem_mustE]
  constructor
  ·rintro ⟨⟨p, hp, hm, rfl⟩, hb⟩; exact ⟨p, hp, fun _ => hm, hb, rfl⟩
  ·rintro ⟨p, hp, hm, hb, rfl⟩; exact ⟨⟨p, hp, hm rfl, rfl⟩, hb⟩
structure RL (E : Jb → List Jb) (U : List Jb) (a : Jb) (L : List It) : Prop where
 start : a ∈ L.map Zaz
 nod : (L.map Zaz).Nodup
 sub : ∀ x ∈ L.map Zaz, x ∈ a :: U
 rc : ∀ x ∈ L.map Zaz, Rc E [a] x
 mf : ∀ x ∈ L, x.m = false
theorem RL.len {E : Jb → List Jb} {U : List Jb} {a : Jb} {L : List It} (h : RL E U a L) : L.length ≤ 1 + U.length := by
 have := nodup_len h.nod h.sub
 rw [List.length_map, List.length_cons] at this
 omega
theorem RL.add {E : Jb → List Jb} {U : List Jb} {a x y : Jb} {L : List It} (h : RL E U a L) (hx : x ∈ L.map Zaz) (hy : y ∈ E x) (hU : y ∈ U) (hn : y ∉ L.map Zaz) : RL E U a (L ++ [⟨y.1, y.2, false⟩]) := by
 have e : (L ++ [(⟨y.1, y.2, false⟩ : It)]).map Zaz = L.map Zaz ++ [y] := by rw [List.map_append]; rfl
 refine ⟨?_, ?_, ?_, ?_, ?_⟩
 ·rw [e]; exact List.mem_append_left _ h.start
 ·rw [e]
  exact List.nodup_append.2 ⟨h.nod, by simp, fun u hu v hv e' => by rw [List.mem_singleton.1 hv] at e'; exact hn (e' ▸ hu)⟩
 ·rw [e]
  intro z hz
  rcases List.mem_append.1 hz with hz | hz
  ·exact h.sub z hz
  ·rw [List.mem_singleton.1 hz]; exact List.mem_cons_of_mem _ hU
 ·rw [e]
  intro z hz
  rcases List.mem_append.1 hz with hz | hz
  ·exact h.rc z hz
  ·rw [List.mem_singleton.1 hz]; exact (h.rc x hx).step hy
 ·intro z hz
  rcases List.mem_append.1 hz with hz | hz
  ·exact h.mf z hz
  ·rw [List.mem_singleton.1 hz]
theorem reach_l1 {g : GL} {on : List Bool} {must : Bool} {P : Jb → List It} {U : List Jb} (hT : Tame P U) {bad : List It} (hbl : bad.length ≤ 1000000) (hUl : U.length ≤ 100000) {a x : Jb} {ps : List It} (hP : P x = ps) (hpl : ps.length ≤ 10000) {i : Nat} (hi : i ≤ 1000000) :
  ∀ (n j : Nat), n = ps.length - j → j ≤ ps.length → ∀ L : List It, RL (edgeE must P (bIn bad)) U a L → x ∈ L.map Zaz →
   (∀ p ∈ ps.take j, (must = true → p.m = true) → bIn bad (Zaz p) = false → Zaz p ∈ L.map Zaz) →
   ∃ L' : List It, RL (edgeE must P (bIn bad)) U a L' ∧ (∃ e, L' = L ++ e) ∧ (∀ y ∈ edgeE must P (bIn bad) x, y ∈ L'.map Zaz) ∧
    ∀ r, Ev (fun k => Zae.l0 k on (bad.map rf) must (L'.map rf) ((i + 1 : Nat) : Int) g.req g.wants g.binds g.conf g.reqBy g.bound g.parts) r → Ev (fun k => Zae.l1 k on (bad.map rf) must (L.map rf) (i : Int) (ps.map rf) (j : Int) g.req g.wants g.binds g.conf g.reqBy g.bound g.parts) r := by
 intro n
 induction n with
 | zero =>
  intro j hn hj L hL hx hd
  have : j = ps.length := by omega
  subst this
  rw [List.take_of_length_le (Nat.le_refl _)] at hd
  refine ⟨L, hL, ⟨[], (List.append_nil _).symm⟩, fun y hy => ?_, fun r hr => hr.next fun k => ?_⟩
  ·obtain ⟨p, hp, hm, hb, rfl⟩ := mem_edge.1 hy
   rw [hP] at hp
   exact hd p hp hm hb
  ·rw [Zae.l1, if_neg (by simp), wrap_succ (by omega)]
 | succ n ih =>
  intro j hn hj L hL hx hd
  have hjl : j < ps.length := by omega
  obtain ⟨p, hp⟩ := get_lt hjl
  have hpP : p ∈ P x := by rw [hP]; exact List.mem_of_getElem? hp
  have c1 : (j : Int) < ((ps.map rf).length : Int) := by simpa using hjl
  have c2 : (0 : Int) ≤ (j : Nat) := by omega
  have hw : wrap64 ((j : Int) + 1) = ((j + 1 : Nat) : Int) := wrap_succ (by omega)
  have hlen := hL.len
  have skip : ((must = true → p.m = true) → bIn bad (Zaz p) = false → Zaz p ∈ L.map Zaz) → ∃ L' : List It, RL (edgeE must P (bIn bad)) U a L' ∧ (∃ e, L' = L ++ e) ∧ (∀ y ∈ edgeE must P (bIn bad) x, y ∈ L'.map Zaz) ∧
    ∀ r, Ev (fun k => Zae.l0 k on (bad.map rf) must (L'.map rf) ((i + 1 : Nat) : Int) g.req g.wants g.binds g.conf g.reqBy g.bound g.parts) r → Ev (fun k => Zae.l1 k on (bad.map rf) must (L.map rf) (i : Int) (ps.map rf) (wrap64 ((j : Int) + 1)) g.req g.wants g.binds g.conf g.reqBy g.bound g.parts) r := fun h => by
   rw [hw]
   refine ih (j + 1) (by omega) (by omega) L hL hx fun q hq => ?_
   rw [take_at hp] at hq
   rcases List.mem_append.1 hq with hq | hq
   ·exact hd q hq
   ·rw [List.mem_singleton.1 hq]; exact h
  by_cases hm : must = true ∧ p.m = false
  ·obtain ⟨hm1, hm2⟩ := hm
   obtain ⟨L', h1, h2, h3, h4⟩ := skip (fun h => by rw [h hm1] at hm2; cases hm2)
   refine ⟨L', h1, h2, h3, fun r hr => (h4 r hr).next fun k => ?_⟩
   rw [Zae.l1, if_pos c1, if_pos hm1, if_pos c2, rd_at hp, if_neg (show ¬ (rf p).f2 = true by simp [rf, hm2])]
  ·
   have hgood : must = true → p.m = true := fun h => by
    cases hpm : p.m
    ·exact absurd ⟨h, hpm⟩ hm
    ·rfl
   have body : ∃ L' : List It, RL (edgeE must P (bIn bad)) U a L' ∧ (∃ e, L' = L ++ e) ∧ (∀ y ∈ edgeE must P (bIn bad) x, y ∈ L'.map Zaz) ∧
    ∀ r, Ev (fun k => Zae.l0 k on (bad.map rf) must (L'.map rf) ((i + 1 : Nat) : Int) g.req g.wants g.binds g.conf g.reqBy g.bound g.parts) r → Ev (fun k => (Zak.f k (L.map rf) (rf p).f0 (rf p).f1 (rf p).f2).bind fun t288 => (if t288 < 0 then ((Zak.f k (bad.map rf) (rf p).f0 (rf p).f1 (rf p).f2).bind fun t290 => (if t290 < 0 then (if (L.map rf).length < 8796093022208 then (Zae.l1 k on (bad.map rf) must (L.map rf ++ [(⟨(rf p).f0, (rf p).f1, false⟩ : S44)]) (i : Int) (ps.map rf) (wrap64 ((j : Int) + 1)) g.req g.wants g.binds g.conf g.reqBy g.bound g.parts) else (none)) else (Zae.l1 k on (bad.map rf) must (L.map rf) (i : Int) (ps.map rf) (wrap64 ((j : Int) + 1)) g.req g.wants g.binds g.conf g.reqBy g.bound g.parts))) else (Zae.l1 k on (bad.map rf) must (L.map rf) (i : Int) (ps.map rf) (wrap64 ((j : Int) + 1)) g.req g.wants g.binds g.conf g.reqBy g.bound g.parts))) r := by
    obtain ⟨r1, e1, s1⟩ := has_f (l := L) (by omega) p.u p.t p.m
    obtain ⟨r2, e2, s2⟩ := has_f (l := bad) hbl p.u p.t p.m
    rcases s1 with ⟨n1, o1⟩ | ⟨n1, o1, _⟩
    ·rcases s2 with ⟨n2, o2⟩ | ⟨n2, o2, _⟩
     ·
      have hb : bIn bad (Zaz p) = false := decide_eq_false o2
      have hy : Zaz p ∈ edgeE must P (bIn bad) x := mem_edge.2 ⟨p, hpP, hgood, hb, rfl⟩
      obtain ⟨L', h1, ⟨e, h2⟩, h3, h4⟩ := ih (j + 1) (by omega) (by omega) _ (hL.add hx hy (hT x p hpP).1 o1) (by rw [List.map_append]; exact List.mem_append_left _ hx) (fun q hq hqm hqb => by
       rw [List.map_append]
       rw [take_at hp] at hq
       rcases List.mem_append.1 hq with hq | hq
       ·exact List.mem_append_left _ (hd q hq hqm hqb)
       ·rw [List.mem_singleton.1 hq]; exact List.mem_append_right _ (by simp [Zaz]))
      refine ⟨L', h1, ⟨_, h2.trans (List.append_assoc _ _ _)⟩, h3, fun r hr => ?_⟩
      refine Ev.bind e1 ((Ev.bind e2 ((h4 r hr).congr fun k => ?_)).congr fun k => if_pos n1)
      show (if r2 < 0 then _ else _) = _
      rw [if_pos n2, if_pos (by rw [List.length_map]; omega), hw, List.map_append]
      rfl
     ·obtain ⟨L', h1, h2, h3, h4⟩ := skip (fun _ h => by rw [show bIn bad (Zaz p) = true from decide_eq_true o2] at h; cases h)
      refine ⟨L', h1, h2, h3, fun r hr => ?_⟩
      refine Ev.bind e1 ((Ev.bind e2 ((h4 r hr).congr fun k => ?_)).congr fun k => if_pos n1)
      show (if r2 < 0 then _ else _) = _
      rw [if_neg (by omega)]
    ·obtain ⟨L', h1, h2, h3, h4⟩ := skip (fun _ _ => o1)
     refine ⟨L', h1, h2, h3, fun r hr => ?_⟩
     exact Ev.bind e1 ((h4 r hr).congr fun k => if_neg (by omega))
   obtain ⟨L', h1, h2, h3, h4⟩ := body
   refine ⟨L', h1, h2, h3, fun r hr => (h4 r hr).next fun k => ?_⟩
   cases hmu : must
   ·rw [Zae.l1, if_pos c1, if_neg (by simp), if_pos c2, rd_at hp]
   ·rw [Zae.l1, if_pos c1, if_pos rfl, if_pos c2, rd_at hp, if_pos (show (rf p).f2 = true from hgood hmu)]
theorem reach_l0 {g : GL} (hg : okG g = true) {on : List Bool} (hon : on.length ≤ 1000) {must : Bool} {bad : List It} (hbl : bad.length ≤ 1000000) {a : Jb} :
  ∀ (n i : Nat), n = 1 + (Zdu on.length).length - i → ∀ L : List It, RL (edgeE must (Zcc g on) (bIn bad)) (Zdu on.length) a L → i ≤ L.length →
   (∀ (j : Nat) (x : It), j < i → L[j]? = some x → ∀ y ∈ edgeE must (Zcc g on) (bIn bad) (Zaz x), y ∈ L.map Zaz) →
   ∃ L' : List It, RL (edgeE must (Zcc g on) (bIn bad)) (Zdu on.length) a L' ∧ (∀ x ∈ L', ∀ y ∈ edgeE must (Zcc g on) (bIn bad) (Zaz x), y ∈ L'.map Zaz) ∧
    Ev (fun k => Zae.l0 k on (bad.map rf) must (L.map rf) (i : Int) g.req g.wants g.binds g.conf g.reqBy g.bound g.parts) (L'.map rf) := by
 have hT := pull_tame g on
 have hU := jobsU_length on.length
 intro n
 induction n with
 | zero =>
  intro i hn L hL hi hd
  have := hL.len
  have : i = L.length := by omega
  subst this
  refine ⟨L, hL, fun x hx => ?_, (Ev.const _).next fun k => ?_⟩
  ·obtain ⟨j, hj, rfl⟩ := List.mem_iff_getElem.1 hx
   exact hd j _ hj (List.getElem?_eq_getElem hj)
  ·rw [Zae.l0, if_neg (by simp)]
 | succ n ih =>
  intro i hn L hL hi hd
  have hlen := hL.len
  by_cases hil : i < L.length
  ·obtain ⟨x, hx⟩ := get_lt hil
   have hpl := pullJ_lenG hg on (Zaz x)
   obtain ⟨L1, h1, ⟨e, h2⟩, h3, h4⟩ := reach_l1 (g := g) (on := on) (must := must) hT hbl (by omega) (x := Zaz x) rfl (by omega) (i := i) (by omega) _ 0 rfl (Nat.zero_le _) L hL (List.mem_map_of_mem (List.mem_of_getElem? hx)) (fun q hq => by rw [List.take_zero] at hq; cases hq)
   have hlt1 : i < L1.length := by rw [h2, List.length_append]; omega
   obtain ⟨L', k1, k2, k3⟩ := ih (i + 1) (by omega) L1 h1 hlt1 (fun j z hj hz y hy => by
    rw [h2, List.getElem?_append_left (by omega)] at hz
    by_cases hji : j < i
    ·have := hd j z hji hz y hy
     rw [h2, List.map_append]
     exact List.mem_append_left _ this
    ·have : j = i := by omega
     subst this
     rw [hx] at hz
     cases hz
     exact h3 y hy)
   refine ⟨L', k1, k2, ?_⟩
   have h5 := Ev.bind (refPulls_f hg on x.u x.t x.m) (f := fun k t283 => Zae.l1 k on (bad.map rf) must (L.map rf) (i : Int) t283 0 g.req g.wants g.binds g.conf g.reqBy g.bound g.parts) (h4 _ k3)
   refine h5.next fun k => ?_
   rw [Zae.l0, if_pos (by simpa using hil), if_pos (by omega), rd_at hx]
   rfl
  ·have : i = L.length := by omega
   subst this
   refine ⟨L, hL, fun x hx => ?_, (Ev.const _).next fun k => ?_⟩
   ·obtain ⟨j, hj, rfl⟩ := List.mem_iff_getElem.1 hx
    exact hd j _ hj (List.getElem?_eq_getElem hj)
   ·rw [Zae.l0, if_neg (by simp)]
theorem refReach_f {g : GL} (hg : okG g = true) {on : List Bool} (hon : on.length ≤ 1000) (must : Bool) {bad : List It} (hbl : bad.length ≤ 1000000) (a : Jb) :
  ∃ L : List It, (∀ x, x ∈ L.map Zaz ↔ Rc (edgeE must (Zcc g on) (bIn bad)) [a] x) ∧ (∀ x ∈ L, x.m = false) ∧ L.length ≤ 1 + 3 * on.length ∧
   Ev (fun k => Zae.f k g.req g.wants g.binds g.conf g.reqBy g.bound g.parts on a.1 a.2 false (bad.map rf) must) (L.map rf) := by
 obtain ⟨L, h1, h2, h3⟩ := reach_l0 hg hon (must := must) hbl (a := a) _ 0 rfl [⟨a.1, a.2, false⟩] ⟨by simp [Zaz], by simp, fun x hx => by simp [Zaz] at hx; rw [hx]; simp, fun x hx => .base (by simpa [Zaz] using hx), fun x hx => by rw [List.mem_singleton.1 hx]⟩ (Nat.zero_le _) (fun j x hj => by omega)
 refine ⟨L, fun x => ⟨h1.rc x, fun hx => hx.least (T := fun x => x ∈ L.map Zaz) (fun y hy => by rw [List.mem_singleton.1 hy]; exact h1.start) fun y z hy hz => ?_⟩, h1.mf, by have := h1.len; rw [jobsU_length] at this; exact this, h3.congr fun k => rfl⟩
 obtain ⟨w, hw, rfl⟩ := List.mem_map.1 hy
 exact h2 w hw z hz
end Go.Proofs.Ytclgclcoblfddaa
