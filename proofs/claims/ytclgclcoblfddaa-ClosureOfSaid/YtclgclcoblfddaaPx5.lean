/- Printed by a program for this claim: functions of the program as plain functions, and that the machine computes them. -/
import Derived.Test.YtclgclcoblfddaaPx0
import Derived.Test.YtclgclcoblfddaaPShort
import Derived.Test.YtclgclcoblfddaaPx2
import Derived.Test.YtclgclcoblfddaaPx4
namespace Go.Proofs.Ytclgclcoblfddaa.P
open Go.RowKit Go.Proofs.YtclgclcoblfddaaW.PrintWords Go.Proofs.YtclgclcoblfddaaW.PrintLast Go.Proofs.YtclgclcoblfddaaW.PrintMore
attribute [local go_sem] Zeg Zee Zfg Zff Zdo Zdm Zef Zed
set_option linter.unusedVariables false
set_option linter.unusedSimpArgs false
attribute [local go_sem high] eqA34
mutual
def Zbg.j0 : Nat → List Bool → Int → Bool → List (List Int) → List (List Int) → List (List Int) → List (List Int) → List (List Int) → List (List Int) → List (List Int) → List (List Int) → List (List Int) → List (List Int) → Option (Bool)
 | 0, _, _, _, _, _, _, _, _, _, _, _, _, _ => none
 | k + 1, x1, x2, x29, x116000, x116001, x116002, x116003, x116004, x116005, x116006, x116007, x116008, x116009 => if x29 = true then ((Zbq.f).bind fun t117 => (some t117)) else (if 0 ≤ (x1.length : Int) then (if ((x1.length : Int) : Int).toNat ≤ 281474976710656 then ((Zcs.f x116000 x116001 x116002 x116003 x116004 x116005 x116006 x116007 x116008 x116009 (List.replicate ((x1.length : Int) : Int).toNat false) x2 2 ([] : List (S32))).bind fun bt121 => ((Zcs.f x116000 x116001 x116002 x116003 x116004 x116005 x116006 x116007 x116008 x116009 x1 x2 2 ([] : List (S32))).bind fun bt125 => ((Zcs.f x116000 x116001 x116002 x116003 x116004 x116005 x116006 x116007 x116008 x116009 x1 x2 1 ([] : List (S32))).bind fun bt129 => (if bt121.2 = true then (if (bt121.1.length : Int) = 1 then (if 0 < (bt121.1.length : Int) then (if ((!(((Zby bt121.1 0).f0.f0) == x2) || (!(((Zby bt121.1 0).f0.f1) == 2))) || (!((Zby bt121.1 0).f1))) = true then (Zbg.j1 k bt125.1 bt129.1 true) else (if bt125.2 = true then (Zbg.j1 k bt125.1 bt129.1 (!bt129.2)) else (Zbg.j1 k bt125.1 bt129.1 true))) else (none)) else (Zbg.j1 k bt125.1 bt129.1 true)) else (Zbg.j1 k bt125.1 bt129.1 true))))) else (none)) else (none))
def Zbg.j1 : Nat → List (S34) → List (S34) → Bool → Option (Bool)
 | 0, _, _, _ => none
 | k + 1, x10, x12, x81 => if x81 = true then (some false) else (Zbg.l0 k x10 x12 0)
def Zbg.l0 : Nat → List (S34) → List (S34) → Int → Option (Bool)
 | 0, _, _, _ => none
 | k + 1, x10, x12, x14 => if x14 < (x10.length : Int) then (if 0 ≤ x14 then (if ((Zby x10 x14).f0.f1) = 2 then (if ((Zby x10 x14).f1 = true) then (Zbg.l0 k x10 x12 (wrap64 (x14 + 1))) else (some false)) else (some false)) else (none)) else (Zbg.l1 k x12 0)
def Zbg.l1 : Nat → List (S34) → Int → Option (Bool)
 | 0, _, _ => none
 | k + 1, x12, x15 => if x15 < (x12.length : Int) then (if 0 ≤ x15 then (if ((Zby x12 x15).f0.f1) = 3 then (some false) else (Zbg.l1 k x12 (wrap64 (x15 + 1)))) else (none)) else ((Zbq.f).bind fun t137 => (some t137))
end
def Zbg.f (k : Nat) (l0_0 : List (List Int)) (l0_1 : List (List Int)) (l0_2 : List (List Int)) (l0_3 : List (List Int)) (l0_4 : List (List Int)) (l0_5 : List (List Int)) (l0_6 : List (List Int)) (l0_7 : List (List Int)) (l0_8 : List (List Int)) (l0_9 : List (List Int)) (l1 : List Bool) (a2 : Int) : Option (Bool) := (Zcu.f k l0_0 l0_1 l0_2 l0_3 l0_4 l0_5 l0_6 l0_7 l0_8 l0_9 l1 ([] : List (S32))).bind fun t116 => (if t116 = true then (if a2 < 0 then (Zbg.j0 k l1 a2 true l0_0 l0_1 l0_2 l0_3 l0_4 l0_5 l0_6 l0_7 l0_8 l0_9) else (Zbg.j0 k l1 a2 (decide (a2 ≥ (l1.length : Int))) l0_0 l0_1 l0_2 l0_3 l0_4 l0_5 l0_6 l0_7 l0_8 l0_9)) else (Zbg.j0 k l1 a2 true l0_0 l0_1 l0_2 l0_3 l0_4 l0_5 l0_6 l0_7 l0_8 l0_9))
end Go.Proofs.Ytclgclcoblfddaa.P
