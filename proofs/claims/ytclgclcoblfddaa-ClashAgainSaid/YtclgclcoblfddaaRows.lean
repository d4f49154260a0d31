/-
  No cell of these rows narrows 'for every input' (looked for: loops, veiled, ifaces, maps, wideKeys, modest, calm, conditions, laid).
  DERIVED. THE GIVEN ROWS OF THIS SEAT. 9 by the template 'for every input the law returns true; each argument reads behind the call as it read before'; 0 by the template 'total and deterministic' (their statements: YtclgclcoblfddaaTotals.lean).
  GIVEN WITH THE SEED: the statements are not yours to turn. If you find one false, say at which input.
  Laid BY PROGRAM, IN A SANDBOX (cutbox-rows.mjs): the forced cells as the released guide's own fill.sh prints them over the translation b3aa70ae74edfb99… (all of the seat's roots in one cut). By AI agents, Wed Nov 11 2026. No macro, syntax, notation, axiom, sorry.
-/
import Derived.Test.YtclgclcoblfddaaChecked
import GoSem.Claim
import GoSem.ClaimJoined
import GoSem.ClaimMapViews
import Derived.JoinedTies
import Derived.KernelRfl
namespace Go.Proofs.Ytclgclcoblfddaa
/- THE CELL 'sum', in the pinned program and in every row, IS THE sha256 OF THE DUMP (.gsa) THAT YtclgclcoblfddaaProg.lean LOADS. Nothing in Lean hashes anything: it is a label: what it is worth is what the hold of that sum in a sandbox is worth. -/
noncomputable def Try.pinned : Pinned := { name := "ytclgclcoblfddaa", sum := "b3aa70ae74edfb99a2055d7cda90e5cc68e818540066c1b9e52ba89c72592c88", checked := Try.checked }
namespace Rows
def none {H : Type} : Left H := { results := [], args := [] }

/-- 'clepsydralaw21.ClosureStop': WHATEVER THE INPUT: true; the input reads as it did. -/
def closureStopSpec : ChangeSpec := { name := "closureStop", fn := fun _ => fun
  | [d1, d2, d3] => { results := [.lit (.bool true)], args := [d1, d2, d3] }
  | _ => none }
def closureStopRow : OpenClaim := { program := "ytclgclcoblfddaa", sum := "b3aa70ae74edfb99a2055d7cda90e5cc68e818540066c1b9e52ba89c72592c88", func := "clepsydra/clepsydralaw21.ClosureStop", spec := "closureStop", unfollowed := true, recurses := true, plainKeys := false, apart := false }
def ClosureStopSaid : Prop := closureStopRow.holds Try.pinned (OpenSpec.ofChange closureStopSpec)

/-- ITS FALSE NEIGHBOUR: 'it returns false'. Refute it at one input. -/
def closureStopWrong : ChangeSpec := { name := "closureStop", fn := fun _ => fun
  | [d1, d2, d3] => { results := [.lit (.bool false)], args := [d1, d2, d3] }
  | _ => none }
def ClosureStopWrongFalsely : Prop := closureStopRow.holds Try.pinned (OpenSpec.ofChange closureStopWrong)

/-- 'clepsydralaw21.ClosureOf': WHATEVER THE INPUT: true; the input reads as it did. -/
def closureOfSpec : ChangeSpec := { name := "closureOf", fn := fun _ => fun
  | [d1, d2, d3, d4, d5] => { results := [.lit (.bool true)], args := [d1, d2, d3, d4, d5] }
  | _ => none }
def closureOfRow : OpenClaim := { program := "ytclgclcoblfddaa", sum := "b3aa70ae74edfb99a2055d7cda90e5cc68e818540066c1b9e52ba89c72592c88", func := "clepsydra/clepsydralaw21.ClosureOf", spec := "closureOf", unfollowed := true, recurses := true, plainKeys := false, apart := false }
def ClosureOfSaid : Prop := closureOfRow.holds Try.pinned (OpenSpec.ofChange closureOfSpec)

/-- ITS FALSE NEIGHBOUR: 'it returns false'. Refute it at one input. -/
def closureOfWrong : ChangeSpec := { name := "closureOf", fn := fun _ => fun
  | [d1, d2, d3, d4, d5] => { results := [.lit (.bool false)], args := [d1, d2, d3, d4, d5] }
  | _ => none }
def ClosureOfWrongFalsely : Prop := closureOfRow.holds Try.pinned (OpenSpec.ofChange closureOfWrong)

/-- 'clepsydralaw21.ClosureClosed': WHATEVER THE INPUT: true; the input reads as it did. -/
def closureClosedSpec : ChangeSpec := { name := "closureClosed", fn := fun _ => fun
  | [d1, d2, d3] => { results := [.lit (.bool true)], args := [d1, d2, d3] }
  | _ => none }
def closureClosedRow : OpenClaim := { program := "ytclgclcoblfddaa", sum := "b3aa70ae74edfb99a2055d7cda90e5cc68e818540066c1b9e52ba89c72592c88", func := "clepsydra/clepsydralaw21.ClosureClosed", spec := "closureClosed", unfollowed := true, recurses := true, plainKeys := false, apart := false }
def ClosureClosedSaid : Prop := closureClosedRow.holds Try.pinned (OpenSpec.ofChange closureClosedSpec)

/-- ITS FALSE NEIGHBOUR: 'it returns false'. Refute it at one input. -/
def closureClosedWrong : ChangeSpec := { name := "closureClosed", fn := fun _ => fun
  | [d1, d2, d3] => { results := [.lit (.bool false)], args := [d1, d2, d3] }
  | _ => none }
def ClosureClosedWrongFalsely : Prop := closureClosedRow.holds Try.pinned (OpenSpec.ofChange closureClosedWrong)

/-- 'clepsydralaw21.ClosurePulls': WHATEVER THE INPUT: true; the input reads as it did. -/
def closurePullsSpec : ChangeSpec := { name := "closurePulls", fn := fun _ => fun
  | [d1, d2, d3, d4, d5] => { results := [.lit (.bool true)], args := [d1, d2, d3, d4, d5] }
  | _ => none }
def closurePullsRow : OpenClaim := { program := "ytclgclcoblfddaa", sum := "b3aa70ae74edfb99a2055d7cda90e5cc68e818540066c1b9e52ba89c72592c88", func := "clepsydra/clepsydralaw21.ClosurePulls", spec := "closurePulls", unfollowed := true, recurses := true, plainKeys := false, apart := false }
def ClosurePullsSaid : Prop := closurePullsRow.holds Try.pinned (OpenSpec.ofChange closurePullsSpec)

/-- ITS FALSE NEIGHBOUR: 'it returns false'. Refute it at one input. -/
def closurePullsWrong : ChangeSpec := { name := "closurePulls", fn := fun _ => fun
  | [d1, d2, d3, d4, d5] => { results := [.lit (.bool false)], args := [d1, d2, d3, d4, d5] }
  | _ => none }
def ClosurePullsWrongFalsely : Prop := closurePullsRow.holds Try.pinned (OpenSpec.ofChange closurePullsWrong)

/-- 'clepsydralaw21.ClosureKnown': WHATEVER THE INPUT: true; the input reads as it did. -/
def closureKnownSpec : ChangeSpec := { name := "closureKnown", fn := fun _ => fun
  | [] => { results := [.lit (.bool true)], args := [] }
  | _ => none }
def closureKnownRow : OpenClaim := { program := "ytclgclcoblfddaa", sum := "b3aa70ae74edfb99a2055d7cda90e5cc68e818540066c1b9e52ba89c72592c88", func := "clepsydra/clepsydralaw21.ClosureKnown", spec := "closureKnown", unfollowed := true, recurses := true, plainKeys := false, apart := false }
def ClosureKnownSaid : Prop := closureKnownRow.holds Try.pinned (OpenSpec.ofChange closureKnownSpec)

/-- ITS FALSE NEIGHBOUR: 'it returns false'. Refute it at one input. -/
def closureKnownWrong : ChangeSpec := { name := "closureKnown", fn := fun _ => fun
  | [] => { results := [.lit (.bool false)], args := [] }
  | _ => none }
def ClosureKnownWrongFalsely : Prop := closureKnownRow.holds Try.pinned (OpenSpec.ofChange closureKnownWrong)

/-- 'clepsydralaw22.ClashFree': WHATEVER THE INPUT: true; the input reads as it did. -/
def clashFreeSpec : ChangeSpec := { name := "clashFree", fn := fun _ => fun
  | [d1, d2, d3, d4] => { results := [.lit (.bool true)], args := [d1, d2, d3, d4] }
  | _ => none }
def clashFreeRow : OpenClaim := { program := "ytclgclcoblfddaa", sum := "b3aa70ae74edfb99a2055d7cda90e5cc68e818540066c1b9e52ba89c72592c88", func := "clepsydra/clepsydralaw22.ClashFree", spec := "clashFree", unfollowed := true, recurses := true, plainKeys := false, apart := false }
def ClashFreeSaid : Prop := clashFreeRow.holds Try.pinned (OpenSpec.ofChange clashFreeSpec)

/-- ITS FALSE NEIGHBOUR: 'it returns false'. Refute it at one input. -/
def clashFreeWrong : ChangeSpec := { name := "clashFree", fn := fun _ => fun
  | [d1, d2, d3, d4] => { results := [.lit (.bool false)], args := [d1, d2, d3, d4] }
  | _ => none }
def ClashFreeWrongFalsely : Prop := clashFreeRow.holds Try.pinned (OpenSpec.ofChange clashFreeWrong)

/-- 'clepsydralaw22.ClashAgain': WHATEVER THE INPUT: true; the input reads as it did. -/
def clashAgainSpec : ChangeSpec := { name := "clashAgain", fn := fun _ => fun
  | [d1, d2, d3, d4] => { results := [.lit (.bool true)], args := [d1, d2, d3, d4] }
  | _ => none }
def clashAgainRow : OpenClaim := { program := "ytclgclcoblfddaa", sum := "b3aa70ae74edfb99a2055d7cda90e5cc68e818540066c1b9e52ba89c72592c88", func := "clepsydra/clepsydralaw22.ClashAgain", spec := "clashAgain", unfollowed := true, recurses := true, plainKeys := false, apart := false }
def ClashAgainSaid : Prop := clashAgainRow.holds Try.pinned (OpenSpec.ofChange clashAgainSpec)

/-- ITS FALSE NEIGHBOUR: 'it returns false'. Refute it at one input. -/
def clashAgainWrong : ChangeSpec := { name := "clashAgain", fn := fun _ => fun
  | [d1, d2, d3, d4] => { results := [.lit (.bool false)], args := [d1, d2, d3, d4] }
  | _ => none }
def ClashAgainWrongFalsely : Prop := clashAgainRow.holds Try.pinned (OpenSpec.ofChange clashAgainWrong)

/-- 'clepsydralaw22.ClashVictim': WHATEVER THE INPUT: true; the input reads as it did. -/
def clashVictimSpec : ChangeSpec := { name := "clashVictim", fn := fun _ => fun
  | [d1, d2] => { results := [.lit (.bool true)], args := [d1, d2] }
  | _ => none }
def clashVictimRow : OpenClaim := { program := "ytclgclcoblfddaa", sum := "b3aa70ae74edfb99a2055d7cda90e5cc68e818540066c1b9e52ba89c72592c88", func := "clepsydra/clepsydralaw22.ClashVictim", spec := "clashVictim", unfollowed := true, recurses := true, plainKeys := false, apart := false }
def ClashVictimSaid : Prop := clashVictimRow.holds Try.pinned (OpenSpec.ofChange clashVictimSpec)

/-- ITS FALSE NEIGHBOUR: 'it returns false'. Refute it at one input. -/
def clashVictimWrong : ChangeSpec := { name := "clashVictim", fn := fun _ => fun
  | [d1, d2] => { results := [.lit (.bool false)], args := [d1, d2] }
  | _ => none }
def ClashVictimWrongFalsely : Prop := clashVictimRow.holds Try.pinned (OpenSpec.ofChange clashVictimWrong)

/-- 'clepsydralaw22.ClashKnown': WHATEVER THE INPUT: true; the input reads as it did. -/
def clashKnownSpec : ChangeSpec := { name := "clashKnown", fn := fun _ => fun
  | [] => { results := [.lit (.bool true)], args := [] }
  | _ => none }
def clashKnownRow : OpenClaim := { program := "ytclgclcoblfddaa", sum := "b3aa70ae74edfb99a2055d7cda90e5cc68e818540066c1b9e52ba89c72592c88", func := "clepsydra/clepsydralaw22.ClashKnown", spec := "clashKnown", unfollowed := true, recurses := true, plainKeys := false, apart := false }
def ClashKnownSaid : Prop := clashKnownRow.holds Try.pinned (OpenSpec.ofChange clashKnownSpec)

/-- ITS FALSE NEIGHBOUR: 'it returns false'. Refute it at one input. -/
def clashKnownWrong : ChangeSpec := { name := "clashKnown", fn := fun _ => fun
  | [] => { results := [.lit (.bool false)], args := [] }
  | _ => none }
def ClashKnownWrongFalsely : Prop := clashKnownRow.holds Try.pinned (OpenSpec.ofChange clashKnownWrong)

/- THE SECOND FORM. 'bulk': how many values and letters a reading holds, each counted each time it is reached (what is shared counts as often as it is met; a slice's spare places count too). A statement '..UptoSaid' is the law's where the arguments, and the package variables that the reading takes, are together of bulk at most 1048576: NARROWER than '..Said'. Prove '..Said' where nothing that the law and all that it calls make is longer than what came in: it says more and counts as full. Else prove '..UptoSaid'. A law counts once. -/
mutual
def uptoBulk {H : Type} : DataW H → Nat
  | .lit (.string bytes) => bytes.length + 1
  | .lit _ => 1
  | .nil => 1
  | .ptr d => uptoBulk d + 1
  | .slice elems spare => uptoBulkAll elems + uptoBulkAll spare + 1
  | .agg parts => uptoBulkAll parts + 1
  | .iface _ d => uptoBulk d + 1
  | .map entries => uptoBulkEntries entries + 1
  | .held _ => 1
def uptoBulkAll {H : Type} : List (DataW H) → Nat
  | [] => 0
  | d :: r => uptoBulk d + uptoBulkAll r
def uptoBulkEntries {H : Type} : List (Lit × DataW H) → Nat
  | [] => 0
  | x :: r => uptoBulkEntry x + uptoBulkEntries r
def uptoBulkEntry {H : Type} : Lit × DataW H → Nat
  | (.string bytes, d) => bytes.length + uptoBulk d + 1
  | (_, d) => uptoBulk d + 1
 end
def uptoSmall : (H : Type) → List (DataW H) → Bool := fun _ ds => decide (uptoBulkAll ds ≤ 1048576)
def OpenSpec.upto (s : _root_.Go.ChangeSpec) : _root_.Go.OpenSpec := { _root_.Go.OpenSpec.ofChange s with cond := some uptoSmall }

/-- 'clepsydralaw21.ClosureStop', WHERE WHAT IT READS IS OF BULK AT MOST 1048576: true; the input reads as it did. -/
def closureStopUptoRow : OpenClaim := { program := "ytclgclcoblfddaa", sum := "b3aa70ae74edfb99a2055d7cda90e5cc68e818540066c1b9e52ba89c72592c88", func := "clepsydra/clepsydralaw21.ClosureStop", spec := "closureStop", unfollowed := true, recurses := true, plainKeys := false, apart := false, narrowed := true }
def ClosureStopUptoSaid : Prop := closureStopUptoRow.holds Try.pinned (OpenSpec.upto closureStopSpec)

/-- 'clepsydralaw21.ClosureOf', WHERE WHAT IT READS IS OF BULK AT MOST 1048576: true; the input reads as it did. -/
def closureOfUptoRow : OpenClaim := { program := "ytclgclcoblfddaa", sum := "b3aa70ae74edfb99a2055d7cda90e5cc68e818540066c1b9e52ba89c72592c88", func := "clepsydra/clepsydralaw21.ClosureOf", spec := "closureOf", unfollowed := true, recurses := true, plainKeys := false, apart := false, narrowed := true }
def ClosureOfUptoSaid : Prop := closureOfUptoRow.holds Try.pinned (OpenSpec.upto closureOfSpec)

/-- 'clepsydralaw21.ClosureClosed', WHERE WHAT IT READS IS OF BULK AT MOST 1048576: true; the input reads as it did. -/
def closureClosedUptoRow : OpenClaim := { program := "ytclgclcoblfddaa", sum := "b3aa70ae74edfb99a2055d7cda90e5cc68e818540066c1b9e52ba89c72592c88", func := "clepsydra/clepsydralaw21.ClosureClosed", spec := "closureClosed", unfollowed := true, recurses := true, plainKeys := false, apart := false, narrowed := true }
def ClosureClosedUptoSaid : Prop := closureClosedUptoRow.holds Try.pinned (OpenSpec.upto closureClosedSpec)

/-- 'clepsydralaw21.ClosurePulls', WHERE WHAT IT READS IS OF BULK AT MOST 1048576: true; the input reads as it did. -/
def closurePullsUptoRow : OpenClaim := { program := "ytclgclcoblfddaa", sum := "b3aa70ae74edfb99a2055d7cda90e5cc68e818540066c1b9e52ba89c72592c88", func := "clepsydra/clepsydralaw21.ClosurePulls", spec := "closurePulls", unfollowed := true, recurses := true, plainKeys := false, apart := false, narrowed := true }
def ClosurePullsUptoSaid : Prop := closurePullsUptoRow.holds Try.pinned (OpenSpec.upto closurePullsSpec)

/-- 'clepsydralaw21.ClosureKnown', WHERE WHAT IT READS IS OF BULK AT MOST 1048576: true; the input reads as it did. -/
def closureKnownUptoRow : OpenClaim := { program := "ytclgclcoblfddaa", sum := "b3aa70ae74edfb99a2055d7cda90e5cc68e818540066c1b9e52ba89c72592c88", func := "clepsydra/clepsydralaw21.ClosureKnown", spec := "closureKnown", unfollowed := true, recurses := true, plainKeys := false, apart := false, narrowed := true }
def ClosureKnownUptoSaid : Prop := closureKnownUptoRow.holds Try.pinned (OpenSpec.upto closureKnownSpec)

/-- 'clepsydralaw22.ClashFree', WHERE WHAT IT READS IS OF BULK AT MOST 1048576: true; the input reads as it did. -/
def clashFreeUptoRow : OpenClaim := { program := "ytclgclcoblfddaa", sum := "b3aa70ae74edfb99a2055d7cda90e5cc68e818540066c1b9e52ba89c72592c88", func := "clepsydra/clepsydralaw22.ClashFree", spec := "clashFree", unfollowed := true, recurses := true, plainKeys := false, apart := false, narrowed := true }
def ClashFreeUptoSaid : Prop := clashFreeUptoRow.holds Try.pinned (OpenSpec.upto clashFreeSpec)

/-- 'clepsydralaw22.ClashAgain', WHERE WHAT IT READS IS OF BULK AT MOST 1048576: true; the input reads as it did. -/
def clashAgainUptoRow : OpenClaim := { program := "ytclgclcoblfddaa", sum := "b3aa70ae74edfb99a2055d7cda90e5cc68e818540066c1b9e52ba89c72592c88", func := "clepsydra/clepsydralaw22.ClashAgain", spec := "clashAgain", unfollowed := true, recurses := true, plainKeys := false, apart := false, narrowed := true }
def ClashAgainUptoSaid : Prop := clashAgainUptoRow.holds Try.pinned (OpenSpec.upto clashAgainSpec)

/-- 'clepsydralaw22.ClashVictim', WHERE WHAT IT READS IS OF BULK AT MOST 1048576: true; the input reads as it did. -/
def clashVictimUptoRow : OpenClaim := { program := "ytclgclcoblfddaa", sum := "b3aa70ae74edfb99a2055d7cda90e5cc68e818540066c1b9e52ba89c72592c88", func := "clepsydra/clepsydralaw22.ClashVictim", spec := "clashVictim", unfollowed := true, recurses := true, plainKeys := false, apart := false, narrowed := true }
def ClashVictimUptoSaid : Prop := clashVictimUptoRow.holds Try.pinned (OpenSpec.upto clashVictimSpec)

/-- 'clepsydralaw22.ClashKnown', WHERE WHAT IT READS IS OF BULK AT MOST 1048576: true; the input reads as it did. -/
def clashKnownUptoRow : OpenClaim := { program := "ytclgclcoblfddaa", sum := "b3aa70ae74edfb99a2055d7cda90e5cc68e818540066c1b9e52ba89c72592c88", func := "clepsydra/clepsydralaw22.ClashKnown", spec := "clashKnown", unfollowed := true, recurses := true, plainKeys := false, apart := false, narrowed := true }
def ClashKnownUptoSaid : Prop := clashKnownUptoRow.holds Try.pinned (OpenSpec.upto clashKnownSpec)

end Rows
end Go.Proofs.Ytclgclcoblfddaa
