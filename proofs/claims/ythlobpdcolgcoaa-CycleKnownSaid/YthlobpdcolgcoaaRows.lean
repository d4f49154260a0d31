/-
  No cell of these rows narrows 'for every input' (looked for: loops, veiled, ifaces, maps, wideKeys, modest, calm, conditions, laid).
  DERIVED. THE GIVEN ROWS OF THIS SEAT. 5 by the template 'for every input the law returns true; each argument reads behind the call as it read before'; 0 by the template 'total and deterministic' (their statements: YthlobpdcolgcoaaTotals.lean).
  GIVEN WITH THE SEED: the statements are not yours to turn. If you find one false, say at which input.
  Laid BY PROGRAM, IN A SANDBOX (cutbox-rows.mjs): the forced cells as the released guide's own fill.sh prints them over the translation c4e31855246281fa… (all of the seat's roots in one cut). By AI agents, Wed Nov 11 2026. No macro, syntax, notation, axiom, sorry.
-/
import Derived.Test.YthlobpdcolgcoaaChecked
import GoSem.Claim
import GoSem.ClaimJoined
import GoSem.ClaimMapViews
import Derived.JoinedTies
import Derived.KernelRfl
namespace Go.Proofs.Ythlobpdcolgcoaa
/- THE CELL 'sum', in the pinned program and in every row, IS THE sha256 OF THE DUMP (.gsa) THAT YthlobpdcolgcoaaProg.lean LOADS. Nothing in Lean hashes anything: it is a label: what it is worth is what the hold of that sum in a sandbox is worth. -/
noncomputable def Try.pinned : Pinned := { name := "ythlobpdcolgcoaa", sum := "c4e31855246281fa16bd0dd754519722e69cca44db0828212d2a228b1ec03ef5", checked := Try.checked }
namespace Rows
def none {H : Type} : Left H := { results := [], args := [] }

/-- 'clepsydralaw23.CycleAhead': WHATEVER THE INPUT: true; the input reads as it did. -/
def cycleAheadSpec : ChangeSpec := { name := "cycleAhead", fn := fun _ => fun
  | [d1, d2, d3] => { results := [.lit (.bool true)], args := [d1, d2, d3] }
  | _ => none }
def cycleAheadRow : OpenClaim := { program := "ythlobpdcolgcoaa", sum := "c4e31855246281fa16bd0dd754519722e69cca44db0828212d2a228b1ec03ef5", func := "clepsydra/clepsydralaw23.CycleAhead", spec := "cycleAhead", unfollowed := true, recurses := true, apart := false }
def CycleAheadSaid : Prop := cycleAheadRow.holds Try.pinned (OpenSpec.ofChange cycleAheadSpec)

/-- ITS FALSE NEIGHBOUR: 'it returns false'. Refute it at one input. -/
def cycleAheadWrong : ChangeSpec := { name := "cycleAhead", fn := fun _ => fun
  | [d1, d2, d3] => { results := [.lit (.bool false)], args := [d1, d2, d3] }
  | _ => none }
def CycleAheadWrongFalsely : Prop := cycleAheadRow.holds Try.pinned (OpenSpec.ofChange cycleAheadWrong)

/-- 'clepsydralaw23.CycleMany': WHATEVER THE INPUT: true; the input reads as it did. -/
def cycleManySpec : ChangeSpec := { name := "cycleMany", fn := fun _ => fun
  | [d1, d2, d3] => { results := [.lit (.bool true)], args := [d1, d2, d3] }
  | _ => none }
def cycleManyRow : OpenClaim := { program := "ythlobpdcolgcoaa", sum := "c4e31855246281fa16bd0dd754519722e69cca44db0828212d2a228b1ec03ef5", func := "clepsydra/clepsydralaw23.CycleMany", spec := "cycleMany", unfollowed := true, recurses := true, apart := false }
def CycleManySaid : Prop := cycleManyRow.holds Try.pinned (OpenSpec.ofChange cycleManySpec)

/-- ITS FALSE NEIGHBOUR: 'it returns false'. Refute it at one input. -/
def cycleManyWrong : ChangeSpec := { name := "cycleMany", fn := fun _ => fun
  | [d1, d2, d3] => { results := [.lit (.bool false)], args := [d1, d2, d3] }
  | _ => none }
def CycleManyWrongFalsely : Prop := cycleManyRow.holds Try.pinned (OpenSpec.ofChange cycleManyWrong)

/-- 'clepsydralaw23.CycleTurned': WHATEVER THE INPUT: true; the input reads as it did. -/
def cycleTurnedSpec : ChangeSpec := { name := "cycleTurned", fn := fun _ => fun
  | [d1, d2] => { results := [.lit (.bool true)], args := [d1, d2] }
  | _ => none }
def cycleTurnedRow : OpenClaim := { program := "ythlobpdcolgcoaa", sum := "c4e31855246281fa16bd0dd754519722e69cca44db0828212d2a228b1ec03ef5", func := "clepsydra/clepsydralaw23.CycleTurned", spec := "cycleTurned", unfollowed := true, recurses := true, apart := false }
def CycleTurnedSaid : Prop := cycleTurnedRow.holds Try.pinned (OpenSpec.ofChange cycleTurnedSpec)

/-- ITS FALSE NEIGHBOUR: 'it returns false'. Refute it at one input. -/
def cycleTurnedWrong : ChangeSpec := { name := "cycleTurned", fn := fun _ => fun
  | [d1, d2] => { results := [.lit (.bool false)], args := [d1, d2] }
  | _ => none }
def CycleTurnedWrongFalsely : Prop := cycleTurnedRow.holds Try.pinned (OpenSpec.ofChange cycleTurnedWrong)

/-- 'clepsydralaw23.CycleRing': WHATEVER THE INPUT: true; the input reads as it did. -/
def cycleRingSpec : ChangeSpec := { name := "cycleRing", fn := fun _ => fun
  | [d1, d2] => { results := [.lit (.bool true)], args := [d1, d2] }
  | _ => none }
def cycleRingRow : OpenClaim := { program := "ythlobpdcolgcoaa", sum := "c4e31855246281fa16bd0dd754519722e69cca44db0828212d2a228b1ec03ef5", func := "clepsydra/clepsydralaw23.CycleRing", spec := "cycleRing", unfollowed := true, recurses := true, apart := false }
def CycleRingSaid : Prop := cycleRingRow.holds Try.pinned (OpenSpec.ofChange cycleRingSpec)

/-- ITS FALSE NEIGHBOUR: 'it returns false'. Refute it at one input. -/
def cycleRingWrong : ChangeSpec := { name := "cycleRing", fn := fun _ => fun
  | [d1, d2] => { results := [.lit (.bool false)], args := [d1, d2] }
  | _ => none }
def CycleRingWrongFalsely : Prop := cycleRingRow.holds Try.pinned (OpenSpec.ofChange cycleRingWrong)

/-- 'clepsydralaw23.CycleKnown': WHATEVER THE INPUT: true; the input reads as it did. -/
def cycleKnownSpec : ChangeSpec := { name := "cycleKnown", fn := fun _ => fun
  | [] => { results := [.lit (.bool true)], args := [] }
  | _ => none }
def cycleKnownRow : OpenClaim := { program := "ythlobpdcolgcoaa", sum := "c4e31855246281fa16bd0dd754519722e69cca44db0828212d2a228b1ec03ef5", func := "clepsydra/clepsydralaw23.CycleKnown", spec := "cycleKnown", unfollowed := true, recurses := true, apart := false }
def CycleKnownSaid : Prop := cycleKnownRow.holds Try.pinned (OpenSpec.ofChange cycleKnownSpec)

/-- ITS FALSE NEIGHBOUR: 'it returns false'. Refute it at one input. -/
def cycleKnownWrong : ChangeSpec := { name := "cycleKnown", fn := fun _ => fun
  | [] => { results := [.lit (.bool false)], args := [] }
  | _ => none }
def CycleKnownWrongFalsely : Prop := cycleKnownRow.holds Try.pinned (OpenSpec.ofChange cycleKnownWrong)

/- THE SECOND FORM. 'bulk': how many values and letters a reading holds, each counted each time it is reached (what is shared counts as often as it is met; a slice's spare places count too). A statement '..UptoSaid' is the law's where the arguments, and the package variables that the reading takes, are together of bulk at most 1048576: NARROWER than '..Said'. Prove '..Said' where nothing that the law and all that it calls make is longer than what came in: it says more and counts as full. Else prove '..UptoSaid'. A law counts once. -/
mutual
def uptoBulk {H : Type} : DataW H → Nat
  | .lit (.string bytes) => bytes.length + 1
  | .lit _ => 1
  | .nil => 1
  | .ptr d => uptoBulk d + 1
  | .slice elems spare => uptoBulkAll elems + uptoBulkAll spare + 1
  | .agg parts => uptoBulkAll parts + 1
  | .iface _ d => uptoBulk d + 1
  | .map entries => uptoBulkEntries entries + 1
  | .held _ => 1
def uptoBulkAll {H : Type} : List (DataW H) → Nat
  | [] => 0
  | d :: r => uptoBulk d + uptoBulkAll r
def uptoBulkEntries {H : Type} : List (Lit × DataW H) → Nat
  | [] => 0
  | x :: r => uptoBulkEntry x + uptoBulkEntries r
def uptoBulkEntry {H : Type} : Lit × DataW H → Nat
  | (.string bytes, d) => bytes.length + uptoBulk d + 1
  | (_, d) => uptoBulk d + 1
 end
def uptoSmall : (H : Type) → List (DataW H) → Bool := fun _ ds => decide (uptoBulkAll ds ≤ 1048576)
def OpenSpec.upto (s : _root_.Go.ChangeSpec) : _root_.Go.OpenSpec := { _root_.Go.OpenSpec.ofChange s with cond := some uptoSmall }

/-- 'clepsydralaw23.CycleAhead', WHERE WHAT IT READS IS OF BULK AT MOST 1048576: true; the input reads as it did. -/
def cycleAheadUptoRow : OpenClaim := { program := "ythlobpdcolgcoaa", sum := "c4e31855246281fa16bd0dd754519722e69cca44db0828212d2a228b1ec03ef5", func := "clepsydra/clepsydralaw23.CycleAhead", spec := "cycleAhead", unfollowed := true, recurses := true, apart := false, narrowed := true }
def CycleAheadUptoSaid : Prop := cycleAheadUptoRow.holds Try.pinned (OpenSpec.upto cycleAheadSpec)

/-- 'clepsydralaw23.CycleMany', WHERE WHAT IT READS IS OF BULK AT MOST 1048576: true; the input reads as it did. -/
def cycleManyUptoRow : OpenClaim := { program := "ythlobpdcolgcoaa", sum := "c4e31855246281fa16bd0dd754519722e69cca44db0828212d2a228b1ec03ef5", func := "clepsydra/clepsydralaw23.CycleMany", spec := "cycleMany", unfollowed := true, recurses := true, apart := false, narrowed := true }
def CycleManyUptoSaid : Prop := cycleManyUptoRow.holds Try.pinned (OpenSpec.upto cycleManySpec)

/-- 'clepsydralaw23.CycleTurned', WHERE WHAT IT READS IS OF BULK AT MOST 1048576: true; the input reads as it did. -/
def cycleTurnedUptoRow : OpenClaim := { program := "ythlobpdcolgcoaa", sum := "c4e31855246281fa16bd0dd754519722e69cca44db0828212d2a228b1ec03ef5", func := "clepsydra/clepsydralaw23.CycleTurned", spec := "cycleTurned", unfollowed := true, recurses := true, apart := false, narrowed := true }
def CycleTurnedUptoSaid : Prop := cycleTurnedUptoRow.holds Try.pinned (OpenSpec.upto cycleTurnedSpec)

/-- 'clepsydralaw23.CycleRing', WHERE WHAT IT READS IS OF BULK AT MOST 1048576: true; the input reads as it did. -/
def cycleRingUptoRow : OpenClaim := { program := "ythlobpdcolgcoaa", sum := "c4e31855246281fa16bd0dd754519722e69cca44db0828212d2a228b1ec03ef5", func := "clepsydra/clepsydralaw23.CycleRing", spec := "cycleRing", unfollowed := true, recurses := true, apart := false, narrowed := true }
def CycleRingUptoSaid : Prop := cycleRingUptoRow.holds Try.pinned (OpenSpec.upto cycleRingSpec)

/-- 'clepsydralaw23.CycleKnown', WHERE WHAT IT READS IS OF BULK AT MOST 1048576: true; the input reads as it did. -/
def cycleKnownUptoRow : OpenClaim := { program := "ythlobpdcolgcoaa", sum := "c4e31855246281fa16bd0dd754519722e69cca44db0828212d2a228b1ec03ef5", func := "clepsydra/clepsydralaw23.CycleKnown", spec := "cycleKnown", unfollowed := true, recurses := true, apart := false, narrowed := true }
def CycleKnownUptoSaid : Prop := cycleKnownUptoRow.holds Try.pinned (OpenSpec.upto cycleKnownSpec)

end Rows
end Go.Proofs.Ythlobpdcolgcoaa
