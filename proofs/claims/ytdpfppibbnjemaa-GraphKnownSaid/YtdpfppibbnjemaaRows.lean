/-
  No cell of these rows narrows 'for every input' (looked for: loops, veiled, ifaces, maps, wideKeys, modest, calm, conditions, laid).
  DERIVED. THE GIVEN ROWS OF THIS SEAT. 8 by the template 'for every input the law returns true; each argument reads behind the call as it read before'; 0 by the template 'total and deterministic' (their statements: YtdpfppibbnjemaaTotals.lean).
  GIVEN WITH THE SEED: the statements are not yours to turn. If you find one false, say at which input.
  Laid BY PROGRAM, IN A SANDBOX (cutbox-rows.mjs): the forced cells as the released guide's own fill.sh prints them over the translation 6a1de11d59f64783… (all of the seat's roots in one cut). By AI agents, Wed Nov 11 2026. No macro, syntax, notation, axiom, sorry.
-/
import Derived.Test.YtdpfppibbnjemaaChecked
import GoSem.Claim
import GoSem.ClaimJoined
import GoSem.ClaimMapViews
import Derived.JoinedTies
import Derived.KernelRfl
namespace Go.Proofs.Ytdpfppibbnjemaa
/- THE CELL 'sum', in the pinned program and in every row, IS THE sha256 OF THE DUMP (.gsa) THAT YtdpfppibbnjemaaProg.lean LOADS. Nothing in Lean hashes anything: it is a label: what it is worth is what the hold of that sum in a sandbox is worth. -/
noncomputable def Try.pinned : Pinned := { name := "ytdpfppibbnjemaa", sum := "6a1de11d59f64783335320fa9432a93e1da0c9fb5ba06fe678231cdbff689afd", checked := Try.checked }
namespace Rows
def none {H : Type} : Left H := { results := [], args := [] }

/-- 'clepsydralaw19.GraphOf': WHATEVER THE INPUT: true; the input reads as it did. -/
def graphOfSpec : ChangeSpec := { name := "graphOf", fn := fun _ => fun
  | [d] => { results := [.lit (.bool true)], args := [d] }
  | _ => none }
def graphOfRow : OpenClaim := { program := "ytdpfppibbnjemaa", sum := "6a1de11d59f64783335320fa9432a93e1da0c9fb5ba06fe678231cdbff689afd", func := "clepsydra/clepsydralaw19.GraphOf", spec := "graphOf", unfollowed := true, recurses := true, plainKeys := false, apart := false }
def GraphOfSaid : Prop := graphOfRow.holds Try.pinned (OpenSpec.ofChange graphOfSpec)

/-- ITS FALSE NEIGHBOUR: 'it returns false'. Refute it at one input. -/
def graphOfWrong : ChangeSpec := { name := "graphOf", fn := fun _ => fun
  | [d] => { results := [.lit (.bool false)], args := [d] }
  | _ => none }
def GraphOfWrongFalsely : Prop := graphOfRow.holds Try.pinned (OpenSpec.ofChange graphOfWrong)

/-- 'clepsydralaw19.GraphAhead': WHATEVER THE INPUT: true; the input reads as it did. -/
def graphAheadSpec : ChangeSpec := { name := "graphAhead", fn := fun _ => fun
  | [d1, d2, d3] => { results := [.lit (.bool true)], args := [d1, d2, d3] }
  | _ => none }
def graphAheadRow : OpenClaim := { program := "ytdpfppibbnjemaa", sum := "6a1de11d59f64783335320fa9432a93e1da0c9fb5ba06fe678231cdbff689afd", func := "clepsydra/clepsydralaw19.GraphAhead", spec := "graphAhead", unfollowed := true, recurses := true, plainKeys := false, apart := false }
def GraphAheadSaid : Prop := graphAheadRow.holds Try.pinned (OpenSpec.ofChange graphAheadSpec)

/-- ITS FALSE NEIGHBOUR: 'it returns false'. Refute it at one input. -/
def graphAheadWrong : ChangeSpec := { name := "graphAhead", fn := fun _ => fun
  | [d1, d2, d3] => { results := [.lit (.bool false)], args := [d1, d2, d3] }
  | _ => none }
def GraphAheadWrongFalsely : Prop := graphAheadRow.holds Try.pinned (OpenSpec.ofChange graphAheadWrong)

/-- 'clepsydralaw19.GraphTurned': WHATEVER THE INPUT: true; the input reads as it did. -/
def graphTurnedSpec : ChangeSpec := { name := "graphTurned", fn := fun _ => fun
  | [d] => { results := [.lit (.bool true)], args := [d] }
  | _ => none }
def graphTurnedRow : OpenClaim := { program := "ytdpfppibbnjemaa", sum := "6a1de11d59f64783335320fa9432a93e1da0c9fb5ba06fe678231cdbff689afd", func := "clepsydra/clepsydralaw19.GraphTurned", spec := "graphTurned", unfollowed := true, recurses := true, plainKeys := false, apart := false }
def GraphTurnedSaid : Prop := graphTurnedRow.holds Try.pinned (OpenSpec.ofChange graphTurnedSpec)

/-- ITS FALSE NEIGHBOUR: 'it returns false'. Refute it at one input. -/
def graphTurnedWrong : ChangeSpec := { name := "graphTurned", fn := fun _ => fun
  | [d] => { results := [.lit (.bool false)], args := [d] }
  | _ => none }
def GraphTurnedWrongFalsely : Prop := graphTurnedRow.holds Try.pinned (OpenSpec.ofChange graphTurnedWrong)

/-- 'clepsydralaw19.GraphKnown': WHATEVER THE INPUT: true; the input reads as it did. -/
def graphKnownSpec : ChangeSpec := { name := "graphKnown", fn := fun _ => fun
  | [] => { results := [.lit (.bool true)], args := [] }
  | _ => none }
def graphKnownRow : OpenClaim := { program := "ytdpfppibbnjemaa", sum := "6a1de11d59f64783335320fa9432a93e1da0c9fb5ba06fe678231cdbff689afd", func := "clepsydra/clepsydralaw19.GraphKnown", spec := "graphKnown", unfollowed := true, recurses := true, plainKeys := false, apart := false }
def GraphKnownSaid : Prop := graphKnownRow.holds Try.pinned (OpenSpec.ofChange graphKnownSpec)

/-- ITS FALSE NEIGHBOUR: 'it returns false'. Refute it at one input. -/
def graphKnownWrong : ChangeSpec := { name := "graphKnown", fn := fun _ => fun
  | [] => { results := [.lit (.bool false)], args := [] }
  | _ => none }
def GraphKnownWrongFalsely : Prop := graphKnownRow.holds Try.pinned (OpenSpec.ofChange graphKnownWrong)

/-- 'clepsydralaw32.SpecFewer': WHATEVER THE INPUT: true; the input reads as it did. -/
def specFewerSpec : ChangeSpec := { name := "specFewer", fn := fun _ => fun
  | [d1, d2, d3] => { results := [.lit (.bool true)], args := [d1, d2, d3] }
  | _ => none }
def specFewerRow : OpenClaim := { program := "ytdpfppibbnjemaa", sum := "6a1de11d59f64783335320fa9432a93e1da0c9fb5ba06fe678231cdbff689afd", func := "clepsydra/clepsydralaw32.SpecFewer", spec := "specFewer", unfollowed := true, recurses := true, plainKeys := false, apart := false }
def SpecFewerSaid : Prop := specFewerRow.holds Try.pinned (OpenSpec.ofChange specFewerSpec)

/-- ITS FALSE NEIGHBOUR: 'it returns false'. Refute it at one input. -/
def specFewerWrong : ChangeSpec := { name := "specFewer", fn := fun _ => fun
  | [d1, d2, d3] => { results := [.lit (.bool false)], args := [d1, d2, d3] }
  | _ => none }
def SpecFewerWrongFalsely : Prop := specFewerRow.holds Try.pinned (OpenSpec.ofChange specFewerWrong)

/-- 'clepsydralaw32.SpecTitles': WHATEVER THE INPUT: true; the input reads as it did. -/
def specTitlesSpec : ChangeSpec := { name := "specTitles", fn := fun _ => fun
  | [d] => { results := [.lit (.bool true)], args := [d] }
  | _ => none }
def specTitlesRow : OpenClaim := { program := "ytdpfppibbnjemaa", sum := "6a1de11d59f64783335320fa9432a93e1da0c9fb5ba06fe678231cdbff689afd", func := "clepsydra/clepsydralaw32.SpecTitles", spec := "specTitles", unfollowed := true, recurses := true, plainKeys := false, apart := false }
def SpecTitlesSaid : Prop := specTitlesRow.holds Try.pinned (OpenSpec.ofChange specTitlesSpec)

/-- ITS FALSE NEIGHBOUR: 'it returns false'. Refute it at one input. -/
def specTitlesWrong : ChangeSpec := { name := "specTitles", fn := fun _ => fun
  | [d] => { results := [.lit (.bool false)], args := [d] }
  | _ => none }
def SpecTitlesWrongFalsely : Prop := specTitlesRow.holds Try.pinned (OpenSpec.ofChange specTitlesWrong)

/-- 'clepsydralaw32.SpecUnit': WHATEVER THE INPUT: true; the input reads as it did. -/
def specUnitSpec : ChangeSpec := { name := "specUnit", fn := fun _ => fun
  | [d1, d2] => { results := [.lit (.bool true)], args := [d1, d2] }
  | _ => none }
def specUnitRow : OpenClaim := { program := "ytdpfppibbnjemaa", sum := "6a1de11d59f64783335320fa9432a93e1da0c9fb5ba06fe678231cdbff689afd", func := "clepsydra/clepsydralaw32.SpecUnit", spec := "specUnit", unfollowed := true, recurses := true, plainKeys := false, apart := false }
def SpecUnitSaid : Prop := specUnitRow.holds Try.pinned (OpenSpec.ofChange specUnitSpec)

/-- ITS FALSE NEIGHBOUR: 'it returns false'. Refute it at one input. -/
def specUnitWrong : ChangeSpec := { name := "specUnit", fn := fun _ => fun
  | [d1, d2] => { results := [.lit (.bool false)], args := [d1, d2] }
  | _ => none }
def SpecUnitWrongFalsely : Prop := specUnitRow.holds Try.pinned (OpenSpec.ofChange specUnitWrong)

/-- 'clepsydralaw32.SpecReading': WHATEVER THE INPUT: true; the input reads as it did. -/
def specReadingSpec : ChangeSpec := { name := "specReading", fn := fun _ => fun
  | [d1, d2] => { results := [.lit (.bool true)], args := [d1, d2] }
  | _ => none }
def specReadingRow : OpenClaim := { program := "ytdpfppibbnjemaa", sum := "6a1de11d59f64783335320fa9432a93e1da0c9fb5ba06fe678231cdbff689afd", func := "clepsydra/clepsydralaw32.SpecReading", spec := "specReading", unfollowed := true, recurses := true, plainKeys := false, apart := false }
def SpecReadingSaid : Prop := specReadingRow.holds Try.pinned (OpenSpec.ofChange specReadingSpec)

/-- ITS FALSE NEIGHBOUR: 'it returns false'. Refute it at one input. -/
def specReadingWrong : ChangeSpec := { name := "specReading", fn := fun _ => fun
  | [d1, d2] => { results := [.lit (.bool false)], args := [d1, d2] }
  | _ => none }
def SpecReadingWrongFalsely : Prop := specReadingRow.holds Try.pinned (OpenSpec.ofChange specReadingWrong)

/- THE SECOND FORM. 'bulk': how many values and letters a reading holds, each counted each time it is reached (what is shared counts as often as it is met; a slice's spare places count too). A statement '..UptoSaid' is the law's where the arguments, and the package variables that the reading takes, are together of bulk at most 1048576: NARROWER than '..Said'. Prove '..Said' where nothing that the law and all that it calls make is longer than what came in: it says more and counts as full. Else prove '..UptoSaid'. A law counts once. -/
mutual
def uptoBulk {H : Type} : DataW H → Nat
  | .lit (.string bytes) => bytes.length + 1
  | .lit _ => 1
  | .nil => 1
  | .ptr d => uptoBulk d + 1
  | .slice elems spare => uptoBulkAll elems + uptoBulkAll spare + 1
  | .agg parts => uptoBulkAll parts + 1
  | .iface _ d => uptoBulk d + 1
  | .map entries => uptoBulkEntries entries + 1
  | .held _ => 1
def uptoBulkAll {H : Type} : List (DataW H) → Nat
  | [] => 0
  | d :: r => uptoBulk d + uptoBulkAll r
def uptoBulkEntries {H : Type} : List (Lit × DataW H) → Nat
  | [] => 0
  | x :: r => uptoBulkEntry x + uptoBulkEntries r
def uptoBulkEntry {H : Type} : Lit × DataW H → Nat
  | (.string bytes, d) => bytes.length + uptoBulk d + 1
  | (_, d) => uptoBulk d + 1
 end
def uptoSmall : (H : Type) → List (DataW H) → Bool := fun _ ds => decide (uptoBulkAll ds ≤ 1048576)
def OpenSpec.upto (s : _root_.Go.ChangeSpec) : _root_.Go.OpenSpec := { _root_.Go.OpenSpec.ofChange s with cond := some uptoSmall }

/-- 'clepsydralaw19.GraphOf', WHERE WHAT IT READS IS OF BULK AT MOST 1048576: true; the input reads as it did. -/
def graphOfUptoRow : OpenClaim := { program := "ytdpfppibbnjemaa", sum := "6a1de11d59f64783335320fa9432a93e1da0c9fb5ba06fe678231cdbff689afd", func := "clepsydra/clepsydralaw19.GraphOf", spec := "graphOf", unfollowed := true, recurses := true, plainKeys := false, apart := false, narrowed := true }
def GraphOfUptoSaid : Prop := graphOfUptoRow.holds Try.pinned (OpenSpec.upto graphOfSpec)

/-- 'clepsydralaw19.GraphAhead', WHERE WHAT IT READS IS OF BULK AT MOST 1048576: true; the input reads as it did. -/
def graphAheadUptoRow : OpenClaim := { program := "ytdpfppibbnjemaa", sum := "6a1de11d59f64783335320fa9432a93e1da0c9fb5ba06fe678231cdbff689afd", func := "clepsydra/clepsydralaw19.GraphAhead", spec := "graphAhead", unfollowed := true, recurses := true, plainKeys := false, apart := false, narrowed := true }
def GraphAheadUptoSaid : Prop := graphAheadUptoRow.holds Try.pinned (OpenSpec.upto graphAheadSpec)

/-- 'clepsydralaw19.GraphTurned', WHERE WHAT IT READS IS OF BULK AT MOST 1048576: true; the input reads as it did. -/
def graphTurnedUptoRow : OpenClaim := { program := "ytdpfppibbnjemaa", sum := "6a1de11d59f64783335320fa9432a93e1da0c9fb5ba06fe678231cdbff689afd", func := "clepsydra/clepsydralaw19.GraphTurned", spec := "graphTurned", unfollowed := true, recurses := true, plainKeys := false, apart := false, narrowed := true }
def GraphTurnedUptoSaid : Prop := graphTurnedUptoRow.holds Try.pinned (OpenSpec.upto graphTurnedSpec)

/-- 'clepsydralaw19.GraphKnown', WHERE WHAT IT READS IS OF BULK AT MOST 1048576: true; the input reads as it did. -/
def graphKnownUptoRow : OpenClaim := { program := "ytdpfppibbnjemaa", sum := "6a1de11d59f64783335320fa9432a93e1da0c9fb5ba06fe678231cdbff689afd", func := "clepsydra/clepsydralaw19.GraphKnown", spec := "graphKnown", unfollowed := true, recurses := true, plainKeys := false, apart := false, narrowed := true }
def GraphKnownUptoSaid : Prop := graphKnownUptoRow.holds Try.pinned (OpenSpec.upto graphKnownSpec)

/-- 'clepsydralaw32.SpecFewer', WHERE WHAT IT READS IS OF BULK AT MOST 1048576: true; the input reads as it did. -/
def specFewerUptoRow : OpenClaim := { program := "ytdpfppibbnjemaa", sum := "6a1de11d59f64783335320fa9432a93e1da0c9fb5ba06fe678231cdbff689afd", func := "clepsydra/clepsydralaw32.SpecFewer", spec := "specFewer", unfollowed := true, recurses := true, plainKeys := false, apart := false, narrowed := true }
def SpecFewerUptoSaid : Prop := specFewerUptoRow.holds Try.pinned (OpenSpec.upto specFewerSpec)

/-- 'clepsydralaw32.SpecTitles', WHERE WHAT IT READS IS OF BULK AT MOST 1048576: true; the input reads as it did. -/
def specTitlesUptoRow : OpenClaim := { program := "ytdpfppibbnjemaa", sum := "6a1de11d59f64783335320fa9432a93e1da0c9fb5ba06fe678231cdbff689afd", func := "clepsydra/clepsydralaw32.SpecTitles", spec := "specTitles", unfollowed := true, recurses := true, plainKeys := false, apart := false, narrowed := true }
def SpecTitlesUptoSaid : Prop := specTitlesUptoRow.holds Try.pinned (OpenSpec.upto specTitlesSpec)

/-- 'clepsydralaw32.SpecUnit', WHERE WHAT IT READS IS OF BULK AT MOST 1048576: true; the input reads as it did. -/
def specUnitUptoRow : OpenClaim := { program := "ytdpfppibbnjemaa", sum := "6a1de11d59f64783335320fa9432a93e1da0c9fb5ba06fe678231cdbff689afd", func := "clepsydra/clepsydralaw32.SpecUnit", spec := "specUnit", unfollowed := true, recurses := true, plainKeys := false, apart := false, narrowed := true }
def SpecUnitUptoSaid : Prop := specUnitUptoRow.holds Try.pinned (OpenSpec.upto specUnitSpec)

/-- 'clepsydralaw32.SpecReading', WHERE WHAT IT READS IS OF BULK AT MOST 1048576: true; the input reads as it did. -/
def specReadingUptoRow : OpenClaim := { program := "ytdpfppibbnjemaa", sum := "6a1de11d59f64783335320fa9432a93e1da0c9fb5ba06fe678231cdbff689afd", func := "clepsydra/clepsydralaw32.SpecReading", spec := "specReading", unfollowed := true, recurses := true, plainKeys := false, apart := false, narrowed := true }
def SpecReadingUptoSaid : Prop := specReadingUptoRow.holds Try.pinned (OpenSpec.upto specReadingSpec)

end Rows
end Go.Proofs.Ytdpfppibbnjemaa
