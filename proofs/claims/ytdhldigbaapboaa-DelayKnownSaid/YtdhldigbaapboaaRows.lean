/-
  No cell of these rows narrows 'for every input' (looked for: loops, veiled, ifaces, maps, wideKeys, modest, calm, conditions, laid).
  DERIVED. THE GIVEN ROWS OF THIS SEAT. 4 by the template 'for every input the law returns true; each argument reads behind the call as it read before'; 0 by the template 'total and deterministic' (their statements: YtdhldigbaapboaaTotals.lean).
  GIVEN WITH THE SEED: the statements are not yours to turn. If you find one false, say at which input.
  Laid BY PROGRAM, IN A SANDBOX (cutbox-rows.mjs): the forced cells as the released guide's own fill.sh prints them over the translation 55d8a28836febf85… (all of the seat's roots in one cut). By AI agents, Wed Nov 11 2026. No macro, syntax, notation, axiom, sorry.
-/
import Derived.Test.YtdhldigbaapboaaChecked
import GoSem.Claim
import GoSem.ClaimJoined
import GoSem.ClaimMapViews
import Derived.JoinedTies
import Derived.KernelRfl
namespace Go.Proofs.Ytdhldigbaapboaa
/- THE CELL 'sum', in the pinned program and in every row, IS THE sha256 OF THE DUMP (.gsa) THAT YtdhldigbaapboaaProg.lean LOADS. Nothing in Lean hashes anything: it is a label: what it is worth is what the hold of that sum in a sandbox is worth. -/
noncomputable def Try.pinned : Pinned := { name := "ytdhldigbaapboaa", sum := "55d8a28836febf8526f0b2733398cea313b69d77efbc0732bfa5818f19288825", checked := Try.checked }
namespace Rows
def none {H : Type} : Left H := { results := [], args := [] }

/-- 'clepsydralaw18.DelayOf': WHATEVER THE INPUT: true; the input reads as it did. -/
def delayOfSpec : ChangeSpec := { name := "delayOf", fn := fun _ => fun
  | [d1, d2, d3] => { results := [.lit (.bool true)], args := [d1, d2, d3] }
  | _ => none }
def delayOfRow : OpenClaim := { program := "ytdhldigbaapboaa", sum := "55d8a28836febf8526f0b2733398cea313b69d77efbc0732bfa5818f19288825", func := "clepsydra/clepsydralaw18.DelayOf", spec := "delayOf", apart := false }
def DelayOfSaid : Prop := delayOfRow.holds Try.pinned (OpenSpec.ofChange delayOfSpec)

/-- ITS FALSE NEIGHBOUR: 'it returns false'. Refute it at one input. -/
def delayOfWrong : ChangeSpec := { name := "delayOf", fn := fun _ => fun
  | [d1, d2, d3] => { results := [.lit (.bool false)], args := [d1, d2, d3] }
  | _ => none }
def DelayOfWrongFalsely : Prop := delayOfRow.holds Try.pinned (OpenSpec.ofChange delayOfWrong)

/-- 'clepsydralaw18.DelayAround': WHATEVER THE INPUT: true; the input reads as it did. -/
def delayAroundSpec : ChangeSpec := { name := "delayAround", fn := fun _ => fun
  | [d1, d2, d3] => { results := [.lit (.bool true)], args := [d1, d2, d3] }
  | _ => none }
def delayAroundRow : OpenClaim := { program := "ytdhldigbaapboaa", sum := "55d8a28836febf8526f0b2733398cea313b69d77efbc0732bfa5818f19288825", func := "clepsydra/clepsydralaw18.DelayAround", spec := "delayAround", apart := false }
def DelayAroundSaid : Prop := delayAroundRow.holds Try.pinned (OpenSpec.ofChange delayAroundSpec)

/-- ITS FALSE NEIGHBOUR: 'it returns false'. Refute it at one input. -/
def delayAroundWrong : ChangeSpec := { name := "delayAround", fn := fun _ => fun
  | [d1, d2, d3] => { results := [.lit (.bool false)], args := [d1, d2, d3] }
  | _ => none }
def DelayAroundWrongFalsely : Prop := delayAroundRow.holds Try.pinned (OpenSpec.ofChange delayAroundWrong)

/-- 'clepsydralaw18.DelayAlike': WHATEVER THE INPUT: true; the input reads as it did. -/
def delayAlikeSpec : ChangeSpec := { name := "delayAlike", fn := fun _ => fun
  | [d1, d2, d3, d4, d5, d6, d7] => { results := [.lit (.bool true)], args := [d1, d2, d3, d4, d5, d6, d7] }
  | _ => none }
def delayAlikeRow : OpenClaim := { program := "ytdhldigbaapboaa", sum := "55d8a28836febf8526f0b2733398cea313b69d77efbc0732bfa5818f19288825", func := "clepsydra/clepsydralaw18.DelayAlike", spec := "delayAlike", apart := false }
def DelayAlikeSaid : Prop := delayAlikeRow.holds Try.pinned (OpenSpec.ofChange delayAlikeSpec)

/-- ITS FALSE NEIGHBOUR: 'it returns false'. Refute it at one input. -/
def delayAlikeWrong : ChangeSpec := { name := "delayAlike", fn := fun _ => fun
  | [d1, d2, d3, d4, d5, d6, d7] => { results := [.lit (.bool false)], args := [d1, d2, d3, d4, d5, d6, d7] }
  | _ => none }
def DelayAlikeWrongFalsely : Prop := delayAlikeRow.holds Try.pinned (OpenSpec.ofChange delayAlikeWrong)

/-- 'clepsydralaw18.DelayKnown': WHATEVER THE INPUT: true; the input reads as it did. -/
def delayKnownSpec : ChangeSpec := { name := "delayKnown", fn := fun _ => fun
  | [] => { results := [.lit (.bool true)], args := [] }
  | _ => none }
def delayKnownRow : OpenClaim := { program := "ytdhldigbaapboaa", sum := "55d8a28836febf8526f0b2733398cea313b69d77efbc0732bfa5818f19288825", func := "clepsydra/clepsydralaw18.DelayKnown", spec := "delayKnown", apart := false }
def DelayKnownSaid : Prop := delayKnownRow.holds Try.pinned (OpenSpec.ofChange delayKnownSpec)

/-- ITS FALSE NEIGHBOUR: 'it returns false'. Refute it at one input. -/
def delayKnownWrong : ChangeSpec := { name := "delayKnown", fn := fun _ => fun
  | [] => { results := [.lit (.bool false)], args := [] }
  | _ => none }
def DelayKnownWrongFalsely : Prop := delayKnownRow.holds Try.pinned (OpenSpec.ofChange delayKnownWrong)

/- THE SECOND FORM. 'bulk': how many values and letters a reading holds, each counted each time it is reached (what is shared counts as often as it is met; a slice's spare places count too). A statement '..UptoSaid' is the law's where the arguments, and the package variables that the reading takes, are together of bulk at most 1048576: NARROWER than '..Said'. Prove '..Said' where nothing that the law and all that it calls make is longer than what came in: it says more and counts as full. Else prove '..UptoSaid'. A law counts once. -/
mutual
def uptoBulk {H : Type} : DataW H → Nat
  | .lit (.string bytes) => bytes.length + 1
  | .lit _ => 1
  | .nil => 1
  | .ptr d => uptoBulk d + 1
  | .slice elems spare => uptoBulkAll elems + uptoBulkAll spare + 1
  | .agg parts => uptoBulkAll parts + 1
  | .iface _ d => uptoBulk d + 1
  | .map entries => uptoBulkEntries entries + 1
  | .held _ => 1
def uptoBulkAll {H : Type} : List (DataW H) → Nat
  | [] => 0
  | d :: r => uptoBulk d + uptoBulkAll r
def uptoBulkEntries {H : Type} : List (Lit × DataW H) → Nat
  | [] => 0
  | x :: r => uptoBulkEntry x + uptoBulkEntries r
def uptoBulkEntry {H : Type} : Lit × DataW H → Nat
  | (.string bytes, d) => bytes.length + uptoBulk d + 1
  | (_, d) => uptoBulk d + 1
 end
def uptoSmall : (H : Type) → List (DataW H) → Bool := fun _ ds => decide (uptoBulkAll ds ≤ 1048576)
def OpenSpec.upto (s : _root_.Go.ChangeSpec) : _root_.Go.OpenSpec := { _root_.Go.OpenSpec.ofChange s with cond := some uptoSmall }

/-- 'clepsydralaw18.DelayOf', WHERE WHAT IT READS IS OF BULK AT MOST 1048576: true; the input reads as it did. -/
def delayOfUptoRow : OpenClaim := { program := "ytdhldigbaapboaa", sum := "55d8a28836febf8526f0b2733398cea313b69d77efbc0732bfa5818f19288825", func := "clepsydra/clepsydralaw18.DelayOf", spec := "delayOf", apart := false, narrowed := true }
def DelayOfUptoSaid : Prop := delayOfUptoRow.holds Try.pinned (OpenSpec.upto delayOfSpec)

/-- 'clepsydralaw18.DelayAround', WHERE WHAT IT READS IS OF BULK AT MOST 1048576: true; the input reads as it did. -/
def delayAroundUptoRow : OpenClaim := { program := "ytdhldigbaapboaa", sum := "55d8a28836febf8526f0b2733398cea313b69d77efbc0732bfa5818f19288825", func := "clepsydra/clepsydralaw18.DelayAround", spec := "delayAround", apart := false, narrowed := true }
def DelayAroundUptoSaid : Prop := delayAroundUptoRow.holds Try.pinned (OpenSpec.upto delayAroundSpec)

/-- 'clepsydralaw18.DelayAlike', WHERE WHAT IT READS IS OF BULK AT MOST 1048576: true; the input reads as it did. -/
def delayAlikeUptoRow : OpenClaim := { program := "ytdhldigbaapboaa", sum := "55d8a28836febf8526f0b2733398cea313b69d77efbc0732bfa5818f19288825", func := "clepsydra/clepsydralaw18.DelayAlike", spec := "delayAlike", apart := false, narrowed := true }
def DelayAlikeUptoSaid : Prop := delayAlikeUptoRow.holds Try.pinned (OpenSpec.upto delayAlikeSpec)

/-- 'clepsydralaw18.DelayKnown', WHERE WHAT IT READS IS OF BULK AT MOST 1048576: true; the input reads as it did. -/
def delayKnownUptoRow : OpenClaim := { program := "ytdhldigbaapboaa", sum := "55d8a28836febf8526f0b2733398cea313b69d77efbc0732bfa5818f19288825", func := "clepsydra/clepsydralaw18.DelayKnown", spec := "delayKnown", apart := false, narrowed := true }
def DelayKnownUptoSaid : Prop := delayKnownUptoRow.holds Try.pinned (OpenSpec.upto delayKnownSpec)

end Rows
end Go.Proofs.Ytdhldigbaapboaa
