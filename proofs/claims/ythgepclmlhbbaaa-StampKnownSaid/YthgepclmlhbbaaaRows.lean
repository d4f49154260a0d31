/-
  No cell of these rows narrows 'for every input' (looked for: loops, veiled, ifaces, maps, wideKeys, modest, calm, conditions, laid).
  DERIVED. THE GIVEN ROWS OF THIS SEAT. 5 by the template 'for every input the law returns true; each argument reads behind the call as it read before'; 0 by the template 'total and deterministic' (their statements: YthgepclmlhbbaaaTotals.lean).
  GIVEN WITH THE SEED: the statements are not yours to turn. If you find one false, say at which input.
  Laid BY PROGRAM, IN A SANDBOX (cutbox-rows.mjs): the forced cells as the released guide's own fill.sh prints them over the translation 95a46c650d03bac4… (all of the seat's roots in one cut). By AI agents, Wed Nov 11 2026. No macro, syntax, notation, axiom, sorry.
-/
import Derived.Test.YthgepclmlhbbaaaChecked
import GoSem.Claim
import GoSem.ClaimJoined
import GoSem.ClaimMapViews
import Derived.JoinedTies
import Derived.KernelRfl
namespace Go.Proofs.Ythgepclmlhbbaaa
/- THE CELL 'sum', in the pinned program and in every row, IS THE sha256 OF THE DUMP (.gsa) THAT YthgepclmlhbbaaaProg.lean LOADS. Nothing in Lean hashes anything: it is a label: what it is worth is what the hold of that sum in a sandbox is worth. -/
noncomputable def Try.pinned : Pinned := { name := "ythgepclmlhbbaaa", sum := "95a46c650d03bac482980c477f8814e3e2aef58ee55fb57524c978f4989c1a20", checked := Try.checked }
namespace Rows
def none {H : Type} : Left H := { results := [], args := [] }

/-- 'clepsydralaw16.StampPuts': WHATEVER THE INPUT: true; the input reads as it did. -/
def stampPutsSpec : ChangeSpec := { name := "stampPuts", fn := fun _ => fun
  | [d1, d2] => { results := [.lit (.bool true)], args := [d1, d2] }
  | _ => none }
def stampPutsRow : OpenClaim := { program := "ythgepclmlhbbaaa", sum := "95a46c650d03bac482980c477f8814e3e2aef58ee55fb57524c978f4989c1a20", func := "clepsydra/clepsydralaw16.StampPuts", spec := "stampPuts", inPlace := ["internal/bytealg.IndexByteString", "internal/bytealg.IndexString"], unfollowed := true, recurses := true, named := ["internal/bytealg.MaxLen"], apart := false }
def StampPutsSaid : Prop := stampPutsRow.holds Try.pinned (OpenSpec.ofChange stampPutsSpec)

/-- ITS FALSE NEIGHBOUR: 'it returns false'. Refute it at one input. -/
def stampPutsWrong : ChangeSpec := { name := "stampPuts", fn := fun _ => fun
  | [d1, d2] => { results := [.lit (.bool false)], args := [d1, d2] }
  | _ => none }
def StampPutsWrongFalsely : Prop := stampPutsRow.holds Try.pinned (OpenSpec.ofChange stampPutsWrong)

/-- 'clepsydralaw16.StampTakes': WHATEVER THE INPUT: true; the input reads as it did. -/
def stampTakesSpec : ChangeSpec := { name := "stampTakes", fn := fun _ => fun
  | [d1, d2] => { results := [.lit (.bool true)], args := [d1, d2] }
  | _ => none }
def stampTakesRow : OpenClaim := { program := "ythgepclmlhbbaaa", sum := "95a46c650d03bac482980c477f8814e3e2aef58ee55fb57524c978f4989c1a20", func := "clepsydra/clepsydralaw16.StampTakes", spec := "stampTakes", inPlace := ["internal/bytealg.IndexByteString", "internal/bytealg.IndexString"], unfollowed := true, recurses := true, named := ["internal/bytealg.MaxLen"], apart := false }
def StampTakesSaid : Prop := stampTakesRow.holds Try.pinned (OpenSpec.ofChange stampTakesSpec)

/-- ITS FALSE NEIGHBOUR: 'it returns false'. Refute it at one input. -/
def stampTakesWrong : ChangeSpec := { name := "stampTakes", fn := fun _ => fun
  | [d1, d2] => { results := [.lit (.bool false)], args := [d1, d2] }
  | _ => none }
def StampTakesWrongFalsely : Prop := stampTakesRow.holds Try.pinned (OpenSpec.ofChange stampTakesWrong)

/-- 'clepsydralaw16.StampBack': WHATEVER THE INPUT: true; the input reads as it did. -/
def stampBackSpec : ChangeSpec := { name := "stampBack", fn := fun _ => fun
  | [d1, d2, d3, d4, d5] => { results := [.lit (.bool true)], args := [d1, d2, d3, d4, d5] }
  | _ => none }
def stampBackRow : OpenClaim := { program := "ythgepclmlhbbaaa", sum := "95a46c650d03bac482980c477f8814e3e2aef58ee55fb57524c978f4989c1a20", func := "clepsydra/clepsydralaw16.StampBack", spec := "stampBack", inPlace := ["internal/bytealg.IndexByteString", "internal/bytealg.IndexString"], unfollowed := true, recurses := true, named := ["internal/bytealg.MaxLen"], apart := false }
def StampBackSaid : Prop := stampBackRow.holds Try.pinned (OpenSpec.ofChange stampBackSpec)

/-- ITS FALSE NEIGHBOUR: 'it returns false'. Refute it at one input. -/
def stampBackWrong : ChangeSpec := { name := "stampBack", fn := fun _ => fun
  | [d1, d2, d3, d4, d5] => { results := [.lit (.bool false)], args := [d1, d2, d3, d4, d5] }
  | _ => none }
def StampBackWrongFalsely : Prop := stampBackRow.holds Try.pinned (OpenSpec.ofChange stampBackWrong)

/-- 'clepsydralaw16.StampUnlike': WHATEVER THE INPUT: true; the input reads as it did. -/
def stampUnlikeSpec : ChangeSpec := { name := "stampUnlike", fn := fun _ => fun
  | [d1, d2, d3] => { results := [.lit (.bool true)], args := [d1, d2, d3] }
  | _ => none }
def stampUnlikeRow : OpenClaim := { program := "ythgepclmlhbbaaa", sum := "95a46c650d03bac482980c477f8814e3e2aef58ee55fb57524c978f4989c1a20", func := "clepsydra/clepsydralaw16.StampUnlike", spec := "stampUnlike", inPlace := ["internal/bytealg.IndexByteString", "internal/bytealg.IndexString"], unfollowed := true, recurses := true, named := ["internal/bytealg.MaxLen"], apart := false }
def StampUnlikeSaid : Prop := stampUnlikeRow.holds Try.pinned (OpenSpec.ofChange stampUnlikeSpec)

/-- ITS FALSE NEIGHBOUR: 'it returns false'. Refute it at one input. -/
def stampUnlikeWrong : ChangeSpec := { name := "stampUnlike", fn := fun _ => fun
  | [d1, d2, d3] => { results := [.lit (.bool false)], args := [d1, d2, d3] }
  | _ => none }
def StampUnlikeWrongFalsely : Prop := stampUnlikeRow.holds Try.pinned (OpenSpec.ofChange stampUnlikeWrong)

/-- 'clepsydralaw16.StampKnown': WHATEVER THE INPUT: true; the input reads as it did. -/
def stampKnownSpec : ChangeSpec := { name := "stampKnown", fn := fun _ => fun
  | [] => { results := [.lit (.bool true)], args := [] }
  | _ => none }
def stampKnownRow : OpenClaim := { program := "ythgepclmlhbbaaa", sum := "95a46c650d03bac482980c477f8814e3e2aef58ee55fb57524c978f4989c1a20", func := "clepsydra/clepsydralaw16.StampKnown", spec := "stampKnown", inPlace := ["internal/bytealg.IndexByteString", "internal/bytealg.IndexString"], unfollowed := true, recurses := true, named := ["internal/bytealg.MaxLen"], apart := false }
def StampKnownSaid : Prop := stampKnownRow.holds Try.pinned (OpenSpec.ofChange stampKnownSpec)

/-- ITS FALSE NEIGHBOUR: 'it returns false'. Refute it at one input. -/
def stampKnownWrong : ChangeSpec := { name := "stampKnown", fn := fun _ => fun
  | [] => { results := [.lit (.bool false)], args := [] }
  | _ => none }
def StampKnownWrongFalsely : Prop := stampKnownRow.holds Try.pinned (OpenSpec.ofChange stampKnownWrong)

/- THE SECOND FORM. 'bulk': how many values and letters a reading holds, each counted each time it is reached (what is shared counts as often as it is met; a slice's spare places count too). A statement '..UptoSaid' is the law's where the arguments, and the package variables that the reading takes, are together of bulk at most 1048576: NARROWER than '..Said'. Prove '..Said' where nothing that the law and all that it calls make is longer than what came in: it says more and counts as full. Else prove '..UptoSaid'. A law counts once. -/
mutual
def uptoBulk {H : Type} : DataW H → Nat
  | .lit (.string bytes) => bytes.length + 1
  | .lit _ => 1
  | .nil => 1
  | .ptr d => uptoBulk d + 1
  | .slice elems spare => uptoBulkAll elems + uptoBulkAll spare + 1
  | .agg parts => uptoBulkAll parts + 1
  | .iface _ d => uptoBulk d + 1
  | .map entries => uptoBulkEntries entries + 1
  | .held _ => 1
def uptoBulkAll {H : Type} : List (DataW H) → Nat
  | [] => 0
  | d :: r => uptoBulk d + uptoBulkAll r
def uptoBulkEntries {H : Type} : List (Lit × DataW H) → Nat
  | [] => 0
  | x :: r => uptoBulkEntry x + uptoBulkEntries r
def uptoBulkEntry {H : Type} : Lit × DataW H → Nat
  | (.string bytes, d) => bytes.length + uptoBulk d + 1
  | (_, d) => uptoBulk d + 1
 end
def uptoSmall : (H : Type) → List (DataW H) → Bool := fun _ ds => decide (uptoBulkAll ds ≤ 1048576)
def OpenSpec.upto (s : _root_.Go.ChangeSpec) : _root_.Go.OpenSpec := { _root_.Go.OpenSpec.ofChange s with cond := some uptoSmall }

/-- 'clepsydralaw16.StampPuts', WHERE WHAT IT READS IS OF BULK AT MOST 1048576: true; the input reads as it did. -/
def stampPutsUptoRow : OpenClaim := { program := "ythgepclmlhbbaaa", sum := "95a46c650d03bac482980c477f8814e3e2aef58ee55fb57524c978f4989c1a20", func := "clepsydra/clepsydralaw16.StampPuts", spec := "stampPuts", inPlace := ["internal/bytealg.IndexByteString", "internal/bytealg.IndexString"], unfollowed := true, recurses := true, named := ["internal/bytealg.MaxLen"], apart := false, narrowed := true }
def StampPutsUptoSaid : Prop := stampPutsUptoRow.holds Try.pinned (OpenSpec.upto stampPutsSpec)

/-- 'clepsydralaw16.StampTakes', WHERE WHAT IT READS IS OF BULK AT MOST 1048576: true; the input reads as it did. -/
def stampTakesUptoRow : OpenClaim := { program := "ythgepclmlhbbaaa", sum := "95a46c650d03bac482980c477f8814e3e2aef58ee55fb57524c978f4989c1a20", func := "clepsydra/clepsydralaw16.StampTakes", spec := "stampTakes", inPlace := ["internal/bytealg.IndexByteString", "internal/bytealg.IndexString"], unfollowed := true, recurses := true, named := ["internal/bytealg.MaxLen"], apart := false, narrowed := true }
def StampTakesUptoSaid : Prop := stampTakesUptoRow.holds Try.pinned (OpenSpec.upto stampTakesSpec)

/-- 'clepsydralaw16.StampBack', WHERE WHAT IT READS IS OF BULK AT MOST 1048576: true; the input reads as it did. -/
def stampBackUptoRow : OpenClaim := { program := "ythgepclmlhbbaaa", sum := "95a46c650d03bac482980c477f8814e3e2aef58ee55fb57524c978f4989c1a20", func := "clepsydra/clepsydralaw16.StampBack", spec := "stampBack", inPlace := ["internal/bytealg.IndexByteString", "internal/bytealg.IndexString"], unfollowed := true, recurses := true, named := ["internal/bytealg.MaxLen"], apart := false, narrowed := true }
def StampBackUptoSaid : Prop := stampBackUptoRow.holds Try.pinned (OpenSpec.upto stampBackSpec)

/-- 'clepsydralaw16.StampUnlike', WHERE WHAT IT READS IS OF BULK AT MOST 1048576: true; the input reads as it did. -/
def stampUnlikeUptoRow : OpenClaim := { program := "ythgepclmlhbbaaa", sum := "95a46c650d03bac482980c477f8814e3e2aef58ee55fb57524c978f4989c1a20", func := "clepsydra/clepsydralaw16.StampUnlike", spec := "stampUnlike", inPlace := ["internal/bytealg.IndexByteString", "internal/bytealg.IndexString"], unfollowed := true, recurses := true, named := ["internal/bytealg.MaxLen"], apart := false, narrowed := true }
def StampUnlikeUptoSaid : Prop := stampUnlikeUptoRow.holds Try.pinned (OpenSpec.upto stampUnlikeSpec)

/-- 'clepsydralaw16.StampKnown', WHERE WHAT IT READS IS OF BULK AT MOST 1048576: true; the input reads as it did. -/
def stampKnownUptoRow : OpenClaim := { program := "ythgepclmlhbbaaa", sum := "95a46c650d03bac482980c477f8814e3e2aef58ee55fb57524c978f4989c1a20", func := "clepsydra/clepsydralaw16.StampKnown", spec := "stampKnown", inPlace := ["internal/bytealg.IndexByteString", "internal/bytealg.IndexString"], unfollowed := true, recurses := true, named := ["internal/bytealg.MaxLen"], apart := false, narrowed := true }
def StampKnownUptoSaid : Prop := stampKnownUptoRow.holds Try.pinned (OpenSpec.upto stampKnownSpec)

end Rows
end Go.Proofs.Ythgepclmlhbbaaa
