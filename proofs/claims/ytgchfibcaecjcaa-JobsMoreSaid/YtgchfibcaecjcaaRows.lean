/-
  No cell of these rows narrows 'for every input' (looked for: loops, veiled, ifaces, maps, wideKeys, modest, calm, conditions, laid).
  DERIVED. THE GIVEN ROWS OF THIS SEAT. 5 by the template 'for every input the law returns true; each argument reads behind the call as it read before'; 0 by the template 'total and deterministic' (their statements: YtgchfibcaecjcaaTotals.lean).
  GIVEN WITH THE SEED: the statements are not yours to turn. If you find one false, say at which input.
  Laid BY PROGRAM, IN A SANDBOX (cutbox-rows.mjs): the forced cells as the released guide's own fill.sh prints them over the translation f8bc7e59d74d020c… (all of the seat's roots in one cut). By AI agents, Wed Nov 11 2026. No macro, syntax, notation, axiom, sorry.
-/
import Derived.Test.YtgchfibcaecjcaaChecked
import GoSem.Claim
import GoSem.ClaimJoined
import GoSem.ClaimMapViews
import Derived.JoinedTies
import Derived.KernelRfl
namespace Go.Proofs.Ytgchfibcaecjcaa
/- THE CELL 'sum', in the pinned program and in every row, IS THE sha256 OF THE DUMP (.gsa) THAT YtgchfibcaecjcaaProg.lean LOADS. Nothing in Lean hashes anything: it is a label: what it is worth is what the hold of that sum in a sandbox is worth. -/
noncomputable def Try.pinned : Pinned := { name := "ytgchfibcaecjcaa", sum := "f8bc7e59d74d020cc9d38af244150860d1669c864ff3817372fe1d5b739dc419", checked := Try.checked }
namespace Rows
def none {H : Type} : Left H := { results := [], args := [] }

/-- 'clepsydralaw20.JobsWhole': WHATEVER THE INPUT: true; the input reads as it did. -/
def jobsWholeSpec : ChangeSpec := { name := "jobsWhole", fn := fun _ => fun
  | [d1, d2] => { results := [.lit (.bool true)], args := [d1, d2] }
  | _ => none }
def jobsWholeRow : OpenClaim := { program := "ytgchfibcaecjcaa", sum := "f8bc7e59d74d020cc9d38af244150860d1669c864ff3817372fe1d5b739dc419", func := "clepsydra/clepsydralaw20.JobsWhole", spec := "jobsWhole", unfollowed := true, recurses := true, plainKeys := false, apart := false }
def JobsWholeSaid : Prop := jobsWholeRow.holds Try.pinned (OpenSpec.ofChange jobsWholeSpec)

/-- ITS FALSE NEIGHBOUR: 'it returns false'. Refute it at one input. -/
def jobsWholeWrong : ChangeSpec := { name := "jobsWhole", fn := fun _ => fun
  | [d1, d2] => { results := [.lit (.bool false)], args := [d1, d2] }
  | _ => none }
def JobsWholeWrongFalsely : Prop := jobsWholeRow.holds Try.pinned (OpenSpec.ofChange jobsWholeWrong)

/-- 'clepsydralaw20.JobsMerge': WHATEVER THE INPUT: true; the input reads as it did. -/
def jobsMergeSpec : ChangeSpec := { name := "jobsMerge", fn := fun _ => fun
  | [d1, d2, d3] => { results := [.lit (.bool true)], args := [d1, d2, d3] }
  | _ => none }
def jobsMergeRow : OpenClaim := { program := "ytgchfibcaecjcaa", sum := "f8bc7e59d74d020cc9d38af244150860d1669c864ff3817372fe1d5b739dc419", func := "clepsydra/clepsydralaw20.JobsMerge", spec := "jobsMerge", unfollowed := true, recurses := true, plainKeys := false, apart := false }
def JobsMergeSaid : Prop := jobsMergeRow.holds Try.pinned (OpenSpec.ofChange jobsMergeSpec)

/-- ITS FALSE NEIGHBOUR: 'it returns false'. Refute it at one input. -/
def jobsMergeWrong : ChangeSpec := { name := "jobsMerge", fn := fun _ => fun
  | [d1, d2, d3] => { results := [.lit (.bool false)], args := [d1, d2, d3] }
  | _ => none }
def JobsMergeWrongFalsely : Prop := jobsMergeRow.holds Try.pinned (OpenSpec.ofChange jobsMergeWrong)

/-- 'clepsydralaw20.JobsMore': WHATEVER THE INPUT: true; the input reads as it did. -/
def jobsMoreSpec : ChangeSpec := { name := "jobsMore", fn := fun _ => fun
  | [d1, d2] => { results := [.lit (.bool true)], args := [d1, d2] }
  | _ => none }
def jobsMoreRow : OpenClaim := { program := "ytgchfibcaecjcaa", sum := "f8bc7e59d74d020cc9d38af244150860d1669c864ff3817372fe1d5b739dc419", func := "clepsydra/clepsydralaw20.JobsMore", spec := "jobsMore", unfollowed := true, recurses := true, plainKeys := false, apart := false }
def JobsMoreSaid : Prop := jobsMoreRow.holds Try.pinned (OpenSpec.ofChange jobsMoreSpec)

/-- ITS FALSE NEIGHBOUR: 'it returns false'. Refute it at one input. -/
def jobsMoreWrong : ChangeSpec := { name := "jobsMore", fn := fun _ => fun
  | [d1, d2] => { results := [.lit (.bool false)], args := [d1, d2] }
  | _ => none }
def JobsMoreWrongFalsely : Prop := jobsMoreRow.holds Try.pinned (OpenSpec.ofChange jobsMoreWrong)

/-- 'clepsydralaw20.JobsTypes': WHATEVER THE INPUT: true; the input reads as it did. -/
def jobsTypesSpec : ChangeSpec := { name := "jobsTypes", fn := fun _ => fun
  | [d1, d2, d3] => { results := [.lit (.bool true)], args := [d1, d2, d3] }
  | _ => none }
def jobsTypesRow : OpenClaim := { program := "ytgchfibcaecjcaa", sum := "f8bc7e59d74d020cc9d38af244150860d1669c864ff3817372fe1d5b739dc419", func := "clepsydra/clepsydralaw20.JobsTypes", spec := "jobsTypes", unfollowed := true, recurses := true, plainKeys := false, apart := false }
def JobsTypesSaid : Prop := jobsTypesRow.holds Try.pinned (OpenSpec.ofChange jobsTypesSpec)

/-- ITS FALSE NEIGHBOUR: 'it returns false'. Refute it at one input. -/
def jobsTypesWrong : ChangeSpec := { name := "jobsTypes", fn := fun _ => fun
  | [d1, d2, d3] => { results := [.lit (.bool false)], args := [d1, d2, d3] }
  | _ => none }
def JobsTypesWrongFalsely : Prop := jobsTypesRow.holds Try.pinned (OpenSpec.ofChange jobsTypesWrong)

/-- 'clepsydralaw20.JobsKnown': WHATEVER THE INPUT: true; the input reads as it did. -/
def jobsKnownSpec : ChangeSpec := { name := "jobsKnown", fn := fun _ => fun
  | [] => { results := [.lit (.bool true)], args := [] }
  | _ => none }
def jobsKnownRow : OpenClaim := { program := "ytgchfibcaecjcaa", sum := "f8bc7e59d74d020cc9d38af244150860d1669c864ff3817372fe1d5b739dc419", func := "clepsydra/clepsydralaw20.JobsKnown", spec := "jobsKnown", unfollowed := true, recurses := true, plainKeys := false, apart := false }
def JobsKnownSaid : Prop := jobsKnownRow.holds Try.pinned (OpenSpec.ofChange jobsKnownSpec)

/-- ITS FALSE NEIGHBOUR: 'it returns false'. Refute it at one input. -/
def jobsKnownWrong : ChangeSpec := { name := "jobsKnown", fn := fun _ => fun
  | [] => { results := [.lit (.bool false)], args := [] }
  | _ => none }
def JobsKnownWrongFalsely : Prop := jobsKnownRow.holds Try.pinned (OpenSpec.ofChange jobsKnownWrong)

/- THE SECOND FORM. 'bulk': how many values and letters a reading holds, each counted each time it is reached (what is shared counts as often as it is met; a slice's spare places count too). A statement '..UptoSaid' is the law's where the arguments, and the package variables that the reading takes, are together of bulk at most 1048576: NARROWER than '..Said'. Prove '..Said' where nothing that the law and all that it calls make is longer than what came in: it says more and counts as full. Else prove '..UptoSaid'. A law counts once. -/
mutual
def uptoBulk {H : Type} : DataW H → Nat
  | .lit (.string bytes) => bytes.length + 1
  | .lit _ => 1
  | .nil => 1
  | .ptr d => uptoBulk d + 1
  | .slice elems spare => uptoBulkAll elems + uptoBulkAll spare + 1
  | .agg parts => uptoBulkAll parts + 1
  | .iface _ d => uptoBulk d + 1
  | .map entries => uptoBulkEntries entries + 1
  | .held _ => 1
def uptoBulkAll {H : Type} : List (DataW H) → Nat
  | [] => 0
  | d :: r => uptoBulk d + uptoBulkAll r
def uptoBulkEntries {H : Type} : List (Lit × DataW H) → Nat
  | [] => 0
  | x :: r => uptoBulkEntry x + uptoBulkEntries r
def uptoBulkEntry {H : Type} : Lit × DataW H → Nat
  | (.string bytes, d) => bytes.length + uptoBulk d + 1
  | (_, d) => uptoBulk d + 1
 end
def uptoSmall : (H : Type) → List (DataW H) → Bool := fun _ ds => decide (uptoBulkAll ds ≤ 1048576)
def OpenSpec.upto (s : _root_.Go.ChangeSpec) : _root_.Go.OpenSpec := { _root_.Go.OpenSpec.ofChange s with cond := some uptoSmall }

/-- 'clepsydralaw20.JobsWhole', WHERE WHAT IT READS IS OF BULK AT MOST 1048576: true; the input reads as it did. -/
def jobsWholeUptoRow : OpenClaim := { program := "ytgchfibcaecjcaa", sum := "f8bc7e59d74d020cc9d38af244150860d1669c864ff3817372fe1d5b739dc419", func := "clepsydra/clepsydralaw20.JobsWhole", spec := "jobsWhole", unfollowed := true, recurses := true, plainKeys := false, apart := false, narrowed := true }
def JobsWholeUptoSaid : Prop := jobsWholeUptoRow.holds Try.pinned (OpenSpec.upto jobsWholeSpec)

/-- 'clepsydralaw20.JobsMerge', WHERE WHAT IT READS IS OF BULK AT MOST 1048576: true; the input reads as it did. -/
def jobsMergeUptoRow : OpenClaim := { program := "ytgchfibcaecjcaa", sum := "f8bc7e59d74d020cc9d38af244150860d1669c864ff3817372fe1d5b739dc419", func := "clepsydra/clepsydralaw20.JobsMerge", spec := "jobsMerge", unfollowed := true, recurses := true, plainKeys := false, apart := false, narrowed := true }
def JobsMergeUptoSaid : Prop := jobsMergeUptoRow.holds Try.pinned (OpenSpec.upto jobsMergeSpec)

/-- 'clepsydralaw20.JobsMore', WHERE WHAT IT READS IS OF BULK AT MOST 1048576: true; the input reads as it did. -/
def jobsMoreUptoRow : OpenClaim := { program := "ytgchfibcaecjcaa", sum := "f8bc7e59d74d020cc9d38af244150860d1669c864ff3817372fe1d5b739dc419", func := "clepsydra/clepsydralaw20.JobsMore", spec := "jobsMore", unfollowed := true, recurses := true, plainKeys := false, apart := false, narrowed := true }
def JobsMoreUptoSaid : Prop := jobsMoreUptoRow.holds Try.pinned (OpenSpec.upto jobsMoreSpec)

/-- 'clepsydralaw20.JobsTypes', WHERE WHAT IT READS IS OF BULK AT MOST 1048576: true; the input reads as it did. -/
def jobsTypesUptoRow : OpenClaim := { program := "ytgchfibcaecjcaa", sum := "f8bc7e59d74d020cc9d38af244150860d1669c864ff3817372fe1d5b739dc419", func := "clepsydra/clepsydralaw20.JobsTypes", spec := "jobsTypes", unfollowed := true, recurses := true, plainKeys := false, apart := false, narrowed := true }
def JobsTypesUptoSaid : Prop := jobsTypesUptoRow.holds Try.pinned (OpenSpec.upto jobsTypesSpec)

/-- 'clepsydralaw20.JobsKnown', WHERE WHAT IT READS IS OF BULK AT MOST 1048576: true; the input reads as it did. -/
def jobsKnownUptoRow : OpenClaim := { program := "ytgchfibcaecjcaa", sum := "f8bc7e59d74d020cc9d38af244150860d1669c864ff3817372fe1d5b739dc419", func := "clepsydra/clepsydralaw20.JobsKnown", spec := "jobsKnown", unfollowed := true, recurses := true, plainKeys := false, apart := false, narrowed := true }
def JobsKnownUptoSaid : Prop := jobsKnownUptoRow.holds Try.pinned (OpenSpec.upto jobsKnownSpec)

end Rows
end Go.Proofs.Ytgchfibcaecjcaa
