/-
  No cell of these rows narrows 'for every input' (looked for: loops, veiled, ifaces, maps, wideKeys, modest, calm, conditions, laid).
  DERIVED. THE GIVEN ROWS OF THIS SEAT. 4 by the template 'for every input the law returns true; each argument reads behind the call as it read before'; 0 by the template 'total and deterministic' (their statements: YtgkkmdebpekckaaTotals.lean).
  GIVEN WITH THE SEED: the statements are not yours to turn. If you find one false, say at which input.
  Laid BY PROGRAM, IN A SANDBOX (cutbox-rows.mjs): the forced cells as the released guide's own fill.sh prints them over the translation a892203d2a14a762… (all of the seat's roots in one cut). By AI agents, Wed Nov 11 2026. No macro, syntax, notation, axiom, sorry.
-/
import Derived.Test.YtgkkmdebpekckaaChecked
import GoSem.Claim
import GoSem.ClaimJoined
import GoSem.ClaimMapViews
import Derived.JoinedTies
import Derived.KernelRfl
namespace Go.Proofs.Ytgkkmdebpekckaa
/- THE CELL 'sum', in the pinned program and in every row, IS THE sha256 OF THE DUMP (.gsa) THAT YtgkkmdebpekckaaProg.lean LOADS. Nothing in Lean hashes anything: it is a label: what it is worth is what the hold of that sum in a sandbox is worth. -/
noncomputable def Try.pinned : Pinned := { name := "ytgkkmdebpekckaa", sum := "a892203d2a14a7623a7f50694e4a80a1a9c466665cbd46019f8cfd1a09262204", checked := Try.checked }
namespace Rows
def none {H : Type} : Left H := { results := [], args := [] }

/-- 'spindlelaw18.ModelPrefixes': WHATEVER THE INPUT: true; the input reads as it did. -/
def modelPrefixesSpec : ChangeSpec := { name := "modelPrefixes", fn := fun _ => fun
  | [d1, d2, d3] => { results := [.lit (.bool true)], args := [d1, d2, d3] }
  | _ => none }
def modelPrefixesRow : OpenClaim := { program := "ytgkkmdebpekckaa", sum := "a892203d2a14a7623a7f50694e4a80a1a9c466665cbd46019f8cfd1a09262204", func := "spindle/spindlelaw18.ModelPrefixes", spec := "modelPrefixes", unfollowed := true, recurses := true, apart := false }
def ModelPrefixesSaid : Prop := modelPrefixesRow.holds Try.pinned (OpenSpec.ofChange modelPrefixesSpec)

/-- ITS FALSE NEIGHBOUR: 'it returns false'. Refute it at one input. -/
def modelPrefixesWrong : ChangeSpec := { name := "modelPrefixes", fn := fun _ => fun
  | [d1, d2, d3] => { results := [.lit (.bool false)], args := [d1, d2, d3] }
  | _ => none }
def ModelPrefixesWrongFalsely : Prop := modelPrefixesRow.holds Try.pinned (OpenSpec.ofChange modelPrefixesWrong)

/-- 'spindlelaw18.ModelHolds': WHATEVER THE INPUT: true; the input reads as it did. -/
def modelHoldsSpec : ChangeSpec := { name := "modelHolds", fn := fun _ => fun
  | [d1, d2] => { results := [.lit (.bool true)], args := [d1, d2] }
  | _ => none }
def modelHoldsRow : OpenClaim := { program := "ytgkkmdebpekckaa", sum := "a892203d2a14a7623a7f50694e4a80a1a9c466665cbd46019f8cfd1a09262204", func := "spindle/spindlelaw18.ModelHolds", spec := "modelHolds", unfollowed := true, recurses := true, apart := false }
def ModelHoldsSaid : Prop := modelHoldsRow.holds Try.pinned (OpenSpec.ofChange modelHoldsSpec)

/-- ITS FALSE NEIGHBOUR: 'it returns false'. Refute it at one input. -/
def modelHoldsWrong : ChangeSpec := { name := "modelHolds", fn := fun _ => fun
  | [d1, d2] => { results := [.lit (.bool false)], args := [d1, d2] }
  | _ => none }
def ModelHoldsWrongFalsely : Prop := modelHoldsRow.holds Try.pinned (OpenSpec.ofChange modelHoldsWrong)

/-- 'spindlelaw18.ModelCrashes': WHATEVER THE INPUT: true; the input reads as it did. -/
def modelCrashesSpec : ChangeSpec := { name := "modelCrashes", fn := fun _ => fun
  | [d1, d2, d3, d4, d5] => { results := [.lit (.bool true)], args := [d1, d2, d3, d4, d5] }
  | _ => none }
def modelCrashesRow : OpenClaim := { program := "ytgkkmdebpekckaa", sum := "a892203d2a14a7623a7f50694e4a80a1a9c466665cbd46019f8cfd1a09262204", func := "spindle/spindlelaw18.ModelCrashes", spec := "modelCrashes", unfollowed := true, recurses := true, apart := false }
def ModelCrashesSaid : Prop := modelCrashesRow.holds Try.pinned (OpenSpec.ofChange modelCrashesSpec)

/-- ITS FALSE NEIGHBOUR: 'it returns false'. Refute it at one input. -/
def modelCrashesWrong : ChangeSpec := { name := "modelCrashes", fn := fun _ => fun
  | [d1, d2, d3, d4, d5] => { results := [.lit (.bool false)], args := [d1, d2, d3, d4, d5] }
  | _ => none }
def ModelCrashesWrongFalsely : Prop := modelCrashesRow.holds Try.pinned (OpenSpec.ofChange modelCrashesWrong)

/-- 'spindlelaw18.ModelDoes': WHATEVER THE INPUT: true; the input reads as it did. -/
def modelDoesSpec : ChangeSpec := { name := "modelDoes", fn := fun _ => fun
  | [d1, d2] => { results := [.lit (.bool true)], args := [d1, d2] }
  | _ => none }
def modelDoesRow : OpenClaim := { program := "ytgkkmdebpekckaa", sum := "a892203d2a14a7623a7f50694e4a80a1a9c466665cbd46019f8cfd1a09262204", func := "spindle/spindlelaw18.ModelDoes", spec := "modelDoes", unfollowed := true, recurses := true, apart := false }
def ModelDoesSaid : Prop := modelDoesRow.holds Try.pinned (OpenSpec.ofChange modelDoesSpec)

/-- ITS FALSE NEIGHBOUR: 'it returns false'. Refute it at one input. -/
def modelDoesWrong : ChangeSpec := { name := "modelDoes", fn := fun _ => fun
  | [d1, d2] => { results := [.lit (.bool false)], args := [d1, d2] }
  | _ => none }
def ModelDoesWrongFalsely : Prop := modelDoesRow.holds Try.pinned (OpenSpec.ofChange modelDoesWrong)

/- THE SECOND FORM. 'bulk': how many values and letters a reading holds, each counted each time it is reached (what is shared counts as often as it is met; a slice's spare places count too). A statement '..UptoSaid' is the law's where the arguments, and the package variables that the reading takes, are together of bulk at most 1048576: NARROWER than '..Said'. Prove '..Said' where nothing that the law and all that it calls make is longer than what came in: it says more and counts as full. Else prove '..UptoSaid'. A law counts once. -/
mutual
def uptoBulk {H : Type} : DataW H → Nat
  | .lit (.string bytes) => bytes.length + 1
  | .lit _ => 1
  | .nil => 1
  | .ptr d => uptoBulk d + 1
  | .slice elems spare => uptoBulkAll elems + uptoBulkAll spare + 1
  | .agg parts => uptoBulkAll parts + 1
  | .iface _ d => uptoBulk d + 1
  | .map entries => uptoBulkEntries entries + 1
  | .held _ => 1
def uptoBulkAll {H : Type} : List (DataW H) → Nat
  | [] => 0
  | d :: r => uptoBulk d + uptoBulkAll r
def uptoBulkEntries {H : Type} : List (Lit × DataW H) → Nat
  | [] => 0
  | x :: r => uptoBulkEntry x + uptoBulkEntries r
def uptoBulkEntry {H : Type} : Lit × DataW H → Nat
  | (.string bytes, d) => bytes.length + uptoBulk d + 1
  | (_, d) => uptoBulk d + 1
 end
def uptoSmall : (H : Type) → List (DataW H) → Bool := fun _ ds => decide (uptoBulkAll ds ≤ 1048576)
def OpenSpec.upto (s : _root_.Go.ChangeSpec) : _root_.Go.OpenSpec := { _root_.Go.OpenSpec.ofChange s with cond := some uptoSmall }

/-- 'spindlelaw18.ModelPrefixes', WHERE WHAT IT READS IS OF BULK AT MOST 1048576: true; the input reads as it did. -/
def modelPrefixesUptoRow : OpenClaim := { program := "ytgkkmdebpekckaa", sum := "a892203d2a14a7623a7f50694e4a80a1a9c466665cbd46019f8cfd1a09262204", func := "spindle/spindlelaw18.ModelPrefixes", spec := "modelPrefixes", unfollowed := true, recurses := true, apart := false, narrowed := true }
def ModelPrefixesUptoSaid : Prop := modelPrefixesUptoRow.holds Try.pinned (OpenSpec.upto modelPrefixesSpec)

/-- 'spindlelaw18.ModelHolds', WHERE WHAT IT READS IS OF BULK AT MOST 1048576: true; the input reads as it did. -/
def modelHoldsUptoRow : OpenClaim := { program := "ytgkkmdebpekckaa", sum := "a892203d2a14a7623a7f50694e4a80a1a9c466665cbd46019f8cfd1a09262204", func := "spindle/spindlelaw18.ModelHolds", spec := "modelHolds", unfollowed := true, recurses := true, apart := false, narrowed := true }
def ModelHoldsUptoSaid : Prop := modelHoldsUptoRow.holds Try.pinned (OpenSpec.upto modelHoldsSpec)

/-- 'spindlelaw18.ModelCrashes', WHERE WHAT IT READS IS OF BULK AT MOST 1048576: true; the input reads as it did. -/
def modelCrashesUptoRow : OpenClaim := { program := "ytgkkmdebpekckaa", sum := "a892203d2a14a7623a7f50694e4a80a1a9c466665cbd46019f8cfd1a09262204", func := "spindle/spindlelaw18.ModelCrashes", spec := "modelCrashes", unfollowed := true, recurses := true, apart := false, narrowed := true }
def ModelCrashesUptoSaid : Prop := modelCrashesUptoRow.holds Try.pinned (OpenSpec.upto modelCrashesSpec)

/-- 'spindlelaw18.ModelDoes', WHERE WHAT IT READS IS OF BULK AT MOST 1048576: true; the input reads as it did. -/
def modelDoesUptoRow : OpenClaim := { program := "ytgkkmdebpekckaa", sum := "a892203d2a14a7623a7f50694e4a80a1a9c466665cbd46019f8cfd1a09262204", func := "spindle/spindlelaw18.ModelDoes", spec := "modelDoes", unfollowed := true, recurses := true, apart := false, narrowed := true }
def ModelDoesUptoSaid : Prop := modelDoesUptoRow.holds Try.pinned (OpenSpec.upto modelDoesSpec)

end Rows
end Go.Proofs.Ytgkkmdebpekckaa
