/-
  No cell of these rows narrows 'for every input' (looked for: loops, veiled, ifaces, maps, wideKeys, modest, calm, conditions, laid).
  DERIVED. THE GIVEN ROWS OF THIS SEAT. 3 by the template 'for every input the law returns true; each argument reads behind the call as it read before'; 0 by the template 'total and deterministic' (their statements: YtbimjlmclegaeaaGreatTotals.lean).
  GIVEN WITH THE SEED: the statements are not yours to turn. If you find one false, say at which input.
  Laid BY PROGRAM, IN A SANDBOX (cutbox-rows.mjs): the forced cells as the released guide's own fill.sh prints them over the translation 9c8f996701e02dd1… (all of the seat's roots in one cut). By AI agents, Wed Nov 11 2026. No macro, syntax, notation, axiom, sorry.
-/
import Derived.Test.YtbimjlmclegaeaaGreatChecked
import GoSem.Claim
import GoSem.ClaimJoined
import GoSem.ClaimMapViews
import Derived.JoinedTies
import Derived.KernelRfl
namespace Go.Proofs.YtbimjlmclegaeaaGreat
/- THE CELL 'sum', in the pinned program and in every row, IS THE sha256 OF THE DUMP (.gsa) THAT YtbimjlmclegaeaaGreatProg.lean LOADS. Nothing in Lean hashes anything: it is a label: what it is worth is what the hold of that sum in a sandbox is worth. -/
noncomputable def Tryz.pinned : Pinned := { name := "ytbimjlmclegaeaagreat", sum := "9c8f996701e02dd1b39deb3e896712fd70ec6ea7dd2a79c5bb6e710a0e79c742", checked := Tryz.checked }
namespace Rows
def none {H : Type} : Left H := { results := [], args := [] }

/-- 'spindletop.TopOne': WHATEVER THE INPUT: true; the input reads as it did. -/
def topOneSpec : ChangeSpec := { name := "topOne", fn := fun _ => fun
  | [d] => { results := [.lit (.bool true)], args := [d] }
  | _ => none }
def topOneRow : OpenClaim := { program := "ytbimjlmclegaeaagreat", sum := "9c8f996701e02dd1b39deb3e896712fd70ec6ea7dd2a79c5bb6e710a0e79c742", func := "spindle/spindletop.TopOne", spec := "topOne", unfollowed := true, recurses := true, plainKeys := false, apart := false }
def TopOneSaid : Prop := topOneRow.holds Tryz.pinned (OpenSpec.ofChange topOneSpec)

/-- ITS FALSE NEIGHBOUR: 'it returns false'. Refute it at one input. -/
def topOneWrong : ChangeSpec := { name := "topOne", fn := fun _ => fun
  | [d] => { results := [.lit (.bool false)], args := [d] }
  | _ => none }
def TopOneWrongFalsely : Prop := topOneRow.holds Tryz.pinned (OpenSpec.ofChange topOneWrong)

/-- 'spindletop.TopWhole': WHATEVER THE INPUT: true; the input reads as it did. -/
def topWholeSpec : ChangeSpec := { name := "topWhole", fn := fun _ => fun
  | [d1, d2, d3, d4] => { results := [.lit (.bool true)], args := [d1, d2, d3, d4] }
  | _ => none }
def topWholeRow : OpenClaim := { program := "ytbimjlmclegaeaagreat", sum := "9c8f996701e02dd1b39deb3e896712fd70ec6ea7dd2a79c5bb6e710a0e79c742", func := "spindle/spindletop.TopWhole", spec := "topWhole", unfollowed := true, recurses := true, plainKeys := false, apart := false }
def TopWholeSaid : Prop := topWholeRow.holds Tryz.pinned (OpenSpec.ofChange topWholeSpec)

/-- ITS FALSE NEIGHBOUR: 'it returns false'. Refute it at one input. -/
def topWholeWrong : ChangeSpec := { name := "topWhole", fn := fun _ => fun
  | [d1, d2, d3, d4] => { results := [.lit (.bool false)], args := [d1, d2, d3, d4] }
  | _ => none }
def TopWholeWrongFalsely : Prop := topWholeRow.holds Tryz.pinned (OpenSpec.ofChange topWholeWrong)

/-- 'spindletop.TopHole': WHATEVER THE INPUT: true; the input reads as it did. -/
def topHoleSpec : ChangeSpec := { name := "topHole", fn := fun _ => fun
  | [d1, d2, d3, d4, d5] => { results := [.lit (.bool true)], args := [d1, d2, d3, d4, d5] }
  | _ => none }
def topHoleRow : OpenClaim := { program := "ytbimjlmclegaeaagreat", sum := "9c8f996701e02dd1b39deb3e896712fd70ec6ea7dd2a79c5bb6e710a0e79c742", func := "spindle/spindletop.TopHole", spec := "topHole", unfollowed := true, recurses := true, plainKeys := false, apart := false }
def TopHoleSaid : Prop := topHoleRow.holds Tryz.pinned (OpenSpec.ofChange topHoleSpec)

/-- ITS FALSE NEIGHBOUR: 'it returns false'. Refute it at one input. -/
def topHoleWrong : ChangeSpec := { name := "topHole", fn := fun _ => fun
  | [d1, d2, d3, d4, d5] => { results := [.lit (.bool false)], args := [d1, d2, d3, d4, d5] }
  | _ => none }
def TopHoleWrongFalsely : Prop := topHoleRow.holds Tryz.pinned (OpenSpec.ofChange topHoleWrong)

/- THE SECOND FORM. 'bulk': how many values and letters a reading holds, each counted each time it is reached (what is shared counts as often as it is met; a slice's spare places count too). A statement '..UptoSaid' is the law's where the arguments, and the package variables that the reading takes, are together of bulk at most 1048576: NARROWER than '..Said'. Prove '..Said' where nothing that the law and all that it calls make is longer than what came in: it says more and counts as full. Else prove '..UptoSaid'. A law counts once. -/
mutual
def uptoBulk {H : Type} : DataW H → Nat
  | .lit (.string bytes) => bytes.length + 1
  | .lit _ => 1
  | .nil => 1
  | .ptr d => uptoBulk d + 1
  | .slice elems spare => uptoBulkAll elems + uptoBulkAll spare + 1
  | .agg parts => uptoBulkAll parts + 1
  | .iface _ d => uptoBulk d + 1
  | .map entries => uptoBulkEntries entries + 1
  | .held _ => 1
def uptoBulkAll {H : Type} : List (DataW H) → Nat
  | [] => 0
  | d :: r => uptoBulk d + uptoBulkAll r
def uptoBulkEntries {H : Type} : List (Lit × DataW H) → Nat
  | [] => 0
  | x :: r => uptoBulkEntry x + uptoBulkEntries r
def uptoBulkEntry {H : Type} : Lit × DataW H → Nat
  | (.string bytes, d) => bytes.length + uptoBulk d + 1
  | (_, d) => uptoBulk d + 1
 end
def uptoSmall : (H : Type) → List (DataW H) → Bool := fun _ ds => decide (uptoBulkAll ds ≤ 1048576)
def OpenSpec.upto (s : _root_.Go.ChangeSpec) : _root_.Go.OpenSpec := { _root_.Go.OpenSpec.ofChange s with cond := some uptoSmall }

/-- 'spindletop.TopOne', WHERE WHAT IT READS IS OF BULK AT MOST 1048576: true; the input reads as it did. -/
def topOneUptoRow : OpenClaim := { program := "ytbimjlmclegaeaagreat", sum := "9c8f996701e02dd1b39deb3e896712fd70ec6ea7dd2a79c5bb6e710a0e79c742", func := "spindle/spindletop.TopOne", spec := "topOne", unfollowed := true, recurses := true, plainKeys := false, apart := false, narrowed := true }
def TopOneUptoSaid : Prop := topOneUptoRow.holds Tryz.pinned (OpenSpec.upto topOneSpec)

/-- 'spindletop.TopWhole', WHERE WHAT IT READS IS OF BULK AT MOST 1048576: true; the input reads as it did. -/
def topWholeUptoRow : OpenClaim := { program := "ytbimjlmclegaeaagreat", sum := "9c8f996701e02dd1b39deb3e896712fd70ec6ea7dd2a79c5bb6e710a0e79c742", func := "spindle/spindletop.TopWhole", spec := "topWhole", unfollowed := true, recurses := true, plainKeys := false, apart := false, narrowed := true }
def TopWholeUptoSaid : Prop := topWholeUptoRow.holds Tryz.pinned (OpenSpec.upto topWholeSpec)

/-- 'spindletop.TopHole', WHERE WHAT IT READS IS OF BULK AT MOST 1048576: true; the input reads as it did. -/
def topHoleUptoRow : OpenClaim := { program := "ytbimjlmclegaeaagreat", sum := "9c8f996701e02dd1b39deb3e896712fd70ec6ea7dd2a79c5bb6e710a0e79c742", func := "spindle/spindletop.TopHole", spec := "topHole", unfollowed := true, recurses := true, plainKeys := false, apart := false, narrowed := true }
def TopHoleUptoSaid : Prop := topHoleUptoRow.holds Tryz.pinned (OpenSpec.upto topHoleSpec)

end Rows
end Go.Proofs.YtbimjlmclegaeaaGreat
