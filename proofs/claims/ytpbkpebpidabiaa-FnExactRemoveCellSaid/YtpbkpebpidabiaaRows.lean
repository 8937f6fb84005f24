/-
  No cell of these rows narrows 'for every input' (looked for: loops, veiled, ifaces, maps, wideKeys, modest, calm, conditions, laid).
  DERIVED. THE GIVEN ROWS OF THIS SEAT. 6 by the template 'for every input the law returns true; each argument reads behind the call as it read before'; 0 by the template 'total and deterministic' (their statements: YtpbkpebpidabiaaTotals.lean).
  GIVEN WITH THE SEED: the statements are not yours to turn. If you find one false, say at which input.
  Laid BY PROGRAM, IN A SANDBOX (cutbox-rows.mjs): the forced cells as the released guide's own fill.sh prints them over the translation f11961a67e71fef2… (all of the seat's roots in one cut). By AI agents, Wed Nov 11 2026. No macro, syntax, notation, axiom, sorry.
-/
import Derived.Test.YtpbkpebpidabiaaChecked
import GoSem.Claim
import GoSem.ClaimJoined
import GoSem.ClaimMapViews
import Derived.JoinedTies
import Derived.KernelRfl
namespace Go.Proofs.Ytpbkpebpidabiaa
/- THE CELL 'sum', in the pinned program and in every row, IS THE sha256 OF THE DUMP (.gsa) THAT YtpbkpebpidabiaaProg.lean LOADS. Nothing in Lean hashes anything: it is a label: what it is worth is what the hold of that sum in a sandbox is worth. -/
noncomputable def Try.pinned : Pinned := { name := "ytpbkpebpidabiaa", sum := "f11961a67e71fef2ed278feeec82ba769edc40478a4d96951ac41d0dd5ec00fb", checked := Try.checked }
namespace Rows
def none {H : Type} : Left H := { results := [], args := [] }

/-- 'laws.FnExactEqualRegions': WHATEVER THE INPUT: true; the input reads as it did. -/
def fnExactEqualRegionsSpec : ChangeSpec := { name := "fnExactEqualRegions", fn := fun _ => fun
  | [d1, d2] => { results := [.lit (.bool true)], args := [d1, d2] }
  | _ => none }
def fnExactEqualRegionsRow : OpenClaim := { program := "ytpbkpebpidabiaa", sum := "f11961a67e71fef2ed278feeec82ba769edc40478a4d96951ac41d0dd5ec00fb", func := "loop.example/g03400/laws.FnExactEqualRegions", spec := "fnExactEqualRegions", apart := false }
def FnExactEqualRegionsSaid : Prop := fnExactEqualRegionsRow.holds Try.pinned (OpenSpec.ofChange fnExactEqualRegionsSpec)

/-- ITS FALSE NEIGHBOUR: 'it returns false'. Refute it at one input. -/
def fnExactEqualRegionsWrong : ChangeSpec := { name := "fnExactEqualRegions", fn := fun _ => fun
  | [d1, d2] => { results := [.lit (.bool false)], args := [d1, d2] }
  | _ => none }
def FnExactEqualRegionsWrongFalsely : Prop := fnExactEqualRegionsRow.holds Try.pinned (OpenSpec.ofChange fnExactEqualRegionsWrong)

/-- 'laws.FnExactRectangleOf': WHATEVER THE INPUT: true; the input reads as it did. -/
def fnExactRectangleOfSpec : ChangeSpec := { name := "fnExactRectangleOf", fn := fun _ => fun
  | [d1, d2] => { results := [.lit (.bool true)], args := [d1, d2] }
  | _ => none }
def fnExactRectangleOfRow : OpenClaim := { program := "ytpbkpebpidabiaa", sum := "f11961a67e71fef2ed278feeec82ba769edc40478a4d96951ac41d0dd5ec00fb", func := "loop.example/g03400/laws.FnExactRectangleOf", spec := "fnExactRectangleOf", apart := false }
def FnExactRectangleOfSaid : Prop := fnExactRectangleOfRow.holds Try.pinned (OpenSpec.ofChange fnExactRectangleOfSpec)

/-- ITS FALSE NEIGHBOUR: 'it returns false'. Refute it at one input. -/
def fnExactRectangleOfWrong : ChangeSpec := { name := "fnExactRectangleOf", fn := fun _ => fun
  | [d1, d2] => { results := [.lit (.bool false)], args := [d1, d2] }
  | _ => none }
def FnExactRectangleOfWrongFalsely : Prop := fnExactRectangleOfRow.holds Try.pinned (OpenSpec.ofChange fnExactRectangleOfWrong)

/-- 'laws.FnExactIsRegion': WHATEVER THE INPUT: true; the input reads as it did. -/
def fnExactIsRegionSpec : ChangeSpec := { name := "fnExactIsRegion", fn := fun _ => fun
  | [d] => { results := [.lit (.bool true)], args := [d] }
  | _ => none }
def fnExactIsRegionRow : OpenClaim := { program := "ytpbkpebpidabiaa", sum := "f11961a67e71fef2ed278feeec82ba769edc40478a4d96951ac41d0dd5ec00fb", func := "loop.example/g03400/laws.FnExactIsRegion", spec := "fnExactIsRegion", apart := false }
def FnExactIsRegionSaid : Prop := fnExactIsRegionRow.holds Try.pinned (OpenSpec.ofChange fnExactIsRegionSpec)

/-- ITS FALSE NEIGHBOUR: 'it returns false'. Refute it at one input. -/
def fnExactIsRegionWrong : ChangeSpec := { name := "fnExactIsRegion", fn := fun _ => fun
  | [d] => { results := [.lit (.bool false)], args := [d] }
  | _ => none }
def FnExactIsRegionWrongFalsely : Prop := fnExactIsRegionRow.holds Try.pinned (OpenSpec.ofChange fnExactIsRegionWrong)

/-- 'laws.FnExactInRegion': WHATEVER THE INPUT: true; the input reads as it did. -/
def fnExactInRegionSpec : ChangeSpec := { name := "fnExactInRegion", fn := fun _ => fun
  | [d1, d2, d3] => { results := [.lit (.bool true)], args := [d1, d2, d3] }
  | _ => none }
def fnExactInRegionRow : OpenClaim := { program := "ytpbkpebpidabiaa", sum := "f11961a67e71fef2ed278feeec82ba769edc40478a4d96951ac41d0dd5ec00fb", func := "loop.example/g03400/laws.FnExactInRegion", spec := "fnExactInRegion", apart := false }
def FnExactInRegionSaid : Prop := fnExactInRegionRow.holds Try.pinned (OpenSpec.ofChange fnExactInRegionSpec)

/-- ITS FALSE NEIGHBOUR: 'it returns false'. Refute it at one input. -/
def fnExactInRegionWrong : ChangeSpec := { name := "fnExactInRegion", fn := fun _ => fun
  | [d1, d2, d3] => { results := [.lit (.bool false)], args := [d1, d2, d3] }
  | _ => none }
def FnExactInRegionWrongFalsely : Prop := fnExactInRegionRow.holds Try.pinned (OpenSpec.ofChange fnExactInRegionWrong)

/-- 'laws.FnExactRemoveCell': WHATEVER THE INPUT: true; the input reads as it did. -/
def fnExactRemoveCellSpec : ChangeSpec := { name := "fnExactRemoveCell", fn := fun _ => fun
  | [d1, d2, d3] => { results := [.lit (.bool true)], args := [d1, d2, d3] }
  | _ => none }
def fnExactRemoveCellRow : OpenClaim := { program := "ytpbkpebpidabiaa", sum := "f11961a67e71fef2ed278feeec82ba769edc40478a4d96951ac41d0dd5ec00fb", func := "loop.example/g03400/laws.FnExactRemoveCell", spec := "fnExactRemoveCell", apart := false }
def FnExactRemoveCellSaid : Prop := fnExactRemoveCellRow.holds Try.pinned (OpenSpec.ofChange fnExactRemoveCellSpec)

/-- ITS FALSE NEIGHBOUR: 'it returns false'. Refute it at one input. -/
def fnExactRemoveCellWrong : ChangeSpec := { name := "fnExactRemoveCell", fn := fun _ => fun
  | [d1, d2, d3] => { results := [.lit (.bool false)], args := [d1, d2, d3] }
  | _ => none }
def FnExactRemoveCellWrongFalsely : Prop := fnExactRemoveCellRow.holds Try.pinned (OpenSpec.ofChange fnExactRemoveCellWrong)

/-- 'laws.FnExactAreaOf': WHATEVER THE INPUT: true; the input reads as it did. -/
def fnExactAreaOfSpec : ChangeSpec := { name := "fnExactAreaOf", fn := fun _ => fun
  | [d] => { results := [.lit (.bool true)], args := [d] }
  | _ => none }
def fnExactAreaOfRow : OpenClaim := { program := "ytpbkpebpidabiaa", sum := "f11961a67e71fef2ed278feeec82ba769edc40478a4d96951ac41d0dd5ec00fb", func := "loop.example/g03400/laws.FnExactAreaOf", spec := "fnExactAreaOf", apart := false }
def FnExactAreaOfSaid : Prop := fnExactAreaOfRow.holds Try.pinned (OpenSpec.ofChange fnExactAreaOfSpec)

/-- ITS FALSE NEIGHBOUR: 'it returns false'. Refute it at one input. -/
def fnExactAreaOfWrong : ChangeSpec := { name := "fnExactAreaOf", fn := fun _ => fun
  | [d] => { results := [.lit (.bool false)], args := [d] }
  | _ => none }
def FnExactAreaOfWrongFalsely : Prop := fnExactAreaOfRow.holds Try.pinned (OpenSpec.ofChange fnExactAreaOfWrong)

/- THE SECOND FORM. 'bulk': how many values and letters a reading holds, each counted each time it is reached (what is shared counts as often as it is met; a slice's spare places count too). A statement '..UptoSaid' is the law's where the arguments, and the package variables that the reading takes, are together of bulk at most 1048576: NARROWER than '..Said'. Prove '..Said' where nothing that the law and all that it calls make is longer than what came in: it says more and counts as full. Else prove '..UptoSaid'. A law counts once. -/
mutual
def uptoBulk {H : Type} : DataW H → Nat
  | .lit (.string bytes) => bytes.length + 1
  | .lit _ => 1
  | .nil => 1
  | .ptr d => uptoBulk d + 1
  | .slice elems spare => uptoBulkAll elems + uptoBulkAll spare + 1
  | .agg parts => uptoBulkAll parts + 1
  | .iface _ d => uptoBulk d + 1
  | .map entries => uptoBulkEntries entries + 1
  | .held _ => 1
def uptoBulkAll {H : Type} : List (DataW H) → Nat
  | [] => 0
  | d :: r => uptoBulk d + uptoBulkAll r
def uptoBulkEntries {H : Type} : List (Lit × DataW H) → Nat
  | [] => 0
  | x :: r => uptoBulkEntry x + uptoBulkEntries r
def uptoBulkEntry {H : Type} : Lit × DataW H → Nat
  | (.string bytes, d) => bytes.length + uptoBulk d + 1
  | (_, d) => uptoBulk d + 1
 end
def uptoSmall : (H : Type) → List (DataW H) → Bool := fun _ ds => decide (uptoBulkAll ds ≤ 1048576)
def OpenSpec.upto (s : _root_.Go.ChangeSpec) : _root_.Go.OpenSpec := { _root_.Go.OpenSpec.ofChange s with cond := some uptoSmall }

/-- 'laws.FnExactEqualRegions', WHERE WHAT IT READS IS OF BULK AT MOST 1048576: true; the input reads as it did. -/
def fnExactEqualRegionsUptoRow : OpenClaim := { program := "ytpbkpebpidabiaa", sum := "f11961a67e71fef2ed278feeec82ba769edc40478a4d96951ac41d0dd5ec00fb", func := "loop.example/g03400/laws.FnExactEqualRegions", spec := "fnExactEqualRegions", apart := false, narrowed := true }
def FnExactEqualRegionsUptoSaid : Prop := fnExactEqualRegionsUptoRow.holds Try.pinned (OpenSpec.upto fnExactEqualRegionsSpec)

/-- 'laws.FnExactRectangleOf', WHERE WHAT IT READS IS OF BULK AT MOST 1048576: true; the input reads as it did. -/
def fnExactRectangleOfUptoRow : OpenClaim := { program := "ytpbkpebpidabiaa", sum := "f11961a67e71fef2ed278feeec82ba769edc40478a4d96951ac41d0dd5ec00fb", func := "loop.example/g03400/laws.FnExactRectangleOf", spec := "fnExactRectangleOf", apart := false, narrowed := true }
def FnExactRectangleOfUptoSaid : Prop := fnExactRectangleOfUptoRow.holds Try.pinned (OpenSpec.upto fnExactRectangleOfSpec)

/-- 'laws.FnExactIsRegion', WHERE WHAT IT READS IS OF BULK AT MOST 1048576: true; the input reads as it did. -/
def fnExactIsRegionUptoRow : OpenClaim := { program := "ytpbkpebpidabiaa", sum := "f11961a67e71fef2ed278feeec82ba769edc40478a4d96951ac41d0dd5ec00fb", func := "loop.example/g03400/laws.FnExactIsRegion", spec := "fnExactIsRegion", apart := false, narrowed := true }
def FnExactIsRegionUptoSaid : Prop := fnExactIsRegionUptoRow.holds Try.pinned (OpenSpec.upto fnExactIsRegionSpec)

/-- 'laws.FnExactInRegion', WHERE WHAT IT READS IS OF BULK AT MOST 1048576: true; the input reads as it did. -/
def fnExactInRegionUptoRow : OpenClaim := { program := "ytpbkpebpidabiaa", sum := "f11961a67e71fef2ed278feeec82ba769edc40478a4d96951ac41d0dd5ec00fb", func := "loop.example/g03400/laws.FnExactInRegion", spec := "fnExactInRegion", apart := false, narrowed := true }
def FnExactInRegionUptoSaid : Prop := fnExactInRegionUptoRow.holds Try.pinned (OpenSpec.upto fnExactInRegionSpec)

/-- 'laws.FnExactRemoveCell', WHERE WHAT IT READS IS OF BULK AT MOST 1048576: true; the input reads as it did. -/
def fnExactRemoveCellUptoRow : OpenClaim := { program := "ytpbkpebpidabiaa", sum := "f11961a67e71fef2ed278feeec82ba769edc40478a4d96951ac41d0dd5ec00fb", func := "loop.example/g03400/laws.FnExactRemoveCell", spec := "fnExactRemoveCell", apart := false, narrowed := true }
def FnExactRemoveCellUptoSaid : Prop := fnExactRemoveCellUptoRow.holds Try.pinned (OpenSpec.upto fnExactRemoveCellSpec)

/-- 'laws.FnExactAreaOf', WHERE WHAT IT READS IS OF BULK AT MOST 1048576: true; the input reads as it did. -/
def fnExactAreaOfUptoRow : OpenClaim := { program := "ytpbkpebpidabiaa", sum := "f11961a67e71fef2ed278feeec82ba769edc40478a4d96951ac41d0dd5ec00fb", func := "loop.example/g03400/laws.FnExactAreaOf", spec := "fnExactAreaOf", apart := false, narrowed := true }
def FnExactAreaOfUptoSaid : Prop := fnExactAreaOfUptoRow.holds Try.pinned (OpenSpec.upto fnExactAreaOfSpec)

end Rows
end Go.Proofs.Ytpbkpebpidabiaa
