/-
  No cell of these rows narrows 'for every input' (looked for: loops, veiled, ifaces, maps, wideKeys, modest, calm, conditions, laid).
  DERIVED. THE GIVEN ROWS OF THIS SEAT. 15 by the template 'for every input the law returns true; each argument reads behind the call as it read before'; 0 by the template 'total and deterministic' (their statements: YtmojfiigjoamnaaTotals.lean).
  GIVEN WITH THE SEED: the statements are not yours to turn. If you find one false, say at which input.
  Laid BY PROGRAM, IN A SANDBOX (cutbox-rows.mjs): the forced cells as the released guide's own fill.sh prints them over the translation f5028cf50d6d4d6f… (all of the seat's roots in one cut). By AI agents, Wed Nov 11 2026. No macro, syntax, notation, axiom, sorry.
-/
import Derived.Test.YtmojfiigjoamnaaChecked
import GoSem.Claim
import GoSem.ClaimJoined
import GoSem.ClaimMapViews
import Derived.JoinedTies
import Derived.KernelRfl
namespace Go.Proofs.Ytmojfiigjoamnaa
/- THE CELL 'sum', in the pinned program and in every row, IS THE sha256 OF THE DUMP (.gsa) THAT YtmojfiigjoamnaaProg.lean LOADS. Nothing in Lean hashes anything: it is a label: what it is worth is what the hold of that sum in a sandbox is worth. -/
noncomputable def Try.pinned : Pinned := { name := "ytmojfiigjoamnaa", sum := "f5028cf50d6d4d6f771a4300560063b9208763d78b265cb84a78ecf5043b3be1", checked := Try.checked }
namespace Rows
def none {H : Type} : Left H := { results := [], args := [] }

/-- 'laws.FnExactComposeMotions': WHATEVER THE INPUT: true; the input reads as it did. -/
def fnExactComposeMotionsSpec : ChangeSpec := { name := "fnExactComposeMotions", fn := fun _ => fun
  | [d1, d2] => { results := [.lit (.bool true)], args := [d1, d2] }
  | _ => none }
def fnExactComposeMotionsRow : OpenClaim := { program := "ytmojfiigjoamnaa", sum := "f5028cf50d6d4d6f771a4300560063b9208763d78b265cb84a78ecf5043b3be1", func := "loop.example/g03400/laws.FnExactComposeMotions", spec := "fnExactComposeMotions", plainKeys := false, apart := false }
def FnExactComposeMotionsSaid : Prop := fnExactComposeMotionsRow.holds Try.pinned (OpenSpec.ofChange fnExactComposeMotionsSpec)

/-- ITS FALSE NEIGHBOUR: 'it returns false'. Refute it at one input. -/
def fnExactComposeMotionsWrong : ChangeSpec := { name := "fnExactComposeMotions", fn := fun _ => fun
  | [d1, d2] => { results := [.lit (.bool false)], args := [d1, d2] }
  | _ => none }
def FnExactComposeMotionsWrongFalsely : Prop := fnExactComposeMotionsRow.holds Try.pinned (OpenSpec.ofChange fnExactComposeMotionsWrong)

/-- 'laws.FnExactHasCell': WHATEVER THE INPUT: true; the input reads as it did. -/
def fnExactHasCellSpec : ChangeSpec := { name := "fnExactHasCell", fn := fun _ => fun
  | [d1, d2, d3] => { results := [.lit (.bool true)], args := [d1, d2, d3] }
  | _ => none }
def fnExactHasCellRow : OpenClaim := { program := "ytmojfiigjoamnaa", sum := "f5028cf50d6d4d6f771a4300560063b9208763d78b265cb84a78ecf5043b3be1", func := "loop.example/g03400/laws.FnExactHasCell", spec := "fnExactHasCell", plainKeys := false, apart := false }
def FnExactHasCellSaid : Prop := fnExactHasCellRow.holds Try.pinned (OpenSpec.ofChange fnExactHasCellSpec)

/-- ITS FALSE NEIGHBOUR: 'it returns false'. Refute it at one input. -/
def fnExactHasCellWrong : ChangeSpec := { name := "fnExactHasCell", fn := fun _ => fun
  | [d1, d2, d3] => { results := [.lit (.bool false)], args := [d1, d2, d3] }
  | _ => none }
def FnExactHasCellWrongFalsely : Prop := fnExactHasCellRow.holds Try.pinned (OpenSpec.ofChange fnExactHasCellWrong)

/-- 'laws.FnExactIsShape': WHATEVER THE INPUT: true; the input reads as it did. -/
def fnExactIsShapeSpec : ChangeSpec := { name := "fnExactIsShape", fn := fun _ => fun
  | [d] => { results := [.lit (.bool true)], args := [d] }
  | _ => none }
def fnExactIsShapeRow : OpenClaim := { program := "ytmojfiigjoamnaa", sum := "f5028cf50d6d4d6f771a4300560063b9208763d78b265cb84a78ecf5043b3be1", func := "loop.example/g03400/laws.FnExactIsShape", spec := "fnExactIsShape", plainKeys := false, apart := false }
def FnExactIsShapeSaid : Prop := fnExactIsShapeRow.holds Try.pinned (OpenSpec.ofChange fnExactIsShapeSpec)

/-- ITS FALSE NEIGHBOUR: 'it returns false'. Refute it at one input. -/
def fnExactIsShapeWrong : ChangeSpec := { name := "fnExactIsShape", fn := fun _ => fun
  | [d] => { results := [.lit (.bool false)], args := [d] }
  | _ => none }
def FnExactIsShapeWrongFalsely : Prop := fnExactIsShapeRow.holds Try.pinned (OpenSpec.ofChange fnExactIsShapeWrong)

/-- 'laws.FnExactEqualShapes': WHATEVER THE INPUT: true; the input reads as it did. -/
def fnExactEqualShapesSpec : ChangeSpec := { name := "fnExactEqualShapes", fn := fun _ => fun
  | [d1, d2] => { results := [.lit (.bool true)], args := [d1, d2] }
  | _ => none }
def fnExactEqualShapesRow : OpenClaim := { program := "ytmojfiigjoamnaa", sum := "f5028cf50d6d4d6f771a4300560063b9208763d78b265cb84a78ecf5043b3be1", func := "loop.example/g03400/laws.FnExactEqualShapes", spec := "fnExactEqualShapes", plainKeys := false, apart := false }
def FnExactEqualShapesSaid : Prop := fnExactEqualShapesRow.holds Try.pinned (OpenSpec.ofChange fnExactEqualShapesSpec)

/-- ITS FALSE NEIGHBOUR: 'it returns false'. Refute it at one input. -/
def fnExactEqualShapesWrong : ChangeSpec := { name := "fnExactEqualShapes", fn := fun _ => fun
  | [d1, d2] => { results := [.lit (.bool false)], args := [d1, d2] }
  | _ => none }
def FnExactEqualShapesWrongFalsely : Prop := fnExactEqualShapesRow.holds Try.pinned (OpenSpec.ofChange fnExactEqualShapesWrong)

/-- 'laws.FnExactInverseMotion': WHATEVER THE INPUT: true; the input reads as it did. -/
def fnExactInverseMotionSpec : ChangeSpec := { name := "fnExactInverseMotion", fn := fun _ => fun
  | [d] => { results := [.lit (.bool true)], args := [d] }
  | _ => none }
def fnExactInverseMotionRow : OpenClaim := { program := "ytmojfiigjoamnaa", sum := "f5028cf50d6d4d6f771a4300560063b9208763d78b265cb84a78ecf5043b3be1", func := "loop.example/g03400/laws.FnExactInverseMotion", spec := "fnExactInverseMotion", plainKeys := false, apart := false }
def FnExactInverseMotionSaid : Prop := fnExactInverseMotionRow.holds Try.pinned (OpenSpec.ofChange fnExactInverseMotionSpec)

/-- ITS FALSE NEIGHBOUR: 'it returns false'. Refute it at one input. -/
def fnExactInverseMotionWrong : ChangeSpec := { name := "fnExactInverseMotion", fn := fun _ => fun
  | [d] => { results := [.lit (.bool false)], args := [d] }
  | _ => none }
def FnExactInverseMotionWrongFalsely : Prop := fnExactInverseMotionRow.holds Try.pinned (OpenSpec.ofChange fnExactInverseMotionWrong)

/-- 'laws.FnExactCompareShapes': WHATEVER THE INPUT: true; the input reads as it did. -/
def fnExactCompareShapesSpec : ChangeSpec := { name := "fnExactCompareShapes", fn := fun _ => fun
  | [d1, d2] => { results := [.lit (.bool true)], args := [d1, d2] }
  | _ => none }
def fnExactCompareShapesRow : OpenClaim := { program := "ytmojfiigjoamnaa", sum := "f5028cf50d6d4d6f771a4300560063b9208763d78b265cb84a78ecf5043b3be1", func := "loop.example/g03400/laws.FnExactCompareShapes", spec := "fnExactCompareShapes", plainKeys := false, apart := false }
def FnExactCompareShapesSaid : Prop := fnExactCompareShapesRow.holds Try.pinned (OpenSpec.ofChange fnExactCompareShapesSpec)

/-- ITS FALSE NEIGHBOUR: 'it returns false'. Refute it at one input. -/
def fnExactCompareShapesWrong : ChangeSpec := { name := "fnExactCompareShapes", fn := fun _ => fun
  | [d1, d2] => { results := [.lit (.bool false)], args := [d1, d2] }
  | _ => none }
def FnExactCompareShapesWrongFalsely : Prop := fnExactCompareShapesRow.holds Try.pinned (OpenSpec.ofChange fnExactCompareShapesWrong)

/-- 'laws.FnExactIsRowConvex': WHATEVER THE INPUT: true; the input reads as it did. -/
def fnExactIsRowConvexSpec : ChangeSpec := { name := "fnExactIsRowConvex", fn := fun _ => fun
  | [d] => { results := [.lit (.bool true)], args := [d] }
  | _ => none }
def fnExactIsRowConvexRow : OpenClaim := { program := "ytmojfiigjoamnaa", sum := "f5028cf50d6d4d6f771a4300560063b9208763d78b265cb84a78ecf5043b3be1", func := "loop.example/g03400/laws.FnExactIsRowConvex", spec := "fnExactIsRowConvex", plainKeys := false, apart := false }
def FnExactIsRowConvexSaid : Prop := fnExactIsRowConvexRow.holds Try.pinned (OpenSpec.ofChange fnExactIsRowConvexSpec)

/-- ITS FALSE NEIGHBOUR: 'it returns false'. Refute it at one input. -/
def fnExactIsRowConvexWrong : ChangeSpec := { name := "fnExactIsRowConvex", fn := fun _ => fun
  | [d] => { results := [.lit (.bool false)], args := [d] }
  | _ => none }
def FnExactIsRowConvexWrongFalsely : Prop := fnExactIsRowConvexRow.holds Try.pinned (OpenSpec.ofChange fnExactIsRowConvexWrong)

/-- 'laws.FnExactInnerSides': WHATEVER THE INPUT: true; the input reads as it did. -/
def fnExactInnerSidesSpec : ChangeSpec := { name := "fnExactInnerSides", fn := fun _ => fun
  | [d] => { results := [.lit (.bool true)], args := [d] }
  | _ => none }
def fnExactInnerSidesRow : OpenClaim := { program := "ytmojfiigjoamnaa", sum := "f5028cf50d6d4d6f771a4300560063b9208763d78b265cb84a78ecf5043b3be1", func := "loop.example/g03400/laws.FnExactInnerSides", spec := "fnExactInnerSides", plainKeys := false, apart := false }
def FnExactInnerSidesSaid : Prop := fnExactInnerSidesRow.holds Try.pinned (OpenSpec.ofChange fnExactInnerSidesSpec)

/-- ITS FALSE NEIGHBOUR: 'it returns false'. Refute it at one input. -/
def fnExactInnerSidesWrong : ChangeSpec := { name := "fnExactInnerSides", fn := fun _ => fun
  | [d] => { results := [.lit (.bool false)], args := [d] }
  | _ => none }
def FnExactInnerSidesWrongFalsely : Prop := fnExactInnerSidesRow.holds Try.pinned (OpenSpec.ofChange fnExactInnerSidesWrong)

/-- 'laws.FnExactSquaresIn': WHATEVER THE INPUT: true; the input reads as it did. -/
def fnExactSquaresInSpec : ChangeSpec := { name := "fnExactSquaresIn", fn := fun _ => fun
  | [d] => { results := [.lit (.bool true)], args := [d] }
  | _ => none }
def fnExactSquaresInRow : OpenClaim := { program := "ytmojfiigjoamnaa", sum := "f5028cf50d6d4d6f771a4300560063b9208763d78b265cb84a78ecf5043b3be1", func := "loop.example/g03400/laws.FnExactSquaresIn", spec := "fnExactSquaresIn", plainKeys := false, apart := false }
def FnExactSquaresInSaid : Prop := fnExactSquaresInRow.holds Try.pinned (OpenSpec.ofChange fnExactSquaresInSpec)

/-- ITS FALSE NEIGHBOUR: 'it returns false'. Refute it at one input. -/
def fnExactSquaresInWrong : ChangeSpec := { name := "fnExactSquaresIn", fn := fun _ => fun
  | [d] => { results := [.lit (.bool false)], args := [d] }
  | _ => none }
def FnExactSquaresInWrongFalsely : Prop := fnExactSquaresInRow.holds Try.pinned (OpenSpec.ofChange fnExactSquaresInWrong)

/-- 'laws.FnExactPerimeterOf': WHATEVER THE INPUT: true; the input reads as it did. -/
def fnExactPerimeterOfSpec : ChangeSpec := { name := "fnExactPerimeterOf", fn := fun _ => fun
  | [d] => { results := [.lit (.bool true)], args := [d] }
  | _ => none }
def fnExactPerimeterOfRow : OpenClaim := { program := "ytmojfiigjoamnaa", sum := "f5028cf50d6d4d6f771a4300560063b9208763d78b265cb84a78ecf5043b3be1", func := "loop.example/g03400/laws.FnExactPerimeterOf", spec := "fnExactPerimeterOf", plainKeys := false, apart := false }
def FnExactPerimeterOfSaid : Prop := fnExactPerimeterOfRow.holds Try.pinned (OpenSpec.ofChange fnExactPerimeterOfSpec)

/-- ITS FALSE NEIGHBOUR: 'it returns false'. Refute it at one input. -/
def fnExactPerimeterOfWrong : ChangeSpec := { name := "fnExactPerimeterOf", fn := fun _ => fun
  | [d] => { results := [.lit (.bool false)], args := [d] }
  | _ => none }
def FnExactPerimeterOfWrongFalsely : Prop := fnExactPerimeterOfRow.holds Try.pinned (OpenSpec.ofChange fnExactPerimeterOfWrong)

/-- 'laws.FnExactNeighbourCells': WHATEVER THE INPUT: true; the input reads as it did. -/
def fnExactNeighbourCellsSpec : ChangeSpec := { name := "fnExactNeighbourCells", fn := fun _ => fun
  | [d] => { results := [.lit (.bool true)], args := [d] }
  | _ => none }
def fnExactNeighbourCellsRow : OpenClaim := { program := "ytmojfiigjoamnaa", sum := "f5028cf50d6d4d6f771a4300560063b9208763d78b265cb84a78ecf5043b3be1", func := "loop.example/g03400/laws.FnExactNeighbourCells", spec := "fnExactNeighbourCells", plainKeys := false, apart := false }
def FnExactNeighbourCellsSaid : Prop := fnExactNeighbourCellsRow.holds Try.pinned (OpenSpec.ofChange fnExactNeighbourCellsSpec)

/-- ITS FALSE NEIGHBOUR: 'it returns false'. Refute it at one input. -/
def fnExactNeighbourCellsWrong : ChangeSpec := { name := "fnExactNeighbourCells", fn := fun _ => fun
  | [d] => { results := [.lit (.bool false)], args := [d] }
  | _ => none }
def FnExactNeighbourCellsWrongFalsely : Prop := fnExactNeighbourCellsRow.holds Try.pinned (OpenSpec.ofChange fnExactNeighbourCellsWrong)

/-- 'laws.FnExactMoveShape': WHATEVER THE INPUT: true; the input reads as it did. -/
def fnExactMoveShapeSpec : ChangeSpec := { name := "fnExactMoveShape", fn := fun _ => fun
  | [d1, d2, d3] => { results := [.lit (.bool true)], args := [d1, d2, d3] }
  | _ => none }
def fnExactMoveShapeRow : OpenClaim := { program := "ytmojfiigjoamnaa", sum := "f5028cf50d6d4d6f771a4300560063b9208763d78b265cb84a78ecf5043b3be1", func := "loop.example/g03400/laws.FnExactMoveShape", spec := "fnExactMoveShape", plainKeys := false, apart := false }
def FnExactMoveShapeSaid : Prop := fnExactMoveShapeRow.holds Try.pinned (OpenSpec.ofChange fnExactMoveShapeSpec)

/-- ITS FALSE NEIGHBOUR: 'it returns false'. Refute it at one input. -/
def fnExactMoveShapeWrong : ChangeSpec := { name := "fnExactMoveShape", fn := fun _ => fun
  | [d1, d2, d3] => { results := [.lit (.bool false)], args := [d1, d2, d3] }
  | _ => none }
def FnExactMoveShapeWrongFalsely : Prop := fnExactMoveShapeRow.holds Try.pinned (OpenSpec.ofChange fnExactMoveShapeWrong)

/-- 'laws.FnExactIsConnectedShape': WHATEVER THE INPUT: true; the input reads as it did. -/
def fnExactIsConnectedShapeSpec : ChangeSpec := { name := "fnExactIsConnectedShape", fn := fun _ => fun
  | [d] => { results := [.lit (.bool true)], args := [d] }
  | _ => none }
def fnExactIsConnectedShapeRow : OpenClaim := { program := "ytmojfiigjoamnaa", sum := "f5028cf50d6d4d6f771a4300560063b9208763d78b265cb84a78ecf5043b3be1", func := "loop.example/g03400/laws.FnExactIsConnectedShape", spec := "fnExactIsConnectedShape", plainKeys := false, apart := false }
def FnExactIsConnectedShapeSaid : Prop := fnExactIsConnectedShapeRow.holds Try.pinned (OpenSpec.ofChange fnExactIsConnectedShapeSpec)

/-- ITS FALSE NEIGHBOUR: 'it returns false'. Refute it at one input. -/
def fnExactIsConnectedShapeWrong : ChangeSpec := { name := "fnExactIsConnectedShape", fn := fun _ => fun
  | [d] => { results := [.lit (.bool false)], args := [d] }
  | _ => none }
def FnExactIsConnectedShapeWrongFalsely : Prop := fnExactIsConnectedShapeRow.holds Try.pinned (OpenSpec.ofChange fnExactIsConnectedShapeWrong)

/-- 'laws.FnExactIsTreeLike': WHATEVER THE INPUT: true; the input reads as it did. -/
def fnExactIsTreeLikeSpec : ChangeSpec := { name := "fnExactIsTreeLike", fn := fun _ => fun
  | [d] => { results := [.lit (.bool true)], args := [d] }
  | _ => none }
def fnExactIsTreeLikeRow : OpenClaim := { program := "ytmojfiigjoamnaa", sum := "f5028cf50d6d4d6f771a4300560063b9208763d78b265cb84a78ecf5043b3be1", func := "loop.example/g03400/laws.FnExactIsTreeLike", spec := "fnExactIsTreeLike", plainKeys := false, apart := false }
def FnExactIsTreeLikeSaid : Prop := fnExactIsTreeLikeRow.holds Try.pinned (OpenSpec.ofChange fnExactIsTreeLikeSpec)

/-- ITS FALSE NEIGHBOUR: 'it returns false'. Refute it at one input. -/
def fnExactIsTreeLikeWrong : ChangeSpec := { name := "fnExactIsTreeLike", fn := fun _ => fun
  | [d] => { results := [.lit (.bool false)], args := [d] }
  | _ => none }
def FnExactIsTreeLikeWrongFalsely : Prop := fnExactIsTreeLikeRow.holds Try.pinned (OpenSpec.ofChange fnExactIsTreeLikeWrong)

/-- 'laws.FnExactHolesOf': WHATEVER THE INPUT: true; the input reads as it did. -/
def fnExactHolesOfSpec : ChangeSpec := { name := "fnExactHolesOf", fn := fun _ => fun
  | [d] => { results := [.lit (.bool true)], args := [d] }
  | _ => none }
def fnExactHolesOfRow : OpenClaim := { program := "ytmojfiigjoamnaa", sum := "f5028cf50d6d4d6f771a4300560063b9208763d78b265cb84a78ecf5043b3be1", func := "loop.example/g03400/laws.FnExactHolesOf", spec := "fnExactHolesOf", plainKeys := false, apart := false }
def FnExactHolesOfSaid : Prop := fnExactHolesOfRow.holds Try.pinned (OpenSpec.ofChange fnExactHolesOfSpec)

/-- ITS FALSE NEIGHBOUR: 'it returns false'. Refute it at one input. -/
def fnExactHolesOfWrong : ChangeSpec := { name := "fnExactHolesOf", fn := fun _ => fun
  | [d] => { results := [.lit (.bool false)], args := [d] }
  | _ => none }
def FnExactHolesOfWrongFalsely : Prop := fnExactHolesOfRow.holds Try.pinned (OpenSpec.ofChange fnExactHolesOfWrong)

/- THE SECOND FORM. 'bulk': how many values and letters a reading holds, each counted each time it is reached (what is shared counts as often as it is met; a slice's spare places count too). A statement '..UptoSaid' is the law's where the arguments, and the package variables that the reading takes, are together of bulk at most 1048576: NARROWER than '..Said'. Prove '..Said' where nothing that the law and all that it calls make is longer than what came in: it says more and counts as full. Else prove '..UptoSaid'. A law counts once. -/
mutual
def uptoBulk {H : Type} : DataW H → Nat
  | .lit (.string bytes) => bytes.length + 1
  | .lit _ => 1
  | .nil => 1
  | .ptr d => uptoBulk d + 1
  | .slice elems spare => uptoBulkAll elems + uptoBulkAll spare + 1
  | .agg parts => uptoBulkAll parts + 1
  | .iface _ d => uptoBulk d + 1
  | .map entries => uptoBulkEntries entries + 1
  | .held _ => 1
def uptoBulkAll {H : Type} : List (DataW H) → Nat
  | [] => 0
  | d :: r => uptoBulk d + uptoBulkAll r
def uptoBulkEntries {H : Type} : List (Lit × DataW H) → Nat
  | [] => 0
  | x :: r => uptoBulkEntry x + uptoBulkEntries r
def uptoBulkEntry {H : Type} : Lit × DataW H → Nat
  | (.string bytes, d) => bytes.length + uptoBulk d + 1
  | (_, d) => uptoBulk d + 1
 end
def uptoSmall : (H : Type) → List (DataW H) → Bool := fun _ ds => decide (uptoBulkAll ds ≤ 1048576)
def OpenSpec.upto (s : _root_.Go.ChangeSpec) : _root_.Go.OpenSpec := { _root_.Go.OpenSpec.ofChange s with cond := some uptoSmall }

/-- 'laws.FnExactComposeMotions', WHERE WHAT IT READS IS OF BULK AT MOST 1048576: true; the input reads as it did. -/
def fnExactComposeMotionsUptoRow : OpenClaim := { program := "ytmojfiigjoamnaa", sum := "f5028cf50d6d4d6f771a4300560063b9208763d78b265cb84a78ecf5043b3be1", func := "loop.example/g03400/laws.FnExactComposeMotions", spec := "fnExactComposeMotions", plainKeys := false, apart := false, narrowed := true }
def FnExactComposeMotionsUptoSaid : Prop := fnExactComposeMotionsUptoRow.holds Try.pinned (OpenSpec.upto fnExactComposeMotionsSpec)

/-- 'laws.FnExactHasCell', WHERE WHAT IT READS IS OF BULK AT MOST 1048576: true; the input reads as it did. -/
def fnExactHasCellUptoRow : OpenClaim := { program := "ytmojfiigjoamnaa", sum := "f5028cf50d6d4d6f771a4300560063b9208763d78b265cb84a78ecf5043b3be1", func := "loop.example/g03400/laws.FnExactHasCell", spec := "fnExactHasCell", plainKeys := false, apart := false, narrowed := true }
def FnExactHasCellUptoSaid : Prop := fnExactHasCellUptoRow.holds Try.pinned (OpenSpec.upto fnExactHasCellSpec)

/-- 'laws.FnExactIsShape', WHERE WHAT IT READS IS OF BULK AT MOST 1048576: true; the input reads as it did. -/
def fnExactIsShapeUptoRow : OpenClaim := { program := "ytmojfiigjoamnaa", sum := "f5028cf50d6d4d6f771a4300560063b9208763d78b265cb84a78ecf5043b3be1", func := "loop.example/g03400/laws.FnExactIsShape", spec := "fnExactIsShape", plainKeys := false, apart := false, narrowed := true }
def FnExactIsShapeUptoSaid : Prop := fnExactIsShapeUptoRow.holds Try.pinned (OpenSpec.upto fnExactIsShapeSpec)

/-- 'laws.FnExactEqualShapes', WHERE WHAT IT READS IS OF BULK AT MOST 1048576: true; the input reads as it did. -/
def fnExactEqualShapesUptoRow : OpenClaim := { program := "ytmojfiigjoamnaa", sum := "f5028cf50d6d4d6f771a4300560063b9208763d78b265cb84a78ecf5043b3be1", func := "loop.example/g03400/laws.FnExactEqualShapes", spec := "fnExactEqualShapes", plainKeys := false, apart := false, narrowed := true }
def FnExactEqualShapesUptoSaid : Prop := fnExactEqualShapesUptoRow.holds Try.pinned (OpenSpec.upto fnExactEqualShapesSpec)

/-- 'laws.FnExactInverseMotion', WHERE WHAT IT READS IS OF BULK AT MOST 1048576: true; the input reads as it did. -/
def fnExactInverseMotionUptoRow : OpenClaim := { program := "ytmojfiigjoamnaa", sum := "f5028cf50d6d4d6f771a4300560063b9208763d78b265cb84a78ecf5043b3be1", func := "loop.example/g03400/laws.FnExactInverseMotion", spec := "fnExactInverseMotion", plainKeys := false, apart := false, narrowed := true }
def FnExactInverseMotionUptoSaid : Prop := fnExactInverseMotionUptoRow.holds Try.pinned (OpenSpec.upto fnExactInverseMotionSpec)

/-- 'laws.FnExactCompareShapes', WHERE WHAT IT READS IS OF BULK AT MOST 1048576: true; the input reads as it did. -/
def fnExactCompareShapesUptoRow : OpenClaim := { program := "ytmojfiigjoamnaa", sum := "f5028cf50d6d4d6f771a4300560063b9208763d78b265cb84a78ecf5043b3be1", func := "loop.example/g03400/laws.FnExactCompareShapes", spec := "fnExactCompareShapes", plainKeys := false, apart := false, narrowed := true }
def FnExactCompareShapesUptoSaid : Prop := fnExactCompareShapesUptoRow.holds Try.pinned (OpenSpec.upto fnExactCompareShapesSpec)

/-- 'laws.FnExactIsRowConvex', WHERE WHAT IT READS IS OF BULK AT MOST 1048576: true; the input reads as it did. -/
def fnExactIsRowConvexUptoRow : OpenClaim := { program := "ytmojfiigjoamnaa", sum := "f5028cf50d6d4d6f771a4300560063b9208763d78b265cb84a78ecf5043b3be1", func := "loop.example/g03400/laws.FnExactIsRowConvex", spec := "fnExactIsRowConvex", plainKeys := false, apart := false, narrowed := true }
def FnExactIsRowConvexUptoSaid : Prop := fnExactIsRowConvexUptoRow.holds Try.pinned (OpenSpec.upto fnExactIsRowConvexSpec)

/-- 'laws.FnExactInnerSides', WHERE WHAT IT READS IS OF BULK AT MOST 1048576: true; the input reads as it did. -/
def fnExactInnerSidesUptoRow : OpenClaim := { program := "ytmojfiigjoamnaa", sum := "f5028cf50d6d4d6f771a4300560063b9208763d78b265cb84a78ecf5043b3be1", func := "loop.example/g03400/laws.FnExactInnerSides", spec := "fnExactInnerSides", plainKeys := false, apart := false, narrowed := true }
def FnExactInnerSidesUptoSaid : Prop := fnExactInnerSidesUptoRow.holds Try.pinned (OpenSpec.upto fnExactInnerSidesSpec)

/-- 'laws.FnExactSquaresIn', WHERE WHAT IT READS IS OF BULK AT MOST 1048576: true; the input reads as it did. -/
def fnExactSquaresInUptoRow : OpenClaim := { program := "ytmojfiigjoamnaa", sum := "f5028cf50d6d4d6f771a4300560063b9208763d78b265cb84a78ecf5043b3be1", func := "loop.example/g03400/laws.FnExactSquaresIn", spec := "fnExactSquaresIn", plainKeys := false, apart := false, narrowed := true }
def FnExactSquaresInUptoSaid : Prop := fnExactSquaresInUptoRow.holds Try.pinned (OpenSpec.upto fnExactSquaresInSpec)

/-- 'laws.FnExactPerimeterOf', WHERE WHAT IT READS IS OF BULK AT MOST 1048576: true; the input reads as it did. -/
def fnExactPerimeterOfUptoRow : OpenClaim := { program := "ytmojfiigjoamnaa", sum := "f5028cf50d6d4d6f771a4300560063b9208763d78b265cb84a78ecf5043b3be1", func := "loop.example/g03400/laws.FnExactPerimeterOf", spec := "fnExactPerimeterOf", plainKeys := false, apart := false, narrowed := true }
def FnExactPerimeterOfUptoSaid : Prop := fnExactPerimeterOfUptoRow.holds Try.pinned (OpenSpec.upto fnExactPerimeterOfSpec)

/-- 'laws.FnExactNeighbourCells', WHERE WHAT IT READS IS OF BULK AT MOST 1048576: true; the input reads as it did. -/
def fnExactNeighbourCellsUptoRow : OpenClaim := { program := "ytmojfiigjoamnaa", sum := "f5028cf50d6d4d6f771a4300560063b9208763d78b265cb84a78ecf5043b3be1", func := "loop.example/g03400/laws.FnExactNeighbourCells", spec := "fnExactNeighbourCells", plainKeys := false, apart := false, narrowed := true }
def FnExactNeighbourCellsUptoSaid : Prop := fnExactNeighbourCellsUptoRow.holds Try.pinned (OpenSpec.upto fnExactNeighbourCellsSpec)

/-- 'laws.FnExactMoveShape', WHERE WHAT IT READS IS OF BULK AT MOST 1048576: true; the input reads as it did. -/
def fnExactMoveShapeUptoRow : OpenClaim := { program := "ytmojfiigjoamnaa", sum := "f5028cf50d6d4d6f771a4300560063b9208763d78b265cb84a78ecf5043b3be1", func := "loop.example/g03400/laws.FnExactMoveShape", spec := "fnExactMoveShape", plainKeys := false, apart := false, narrowed := true }
def FnExactMoveShapeUptoSaid : Prop := fnExactMoveShapeUptoRow.holds Try.pinned (OpenSpec.upto fnExactMoveShapeSpec)

/-- 'laws.FnExactIsConnectedShape', WHERE WHAT IT READS IS OF BULK AT MOST 1048576: true; the input reads as it did. -/
def fnExactIsConnectedShapeUptoRow : OpenClaim := { program := "ytmojfiigjoamnaa", sum := "f5028cf50d6d4d6f771a4300560063b9208763d78b265cb84a78ecf5043b3be1", func := "loop.example/g03400/laws.FnExactIsConnectedShape", spec := "fnExactIsConnectedShape", plainKeys := false, apart := false, narrowed := true }
def FnExactIsConnectedShapeUptoSaid : Prop := fnExactIsConnectedShapeUptoRow.holds Try.pinned (OpenSpec.upto fnExactIsConnectedShapeSpec)

/-- 'laws.FnExactIsTreeLike', WHERE WHAT IT READS IS OF BULK AT MOST 1048576: true; the input reads as it did. -/
def fnExactIsTreeLikeUptoRow : OpenClaim := { program := "ytmojfiigjoamnaa", sum := "f5028cf50d6d4d6f771a4300560063b9208763d78b265cb84a78ecf5043b3be1", func := "loop.example/g03400/laws.FnExactIsTreeLike", spec := "fnExactIsTreeLike", plainKeys := false, apart := false, narrowed := true }
def FnExactIsTreeLikeUptoSaid : Prop := fnExactIsTreeLikeUptoRow.holds Try.pinned (OpenSpec.upto fnExactIsTreeLikeSpec)

/-- 'laws.FnExactHolesOf', WHERE WHAT IT READS IS OF BULK AT MOST 1048576: true; the input reads as it did. -/
def fnExactHolesOfUptoRow : OpenClaim := { program := "ytmojfiigjoamnaa", sum := "f5028cf50d6d4d6f771a4300560063b9208763d78b265cb84a78ecf5043b3be1", func := "loop.example/g03400/laws.FnExactHolesOf", spec := "fnExactHolesOf", plainKeys := false, apart := false, narrowed := true }
def FnExactHolesOfUptoSaid : Prop := fnExactHolesOfUptoRow.holds Try.pinned (OpenSpec.upto fnExactHolesOfSpec)

end Rows
end Go.Proofs.Ytmojfiigjoamnaa
