/-
  No cell of these rows narrows 'for every input' (looked for: loops, veiled, ifaces, maps, wideKeys, modest, calm, conditions, laid).
  DERIVED. THE GIVEN ROWS OF THIS SEAT. 12 by the template 'for every input the law returns true; each argument reads behind the call as it read before'; 0 by the template 'total and deterministic' (their statements: YthhaojbnnacdbaaTotals.lean).
  GIVEN WITH THE SEED: the statements are not yours to turn. If you find one false, say at which input.
  Laid BY PROGRAM, IN A SANDBOX (cutbox-rows.mjs): the forced cells as the released guide's own fill.sh prints them over the translation a1fd2f06ab58e3b0… (all of the seat's roots in one cut). By AI agents, Wed Nov 11 2026. No macro, syntax, notation, axiom, sorry.
-/
import Derived.Test.YthhaojbnnacdbaaChecked
import GoSem.Claim
import GoSem.ClaimJoined
import GoSem.ClaimMapViews
import Derived.JoinedTies
import Derived.KernelRfl
namespace Go.Proofs.Ythhaojbnnacdbaa
/- THE CELL 'sum', in the pinned program and in every row, IS THE sha256 OF THE DUMP (.gsa) THAT YthhaojbnnacdbaaProg.lean LOADS. Nothing in Lean hashes anything: it is a label: what it is worth is what the hold of that sum in a sandbox is worth. -/
noncomputable def Try.pinned : Pinned := { name := "ythhaojbnnacdbaa", sum := "a1fd2f06ab58e3b04e92e01eef4748debb83b420ee8473c4d5f0c2b8c22894a8", checked := Try.checked }
namespace Rows
def none {H : Type} : Left H := { results := [], args := [] }

/-- 'laws.FnExactHolesOf': WHATEVER THE INPUT: true; the input reads as it did. -/
def fnExactHolesOfSpec : ChangeSpec := { name := "fnExactHolesOf", fn := fun _ => fun
  | [d] => { results := [.lit (.bool true)], args := [d] }
  | _ => none }
def fnExactHolesOfRow : OpenClaim := { program := "ythhaojbnnacdbaa", sum := "a1fd2f06ab58e3b04e92e01eef4748debb83b420ee8473c4d5f0c2b8c22894a8", func := "loop.example/g03400/laws.FnExactHolesOf", spec := "fnExactHolesOf", apart := false }
def FnExactHolesOfSaid : Prop := fnExactHolesOfRow.holds Try.pinned (OpenSpec.ofChange fnExactHolesOfSpec)

/-- ITS FALSE NEIGHBOUR: 'it returns false'. Refute it at one input. -/
def fnExactHolesOfWrong : ChangeSpec := { name := "fnExactHolesOf", fn := fun _ => fun
  | [d] => { results := [.lit (.bool false)], args := [d] }
  | _ => none }
def FnExactHolesOfWrongFalsely : Prop := fnExactHolesOfRow.holds Try.pinned (OpenSpec.ofChange fnExactHolesOfWrong)

/-- 'laws.FnExactSortCells': WHATEVER THE INPUT: true; the input reads as it did. -/
def fnExactSortCellsSpec : ChangeSpec := { name := "fnExactSortCells", fn := fun _ => fun
  | [d] => { results := [.lit (.bool true)], args := [d] }
  | _ => none }
def fnExactSortCellsRow : OpenClaim := { program := "ythhaojbnnacdbaa", sum := "a1fd2f06ab58e3b04e92e01eef4748debb83b420ee8473c4d5f0c2b8c22894a8", func := "loop.example/g03400/laws.FnExactSortCells", spec := "fnExactSortCells", inPlace := ["internal/reflectlite.ValueOf", "internal/reflectlite.Swapper", "(internal/reflectlite.Value).Len"], unfollowed := true, recurses := true, apart := false }
def FnExactSortCellsSaid : Prop := fnExactSortCellsRow.holds Try.pinned (OpenSpec.ofChange fnExactSortCellsSpec)

/-- ITS FALSE NEIGHBOUR: 'it returns false'. Refute it at one input. -/
def fnExactSortCellsWrong : ChangeSpec := { name := "fnExactSortCells", fn := fun _ => fun
  | [d] => { results := [.lit (.bool false)], args := [d] }
  | _ => none }
def FnExactSortCellsWrongFalsely : Prop := fnExactSortCellsRow.holds Try.pinned (OpenSpec.ofChange fnExactSortCellsWrong)

/-- 'laws.FnExactIsCongruent': WHATEVER THE INPUT: true; the input reads as it did. -/
def fnExactIsCongruentSpec : ChangeSpec := { name := "fnExactIsCongruent", fn := fun _ => fun
  | [d1, d2] => { results := [.lit (.bool true)], args := [d1, d2] }
  | _ => none }
def fnExactIsCongruentRow : OpenClaim := { program := "ythhaojbnnacdbaa", sum := "a1fd2f06ab58e3b04e92e01eef4748debb83b420ee8473c4d5f0c2b8c22894a8", func := "loop.example/g03400/laws.FnExactIsCongruent", spec := "fnExactIsCongruent", inPlace := ["internal/reflectlite.ValueOf", "internal/reflectlite.Swapper", "(internal/reflectlite.Value).Len"], unfollowed := true, recurses := true, apart := false }
def FnExactIsCongruentSaid : Prop := fnExactIsCongruentRow.holds Try.pinned (OpenSpec.ofChange fnExactIsCongruentSpec)

/-- ITS FALSE NEIGHBOUR: 'it returns false'. Refute it at one input. -/
def fnExactIsCongruentWrong : ChangeSpec := { name := "fnExactIsCongruent", fn := fun _ => fun
  | [d1, d2] => { results := [.lit (.bool false)], args := [d1, d2] }
  | _ => none }
def FnExactIsCongruentWrongFalsely : Prop := fnExactIsCongruentRow.holds Try.pinned (OpenSpec.ofChange fnExactIsCongruentWrong)

/-- 'laws.FnExactCanonicalShape': WHATEVER THE INPUT: true; the input reads as it did. -/
def fnExactCanonicalShapeSpec : ChangeSpec := { name := "fnExactCanonicalShape", fn := fun _ => fun
  | [d] => { results := [.lit (.bool true)], args := [d] }
  | _ => none }
def fnExactCanonicalShapeRow : OpenClaim := { program := "ythhaojbnnacdbaa", sum := "a1fd2f06ab58e3b04e92e01eef4748debb83b420ee8473c4d5f0c2b8c22894a8", func := "loop.example/g03400/laws.FnExactCanonicalShape", spec := "fnExactCanonicalShape", inPlace := ["internal/reflectlite.ValueOf", "internal/reflectlite.Swapper", "(internal/reflectlite.Value).Len"], unfollowed := true, recurses := true, apart := false }
def FnExactCanonicalShapeSaid : Prop := fnExactCanonicalShapeRow.holds Try.pinned (OpenSpec.ofChange fnExactCanonicalShapeSpec)

/-- ITS FALSE NEIGHBOUR: 'it returns false'. Refute it at one input. -/
def fnExactCanonicalShapeWrong : ChangeSpec := { name := "fnExactCanonicalShape", fn := fun _ => fun
  | [d] => { results := [.lit (.bool false)], args := [d] }
  | _ => none }
def FnExactCanonicalShapeWrongFalsely : Prop := fnExactCanonicalShapeRow.holds Try.pinned (OpenSpec.ofChange fnExactCanonicalShapeWrong)

/-- 'laws.FnExactOrientationsOf': WHATEVER THE INPUT: true; the input reads as it did. -/
def fnExactOrientationsOfSpec : ChangeSpec := { name := "fnExactOrientationsOf", fn := fun _ => fun
  | [d] => { results := [.lit (.bool true)], args := [d] }
  | _ => none }
def fnExactOrientationsOfRow : OpenClaim := { program := "ythhaojbnnacdbaa", sum := "a1fd2f06ab58e3b04e92e01eef4748debb83b420ee8473c4d5f0c2b8c22894a8", func := "loop.example/g03400/laws.FnExactOrientationsOf", spec := "fnExactOrientationsOf", inPlace := ["internal/reflectlite.ValueOf", "internal/reflectlite.Swapper", "(internal/reflectlite.Value).Len"], unfollowed := true, recurses := true, apart := false }
def FnExactOrientationsOfSaid : Prop := fnExactOrientationsOfRow.holds Try.pinned (OpenSpec.ofChange fnExactOrientationsOfSpec)

/-- ITS FALSE NEIGHBOUR: 'it returns false'. Refute it at one input. -/
def fnExactOrientationsOfWrong : ChangeSpec := { name := "fnExactOrientationsOf", fn := fun _ => fun
  | [d] => { results := [.lit (.bool false)], args := [d] }
  | _ => none }
def FnExactOrientationsOfWrongFalsely : Prop := fnExactOrientationsOfRow.holds Try.pinned (OpenSpec.ofChange fnExactOrientationsOfWrong)

/-- 'laws.FnExactExtensionsOf': WHATEVER THE INPUT: true; the input reads as it did. -/
def fnExactExtensionsOfSpec : ChangeSpec := { name := "fnExactExtensionsOf", fn := fun _ => fun
  | [d] => { results := [.lit (.bool true)], args := [d] }
  | _ => none }
def fnExactExtensionsOfRow : OpenClaim := { program := "ythhaojbnnacdbaa", sum := "a1fd2f06ab58e3b04e92e01eef4748debb83b420ee8473c4d5f0c2b8c22894a8", func := "loop.example/g03400/laws.FnExactExtensionsOf", spec := "fnExactExtensionsOf", inPlace := ["internal/reflectlite.ValueOf", "internal/reflectlite.Swapper", "(internal/reflectlite.Value).Len"], unfollowed := true, recurses := true, apart := false }
def FnExactExtensionsOfSaid : Prop := fnExactExtensionsOfRow.holds Try.pinned (OpenSpec.ofChange fnExactExtensionsOfSpec)

/-- ITS FALSE NEIGHBOUR: 'it returns false'. Refute it at one input. -/
def fnExactExtensionsOfWrong : ChangeSpec := { name := "fnExactExtensionsOf", fn := fun _ => fun
  | [d] => { results := [.lit (.bool false)], args := [d] }
  | _ => none }
def FnExactExtensionsOfWrongFalsely : Prop := fnExactExtensionsOfRow.holds Try.pinned (OpenSpec.ofChange fnExactExtensionsOfWrong)

/-- 'laws.FnExactParentsOf': WHATEVER THE INPUT: true; the input reads as it did. -/
def fnExactParentsOfSpec : ChangeSpec := { name := "fnExactParentsOf", fn := fun _ => fun
  | [d] => { results := [.lit (.bool true)], args := [d] }
  | _ => none }
def fnExactParentsOfRow : OpenClaim := { program := "ythhaojbnnacdbaa", sum := "a1fd2f06ab58e3b04e92e01eef4748debb83b420ee8473c4d5f0c2b8c22894a8", func := "loop.example/g03400/laws.FnExactParentsOf", spec := "fnExactParentsOf", inPlace := ["internal/reflectlite.ValueOf", "internal/reflectlite.Swapper", "(internal/reflectlite.Value).Len"], unfollowed := true, recurses := true, apart := false }
def FnExactParentsOfSaid : Prop := fnExactParentsOfRow.holds Try.pinned (OpenSpec.ofChange fnExactParentsOfSpec)

/-- ITS FALSE NEIGHBOUR: 'it returns false'. Refute it at one input. -/
def fnExactParentsOfWrong : ChangeSpec := { name := "fnExactParentsOf", fn := fun _ => fun
  | [d] => { results := [.lit (.bool false)], args := [d] }
  | _ => none }
def FnExactParentsOfWrongFalsely : Prop := fnExactParentsOfRow.holds Try.pinned (OpenSpec.ofChange fnExactParentsOfWrong)

/-- 'laws.FnExactFixedShapes': WHATEVER THE INPUT: true; the input reads as it did. -/
def fnExactFixedShapesSpec : ChangeSpec := { name := "fnExactFixedShapes", fn := fun _ => fun
  | [d] => { results := [.lit (.bool true)], args := [d] }
  | _ => none }
def fnExactFixedShapesRow : OpenClaim := { program := "ythhaojbnnacdbaa", sum := "a1fd2f06ab58e3b04e92e01eef4748debb83b420ee8473c4d5f0c2b8c22894a8", func := "loop.example/g03400/laws.FnExactFixedShapes", spec := "fnExactFixedShapes", inPlace := ["internal/reflectlite.ValueOf", "internal/reflectlite.Swapper", "(internal/reflectlite.Value).Len"], unfollowed := true, recurses := true, apart := false }
def FnExactFixedShapesSaid : Prop := fnExactFixedShapesRow.holds Try.pinned (OpenSpec.ofChange fnExactFixedShapesSpec)

/-- ITS FALSE NEIGHBOUR: 'it returns false'. Refute it at one input. -/
def fnExactFixedShapesWrong : ChangeSpec := { name := "fnExactFixedShapes", fn := fun _ => fun
  | [d] => { results := [.lit (.bool false)], args := [d] }
  | _ => none }
def FnExactFixedShapesWrongFalsely : Prop := fnExactFixedShapesRow.holds Try.pinned (OpenSpec.ofChange fnExactFixedShapesWrong)

/-- 'laws.FnExactCountFree': WHATEVER THE INPUT: true; the input reads as it did. -/
def fnExactCountFreeSpec : ChangeSpec := { name := "fnExactCountFree", fn := fun _ => fun
  | [d] => { results := [.lit (.bool true)], args := [d] }
  | _ => none }
def fnExactCountFreeRow : OpenClaim := { program := "ythhaojbnnacdbaa", sum := "a1fd2f06ab58e3b04e92e01eef4748debb83b420ee8473c4d5f0c2b8c22894a8", func := "loop.example/g03400/laws.FnExactCountFree", spec := "fnExactCountFree", inPlace := ["internal/reflectlite.ValueOf", "internal/reflectlite.Swapper", "(internal/reflectlite.Value).Len"], unfollowed := true, recurses := true, apart := false }
def FnExactCountFreeSaid : Prop := fnExactCountFreeRow.holds Try.pinned (OpenSpec.ofChange fnExactCountFreeSpec)

/-- ITS FALSE NEIGHBOUR: 'it returns false'. Refute it at one input. -/
def fnExactCountFreeWrong : ChangeSpec := { name := "fnExactCountFree", fn := fun _ => fun
  | [d] => { results := [.lit (.bool false)], args := [d] }
  | _ => none }
def FnExactCountFreeWrongFalsely : Prop := fnExactCountFreeRow.holds Try.pinned (OpenSpec.ofChange fnExactCountFreeWrong)

/-- 'laws.FnExactFreeShapes': WHATEVER THE INPUT: true; the input reads as it did. -/
def fnExactFreeShapesSpec : ChangeSpec := { name := "fnExactFreeShapes", fn := fun _ => fun
  | [d] => { results := [.lit (.bool true)], args := [d] }
  | _ => none }
def fnExactFreeShapesRow : OpenClaim := { program := "ythhaojbnnacdbaa", sum := "a1fd2f06ab58e3b04e92e01eef4748debb83b420ee8473c4d5f0c2b8c22894a8", func := "loop.example/g03400/laws.FnExactFreeShapes", spec := "fnExactFreeShapes", inPlace := ["internal/reflectlite.ValueOf", "internal/reflectlite.Swapper", "(internal/reflectlite.Value).Len"], unfollowed := true, recurses := true, apart := false }
def FnExactFreeShapesSaid : Prop := fnExactFreeShapesRow.holds Try.pinned (OpenSpec.ofChange fnExactFreeShapesSpec)

/-- ITS FALSE NEIGHBOUR: 'it returns false'. Refute it at one input. -/
def fnExactFreeShapesWrong : ChangeSpec := { name := "fnExactFreeShapes", fn := fun _ => fun
  | [d] => { results := [.lit (.bool false)], args := [d] }
  | _ => none }
def FnExactFreeShapesWrongFalsely : Prop := fnExactFreeShapesRow.holds Try.pinned (OpenSpec.ofChange fnExactFreeShapesWrong)

/-- 'laws.FnExactOneSidedShapes': WHATEVER THE INPUT: true; the input reads as it did. -/
def fnExactOneSidedShapesSpec : ChangeSpec := { name := "fnExactOneSidedShapes", fn := fun _ => fun
  | [d] => { results := [.lit (.bool true)], args := [d] }
  | _ => none }
def fnExactOneSidedShapesRow : OpenClaim := { program := "ythhaojbnnacdbaa", sum := "a1fd2f06ab58e3b04e92e01eef4748debb83b420ee8473c4d5f0c2b8c22894a8", func := "loop.example/g03400/laws.FnExactOneSidedShapes", spec := "fnExactOneSidedShapes", inPlace := ["internal/reflectlite.ValueOf", "internal/reflectlite.Swapper", "(internal/reflectlite.Value).Len"], unfollowed := true, recurses := true, apart := false }
def FnExactOneSidedShapesSaid : Prop := fnExactOneSidedShapesRow.holds Try.pinned (OpenSpec.ofChange fnExactOneSidedShapesSpec)

/-- ITS FALSE NEIGHBOUR: 'it returns false'. Refute it at one input. -/
def fnExactOneSidedShapesWrong : ChangeSpec := { name := "fnExactOneSidedShapes", fn := fun _ => fun
  | [d] => { results := [.lit (.bool false)], args := [d] }
  | _ => none }
def FnExactOneSidedShapesWrongFalsely : Prop := fnExactOneSidedShapesRow.holds Try.pinned (OpenSpec.ofChange fnExactOneSidedShapesWrong)

/-- 'laws.FnMotions': WHATEVER THE INPUT: true; the input reads as it did. -/
def fnMotionsSpec : ChangeSpec := { name := "fnMotions", fn := fun _ => fun
  | [d] => { results := [.lit (.bool true)], args := [d] }
  | _ => none }
def fnMotionsRow : OpenClaim := { program := "ythhaojbnnacdbaa", sum := "a1fd2f06ab58e3b04e92e01eef4748debb83b420ee8473c4d5f0c2b8c22894a8", func := "loop.example/g03400/laws.FnMotions", spec := "fnMotions", inPlace := ["internal/reflectlite.ValueOf", "internal/reflectlite.Swapper", "(internal/reflectlite.Value).Len"], unfollowed := true, recurses := true, apart := false }
def FnMotionsSaid : Prop := fnMotionsRow.holds Try.pinned (OpenSpec.ofChange fnMotionsSpec)

/-- ITS FALSE NEIGHBOUR: 'it returns false'. Refute it at one input. -/
def fnMotionsWrong : ChangeSpec := { name := "fnMotions", fn := fun _ => fun
  | [d] => { results := [.lit (.bool false)], args := [d] }
  | _ => none }
def FnMotionsWrongFalsely : Prop := fnMotionsRow.holds Try.pinned (OpenSpec.ofChange fnMotionsWrong)

/- THE SECOND FORM. 'bulk': how many values and letters a reading holds, each counted each time it is reached (what is shared counts as often as it is met; a slice's spare places count too). A statement '..UptoSaid' is the law's where the arguments, and the package variables that the reading takes, are together of bulk at most 1048576: NARROWER than '..Said'. Prove '..Said' where nothing that the law and all that it calls make is longer than what came in: it says more and counts as full. Else prove '..UptoSaid'. A law counts once. -/
mutual
def uptoBulk {H : Type} : DataW H → Nat
  | .lit (.string bytes) => bytes.length + 1
  | .lit _ => 1
  | .nil => 1
  | .ptr d => uptoBulk d + 1
  | .slice elems spare => uptoBulkAll elems + uptoBulkAll spare + 1
  | .agg parts => uptoBulkAll parts + 1
  | .iface _ d => uptoBulk d + 1
  | .map entries => uptoBulkEntries entries + 1
  | .held _ => 1
def uptoBulkAll {H : Type} : List (DataW H) → Nat
  | [] => 0
  | d :: r => uptoBulk d + uptoBulkAll r
def uptoBulkEntries {H : Type} : List (Lit × DataW H) → Nat
  | [] => 0
  | x :: r => uptoBulkEntry x + uptoBulkEntries r
def uptoBulkEntry {H : Type} : Lit × DataW H → Nat
  | (.string bytes, d) => bytes.length + uptoBulk d + 1
  | (_, d) => uptoBulk d + 1
 end
def uptoSmall : (H : Type) → List (DataW H) → Bool := fun _ ds => decide (uptoBulkAll ds ≤ 1048576)
def OpenSpec.upto (s : _root_.Go.ChangeSpec) : _root_.Go.OpenSpec := { _root_.Go.OpenSpec.ofChange s with cond := some uptoSmall }

/-- 'laws.FnExactHolesOf', WHERE WHAT IT READS IS OF BULK AT MOST 1048576: true; the input reads as it did. -/
def fnExactHolesOfUptoRow : OpenClaim := { program := "ythhaojbnnacdbaa", sum := "a1fd2f06ab58e3b04e92e01eef4748debb83b420ee8473c4d5f0c2b8c22894a8", func := "loop.example/g03400/laws.FnExactHolesOf", spec := "fnExactHolesOf", apart := false, narrowed := true }
def FnExactHolesOfUptoSaid : Prop := fnExactHolesOfUptoRow.holds Try.pinned (OpenSpec.upto fnExactHolesOfSpec)

/-- 'laws.FnExactSortCells', WHERE WHAT IT READS IS OF BULK AT MOST 1048576: true; the input reads as it did. -/
def fnExactSortCellsUptoRow : OpenClaim := { program := "ythhaojbnnacdbaa", sum := "a1fd2f06ab58e3b04e92e01eef4748debb83b420ee8473c4d5f0c2b8c22894a8", func := "loop.example/g03400/laws.FnExactSortCells", spec := "fnExactSortCells", inPlace := ["internal/reflectlite.ValueOf", "internal/reflectlite.Swapper", "(internal/reflectlite.Value).Len"], unfollowed := true, recurses := true, apart := false, narrowed := true }
def FnExactSortCellsUptoSaid : Prop := fnExactSortCellsUptoRow.holds Try.pinned (OpenSpec.upto fnExactSortCellsSpec)

/-- 'laws.FnExactIsCongruent', WHERE WHAT IT READS IS OF BULK AT MOST 1048576: true; the input reads as it did. -/
def fnExactIsCongruentUptoRow : OpenClaim := { program := "ythhaojbnnacdbaa", sum := "a1fd2f06ab58e3b04e92e01eef4748debb83b420ee8473c4d5f0c2b8c22894a8", func := "loop.example/g03400/laws.FnExactIsCongruent", spec := "fnExactIsCongruent", inPlace := ["internal/reflectlite.ValueOf", "internal/reflectlite.Swapper", "(internal/reflectlite.Value).Len"], unfollowed := true, recurses := true, apart := false, narrowed := true }
def FnExactIsCongruentUptoSaid : Prop := fnExactIsCongruentUptoRow.holds Try.pinned (OpenSpec.upto fnExactIsCongruentSpec)

/-- 'laws.FnExactCanonicalShape', WHERE WHAT IT READS IS OF BULK AT MOST 1048576: true; the input reads as it did. -/
def fnExactCanonicalShapeUptoRow : OpenClaim := { program := "ythhaojbnnacdbaa", sum := "a1fd2f06ab58e3b04e92e01eef4748debb83b420ee8473c4d5f0c2b8c22894a8", func := "loop.example/g03400/laws.FnExactCanonicalShape", spec := "fnExactCanonicalShape", inPlace := ["internal/reflectlite.ValueOf", "internal/reflectlite.Swapper", "(internal/reflectlite.Value).Len"], unfollowed := true, recurses := true, apart := false, narrowed := true }
def FnExactCanonicalShapeUptoSaid : Prop := fnExactCanonicalShapeUptoRow.holds Try.pinned (OpenSpec.upto fnExactCanonicalShapeSpec)

/-- 'laws.FnExactOrientationsOf', WHERE WHAT IT READS IS OF BULK AT MOST 1048576: true; the input reads as it did. -/
def fnExactOrientationsOfUptoRow : OpenClaim := { program := "ythhaojbnnacdbaa", sum := "a1fd2f06ab58e3b04e92e01eef4748debb83b420ee8473c4d5f0c2b8c22894a8", func := "loop.example/g03400/laws.FnExactOrientationsOf", spec := "fnExactOrientationsOf", inPlace := ["internal/reflectlite.ValueOf", "internal/reflectlite.Swapper", "(internal/reflectlite.Value).Len"], unfollowed := true, recurses := true, apart := false, narrowed := true }
def FnExactOrientationsOfUptoSaid : Prop := fnExactOrientationsOfUptoRow.holds Try.pinned (OpenSpec.upto fnExactOrientationsOfSpec)

/-- 'laws.FnExactExtensionsOf', WHERE WHAT IT READS IS OF BULK AT MOST 1048576: true; the input reads as it did. -/
def fnExactExtensionsOfUptoRow : OpenClaim := { program := "ythhaojbnnacdbaa", sum := "a1fd2f06ab58e3b04e92e01eef4748debb83b420ee8473c4d5f0c2b8c22894a8", func := "loop.example/g03400/laws.FnExactExtensionsOf", spec := "fnExactExtensionsOf", inPlace := ["internal/reflectlite.ValueOf", "internal/reflectlite.Swapper", "(internal/reflectlite.Value).Len"], unfollowed := true, recurses := true, apart := false, narrowed := true }
def FnExactExtensionsOfUptoSaid : Prop := fnExactExtensionsOfUptoRow.holds Try.pinned (OpenSpec.upto fnExactExtensionsOfSpec)

/-- 'laws.FnExactParentsOf', WHERE WHAT IT READS IS OF BULK AT MOST 1048576: true; the input reads as it did. -/
def fnExactParentsOfUptoRow : OpenClaim := { program := "ythhaojbnnacdbaa", sum := "a1fd2f06ab58e3b04e92e01eef4748debb83b420ee8473c4d5f0c2b8c22894a8", func := "loop.example/g03400/laws.FnExactParentsOf", spec := "fnExactParentsOf", inPlace := ["internal/reflectlite.ValueOf", "internal/reflectlite.Swapper", "(internal/reflectlite.Value).Len"], unfollowed := true, recurses := true, apart := false, narrowed := true }
def FnExactParentsOfUptoSaid : Prop := fnExactParentsOfUptoRow.holds Try.pinned (OpenSpec.upto fnExactParentsOfSpec)

/-- 'laws.FnExactFixedShapes', WHERE WHAT IT READS IS OF BULK AT MOST 1048576: true; the input reads as it did. -/
def fnExactFixedShapesUptoRow : OpenClaim := { program := "ythhaojbnnacdbaa", sum := "a1fd2f06ab58e3b04e92e01eef4748debb83b420ee8473c4d5f0c2b8c22894a8", func := "loop.example/g03400/laws.FnExactFixedShapes", spec := "fnExactFixedShapes", inPlace := ["internal/reflectlite.ValueOf", "internal/reflectlite.Swapper", "(internal/reflectlite.Value).Len"], unfollowed := true, recurses := true, apart := false, narrowed := true }
def FnExactFixedShapesUptoSaid : Prop := fnExactFixedShapesUptoRow.holds Try.pinned (OpenSpec.upto fnExactFixedShapesSpec)

/-- 'laws.FnExactCountFree', WHERE WHAT IT READS IS OF BULK AT MOST 1048576: true; the input reads as it did. -/
def fnExactCountFreeUptoRow : OpenClaim := { program := "ythhaojbnnacdbaa", sum := "a1fd2f06ab58e3b04e92e01eef4748debb83b420ee8473c4d5f0c2b8c22894a8", func := "loop.example/g03400/laws.FnExactCountFree", spec := "fnExactCountFree", inPlace := ["internal/reflectlite.ValueOf", "internal/reflectlite.Swapper", "(internal/reflectlite.Value).Len"], unfollowed := true, recurses := true, apart := false, narrowed := true }
def FnExactCountFreeUptoSaid : Prop := fnExactCountFreeUptoRow.holds Try.pinned (OpenSpec.upto fnExactCountFreeSpec)

/-- 'laws.FnExactFreeShapes', WHERE WHAT IT READS IS OF BULK AT MOST 1048576: true; the input reads as it did. -/
def fnExactFreeShapesUptoRow : OpenClaim := { program := "ythhaojbnnacdbaa", sum := "a1fd2f06ab58e3b04e92e01eef4748debb83b420ee8473c4d5f0c2b8c22894a8", func := "loop.example/g03400/laws.FnExactFreeShapes", spec := "fnExactFreeShapes", inPlace := ["internal/reflectlite.ValueOf", "internal/reflectlite.Swapper", "(internal/reflectlite.Value).Len"], unfollowed := true, recurses := true, apart := false, narrowed := true }
def FnExactFreeShapesUptoSaid : Prop := fnExactFreeShapesUptoRow.holds Try.pinned (OpenSpec.upto fnExactFreeShapesSpec)

/-- 'laws.FnExactOneSidedShapes', WHERE WHAT IT READS IS OF BULK AT MOST 1048576: true; the input reads as it did. -/
def fnExactOneSidedShapesUptoRow : OpenClaim := { program := "ythhaojbnnacdbaa", sum := "a1fd2f06ab58e3b04e92e01eef4748debb83b420ee8473c4d5f0c2b8c22894a8", func := "loop.example/g03400/laws.FnExactOneSidedShapes", spec := "fnExactOneSidedShapes", inPlace := ["internal/reflectlite.ValueOf", "internal/reflectlite.Swapper", "(internal/reflectlite.Value).Len"], unfollowed := true, recurses := true, apart := false, narrowed := true }
def FnExactOneSidedShapesUptoSaid : Prop := fnExactOneSidedShapesUptoRow.holds Try.pinned (OpenSpec.upto fnExactOneSidedShapesSpec)

/-- 'laws.FnMotions', WHERE WHAT IT READS IS OF BULK AT MOST 1048576: true; the input reads as it did. -/
def fnMotionsUptoRow : OpenClaim := { program := "ythhaojbnnacdbaa", sum := "a1fd2f06ab58e3b04e92e01eef4748debb83b420ee8473c4d5f0c2b8c22894a8", func := "loop.example/g03400/laws.FnMotions", spec := "fnMotions", inPlace := ["internal/reflectlite.ValueOf", "internal/reflectlite.Swapper", "(internal/reflectlite.Value).Len"], unfollowed := true, recurses := true, apart := false, narrowed := true }
def FnMotionsUptoSaid : Prop := fnMotionsUptoRow.holds Try.pinned (OpenSpec.upto fnMotionsSpec)

end Rows
end Go.Proofs.Ythhaojbnnacdbaa
