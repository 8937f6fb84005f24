/-
  DERIVED. GIVEN WITH THE SEED: THE CARDS: each row of YtacegndmclnbnaaDoorRows.lean that lists a variable, with what it lists TIED to the program's text (the seventh form; the later family's looks); each row that meets fmt, with fmt's text TOLD by the authors' own Lean function (tested against real Go, not proved from fmt's source: count such statements apart). THE CARD IS WHAT COUNTS. Prove the row's statement (the work); the ties are given (YtacegndmclnbnaaDoorTie.lean); close each card by the builder's one call (the guide's Derived/Test/ToyasCard.lean, 'card_holds'). Laid BY PROGRAM, IN A SANDBOX (cutbox-door.mjs). By AI agents, Wed Nov 11 2026. No macro, syntax, notation, axiom, sorry.
-/
import Derived.Test.YtacegndmclnbnaaDoorRows
import GoSem.ClaimSeven
namespace Go.Proofs.YtacegndmclnbnaaDoor
namespace Rows

/-- THE TIED CARD OF 'laws.FnExactPieceNamed'. -/
def fnExactPieceNamedCard : Claim7 := { stood := { row := fnExactPieceNamedRow, standIns := [], harness := (true, "622822bd895705a760b4f8ba1d363810d83d25ff06babb08396c8a819a8ba39e"), looks := true }, kinds := [], alts := [], laidByText := true, laidKinds := [.data, .pinned], laidTests := true, laidLooks := .later }
def FnExactPieceNamedCardSaid : Prop := Claim7.holds Tryd.pinned (.plain (OpenSpec.ofChange fnExactPieceNamedSpec)) fnExactPieceNamedCard

/-- THE TIED CARD OF 'laws.FnExactFormatInt'. -/
def fnExactFormatIntCard : Claim7 := { stood := { row := fnExactFormatIntRow, standIns := [], harness := (true, "622822bd895705a760b4f8ba1d363810d83d25ff06babb08396c8a819a8ba39e"), looks := true }, kinds := [], alts := [], laidByText := true, laidKinds := [.data, .data, .data], laidTests := true, laidLooks := .later }
def FnExactFormatIntCardSaid : Prop := Claim7.holds Tryd.pinned (.plain (OpenSpec.ofChange fnExactFormatIntSpec)) fnExactFormatIntCard

/-- THE TIED CARD OF 'laws.FnExactParseInt'. -/
def fnExactParseIntCard : Claim7 := { stood := { row := fnExactParseIntRow, standIns := [], harness := (true, "622822bd895705a760b4f8ba1d363810d83d25ff06babb08396c8a819a8ba39e"), looks := true }, kinds := [], alts := [], laidByText := true, laidKinds := [.data, .data, .data, .sentinel, .sentinel], laidTests := true, laidLooks := .later }
def FnExactParseIntCardSaid : Prop := Claim7.holds Tryd.pinned (.plain (OpenSpec.ofChange fnExactParseIntSpec)) fnExactParseIntCard

/-- THE TIED CARD OF 'laws.FnIntegerEncodings'. -/
def fnIntegerEncodingsCard : Claim7 := { stood := { row := fnIntegerEncodingsRow, standIns := [], harness := (true, "622822bd895705a760b4f8ba1d363810d83d25ff06babb08396c8a819a8ba39e"), looks := true }, kinds := [], alts := [], laidByText := true, laidKinds := [.data, .data, .data, .sentinel, .sentinel], laidTests := true, laidLooks := .later }
def FnIntegerEncodingsCardSaid : Prop := Claim7.holds Tryd.pinned (.plain (OpenSpec.ofChange fnIntegerEncodingsSpec)) fnIntegerEncodingsCard

/-- THE TIED CARD OF 'laws.FnExactParseShape'. -/
def fnExactParseShapeCard : Claim7 := { stood := { row := fnExactParseShapeRow, standIns := [], harness := (true, "622822bd895705a760b4f8ba1d363810d83d25ff06babb08396c8a819a8ba39e"), looks := true }, kinds := [], alts := [], laidByText := true, laidKinds := [.data, .pinned], laidTests := true, laidLooks := .later }
def FnExactParseShapeCardSaid : Prop := Claim7.holds Tryd.pinned (.plain (OpenSpec.ofChange fnExactParseShapeSpec)) fnExactParseShapeCard

/-- THE SECOND FORM's CARD OF 'laws.FnExactPieceNamed'. -/
def fnExactPieceNamedUptoCard : Claim7 := { stood := { row := fnExactPieceNamedUptoRow, standIns := [], harness := (true, "622822bd895705a760b4f8ba1d363810d83d25ff06babb08396c8a819a8ba39e"), looks := true }, kinds := [], alts := [], laidByText := true, laidKinds := [.data, .pinned], laidTests := true, laidLooks := .later }
def FnExactPieceNamedUptoCardSaid : Prop := Claim7.holds Tryd.pinned (.plain (OpenSpec.upto fnExactPieceNamedSpec)) fnExactPieceNamedUptoCard

/-- THE SECOND FORM's CARD OF 'laws.FnExactFormatInt'. -/
def fnExactFormatIntUptoCard : Claim7 := { stood := { row := fnExactFormatIntUptoRow, standIns := [], harness := (true, "622822bd895705a760b4f8ba1d363810d83d25ff06babb08396c8a819a8ba39e"), looks := true }, kinds := [], alts := [], laidByText := true, laidKinds := [.data, .data, .data], laidTests := true, laidLooks := .later }
def FnExactFormatIntUptoCardSaid : Prop := Claim7.holds Tryd.pinned (.plain (OpenSpec.upto fnExactFormatIntSpec)) fnExactFormatIntUptoCard

/-- THE SECOND FORM's CARD OF 'laws.FnExactParseInt'. -/
def fnExactParseIntUptoCard : Claim7 := { stood := { row := fnExactParseIntUptoRow, standIns := [], harness := (true, "622822bd895705a760b4f8ba1d363810d83d25ff06babb08396c8a819a8ba39e"), looks := true }, kinds := [], alts := [], laidByText := true, laidKinds := [.data, .data, .data, .sentinel, .sentinel], laidTests := true, laidLooks := .later }
def FnExactParseIntUptoCardSaid : Prop := Claim7.holds Tryd.pinned (.plain (OpenSpec.upto fnExactParseIntSpec)) fnExactParseIntUptoCard

/-- THE SECOND FORM's CARD OF 'laws.FnIntegerEncodings'. -/
def fnIntegerEncodingsUptoCard : Claim7 := { stood := { row := fnIntegerEncodingsUptoRow, standIns := [], harness := (true, "622822bd895705a760b4f8ba1d363810d83d25ff06babb08396c8a819a8ba39e"), looks := true }, kinds := [], alts := [], laidByText := true, laidKinds := [.data, .data, .data, .sentinel, .sentinel], laidTests := true, laidLooks := .later }
def FnIntegerEncodingsUptoCardSaid : Prop := Claim7.holds Tryd.pinned (.plain (OpenSpec.upto fnIntegerEncodingsSpec)) fnIntegerEncodingsUptoCard

/-- THE SECOND FORM's CARD OF 'laws.FnExactParseShape'. -/
def fnExactParseShapeUptoCard : Claim7 := { stood := { row := fnExactParseShapeUptoRow, standIns := [], harness := (true, "622822bd895705a760b4f8ba1d363810d83d25ff06babb08396c8a819a8ba39e"), looks := true }, kinds := [], alts := [], laidByText := true, laidKinds := [.data, .pinned], laidTests := true, laidLooks := .later }
def FnExactParseShapeUptoCardSaid : Prop := Claim7.holds Tryd.pinned (.plain (OpenSpec.upto fnExactParseShapeSpec)) fnExactParseShapeUptoCard
end Rows
end Go.Proofs.YtacegndmclnbnaaDoor
