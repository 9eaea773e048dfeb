/-
  DERIVED. GIVEN WITH THE SEED: THE CARDS: each row of YtjadancpencnnaaDoorRows.lean that lists a variable, with what it lists TIED to the program's text (the seventh form; the later family's looks); each row that meets fmt, with fmt's text TOLD by the authors' own Lean function (tested against real Go, not proved from fmt's source: count such statements apart). THE CARD IS WHAT COUNTS. Prove the row's statement (the work); the ties are given (YtjadancpencnnaaDoorTie.lean); close each card by the builder's one call (the guide's Derived/Test/ToyasCard.lean, 'card_holds'). Laid BY PROGRAM, IN A SANDBOX (cutbox-door.mjs). By AI agents, Wed Nov 11 2026. No macro, syntax, notation, axiom, sorry.
-/
import Derived.Test.YtjadancpencnnaaDoorRows
import GoSem.ClaimSeven
namespace Go.Proofs.YtjadancpencnnaaDoor
namespace Rows

/-- THE TIED CARD OF 'laws.FnExactTreeType'. -/
def fnExactTreeTypeCard : Claim7 := { stood := { row := fnExactTreeTypeRow, standIns := [], harness := (true, "fd5ccfe73d7ab39d3923027f684eb7c7b425977992afee4baa4c15d78e5ca416"), looks := true }, kinds := [], alts := [], laidByText := true, laidKinds := [.widerDeep], laidTests := true, laidLooks := .later }
def FnExactTreeTypeCardSaid : Prop := Claim7.holds Tryd.pinned (.plain (OpenSpec.ofChange fnExactTreeTypeSpec)) fnExactTreeTypeCard

/-- THE TIED CARD OF 'laws.FnExactLexNum'. -/
def fnExactLexNumCard : Claim7 := { stood := { row := fnExactLexNumRow, standIns := [], harness := (true, "fd5ccfe73d7ab39d3923027f684eb7c7b425977992afee4baa4c15d78e5ca416"), looks := true }, kinds := [], alts := [], laidByText := true, laidKinds := [.data, .data, .data, .sentinel, .sentinel], laidTests := true, laidLooks := .later }
def FnExactLexNumCardSaid : Prop := Claim7.holds Tryd.pinned (.plain (OpenSpec.ofChange fnExactLexNumSpec)) fnExactLexNumCard

/-- THE TIED CARD OF 'laws.FnExactFaceText'. -/
def fnExactFaceTextCard : Claim7 := { stood := { row := fnExactFaceTextRow, standIns := [], harness := (true, "fd5ccfe73d7ab39d3923027f684eb7c7b425977992afee4baa4c15d78e5ca416"), looks := true }, kinds := [], alts := [], laidByText := true, laidKinds := [.widerDeep], laidTests := true, laidLooks := .later }
def FnExactFaceTextCardSaid : Prop := Claim7.holds Tryd.pinned (.plain (OpenSpec.ofChange fnExactFaceTextSpec)) fnExactFaceTextCard

/-- THE TIED CARD OF 'laws.FnExactTreePrint'. -/
def fnExactTreePrintCard : Claim7 := { stood := { row := fnExactTreePrintRow, standIns := [], harness := (true, "fd5ccfe73d7ab39d3923027f684eb7c7b425977992afee4baa4c15d78e5ca416"), looks := true }, kinds := [], alts := [], laidByText := true, laidKinds := [.data, .data, .data, .widerDeep], laidTests := true, laidLooks := .later }
def FnExactTreePrintCardSaid : Prop := Claim7.holds Tryd.pinned (.plain (OpenSpec.ofChange fnExactTreePrintSpec)) fnExactTreePrintCard

/-- THE TIED CARD OF 'laws.FnExactObjText'. -/
def fnExactObjTextCard : Claim7 := { stood := { row := fnExactObjTextRow, standIns := [], harness := (true, "fd5ccfe73d7ab39d3923027f684eb7c7b425977992afee4baa4c15d78e5ca416"), looks := true }, kinds := [], alts := [], laidByText := true, laidKinds := [.data, .data, .data, .widerDeep, .widerDeep], laidTests := true, laidLooks := .later }
def FnExactObjTextCardSaid : Prop := Claim7.holds Tryd.pinned (.plain (OpenSpec.ofChange fnExactObjTextSpec)) fnExactObjTextCard

/-- THE SECOND FORM's CARD OF 'laws.FnExactTreeType'. -/
def fnExactTreeTypeUptoCard : Claim7 := { stood := { row := fnExactTreeTypeUptoRow, standIns := [], harness := (true, "fd5ccfe73d7ab39d3923027f684eb7c7b425977992afee4baa4c15d78e5ca416"), looks := true }, kinds := [], alts := [], laidByText := true, laidKinds := [.widerDeep], laidTests := true, laidLooks := .later }
def FnExactTreeTypeUptoCardSaid : Prop := Claim7.holds Tryd.pinned (.plain (OpenSpec.upto fnExactTreeTypeSpec)) fnExactTreeTypeUptoCard

/-- THE SECOND FORM's CARD OF 'laws.FnExactLexNum'. -/
def fnExactLexNumUptoCard : Claim7 := { stood := { row := fnExactLexNumUptoRow, standIns := [], harness := (true, "fd5ccfe73d7ab39d3923027f684eb7c7b425977992afee4baa4c15d78e5ca416"), looks := true }, kinds := [], alts := [], laidByText := true, laidKinds := [.data, .data, .data, .sentinel, .sentinel], laidTests := true, laidLooks := .later }
def FnExactLexNumUptoCardSaid : Prop := Claim7.holds Tryd.pinned (.plain (OpenSpec.upto fnExactLexNumSpec)) fnExactLexNumUptoCard

/-- THE SECOND FORM's CARD OF 'laws.FnExactFaceText'. -/
def fnExactFaceTextUptoCard : Claim7 := { stood := { row := fnExactFaceTextUptoRow, standIns := [], harness := (true, "fd5ccfe73d7ab39d3923027f684eb7c7b425977992afee4baa4c15d78e5ca416"), looks := true }, kinds := [], alts := [], laidByText := true, laidKinds := [.widerDeep], laidTests := true, laidLooks := .later }
def FnExactFaceTextUptoCardSaid : Prop := Claim7.holds Tryd.pinned (.plain (OpenSpec.upto fnExactFaceTextSpec)) fnExactFaceTextUptoCard

/-- THE SECOND FORM's CARD OF 'laws.FnExactTreePrint'. -/
def fnExactTreePrintUptoCard : Claim7 := { stood := { row := fnExactTreePrintUptoRow, standIns := [], harness := (true, "fd5ccfe73d7ab39d3923027f684eb7c7b425977992afee4baa4c15d78e5ca416"), looks := true }, kinds := [], alts := [], laidByText := true, laidKinds := [.data, .data, .data, .widerDeep], laidTests := true, laidLooks := .later }
def FnExactTreePrintUptoCardSaid : Prop := Claim7.holds Tryd.pinned (.plain (OpenSpec.upto fnExactTreePrintSpec)) fnExactTreePrintUptoCard

/-- THE SECOND FORM's CARD OF 'laws.FnExactObjText'. -/
def fnExactObjTextUptoCard : Claim7 := { stood := { row := fnExactObjTextUptoRow, standIns := [], harness := (true, "fd5ccfe73d7ab39d3923027f684eb7c7b425977992afee4baa4c15d78e5ca416"), looks := true }, kinds := [], alts := [], laidByText := true, laidKinds := [.data, .data, .data, .widerDeep, .widerDeep], laidTests := true, laidLooks := .later }
def FnExactObjTextUptoCardSaid : Prop := Claim7.holds Tryd.pinned (.plain (OpenSpec.upto fnExactObjTextSpec)) fnExactObjTextUptoCard
end Rows
end Go.Proofs.YtjadancpencnnaaDoor
