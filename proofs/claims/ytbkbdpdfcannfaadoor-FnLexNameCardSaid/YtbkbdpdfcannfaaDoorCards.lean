/-
  DERIVED. GIVEN WITH THE SEED: THE CARDS: each row of YtbkbdpdfcannfaaDoorRows.lean that lists a variable, with what it lists TIED to the program's text (the seventh form; the later family's looks); each row that meets fmt, with fmt's text TOLD by the authors' own Lean function (tested against real Go, not proved from fmt's source: count such statements apart). THE CARD IS WHAT COUNTS. Prove the row's statement (the work); the ties are given (YtbkbdpdfcannfaaDoorTie.lean); close each card by the builder's one call (the guide's Derived/Test/ToyasCard.lean, 'card_holds'). Laid BY PROGRAM, IN A SANDBOX (cutbox-door.mjs). By AI agents, Wed Nov 11 2026. No macro, syntax, notation, axiom, sorry.
-/
import Derived.Test.YtbkbdpdfcannfaaDoorRows
import GoSem.ClaimSeven
namespace Go.Proofs.YtbkbdpdfcannfaaDoor
namespace Rows

/-- THE TIED CARD OF 'laws.FnLexName'. -/
def fnLexNameCard : Claim7 := { stood := { row := fnLexNameRow, standIns := [], harness := (true, "7e8b3777002f5d6e90e45adc0599b5d5f30fc62fdbae225df55143448a063b8f"), looks := true }, kinds := [], alts := [], laidByText := true, laidKinds := [.data, .data, .data, .sentinel, .sentinel], laidTests := true, laidLooks := .later }
def FnLexNameCardSaid : Prop := Claim7.holds Tryd.pinned (.plain (OpenSpec.ofChange fnLexNameSpec)) fnLexNameCard

/-- THE SECOND FORM's CARD OF 'laws.FnLexName'. -/
def fnLexNameUptoCard : Claim7 := { stood := { row := fnLexNameUptoRow, standIns := [], harness := (true, "7e8b3777002f5d6e90e45adc0599b5d5f30fc62fdbae225df55143448a063b8f"), looks := true }, kinds := [], alts := [], laidByText := true, laidKinds := [.data, .data, .data, .sentinel, .sentinel], laidTests := true, laidLooks := .later }
def FnLexNameUptoCardSaid : Prop := Claim7.holds Tryd.pinned (.plain (OpenSpec.upto fnLexNameSpec)) fnLexNameUptoCard
end Rows
end Go.Proofs.YtbkbdpdfcannfaaDoor
