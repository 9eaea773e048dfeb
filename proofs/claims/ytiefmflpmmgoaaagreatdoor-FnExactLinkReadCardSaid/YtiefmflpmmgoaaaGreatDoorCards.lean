/-
  DERIVED. GIVEN WITH THE SEED: THE CARDS: each row of YtiefmflpmmgoaaaGreatDoorRows.lean that lists a variable, with what it lists TIED to the program's text (the seventh form; the later family's looks); each row that meets fmt, with fmt's text TOLD by the authors' own Lean function (tested against real Go, not proved from fmt's source: count such statements apart). THE CARD IS WHAT COUNTS. Prove the row's statement (the work); the ties are given (YtiefmflpmmgoaaaGreatDoorTie.lean); close each card by the builder's one call (the guide's Derived/Test/ToyasCard.lean, 'card_holds'). Laid BY PROGRAM, IN A SANDBOX (cutbox-door.mjs). By AI agents, Wed Nov 11 2026. No macro, syntax, notation, axiom, sorry.
-/
import Derived.Test.YtiefmflpmmgoaaaGreatDoorRows
import GoSem.ClaimSeven
namespace Go.Proofs.YtiefmflpmmgoaaaGreatDoor
namespace Rows

/-- THE TIED CARD OF 'laws.FnExactLinkRead'. -/
def fnExactLinkReadCard : Claim7 := { stood := { row := fnExactLinkReadRow, standIns := [], harness := (true, "0c657f37a4e2487f41ac622bf43d38be8aa39bd242e53e0ec1730ccc06a10927"), looks := true }, kinds := [], alts := [], laidByText := true, laidKinds := [.data, .data, .data, .data, .sentinel, .sentinel, .widerDeep, .widerDeep, .pinned], laidTests := true, laidLooks := .later }
def FnExactLinkReadCardSaid : Prop := Claim7.holds Tryz.pinned (.plain (OpenSpec.ofChange fnExactLinkReadSpec)) fnExactLinkReadCard

/-- THE SECOND FORM's CARD OF 'laws.FnExactLinkRead'. -/
def fnExactLinkReadUptoCard : Claim7 := { stood := { row := fnExactLinkReadUptoRow, standIns := [], harness := (true, "0c657f37a4e2487f41ac622bf43d38be8aa39bd242e53e0ec1730ccc06a10927"), looks := true }, kinds := [], alts := [], laidByText := true, laidKinds := [.data, .data, .data, .data, .sentinel, .sentinel, .widerDeep, .widerDeep, .pinned], laidTests := true, laidLooks := .later }
def FnExactLinkReadUptoCardSaid : Prop := Claim7.holds Tryz.pinned (.plain (OpenSpec.upto fnExactLinkReadSpec)) fnExactLinkReadUptoCard
end Rows
end Go.Proofs.YtiefmflpmmgoaaaGreatDoor
