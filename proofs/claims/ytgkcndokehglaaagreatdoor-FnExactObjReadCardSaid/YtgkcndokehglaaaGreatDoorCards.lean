/-
  DERIVED. GIVEN WITH THE SEED: THE CARDS: each row of YtgkcndokehglaaaGreatDoorRows.lean that lists a variable, with what it lists TIED to the program's text (the seventh form; the later family's looks); each row that meets fmt, with fmt's text TOLD by the authors' own Lean function (tested against real Go, not proved from fmt's source: count such statements apart). THE CARD IS WHAT COUNTS. Prove the row's statement (the work); the ties are given (YtgkcndokehglaaaGreatDoorTie.lean); close each card by the builder's one call (the guide's Derived/Test/ToyasCard.lean, 'card_holds'). Laid BY PROGRAM, IN A SANDBOX (cutbox-door.mjs). By AI agents, Wed Nov 11 2026. No macro, syntax, notation, axiom, sorry.
-/
import Derived.Test.YtgkcndokehglaaaGreatDoorRows
import GoSem.ClaimSeven
namespace Go.Proofs.YtgkcndokehglaaaGreatDoor
namespace Rows

/-- THE TIED CARD OF 'laws.FnExactObjRead'. -/
def fnExactObjReadCard : Claim7 := { stood := { row := fnExactObjReadRow, standIns := [], harness := (true, "e56c515989565b950e91705fbefb6685092cf4197e4f95726cb5773738e89462"), looks := true }, kinds := [], alts := [], laidByText := true, laidKinds := [.data, .data, .data, .data, .sentinel, .sentinel, .widerDeep, .widerDeep, .pinned], laidTests := true, laidLooks := .later }
def FnExactObjReadCardSaid : Prop := Claim7.holds Tryz.pinned (.plain (OpenSpec.ofChange fnExactObjReadSpec)) fnExactObjReadCard

/-- THE SECOND FORM's CARD OF 'laws.FnExactObjRead'. -/
def fnExactObjReadUptoCard : Claim7 := { stood := { row := fnExactObjReadUptoRow, standIns := [], harness := (true, "e56c515989565b950e91705fbefb6685092cf4197e4f95726cb5773738e89462"), looks := true }, kinds := [], alts := [], laidByText := true, laidKinds := [.data, .data, .data, .data, .sentinel, .sentinel, .widerDeep, .widerDeep, .pinned], laidTests := true, laidLooks := .later }
def FnExactObjReadUptoCardSaid : Prop := Claim7.holds Tryz.pinned (.plain (OpenSpec.upto fnExactObjReadSpec)) fnExactObjReadUptoCard
end Rows
end Go.Proofs.YtgkcndokehglaaaGreatDoor
