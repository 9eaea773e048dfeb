/-
  DERIVED. GIVEN WITH THE SEED: THE CARDS: each row of YtpkfajjkkmnmcaaDoorRows.lean that lists a variable, with what it lists TIED to the program's text (the seventh form; the later family's looks); each row that meets fmt, with fmt's text TOLD by the authors' own Lean function (tested against real Go, not proved from fmt's source: count such statements apart). THE CARD IS WHAT COUNTS. Prove the row's statement (the work); the ties are given (YtpkfajjkkmnmcaaDoorTie.lean); close each card by the builder's one call (the guide's Derived/Test/ToyasCard.lean, 'card_holds'). Laid BY PROGRAM, IN A SANDBOX (cutbox-door.mjs). By AI agents, Wed Nov 11 2026. No macro, syntax, notation, axiom, sorry.
-/
import Derived.Test.YtpkfajjkkmnmcaaDoorRows
import GoSem.ClaimSeven
namespace Go.Proofs.YtpkfajjkkmnmcaaDoor
namespace Rows

/-- THE TIED CARD OF 'laws.FnExactFaceRead'. -/
def fnExactFaceReadCard : Claim7 := { stood := { row := fnExactFaceReadRow, standIns := [], harness := (true, "16ad7a0302c2841c3fad7ec6dd4f87c971a59f23dabfbd01f21489af0c936890"), looks := false }, kinds := [], alts := [], laidByText := true, laidKinds := [.data, .widerDeep, .pinned], laidTests := true, laidLooks := .later }
def FnExactFaceReadCardSaid : Prop := Claim7.holds Tryd.pinned (.plain (OpenSpec.ofChange fnExactFaceReadSpec)) fnExactFaceReadCard

/-- THE SECOND FORM's CARD OF 'laws.FnExactFaceRead'. -/
def fnExactFaceReadUptoCard : Claim7 := { stood := { row := fnExactFaceReadUptoRow, standIns := [], harness := (true, "16ad7a0302c2841c3fad7ec6dd4f87c971a59f23dabfbd01f21489af0c936890"), looks := false }, kinds := [], alts := [], laidByText := true, laidKinds := [.data, .widerDeep, .pinned], laidTests := true, laidLooks := .later }
def FnExactFaceReadUptoCardSaid : Prop := Claim7.holds Tryd.pinned (.plain (OpenSpec.upto fnExactFaceReadSpec)) fnExactFaceReadUptoCard
end Rows
end Go.Proofs.YtpkfajjkkmnmcaaDoor
