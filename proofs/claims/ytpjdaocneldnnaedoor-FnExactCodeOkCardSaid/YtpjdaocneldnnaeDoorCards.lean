/-
  DERIVED. GIVEN WITH THE SEED: THE CARDS: each row of YtpjdaocneldnnaeDoorRows.lean that lists a variable, with what it lists TIED to the program's text (the seventh form; the later family's looks); each row that meets fmt, with fmt's text TOLD by the authors' own Lean function (tested against real Go, not proved from fmt's source: count such statements apart). THE CARD IS WHAT COUNTS. Prove the row's statement (the work); the ties are given (YtpjdaocneldnnaeDoorTie.lean); close each card by the builder's one call (the guide's Derived/Test/ToyasCard.lean, 'card_holds'). Laid BY PROGRAM, IN A SANDBOX (cutbox-door.mjs). By AI agents, Wed Nov 11 2026. No macro, syntax, notation, axiom, sorry.
-/
import Derived.Test.YtpjdaocneldnnaeDoorRows
import GoSem.ClaimSeven
namespace Go.Proofs.YtpjdaocneldnnaeDoor
namespace Rows

/-- THE TIED CARD OF 'laws.FnExactCodeOk'. -/
def fnExactCodeOkCard : Claim7 := { stood := { row := fnExactCodeOkRow, standIns := [], harness := (true, "c6125848a61a9a6599416adfff29ab0e3f05f54e3008a93d9489e8a8c35d7baf"), looks := false }, kinds := [], alts := [], laidByText := true, laidKinds := [.data, .pinned], laidTests := true, laidLooks := .later }
def FnExactCodeOkCardSaid : Prop := Claim7.holds Tryd.pinned (.plain (OpenSpec.ofChange fnExactCodeOkSpec)) fnExactCodeOkCard

/-- THE SECOND FORM's CARD OF 'laws.FnExactCodeOk'. -/
def fnExactCodeOkUptoCard : Claim7 := { stood := { row := fnExactCodeOkUptoRow, standIns := [], harness := (true, "c6125848a61a9a6599416adfff29ab0e3f05f54e3008a93d9489e8a8c35d7baf"), looks := false }, kinds := [], alts := [], laidByText := true, laidKinds := [.data, .pinned], laidTests := true, laidLooks := .later }
def FnExactCodeOkUptoCardSaid : Prop := Claim7.holds Tryd.pinned (.plain (OpenSpec.upto fnExactCodeOkSpec)) fnExactCodeOkUptoCard
end Rows
end Go.Proofs.YtpjdaocneldnnaeDoor
