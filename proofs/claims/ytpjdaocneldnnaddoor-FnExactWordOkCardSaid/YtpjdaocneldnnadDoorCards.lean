/-
  DERIVED. GIVEN WITH THE SEED: THE CARDS: each row of YtpjdaocneldnnadDoorRows.lean that lists a variable, with what it lists TIED to the program's text (the seventh form; the later family's looks); each row that meets fmt, with fmt's text TOLD by the authors' own Lean function (tested against real Go, not proved from fmt's source: count such statements apart). THE CARD IS WHAT COUNTS. Prove the row's statement (the work); the ties are given (YtpjdaocneldnnadDoorTie.lean); close each card by the builder's one call (the guide's Derived/Test/ToyasCard.lean, 'card_holds'). Laid BY PROGRAM, IN A SANDBOX (cutbox-door.mjs). By AI agents, Wed Nov 11 2026. No macro, syntax, notation, axiom, sorry.
-/
import Derived.Test.YtpjdaocneldnnadDoorRows
import GoSem.ClaimSeven
namespace Go.Proofs.YtpjdaocneldnnadDoor
namespace Rows

/-- THE TIED CARD OF 'laws.FnExactWordOk'. -/
def fnExactWordOkCard : Claim7 := { stood := { row := fnExactWordOkRow, standIns := [], harness := (true, "0055c75dcecaca664d1c8f7a60dc4d6c6b9aaf5975dc5add54e2c32b44165a58"), looks := false }, kinds := [], alts := [], laidByText := true, laidKinds := [.data, .pinned], laidTests := true, laidLooks := .later }
def FnExactWordOkCardSaid : Prop := Claim7.holds Tryd.pinned (.plain (OpenSpec.ofChange fnExactWordOkSpec)) fnExactWordOkCard

/-- THE SECOND FORM's CARD OF 'laws.FnExactWordOk'. -/
def fnExactWordOkUptoCard : Claim7 := { stood := { row := fnExactWordOkUptoRow, standIns := [], harness := (true, "0055c75dcecaca664d1c8f7a60dc4d6c6b9aaf5975dc5add54e2c32b44165a58"), looks := false }, kinds := [], alts := [], laidByText := true, laidKinds := [.data, .pinned], laidTests := true, laidLooks := .later }
def FnExactWordOkUptoCardSaid : Prop := Claim7.holds Tryd.pinned (.plain (OpenSpec.upto fnExactWordOkSpec)) fnExactWordOkUptoCard
end Rows
end Go.Proofs.YtpjdaocneldnnadDoor
