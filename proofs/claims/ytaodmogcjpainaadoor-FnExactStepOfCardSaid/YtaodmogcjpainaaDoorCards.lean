/-
  DERIVED. GIVEN WITH THE SEED: THE CARDS: each row of YtaodmogcjpainaaDoorRows.lean that lists a variable, with what it lists TIED to the program's text (the seventh form; the later family's looks); each row that meets fmt, with fmt's text TOLD by the authors' own Lean function (tested against real Go, not proved from fmt's source: count such statements apart). THE CARD IS WHAT COUNTS. Prove the row's statement (the work); the ties are given (YtaodmogcjpainaaDoorTie.lean); close each card by the builder's one call (the guide's Derived/Test/ToyasCard.lean, 'card_holds'). Laid BY PROGRAM, IN A SANDBOX (cutbox-door.mjs). By AI agents, Wed Nov 11 2026. No macro, syntax, notation, axiom, sorry.
-/
import Derived.Test.YtaodmogcjpainaaDoorRows
import GoSem.ClaimSeven
namespace Go.Proofs.YtaodmogcjpainaaDoor
namespace Rows

/-- THE TIED CARD OF 'laws.FnExactStill'. -/
def fnExactStillCard : Claim7 := { stood := { row := fnExactStillRow, standIns := [], harness := (true, "63b5dff0eeb65a9c2ae558fbf36380f2cb31b9adc179b5684059adbf0825c8ff"), looks := false }, kinds := [], alts := [], laidByText := true, laidKinds := [.data, .pinned], laidTests := true, laidLooks := .later }
def FnExactStillCardSaid : Prop := Claim7.holds Tryd.pinned (.plain (OpenSpec.ofChange fnExactStillSpec)) fnExactStillCard

/-- THE TIED CARD OF 'laws.FnExactStepOf'. -/
def fnExactStepOfCard : Claim7 := { stood := { row := fnExactStepOfRow, standIns := [], harness := (true, "63b5dff0eeb65a9c2ae558fbf36380f2cb31b9adc179b5684059adbf0825c8ff"), looks := false }, kinds := [], alts := [], laidByText := true, laidKinds := [.data, .pinned], laidTests := true, laidLooks := .later }
def FnExactStepOfCardSaid : Prop := Claim7.holds Tryd.pinned (.plain (OpenSpec.ofChange fnExactStepOfSpec)) fnExactStepOfCard

/-- THE SECOND FORM's CARD OF 'laws.FnExactStill'. -/
def fnExactStillUptoCard : Claim7 := { stood := { row := fnExactStillUptoRow, standIns := [], harness := (true, "63b5dff0eeb65a9c2ae558fbf36380f2cb31b9adc179b5684059adbf0825c8ff"), looks := false }, kinds := [], alts := [], laidByText := true, laidKinds := [.data, .pinned], laidTests := true, laidLooks := .later }
def FnExactStillUptoCardSaid : Prop := Claim7.holds Tryd.pinned (.plain (OpenSpec.upto fnExactStillSpec)) fnExactStillUptoCard

/-- THE SECOND FORM's CARD OF 'laws.FnExactStepOf'. -/
def fnExactStepOfUptoCard : Claim7 := { stood := { row := fnExactStepOfUptoRow, standIns := [], harness := (true, "63b5dff0eeb65a9c2ae558fbf36380f2cb31b9adc179b5684059adbf0825c8ff"), looks := false }, kinds := [], alts := [], laidByText := true, laidKinds := [.data, .pinned], laidTests := true, laidLooks := .later }
def FnExactStepOfUptoCardSaid : Prop := Claim7.holds Tryd.pinned (.plain (OpenSpec.upto fnExactStepOfSpec)) fnExactStepOfUptoCard
end Rows
end Go.Proofs.YtaodmogcjpainaaDoor
