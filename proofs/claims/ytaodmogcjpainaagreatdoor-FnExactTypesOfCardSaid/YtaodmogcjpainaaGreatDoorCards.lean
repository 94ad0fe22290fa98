/-
  DERIVED. GIVEN WITH THE SEED: THE CARDS: each row of YtaodmogcjpainaaGreatDoorRows.lean that lists a variable, with what it lists TIED to the program's text (the seventh form; the later family's looks); each row that meets fmt, with fmt's text TOLD by the authors' own Lean function (tested against real Go, not proved from fmt's source: count such statements apart). THE CARD IS WHAT COUNTS. Prove the row's statement (the work); the ties are given (YtaodmogcjpainaaGreatDoorTie.lean); close each card by the builder's one call (the guide's Derived/Test/ToyasCard.lean, 'card_holds'). Laid BY PROGRAM, IN A SANDBOX (cutbox-door.mjs). By AI agents, Wed Nov 11 2026. No macro, syntax, notation, axiom, sorry.
-/
import Derived.Test.YtaodmogcjpainaaGreatDoorRows
import GoSem.ClaimSeven
namespace Go.Proofs.YtaodmogcjpainaaGreatDoor
namespace Rows

/-- THE TIED CARD OF 'laws.FnExactCallsOf'. -/
def fnExactCallsOfCard : Claim7 := { stood := { row := fnExactCallsOfRow, standIns := [], harness := (true, "2ed3c14258cd5274280e62efa076ffff0d7f8316f7900c730ff1e76245d50f13"), looks := false }, kinds := [], alts := [], laidByText := true, laidKinds := [.data, .pinned], laidTests := true, laidLooks := .later }
def FnExactCallsOfCardSaid : Prop := Claim7.holds Tryz.pinned (.plain (OpenSpec.ofChange fnExactCallsOfSpec)) fnExactCallsOfCard

/-- THE TIED CARD OF 'laws.FnExactNamesRight'. -/
def fnExactNamesRightCard : Claim7 := { stood := { row := fnExactNamesRightRow, standIns := [], harness := (true, "2ed3c14258cd5274280e62efa076ffff0d7f8316f7900c730ff1e76245d50f13"), looks := false }, kinds := [], alts := [], laidByText := true, laidKinds := [.data, .pinned], laidTests := true, laidLooks := .later }
def FnExactNamesRightCardSaid : Prop := Claim7.holds Tryz.pinned (.plain (OpenSpec.ofChange fnExactNamesRightSpec)) fnExactNamesRightCard

/-- THE TIED CARD OF 'laws.FnExactTypesRight'. -/
def fnExactTypesRightCard : Claim7 := { stood := { row := fnExactTypesRightRow, standIns := [], harness := (true, "2ed3c14258cd5274280e62efa076ffff0d7f8316f7900c730ff1e76245d50f13"), looks := false }, kinds := [], alts := [], laidByText := true, laidKinds := [.data, .pinned], laidTests := true, laidLooks := .later }
def FnExactTypesRightCardSaid : Prop := Claim7.holds Tryz.pinned (.plain (OpenSpec.ofChange fnExactTypesRightSpec)) fnExactTypesRightCard

/-- THE TIED CARD OF 'laws.FnExactTypesOf'. -/
def fnExactTypesOfCard : Claim7 := { stood := { row := fnExactTypesOfRow, standIns := [], harness := (true, "2ed3c14258cd5274280e62efa076ffff0d7f8316f7900c730ff1e76245d50f13"), looks := false }, kinds := [], alts := [], laidByText := true, laidKinds := [.data, .pinned], laidTests := true, laidLooks := .later }
def FnExactTypesOfCardSaid : Prop := Claim7.holds Tryz.pinned (.plain (OpenSpec.ofChange fnExactTypesOfSpec)) fnExactTypesOfCard

/-- THE SECOND FORM's CARD OF 'laws.FnExactCallsOf'. -/
def fnExactCallsOfUptoCard : Claim7 := { stood := { row := fnExactCallsOfUptoRow, standIns := [], harness := (true, "2ed3c14258cd5274280e62efa076ffff0d7f8316f7900c730ff1e76245d50f13"), looks := false }, kinds := [], alts := [], laidByText := true, laidKinds := [.data, .pinned], laidTests := true, laidLooks := .later }
def FnExactCallsOfUptoCardSaid : Prop := Claim7.holds Tryz.pinned (.plain (OpenSpec.upto fnExactCallsOfSpec)) fnExactCallsOfUptoCard

/-- THE SECOND FORM's CARD OF 'laws.FnExactNamesRight'. -/
def fnExactNamesRightUptoCard : Claim7 := { stood := { row := fnExactNamesRightUptoRow, standIns := [], harness := (true, "2ed3c14258cd5274280e62efa076ffff0d7f8316f7900c730ff1e76245d50f13"), looks := false }, kinds := [], alts := [], laidByText := true, laidKinds := [.data, .pinned], laidTests := true, laidLooks := .later }
def FnExactNamesRightUptoCardSaid : Prop := Claim7.holds Tryz.pinned (.plain (OpenSpec.upto fnExactNamesRightSpec)) fnExactNamesRightUptoCard

/-- THE SECOND FORM's CARD OF 'laws.FnExactTypesRight'. -/
def fnExactTypesRightUptoCard : Claim7 := { stood := { row := fnExactTypesRightUptoRow, standIns := [], harness := (true, "2ed3c14258cd5274280e62efa076ffff0d7f8316f7900c730ff1e76245d50f13"), looks := false }, kinds := [], alts := [], laidByText := true, laidKinds := [.data, .pinned], laidTests := true, laidLooks := .later }
def FnExactTypesRightUptoCardSaid : Prop := Claim7.holds Tryz.pinned (.plain (OpenSpec.upto fnExactTypesRightSpec)) fnExactTypesRightUptoCard

/-- THE SECOND FORM's CARD OF 'laws.FnExactTypesOf'. -/
def fnExactTypesOfUptoCard : Claim7 := { stood := { row := fnExactTypesOfUptoRow, standIns := [], harness := (true, "2ed3c14258cd5274280e62efa076ffff0d7f8316f7900c730ff1e76245d50f13"), looks := false }, kinds := [], alts := [], laidByText := true, laidKinds := [.data, .pinned], laidTests := true, laidLooks := .later }
def FnExactTypesOfUptoCardSaid : Prop := Claim7.holds Tryz.pinned (.plain (OpenSpec.upto fnExactTypesOfSpec)) fnExactTypesOfUptoCard
end Rows
end Go.Proofs.YtaodmogcjpainaaGreatDoor
