/-
  DERIVED. GIVEN WITH THE SEED: THE CARDS: each row of YtnbodmohnkohfaaGreatDoorRows.lean that lists a variable, with what it lists TIED to the program's text (the seventh form; the later family's looks); each row that meets fmt, with fmt's text TOLD by the authors' own Lean function (tested against real Go, not proved from fmt's source: count such statements apart). THE CARD IS WHAT COUNTS. Prove the row's statement (the work); the ties are given (YtnbodmohnkohfaaGreatDoorTie.lean); close each card by the builder's one call (the guide's Derived/Test/ToyasCard.lean, 'card_holds'). Laid BY PROGRAM, IN A SANDBOX (cutbox-door.mjs). By AI agents, Wed Nov 11 2026. No macro, syntax, notation, axiom, sorry.
-/
import Derived.Test.YtnbodmohnkohfaaGreatDoorRows
import GoSem.ClaimSeven
namespace Go.Proofs.YtnbodmohnkohfaaGreatDoor
namespace Rows

/-- THE TIED CARD OF 'laws.FnExactEffectsOf'. -/
def fnExactEffectsOfCard : Claim7 := { stood := { row := fnExactEffectsOfRow, standIns := [], harness := (true, "3faf867d16de510d9f71218d3946e70445bbafcd7d89d56fca16d26715babd41"), looks := false }, kinds := [], alts := [], laidByText := true, laidKinds := [.data, .pinned], laidTests := true, laidLooks := .later }
def FnExactEffectsOfCardSaid : Prop := Claim7.holds Tryz.pinned (.plain (OpenSpec.ofChange fnExactEffectsOfSpec)) fnExactEffectsOfCard

/-- THE TIED CARD OF 'laws.FnExactRenameFn'. -/
def fnExactRenameFnCard : Claim7 := { stood := { row := fnExactRenameFnRow, standIns := [], harness := (true, "3faf867d16de510d9f71218d3946e70445bbafcd7d89d56fca16d26715babd41"), looks := false }, kinds := [], alts := [], laidByText := true, laidKinds := [.data, .pinned], laidTests := true, laidLooks := .later }
def FnExactRenameFnCardSaid : Prop := Claim7.holds Tryz.pinned (.plain (OpenSpec.ofChange fnExactRenameFnSpec)) fnExactRenameFnCard

/-- THE TIED CARD OF 'laws.FnExactRenameVar'. -/
def fnExactRenameVarCard : Claim7 := { stood := { row := fnExactRenameVarRow, standIns := [], harness := (true, "3faf867d16de510d9f71218d3946e70445bbafcd7d89d56fca16d26715babd41"), looks := false }, kinds := [], alts := [], laidByText := true, laidKinds := [.data, .pinned], laidTests := true, laidLooks := .later }
def FnExactRenameVarCardSaid : Prop := Claim7.holds Tryz.pinned (.plain (OpenSpec.ofChange fnExactRenameVarSpec)) fnExactRenameVarCard

/-- THE TIED CARD OF 'laws.FnExactReadProgram'. -/
def fnExactReadProgramCard : Claim7 := { stood := { row := fnExactReadProgramRow, standIns := [], harness := (true, "3faf867d16de510d9f71218d3946e70445bbafcd7d89d56fca16d26715babd41"), looks := false }, kinds := [], alts := [], laidByText := true, laidKinds := [.data, .pinned], laidTests := true, laidLooks := .later }
def FnExactReadProgramCardSaid : Prop := Claim7.holds Tryz.pinned (.plain (OpenSpec.ofChange fnExactReadProgramSpec)) fnExactReadProgramCard

/-- THE SECOND FORM's CARD OF 'laws.FnExactEffectsOf'. -/
def fnExactEffectsOfUptoCard : Claim7 := { stood := { row := fnExactEffectsOfUptoRow, standIns := [], harness := (true, "3faf867d16de510d9f71218d3946e70445bbafcd7d89d56fca16d26715babd41"), looks := false }, kinds := [], alts := [], laidByText := true, laidKinds := [.data, .pinned], laidTests := true, laidLooks := .later }
def FnExactEffectsOfUptoCardSaid : Prop := Claim7.holds Tryz.pinned (.plain (OpenSpec.upto fnExactEffectsOfSpec)) fnExactEffectsOfUptoCard

/-- THE SECOND FORM's CARD OF 'laws.FnExactRenameFn'. -/
def fnExactRenameFnUptoCard : Claim7 := { stood := { row := fnExactRenameFnUptoRow, standIns := [], harness := (true, "3faf867d16de510d9f71218d3946e70445bbafcd7d89d56fca16d26715babd41"), looks := false }, kinds := [], alts := [], laidByText := true, laidKinds := [.data, .pinned], laidTests := true, laidLooks := .later }
def FnExactRenameFnUptoCardSaid : Prop := Claim7.holds Tryz.pinned (.plain (OpenSpec.upto fnExactRenameFnSpec)) fnExactRenameFnUptoCard

/-- THE SECOND FORM's CARD OF 'laws.FnExactRenameVar'. -/
def fnExactRenameVarUptoCard : Claim7 := { stood := { row := fnExactRenameVarUptoRow, standIns := [], harness := (true, "3faf867d16de510d9f71218d3946e70445bbafcd7d89d56fca16d26715babd41"), looks := false }, kinds := [], alts := [], laidByText := true, laidKinds := [.data, .pinned], laidTests := true, laidLooks := .later }
def FnExactRenameVarUptoCardSaid : Prop := Claim7.holds Tryz.pinned (.plain (OpenSpec.upto fnExactRenameVarSpec)) fnExactRenameVarUptoCard

/-- THE SECOND FORM's CARD OF 'laws.FnExactReadProgram'. -/
def fnExactReadProgramUptoCard : Claim7 := { stood := { row := fnExactReadProgramUptoRow, standIns := [], harness := (true, "3faf867d16de510d9f71218d3946e70445bbafcd7d89d56fca16d26715babd41"), looks := false }, kinds := [], alts := [], laidByText := true, laidKinds := [.data, .pinned], laidTests := true, laidLooks := .later }
def FnExactReadProgramUptoCardSaid : Prop := Claim7.holds Tryz.pinned (.plain (OpenSpec.upto fnExactReadProgramSpec)) fnExactReadProgramUptoCard
end Rows
end Go.Proofs.YtnbodmohnkohfaaGreatDoor
