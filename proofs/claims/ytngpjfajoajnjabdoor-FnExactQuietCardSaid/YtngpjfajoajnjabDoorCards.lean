/-
  DERIVED. GIVEN WITH THE SEED: THE CARDS: each row of YtngpjfajoajnjabDoorRows.lean that lists a variable, with what it lists TIED to the program's text (the seventh form; the later family's looks); each row that meets fmt, with fmt's text TOLD by the authors' own Lean function (tested against real Go, not proved from fmt's source: count such statements apart). THE CARD IS WHAT COUNTS. Prove the row's statement (the work); the ties are given (YtngpjfajoajnjabDoorTie.lean); close each card by the builder's one call (the guide's Derived/Test/ToyasCard.lean, 'card_holds'). Laid BY PROGRAM, IN A SANDBOX (cutbox-door.mjs). By AI agents, Wed Nov 11 2026. No macro, syntax, notation, axiom, sorry.
-/
import Derived.Test.YtngpjfajoajnjabDoorRows
import GoSem.ClaimSeven
namespace Go.Proofs.YtngpjfajoajnjabDoor
namespace Rows

/-- THE TIED CARD OF 'laws.FnExactQuiet'. -/
def fnExactQuietCard : Claim7 := { stood := { row := fnExactQuietRow, standIns := [], harness := (true, "5a5a46f76dff998d4128e48da3918ea6ad26aa3560f236f5735666e4eb8910c3"), looks := false }, kinds := [], alts := [], laidByText := true, laidKinds := [.data, .pinned], laidTests := true, laidLooks := .later }
def FnExactQuietCardSaid : Prop := Claim7.holds Tryd.pinned (.plain (OpenSpec.ofChange fnExactQuietSpec)) fnExactQuietCard

/-- THE SECOND FORM's CARD OF 'laws.FnExactQuiet'. -/
def fnExactQuietUptoCard : Claim7 := { stood := { row := fnExactQuietUptoRow, standIns := [], harness := (true, "5a5a46f76dff998d4128e48da3918ea6ad26aa3560f236f5735666e4eb8910c3"), looks := false }, kinds := [], alts := [], laidByText := true, laidKinds := [.data, .pinned], laidTests := true, laidLooks := .later }
def FnExactQuietUptoCardSaid : Prop := Claim7.holds Tryd.pinned (.plain (OpenSpec.upto fnExactQuietSpec)) fnExactQuietUptoCard
end Rows
end Go.Proofs.YtngpjfajoajnjabDoor
