/-
  DERIVED. GIVEN WITH THE SEED: THE CARDS: each row of YtnbodmohnkohfaaDoorRows.lean that lists a variable, with what it lists TIED to the program's text (the seventh form; the later family's looks); each row that meets fmt, with fmt's text TOLD by the authors' own Lean function (tested against real Go, not proved from fmt's source: count such statements apart). THE CARD IS WHAT COUNTS. Prove the row's statement (the work); the ties are given (YtnbodmohnkohfaaDoorTie.lean); close each card by the builder's one call (the guide's Derived/Test/ToyasCard.lean, 'card_holds'). Laid BY PROGRAM, IN A SANDBOX (cutbox-door.mjs). By AI agents, Wed Nov 11 2026. No macro, syntax, notation, axiom, sorry.
-/
import Derived.Test.YtnbodmohnkohfaaDoorRows
import GoSem.ClaimSeven
namespace Go.Proofs.YtnbodmohnkohfaaDoor
namespace Rows

/-- THE TIED CARD OF 'laws.FnExactLiveAt'. -/
def fnExactLiveAtCard : Claim7 := { stood := { row := fnExactLiveAtRow, standIns := [], harness := (true, "8deb42da6f907fca215dde2214b8051dea37a4b56872c719d1390690f96e7a50"), looks := false }, kinds := [], alts := [], laidByText := true, laidKinds := [.data, .pinned], laidTests := true, laidLooks := .later }
def FnExactLiveAtCardSaid : Prop := Claim7.holds Tryd.pinned (.plain (OpenSpec.ofChange fnExactLiveAtSpec)) fnExactLiveAtCard

/-- THE SECOND FORM's CARD OF 'laws.FnExactLiveAt'. -/
def fnExactLiveAtUptoCard : Claim7 := { stood := { row := fnExactLiveAtUptoRow, standIns := [], harness := (true, "8deb42da6f907fca215dde2214b8051dea37a4b56872c719d1390690f96e7a50"), looks := false }, kinds := [], alts := [], laidByText := true, laidKinds := [.data, .pinned], laidTests := true, laidLooks := .later }
def FnExactLiveAtUptoCardSaid : Prop := Claim7.holds Tryd.pinned (.plain (OpenSpec.upto fnExactLiveAtSpec)) fnExactLiveAtUptoCard
end Rows
end Go.Proofs.YtnbodmohnkohfaaDoor
