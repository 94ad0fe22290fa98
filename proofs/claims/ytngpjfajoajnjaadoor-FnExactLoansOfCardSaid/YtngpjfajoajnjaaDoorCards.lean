/-
  DERIVED. GIVEN WITH THE SEED: THE CARDS: each row of YtngpjfajoajnjaaDoorRows.lean that lists a variable, with what it lists TIED to the program's text (the seventh form; the later family's looks); each row that meets fmt, with fmt's text TOLD by the authors' own Lean function (tested against real Go, not proved from fmt's source: count such statements apart). THE CARD IS WHAT COUNTS. Prove the row's statement (the work); the ties are given (YtngpjfajoajnjaaDoorTie.lean); close each card by the builder's one call (the guide's Derived/Test/ToyasCard.lean, 'card_holds'). Laid BY PROGRAM, IN A SANDBOX (cutbox-door.mjs). By AI agents, Wed Nov 11 2026. No macro, syntax, notation, axiom, sorry.
-/
import Derived.Test.YtngpjfajoajnjaaDoorRows
import GoSem.ClaimSeven
namespace Go.Proofs.YtngpjfajoajnjaaDoor
namespace Rows

/-- THE TIED CARD OF 'laws.FnExactLoansOf'. -/
def fnExactLoansOfCard : Claim7 := { stood := { row := fnExactLoansOfRow, standIns := [], harness := (true, "4803d17345f5ad0a9e684607498f3dc102538e1eaba5c04ab45ceeb195eb9fa4"), looks := false }, kinds := [], alts := [], laidByText := true, laidKinds := [.data, .pinned], laidTests := true, laidLooks := .later }
def FnExactLoansOfCardSaid : Prop := Claim7.holds Tryd.pinned (.plain (OpenSpec.ofChange fnExactLoansOfSpec)) fnExactLoansOfCard

/-- THE SECOND FORM's CARD OF 'laws.FnExactLoansOf'. -/
def fnExactLoansOfUptoCard : Claim7 := { stood := { row := fnExactLoansOfUptoRow, standIns := [], harness := (true, "4803d17345f5ad0a9e684607498f3dc102538e1eaba5c04ab45ceeb195eb9fa4"), looks := false }, kinds := [], alts := [], laidByText := true, laidKinds := [.data, .pinned], laidTests := true, laidLooks := .later }
def FnExactLoansOfUptoCardSaid : Prop := Claim7.holds Tryd.pinned (.plain (OpenSpec.upto fnExactLoansOfSpec)) fnExactLoansOfUptoCard
end Rows
end Go.Proofs.YtngpjfajoajnjaaDoor
