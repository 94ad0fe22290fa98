/-
  DERIVED. GIVEN WITH THE SEED: THE CARDS: each row of YtjjigphfjclofaaGreatDoorRows.lean that lists a variable, with what it lists TIED to the program's text (the seventh form; the later family's looks); each row that meets fmt, with fmt's text TOLD by the authors' own Lean function (tested against real Go, not proved from fmt's source: count such statements apart). THE CARD IS WHAT COUNTS. Prove the row's statement (the work); the ties are given (YtjjigphfjclofaaGreatDoorTie.lean); close each card by the builder's one call (the guide's Derived/Test/ToyasCard.lean, 'card_holds'). Laid BY PROGRAM, IN A SANDBOX (cutbox-door.mjs). By AI agents, Wed Nov 11 2026. No macro, syntax, notation, axiom, sorry.
-/
import Derived.Test.YtjjigphfjclofaaGreatDoorRows
import GoSem.ClaimSeven
namespace Go.Proofs.YtjjigphfjclofaaGreatDoor
namespace Rows

/-- THE TIED CARD OF 'laws.FnExactLower'. -/
def fnExactLowerCard : Claim7 := { stood := { row := fnExactLowerRow, standIns := [], harness := (true, "b030ab10bdf0fa3b43fde3c962dfcb6ef00d5d5018f7df2b571f7c2387c843d1"), looks := false }, kinds := [], alts := [], laidByText := true, laidKinds := [.data, .pinned], laidTests := true, laidLooks := .later }
def FnExactLowerCardSaid : Prop := Claim7.holds Tryz.pinned (.plain (OpenSpec.ofChange fnExactLowerSpec)) fnExactLowerCard

/-- THE TIED CARD OF 'laws.FnExactLowerAll'. -/
def fnExactLowerAllCard : Claim7 := { stood := { row := fnExactLowerAllRow, standIns := [], harness := (true, "b030ab10bdf0fa3b43fde3c962dfcb6ef00d5d5018f7df2b571f7c2387c843d1"), looks := false }, kinds := [], alts := [], laidByText := true, laidKinds := [.data, .pinned], laidTests := true, laidLooks := .later }
def FnExactLowerAllCardSaid : Prop := Claim7.holds Tryz.pinned (.plain (OpenSpec.ofChange fnExactLowerAllSpec)) fnExactLowerAllCard

/-- THE TIED CARD OF 'laws.FnExactExtractVar'. -/
def fnExactExtractVarCard : Claim7 := { stood := { row := fnExactExtractVarRow, standIns := [], harness := (true, "b030ab10bdf0fa3b43fde3c962dfcb6ef00d5d5018f7df2b571f7c2387c843d1"), looks := false }, kinds := [], alts := [], laidByText := true, laidKinds := [.data, .pinned], laidTests := true, laidLooks := .later }
def FnExactExtractVarCardSaid : Prop := Claim7.holds Tryz.pinned (.plain (OpenSpec.ofChange fnExactExtractVarSpec)) fnExactExtractVarCard

/-- THE TIED CARD OF 'laws.FnExactInlineVar'. -/
def fnExactInlineVarCard : Claim7 := { stood := { row := fnExactInlineVarRow, standIns := [], harness := (true, "b030ab10bdf0fa3b43fde3c962dfcb6ef00d5d5018f7df2b571f7c2387c843d1"), looks := false }, kinds := [], alts := [], laidByText := true, laidKinds := [.data, .pinned], laidTests := true, laidLooks := .later }
def FnExactInlineVarCardSaid : Prop := Claim7.holds Tryz.pinned (.plain (OpenSpec.ofChange fnExactInlineVarSpec)) fnExactInlineVarCard

/-- THE TIED CARD OF 'laws.FnExactInlineCall'. -/
def fnExactInlineCallCard : Claim7 := { stood := { row := fnExactInlineCallRow, standIns := [], harness := (true, "b030ab10bdf0fa3b43fde3c962dfcb6ef00d5d5018f7df2b571f7c2387c843d1"), looks := false }, kinds := [], alts := [], laidByText := true, laidKinds := [.data, .pinned], laidTests := true, laidLooks := .later }
def FnExactInlineCallCardSaid : Prop := Claim7.holds Tryz.pinned (.plain (OpenSpec.ofChange fnExactInlineCallSpec)) fnExactInlineCallCard

/-- THE TIED CARD OF 'laws.FnExactExtractFn'. -/
def fnExactExtractFnCard : Claim7 := { stood := { row := fnExactExtractFnRow, standIns := [], harness := (true, "b030ab10bdf0fa3b43fde3c962dfcb6ef00d5d5018f7df2b571f7c2387c843d1"), looks := false }, kinds := [], alts := [], laidByText := true, laidKinds := [.data, .pinned], laidTests := true, laidLooks := .later }
def FnExactExtractFnCardSaid : Prop := Claim7.holds Tryz.pinned (.plain (OpenSpec.ofChange fnExactExtractFnSpec)) fnExactExtractFnCard

/-- THE SECOND FORM's CARD OF 'laws.FnExactLower'. -/
def fnExactLowerUptoCard : Claim7 := { stood := { row := fnExactLowerUptoRow, standIns := [], harness := (true, "b030ab10bdf0fa3b43fde3c962dfcb6ef00d5d5018f7df2b571f7c2387c843d1"), looks := false }, kinds := [], alts := [], laidByText := true, laidKinds := [.data, .pinned], laidTests := true, laidLooks := .later }
def FnExactLowerUptoCardSaid : Prop := Claim7.holds Tryz.pinned (.plain (OpenSpec.upto fnExactLowerSpec)) fnExactLowerUptoCard

/-- THE SECOND FORM's CARD OF 'laws.FnExactLowerAll'. -/
def fnExactLowerAllUptoCard : Claim7 := { stood := { row := fnExactLowerAllUptoRow, standIns := [], harness := (true, "b030ab10bdf0fa3b43fde3c962dfcb6ef00d5d5018f7df2b571f7c2387c843d1"), looks := false }, kinds := [], alts := [], laidByText := true, laidKinds := [.data, .pinned], laidTests := true, laidLooks := .later }
def FnExactLowerAllUptoCardSaid : Prop := Claim7.holds Tryz.pinned (.plain (OpenSpec.upto fnExactLowerAllSpec)) fnExactLowerAllUptoCard

/-- THE SECOND FORM's CARD OF 'laws.FnExactExtractVar'. -/
def fnExactExtractVarUptoCard : Claim7 := { stood := { row := fnExactExtractVarUptoRow, standIns := [], harness := (true, "b030ab10bdf0fa3b43fde3c962dfcb6ef00d5d5018f7df2b571f7c2387c843d1"), looks := false }, kinds := [], alts := [], laidByText := true, laidKinds := [.data, .pinned], laidTests := true, laidLooks := .later }
def FnExactExtractVarUptoCardSaid : Prop := Claim7.holds Tryz.pinned (.plain (OpenSpec.upto fnExactExtractVarSpec)) fnExactExtractVarUptoCard

/-- THE SECOND FORM's CARD OF 'laws.FnExactInlineVar'. -/
def fnExactInlineVarUptoCard : Claim7 := { stood := { row := fnExactInlineVarUptoRow, standIns := [], harness := (true, "b030ab10bdf0fa3b43fde3c962dfcb6ef00d5d5018f7df2b571f7c2387c843d1"), looks := false }, kinds := [], alts := [], laidByText := true, laidKinds := [.data, .pinned], laidTests := true, laidLooks := .later }
def FnExactInlineVarUptoCardSaid : Prop := Claim7.holds Tryz.pinned (.plain (OpenSpec.upto fnExactInlineVarSpec)) fnExactInlineVarUptoCard

/-- THE SECOND FORM's CARD OF 'laws.FnExactInlineCall'. -/
def fnExactInlineCallUptoCard : Claim7 := { stood := { row := fnExactInlineCallUptoRow, standIns := [], harness := (true, "b030ab10bdf0fa3b43fde3c962dfcb6ef00d5d5018f7df2b571f7c2387c843d1"), looks := false }, kinds := [], alts := [], laidByText := true, laidKinds := [.data, .pinned], laidTests := true, laidLooks := .later }
def FnExactInlineCallUptoCardSaid : Prop := Claim7.holds Tryz.pinned (.plain (OpenSpec.upto fnExactInlineCallSpec)) fnExactInlineCallUptoCard

/-- THE SECOND FORM's CARD OF 'laws.FnExactExtractFn'. -/
def fnExactExtractFnUptoCard : Claim7 := { stood := { row := fnExactExtractFnUptoRow, standIns := [], harness := (true, "b030ab10bdf0fa3b43fde3c962dfcb6ef00d5d5018f7df2b571f7c2387c843d1"), looks := false }, kinds := [], alts := [], laidByText := true, laidKinds := [.data, .pinned], laidTests := true, laidLooks := .later }
def FnExactExtractFnUptoCardSaid : Prop := Claim7.holds Tryz.pinned (.plain (OpenSpec.upto fnExactExtractFnSpec)) fnExactExtractFnUptoCard
end Rows
end Go.Proofs.YtjjigphfjclofaaGreatDoor
