/- Data types: cells, costs, facts. No condition beyond those named. -/
import Derived.Test.YtldniggehdpheaaFa0
namespace Go.Proofs.Ytldniggehdpheaa.AW
open Go.RowKit
set_option maxHeartbeats 4000000
set_option maxRecDepth 100000
set_option linter.unusedSimpArgs false
set_option linter.unusedVariables false
theorem fCellC0 : fo Try.prog 67 0 = some 0 := by kernel_rfl
theorem fCellC1 : fo Try.prog 67 1 = some 1 := by kernel_rfl
theorem rCellC : isR Try.prog 67 = some true := by kernel_rfl
theorem sCellC : szT Try.prog 67 = 2 := by kernel_rfl
theorem zCellC : zeroCells Try.prog 67 = some [.bool false, .int .i64 0] := by kernel_rfl
theorem bCellC : bytesT Try.prog 67 = 16 := by kernel_rfl
theorem plCellC : placesT Try.prog 67 = some [(0, 1), (1, 1)] := by kernel_rfl
attribute [go_sem] fCellC0 fCellC1 rCellC sCellC zCellC bCellC plCellC
theorem eCellC : elT Try.prog 24 = some 67 := by kernel_rfl
theorem rSCellC : isR Try.prog 24 = some false := by kernel_rfl
theorem sSCellC : szT Try.prog 24 = 1 := by kernel_rfl
attribute [go_sem] eCellC rSCellC sSCellC
structure CellD where
  live : Bool
  num : Int
def cellC (sh : Bool) (x : CellD) : List D := [cB x.live, cI x.num]
def cellW (x : CellD) : V := .agg [.sc (.bool x.live), .sc (.int .i64 x.num)]
def cellCost (x : CellD) : Nat := 0
def cellSmall (x : CellD) : Prop := True
theorem cellC_sh (sh : Bool) : shF (cellC sh) = cellC true := by funext x; simp [shF, cellC, shL, shD, cI, cS, cB, ints_sh, rows_sh]
theorem cellC_noSh (x : CellD) : noShL (cellC false x) = true := by simp [cellC, noShL, noSh, cI, cS, cB, ints_noSh]
attribute [go_sem] cellC_sh cellC_noSh
theorem cellRows_noSh (l : List CellD) : noShLL (rows (cellC false) l) = true := rows_noSh cellC_noSh l
attribute [go_sem] cellRows_noSh
theorem fValueC0 : fo Try.prog 32 0 = some 0 := by kernel_rfl
theorem fValueC1 : fo Try.prog 32 1 = some 1 := by kernel_rfl
theorem rValueC : isR Try.prog 32 = some true := by kernel_rfl
theorem sValueC : szT Try.prog 32 = 2 := by kernel_rfl
theorem zValueC : zeroCells Try.prog 32 = some [.int .i64 0, .int .i64 0] := by kernel_rfl
theorem bValueC : bytesT Try.prog 32 = 16 := by kernel_rfl
theorem plValueC : placesT Try.prog 32 = some [(0, 1), (1, 1)] := by kernel_rfl
attribute [go_sem] fValueC0 fValueC1 rValueC sValueC zValueC bValueC plValueC
structure ValueD where
  type : Int
  num : Int
def valueC (sh : Bool) (x : ValueD) : List D := [cI x.type, cI x.num]
def valueW (x : ValueD) : V := .agg [.sc (.int .i64 x.type), .sc (.int .i64 x.num)]
def valueCost (x : ValueD) : Nat := 0
def valueSmall (x : ValueD) : Prop := True
theorem valueC_sh (sh : Bool) : shF (valueC sh) = valueC true := by funext x; simp [shF, valueC, shL, shD, cI, cS, cB, ints_sh, rows_sh]
theorem valueC_noSh (x : ValueD) : noShL (valueC false x) = true := by simp [valueC, noShL, noSh, cI, cS, cB, ints_noSh]
attribute [go_sem] valueC_sh valueC_noSh
theorem valueRows_noSh (l : List ValueD) : noShLL (rows (valueC false) l) = true := rows_noSh valueC_noSh l
attribute [go_sem] valueRows_noSh
theorem fMemoryC0 : fo Try.prog 27 0 = some 0 := by kernel_rfl
theorem fMemoryC1 : fo Try.prog 27 1 = some 1 := by kernel_rfl
theorem fMemoryC2 : fo Try.prog 27 2 = some 2 := by kernel_rfl
theorem fMemoryC3 : fo Try.prog 27 3 = some 3 := by kernel_rfl
theorem fMemoryC4 : fo Try.prog 27 4 = some 4 := by kernel_rfl
theorem rMemoryC : isR Try.prog 27 = some true := by kernel_rfl
theorem sMemoryC : szT Try.prog 27 = 5 := by kernel_rfl
theorem zMemoryC : zeroCells Try.prog 27 = some [.slice none 0 0, .slice none 0 0, .slice none 0 0, .int .i64 0, .int .i64 0] := by kernel_rfl
theorem bMemoryC : bytesT Try.prog 27 = 88 := by kernel_rfl
theorem plMemoryC : placesT Try.prog 27 = some [(0, 1), (1, 1), (2, 1), (3, 1), (4, 1)] := by kernel_rfl
attribute [go_sem] fMemoryC0 fMemoryC1 fMemoryC2 fMemoryC3 fMemoryC4 rMemoryC sMemoryC zMemoryC bMemoryC plMemoryC
structure MemoryD where
  cells : List CellD
  input : List Int
  out : List Int
  fuel : Int
  bad : Int
def memoryC (sh : Bool) (x : MemoryD) : List D := [.row sh 67 (rows (cellC sh) x.cells), .row sh 3 (row1 cI x.input), .row sh 3 (row1 cI x.out), cI x.fuel, cI x.bad]
def memoryW (x : MemoryD) : V := .agg [.imm 67 (rows (cellC true) x.cells), roI x.input, roI x.out, .sc (.int .i64 x.fuel), .sc (.int .i64 x.bad)]
def memoryCost (x : MemoryD) : Nat := (x.cells.length + sumN cellCost x.cells) + x.input.length + x.out.length
def memorySmall (x : MemoryD) : Prop := x.cells.length < 1152921504606846976 ∧ (∀ y ∈ x.cells, cellSmall y) ∧ x.input.length < 1152921504606846976 ∧ x.out.length < 1152921504606846976
theorem memoryC_sh (sh : Bool) : shF (memoryC sh) = memoryC true := by funext x; simp [shF, memoryC, shL, shD, cI, cS, cB, ints_sh, rows_sh, cellC_sh]
theorem memoryC_noSh (x : MemoryD) : noShL (memoryC false x) = true := by simp [memoryC, noShL, noSh, cI, cS, cB, ints_noSh, rows_noSh cellC_noSh]
attribute [go_sem] memoryC_sh memoryC_noSh
theorem memoryRows_noSh (l : List MemoryD) : noShLL (rows (memoryC false) l) = true := rows_noSh memoryC_noSh l
attribute [go_sem] memoryRows_noSh
end Go.Proofs.Ytldniggehdpheaa.AW
