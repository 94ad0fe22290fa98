/- Data types: cells, costs, facts. No condition beyond those named. -/
import Derived.Test.YtaodmogcjpainaaDoorFa0
namespace Go.Proofs.YtaodmogcjpainaaDoor.AW
open Go.RowKit
set_option maxHeartbeats 4000000
set_option maxRecDepth 100000
set_option linter.unusedSimpArgs false
set_option linter.unusedVariables false
theorem fNodeC0 : fo Tryd.prog 51 0 = some 0 := by kernel_rfl
theorem fNodeC1 : fo Tryd.prog 51 1 = some 1 := by kernel_rfl
theorem fNodeC2 : fo Tryd.prog 51 2 = some 2 := by kernel_rfl
theorem fNodeC3 : fo Tryd.prog 51 3 = some 3 := by kernel_rfl
theorem rNodeC : isR Tryd.prog 51 = some true := by kernel_rfl
theorem sNodeC : szT Tryd.prog 51 = 4 := by kernel_rfl
theorem zNodeC : zeroCells Tryd.prog 51 = some [.int .i64 0, .int .i64 0, .string ⟨#[]⟩, .slice none 0 0] := by kernel_rfl
theorem bNodeC : bytesT Tryd.prog 51 = 56 := by kernel_rfl
theorem plNodeC : placesT Tryd.prog 51 = some [(0, 1), (1, 1), (2, 1), (3, 1)] := by kernel_rfl
attribute [go_sem] fNodeC0 fNodeC1 fNodeC2 fNodeC3 rNodeC sNodeC zNodeC bNodeC plNodeC
theorem eNodeC : elT Tryd.prog 28 = some 51 := by kernel_rfl
theorem rSNodeC : isR Tryd.prog 28 = some false := by kernel_rfl
theorem sSNodeC : szT Tryd.prog 28 = 1 := by kernel_rfl
attribute [go_sem] eNodeC rSNodeC sSNodeC
theorem fNodeL0 : fo Tryd.prog 59 0 = some 0 := by kernel_rfl
theorem fNodeL1 : fo Tryd.prog 59 1 = some 1 := by kernel_rfl
theorem fNodeL2 : fo Tryd.prog 59 2 = some 2 := by kernel_rfl
theorem fNodeL3 : fo Tryd.prog 59 3 = some 3 := by kernel_rfl
theorem rNodeL : isR Tryd.prog 59 = some true := by kernel_rfl
theorem sNodeL : szT Tryd.prog 59 = 4 := by kernel_rfl
attribute [go_sem] fNodeL0 fNodeL1 fNodeL2 fNodeL3 rNodeL sNodeL
theorem eNodeL : elT Tryd.prog 22 = some 59 := by kernel_rfl
theorem rSNodeL : isR Tryd.prog 22 = some false := by kernel_rfl
theorem sSNodeL : szT Tryd.prog 22 = 1 := by kernel_rfl
attribute [go_sem] eNodeL rSNodeL sSNodeL
structure NodeD where
  kind : Int
  num : Int
  name : ByteArray
  kids : List Int
def nodeC (sh : Bool) (x : NodeD) : List D := [cI x.kind, cI x.num, cS x.name, .row sh 3 (row1 cI x.kids)]
def nodeW (x : NodeD) : V := .agg [.sc (.int .i64 x.kind), .sc (.int .i64 x.num), .sc (.string x.name), roI x.kids]
def nodeCost (x : NodeD) : Nat := x.name.size + x.kids.length
def nodeSmall (x : NodeD) : Prop := x.name.size < 1152921504606846976 ∧ x.kids.length < 1152921504606846976
theorem nodeC_sh (sh : Bool) : shF (nodeC sh) = nodeC true := by funext x; simp [shF, nodeC, shL, shD, cI, cS, cB, ints_sh, rows_sh]
theorem nodeC_noSh (x : NodeD) : noShL (nodeC false x) = true := by simp [nodeC, noShL, noSh, cI, cS, cB, ints_noSh]
attribute [go_sem] nodeC_sh nodeC_noSh
theorem nodeRows_noSh (l : List NodeD) : noShLL (rows (nodeC false) l) = true := rows_noSh nodeC_noSh l
attribute [go_sem] nodeRows_noSh
def nodeL (x : NodeD) : List D := [cI x.kind, cI x.num, cS x.name, .row true 3 (row1 cI x.kids)]
/-- To be looked at. -/
def nodeV (x : NodeD) : V := .agg [.sc (.int .i64 x.kind), .sc (.int .i64 x.num), .sc (.string x.name), roI x.kids]
theorem nodeL_sh : shF nodeL = nodeL := by funext x; simp [shF, nodeL, shL, shD, cI, cS, cB, ints_sh, rows_sh]
attribute [go_sem] nodeL_sh
theorem fParamC0 : fo Tryd.prog 87 0 = some 0 := by kernel_rfl
theorem fParamC1 : fo Tryd.prog 87 1 = some 1 := by kernel_rfl
theorem rParamC : isR Tryd.prog 87 = some true := by kernel_rfl
theorem sParamC : szT Tryd.prog 87 = 2 := by kernel_rfl
theorem zParamC : zeroCells Tryd.prog 87 = some [.string ⟨#[]⟩, .int .i64 0] := by kernel_rfl
theorem bParamC : bytesT Tryd.prog 87 = 24 := by kernel_rfl
theorem plParamC : placesT Tryd.prog 87 = some [(0, 1), (1, 1)] := by kernel_rfl
attribute [go_sem] fParamC0 fParamC1 rParamC sParamC zParamC bParamC plParamC
theorem eParamC : elT Tryd.prog 53 = some 87 := by kernel_rfl
theorem rSParamC : isR Tryd.prog 53 = some false := by kernel_rfl
theorem sSParamC : szT Tryd.prog 53 = 1 := by kernel_rfl
attribute [go_sem] eParamC rSParamC sSParamC
theorem fParamL0 : fo Tryd.prog 83 0 = some 0 := by kernel_rfl
theorem fParamL1 : fo Tryd.prog 83 1 = some 1 := by kernel_rfl
theorem rParamL : isR Tryd.prog 83 = some true := by kernel_rfl
theorem sParamL : szT Tryd.prog 83 = 2 := by kernel_rfl
attribute [go_sem] fParamL0 fParamL1 rParamL sParamL
theorem eParamL : elT Tryd.prog 61 = some 83 := by kernel_rfl
theorem rSParamL : isR Tryd.prog 61 = some false := by kernel_rfl
theorem sSParamL : szT Tryd.prog 61 = 1 := by kernel_rfl
attribute [go_sem] eParamL rSParamL sSParamL
structure ParamD where
  name : ByteArray
  ty : Int
def paramC (sh : Bool) (x : ParamD) : List D := [cS x.name, cI x.ty]
def paramW (x : ParamD) : V := .agg [.sc (.string x.name), .sc (.int .i64 x.ty)]
def paramCost (x : ParamD) : Nat := x.name.size
def paramSmall (x : ParamD) : Prop := x.name.size < 1152921504606846976
theorem paramC_sh (sh : Bool) : shF (paramC sh) = paramC true := by funext x; simp [shF, paramC, shL, shD, cI, cS, cB, ints_sh, rows_sh]
theorem paramC_noSh (x : ParamD) : noShL (paramC false x) = true := by simp [paramC, noShL, noSh, cI, cS, cB, ints_noSh]
attribute [go_sem] paramC_sh paramC_noSh
theorem paramRows_noSh (l : List ParamD) : noShLL (rows (paramC false) l) = true := rows_noSh paramC_noSh l
attribute [go_sem] paramRows_noSh
def paramL (x : ParamD) : List D := [cS x.name, cI x.ty]
/-- To be looked at. -/
def paramV (x : ParamD) : V := .agg [.sc (.string x.name), .sc (.int .i64 x.ty)]
theorem paramL_sh : shF paramL = paramL := by funext x; simp [shF, paramL, shL, shD, cI, cS, cB, ints_sh, rows_sh]
attribute [go_sem] paramL_sh
theorem fFnC0 : fo Tryd.prog 55 0 = some 0 := by kernel_rfl
theorem fFnC1 : fo Tryd.prog 55 1 = some 1 := by kernel_rfl
theorem fFnC2 : fo Tryd.prog 55 2 = some 2 := by kernel_rfl
theorem fFnC3 : fo Tryd.prog 55 3 = some 3 := by kernel_rfl
theorem fFnC4 : fo Tryd.prog 55 4 = some 4 := by kernel_rfl
theorem rFnC : isR Tryd.prog 55 = some true := by kernel_rfl
theorem sFnC : szT Tryd.prog 55 = 5 := by kernel_rfl
theorem zFnC : zeroCells Tryd.prog 55 = some [.string ⟨#[]⟩, .slice none 0 0, .int .i64 0, .int .i64 0, .int .i64 0] := by kernel_rfl
theorem bFnC : bytesT Tryd.prog 55 = 64 := by kernel_rfl
theorem plFnC : placesT Tryd.prog 55 = some [(0, 1), (1, 1), (2, 1), (3, 1), (4, 1)] := by kernel_rfl
attribute [go_sem] fFnC0 fFnC1 fFnC2 fFnC3 fFnC4 rFnC sFnC zFnC bFnC plFnC
theorem eFnC : elT Tryd.prog 29 = some 55 := by kernel_rfl
theorem rSFnC : isR Tryd.prog 29 = some false := by kernel_rfl
theorem sSFnC : szT Tryd.prog 29 = 1 := by kernel_rfl
attribute [go_sem] eFnC rSFnC sSFnC
theorem fFnL0 : fo Tryd.prog 63 0 = some 0 := by kernel_rfl
theorem fFnL1 : fo Tryd.prog 63 1 = some 1 := by kernel_rfl
theorem fFnL2 : fo Tryd.prog 63 2 = some 2 := by kernel_rfl
theorem fFnL3 : fo Tryd.prog 63 3 = some 3 := by kernel_rfl
theorem fFnL4 : fo Tryd.prog 63 4 = some 4 := by kernel_rfl
theorem rFnL : isR Tryd.prog 63 = some true := by kernel_rfl
theorem sFnL : szT Tryd.prog 63 = 5 := by kernel_rfl
attribute [go_sem] fFnL0 fFnL1 fFnL2 fFnL3 fFnL4 rFnL sFnL
theorem eFnL : elT Tryd.prog 23 = some 63 := by kernel_rfl
theorem rSFnL : isR Tryd.prog 23 = some false := by kernel_rfl
theorem sSFnL : szT Tryd.prog 23 = 1 := by kernel_rfl
attribute [go_sem] eFnL rSFnL sSFnL
structure FnD where
  name : ByteArray
  params : List ParamD
  res : Int
  body : Int
  ret : Int
def fnC (sh : Bool) (x : FnD) : List D := [cS x.name, .row sh 87 (rows (paramC sh) x.params), cI x.res, cI x.body, cI x.ret]
def fnW (x : FnD) : V := .agg [.sc (.string x.name), .imm 87 (rows (paramC true) x.params), .sc (.int .i64 x.res), .sc (.int .i64 x.body), .sc (.int .i64 x.ret)]
def fnCost (x : FnD) : Nat := x.name.size + (x.params.length + sumN paramCost x.params)
def fnSmall (x : FnD) : Prop := x.name.size < 1152921504606846976 ∧ x.params.length < 1152921504606846976 ∧ (∀ y ∈ x.params, paramSmall y)
theorem fnC_sh (sh : Bool) : shF (fnC sh) = fnC true := by funext x; simp [shF, fnC, shL, shD, cI, cS, cB, ints_sh, rows_sh, paramC_sh]
theorem fnC_noSh (x : FnD) : noShL (fnC false x) = true := by simp [fnC, noShL, noSh, cI, cS, cB, ints_noSh, rows_noSh paramC_noSh]
attribute [go_sem] fnC_sh fnC_noSh
theorem fnRows_noSh (l : List FnD) : noShLL (rows (fnC false) l) = true := rows_noSh fnC_noSh l
attribute [go_sem] fnRows_noSh
def fnL (x : FnD) : List D := [cS x.name, .row true 83 (rows paramL x.params), cI x.res, cI x.body, cI x.ret]
/-- To be looked at. -/
def fnV (x : FnD) : V := .agg [.sc (.string x.name), .imm 83 (rows paramL x.params), .sc (.int .i64 x.res), .sc (.int .i64 x.body), .sc (.int .i64 x.ret)]
theorem fnL_sh : shF fnL = fnL := by funext x; simp [shF, fnL, shL, shD, cI, cS, cB, ints_sh, rows_sh, paramL_sh]
attribute [go_sem] fnL_sh
theorem fProgramC0 : fo Tryd.prog 31 0 = some 0 := by kernel_rfl
theorem fProgramC1 : fo Tryd.prog 31 1 = some 1 := by kernel_rfl
theorem rProgramC : isR Tryd.prog 31 = some true := by kernel_rfl
theorem sProgramC : szT Tryd.prog 31 = 2 := by kernel_rfl
theorem zProgramC : zeroCells Tryd.prog 31 = some [.slice none 0 0, .slice none 0 0] := by kernel_rfl
theorem bProgramC : bytesT Tryd.prog 31 = 48 := by kernel_rfl
theorem plProgramC : placesT Tryd.prog 31 = some [(0, 1), (1, 1)] := by kernel_rfl
attribute [go_sem] fProgramC0 fProgramC1 rProgramC sProgramC zProgramC bProgramC plProgramC
theorem fProgramL0 : fo Tryd.prog 25 0 = some 0 := by kernel_rfl
theorem fProgramL1 : fo Tryd.prog 25 1 = some 1 := by kernel_rfl
theorem rProgramL : isR Tryd.prog 25 = some true := by kernel_rfl
theorem sProgramL : szT Tryd.prog 25 = 2 := by kernel_rfl
attribute [go_sem] fProgramL0 fProgramL1 rProgramL sProgramL
structure ProgramD where
  nodes : List NodeD
  fns : List FnD
def programC (sh : Bool) (x : ProgramD) : List D := [.row sh 51 (rows (nodeC sh) x.nodes), .row sh 55 (rows (fnC sh) x.fns)]
def programW (x : ProgramD) : V := .agg [.imm 51 (rows (nodeC true) x.nodes), .imm 55 (rows (fnC true) x.fns)]
def programCost (x : ProgramD) : Nat := (x.nodes.length + sumN nodeCost x.nodes) + (x.fns.length + sumN fnCost x.fns)
def programSmall (x : ProgramD) : Prop := x.nodes.length < 1152921504606846976 ∧ (∀ y ∈ x.nodes, nodeSmall y) ∧ x.fns.length < 1152921504606846976 ∧ (∀ y ∈ x.fns, fnSmall y)
theorem programC_sh (sh : Bool) : shF (programC sh) = programC true := by funext x; simp [shF, programC, shL, shD, cI, cS, cB, ints_sh, rows_sh, nodeC_sh, fnC_sh]
theorem programC_noSh (x : ProgramD) : noShL (programC false x) = true := by simp [programC, noShL, noSh, cI, cS, cB, ints_noSh, rows_noSh nodeC_noSh, rows_noSh fnC_noSh]
attribute [go_sem] programC_sh programC_noSh
theorem programRows_noSh (l : List ProgramD) : noShLL (rows (programC false) l) = true := rows_noSh programC_noSh l
attribute [go_sem] programRows_noSh
def programL (x : ProgramD) : List D := [.row true 59 (rows nodeL x.nodes), .row true 63 (rows fnL x.fns)]
/-- To be looked at. -/
def programV (x : ProgramD) : V := .agg [.imm 59 (rows nodeL x.nodes), .imm 63 (rows fnL x.fns)]
theorem programL_sh : shF programL = programL := by funext x; simp [shF, programL, shL, shD, cI, cS, cB, ints_sh, rows_sh, nodeL_sh, fnL_sh]
attribute [go_sem] programL_sh
end Go.Proofs.YtaodmogcjpainaaDoor.AW
