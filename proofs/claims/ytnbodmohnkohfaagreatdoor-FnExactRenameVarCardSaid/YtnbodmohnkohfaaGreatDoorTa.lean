/- Data types: cells, costs, facts. No condition beyond those named. -/
import Derived.Test.YtnbodmohnkohfaaGreatDoorFa0
namespace Go.Proofs.YtnbodmohnkohfaaGreatDoor.AW
open Go.RowKit
set_option maxHeartbeats 4000000
set_option maxRecDepth 100000
set_option linter.unusedSimpArgs false
set_option linter.unusedVariables false
theorem fNodeC0 : fo Tryz.prog 60 0 = some 0 := by kernel_rfl
theorem fNodeC1 : fo Tryz.prog 60 1 = some 1 := by kernel_rfl
theorem fNodeC2 : fo Tryz.prog 60 2 = some 2 := by kernel_rfl
theorem fNodeC3 : fo Tryz.prog 60 3 = some 3 := by kernel_rfl
theorem rNodeC : isR Tryz.prog 60 = some true := by kernel_rfl
theorem sNodeC : szT Tryz.prog 60 = 4 := by kernel_rfl
theorem zNodeC : zeroCells Tryz.prog 60 = some [.int .i64 0, .int .i64 0, .string ⟨#[]⟩, .slice none 0 0] := by kernel_rfl
theorem bNodeC : bytesT Tryz.prog 60 = 56 := by kernel_rfl
theorem plNodeC : placesT Tryz.prog 60 = some [(0, 1), (1, 1), (2, 1), (3, 1)] := by kernel_rfl
attribute [go_sem] fNodeC0 fNodeC1 fNodeC2 fNodeC3 rNodeC sNodeC zNodeC bNodeC plNodeC
theorem eNodeC : elT Tryz.prog 30 = some 60 := by kernel_rfl
theorem rSNodeC : isR Tryz.prog 30 = some false := by kernel_rfl
theorem sSNodeC : szT Tryz.prog 30 = 1 := by kernel_rfl
attribute [go_sem] eNodeC rSNodeC sSNodeC
theorem fNodeL0 : fo Tryz.prog 100 0 = some 0 := by kernel_rfl
theorem fNodeL1 : fo Tryz.prog 100 1 = some 1 := by kernel_rfl
theorem fNodeL2 : fo Tryz.prog 100 2 = some 2 := by kernel_rfl
theorem fNodeL3 : fo Tryz.prog 100 3 = some 3 := by kernel_rfl
theorem rNodeL : isR Tryz.prog 100 = some true := by kernel_rfl
theorem sNodeL : szT Tryz.prog 100 = 4 := by kernel_rfl
attribute [go_sem] fNodeL0 fNodeL1 fNodeL2 fNodeL3 rNodeL sNodeL
theorem eNodeL : elT Tryz.prog 22 = some 100 := by kernel_rfl
theorem rSNodeL : isR Tryz.prog 22 = some false := by kernel_rfl
theorem sSNodeL : szT Tryz.prog 22 = 1 := by kernel_rfl
attribute [go_sem] eNodeL rSNodeL sSNodeL
structure NodeD where
  kind : Int
  num : Int
  name : ByteArray
  kids : List Int
def nodeC (sh : Bool) (x : NodeD) : List D := [cI x.kind, cI x.num, cS x.name, .row sh 3 (row1 cI x.kids)]
def nodeW (x : NodeD) : V := .agg [.sc (.int .i64 x.kind), .sc (.int .i64 x.num), .sc (.string x.name), roI x.kids]
def nodeCost (x : NodeD) : Nat := x.name.size + x.kids.length
def nodeSmall (x : NodeD) : Prop := x.name.size < 1152921504606846976 ∧ x.kids.length < 1152921504606846976
theorem nodeC_sh (sh : Bool) : shF (nodeC sh) = nodeC true := by funext x; simp [shF, nodeC, shL, shD, cI, cS, cB, ints_sh, rows_sh]
theorem nodeC_noSh (x : NodeD) : noShL (nodeC false x) = true := by simp [nodeC, noShL, noSh, cI, cS, cB, ints_noSh]
attribute [go_sem] nodeC_sh nodeC_noSh
theorem nodeRows_noSh (l : List NodeD) : noShLL (rows (nodeC false) l) = true := rows_noSh nodeC_noSh l
attribute [go_sem] nodeRows_noSh
def nodeL (x : NodeD) : List D := [cI x.kind, cI x.num, cS x.name, .row true 3 (row1 cI x.kids)]
/-- To be looked at. -/
def nodeV (x : NodeD) : V := .agg [.sc (.int .i64 x.kind), .sc (.int .i64 x.num), .sc (.string x.name), roI x.kids]
theorem nodeL_sh : shF nodeL = nodeL := by funext x; simp [shF, nodeL, shL, shD, cI, cS, cB, ints_sh, rows_sh]
attribute [go_sem] nodeL_sh
theorem fParamC0 : fo Tryz.prog 86 0 = some 0 := by kernel_rfl
theorem fParamC1 : fo Tryz.prog 86 1 = some 1 := by kernel_rfl
theorem rParamC : isR Tryz.prog 86 = some true := by kernel_rfl
theorem sParamC : szT Tryz.prog 86 = 2 := by kernel_rfl
theorem zParamC : zeroCells Tryz.prog 86 = some [.string ⟨#[]⟩, .int .i64 0] := by kernel_rfl
theorem bParamC : bytesT Tryz.prog 86 = 24 := by kernel_rfl
theorem plParamC : placesT Tryz.prog 86 = some [(0, 1), (1, 1)] := by kernel_rfl
attribute [go_sem] fParamC0 fParamC1 rParamC sParamC zParamC bParamC plParamC
theorem eParamC : elT Tryz.prog 78 = some 86 := by kernel_rfl
theorem rSParamC : isR Tryz.prog 78 = some false := by kernel_rfl
theorem sSParamC : szT Tryz.prog 78 = 1 := by kernel_rfl
attribute [go_sem] eParamC rSParamC sSParamC
theorem fParamL0 : fo Tryz.prog 164 0 = some 0 := by kernel_rfl
theorem fParamL1 : fo Tryz.prog 164 1 = some 1 := by kernel_rfl
theorem rParamL : isR Tryz.prog 164 = some true := by kernel_rfl
theorem sParamL : szT Tryz.prog 164 = 2 := by kernel_rfl
attribute [go_sem] fParamL0 fParamL1 rParamL sParamL
theorem eParamL : elT Tryz.prog 102 = some 164 := by kernel_rfl
theorem rSParamL : isR Tryz.prog 102 = some false := by kernel_rfl
theorem sSParamL : szT Tryz.prog 102 = 1 := by kernel_rfl
attribute [go_sem] eParamL rSParamL sSParamL
structure ParamD where
  name : ByteArray
  ty : Int
def paramC (sh : Bool) (x : ParamD) : List D := [cS x.name, cI x.ty]
def paramW (x : ParamD) : V := .agg [.sc (.string x.name), .sc (.int .i64 x.ty)]
def paramCost (x : ParamD) : Nat := x.name.size
def paramSmall (x : ParamD) : Prop := x.name.size < 1152921504606846976
theorem paramC_sh (sh : Bool) : shF (paramC sh) = paramC true := by funext x; simp [shF, paramC, shL, shD, cI, cS, cB, ints_sh, rows_sh]
theorem paramC_noSh (x : ParamD) : noShL (paramC false x) = true := by simp [paramC, noShL, noSh, cI, cS, cB, ints_noSh]
attribute [go_sem] paramC_sh paramC_noSh
theorem paramRows_noSh (l : List ParamD) : noShLL (rows (paramC false) l) = true := rows_noSh paramC_noSh l
attribute [go_sem] paramRows_noSh
def paramL (x : ParamD) : List D := [cS x.name, cI x.ty]
/-- To be looked at. -/
def paramV (x : ParamD) : V := .agg [.sc (.string x.name), .sc (.int .i64 x.ty)]
theorem paramL_sh : shF paramL = paramL := by funext x; simp [shF, paramL, shL, shD, cI, cS, cB, ints_sh, rows_sh]
attribute [go_sem] paramL_sh
theorem fFnC0 : fo Tryz.prog 80 0 = some 0 := by kernel_rfl
theorem fFnC1 : fo Tryz.prog 80 1 = some 1 := by kernel_rfl
theorem fFnC2 : fo Tryz.prog 80 2 = some 2 := by kernel_rfl
theorem fFnC3 : fo Tryz.prog 80 3 = some 3 := by kernel_rfl
theorem fFnC4 : fo Tryz.prog 80 4 = some 4 := by kernel_rfl
theorem rFnC : isR Tryz.prog 80 = some true := by kernel_rfl
theorem sFnC : szT Tryz.prog 80 = 5 := by kernel_rfl
theorem zFnC : zeroCells Tryz.prog 80 = some [.string ⟨#[]⟩, .slice none 0 0, .int .i64 0, .int .i64 0, .int .i64 0] := by kernel_rfl
theorem bFnC : bytesT Tryz.prog 80 = 64 := by kernel_rfl
theorem plFnC : placesT Tryz.prog 80 = some [(0, 1), (1, 1), (2, 1), (3, 1), (4, 1)] := by kernel_rfl
attribute [go_sem] fFnC0 fFnC1 fFnC2 fFnC3 fFnC4 rFnC sFnC zFnC bFnC plFnC
theorem eFnC : elT Tryz.prog 31 = some 80 := by kernel_rfl
theorem rSFnC : isR Tryz.prog 31 = some false := by kernel_rfl
theorem sSFnC : szT Tryz.prog 31 = 1 := by kernel_rfl
attribute [go_sem] eFnC rSFnC sSFnC
theorem fFnL0 : fo Tryz.prog 104 0 = some 0 := by kernel_rfl
theorem fFnL1 : fo Tryz.prog 104 1 = some 1 := by kernel_rfl
theorem fFnL2 : fo Tryz.prog 104 2 = some 2 := by kernel_rfl
theorem fFnL3 : fo Tryz.prog 104 3 = some 3 := by kernel_rfl
theorem fFnL4 : fo Tryz.prog 104 4 = some 4 := by kernel_rfl
theorem rFnL : isR Tryz.prog 104 = some true := by kernel_rfl
theorem sFnL : szT Tryz.prog 104 = 5 := by kernel_rfl
attribute [go_sem] fFnL0 fFnL1 fFnL2 fFnL3 fFnL4 rFnL sFnL
theorem eFnL : elT Tryz.prog 23 = some 104 := by kernel_rfl
theorem rSFnL : isR Tryz.prog 23 = some false := by kernel_rfl
theorem sSFnL : szT Tryz.prog 23 = 1 := by kernel_rfl
attribute [go_sem] eFnL rSFnL sSFnL
structure FnD where
  name : ByteArray
  params : List ParamD
  res : Int
  body : Int
  ret : Int
def fnC (sh : Bool) (x : FnD) : List D := [cS x.name, .row sh 86 (rows (paramC sh) x.params), cI x.res, cI x.body, cI x.ret]
def fnW (x : FnD) : V := .agg [.sc (.string x.name), .imm 86 (rows (paramC true) x.params), .sc (.int .i64 x.res), .sc (.int .i64 x.body), .sc (.int .i64 x.ret)]
def fnCost (x : FnD) : Nat := x.name.size + (x.params.length + sumN paramCost x.params)
def fnSmall (x : FnD) : Prop := x.name.size < 1152921504606846976 ∧ x.params.length < 1152921504606846976 ∧ (∀ y ∈ x.params, paramSmall y)
theorem fnC_sh (sh : Bool) : shF (fnC sh) = fnC true := by funext x; simp [shF, fnC, shL, shD, cI, cS, cB, ints_sh, rows_sh, paramC_sh]
theorem fnC_noSh (x : FnD) : noShL (fnC false x) = true := by simp [fnC, noShL, noSh, cI, cS, cB, ints_noSh, rows_noSh paramC_noSh]
attribute [go_sem] fnC_sh fnC_noSh
theorem fnRows_noSh (l : List FnD) : noShLL (rows (fnC false) l) = true := rows_noSh fnC_noSh l
attribute [go_sem] fnRows_noSh
def fnL (x : FnD) : List D := [cS x.name, .row true 164 (rows paramL x.params), cI x.res, cI x.body, cI x.ret]
/-- To be looked at. -/
def fnV (x : FnD) : V := .agg [.sc (.string x.name), .imm 164 (rows paramL x.params), .sc (.int .i64 x.res), .sc (.int .i64 x.body), .sc (.int .i64 x.ret)]
theorem fnL_sh : shF fnL = fnL := by funext x; simp [shF, fnL, shL, shD, cI, cS, cB, ints_sh, rows_sh, paramL_sh]
attribute [go_sem] fnL_sh
theorem fProgramC0 : fo Tryz.prog 33 0 = some 0 := by kernel_rfl
theorem fProgramC1 : fo Tryz.prog 33 1 = some 1 := by kernel_rfl
theorem rProgramC : isR Tryz.prog 33 = some true := by kernel_rfl
theorem sProgramC : szT Tryz.prog 33 = 2 := by kernel_rfl
theorem zProgramC : zeroCells Tryz.prog 33 = some [.slice none 0 0, .slice none 0 0] := by kernel_rfl
theorem bProgramC : bytesT Tryz.prog 33 = 48 := by kernel_rfl
theorem plProgramC : placesT Tryz.prog 33 = some [(0, 1), (1, 1)] := by kernel_rfl
attribute [go_sem] fProgramC0 fProgramC1 rProgramC sProgramC zProgramC bProgramC plProgramC
theorem fProgramL0 : fo Tryz.prog 25 0 = some 0 := by kernel_rfl
theorem fProgramL1 : fo Tryz.prog 25 1 = some 1 := by kernel_rfl
theorem rProgramL : isR Tryz.prog 25 = some true := by kernel_rfl
theorem sProgramL : szT Tryz.prog 25 = 2 := by kernel_rfl
attribute [go_sem] fProgramL0 fProgramL1 rProgramL sProgramL
structure ProgramD where
  nodes : List NodeD
  fns : List FnD
def programC (sh : Bool) (x : ProgramD) : List D := [.row sh 60 (rows (nodeC sh) x.nodes), .row sh 80 (rows (fnC sh) x.fns)]
def programW (x : ProgramD) : V := .agg [.imm 60 (rows (nodeC true) x.nodes), .imm 80 (rows (fnC true) x.fns)]
def programCost (x : ProgramD) : Nat := (x.nodes.length + sumN nodeCost x.nodes) + (x.fns.length + sumN fnCost x.fns)
def programSmall (x : ProgramD) : Prop := x.nodes.length < 1152921504606846976 ∧ (∀ y ∈ x.nodes, nodeSmall y) ∧ x.fns.length < 1152921504606846976 ∧ (∀ y ∈ x.fns, fnSmall y)
theorem programC_sh (sh : Bool) : shF (programC sh) = programC true := by funext x; simp [shF, programC, shL, shD, cI, cS, cB, ints_sh, rows_sh, nodeC_sh, fnC_sh]
theorem programC_noSh (x : ProgramD) : noShL (programC false x) = true := by simp [programC, noShL, noSh, cI, cS, cB, ints_noSh, rows_noSh nodeC_noSh, rows_noSh fnC_noSh]
attribute [go_sem] programC_sh programC_noSh
theorem programRows_noSh (l : List ProgramD) : noShLL (rows (programC false) l) = true := rows_noSh programC_noSh l
attribute [go_sem] programRows_noSh
def programL (x : ProgramD) : List D := [.row true 100 (rows nodeL x.nodes), .row true 104 (rows fnL x.fns)]
/-- To be looked at. -/
def programV (x : ProgramD) : V := .agg [.imm 100 (rows nodeL x.nodes), .imm 104 (rows fnL x.fns)]
theorem programL_sh : shF programL = programL := by funext x; simp [shF, programL, shL, shD, cI, cS, cB, ints_sh, rows_sh, nodeL_sh, fnL_sh]
attribute [go_sem] programL_sh
theorem fVarC0 : fo Tryz.prog 107 0 = some 0 := by kernel_rfl
theorem fVarC1 : fo Tryz.prog 107 1 = some 1 := by kernel_rfl
theorem fVarC2 : fo Tryz.prog 107 2 = some 2 := by kernel_rfl
theorem rVarC : isR Tryz.prog 107 = some true := by kernel_rfl
theorem sVarC : szT Tryz.prog 107 = 3 := by kernel_rfl
theorem zVarC : zeroCells Tryz.prog 107 = some [.string ⟨#[]⟩, .int .i64 0, .int .i64 0] := by kernel_rfl
theorem bVarC : bytesT Tryz.prog 107 = 32 := by kernel_rfl
theorem plVarC : placesT Tryz.prog 107 = some [(0, 1), (1, 1), (2, 1)] := by kernel_rfl
attribute [go_sem] fVarC0 fVarC1 fVarC2 rVarC sVarC zVarC bVarC plVarC
theorem eVarC : elT Tryz.prog 53 = some 107 := by kernel_rfl
theorem rSVarC : isR Tryz.prog 53 = some false := by kernel_rfl
theorem sSVarC : szT Tryz.prog 53 = 1 := by kernel_rfl
attribute [go_sem] eVarC rSVarC sSVarC
structure VarD where
  name : ByteArray
  ty : Int
  node : Int
def varC (sh : Bool) (x : VarD) : List D := [cS x.name, cI x.ty, cI x.node]
def varW (x : VarD) : V := .agg [.sc (.string x.name), .sc (.int .i64 x.ty), .sc (.int .i64 x.node)]
def varCost (x : VarD) : Nat := x.name.size
def varSmall (x : VarD) : Prop := x.name.size < 1152921504606846976
theorem varC_sh (sh : Bool) : shF (varC sh) = varC true := by funext x; simp [shF, varC, shL, shD, cI, cS, cB, ints_sh, rows_sh]
theorem varC_noSh (x : VarD) : noShL (varC false x) = true := by simp [varC, noShL, noSh, cI, cS, cB, ints_noSh]
attribute [go_sem] varC_sh varC_noSh
theorem varRows_noSh (l : List VarD) : noShLL (rows (varC false) l) = true := rows_noSh varC_noSh l
attribute [go_sem] varRows_noSh
theorem fEffectC0 : fo Tryz.prog 65 0 = some 0 := by kernel_rfl
theorem fEffectC1 : fo Tryz.prog 65 1 = some 1 := by kernel_rfl
theorem rEffectC : isR Tryz.prog 65 = some true := by kernel_rfl
theorem sEffectC : szT Tryz.prog 65 = 2 := by kernel_rfl
theorem zEffectC : zeroCells Tryz.prog 65 = some [.string ⟨#[]⟩, .int .i64 0] := by kernel_rfl
theorem bEffectC : bytesT Tryz.prog 65 = 24 := by kernel_rfl
theorem plEffectC : placesT Tryz.prog 65 = some [(0, 1), (1, 1)] := by kernel_rfl
attribute [go_sem] fEffectC0 fEffectC1 rEffectC sEffectC zEffectC bEffectC plEffectC
theorem eEffectC : elT Tryz.prog 28 = some 65 := by kernel_rfl
theorem rSEffectC : isR Tryz.prog 28 = some false := by kernel_rfl
theorem sSEffectC : szT Tryz.prog 28 = 1 := by kernel_rfl
attribute [go_sem] eEffectC rSEffectC sSEffectC
structure EffectD where
  name : ByteArray
  bits : Int
def effectC (sh : Bool) (x : EffectD) : List D := [cS x.name, cI x.bits]
def effectW (x : EffectD) : V := .agg [.sc (.string x.name), .sc (.int .i64 x.bits)]
def effectCost (x : EffectD) : Nat := x.name.size
def effectSmall (x : EffectD) : Prop := x.name.size < 1152921504606846976
theorem effectC_sh (sh : Bool) : shF (effectC sh) = effectC true := by funext x; simp [shF, effectC, shL, shD, cI, cS, cB, ints_sh, rows_sh]
theorem effectC_noSh (x : EffectD) : noShL (effectC false x) = true := by simp [effectC, noShL, noSh, cI, cS, cB, ints_noSh]
attribute [go_sem] effectC_sh effectC_noSh
theorem effectRows_noSh (l : List EffectD) : noShLL (rows (effectC false) l) = true := rows_noSh effectC_noSh l
attribute [go_sem] effectRows_noSh
end Go.Proofs.YtnbodmohnkohfaaGreatDoor.AW
