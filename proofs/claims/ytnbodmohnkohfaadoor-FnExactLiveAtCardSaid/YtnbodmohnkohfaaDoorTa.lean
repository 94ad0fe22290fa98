/- Data types: cells, costs, facts. No condition beyond those named. -/
import Derived.Test.YtnbodmohnkohfaaDoorFa0
namespace Go.Proofs.YtnbodmohnkohfaaDoor.AW
open Go.RowKit
set_option maxHeartbeats 4000000
set_option maxRecDepth 100000
set_option linter.unusedSimpArgs false
set_option linter.unusedVariables false
theorem fInsC0 : fo Tryd.prog 45 0 = some 0 := by kernel_rfl
theorem fInsC1 : fo Tryd.prog 45 1 = some 1 := by kernel_rfl
theorem fInsC2 : fo Tryd.prog 45 2 = some 2 := by kernel_rfl
theorem fInsC3 : fo Tryd.prog 45 3 = some 3 := by kernel_rfl
theorem fInsC4 : fo Tryd.prog 45 4 = some 4 := by kernel_rfl
theorem fInsC5 : fo Tryd.prog 45 5 = some 5 := by kernel_rfl
theorem fInsC6 : fo Tryd.prog 45 6 = some 6 := by kernel_rfl
theorem rInsC : isR Tryd.prog 45 = some true := by kernel_rfl
theorem sInsC : szT Tryd.prog 45 = 7 := by kernel_rfl
theorem zInsC : zeroCells Tryd.prog 45 = some [.int .i64 0, .int .i64 0, .int .i64 0, .int .i64 0, .int .i64 0, .string ⟨#[]⟩, .slice none 0 0] := by kernel_rfl
theorem bInsC : bytesT Tryd.prog 45 = 80 := by kernel_rfl
theorem plInsC : placesT Tryd.prog 45 = some [(0, 1), (1, 1), (2, 1), (3, 1), (4, 1), (5, 1), (6, 1)] := by kernel_rfl
attribute [go_sem] fInsC0 fInsC1 fInsC2 fInsC3 fInsC4 fInsC5 fInsC6 rInsC sInsC zInsC bInsC plInsC
theorem eInsC : elT Tryd.prog 29 = some 45 := by kernel_rfl
theorem rSInsC : isR Tryd.prog 29 = some false := by kernel_rfl
theorem sSInsC : szT Tryd.prog 29 = 1 := by kernel_rfl
attribute [go_sem] eInsC rSInsC sSInsC
theorem fInsL0 : fo Tryd.prog 57 0 = some 0 := by kernel_rfl
theorem fInsL1 : fo Tryd.prog 57 1 = some 1 := by kernel_rfl
theorem fInsL2 : fo Tryd.prog 57 2 = some 2 := by kernel_rfl
theorem fInsL3 : fo Tryd.prog 57 3 = some 3 := by kernel_rfl
theorem fInsL4 : fo Tryd.prog 57 4 = some 4 := by kernel_rfl
theorem fInsL5 : fo Tryd.prog 57 5 = some 5 := by kernel_rfl
theorem fInsL6 : fo Tryd.prog 57 6 = some 6 := by kernel_rfl
theorem rInsL : isR Tryd.prog 57 = some true := by kernel_rfl
theorem sInsL : szT Tryd.prog 57 = 7 := by kernel_rfl
attribute [go_sem] fInsL0 fInsL1 fInsL2 fInsL3 fInsL4 fInsL5 fInsL6 rInsL sInsL
theorem eInsL : elT Tryd.prog 23 = some 57 := by kernel_rfl
theorem rSInsL : isR Tryd.prog 23 = some false := by kernel_rfl
theorem sSInsL : szT Tryd.prog 23 = 1 := by kernel_rfl
attribute [go_sem] eInsL rSInsL sSInsL
structure InsD where
  op : Int
  a : Int
  b : Int
  c : Int
  num : Int
  name : ByteArray
  args : List Int
def insC (sh : Bool) (x : InsD) : List D := [cI x.op, cI x.a, cI x.b, cI x.c, cI x.num, cS x.name, .row sh 3 (row1 cI x.args)]
def insW (x : InsD) : V := .agg [.sc (.int .i64 x.op), .sc (.int .i64 x.a), .sc (.int .i64 x.b), .sc (.int .i64 x.c), .sc (.int .i64 x.num), .sc (.string x.name), roI x.args]
def insCost (x : InsD) : Nat := x.name.size + x.args.length
def insSmall (x : InsD) : Prop := x.name.size < 1152921504606846976 ∧ x.args.length < 1152921504606846976
theorem insC_sh (sh : Bool) : shF (insC sh) = insC true := by funext x; simp [shF, insC, shL, shD, cI, cS, cB, ints_sh, rows_sh]
theorem insC_noSh (x : InsD) : noShL (insC false x) = true := by simp [insC, noShL, noSh, cI, cS, cB, ints_noSh]
attribute [go_sem] insC_sh insC_noSh
theorem insRows_noSh (l : List InsD) : noShLL (rows (insC false) l) = true := rows_noSh insC_noSh l
attribute [go_sem] insRows_noSh
def insL (x : InsD) : List D := [cI x.op, cI x.a, cI x.b, cI x.c, cI x.num, cS x.name, .row true 3 (row1 cI x.args)]
/-- To be looked at. -/
def insV (x : InsD) : V := .agg [.sc (.int .i64 x.op), .sc (.int .i64 x.a), .sc (.int .i64 x.b), .sc (.int .i64 x.c), .sc (.int .i64 x.num), .sc (.string x.name), roI x.args]
theorem insL_sh : shF insL = insL := by funext x; simp [shF, insL, shL, shD, cI, cS, cB, ints_sh, rows_sh]
attribute [go_sem] insL_sh
theorem fCodeC0 : fo Tryd.prog 31 0 = some 0 := by kernel_rfl
theorem fCodeC1 : fo Tryd.prog 31 1 = some 1 := by kernel_rfl
theorem fCodeC2 : fo Tryd.prog 31 2 = some 2 := by kernel_rfl
theorem fCodeC3 : fo Tryd.prog 31 3 = some 3 := by kernel_rfl
theorem rCodeC : isR Tryd.prog 31 = some true := by kernel_rfl
theorem sCodeC : szT Tryd.prog 31 = 4 := by kernel_rfl
theorem zCodeC : zeroCells Tryd.prog 31 = some [.string ⟨#[]⟩, .int .i64 0, .slice none 0 0, .slice none 0 0] := by kernel_rfl
theorem bCodeC : bytesT Tryd.prog 31 = 72 := by kernel_rfl
theorem plCodeC : placesT Tryd.prog 31 = some [(0, 1), (1, 1), (2, 1), (3, 1)] := by kernel_rfl
attribute [go_sem] fCodeC0 fCodeC1 fCodeC2 fCodeC3 rCodeC sCodeC zCodeC bCodeC plCodeC
theorem fCodeL0 : fo Tryd.prog 25 0 = some 0 := by kernel_rfl
theorem fCodeL1 : fo Tryd.prog 25 1 = some 1 := by kernel_rfl
theorem fCodeL2 : fo Tryd.prog 25 2 = some 2 := by kernel_rfl
theorem fCodeL3 : fo Tryd.prog 25 3 = some 3 := by kernel_rfl
theorem rCodeL : isR Tryd.prog 25 = some true := by kernel_rfl
theorem sCodeL : szT Tryd.prog 25 = 4 := by kernel_rfl
attribute [go_sem] fCodeL0 fCodeL1 fCodeL2 fCodeL3 rCodeL sCodeL
structure CodeD where
  name : ByteArray
  params : Int
  locals : List Int
  words : List InsD
def codeC (sh : Bool) (x : CodeD) : List D := [cS x.name, cI x.params, .row sh 3 (row1 cI x.locals), .row sh 45 (rows (insC sh) x.words)]
def codeW (x : CodeD) : V := .agg [.sc (.string x.name), .sc (.int .i64 x.params), roI x.locals, .imm 45 (rows (insC true) x.words)]
def codeCost (x : CodeD) : Nat := x.name.size + x.locals.length + (x.words.length + sumN insCost x.words)
def codeSmall (x : CodeD) : Prop := x.name.size < 1152921504606846976 ∧ x.locals.length < 1152921504606846976 ∧ x.words.length < 1152921504606846976 ∧ (∀ y ∈ x.words, insSmall y)
theorem codeC_sh (sh : Bool) : shF (codeC sh) = codeC true := by funext x; simp [shF, codeC, shL, shD, cI, cS, cB, ints_sh, rows_sh, insC_sh]
theorem codeC_noSh (x : CodeD) : noShL (codeC false x) = true := by simp [codeC, noShL, noSh, cI, cS, cB, ints_noSh, rows_noSh insC_noSh]
attribute [go_sem] codeC_sh codeC_noSh
theorem codeRows_noSh (l : List CodeD) : noShLL (rows (codeC false) l) = true := rows_noSh codeC_noSh l
attribute [go_sem] codeRows_noSh
def codeL (x : CodeD) : List D := [cS x.name, cI x.params, .row true 3 (row1 cI x.locals), .row true 57 (rows insL x.words)]
/-- To be looked at. -/
def codeV (x : CodeD) : V := .agg [.sc (.string x.name), .sc (.int .i64 x.params), roI x.locals, .imm 57 (rows insL x.words)]
theorem codeL_sh : shF codeL = codeL := by funext x; simp [shF, codeL, shL, shD, cI, cS, cB, ints_sh, rows_sh, insL_sh]
attribute [go_sem] codeL_sh
end Go.Proofs.YtnbodmohnkohfaaDoor.AW
