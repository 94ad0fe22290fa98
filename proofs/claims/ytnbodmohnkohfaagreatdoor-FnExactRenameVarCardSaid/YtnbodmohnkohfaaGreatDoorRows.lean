/-
  NARROWER THAN 'FOR EVERY INPUT', by the rows' own cells (each row's printed sentence says how): FnExactEffectsOf: laid · FnExactRenameFn: laid · FnExactRenameVar: laid · FnExactReadProgram: laid.
  DERIVED. THE GIVEN ROWS OF THIS SEAT. 4 by the template 'for every input the law returns true; each argument reads behind the call as it read before'; 0 by the template 'total and deterministic' (their statements: YtnbodmohnkohfaaGreatDoorTotals.lean).
  GIVEN WITH THE SEED: the statements are not yours to turn. If you find one false, say at which input.
  Laid BY PROGRAM, IN A SANDBOX (cutbox-rows.mjs): the forced cells as the released guide's own fill.sh prints them over the translation d5c47f81375ad511… (all of the seat's roots in one cut). By AI agents, Wed Nov 11 2026. No macro, syntax, notation, axiom, sorry.
-/
import Derived.Test.YtnbodmohnkohfaaGreatDoorChecked
import GoSem.PinnedTables
import GoSem.Claim
import GoSem.ClaimJoined
import GoSem.ClaimMapViews
import Derived.JoinedTies
import Derived.KernelRfl
namespace Go.Proofs.YtnbodmohnkohfaaGreatDoor
/- THE CELL 'sum', in the pinned program and in every row, IS THE sha256 OF THE DUMP (.gsa) THAT YtnbodmohnkohfaaGreatDoorProg.lean LOADS. Nothing in Lean hashes anything: it is a label: what it is worth is what the hold of that sum in a sandbox is worth. -/
noncomputable def Tryz.pinned : Pinned := { name := "ytnbodmohnkohfaagreatdoor", sum := "d5c47f81375ad51152425a1895073cc2fdaef6daec0ffa0c7c06e053ae0875bd", checked := Tryz.checked }
namespace Rows
def none {H : Type} : Left H := { results := [], args := [] }

/- WHAT THE LISTED PACKAGE-LEVEL VARIABLES READ AS WHEN THE CALL BEGINS. Each datum BY PROGRAM (the guide's laid-datum.mjs) off the statement by which the dump's own 'gosem.cut.vars' lays the variable. In a bare row this is a premise. The card (YtnbodmohnkohfaaGreatDoorCards.lean) ties it to the program's text. -/
def laid_unicode_utf8_acceptRanges {H : Type} : DataW H := .agg [.agg [.lit (.int .u8 128), .lit (.int .u8 191)], .agg [.lit (.int .u8 160), .lit (.int .u8 191)], .agg [.lit (.int .u8 128), .lit (.int .u8 159)], .agg [.lit (.int .u8 144), .lit (.int .u8 191)], .agg [.lit (.int .u8 128), .lit (.int .u8 143)], .agg [.lit (.int .u8 0), .lit (.int .u8 0)], .agg [.lit (.int .u8 0), .lit (.int .u8 0)], .agg [.lit (.int .u8 0), .lit (.int .u8 0)], .agg [.lit (.int .u8 0), .lit (.int .u8 0)], .agg [.lit (.int .u8 0), .lit (.int .u8 0)], .agg [.lit (.int .u8 0), .lit (.int .u8 0)], .agg [.lit (.int .u8 0), .lit (.int .u8 0)], .agg [.lit (.int .u8 0), .lit (.int .u8 0)], .agg [.lit (.int .u8 0), .lit (.int .u8 0)], .agg [.lit (.int .u8 0), .lit (.int .u8 0)], .agg [.lit (.int .u8 0), .lit (.int .u8 0)]]
/-- One of Go's own tables, pinned by name: the form's constant. -/
def laid_unicode_utf8_first : DataW Unit := Go.Pinned.utf8First

/-- 'laws.FnExactEffectsOf': WHATEVER THE INPUT: true; the input reads as it did. -/
def fnExactEffectsOfSpec : ChangeSpec := { name := "fnExactEffectsOf", fn := fun _ => fun
  | [d1, d2, d3] => { results := [.lit (.bool true)], args := [d1, d2, d3] }
  | _ => none }
def fnExactEffectsOfRow : OpenClaim := { program := "ytnbodmohnkohfaagreatdoor", sum := "d5c47f81375ad51152425a1895073cc2fdaef6daec0ffa0c7c06e053ae0875bd", func := "loop.example/g00423/laws.FnExactEffectsOf", spec := "fnExactEffectsOf", inPlace := ["internal/bytealg.CountString", "internal/bytealg.IndexByteString", "internal/bytealg.IndexString"], recurses := true, named := ["unicode/utf8.first", "unicode/utf8.acceptRanges", "internal/bytealg.MaxLen"], apart := false, laid := [("unicode/utf8.acceptRanges", laid_unicode_utf8_acceptRanges), ("unicode/utf8.first", laid_unicode_utf8_first)] }
def FnExactEffectsOfSaid : Prop := fnExactEffectsOfRow.holds Tryz.pinned (OpenSpec.ofChange fnExactEffectsOfSpec)

/-- ITS FALSE NEIGHBOUR: 'it returns false'. Refute it at one input. -/
def fnExactEffectsOfWrong : ChangeSpec := { name := "fnExactEffectsOf", fn := fun _ => fun
  | [d1, d2, d3] => { results := [.lit (.bool false)], args := [d1, d2, d3] }
  | _ => none }
def FnExactEffectsOfWrongFalsely : Prop := fnExactEffectsOfRow.holds Tryz.pinned (OpenSpec.ofChange fnExactEffectsOfWrong)

/-- 'laws.FnExactRenameFn': WHATEVER THE INPUT: true; the input reads as it did. -/
def fnExactRenameFnSpec : ChangeSpec := { name := "fnExactRenameFn", fn := fun _ => fun
  | [d1, d2, d3] => { results := [.lit (.bool true)], args := [d1, d2, d3] }
  | _ => none }
def fnExactRenameFnRow : OpenClaim := { program := "ytnbodmohnkohfaagreatdoor", sum := "d5c47f81375ad51152425a1895073cc2fdaef6daec0ffa0c7c06e053ae0875bd", func := "loop.example/g00423/laws.FnExactRenameFn", spec := "fnExactRenameFn", inPlace := ["internal/bytealg.CountString", "internal/bytealg.IndexByteString", "internal/bytealg.IndexString"], unfollowed := true, recurses := true, named := ["unicode/utf8.first", "unicode/utf8.acceptRanges", "internal/bytealg.MaxLen"], apart := false, laid := [("unicode/utf8.acceptRanges", laid_unicode_utf8_acceptRanges), ("unicode/utf8.first", laid_unicode_utf8_first)] }
def FnExactRenameFnSaid : Prop := fnExactRenameFnRow.holds Tryz.pinned (OpenSpec.ofChange fnExactRenameFnSpec)

/-- ITS FALSE NEIGHBOUR: 'it returns false'. Refute it at one input. -/
def fnExactRenameFnWrong : ChangeSpec := { name := "fnExactRenameFn", fn := fun _ => fun
  | [d1, d2, d3] => { results := [.lit (.bool false)], args := [d1, d2, d3] }
  | _ => none }
def FnExactRenameFnWrongFalsely : Prop := fnExactRenameFnRow.holds Tryz.pinned (OpenSpec.ofChange fnExactRenameFnWrong)

/-- 'laws.FnExactRenameVar': WHATEVER THE INPUT: true; the input reads as it did. -/
def fnExactRenameVarSpec : ChangeSpec := { name := "fnExactRenameVar", fn := fun _ => fun
  | [d1, d2, d3, d4] => { results := [.lit (.bool true)], args := [d1, d2, d3, d4] }
  | _ => none }
def fnExactRenameVarRow : OpenClaim := { program := "ytnbodmohnkohfaagreatdoor", sum := "d5c47f81375ad51152425a1895073cc2fdaef6daec0ffa0c7c06e053ae0875bd", func := "loop.example/g00423/laws.FnExactRenameVar", spec := "fnExactRenameVar", inPlace := ["internal/bytealg.CountString", "internal/bytealg.IndexByteString", "internal/bytealg.IndexString"], unfollowed := true, recurses := true, named := ["unicode/utf8.first", "unicode/utf8.acceptRanges", "internal/bytealg.MaxLen"], apart := false, laid := [("unicode/utf8.acceptRanges", laid_unicode_utf8_acceptRanges), ("unicode/utf8.first", laid_unicode_utf8_first)] }
def FnExactRenameVarSaid : Prop := fnExactRenameVarRow.holds Tryz.pinned (OpenSpec.ofChange fnExactRenameVarSpec)

/-- ITS FALSE NEIGHBOUR: 'it returns false'. Refute it at one input. -/
def fnExactRenameVarWrong : ChangeSpec := { name := "fnExactRenameVar", fn := fun _ => fun
  | [d1, d2, d3, d4] => { results := [.lit (.bool false)], args := [d1, d2, d3, d4] }
  | _ => none }
def FnExactRenameVarWrongFalsely : Prop := fnExactRenameVarRow.holds Tryz.pinned (OpenSpec.ofChange fnExactRenameVarWrong)

/-- 'laws.FnExactReadProgram': WHATEVER THE INPUT: true; the input reads as it did. -/
def fnExactReadProgramSpec : ChangeSpec := { name := "fnExactReadProgram", fn := fun _ => fun
  | [d] => { results := [.lit (.bool true)], args := [d] }
  | _ => none }
def fnExactReadProgramRow : OpenClaim := { program := "ytnbodmohnkohfaagreatdoor", sum := "d5c47f81375ad51152425a1895073cc2fdaef6daec0ffa0c7c06e053ae0875bd", func := "loop.example/g00423/laws.FnExactReadProgram", spec := "fnExactReadProgram", inPlace := ["internal/bytealg.CountString", "internal/bytealg.IndexByteString", "internal/bytealg.IndexString"], recurses := true, named := ["unicode/utf8.first", "unicode/utf8.acceptRanges", "internal/bytealg.MaxLen"], apart := false, laid := [("unicode/utf8.acceptRanges", laid_unicode_utf8_acceptRanges), ("unicode/utf8.first", laid_unicode_utf8_first)] }
def FnExactReadProgramSaid : Prop := fnExactReadProgramRow.holds Tryz.pinned (OpenSpec.ofChange fnExactReadProgramSpec)

/-- ITS FALSE NEIGHBOUR: 'it returns false'. Refute it at one input. -/
def fnExactReadProgramWrong : ChangeSpec := { name := "fnExactReadProgram", fn := fun _ => fun
  | [d] => { results := [.lit (.bool false)], args := [d] }
  | _ => none }
def FnExactReadProgramWrongFalsely : Prop := fnExactReadProgramRow.holds Tryz.pinned (OpenSpec.ofChange fnExactReadProgramWrong)

/- THE SECOND FORM. 'bulk': how many values and letters a reading holds, each counted each time it is reached (what is shared counts as often as it is met; a slice's spare places count too). A statement '..UptoSaid' is the law's where the arguments, and the package variables that the reading takes, are together of bulk at most 1048576: NARROWER than '..Said'. Prove '..Said' where nothing that the law and all that it calls make is longer than what came in: it says more and counts as full. Else prove '..UptoSaid'. A law counts once. -/
mutual
def uptoBulk {H : Type} : DataW H → Nat
  | .lit (.string bytes) => bytes.length + 1
  | .lit _ => 1
  | .nil => 1
  | .ptr d => uptoBulk d + 1
  | .slice elems spare => uptoBulkAll elems + uptoBulkAll spare + 1
  | .agg parts => uptoBulkAll parts + 1
  | .iface _ d => uptoBulk d + 1
  | .map entries => uptoBulkEntries entries + 1
  | .held _ => 1
def uptoBulkAll {H : Type} : List (DataW H) → Nat
  | [] => 0
  | d :: r => uptoBulk d + uptoBulkAll r
def uptoBulkEntries {H : Type} : List (Lit × DataW H) → Nat
  | [] => 0
  | x :: r => uptoBulkEntry x + uptoBulkEntries r
def uptoBulkEntry {H : Type} : Lit × DataW H → Nat
  | (.string bytes, d) => bytes.length + uptoBulk d + 1
  | (_, d) => uptoBulk d + 1
 end
def uptoSmall : (H : Type) → List (DataW H) → Bool := fun _ ds => decide (uptoBulkAll ds ≤ 1048576)
def OpenSpec.upto (s : _root_.Go.ChangeSpec) : _root_.Go.OpenSpec := { _root_.Go.OpenSpec.ofChange s with cond := some uptoSmall }

/-- 'laws.FnExactEffectsOf', WHERE WHAT IT READS IS OF BULK AT MOST 1048576: true; the input reads as it did. -/
def fnExactEffectsOfUptoRow : OpenClaim := { program := "ytnbodmohnkohfaagreatdoor", sum := "d5c47f81375ad51152425a1895073cc2fdaef6daec0ffa0c7c06e053ae0875bd", func := "loop.example/g00423/laws.FnExactEffectsOf", spec := "fnExactEffectsOf", inPlace := ["internal/bytealg.CountString", "internal/bytealg.IndexByteString", "internal/bytealg.IndexString"], recurses := true, named := ["unicode/utf8.first", "unicode/utf8.acceptRanges", "internal/bytealg.MaxLen"], apart := false, laid := [("unicode/utf8.acceptRanges", laid_unicode_utf8_acceptRanges), ("unicode/utf8.first", laid_unicode_utf8_first)], narrowed := true }
def FnExactEffectsOfUptoSaid : Prop := fnExactEffectsOfUptoRow.holds Tryz.pinned (OpenSpec.upto fnExactEffectsOfSpec)

/-- 'laws.FnExactRenameFn', WHERE WHAT IT READS IS OF BULK AT MOST 1048576: true; the input reads as it did. -/
def fnExactRenameFnUptoRow : OpenClaim := { program := "ytnbodmohnkohfaagreatdoor", sum := "d5c47f81375ad51152425a1895073cc2fdaef6daec0ffa0c7c06e053ae0875bd", func := "loop.example/g00423/laws.FnExactRenameFn", spec := "fnExactRenameFn", inPlace := ["internal/bytealg.CountString", "internal/bytealg.IndexByteString", "internal/bytealg.IndexString"], unfollowed := true, recurses := true, named := ["unicode/utf8.first", "unicode/utf8.acceptRanges", "internal/bytealg.MaxLen"], apart := false, laid := [("unicode/utf8.acceptRanges", laid_unicode_utf8_acceptRanges), ("unicode/utf8.first", laid_unicode_utf8_first)], narrowed := true }
def FnExactRenameFnUptoSaid : Prop := fnExactRenameFnUptoRow.holds Tryz.pinned (OpenSpec.upto fnExactRenameFnSpec)

/-- 'laws.FnExactRenameVar', WHERE WHAT IT READS IS OF BULK AT MOST 1048576: true; the input reads as it did. -/
def fnExactRenameVarUptoRow : OpenClaim := { program := "ytnbodmohnkohfaagreatdoor", sum := "d5c47f81375ad51152425a1895073cc2fdaef6daec0ffa0c7c06e053ae0875bd", func := "loop.example/g00423/laws.FnExactRenameVar", spec := "fnExactRenameVar", inPlace := ["internal/bytealg.CountString", "internal/bytealg.IndexByteString", "internal/bytealg.IndexString"], unfollowed := true, recurses := true, named := ["unicode/utf8.first", "unicode/utf8.acceptRanges", "internal/bytealg.MaxLen"], apart := false, laid := [("unicode/utf8.acceptRanges", laid_unicode_utf8_acceptRanges), ("unicode/utf8.first", laid_unicode_utf8_first)], narrowed := true }
def FnExactRenameVarUptoSaid : Prop := fnExactRenameVarUptoRow.holds Tryz.pinned (OpenSpec.upto fnExactRenameVarSpec)

/-- 'laws.FnExactReadProgram', WHERE WHAT IT READS IS OF BULK AT MOST 1048576: true; the input reads as it did. -/
def fnExactReadProgramUptoRow : OpenClaim := { program := "ytnbodmohnkohfaagreatdoor", sum := "d5c47f81375ad51152425a1895073cc2fdaef6daec0ffa0c7c06e053ae0875bd", func := "loop.example/g00423/laws.FnExactReadProgram", spec := "fnExactReadProgram", inPlace := ["internal/bytealg.CountString", "internal/bytealg.IndexByteString", "internal/bytealg.IndexString"], recurses := true, named := ["unicode/utf8.first", "unicode/utf8.acceptRanges", "internal/bytealg.MaxLen"], apart := false, laid := [("unicode/utf8.acceptRanges", laid_unicode_utf8_acceptRanges), ("unicode/utf8.first", laid_unicode_utf8_first)], narrowed := true }
def FnExactReadProgramUptoSaid : Prop := fnExactReadProgramUptoRow.holds Tryz.pinned (OpenSpec.upto fnExactReadProgramSpec)

end Rows
end Go.Proofs.YtnbodmohnkohfaaGreatDoor
