/-
  NARROWER THAN 'FOR EVERY INPUT', by the rows' own cells (each row's printed sentence says how): FnExactCallsOf: laid · FnExactNamesRight: laid · FnExactTypesRight: laid · FnExactTypesOf: laid.
  DERIVED. THE GIVEN ROWS OF THIS SEAT. 4 by the template 'for every input the law returns true; each argument reads behind the call as it read before'; 0 by the template 'total and deterministic' (their statements: YtaodmogcjpainaaGreatDoorTotals.lean).
  GIVEN WITH THE SEED: the statements are not yours to turn. If you find one false, say at which input.
  Laid BY PROGRAM, IN A SANDBOX (cutbox-rows.mjs): the forced cells as the released guide's own fill.sh prints them over the translation cbe33ad478df9b21… (all of the seat's roots in one cut). By AI agents, Wed Nov 11 2026. No macro, syntax, notation, axiom, sorry.
-/
import Derived.Test.YtaodmogcjpainaaGreatDoorChecked
import GoSem.PinnedTables
import GoSem.Claim
import GoSem.ClaimJoined
import GoSem.ClaimMapViews
import Derived.JoinedTies
import Derived.KernelRfl
namespace Go.Proofs.YtaodmogcjpainaaGreatDoor
/- THE CELL 'sum', in the pinned program and in every row, IS THE sha256 OF THE DUMP (.gsa) THAT YtaodmogcjpainaaGreatDoorProg.lean LOADS. Nothing in Lean hashes anything: it is a label: what it is worth is what the hold of that sum in a sandbox is worth. -/
noncomputable def Tryz.pinned : Pinned := { name := "ytaodmogcjpainaagreatdoor", sum := "cbe33ad478df9b21466b8e05e1e68e214a2e0b18b9d9aa7f8330412a0d5d2e0c", checked := Tryz.checked }
namespace Rows
def none {H : Type} : Left H := { results := [], args := [] }

/- WHAT THE LISTED PACKAGE-LEVEL VARIABLES READ AS WHEN THE CALL BEGINS. Each datum BY PROGRAM (the guide's laid-datum.mjs) off the statement by which the dump's own 'gosem.cut.vars' lays the variable. In a bare row this is a premise. The card (YtaodmogcjpainaaGreatDoorCards.lean) ties it to the program's text. -/
def laid_unicode_utf8_acceptRanges {H : Type} : DataW H := .agg [.agg [.lit (.int .u8 128), .lit (.int .u8 191)], .agg [.lit (.int .u8 160), .lit (.int .u8 191)], .agg [.lit (.int .u8 128), .lit (.int .u8 159)], .agg [.lit (.int .u8 144), .lit (.int .u8 191)], .agg [.lit (.int .u8 128), .lit (.int .u8 143)], .agg [.lit (.int .u8 0), .lit (.int .u8 0)], .agg [.lit (.int .u8 0), .lit (.int .u8 0)], .agg [.lit (.int .u8 0), .lit (.int .u8 0)], .agg [.lit (.int .u8 0), .lit (.int .u8 0)], .agg [.lit (.int .u8 0), .lit (.int .u8 0)], .agg [.lit (.int .u8 0), .lit (.int .u8 0)], .agg [.lit (.int .u8 0), .lit (.int .u8 0)], .agg [.lit (.int .u8 0), .lit (.int .u8 0)], .agg [.lit (.int .u8 0), .lit (.int .u8 0)], .agg [.lit (.int .u8 0), .lit (.int .u8 0)], .agg [.lit (.int .u8 0), .lit (.int .u8 0)]]
/-- One of Go's own tables, pinned by name: the form's constant. -/
def laid_unicode_utf8_first : DataW Unit := Go.Pinned.utf8First

/-- 'laws.FnExactCallsOf': WHATEVER THE INPUT: true; the input reads as it did. -/
def fnExactCallsOfSpec : ChangeSpec := { name := "fnExactCallsOf", fn := fun _ => fun
  | [d1, d2] => { results := [.lit (.bool true)], args := [d1, d2] }
  | _ => none }
def fnExactCallsOfRow : OpenClaim := { program := "ytaodmogcjpainaagreatdoor", sum := "cbe33ad478df9b21466b8e05e1e68e214a2e0b18b9d9aa7f8330412a0d5d2e0c", func := "loop.example/g00423/laws.FnExactCallsOf", spec := "fnExactCallsOf", inPlace := ["internal/bytealg.CountString", "internal/bytealg.IndexByteString", "internal/bytealg.IndexString"], recurses := true, named := ["unicode/utf8.first", "unicode/utf8.acceptRanges", "internal/bytealg.MaxLen"], apart := false, laid := [("unicode/utf8.acceptRanges", laid_unicode_utf8_acceptRanges), ("unicode/utf8.first", laid_unicode_utf8_first)] }
def FnExactCallsOfSaid : Prop := fnExactCallsOfRow.holds Tryz.pinned (OpenSpec.ofChange fnExactCallsOfSpec)

/-- ITS FALSE NEIGHBOUR: 'it returns false'. Refute it at one input. -/
def fnExactCallsOfWrong : ChangeSpec := { name := "fnExactCallsOf", fn := fun _ => fun
  | [d1, d2] => { results := [.lit (.bool false)], args := [d1, d2] }
  | _ => none }
def FnExactCallsOfWrongFalsely : Prop := fnExactCallsOfRow.holds Tryz.pinned (OpenSpec.ofChange fnExactCallsOfWrong)

/-- 'laws.FnExactNamesRight': WHATEVER THE INPUT: true; the input reads as it did. -/
def fnExactNamesRightSpec : ChangeSpec := { name := "fnExactNamesRight", fn := fun _ => fun
  | [d] => { results := [.lit (.bool true)], args := [d] }
  | _ => none }
def fnExactNamesRightRow : OpenClaim := { program := "ytaodmogcjpainaagreatdoor", sum := "cbe33ad478df9b21466b8e05e1e68e214a2e0b18b9d9aa7f8330412a0d5d2e0c", func := "loop.example/g00423/laws.FnExactNamesRight", spec := "fnExactNamesRight", inPlace := ["internal/bytealg.CountString", "internal/bytealg.IndexByteString", "internal/bytealg.IndexString"], recurses := true, named := ["unicode/utf8.first", "unicode/utf8.acceptRanges", "internal/bytealg.MaxLen"], apart := false, laid := [("unicode/utf8.acceptRanges", laid_unicode_utf8_acceptRanges), ("unicode/utf8.first", laid_unicode_utf8_first)] }
def FnExactNamesRightSaid : Prop := fnExactNamesRightRow.holds Tryz.pinned (OpenSpec.ofChange fnExactNamesRightSpec)

/-- ITS FALSE NEIGHBOUR: 'it returns false'. Refute it at one input. -/
def fnExactNamesRightWrong : ChangeSpec := { name := "fnExactNamesRight", fn := fun _ => fun
  | [d] => { results := [.lit (.bool false)], args := [d] }
  | _ => none }
def FnExactNamesRightWrongFalsely : Prop := fnExactNamesRightRow.holds Tryz.pinned (OpenSpec.ofChange fnExactNamesRightWrong)

/-- 'laws.FnExactTypesRight': WHATEVER THE INPUT: true; the input reads as it did. -/
def fnExactTypesRightSpec : ChangeSpec := { name := "fnExactTypesRight", fn := fun _ => fun
  | [d] => { results := [.lit (.bool true)], args := [d] }
  | _ => none }
def fnExactTypesRightRow : OpenClaim := { program := "ytaodmogcjpainaagreatdoor", sum := "cbe33ad478df9b21466b8e05e1e68e214a2e0b18b9d9aa7f8330412a0d5d2e0c", func := "loop.example/g00423/laws.FnExactTypesRight", spec := "fnExactTypesRight", inPlace := ["internal/bytealg.CountString", "internal/bytealg.IndexByteString", "internal/bytealg.IndexString"], recurses := true, named := ["unicode/utf8.first", "unicode/utf8.acceptRanges", "internal/bytealg.MaxLen"], apart := false, laid := [("unicode/utf8.acceptRanges", laid_unicode_utf8_acceptRanges), ("unicode/utf8.first", laid_unicode_utf8_first)] }
def FnExactTypesRightSaid : Prop := fnExactTypesRightRow.holds Tryz.pinned (OpenSpec.ofChange fnExactTypesRightSpec)

/-- ITS FALSE NEIGHBOUR: 'it returns false'. Refute it at one input. -/
def fnExactTypesRightWrong : ChangeSpec := { name := "fnExactTypesRight", fn := fun _ => fun
  | [d] => { results := [.lit (.bool false)], args := [d] }
  | _ => none }
def FnExactTypesRightWrongFalsely : Prop := fnExactTypesRightRow.holds Tryz.pinned (OpenSpec.ofChange fnExactTypesRightWrong)

/-- 'laws.FnExactTypesOf': WHATEVER THE INPUT: true; the input reads as it did. -/
def fnExactTypesOfSpec : ChangeSpec := { name := "fnExactTypesOf", fn := fun _ => fun
  | [d1, d2] => { results := [.lit (.bool true)], args := [d1, d2] }
  | _ => none }
def fnExactTypesOfRow : OpenClaim := { program := "ytaodmogcjpainaagreatdoor", sum := "cbe33ad478df9b21466b8e05e1e68e214a2e0b18b9d9aa7f8330412a0d5d2e0c", func := "loop.example/g00423/laws.FnExactTypesOf", spec := "fnExactTypesOf", inPlace := ["internal/bytealg.CountString", "internal/bytealg.IndexByteString", "internal/bytealg.IndexString"], recurses := true, named := ["unicode/utf8.first", "unicode/utf8.acceptRanges", "internal/bytealg.MaxLen"], apart := false, laid := [("unicode/utf8.acceptRanges", laid_unicode_utf8_acceptRanges), ("unicode/utf8.first", laid_unicode_utf8_first)] }
def FnExactTypesOfSaid : Prop := fnExactTypesOfRow.holds Tryz.pinned (OpenSpec.ofChange fnExactTypesOfSpec)

/-- ITS FALSE NEIGHBOUR: 'it returns false'. Refute it at one input. -/
def fnExactTypesOfWrong : ChangeSpec := { name := "fnExactTypesOf", fn := fun _ => fun
  | [d1, d2] => { results := [.lit (.bool false)], args := [d1, d2] }
  | _ => none }
def FnExactTypesOfWrongFalsely : Prop := fnExactTypesOfRow.holds Tryz.pinned (OpenSpec.ofChange fnExactTypesOfWrong)

/- THE SECOND FORM. 'bulk': how many values and letters a reading holds, each counted each time it is reached (what is shared counts as often as it is met; a slice's spare places count too). A statement '..UptoSaid' is the law's where the arguments, and the package variables that the reading takes, are together of bulk at most 1048576: NARROWER than '..Said'. Prove '..Said' where nothing that the law and all that it calls make is longer than what came in: it says more and counts as full. Else prove '..UptoSaid'. A law counts once. -/
mutual
def uptoBulk {H : Type} : DataW H → Nat
  | .lit (.string bytes) => bytes.length + 1
  | .lit _ => 1
  | .nil => 1
  | .ptr d => uptoBulk d + 1
  | .slice elems spare => uptoBulkAll elems + uptoBulkAll spare + 1
  | .agg parts => uptoBulkAll parts + 1
  | .iface _ d => uptoBulk d + 1
  | .map entries => uptoBulkEntries entries + 1
  | .held _ => 1
def uptoBulkAll {H : Type} : List (DataW H) → Nat
  | [] => 0
  | d :: r => uptoBulk d + uptoBulkAll r
def uptoBulkEntries {H : Type} : List (Lit × DataW H) → Nat
  | [] => 0
  | x :: r => uptoBulkEntry x + uptoBulkEntries r
def uptoBulkEntry {H : Type} : Lit × DataW H → Nat
  | (.string bytes, d) => bytes.length + uptoBulk d + 1
  | (_, d) => uptoBulk d + 1
 end
def uptoSmall : (H : Type) → List (DataW H) → Bool := fun _ ds => decide (uptoBulkAll ds ≤ 1048576)
def OpenSpec.upto (s : _root_.Go.ChangeSpec) : _root_.Go.OpenSpec := { _root_.Go.OpenSpec.ofChange s with cond := some uptoSmall }

/-- 'laws.FnExactCallsOf', WHERE WHAT IT READS IS OF BULK AT MOST 1048576: true; the input reads as it did. -/
def fnExactCallsOfUptoRow : OpenClaim := { program := "ytaodmogcjpainaagreatdoor", sum := "cbe33ad478df9b21466b8e05e1e68e214a2e0b18b9d9aa7f8330412a0d5d2e0c", func := "loop.example/g00423/laws.FnExactCallsOf", spec := "fnExactCallsOf", inPlace := ["internal/bytealg.CountString", "internal/bytealg.IndexByteString", "internal/bytealg.IndexString"], recurses := true, named := ["unicode/utf8.first", "unicode/utf8.acceptRanges", "internal/bytealg.MaxLen"], apart := false, laid := [("unicode/utf8.acceptRanges", laid_unicode_utf8_acceptRanges), ("unicode/utf8.first", laid_unicode_utf8_first)], narrowed := true }
def FnExactCallsOfUptoSaid : Prop := fnExactCallsOfUptoRow.holds Tryz.pinned (OpenSpec.upto fnExactCallsOfSpec)

/-- 'laws.FnExactNamesRight', WHERE WHAT IT READS IS OF BULK AT MOST 1048576: true; the input reads as it did. -/
def fnExactNamesRightUptoRow : OpenClaim := { program := "ytaodmogcjpainaagreatdoor", sum := "cbe33ad478df9b21466b8e05e1e68e214a2e0b18b9d9aa7f8330412a0d5d2e0c", func := "loop.example/g00423/laws.FnExactNamesRight", spec := "fnExactNamesRight", inPlace := ["internal/bytealg.CountString", "internal/bytealg.IndexByteString", "internal/bytealg.IndexString"], recurses := true, named := ["unicode/utf8.first", "unicode/utf8.acceptRanges", "internal/bytealg.MaxLen"], apart := false, laid := [("unicode/utf8.acceptRanges", laid_unicode_utf8_acceptRanges), ("unicode/utf8.first", laid_unicode_utf8_first)], narrowed := true }
def FnExactNamesRightUptoSaid : Prop := fnExactNamesRightUptoRow.holds Tryz.pinned (OpenSpec.upto fnExactNamesRightSpec)

/-- 'laws.FnExactTypesRight', WHERE WHAT IT READS IS OF BULK AT MOST 1048576: true; the input reads as it did. -/
def fnExactTypesRightUptoRow : OpenClaim := { program := "ytaodmogcjpainaagreatdoor", sum := "cbe33ad478df9b21466b8e05e1e68e214a2e0b18b9d9aa7f8330412a0d5d2e0c", func := "loop.example/g00423/laws.FnExactTypesRight", spec := "fnExactTypesRight", inPlace := ["internal/bytealg.CountString", "internal/bytealg.IndexByteString", "internal/bytealg.IndexString"], recurses := true, named := ["unicode/utf8.first", "unicode/utf8.acceptRanges", "internal/bytealg.MaxLen"], apart := false, laid := [("unicode/utf8.acceptRanges", laid_unicode_utf8_acceptRanges), ("unicode/utf8.first", laid_unicode_utf8_first)], narrowed := true }
def FnExactTypesRightUptoSaid : Prop := fnExactTypesRightUptoRow.holds Tryz.pinned (OpenSpec.upto fnExactTypesRightSpec)

/-- 'laws.FnExactTypesOf', WHERE WHAT IT READS IS OF BULK AT MOST 1048576: true; the input reads as it did. -/
def fnExactTypesOfUptoRow : OpenClaim := { program := "ytaodmogcjpainaagreatdoor", sum := "cbe33ad478df9b21466b8e05e1e68e214a2e0b18b9d9aa7f8330412a0d5d2e0c", func := "loop.example/g00423/laws.FnExactTypesOf", spec := "fnExactTypesOf", inPlace := ["internal/bytealg.CountString", "internal/bytealg.IndexByteString", "internal/bytealg.IndexString"], recurses := true, named := ["unicode/utf8.first", "unicode/utf8.acceptRanges", "internal/bytealg.MaxLen"], apart := false, laid := [("unicode/utf8.acceptRanges", laid_unicode_utf8_acceptRanges), ("unicode/utf8.first", laid_unicode_utf8_first)], narrowed := true }
def FnExactTypesOfUptoSaid : Prop := fnExactTypesOfUptoRow.holds Tryz.pinned (OpenSpec.upto fnExactTypesOfSpec)

end Rows
end Go.Proofs.YtaodmogcjpainaaGreatDoor
