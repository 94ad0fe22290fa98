/-
  NARROWER THAN 'FOR EVERY INPUT', by the rows' own cells (each row's printed sentence says how): FnExactLower: laid · FnExactLowerAll: laid · FnExactExtractVar: laid · FnExactInlineVar: laid · FnExactInlineCall: laid · FnExactExtractFn: laid.
  DERIVED. THE GIVEN ROWS OF THIS SEAT. 6 by the template 'for every input the law returns true; each argument reads behind the call as it read before'; 0 by the template 'total and deterministic' (their statements: YtjjigphfjclofaaGreatDoorTotals.lean).
  GIVEN WITH THE SEED: the statements are not yours to turn. If you find one false, say at which input.
  Laid BY PROGRAM, IN A SANDBOX (cutbox-rows.mjs): the forced cells as the released guide's own fill.sh prints them over the translation ce640dbb18e60825… (all of the seat's roots in one cut). By AI agents, Wed Nov 11 2026. No macro, syntax, notation, axiom, sorry.
-/
import Derived.Test.YtjjigphfjclofaaGreatDoorChecked
import GoSem.PinnedTables
import GoSem.Claim
import GoSem.ClaimJoined
import GoSem.ClaimMapViews
import Derived.JoinedTies
import Derived.KernelRfl
namespace Go.Proofs.YtjjigphfjclofaaGreatDoor
/- THE CELL 'sum', in the pinned program and in every row, IS THE sha256 OF THE DUMP (.gsa) THAT YtjjigphfjclofaaGreatDoorProg.lean LOADS. Nothing in Lean hashes anything: it is a label: what it is worth is what the hold of that sum in a sandbox is worth. -/
noncomputable def Tryz.pinned : Pinned := { name := "ytjjigphfjclofaagreatdoor", sum := "ce640dbb18e60825c653ffcba92ca228ab1fac0888b235e2357e24dbc2c13230", checked := Tryz.checked }
namespace Rows
def none {H : Type} : Left H := { results := [], args := [] }

/- WHAT THE LISTED PACKAGE-LEVEL VARIABLES READ AS WHEN THE CALL BEGINS. Each datum BY PROGRAM (the guide's laid-datum.mjs) off the statement by which the dump's own 'gosem.cut.vars' lays the variable. In a bare row this is a premise. The card (YtjjigphfjclofaaGreatDoorCards.lean) ties it to the program's text. -/
def laid_unicode_utf8_acceptRanges {H : Type} : DataW H := .agg [.agg [.lit (.int .u8 128), .lit (.int .u8 191)], .agg [.lit (.int .u8 160), .lit (.int .u8 191)], .agg [.lit (.int .u8 128), .lit (.int .u8 159)], .agg [.lit (.int .u8 144), .lit (.int .u8 191)], .agg [.lit (.int .u8 128), .lit (.int .u8 143)], .agg [.lit (.int .u8 0), .lit (.int .u8 0)], .agg [.lit (.int .u8 0), .lit (.int .u8 0)], .agg [.lit (.int .u8 0), .lit (.int .u8 0)], .agg [.lit (.int .u8 0), .lit (.int .u8 0)], .agg [.lit (.int .u8 0), .lit (.int .u8 0)], .agg [.lit (.int .u8 0), .lit (.int .u8 0)], .agg [.lit (.int .u8 0), .lit (.int .u8 0)], .agg [.lit (.int .u8 0), .lit (.int .u8 0)], .agg [.lit (.int .u8 0), .lit (.int .u8 0)], .agg [.lit (.int .u8 0), .lit (.int .u8 0)], .agg [.lit (.int .u8 0), .lit (.int .u8 0)]]
/-- One of Go's own tables, pinned by name: the form's constant. -/
def laid_unicode_utf8_first : DataW Unit := Go.Pinned.utf8First

/-- 'laws.FnExactLower': WHATEVER THE INPUT: true; the input reads as it did. -/
def fnExactLowerSpec : ChangeSpec := { name := "fnExactLower", fn := fun _ => fun
  | [d1, d2] => { results := [.lit (.bool true)], args := [d1, d2] }
  | _ => none }
def fnExactLowerRow : OpenClaim := { program := "ytjjigphfjclofaagreatdoor", sum := "ce640dbb18e60825c653ffcba92ca228ab1fac0888b235e2357e24dbc2c13230", func := "loop.example/g00423/laws.FnExactLower", spec := "fnExactLower", inPlace := ["internal/bytealg.CountString", "internal/bytealg.IndexByteString", "internal/bytealg.IndexString"], recurses := true, named := ["unicode/utf8.first", "unicode/utf8.acceptRanges", "internal/bytealg.MaxLen"], apart := false, laid := [("unicode/utf8.acceptRanges", laid_unicode_utf8_acceptRanges), ("unicode/utf8.first", laid_unicode_utf8_first)] }
def FnExactLowerSaid : Prop := fnExactLowerRow.holds Tryz.pinned (OpenSpec.ofChange fnExactLowerSpec)

/-- ITS FALSE NEIGHBOUR: 'it returns false'. Refute it at one input. -/
def fnExactLowerWrong : ChangeSpec := { name := "fnExactLower", fn := fun _ => fun
  | [d1, d2] => { results := [.lit (.bool false)], args := [d1, d2] }
  | _ => none }
def FnExactLowerWrongFalsely : Prop := fnExactLowerRow.holds Tryz.pinned (OpenSpec.ofChange fnExactLowerWrong)

/-- 'laws.FnExactLowerAll': WHATEVER THE INPUT: true; the input reads as it did. -/
def fnExactLowerAllSpec : ChangeSpec := { name := "fnExactLowerAll", fn := fun _ => fun
  | [d] => { results := [.lit (.bool true)], args := [d] }
  | _ => none }
def fnExactLowerAllRow : OpenClaim := { program := "ytjjigphfjclofaagreatdoor", sum := "ce640dbb18e60825c653ffcba92ca228ab1fac0888b235e2357e24dbc2c13230", func := "loop.example/g00423/laws.FnExactLowerAll", spec := "fnExactLowerAll", inPlace := ["internal/bytealg.CountString", "internal/bytealg.IndexByteString", "internal/bytealg.IndexString"], recurses := true, named := ["unicode/utf8.first", "unicode/utf8.acceptRanges", "internal/bytealg.MaxLen"], apart := false, laid := [("unicode/utf8.acceptRanges", laid_unicode_utf8_acceptRanges), ("unicode/utf8.first", laid_unicode_utf8_first)] }
def FnExactLowerAllSaid : Prop := fnExactLowerAllRow.holds Tryz.pinned (OpenSpec.ofChange fnExactLowerAllSpec)

/-- ITS FALSE NEIGHBOUR: 'it returns false'. Refute it at one input. -/
def fnExactLowerAllWrong : ChangeSpec := { name := "fnExactLowerAll", fn := fun _ => fun
  | [d] => { results := [.lit (.bool false)], args := [d] }
  | _ => none }
def FnExactLowerAllWrongFalsely : Prop := fnExactLowerAllRow.holds Tryz.pinned (OpenSpec.ofChange fnExactLowerAllWrong)

/-- 'laws.FnExactExtractVar': WHATEVER THE INPUT: true; the input reads as it did. -/
def fnExactExtractVarSpec : ChangeSpec := { name := "fnExactExtractVar", fn := fun _ => fun
  | [d1, d2, d3, d4] => { results := [.lit (.bool true)], args := [d1, d2, d3, d4] }
  | _ => none }
def fnExactExtractVarRow : OpenClaim := { program := "ytjjigphfjclofaagreatdoor", sum := "ce640dbb18e60825c653ffcba92ca228ab1fac0888b235e2357e24dbc2c13230", func := "loop.example/g00423/laws.FnExactExtractVar", spec := "fnExactExtractVar", inPlace := ["internal/bytealg.CountString", "internal/bytealg.IndexByteString", "internal/bytealg.IndexString"], recurses := true, named := ["unicode/utf8.first", "unicode/utf8.acceptRanges", "internal/bytealg.MaxLen"], apart := false, laid := [("unicode/utf8.acceptRanges", laid_unicode_utf8_acceptRanges), ("unicode/utf8.first", laid_unicode_utf8_first)] }
def FnExactExtractVarSaid : Prop := fnExactExtractVarRow.holds Tryz.pinned (OpenSpec.ofChange fnExactExtractVarSpec)

/-- ITS FALSE NEIGHBOUR: 'it returns false'. Refute it at one input. -/
def fnExactExtractVarWrong : ChangeSpec := { name := "fnExactExtractVar", fn := fun _ => fun
  | [d1, d2, d3, d4] => { results := [.lit (.bool false)], args := [d1, d2, d3, d4] }
  | _ => none }
def FnExactExtractVarWrongFalsely : Prop := fnExactExtractVarRow.holds Tryz.pinned (OpenSpec.ofChange fnExactExtractVarWrong)

/-- 'laws.FnExactInlineVar': WHATEVER THE INPUT: true; the input reads as it did. -/
def fnExactInlineVarSpec : ChangeSpec := { name := "fnExactInlineVar", fn := fun _ => fun
  | [d1, d2, d3] => { results := [.lit (.bool true)], args := [d1, d2, d3] }
  | _ => none }
def fnExactInlineVarRow : OpenClaim := { program := "ytjjigphfjclofaagreatdoor", sum := "ce640dbb18e60825c653ffcba92ca228ab1fac0888b235e2357e24dbc2c13230", func := "loop.example/g00423/laws.FnExactInlineVar", spec := "fnExactInlineVar", inPlace := ["internal/bytealg.CountString", "internal/bytealg.IndexByteString", "internal/bytealg.IndexString"], recurses := true, named := ["unicode/utf8.first", "unicode/utf8.acceptRanges", "internal/bytealg.MaxLen"], apart := false, laid := [("unicode/utf8.acceptRanges", laid_unicode_utf8_acceptRanges), ("unicode/utf8.first", laid_unicode_utf8_first)] }
def FnExactInlineVarSaid : Prop := fnExactInlineVarRow.holds Tryz.pinned (OpenSpec.ofChange fnExactInlineVarSpec)

/-- ITS FALSE NEIGHBOUR: 'it returns false'. Refute it at one input. -/
def fnExactInlineVarWrong : ChangeSpec := { name := "fnExactInlineVar", fn := fun _ => fun
  | [d1, d2, d3] => { results := [.lit (.bool false)], args := [d1, d2, d3] }
  | _ => none }
def FnExactInlineVarWrongFalsely : Prop := fnExactInlineVarRow.holds Tryz.pinned (OpenSpec.ofChange fnExactInlineVarWrong)

/-- 'laws.FnExactInlineCall': WHATEVER THE INPUT: true; the input reads as it did. -/
def fnExactInlineCallSpec : ChangeSpec := { name := "fnExactInlineCall", fn := fun _ => fun
  | [d1, d2, d3] => { results := [.lit (.bool true)], args := [d1, d2, d3] }
  | _ => none }
def fnExactInlineCallRow : OpenClaim := { program := "ytjjigphfjclofaagreatdoor", sum := "ce640dbb18e60825c653ffcba92ca228ab1fac0888b235e2357e24dbc2c13230", func := "loop.example/g00423/laws.FnExactInlineCall", spec := "fnExactInlineCall", inPlace := ["internal/bytealg.CountString", "internal/bytealg.IndexByteString", "internal/bytealg.IndexString"], recurses := true, named := ["unicode/utf8.first", "unicode/utf8.acceptRanges", "internal/bytealg.MaxLen"], apart := false, laid := [("unicode/utf8.acceptRanges", laid_unicode_utf8_acceptRanges), ("unicode/utf8.first", laid_unicode_utf8_first)] }
def FnExactInlineCallSaid : Prop := fnExactInlineCallRow.holds Tryz.pinned (OpenSpec.ofChange fnExactInlineCallSpec)

/-- ITS FALSE NEIGHBOUR: 'it returns false'. Refute it at one input. -/
def fnExactInlineCallWrong : ChangeSpec := { name := "fnExactInlineCall", fn := fun _ => fun
  | [d1, d2, d3] => { results := [.lit (.bool false)], args := [d1, d2, d3] }
  | _ => none }
def FnExactInlineCallWrongFalsely : Prop := fnExactInlineCallRow.holds Tryz.pinned (OpenSpec.ofChange fnExactInlineCallWrong)

/-- 'laws.FnExactExtractFn': WHATEVER THE INPUT: true; the input reads as it did. -/
def fnExactExtractFnSpec : ChangeSpec := { name := "fnExactExtractFn", fn := fun _ => fun
  | [d1, d2, d3, d4, d5, d6] => { results := [.lit (.bool true)], args := [d1, d2, d3, d4, d5, d6] }
  | _ => none }
def fnExactExtractFnRow : OpenClaim := { program := "ytjjigphfjclofaagreatdoor", sum := "ce640dbb18e60825c653ffcba92ca228ab1fac0888b235e2357e24dbc2c13230", func := "loop.example/g00423/laws.FnExactExtractFn", spec := "fnExactExtractFn", inPlace := ["internal/bytealg.CountString", "internal/bytealg.IndexByteString", "internal/bytealg.IndexString"], recurses := true, named := ["unicode/utf8.first", "unicode/utf8.acceptRanges", "internal/bytealg.MaxLen"], apart := false, laid := [("unicode/utf8.acceptRanges", laid_unicode_utf8_acceptRanges), ("unicode/utf8.first", laid_unicode_utf8_first)] }
def FnExactExtractFnSaid : Prop := fnExactExtractFnRow.holds Tryz.pinned (OpenSpec.ofChange fnExactExtractFnSpec)

/-- ITS FALSE NEIGHBOUR: 'it returns false'. Refute it at one input. -/
def fnExactExtractFnWrong : ChangeSpec := { name := "fnExactExtractFn", fn := fun _ => fun
  | [d1, d2, d3, d4, d5, d6] => { results := [.lit (.bool false)], args := [d1, d2, d3, d4, d5, d6] }
  | _ => none }
def FnExactExtractFnWrongFalsely : Prop := fnExactExtractFnRow.holds Tryz.pinned (OpenSpec.ofChange fnExactExtractFnWrong)

/- THE SECOND FORM. 'bulk': how many values and letters a reading holds, each counted each time it is reached (what is shared counts as often as it is met; a slice's spare places count too). A statement '..UptoSaid' is the law's where the arguments, and the package variables that the reading takes, are together of bulk at most 1048576: NARROWER than '..Said'. Prove '..Said' where nothing that the law and all that it calls make is longer than what came in: it says more and counts as full. Else prove '..UptoSaid'. A law counts once. -/
mutual
def uptoBulk {H : Type} : DataW H → Nat
  | .lit (.string bytes) => bytes.length + 1
  | .lit _ => 1
  | .nil => 1
  | .ptr d => uptoBulk d + 1
  | .slice elems spare => uptoBulkAll elems + uptoBulkAll spare + 1
  | .agg parts => uptoBulkAll parts + 1
  | .iface _ d => uptoBulk d + 1
  | .map entries => uptoBulkEntries entries + 1
  | .held _ => 1
def uptoBulkAll {H : Type} : List (DataW H) → Nat
  | [] => 0
  | d :: r => uptoBulk d + uptoBulkAll r
def uptoBulkEntries {H : Type} : List (Lit × DataW H) → Nat
  | [] => 0
  | x :: r => uptoBulkEntry x + uptoBulkEntries r
def uptoBulkEntry {H : Type} : Lit × DataW H → Nat
  | (.string bytes, d) => bytes.length + uptoBulk d + 1
  | (_, d) => uptoBulk d + 1
 end
def uptoSmall : (H : Type) → List (DataW H) → Bool := fun _ ds => decide (uptoBulkAll ds ≤ 1048576)
def OpenSpec.upto (s : _root_.Go.ChangeSpec) : _root_.Go.OpenSpec := { _root_.Go.OpenSpec.ofChange s with cond := some uptoSmall }

/-- 'laws.FnExactLower', WHERE WHAT IT READS IS OF BULK AT MOST 1048576: true; the input reads as it did. -/
def fnExactLowerUptoRow : OpenClaim := { program := "ytjjigphfjclofaagreatdoor", sum := "ce640dbb18e60825c653ffcba92ca228ab1fac0888b235e2357e24dbc2c13230", func := "loop.example/g00423/laws.FnExactLower", spec := "fnExactLower", inPlace := ["internal/bytealg.CountString", "internal/bytealg.IndexByteString", "internal/bytealg.IndexString"], recurses := true, named := ["unicode/utf8.first", "unicode/utf8.acceptRanges", "internal/bytealg.MaxLen"], apart := false, laid := [("unicode/utf8.acceptRanges", laid_unicode_utf8_acceptRanges), ("unicode/utf8.first", laid_unicode_utf8_first)], narrowed := true }
def FnExactLowerUptoSaid : Prop := fnExactLowerUptoRow.holds Tryz.pinned (OpenSpec.upto fnExactLowerSpec)

/-- 'laws.FnExactLowerAll', WHERE WHAT IT READS IS OF BULK AT MOST 1048576: true; the input reads as it did. -/
def fnExactLowerAllUptoRow : OpenClaim := { program := "ytjjigphfjclofaagreatdoor", sum := "ce640dbb18e60825c653ffcba92ca228ab1fac0888b235e2357e24dbc2c13230", func := "loop.example/g00423/laws.FnExactLowerAll", spec := "fnExactLowerAll", inPlace := ["internal/bytealg.CountString", "internal/bytealg.IndexByteString", "internal/bytealg.IndexString"], recurses := true, named := ["unicode/utf8.first", "unicode/utf8.acceptRanges", "internal/bytealg.MaxLen"], apart := false, laid := [("unicode/utf8.acceptRanges", laid_unicode_utf8_acceptRanges), ("unicode/utf8.first", laid_unicode_utf8_first)], narrowed := true }
def FnExactLowerAllUptoSaid : Prop := fnExactLowerAllUptoRow.holds Tryz.pinned (OpenSpec.upto fnExactLowerAllSpec)

/-- 'laws.FnExactExtractVar', WHERE WHAT IT READS IS OF BULK AT MOST 1048576: true; the input reads as it did. -/
def fnExactExtractVarUptoRow : OpenClaim := { program := "ytjjigphfjclofaagreatdoor", sum := "ce640dbb18e60825c653ffcba92ca228ab1fac0888b235e2357e24dbc2c13230", func := "loop.example/g00423/laws.FnExactExtractVar", spec := "fnExactExtractVar", inPlace := ["internal/bytealg.CountString", "internal/bytealg.IndexByteString", "internal/bytealg.IndexString"], recurses := true, named := ["unicode/utf8.first", "unicode/utf8.acceptRanges", "internal/bytealg.MaxLen"], apart := false, laid := [("unicode/utf8.acceptRanges", laid_unicode_utf8_acceptRanges), ("unicode/utf8.first", laid_unicode_utf8_first)], narrowed := true }
def FnExactExtractVarUptoSaid : Prop := fnExactExtractVarUptoRow.holds Tryz.pinned (OpenSpec.upto fnExactExtractVarSpec)

/-- 'laws.FnExactInlineVar', WHERE WHAT IT READS IS OF BULK AT MOST 1048576: true; the input reads as it did. -/
def fnExactInlineVarUptoRow : OpenClaim := { program := "ytjjigphfjclofaagreatdoor", sum := "ce640dbb18e60825c653ffcba92ca228ab1fac0888b235e2357e24dbc2c13230", func := "loop.example/g00423/laws.FnExactInlineVar", spec := "fnExactInlineVar", inPlace := ["internal/bytealg.CountString", "internal/bytealg.IndexByteString", "internal/bytealg.IndexString"], recurses := true, named := ["unicode/utf8.first", "unicode/utf8.acceptRanges", "internal/bytealg.MaxLen"], apart := false, laid := [("unicode/utf8.acceptRanges", laid_unicode_utf8_acceptRanges), ("unicode/utf8.first", laid_unicode_utf8_first)], narrowed := true }
def FnExactInlineVarUptoSaid : Prop := fnExactInlineVarUptoRow.holds Tryz.pinned (OpenSpec.upto fnExactInlineVarSpec)

/-- 'laws.FnExactInlineCall', WHERE WHAT IT READS IS OF BULK AT MOST 1048576: true; the input reads as it did. -/
def fnExactInlineCallUptoRow : OpenClaim := { program := "ytjjigphfjclofaagreatdoor", sum := "ce640dbb18e60825c653ffcba92ca228ab1fac0888b235e2357e24dbc2c13230", func := "loop.example/g00423/laws.FnExactInlineCall", spec := "fnExactInlineCall", inPlace := ["internal/bytealg.CountString", "internal/bytealg.IndexByteString", "internal/bytealg.IndexString"], recurses := true, named := ["unicode/utf8.first", "unicode/utf8.acceptRanges", "internal/bytealg.MaxLen"], apart := false, laid := [("unicode/utf8.acceptRanges", laid_unicode_utf8_acceptRanges), ("unicode/utf8.first", laid_unicode_utf8_first)], narrowed := true }
def FnExactInlineCallUptoSaid : Prop := fnExactInlineCallUptoRow.holds Tryz.pinned (OpenSpec.upto fnExactInlineCallSpec)

/-- 'laws.FnExactExtractFn', WHERE WHAT IT READS IS OF BULK AT MOST 1048576: true; the input reads as it did. -/
def fnExactExtractFnUptoRow : OpenClaim := { program := "ytjjigphfjclofaagreatdoor", sum := "ce640dbb18e60825c653ffcba92ca228ab1fac0888b235e2357e24dbc2c13230", func := "loop.example/g00423/laws.FnExactExtractFn", spec := "fnExactExtractFn", inPlace := ["internal/bytealg.CountString", "internal/bytealg.IndexByteString", "internal/bytealg.IndexString"], recurses := true, named := ["unicode/utf8.first", "unicode/utf8.acceptRanges", "internal/bytealg.MaxLen"], apart := false, laid := [("unicode/utf8.acceptRanges", laid_unicode_utf8_acceptRanges), ("unicode/utf8.first", laid_unicode_utf8_first)], narrowed := true }
def FnExactExtractFnUptoSaid : Prop := fnExactExtractFnUptoRow.holds Tryz.pinned (OpenSpec.upto fnExactExtractFnSpec)

end Rows
end Go.Proofs.YtjjigphfjclofaaGreatDoor
