/-
  No cell of these rows narrows 'for every input' (looked for: loops, veiled, ifaces, maps, wideKeys, modest, calm, conditions, laid).
  DERIVED. THE GIVEN ROWS OF THIS SEAT. 6 by the template 'for every input the law returns true; each argument reads behind the call as it read before'; 0 by the template 'total and deterministic' (their statements: YtlldadbgeomnnaaTotals.lean).
  GIVEN WITH THE SEED: the statements are not yours to turn. If you find one false, say at which input.
  Laid BY PROGRAM, IN A SANDBOX (cutbox-rows.mjs): the forced cells as the released guide's own fill.sh prints them over the translation 8a7cf765037fb975… (all of the seat's roots in one cut). By AI agents, Wed Nov 11 2026. No macro, syntax, notation, axiom, sorry.
-/
import Derived.Test.YtlldadbgeomnnaaChecked
import GoSem.Claim
import GoSem.ClaimJoined
import GoSem.ClaimMapViews
import Derived.JoinedTies
import Derived.KernelRfl
namespace Go.Proofs.Ytlldadbgeomnnaa
/- THE CELL 'sum', in the pinned program and in every row, IS THE sha256 OF THE DUMP (.gsa) THAT YtlldadbgeomnnaaProg.lean LOADS. Nothing in Lean hashes anything: it is a label: what it is worth is what the hold of that sum in a sandbox is worth. -/
noncomputable def Try.pinned : Pinned := { name := "ytlldadbgeomnnaa", sum := "8a7cf765037fb975906dad780f02fc9eba2a34f09f20cf4f28cf0bdcbc5e61c7", checked := Try.checked }
namespace Rows
def none {H : Type} : Left H := { results := [], args := [] }

/-- 'laws.FnExactModeOf': WHATEVER THE INPUT: true; the input reads as it did. -/
def fnExactModeOfSpec : ChangeSpec := { name := "fnExactModeOf", fn := fun _ => fun
  | [d1, d2] => { results := [.lit (.bool true)], args := [d1, d2] }
  | _ => none }
def fnExactModeOfRow : OpenClaim := { program := "ytlldadbgeomnnaa", sum := "8a7cf765037fb975906dad780f02fc9eba2a34f09f20cf4f28cf0bdcbc5e61c7", func := "loop.example/g00423/laws.FnExactModeOf", spec := "fnExactModeOf", apart := false }
def FnExactModeOfSaid : Prop := fnExactModeOfRow.holds Try.pinned (OpenSpec.ofChange fnExactModeOfSpec)

/-- ITS FALSE NEIGHBOUR: 'it returns false'. Refute it at one input. -/
def fnExactModeOfWrong : ChangeSpec := { name := "fnExactModeOf", fn := fun _ => fun
  | [d1, d2] => { results := [.lit (.bool false)], args := [d1, d2] }
  | _ => none }
def FnExactModeOfWrongFalsely : Prop := fnExactModeOfRow.holds Try.pinned (OpenSpec.ofChange fnExactModeOfWrong)

/-- 'laws.FnExactBitsAt': WHATEVER THE INPUT: true; the input reads as it did. -/
def fnExactBitsAtSpec : ChangeSpec := { name := "fnExactBitsAt", fn := fun _ => fun
  | [d1, d2] => { results := [.lit (.bool true)], args := [d1, d2] }
  | _ => none }
def fnExactBitsAtRow : OpenClaim := { program := "ytlldadbgeomnnaa", sum := "8a7cf765037fb975906dad780f02fc9eba2a34f09f20cf4f28cf0bdcbc5e61c7", func := "loop.example/g00423/laws.FnExactBitsAt", spec := "fnExactBitsAt", apart := false }
def FnExactBitsAtSaid : Prop := fnExactBitsAtRow.holds Try.pinned (OpenSpec.ofChange fnExactBitsAtSpec)

/-- ITS FALSE NEIGHBOUR: 'it returns false'. Refute it at one input. -/
def fnExactBitsAtWrong : ChangeSpec := { name := "fnExactBitsAt", fn := fun _ => fun
  | [d1, d2] => { results := [.lit (.bool false)], args := [d1, d2] }
  | _ => none }
def FnExactBitsAtWrongFalsely : Prop := fnExactBitsAtRow.holds Try.pinned (OpenSpec.ofChange fnExactBitsAtWrong)

/-- 'laws.FnExactWrites': WHATEVER THE INPUT: true; the input reads as it did. -/
def fnExactWritesSpec : ChangeSpec := { name := "fnExactWrites", fn := fun _ => fun
  | [d] => { results := [.lit (.bool true)], args := [d] }
  | _ => none }
def fnExactWritesRow : OpenClaim := { program := "ytlldadbgeomnnaa", sum := "8a7cf765037fb975906dad780f02fc9eba2a34f09f20cf4f28cf0bdcbc5e61c7", func := "loop.example/g00423/laws.FnExactWrites", spec := "fnExactWrites", apart := false }
def FnExactWritesSaid : Prop := fnExactWritesRow.holds Try.pinned (OpenSpec.ofChange fnExactWritesSpec)

/-- ITS FALSE NEIGHBOUR: 'it returns false'. Refute it at one input. -/
def fnExactWritesWrong : ChangeSpec := { name := "fnExactWrites", fn := fun _ => fun
  | [d] => { results := [.lit (.bool false)], args := [d] }
  | _ => none }
def FnExactWritesWrongFalsely : Prop := fnExactWritesRow.holds Try.pinned (OpenSpec.ofChange fnExactWritesWrong)

/-- 'laws.FnExactTakes': WHATEVER THE INPUT: true; the input reads as it did. -/
def fnExactTakesSpec : ChangeSpec := { name := "fnExactTakes", fn := fun _ => fun
  | [d1, d2] => { results := [.lit (.bool true)], args := [d1, d2] }
  | _ => none }
def fnExactTakesRow : OpenClaim := { program := "ytlldadbgeomnnaa", sum := "8a7cf765037fb975906dad780f02fc9eba2a34f09f20cf4f28cf0bdcbc5e61c7", func := "loop.example/g00423/laws.FnExactTakes", spec := "fnExactTakes", apart := false }
def FnExactTakesSaid : Prop := fnExactTakesRow.holds Try.pinned (OpenSpec.ofChange fnExactTakesSpec)

/-- ITS FALSE NEIGHBOUR: 'it returns false'. Refute it at one input. -/
def fnExactTakesWrong : ChangeSpec := { name := "fnExactTakes", fn := fun _ => fun
  | [d1, d2] => { results := [.lit (.bool false)], args := [d1, d2] }
  | _ => none }
def FnExactTakesWrongFalsely : Prop := fnExactTakesRow.holds Try.pinned (OpenSpec.ofChange fnExactTakesWrong)

/-- 'laws.FnExactReads': WHATEVER THE INPUT: true; the input reads as it did. -/
def fnExactReadsSpec : ChangeSpec := { name := "fnExactReads", fn := fun _ => fun
  | [d] => { results := [.lit (.bool true)], args := [d] }
  | _ => none }
def fnExactReadsRow : OpenClaim := { program := "ytlldadbgeomnnaa", sum := "8a7cf765037fb975906dad780f02fc9eba2a34f09f20cf4f28cf0bdcbc5e61c7", func := "loop.example/g00423/laws.FnExactReads", spec := "fnExactReads", apart := false }
def FnExactReadsSaid : Prop := fnExactReadsRow.holds Try.pinned (OpenSpec.ofChange fnExactReadsSpec)

/-- ITS FALSE NEIGHBOUR: 'it returns false'. Refute it at one input. -/
def fnExactReadsWrong : ChangeSpec := { name := "fnExactReads", fn := fun _ => fun
  | [d] => { results := [.lit (.bool false)], args := [d] }
  | _ => none }
def FnExactReadsWrongFalsely : Prop := fnExactReadsRow.holds Try.pinned (OpenSpec.ofChange fnExactReadsWrong)

/-- 'laws.FnExactNext': WHATEVER THE INPUT: true; the input reads as it did. -/
def fnExactNextSpec : ChangeSpec := { name := "fnExactNext", fn := fun _ => fun
  | [d1, d2] => { results := [.lit (.bool true)], args := [d1, d2] }
  | _ => none }
def fnExactNextRow : OpenClaim := { program := "ytlldadbgeomnnaa", sum := "8a7cf765037fb975906dad780f02fc9eba2a34f09f20cf4f28cf0bdcbc5e61c7", func := "loop.example/g00423/laws.FnExactNext", spec := "fnExactNext", apart := false }
def FnExactNextSaid : Prop := fnExactNextRow.holds Try.pinned (OpenSpec.ofChange fnExactNextSpec)

/-- ITS FALSE NEIGHBOUR: 'it returns false'. Refute it at one input. -/
def fnExactNextWrong : ChangeSpec := { name := "fnExactNext", fn := fun _ => fun
  | [d1, d2] => { results := [.lit (.bool false)], args := [d1, d2] }
  | _ => none }
def FnExactNextWrongFalsely : Prop := fnExactNextRow.holds Try.pinned (OpenSpec.ofChange fnExactNextWrong)

/- THE SECOND FORM. 'bulk': how many values and letters a reading holds, each counted each time it is reached (what is shared counts as often as it is met; a slice's spare places count too). A statement '..UptoSaid' is the law's where the arguments, and the package variables that the reading takes, are together of bulk at most 1048576: NARROWER than '..Said'. Prove '..Said' where nothing that the law and all that it calls make is longer than what came in: it says more and counts as full. Else prove '..UptoSaid'. A law counts once. -/
mutual
def uptoBulk {H : Type} : DataW H → Nat
  | .lit (.string bytes) => bytes.length + 1
  | .lit _ => 1
  | .nil => 1
  | .ptr d => uptoBulk d + 1
  | .slice elems spare => uptoBulkAll elems + uptoBulkAll spare + 1
  | .agg parts => uptoBulkAll parts + 1
  | .iface _ d => uptoBulk d + 1
  | .map entries => uptoBulkEntries entries + 1
  | .held _ => 1
def uptoBulkAll {H : Type} : List (DataW H) → Nat
  | [] => 0
  | d :: r => uptoBulk d + uptoBulkAll r
def uptoBulkEntries {H : Type} : List (Lit × DataW H) → Nat
  | [] => 0
  | x :: r => uptoBulkEntry x + uptoBulkEntries r
def uptoBulkEntry {H : Type} : Lit × DataW H → Nat
  | (.string bytes, d) => bytes.length + uptoBulk d + 1
  | (_, d) => uptoBulk d + 1
 end
def uptoSmall : (H : Type) → List (DataW H) → Bool := fun _ ds => decide (uptoBulkAll ds ≤ 1048576)
def OpenSpec.upto (s : _root_.Go.ChangeSpec) : _root_.Go.OpenSpec := { _root_.Go.OpenSpec.ofChange s with cond := some uptoSmall }

/-- 'laws.FnExactModeOf', WHERE WHAT IT READS IS OF BULK AT MOST 1048576: true; the input reads as it did. -/
def fnExactModeOfUptoRow : OpenClaim := { program := "ytlldadbgeomnnaa", sum := "8a7cf765037fb975906dad780f02fc9eba2a34f09f20cf4f28cf0bdcbc5e61c7", func := "loop.example/g00423/laws.FnExactModeOf", spec := "fnExactModeOf", apart := false, narrowed := true }
def FnExactModeOfUptoSaid : Prop := fnExactModeOfUptoRow.holds Try.pinned (OpenSpec.upto fnExactModeOfSpec)

/-- 'laws.FnExactBitsAt', WHERE WHAT IT READS IS OF BULK AT MOST 1048576: true; the input reads as it did. -/
def fnExactBitsAtUptoRow : OpenClaim := { program := "ytlldadbgeomnnaa", sum := "8a7cf765037fb975906dad780f02fc9eba2a34f09f20cf4f28cf0bdcbc5e61c7", func := "loop.example/g00423/laws.FnExactBitsAt", spec := "fnExactBitsAt", apart := false, narrowed := true }
def FnExactBitsAtUptoSaid : Prop := fnExactBitsAtUptoRow.holds Try.pinned (OpenSpec.upto fnExactBitsAtSpec)

/-- 'laws.FnExactWrites', WHERE WHAT IT READS IS OF BULK AT MOST 1048576: true; the input reads as it did. -/
def fnExactWritesUptoRow : OpenClaim := { program := "ytlldadbgeomnnaa", sum := "8a7cf765037fb975906dad780f02fc9eba2a34f09f20cf4f28cf0bdcbc5e61c7", func := "loop.example/g00423/laws.FnExactWrites", spec := "fnExactWrites", apart := false, narrowed := true }
def FnExactWritesUptoSaid : Prop := fnExactWritesUptoRow.holds Try.pinned (OpenSpec.upto fnExactWritesSpec)

/-- 'laws.FnExactTakes', WHERE WHAT IT READS IS OF BULK AT MOST 1048576: true; the input reads as it did. -/
def fnExactTakesUptoRow : OpenClaim := { program := "ytlldadbgeomnnaa", sum := "8a7cf765037fb975906dad780f02fc9eba2a34f09f20cf4f28cf0bdcbc5e61c7", func := "loop.example/g00423/laws.FnExactTakes", spec := "fnExactTakes", apart := false, narrowed := true }
def FnExactTakesUptoSaid : Prop := fnExactTakesUptoRow.holds Try.pinned (OpenSpec.upto fnExactTakesSpec)

/-- 'laws.FnExactReads', WHERE WHAT IT READS IS OF BULK AT MOST 1048576: true; the input reads as it did. -/
def fnExactReadsUptoRow : OpenClaim := { program := "ytlldadbgeomnnaa", sum := "8a7cf765037fb975906dad780f02fc9eba2a34f09f20cf4f28cf0bdcbc5e61c7", func := "loop.example/g00423/laws.FnExactReads", spec := "fnExactReads", apart := false, narrowed := true }
def FnExactReadsUptoSaid : Prop := fnExactReadsUptoRow.holds Try.pinned (OpenSpec.upto fnExactReadsSpec)

/-- 'laws.FnExactNext', WHERE WHAT IT READS IS OF BULK AT MOST 1048576: true; the input reads as it did. -/
def fnExactNextUptoRow : OpenClaim := { program := "ytlldadbgeomnnaa", sum := "8a7cf765037fb975906dad780f02fc9eba2a34f09f20cf4f28cf0bdcbc5e61c7", func := "loop.example/g00423/laws.FnExactNext", spec := "fnExactNext", apart := false, narrowed := true }
def FnExactNextUptoSaid : Prop := fnExactNextUptoRow.holds Try.pinned (OpenSpec.upto fnExactNextSpec)

end Rows
end Go.Proofs.Ytlldadbgeomnnaa
