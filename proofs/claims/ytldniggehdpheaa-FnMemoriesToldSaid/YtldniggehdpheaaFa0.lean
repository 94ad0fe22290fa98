/- Facts of the types, and functions on rows of numbers. No condition beyond those named. -/
import Derived.Test.YtldniggehdpheaaB4
import Derived.Test.YtldniggehdpheaaProg
import Derived.KernelRfl
namespace Go.Proofs.Ytldniggehdpheaa.AW
open Go.RowKit
set_option maxHeartbeats 4000000
set_option maxRecDepth 100000
set_option linter.unusedSimpArgs false
set_option linter.unusedVariables false

theorem sized : Sized Try.prog := sized_of (by kernel_rfl)
theorem mixed : Try.prog.follows .mixedOrders = true := by kernel_rfl
theorem elIntS : elT Try.prog 25 = some 3 := by kernel_rfl
theorem rIntS : isR Try.prog 25 = some false := by kernel_rfl
theorem szIntS' : szT Try.prog 25 = 1 := by kernel_rfl
attribute [go_sem] elIntS rIntS szIntS'
theorem rInt : isR Try.prog 3 = some false := by kernel_rfl
theorem szInt : szT Try.prog 3 = 1 := by kernel_rfl
theorem zInt : zeroCells Try.prog 3 = some [.int .i64 0] := by kernel_rfl
theorem byInt : bytesT Try.prog 3 = 8 := by kernel_rfl
attribute [go_sem] rInt szInt zInt byInt
theorem rStr : isR Try.prog 9 = some false := by kernel_rfl
theorem uStr : Try.prog.underlying 9 = some .string := by kernel_rfl
theorem szStr : szT Try.prog 9 = 1 := by kernel_rfl
theorem byStr : bytesT Try.prog 9 = 16 := by kernel_rfl
attribute [go_sem] rStr uStr szStr byStr
theorem rBool : isR Try.prog 4 = some false := by kernel_rfl
theorem szBool : szT Try.prog 4 = 1 := by kernel_rfl
theorem uBool : Try.prog.underlying 4 = some .bool := by kernel_rfl
attribute [go_sem] rBool szBool uBool
/-- Numbers, to be looked at. -/
abbrev roI (l : List Int) : V := .imm 3 (row1 cI l)
abbrev ro64 (n : Int) : V := .sc (.int .i64 n)

/-- What a row is marked with. -/
def marks (k : Int) (n : Nat) : List Int := (List.range n).map fun (i : Nat) => k + i
theorem marks_length (k : Int) (n : Nat) : (marks k n).length = n := by simp [marks]
theorem marks_get (k : Int) (n i : Nat) (h : i < (marks k n).length) : (marks k n)[i] = k + i := by simp [marks]

theorem in_sound (n lo hi : Int) : Sound Try.prog 63 [.ro (.sc (.int .i64 n)), .ro (.sc (.int .i64 lo)), .ro (.sc (.int .i64 hi))] (fun rs st => rs = [(false, [cB (decide (lo ≤ n) && decide (n ≤ hi))])]) := by
  refine sound_code (fn := Try.f63) (c := Try.f63.body.getD .skip) (res := [.tm 6]) (n := 15) sized (by kernel_rfl) (by rfl) (by kernel_rfl) (by rfl) (by rfl) (by simp [argsV]) (fun C hpin hfull => ?_)
  simp (decide := true) only [Try.f63, cB, go_sem, Nat.reduceAdd, Nat.reduceMul]
  by_cases h : lo ≤ n <;> simp [h]

theorem l01In_sound (n lo hi : Int) : Sound Try.prog 64 [.ro (.sc (.int .i64 n)), .ro (.sc (.int .i64 lo)), .ro (.sc (.int .i64 hi))] (fun rs st => rs = [(false, [cB (decide (lo ≤ n) && decide (n ≤ hi))])]) := by
  refine sound_code (fn := Try.f64) (c := Try.f64.body.getD .skip) (res := [.tm 6]) (n := 15) sized (by kernel_rfl) (by rfl) (by kernel_rfl) (by rfl) (by rfl) (by simp [argsV]) (fun C hpin hfull => ?_)
  simp (decide := true) only [Try.f64, cB, go_sem, Nat.reduceAdd, Nat.reduceMul]
  by_cases h : lo ≤ n <;> simp [h]

end Go.Proofs.Ytldniggehdpheaa.AW
