/- What is asked of a word: its parts. No condition beyond those named. -/
import Derived.Test.YtnbodmohnkohfaaDoorSb
namespace Go.Proofs.YtnbodmohnkohfaaDoor.AW
open Go.RowKit
set_option maxHeartbeats 4000000
set_option maxRecDepth 100000
set_option linter.unusedSimpArgs false
set_option linter.unusedVariables false

def placeB (c : CodeD) (n : Int) : Bool := inI n 0 (c.locals.length - 1)
def isPlaceB (c : CodeD) (n : Int) (has : Bool) : Bool := if has then placeB c n else n == 0
def hasAB (n : Int) : Bool := (inI n 1 17 || n == 19) || n == 20
def hasBB (n : Int) : Bool := ((inI n 2 7 || inI n 9 12) || n == 14) || n == 15
def hasCB (n : Int) : Bool := inI n 10 12

theorem placeS_sound (c : CodeD) (n : Int) (h : c.locals.length ≤ 1048576) : Sound Tryd.prog 51 [.ro (codeW c), .ro (.sc (.int .i64 n))] (fun rs st => rs = [(false, [cB (placeB c n)])]) := by
  refine sound_code (fn := Tryd.f51) (c := Tryd.f51.body.getD .skip) (res := [.tm 4]) (n := 11) sized (by kernel_rfl) (by rfl) (by kernel_rfl) (by rfl) (by rfl) (by simp [argsV]) (fun C hpin hfull => ?_)
  have w1 : IntKind.i64.wrap ((c.locals.length : Int) - 1) = c.locals.length - 1 := w64 (by omega) (by omega)
  simp (decide := true) only [Tryd.f51, w1, codeW, row1_length, rows_length, cI, cB, cS, roI, ro64, hpin, go_sem, Nat.reduceAdd, Nat.reduceMul]
  refine aCall_det (l01In' n 0 (c.locals.length - 1)) hpin ?_
  simp (decide := true) only [placeB, row1_length, rows_length, cI, cB, cS, roI, ro64, hpin, go_sem, Nat.reduceAdd, Nat.reduceMul]

theorem isPlace_sound (c : CodeD) (n : Int) (b : Bool) (h : c.locals.length ≤ 1048576) : Sound Tryd.prog 57 [.ro (codeW c), .ro (.sc (.int .i64 n)), .ro (.sc (.bool b))] (fun rs st => rs = [(false, [cB (isPlaceB c n b)])]) := by
  refine sound_code (fn := Tryd.f57) (c := Tryd.f57.body.getD .skip) (res := [.tm 6]) (n := 16) sized (by kernel_rfl) (by rfl) (by kernel_rfl) (by rfl) (by rfl) (by simp [argsV]) (fun C hpin hfull => ?_)
  have w1 : IntKind.i64.wrap ((c.locals.length : Int) - 1) = c.locals.length - 1 := w64 (by omega) (by omega)
  simp (decide := true) only [Tryd.f57, w1, codeW, row1_length, rows_length, cI, cB, cS, roI, ro64, hpin, go_sem, Nat.reduceAdd, Nat.reduceMul]
  cases b with
  | true =>
    simp (decide := true) only [w1, row1_length, rows_length, cI, cB, cS, roI, ro64, hpin, go_sem, Nat.reduceAdd, Nat.reduceMul]
    refine aCall_det (in' n 0 (c.locals.length - 1)) hpin ?_
    simp (decide := true) only [isPlaceB, placeB, row1_length, rows_length, cI, cB, cS, roI, ro64, hpin, go_sem, Nat.reduceAdd, Nat.reduceMul]
  | false =>
    simp (decide := true) only [isPlaceB, Bool.false_eq_true, if_false, row1_length, rows_length, cI, cB, cS, roI, ro64, hpin, go_sem, Nat.reduceAdd, Nat.reduceMul]

theorem hasA_sound (n : Int) : Sound Tryd.prog 58 [.ro (.sc (.int .i64 n))] (fun rs st => rs = [(false, [cB (hasAB n)])]) := by
  refine sound_code (fn := Tryd.f58) (c := Tryd.f58.body.getD .skip) (res := [.tm 2]) (n := 13) sized (by kernel_rfl) (by rfl) (by kernel_rfl) (by rfl) (by rfl) (by simp [argsV]) (fun C hpin hfull => ?_)
  simp (decide := true) only [Tryd.f58, row1_length, rows_length, cI, cB, cS, roI, ro64, hpin, go_sem, Nat.reduceAdd, Nat.reduceMul]
  refine aCall_det (in' n 1 17) hpin ?_
  simp (decide := true) only [row1_length, rows_length, cI, cB, cS, roI, ro64, hpin, go_sem, Nat.reduceAdd, Nat.reduceMul]
  unfold hasAB
  cases inI n 1 17 <;> cases n == 19 <;> simp

theorem hasCI_sound (n : Int) : Sound Tryd.prog 60 [.ro (.sc (.int .i64 n))] (fun rs st => rs = [(false, [cB (hasCB n)])]) := by
  refine sound_code (fn := Tryd.f60) (c := Tryd.f60.body.getD .skip) (res := [.tm 2]) (n := 5) sized (by kernel_rfl) (by rfl) (by kernel_rfl) (by rfl) (by rfl) (by simp [argsV]) (fun C hpin hfull => ?_)
  simp (decide := true) only [Tryd.f60, row1_length, rows_length, cI, cB, cS, roI, ro64, hpin, go_sem, Nat.reduceAdd, Nat.reduceMul]
  refine aCall_det (in' n 10 12) hpin ?_
  simp (decide := true) only [hasCB, row1_length, rows_length, cI, cB, cS, roI, ro64, hpin, go_sem, Nat.reduceAdd, Nat.reduceMul]

theorem hasCS_sound (n : Int) : Sound Tryd.prog 52 [.ro (.sc (.int .i64 n))] (fun rs st => rs = [(false, [cB (hasCB n)])]) := by
  refine sound_code (fn := Tryd.f52) (c := Tryd.f52.body.getD .skip) (res := [.tm 2]) (n := 5) sized (by kernel_rfl) (by rfl) (by kernel_rfl) (by rfl) (by rfl) (by simp [argsV]) (fun C hpin hfull => ?_)
  simp (decide := true) only [Tryd.f52, row1_length, rows_length, cI, cB, cS, roI, ro64, hpin, go_sem, Nat.reduceAdd, Nat.reduceMul]
  refine aCall_det (l01In' n 10 12) hpin ?_
  simp (decide := true) only [hasCB, row1_length, rows_length, cI, cB, cS, roI, ro64, hpin, go_sem, Nat.reduceAdd, Nat.reduceMul]

theorem hasBI_sound (n : Int) : Sound Tryd.prog 59 [.ro (.sc (.int .i64 n))] (fun rs st => rs = [(false, [cB (hasBB n)])]) := by
  refine sound_code (fn := Tryd.f59) (c := Tryd.f59.body.getD .skip) (res := [.tm 2]) (n := 17) sized (by kernel_rfl) (by rfl) (by kernel_rfl) (by rfl) (by rfl) (by simp [argsV]) (fun C hpin hfull => ?_)
  simp (decide := true) only [Tryd.f59, row1_length, rows_length, cI, cB, cS, roI, ro64, hpin, go_sem, Nat.reduceAdd, Nat.reduceMul]
  refine aCall_det (in' n 2 7) hpin ?_
  simp (decide := true) only [row1_length, rows_length, cI, cB, cS, roI, ro64, hpin, go_sem, Nat.reduceAdd, Nat.reduceMul]
  unfold hasBB
  cases h1 : inI n 2 7 with
  | true => simp (decide := true) only [Bool.true_or, row1_length, rows_length, cI, cB, cS, roI, ro64, hpin, go_sem, Nat.reduceAdd, Nat.reduceMul]
  | false =>
    simp (decide := true) only [row1_length, rows_length, cI, cB, cS, roI, ro64, hpin, go_sem, Nat.reduceAdd, Nat.reduceMul]
    refine aCall_det (in' n 9 12) hpin ?_
    simp (decide := true) only [row1_length, rows_length, cI, cB, cS, roI, ro64, hpin, go_sem, Nat.reduceAdd, Nat.reduceMul]
    cases inI n 9 12 <;> cases n == 14 <;> simp

theorem hasBS_sound (n : Int) : Sound Tryd.prog 50 [.ro (.sc (.int .i64 n))] (fun rs st => rs = [(false, [cB (hasBB n)])]) := by
  refine sound_code (fn := Tryd.f50) (c := Tryd.f50.body.getD .skip) (res := [.tm 2]) (n := 17) sized (by kernel_rfl) (by rfl) (by kernel_rfl) (by rfl) (by rfl) (by simp [argsV]) (fun C hpin hfull => ?_)
  simp (decide := true) only [Tryd.f50, row1_length, rows_length, cI, cB, cS, roI, ro64, hpin, go_sem, Nat.reduceAdd, Nat.reduceMul]
  refine aCall_det (l01In' n 2 7) hpin ?_
  simp (decide := true) only [row1_length, rows_length, cI, cB, cS, roI, ro64, hpin, go_sem, Nat.reduceAdd, Nat.reduceMul]
  unfold hasBB
  cases h1 : inI n 2 7 with
  | true => simp (decide := true) only [Bool.true_or, row1_length, rows_length, cI, cB, cS, roI, ro64, hpin, go_sem, Nat.reduceAdd, Nat.reduceMul]
  | false =>
    simp (decide := true) only [row1_length, rows_length, cI, cB, cS, roI, ro64, hpin, go_sem, Nat.reduceAdd, Nat.reduceMul]
    refine aCall_det (l01In' n 9 12) hpin ?_
    simp (decide := true) only [row1_length, rows_length, cI, cB, cS, roI, ro64, hpin, go_sem, Nat.reduceAdd, Nat.reduceMul]
    cases inI n 9 12 <;> cases n == 14 <;> simp

/-- Is a word's A right? (the reference) -/
def aOkB (c : CodeD) (x : InsD) : Bool :=
  if x.op == 13 || x.op == 20 then x.a == -1 || placeB c x.a
  else if x.op == 18 then x.a == 0
  else placeB c x.a

theorem aOk_sound (c : CodeD) (x : InsD) (h : c.locals.length ≤ 1048576) : Sound Tryd.prog 49 [.ro (codeW c), .ro (insW x)] (fun rs st => rs = [(false, [cB (aOkB c x)])]) := by
  refine sound_code (fn := Tryd.f49) (c := Tryd.f49.body.getD .skip) (res := [.tm 4]) (n := 34) sized (by kernel_rfl) (by rfl) (by kernel_rfl) (by rfl) (by rfl) (by simp [argsV]) (fun C hpin hfull => ?_)
  simp (decide := true) only [Tryd.f49, codeW, insW, row1_length, rows_length, cI, cB, cS, roI, ro64, hpin, go_sem, Nat.reduceAdd, Nat.reduceMul]
  unfold aOkB
  have fin : ∀ (p : Bool), p = p := fun _ => rfl
  cases h1 : x.op == 13 with
  | true =>
    simp (decide := true) only [row1_length, rows_length, cI, cB, cS, roI, ro64, hpin, go_sem, Nat.reduceAdd, Nat.reduceMul]
    cases ha : x.a == -1 with
    | true => simp (decide := true) only [Bool.true_or, row1_length, rows_length, cI, cB, cS, roI, ro64, hpin, go_sem, Nat.reduceAdd, Nat.reduceMul]
    | false =>
      simp (decide := true) only [row1_length, rows_length, cI, cB, cS, roI, ro64, hpin, go_sem, Nat.reduceAdd, Nat.reduceMul]
      refine aCall_det (placeS_sound c x.a h) hpin ?_
      simp (decide := true) only [codeW, Bool.true_or, Bool.false_or, row1_length, rows_length, cI, cB, cS, roI, ro64, hpin, go_sem, Nat.reduceAdd, Nat.reduceMul]
  | false =>
  cases h2 : x.op == 20 with
  | true =>
    simp (decide := true) only [row1_length, rows_length, cI, cB, cS, roI, ro64, hpin, go_sem, Nat.reduceAdd, Nat.reduceMul]
    cases ha : x.a == -1 with
    | true => simp (decide := true) only [Bool.true_or, Bool.or_true, row1_length, rows_length, cI, cB, cS, roI, ro64, hpin, go_sem, Nat.reduceAdd, Nat.reduceMul]
    | false =>
      simp (decide := true) only [row1_length, rows_length, cI, cB, cS, roI, ro64, hpin, go_sem, Nat.reduceAdd, Nat.reduceMul]
      refine aCall_det (placeS_sound c x.a h) hpin ?_
      simp (decide := true) only [codeW, Bool.or_true, Bool.false_or, row1_length, rows_length, cI, cB, cS, roI, ro64, hpin, go_sem, Nat.reduceAdd, Nat.reduceMul]
  | false =>
  simp (decide := true) only [row1_length, rows_length, cI, cB, cS, roI, ro64, hpin, go_sem, Nat.reduceAdd, Nat.reduceMul]
  cases h3 : x.op == 18 with
  | true => simp (decide := true) only [Bool.or_self, Bool.false_eq_true, if_false, row1_length, rows_length, cI, cB, cS, roI, ro64, hpin, go_sem, Nat.reduceAdd, Nat.reduceMul]
  | false =>
    simp (decide := true) only [row1_length, rows_length, cI, cB, cS, roI, ro64, hpin, go_sem, Nat.reduceAdd, Nat.reduceMul]
    refine aCall_det (placeS_sound c x.a h) hpin ?_
    simp (decide := true) only [codeW, Bool.or_self, Bool.false_eq_true, if_false, row1_length, rows_length, cI, cB, cS, roI, ro64, hpin, go_sem, Nat.reduceAdd, Nat.reduceMul]
end Go.Proofs.YtnbodmohnkohfaaDoor.AW
