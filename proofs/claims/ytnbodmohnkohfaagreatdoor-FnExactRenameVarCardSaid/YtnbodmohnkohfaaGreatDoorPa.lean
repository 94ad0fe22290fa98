/- Kinds of nodes: what the small functions answer. No condition beyond those named. -/
import Derived.Test.YtnbodmohnkohfaaGreatDoorSb
namespace Go.Proofs.YtnbodmohnkohfaaGreatDoor.AW
open Go.RowKit
set_option maxHeartbeats 8000000
set_option maxRecDepth 100000
set_option linter.unusedSimpArgs false
set_option linter.unusedVariables false

def isValB (k : Int) : Bool := inI k 1 12
def isStepB (k : Int) : Bool := inI k 13 19
def hasNameB (k : Int) : Bool := inI k 2 6 || inI k 12 15
def shapeI (k : Int) : Int × Int :=
  if k == 8 then (1, 1) else if k == 13 then (1, 1) else if k == 14 then (1, 1) else if k == 15 then (1, 1) else if k == 18 then (1, 1) else if k == 19 then (1, 1)
  else if k == 9 then (2, 2) else if k == 10 then (2, 2) else if k == 11 then (2, 2) else if k == 17 then (2, 2)
  else if k == 16 then (3, 3) else if k == 12 then (0, 3) else if k == 20 then (0, 12) else (0, 0)
def fitsB (kind i kid : Int) : Bool := if kind == 20 then isStepB kid else if (kind == 16 || kind == 17) && decide (0 < i) then kid == 20 else if kind == 19 then kid == 12 else isValB kid

theorem isValI_sound (k : Int) : Sound Tryz.prog 162 [.ro (.sc (.int .i64 k))] (fun rs st => rs = [(false, [cB (isValB k)])]) := by
  refine sound_code (fn := Tryz.f162) (c := Tryz.f162.body.getD .skip) (res := [.tm 2]) (n := 5) sized (by kernel_rfl) (by rfl) (by kernel_rfl) (by rfl) (by rfl) (by simp [argsV]) (fun C hpin hfull => ?_)
  simp (decide := true) only [Tryz.f162, row1_length, rows_length, cI, cB, cS, roI, ro64, hpin, go_sem, Nat.reduceAdd, Nat.reduceMul]
  refine aCall_det (in' k 1 12) hpin ?_
  simp (decide := true) only [isValB, row1_length, rows_length, cI, cB, cS, roI, ro64, hpin, go_sem, Nat.reduceAdd, Nat.reduceMul]
theorem isStepI_sound (k : Int) : Sound Tryz.prog 213 [.ro (.sc (.int .i64 k))] (fun rs st => rs = [(false, [cB (isStepB k)])]) := by
  refine sound_code (fn := Tryz.f213) (c := Tryz.f213.body.getD .skip) (res := [.tm 2]) (n := 5) sized (by kernel_rfl) (by rfl) (by kernel_rfl) (by rfl) (by rfl) (by simp [argsV]) (fun C hpin hfull => ?_)
  simp (decide := true) only [Tryz.f213, row1_length, rows_length, cI, cB, cS, roI, ro64, hpin, go_sem, Nat.reduceAdd, Nat.reduceMul]
  refine aCall_det (in' k 13 19) hpin ?_
  simp (decide := true) only [isStepB, row1_length, rows_length, cI, cB, cS, roI, ro64, hpin, go_sem, Nat.reduceAdd, Nat.reduceMul]
theorem isValS_sound (k : Int) : Sound Tryz.prog 155 [.ro (.sc (.int .i64 k))] (fun rs st => rs = [(false, [cB (isValB k)])]) := by
  refine sound_code (fn := Tryz.f155) (c := Tryz.f155.body.getD .skip) (res := [.tm 2]) (n := 5) sized (by kernel_rfl) (by rfl) (by kernel_rfl) (by rfl) (by rfl) (by simp [argsV]) (fun C hpin hfull => ?_)
  simp (decide := true) only [Tryz.f155, row1_length, rows_length, cI, cB, cS, roI, ro64, hpin, go_sem, Nat.reduceAdd, Nat.reduceMul]
  refine aCall_det (l01In' k 1 12) hpin ?_
  simp (decide := true) only [isValB, row1_length, rows_length, cI, cB, cS, roI, ro64, hpin, go_sem, Nat.reduceAdd, Nat.reduceMul]
theorem isStepS_sound (k : Int) : Sound Tryz.prog 197 [.ro (.sc (.int .i64 k))] (fun rs st => rs = [(false, [cB (isStepB k)])]) := by
  refine sound_code (fn := Tryz.f197) (c := Tryz.f197.body.getD .skip) (res := [.tm 2]) (n := 5) sized (by kernel_rfl) (by rfl) (by kernel_rfl) (by rfl) (by rfl) (by simp [argsV]) (fun C hpin hfull => ?_)
  simp (decide := true) only [Tryz.f197, row1_length, rows_length, cI, cB, cS, roI, ro64, hpin, go_sem, Nat.reduceAdd, Nat.reduceMul]
  refine aCall_det (l01In' k 13 19) hpin ?_
  simp (decide := true) only [isStepB, row1_length, rows_length, cI, cB, cS, roI, ro64, hpin, go_sem, Nat.reduceAdd, Nat.reduceMul]
theorem hasNameI_sound (k : Int) : Sound Tryz.prog 107 [.ro (.sc (.int .i64 k))] (fun rs st => rs = [(false, [cB (hasNameB k)])]) := by
  refine sound_code (fn := Tryz.f107) (c := Tryz.f107.body.getD .skip) (res := [.tm 2]) (n := 9) sized (by kernel_rfl) (by rfl) (by kernel_rfl) (by rfl) (by rfl) (by simp [argsV]) (fun C hpin hfull => ?_)
  simp (decide := true) only [Tryz.f107, row1_length, rows_length, cI, cB, cS, roI, ro64, hpin, go_sem, Nat.reduceAdd, Nat.reduceMul]
  refine aCall_det (in' k 2 6) hpin ?_
  simp (decide := true) only [row1_length, rows_length, cI, cB, cS, roI, ro64, hpin, go_sem, Nat.reduceAdd, Nat.reduceMul]
  unfold hasNameB
  cases h1 : inI k 2 6 with
  | true => simp (decide := true) only [Bool.true_or, row1_length, rows_length, cI, cB, cS, roI, ro64, hpin, go_sem, Nat.reduceAdd, Nat.reduceMul]
  | false =>
    simp (decide := true) only [row1_length, rows_length, cI, cB, cS, roI, ro64, hpin, go_sem, Nat.reduceAdd, Nat.reduceMul]
    refine aCall_det (in' k 12 15) hpin ?_
    simp (decide := true) only [Bool.false_or, row1_length, rows_length, cI, cB, cS, roI, ro64, hpin, go_sem, Nat.reduceAdd, Nat.reduceMul]
theorem named_sound (k : Int) : Sound Tryz.prog 176 [.ro (.sc (.int .i64 k))] (fun rs st => rs = [(false, [cB (hasNameB k)])]) := by
  refine sound_code (fn := Tryz.f176) (c := Tryz.f176.body.getD .skip) (res := [.tm 2]) (n := 14) sized (by kernel_rfl) (by rfl) (by kernel_rfl) (by rfl) (by rfl) (by simp [argsV]) (fun C hpin hfull => ?_)
  simp (decide := true) only [Tryz.f176, row1_length, rows_length, cI, cB, cS, roI, ro64, hpin, go_sem, Nat.reduceAdd, Nat.reduceMul]
  cases h2 : k == 2 with
  | true =>
    have hk : k = 2 := by simpa using h2
    have hr : hasNameB k = true := by rw [hk]; decide
    simp (decide := true) only [h2, hr, row1_length, rows_length, cI, cB, cS, roI, ro64, hpin, go_sem, Nat.reduceAdd, Nat.reduceMul]
  | false =>
  simp (decide := true) only [h2, row1_length, rows_length, cI, cB, cS, roI, ro64, hpin, go_sem, Nat.reduceAdd, Nat.reduceMul]
  cases h3 : k == 3 with
  | true =>
    have hk : k = 3 := by simpa using h3
    have hr : hasNameB k = true := by rw [hk]; decide
    simp (decide := true) only [h3, hr, row1_length, rows_length, cI, cB, cS, roI, ro64, hpin, go_sem, Nat.reduceAdd, Nat.reduceMul]
  | false =>
  simp (decide := true) only [h3, row1_length, rows_length, cI, cB, cS, roI, ro64, hpin, go_sem, Nat.reduceAdd, Nat.reduceMul]
  cases h4 : k == 4 with
  | true =>
    have hk : k = 4 := by simpa using h4
    have hr : hasNameB k = true := by rw [hk]; decide
    simp (decide := true) only [h4, hr, row1_length, rows_length, cI, cB, cS, roI, ro64, hpin, go_sem, Nat.reduceAdd, Nat.reduceMul]
  | false =>
  simp (decide := true) only [h4, row1_length, rows_length, cI, cB, cS, roI, ro64, hpin, go_sem, Nat.reduceAdd, Nat.reduceMul]
  cases h5 : k == 5 with
  | true =>
    have hk : k = 5 := by simpa using h5
    have hr : hasNameB k = true := by rw [hk]; decide
    simp (decide := true) only [h5, hr, row1_length, rows_length, cI, cB, cS, roI, ro64, hpin, go_sem, Nat.reduceAdd, Nat.reduceMul]
  | false =>
  simp (decide := true) only [h5, row1_length, rows_length, cI, cB, cS, roI, ro64, hpin, go_sem, Nat.reduceAdd, Nat.reduceMul]
  cases h6 : k == 6 with
  | true =>
    have hk : k = 6 := by simpa using h6
    have hr : hasNameB k = true := by rw [hk]; decide
    simp (decide := true) only [h6, hr, row1_length, rows_length, cI, cB, cS, roI, ro64, hpin, go_sem, Nat.reduceAdd, Nat.reduceMul]
  | false =>
  simp (decide := true) only [h6, row1_length, rows_length, cI, cB, cS, roI, ro64, hpin, go_sem, Nat.reduceAdd, Nat.reduceMul]
  cases h12 : k == 12 with
  | true =>
    have hk : k = 12 := by simpa using h12
    have hr : hasNameB k = true := by rw [hk]; decide
    simp (decide := true) only [h12, hr, row1_length, rows_length, cI, cB, cS, roI, ro64, hpin, go_sem, Nat.reduceAdd, Nat.reduceMul]
  | false =>
  simp (decide := true) only [h12, row1_length, rows_length, cI, cB, cS, roI, ro64, hpin, go_sem, Nat.reduceAdd, Nat.reduceMul]
  cases h13 : k == 13 with
  | true =>
    have hk : k = 13 := by simpa using h13
    have hr : hasNameB k = true := by rw [hk]; decide
    simp (decide := true) only [h13, hr, row1_length, rows_length, cI, cB, cS, roI, ro64, hpin, go_sem, Nat.reduceAdd, Nat.reduceMul]
  | false =>
  simp (decide := true) only [h13, row1_length, rows_length, cI, cB, cS, roI, ro64, hpin, go_sem, Nat.reduceAdd, Nat.reduceMul]
  cases h14 : k == 14 with
  | true =>
    have hk : k = 14 := by simpa using h14
    have hr : hasNameB k = true := by rw [hk]; decide
    simp (decide := true) only [h14, hr, row1_length, rows_length, cI, cB, cS, roI, ro64, hpin, go_sem, Nat.reduceAdd, Nat.reduceMul]
  | false =>
  simp (decide := true) only [h14, row1_length, rows_length, cI, cB, cS, roI, ro64, hpin, go_sem, Nat.reduceAdd, Nat.reduceMul]
  cases h15 : k == 15 with
  | true =>
    have hk : k = 15 := by simpa using h15
    have hr : hasNameB k = true := by rw [hk]; decide
    simp (decide := true) only [h15, hr, row1_length, rows_length, cI, cB, cS, roI, ro64, hpin, go_sem, Nat.reduceAdd, Nat.reduceMul]
  | false =>
  simp (decide := true) only [h15, row1_length, rows_length, cI, cB, cS, roI, ro64, hpin, go_sem, Nat.reduceAdd, Nat.reduceMul]
  have hr : hasNameB k = false := by simp at h2 h3 h4 h5 h6 h12 h13 h14 h15; simp [hasNameB, inI]; omega
  simp (decide := true) only [hr, row1_length, rows_length, cI, cB, cS, roI, ro64, hpin, go_sem, Nat.reduceAdd, Nat.reduceMul]
theorem shapeI_sound (k : Int) : Sound Tryz.prog 201 [.ro (.sc (.int .i64 k))] (fun rs st => rs = [(false, [cI (shapeI k).1]), (false, [cI (shapeI k).2])]) := by
  refine sound_code (fn := Tryz.f201) (c := Tryz.f201.body.getD .skip) (res := [.tm 2, .tm 3]) (n := 23) sized (by kernel_rfl) (by rfl) (by kernel_rfl) (by rfl) (by rfl) (by simp [argsV]) (fun C hpin hfull => ?_)
  simp (decide := true) only [Tryz.f201, row1_length, rows_length, cI, cB, cS, roI, ro64, hpin, go_sem, Nat.reduceAdd, Nat.reduceMul]
  cases h8 : k == 8 with
  | true =>
    have hk : k = 8 := by simpa using h8
    have hr : shapeI k = (1, 1) := by rw [hk]; decide
    simp (decide := true) only [h8, hr, row1_length, rows_length, cI, cB, cS, roI, ro64, hpin, go_sem, Nat.reduceAdd, Nat.reduceMul]
  | false =>
  simp (decide := true) only [h8, row1_length, rows_length, cI, cB, cS, roI, ro64, hpin, go_sem, Nat.reduceAdd, Nat.reduceMul]
  cases h13 : k == 13 with
  | true =>
    have hk : k = 13 := by simpa using h13
    have hr : shapeI k = (1, 1) := by rw [hk]; decide
    simp (decide := true) only [h13, hr, row1_length, rows_length, cI, cB, cS, roI, ro64, hpin, go_sem, Nat.reduceAdd, Nat.reduceMul]
  | false =>
  simp (decide := true) only [h13, row1_length, rows_length, cI, cB, cS, roI, ro64, hpin, go_sem, Nat.reduceAdd, Nat.reduceMul]
  cases h14 : k == 14 with
  | true =>
    have hk : k = 14 := by simpa using h14
    have hr : shapeI k = (1, 1) := by rw [hk]; decide
    simp (decide := true) only [h14, hr, row1_length, rows_length, cI, cB, cS, roI, ro64, hpin, go_sem, Nat.reduceAdd, Nat.reduceMul]
  | false =>
  simp (decide := true) only [h14, row1_length, rows_length, cI, cB, cS, roI, ro64, hpin, go_sem, Nat.reduceAdd, Nat.reduceMul]
  cases h15 : k == 15 with
  | true =>
    have hk : k = 15 := by simpa using h15
    have hr : shapeI k = (1, 1) := by rw [hk]; decide
    simp (decide := true) only [h15, hr, row1_length, rows_length, cI, cB, cS, roI, ro64, hpin, go_sem, Nat.reduceAdd, Nat.reduceMul]
  | false =>
  simp (decide := true) only [h15, row1_length, rows_length, cI, cB, cS, roI, ro64, hpin, go_sem, Nat.reduceAdd, Nat.reduceMul]
  cases h18 : k == 18 with
  | true =>
    have hk : k = 18 := by simpa using h18
    have hr : shapeI k = (1, 1) := by rw [hk]; decide
    simp (decide := true) only [h18, hr, row1_length, rows_length, cI, cB, cS, roI, ro64, hpin, go_sem, Nat.reduceAdd, Nat.reduceMul]
  | false =>
  simp (decide := true) only [h18, row1_length, rows_length, cI, cB, cS, roI, ro64, hpin, go_sem, Nat.reduceAdd, Nat.reduceMul]
  cases h19 : k == 19 with
  | true =>
    have hk : k = 19 := by simpa using h19
    have hr : shapeI k = (1, 1) := by rw [hk]; decide
    simp (decide := true) only [h19, hr, row1_length, rows_length, cI, cB, cS, roI, ro64, hpin, go_sem, Nat.reduceAdd, Nat.reduceMul]
  | false =>
  simp (decide := true) only [h19, row1_length, rows_length, cI, cB, cS, roI, ro64, hpin, go_sem, Nat.reduceAdd, Nat.reduceMul]
  cases h9 : k == 9 with
  | true =>
    have hk : k = 9 := by simpa using h9
    have hr : shapeI k = (2, 2) := by rw [hk]; decide
    simp (decide := true) only [h9, hr, row1_length, rows_length, cI, cB, cS, roI, ro64, hpin, go_sem, Nat.reduceAdd, Nat.reduceMul]
  | false =>
  simp (decide := true) only [h9, row1_length, rows_length, cI, cB, cS, roI, ro64, hpin, go_sem, Nat.reduceAdd, Nat.reduceMul]
  cases h10 : k == 10 with
  | true =>
    have hk : k = 10 := by simpa using h10
    have hr : shapeI k = (2, 2) := by rw [hk]; decide
    simp (decide := true) only [h10, hr, row1_length, rows_length, cI, cB, cS, roI, ro64, hpin, go_sem, Nat.reduceAdd, Nat.reduceMul]
  | false =>
  simp (decide := true) only [h10, row1_length, rows_length, cI, cB, cS, roI, ro64, hpin, go_sem, Nat.reduceAdd, Nat.reduceMul]
  cases h11 : k == 11 with
  | true =>
    have hk : k = 11 := by simpa using h11
    have hr : shapeI k = (2, 2) := by rw [hk]; decide
    simp (decide := true) only [h11, hr, row1_length, rows_length, cI, cB, cS, roI, ro64, hpin, go_sem, Nat.reduceAdd, Nat.reduceMul]
  | false =>
  simp (decide := true) only [h11, row1_length, rows_length, cI, cB, cS, roI, ro64, hpin, go_sem, Nat.reduceAdd, Nat.reduceMul]
  cases h17 : k == 17 with
  | true =>
    have hk : k = 17 := by simpa using h17
    have hr : shapeI k = (2, 2) := by rw [hk]; decide
    simp (decide := true) only [h17, hr, row1_length, rows_length, cI, cB, cS, roI, ro64, hpin, go_sem, Nat.reduceAdd, Nat.reduceMul]
  | false =>
  simp (decide := true) only [h17, row1_length, rows_length, cI, cB, cS, roI, ro64, hpin, go_sem, Nat.reduceAdd, Nat.reduceMul]
  cases h16 : k == 16 with
  | true =>
    have hk : k = 16 := by simpa using h16
    have hr : shapeI k = (3, 3) := by rw [hk]; decide
    simp (decide := true) only [h16, hr, row1_length, rows_length, cI, cB, cS, roI, ro64, hpin, go_sem, Nat.reduceAdd, Nat.reduceMul]
  | false =>
  simp (decide := true) only [h16, row1_length, rows_length, cI, cB, cS, roI, ro64, hpin, go_sem, Nat.reduceAdd, Nat.reduceMul]
  cases h12 : k == 12 with
  | true =>
    have hk : k = 12 := by simpa using h12
    have hr : shapeI k = (0, 3) := by rw [hk]; decide
    simp (decide := true) only [h12, hr, row1_length, rows_length, cI, cB, cS, roI, ro64, hpin, go_sem, Nat.reduceAdd, Nat.reduceMul]
  | false =>
  simp (decide := true) only [h12, row1_length, rows_length, cI, cB, cS, roI, ro64, hpin, go_sem, Nat.reduceAdd, Nat.reduceMul]
  cases h20 : k == 20 with
  | true =>
    have hk : k = 20 := by simpa using h20
    have hr : shapeI k = (0, 12) := by rw [hk]; decide
    simp (decide := true) only [h20, hr, row1_length, rows_length, cI, cB, cS, roI, ro64, hpin, go_sem, Nat.reduceAdd, Nat.reduceMul]
  | false =>
  simp (decide := true) only [h20, row1_length, rows_length, cI, cB, cS, roI, ro64, hpin, go_sem, Nat.reduceAdd, Nat.reduceMul]
  have hr : shapeI k = (0, 0) := by simp only [shapeI, h8, h13, h14, h15, h18, h19, h9, h10, h11, h17, h16, h12, h20, Bool.false_eq_true, if_false]
  simp (decide := true) only [hr, row1_length, rows_length, cI, cB, cS, roI, ro64, hpin, go_sem, Nat.reduceAdd, Nat.reduceMul]
theorem shapeS_sound (k : Int) : Sound Tryz.prog 175 [.ro (.sc (.int .i64 k))] (fun rs st => rs = [(false, [cI (shapeI k).1]), (false, [cI (shapeI k).2])]) := by
  refine sound_code (fn := Tryz.f175) (c := Tryz.f175.body.getD .skip) (res := [.tm 2, .tm 3]) (n := 23) sized (by kernel_rfl) (by rfl) (by kernel_rfl) (by rfl) (by rfl) (by simp [argsV]) (fun C hpin hfull => ?_)
  simp (decide := true) only [Tryz.f175, row1_length, rows_length, cI, cB, cS, roI, ro64, hpin, go_sem, Nat.reduceAdd, Nat.reduceMul]
  cases h8 : k == 8 with
  | true =>
    have hk : k = 8 := by simpa using h8
    have hr : shapeI k = (1, 1) := by rw [hk]; decide
    simp (decide := true) only [h8, hr, row1_length, rows_length, cI, cB, cS, roI, ro64, hpin, go_sem, Nat.reduceAdd, Nat.reduceMul]
  | false =>
  simp (decide := true) only [h8, row1_length, rows_length, cI, cB, cS, roI, ro64, hpin, go_sem, Nat.reduceAdd, Nat.reduceMul]
  cases h13 : k == 13 with
  | true =>
    have hk : k = 13 := by simpa using h13
    have hr : shapeI k = (1, 1) := by rw [hk]; decide
    simp (decide := true) only [h13, hr, row1_length, rows_length, cI, cB, cS, roI, ro64, hpin, go_sem, Nat.reduceAdd, Nat.reduceMul]
  | false =>
  simp (decide := true) only [h13, row1_length, rows_length, cI, cB, cS, roI, ro64, hpin, go_sem, Nat.reduceAdd, Nat.reduceMul]
  cases h14 : k == 14 with
  | true =>
    have hk : k = 14 := by simpa using h14
    have hr : shapeI k = (1, 1) := by rw [hk]; decide
    simp (decide := true) only [h14, hr, row1_length, rows_length, cI, cB, cS, roI, ro64, hpin, go_sem, Nat.reduceAdd, Nat.reduceMul]
  | false =>
  simp (decide := true) only [h14, row1_length, rows_length, cI, cB, cS, roI, ro64, hpin, go_sem, Nat.reduceAdd, Nat.reduceMul]
  cases h15 : k == 15 with
  | true =>
    have hk : k = 15 := by simpa using h15
    have hr : shapeI k = (1, 1) := by rw [hk]; decide
    simp (decide := true) only [h15, hr, row1_length, rows_length, cI, cB, cS, roI, ro64, hpin, go_sem, Nat.reduceAdd, Nat.reduceMul]
  | false =>
  simp (decide := true) only [h15, row1_length, rows_length, cI, cB, cS, roI, ro64, hpin, go_sem, Nat.reduceAdd, Nat.reduceMul]
  cases h18 : k == 18 with
  | true =>
    have hk : k = 18 := by simpa using h18
    have hr : shapeI k = (1, 1) := by rw [hk]; decide
    simp (decide := true) only [h18, hr, row1_length, rows_length, cI, cB, cS, roI, ro64, hpin, go_sem, Nat.reduceAdd, Nat.reduceMul]
  | false =>
  simp (decide := true) only [h18, row1_length, rows_length, cI, cB, cS, roI, ro64, hpin, go_sem, Nat.reduceAdd, Nat.reduceMul]
  cases h19 : k == 19 with
  | true =>
    have hk : k = 19 := by simpa using h19
    have hr : shapeI k = (1, 1) := by rw [hk]; decide
    simp (decide := true) only [h19, hr, row1_length, rows_length, cI, cB, cS, roI, ro64, hpin, go_sem, Nat.reduceAdd, Nat.reduceMul]
  | false =>
  simp (decide := true) only [h19, row1_length, rows_length, cI, cB, cS, roI, ro64, hpin, go_sem, Nat.reduceAdd, Nat.reduceMul]
  cases h9 : k == 9 with
  | true =>
    have hk : k = 9 := by simpa using h9
    have hr : shapeI k = (2, 2) := by rw [hk]; decide
    simp (decide := true) only [h9, hr, row1_length, rows_length, cI, cB, cS, roI, ro64, hpin, go_sem, Nat.reduceAdd, Nat.reduceMul]
  | false =>
  simp (decide := true) only [h9, row1_length, rows_length, cI, cB, cS, roI, ro64, hpin, go_sem, Nat.reduceAdd, Nat.reduceMul]
  cases h10 : k == 10 with
  | true =>
    have hk : k = 10 := by simpa using h10
    have hr : shapeI k = (2, 2) := by rw [hk]; decide
    simp (decide := true) only [h10, hr, row1_length, rows_length, cI, cB, cS, roI, ro64, hpin, go_sem, Nat.reduceAdd, Nat.reduceMul]
  | false =>
  simp (decide := true) only [h10, row1_length, rows_length, cI, cB, cS, roI, ro64, hpin, go_sem, Nat.reduceAdd, Nat.reduceMul]
  cases h11 : k == 11 with
  | true =>
    have hk : k = 11 := by simpa using h11
    have hr : shapeI k = (2, 2) := by rw [hk]; decide
    simp (decide := true) only [h11, hr, row1_length, rows_length, cI, cB, cS, roI, ro64, hpin, go_sem, Nat.reduceAdd, Nat.reduceMul]
  | false =>
  simp (decide := true) only [h11, row1_length, rows_length, cI, cB, cS, roI, ro64, hpin, go_sem, Nat.reduceAdd, Nat.reduceMul]
  cases h17 : k == 17 with
  | true =>
    have hk : k = 17 := by simpa using h17
    have hr : shapeI k = (2, 2) := by rw [hk]; decide
    simp (decide := true) only [h17, hr, row1_length, rows_length, cI, cB, cS, roI, ro64, hpin, go_sem, Nat.reduceAdd, Nat.reduceMul]
  | false =>
  simp (decide := true) only [h17, row1_length, rows_length, cI, cB, cS, roI, ro64, hpin, go_sem, Nat.reduceAdd, Nat.reduceMul]
  cases h12 : k == 12 with
  | true =>
    have hk : k = 12 := by simpa using h12
    have hr : shapeI k = (0, 3) := by rw [hk]; decide
    simp (decide := true) only [h12, hr, row1_length, rows_length, cI, cB, cS, roI, ro64, hpin, go_sem, Nat.reduceAdd, Nat.reduceMul]
  | false =>
  simp (decide := true) only [h12, row1_length, rows_length, cI, cB, cS, roI, ro64, hpin, go_sem, Nat.reduceAdd, Nat.reduceMul]
  cases h16 : k == 16 with
  | true =>
    have hk : k = 16 := by simpa using h16
    have hr : shapeI k = (3, 3) := by rw [hk]; decide
    simp (decide := true) only [h16, hr, row1_length, rows_length, cI, cB, cS, roI, ro64, hpin, go_sem, Nat.reduceAdd, Nat.reduceMul]
  | false =>
  simp (decide := true) only [h16, row1_length, rows_length, cI, cB, cS, roI, ro64, hpin, go_sem, Nat.reduceAdd, Nat.reduceMul]
  cases h20 : k == 20 with
  | true =>
    have hk : k = 20 := by simpa using h20
    have hr : shapeI k = (0, 12) := by rw [hk]; decide
    simp (decide := true) only [h20, hr, row1_length, rows_length, cI, cB, cS, roI, ro64, hpin, go_sem, Nat.reduceAdd, Nat.reduceMul]
  | false =>
  simp (decide := true) only [h20, row1_length, rows_length, cI, cB, cS, roI, ro64, hpin, go_sem, Nat.reduceAdd, Nat.reduceMul]
  have hr : shapeI k = (0, 0) := by simp only [shapeI, h8, h13, h14, h15, h18, h19, h9, h10, h11, h17, h12, h16, h20, Bool.false_eq_true, if_false]
  simp (decide := true) only [hr, row1_length, rows_length, cI, cB, cS, roI, ro64, hpin, go_sem, Nat.reduceAdd, Nat.reduceMul]
theorem fitsI_sound (k i j : Int) : Sound Tryz.prog 202 [.ro (.sc (.int .i64 k)), .ro (.sc (.int .i64 i)), .ro (.sc (.int .i64 j))] (fun rs st => rs = [(false, [cB (fitsB k i j)])]) := by
  refine sound_code (fn := Tryz.f202) (c := Tryz.f202.body.getD .skip) (res := [.tm 6]) (n := 32) sized (by kernel_rfl) (by rfl) (by kernel_rfl) (by rfl) (by rfl) (by simp [argsV]) (fun C hpin hfull => ?_)
  simp (decide := true) only [Tryz.f202, row1_length, rows_length, cI, cB, cS, roI, ro64, hpin, go_sem, Nat.reduceAdd, Nat.reduceMul]
  cases h20 : k == 20 with
  | true =>
    have hr : fitsB k i j = isStepB j := by simp [fitsB, h20]
    simp (decide := true) only [h20, row1_length, rows_length, cI, cB, cS, roI, ro64, hpin, go_sem, Nat.reduceAdd, Nat.reduceMul]
    refine aCall_det (isStepI_sound j) hpin ?_
    simp (decide := true) only [hr, row1_length, rows_length, cI, cB, cS, roI, ro64, hpin, go_sem, Nat.reduceAdd, Nat.reduceMul]
  | false =>
  simp (decide := true) only [h20, row1_length, rows_length, cI, cB, cS, roI, ro64, hpin, go_sem, Nat.reduceAdd, Nat.reduceMul]
  cases h16 : k == 16 with
  | true =>
    simp (decide := true) only [h16, row1_length, rows_length, cI, cB, cS, roI, ro64, hpin, go_sem, Nat.reduceAdd, Nat.reduceMul]
    by_cases hi : 0 < i
    · have hr : fitsB k i j = (j == 20) := by simp [fitsB, h20, h16, hi]
      have hi2 : (0 < i) = True := eq_true hi
      simp (decide := true) only [hi2, hr, row1_length, rows_length, cI, cB, cS, roI, ro64, hpin, go_sem, Nat.reduceAdd, Nat.reduceMul]
    · have h19 : (k == 19) = false := by rw [show k = 16 by simpa using h16]; decide
      have hr : fitsB k i j = isValB j := by simp [fitsB, h20, h16, h19, hi]
      have hi2 : (0 < i) = False := eq_false hi
      simp (decide := true) only [hi2, h19, row1_length, rows_length, cI, cB, cS, roI, ro64, hpin, go_sem, Nat.reduceAdd, Nat.reduceMul]
      refine aCall_det (isValI_sound j) hpin ?_
      simp (decide := true) only [hr, row1_length, rows_length, cI, cB, cS, roI, ro64, hpin, go_sem, Nat.reduceAdd, Nat.reduceMul]
  | false =>
  simp (decide := true) only [h16, row1_length, rows_length, cI, cB, cS, roI, ro64, hpin, go_sem, Nat.reduceAdd, Nat.reduceMul]
  cases h17 : k == 17 with
  | true =>
    simp (decide := true) only [h17, row1_length, rows_length, cI, cB, cS, roI, ro64, hpin, go_sem, Nat.reduceAdd, Nat.reduceMul]
    by_cases hi : 0 < i
    · have hr : fitsB k i j = (j == 20) := by simp [fitsB, h20, h17, hi]
      have hi2 : (0 < i) = True := eq_true hi
      simp (decide := true) only [hi2, hr, row1_length, rows_length, cI, cB, cS, roI, ro64, hpin, go_sem, Nat.reduceAdd, Nat.reduceMul]
    · have h19 : (k == 19) = false := by rw [show k = 17 by simpa using h17]; decide
      have hr : fitsB k i j = isValB j := by simp [fitsB, h20, h17, h19, hi]
      have hi2 : (0 < i) = False := eq_false hi
      simp (decide := true) only [hi2, h19, row1_length, rows_length, cI, cB, cS, roI, ro64, hpin, go_sem, Nat.reduceAdd, Nat.reduceMul]
      refine aCall_det (isValI_sound j) hpin ?_
      simp (decide := true) only [hr, row1_length, rows_length, cI, cB, cS, roI, ro64, hpin, go_sem, Nat.reduceAdd, Nat.reduceMul]
  | false =>
  simp (decide := true) only [h17, row1_length, rows_length, cI, cB, cS, roI, ro64, hpin, go_sem, Nat.reduceAdd, Nat.reduceMul]
  cases h19 : k == 19 with
  | true =>
    have hr : fitsB k i j = (j == 12) := by simp [fitsB, h20, h16, h17, h19]
    simp (decide := true) only [h19, hr, row1_length, rows_length, cI, cB, cS, roI, ro64, hpin, go_sem, Nat.reduceAdd, Nat.reduceMul]
  | false =>
  have hr : fitsB k i j = isValB j := by simp [fitsB, h20, h16, h17, h19]
  simp (decide := true) only [h19, row1_length, rows_length, cI, cB, cS, roI, ro64, hpin, go_sem, Nat.reduceAdd, Nat.reduceMul]
  refine aCall_det (isValI_sound j) hpin ?_
  simp (decide := true) only [hr, row1_length, rows_length, cI, cB, cS, roI, ro64, hpin, go_sem, Nat.reduceAdd, Nat.reduceMul]
theorem fitsS_sound (k i j : Int) : Sound Tryz.prog 177 [.ro (.sc (.int .i64 k)), .ro (.sc (.int .i64 i)), .ro (.sc (.int .i64 j))] (fun rs st => rs = [(false, [cB (fitsB k i j)])]) := by
  refine sound_code (fn := Tryz.f177) (c := Tryz.f177.body.getD .skip) (res := [.tm 6]) (n := 25) sized (by kernel_rfl) (by rfl) (by kernel_rfl) (by rfl) (by rfl) (by simp [argsV]) (fun C hpin hfull => ?_)
  simp (decide := true) only [Tryz.f177, row1_length, rows_length, cI, cB, cS, roI, ro64, hpin, go_sem, Nat.reduceAdd, Nat.reduceMul]
  cases h20 : k == 20 with
  | true =>
    have hr : fitsB k i j = isStepB j := by simp [fitsB, h20]
    simp (decide := true) only [h20, row1_length, rows_length, cI, cB, cS, roI, ro64, hpin, go_sem, Nat.reduceAdd, Nat.reduceMul]
    refine aCall_det (isStepS_sound j) hpin ?_
    simp (decide := true) only [hr, row1_length, rows_length, cI, cB, cS, roI, ro64, hpin, go_sem, Nat.reduceAdd, Nat.reduceMul]
  | false =>
  simp (decide := true) only [h20, row1_length, rows_length, cI, cB, cS, roI, ro64, hpin, go_sem, Nat.reduceAdd, Nat.reduceMul]
  cases h16 : k == 16 with
  | true =>
    simp (decide := true) only [h16, row1_length, rows_length, cI, cB, cS, roI, ro64, hpin, go_sem, Nat.reduceAdd, Nat.reduceMul]
    by_cases hi : 0 < i
    · have hr : fitsB k i j = (j == 20) := by simp [fitsB, h20, h16, hi]
      have hi2 : (0 < i) = True := eq_true hi
      simp (decide := true) only [hi2, hr, row1_length, rows_length, cI, cB, cS, roI, ro64, hpin, go_sem, Nat.reduceAdd, Nat.reduceMul]
    · have h19 : (k == 19) = false := by rw [show k = 16 by simpa using h16]; decide
      have hr : fitsB k i j = isValB j := by simp [fitsB, h20, h16, h19, hi]
      have hi2 : (0 < i) = False := eq_false hi
      simp (decide := true) only [hi2, h19, row1_length, rows_length, cI, cB, cS, roI, ro64, hpin, go_sem, Nat.reduceAdd, Nat.reduceMul]
      refine aCall_det (isValS_sound j) hpin ?_
      simp (decide := true) only [hr, row1_length, rows_length, cI, cB, cS, roI, ro64, hpin, go_sem, Nat.reduceAdd, Nat.reduceMul]
  | false =>
  simp (decide := true) only [h16, row1_length, rows_length, cI, cB, cS, roI, ro64, hpin, go_sem, Nat.reduceAdd, Nat.reduceMul]
  cases h17 : k == 17 with
  | true =>
    simp (decide := true) only [h17, row1_length, rows_length, cI, cB, cS, roI, ro64, hpin, go_sem, Nat.reduceAdd, Nat.reduceMul]
    by_cases hi : 0 < i
    · have hr : fitsB k i j = (j == 20) := by simp [fitsB, h20, h17, hi]
      have hi2 : (0 < i) = True := eq_true hi
      simp (decide := true) only [hi2, hr, row1_length, rows_length, cI, cB, cS, roI, ro64, hpin, go_sem, Nat.reduceAdd, Nat.reduceMul]
    · have h19 : (k == 19) = false := by rw [show k = 17 by simpa using h17]; decide
      have hr : fitsB k i j = isValB j := by simp [fitsB, h20, h17, h19, hi]
      have hi2 : (0 < i) = False := eq_false hi
      simp (decide := true) only [hi2, h19, row1_length, rows_length, cI, cB, cS, roI, ro64, hpin, go_sem, Nat.reduceAdd, Nat.reduceMul]
      refine aCall_det (isValS_sound j) hpin ?_
      simp (decide := true) only [hr, row1_length, rows_length, cI, cB, cS, roI, ro64, hpin, go_sem, Nat.reduceAdd, Nat.reduceMul]
  | false =>
  simp (decide := true) only [h17, row1_length, rows_length, cI, cB, cS, roI, ro64, hpin, go_sem, Nat.reduceAdd, Nat.reduceMul]
  cases h19 : k == 19 with
  | true =>
    have hr : fitsB k i j = (j == 12) := by simp [fitsB, h20, h16, h17, h19]
    simp (decide := true) only [h19, hr, row1_length, rows_length, cI, cB, cS, roI, ro64, hpin, go_sem, Nat.reduceAdd, Nat.reduceMul]
  | false =>
  have hr : fitsB k i j = isValB j := by simp [fitsB, h20, h16, h17, h19]
  simp (decide := true) only [h19, row1_length, rows_length, cI, cB, cS, roI, ro64, hpin, go_sem, Nat.reduceAdd, Nat.reduceMul]
  refine aCall_det (isValS_sound j) hpin ?_
  simp (decide := true) only [hr, row1_length, rows_length, cI, cB, cS, roI, ro64, hpin, go_sem, Nat.reduceAdd, Nat.reduceMul]
end Go.Proofs.YtnbodmohnkohfaaGreatDoor.AW
