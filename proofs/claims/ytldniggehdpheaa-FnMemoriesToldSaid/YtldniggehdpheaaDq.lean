/- The memory's functions that copy first, both sides. No condition beyond those named. -/
import Derived.Test.YtldniggehdpheaaDo
namespace Go.Proofs.Ytldniggehdpheaa.AW
open Go.RowKit
set_option maxHeartbeats 8000000
set_option maxRecDepth 100000
set_option linter.unusedSimpArgs false
set_option linter.unusedVariables false

/-- A memory that is not too large. -/
def SmallM (m : MemoryD) : Prop := m.cells.length ≤ 1048575 ∧ m.input.length ≤ 1048576 ∧ m.out.length ≤ 1048575 ∧ m.fuel < 9223372036854775808
theorem copyIntsD_sound (l : List Int) (hl : l.length ≤ 1048576) : Sound Try.prog 56 [.ro (roI l)] (fun rs st => rs = [(false, [.row false 3 (row1 cI l)])]) := by
  have hf := ints_fr l
  have hb1 : l.length ≤ 140737488355328 := by omega
  have hb2 : l.length * 8 ≤ 140737488355328 := by omega
  refine sound_tri (fn := Try.f56) (c := Try.f56.body.getD .skip) (res := [.tm 2]) (n := 5) sized (by kernel_rfl) (by rfl) (by kernel_rfl) (by rfl) (by rfl) (by simp [argsV]) (fun uf ub C hpin hpin2 hfull => ?_)
  simp only [Try.f56, Option.getD_some]
  refine Tri.step sized ?_
  simp (decide := true) only [drop0, row1_length, rows_length, memB, memoryW, memoryC, valueW, MemoryD.fail, vI, vB, vS, cI, cB, cS, roI, ro64, List.cons_append, List.nil_append, hpin, go_sem, Nat.reduceAdd, Nat.reduceMul]
  refine code_sound sized _ ?_
  simp (decide := true) only [hf, hb1, hb2, drop0, row1_length, rows_length, memB, memoryW, memoryC, valueW, MemoryD.fail, vI, vB, vS, cI, cB, cS, roI, ro64, List.cons_append, List.nil_append, hpin, go_sem, Nat.reduceAdd, Nat.reduceMul]
theorem copyMemory_sound (m : MemoryD) (hs : SmallM m) : Sound Try.prog 35 [.ro (memoryW m)] (fun rs st => rs = [(true, memoryC false m)]) := by
  obtain ⟨s1, s2, s3, s4⟩ := hs
  have hf := cells_fr m.cells
  have hb1 : m.cells.length ≤ 140737488355328 := by omega
  have hb2 : m.cells.length * 16 ≤ 140737488355328 := by omega
  have hci := copyIntsD_sound m.input (by omega)
  have hco := copyIntsD_sound m.out (by omega)
  refine sound_tri (fn := Try.f35) (c := Try.f35.body.getD .skip) (res := [.ce 2 27]) (n := 16) sized (by kernel_rfl) (by rfl) (by kernel_rfl) (by rfl) (by rfl) (by simp [argsV]) (fun uf ub C hpin hpin2 hfull => ?_)
  simp only [Try.f35, Option.getD_some]
  refine Tri.step sized ?_
  simp (decide := true) only [drop0, row1_length, rows_length, memB, memoryW, memoryC, valueW, MemoryD.fail, vI, vB, vS, cI, cB, cS, roI, ro64, List.cons_append, List.nil_append, hpin, go_sem, Nat.reduceAdd, Nat.reduceMul]
  refine Tri.step sized ?_
  simp (decide := true) only [hf, hb1, hb2, drop0, row1_length, rows_length, memB, memoryW, memoryC, valueW, MemoryD.fail, vI, vB, vS, cI, cB, cS, roI, ro64, List.cons_append, List.nil_append, hpin, go_sem, Nat.reduceAdd, Nat.reduceMul]
  refine Tri.step sized ?_
  refine Tri.fork sized (.one 0 true (.one 3 true (.two 1 (.two 2 (.one 4 false (.one 6 true (.one 5 false (.one 7 false (.one 8 false (.one 9 false .done)))))) 4 (.one 2 false (.one 6 true (.one 5 false (.one 7 false (.one 8 false (.one 9 false .done))))))) 4 (.one 1 false (.one 2 false (.one 6 true (.one 5 false (.one 7 false (.one 8 false (.one 9 false .done)))))))))) mixed (by kernel_rfl) (fun C2 hC2 => ?_)
  have hp2 : ∀ o, isPin o = false → C2.pin o = none := by rw [hC2]; exact hpin
  simp (decide := true) only [hf, hb1, hb2, drop0, row1_length, rows_length, memB, memoryW, memoryC, valueW, MemoryD.fail, vI, vB, vS, cI, cB, cS, roI, ro64, List.cons_append, List.nil_append, hp2, hpin, go_sem, Nat.reduceAdd, Nat.reduceMul]
  refine ⟨⟨?_, ?_⟩, ?_⟩
  all_goals
    refine aCall_det hci hp2 ?_
    simp (decide := true) only [hf, hb1, hb2, drop0, row1_length, rows_length, memB, memoryW, memoryC, valueW, MemoryD.fail, vI, vB, vS, cI, cB, cS, roI, ro64, List.cons_append, List.nil_append, hp2, hpin, go_sem, Nat.reduceAdd, Nat.reduceMul]
    refine aCall_det hco hp2 ?_
    simp (decide := true) only [hf, hb1, hb2, drop0, row1_length, rows_length, memB, memoryW, memoryC, valueW, MemoryD.fail, vI, vB, vS, cI, cB, cS, roI, ro64, List.cons_append, List.nil_append, hp2, hpin, go_sem, Nat.reduceAdd, Nat.reduceMul]
    refine code_sound sized _ ?_
    simp (decide := true) only [hf, hb1, hb2, drop0, row1_length, rows_length, memB, memoryW, memoryC, valueW, MemoryD.fail, vI, vB, vS, cI, cB, cS, roI, ro64, List.cons_append, List.nil_append, hp2, hpin, go_sem, Nat.reduceAdd, Nat.reduceMul]
  all_goals rfl
theorem l09Copy_sound (m : MemoryD) (hs : SmallM m) : Sound Try.prog 37 [.ro (memoryW m)] (fun rs st => rs = [(true, memoryC false m)]) := by
  obtain ⟨s1, s2, s3, s4⟩ := hs
  have hf := cells_fr m.cells
  have hf2 := ints_fr m.input
  have hf3 := ints_fr m.out
  have hb1 : m.cells.length ≤ 140737488355328 := by omega
  have hb2 : m.cells.length * 16 ≤ 140737488355328 := by omega
  have hb3 : m.input.length ≤ 140737488355328 := by omega
  have hb4 : m.input.length * 8 ≤ 140737488355328 := by omega
  have hb5 : m.out.length ≤ 140737488355328 := by omega
  have hb6 : m.out.length * 8 ≤ 140737488355328 := by omega
  refine sound_tri (fn := Try.f37) (c := Try.f37.body.getD .skip) (res := [.ce 2 27]) (n := 21) sized (by kernel_rfl) (by rfl) (by kernel_rfl) (by rfl) (by rfl) (by simp [argsV]) (fun uf ub C hpin hpin2 hfull => ?_)
  simp only [Try.f37, Option.getD_some]
  refine Tri.step sized ?_
  simp (decide := true) only [drop0, row1_length, rows_length, memB, memoryW, memoryC, valueW, MemoryD.fail, vI, vB, vS, cI, cB, cS, roI, ro64, List.cons_append, List.nil_append, hpin, go_sem, Nat.reduceAdd, Nat.reduceMul]
  refine Tri.step sized ?_
  simp (decide := true) only [drop0, row1_length, rows_length, memB, memoryW, memoryC, valueW, MemoryD.fail, vI, vB, vS, cI, cB, cS, roI, ro64, List.cons_append, List.nil_append, hpin, go_sem, Nat.reduceAdd, Nat.reduceMul]
  refine Tri.step sized ?_
  simp (decide := true) only [hf, hb1, hb2, drop0, row1_length, rows_length, memB, memoryW, memoryC, valueW, MemoryD.fail, vI, vB, vS, cI, cB, cS, roI, ro64, List.cons_append, List.nil_append, hpin, go_sem, Nat.reduceAdd, Nat.reduceMul]
  refine Tri.step sized ?_
  simp (decide := true) only [hf2, hb3, hb4, drop0, row1_length, rows_length, memB, memoryW, memoryC, valueW, MemoryD.fail, vI, vB, vS, cI, cB, cS, roI, ro64, List.cons_append, List.nil_append, hpin, go_sem, Nat.reduceAdd, Nat.reduceMul]
  refine Tri.step sized ?_
  simp (decide := true) only [hf3, hb5, hb6, drop0, row1_length, rows_length, memB, memoryW, memoryC, valueW, MemoryD.fail, vI, vB, vS, cI, cB, cS, roI, ro64, List.cons_append, List.nil_append, hpin, go_sem, Nat.reduceAdd, Nat.reduceMul]
  refine code_sound sized _ ?_
  simp (decide := true) only [drop0, row1_length, rows_length, memB, memoryW, memoryC, valueW, MemoryD.fail, vI, vB, vS, cI, cB, cS, roI, ro64, List.cons_append, List.nil_append, hpin, go_sem, Nat.reduceAdd, Nat.reduceMul]
  rfl
theorem spendWI_sound (m : MemoryD) (hs : SmallM m) : Sound Try.prog 22 [.ro (memoryW m)] (fun rs st => rs = [(true, memB false (spendM m))]) := by
  have hcp := copyMemory_sound m hs
  have hme := spendI_sound false m hs.2.2.2
  generalize spendM m = r at hme ⊢
  simp only [memoryW, memoryC, valueC, valueW, memB, cB, cI, List.cons_append, List.nil_append] at hcp hme ⊢
  refine sound_tri (fn := Try.f22) (c := Try.f22.body.getD .skip) (res := [.ce 2 27]) (n := 8) sized (by kernel_rfl) (by rfl) (by kernel_rfl) (by rfl) (by rfl) (by simp [argsV]) (fun uf ub C hpin hpin2 hfull => ?_)
  simp only [Try.f22, Option.getD_some]
  refine Tri.step sized ?_
  simp (decide := true) only [drop0, row1_length, rows_length, memB, memoryW, memoryC, valueW, MemoryD.fail, vI, vB, vS, cI, cB, cS, roI, ro64, List.cons_append, List.nil_append, hpin, go_sem, Nat.reduceAdd, Nat.reduceMul]
  refine Tri.step sized ?_
  simp (decide := true) only [drop0, row1_length, rows_length, memB, memoryW, memoryC, valueW, MemoryD.fail, vI, vB, vS, cI, cB, cS, roI, ro64, List.cons_append, List.nil_append, hpin, go_sem, Nat.reduceAdd, Nat.reduceMul]
  refine aCall_det hcp hpin ?_
  simp (decide := true) only [drop0, row1_length, rows_length, memB, memoryW, memoryC, valueW, MemoryD.fail, vI, vB, vS, cI, cB, cS, roI, ro64, List.cons_append, List.nil_append, hpin, go_sem, Nat.reduceAdd, Nat.reduceMul]
  refine Tri.step sized ?_
  simp (decide := true) only [ints_sh, List.getElem?_cons_zero, List.getElem?_cons_succ, drop0, row1_length, rows_length, memB, memoryW, memoryC, valueW, MemoryD.fail, vI, vB, vS, cI, cB, cS, roI, ro64, List.cons_append, List.nil_append, hpin, go_sem, Nat.reduceAdd, Nat.reduceMul]
  refine aCall_bxdN hme hpin [(2000, 3)] [] [(2000, 3)] ⟨rfl, rfl, rfl, rfl⟩ (fun uf => ?_) ?_
  · simp (decide := true) only [drop0, row1_length, rows_length, memB, memoryW, memoryC, valueW, MemoryD.fail, vI, vB, vS, cI, cB, cS, roI, ro64, List.cons_append, List.nil_append, hpin, hpin2, go_sem, Nat.reduceAdd, Nat.reduceMul]
  simp (decide := true) only [drop0, row1_length, rows_length, memB, memoryW, memoryC, valueW, MemoryD.fail, vI, vB, vS, cI, cB, cS, roI, ro64, List.cons_append, List.nil_append, hpin, go_sem, Nat.reduceAdd, Nat.reduceMul]
  refine code_sound sized _ ?_
  simp (decide := true) only [drop0, row1_length, rows_length, memB, memoryW, memoryC, valueW, MemoryD.fail, vI, vB, vS, cI, cB, cS, roI, ro64, List.cons_append, List.nil_append, hpin, go_sem, Nat.reduceAdd, Nat.reduceMul]
theorem freshWI_sound (m : MemoryD) (n : Int) (hs : SmallM m) : Sound Try.prog 11 [.ro (memoryW m), .ro (.sc (.int .i64 n))] (fun rs st => rs = [(true, memB false (freshM m n).1), (true, valueC false (freshM m n).2)]) := by
  have hcp := copyMemory_sound m hs
  have hme := freshI_sound false m n (by have := hs.1; omega)
  generalize freshM m n = r at hme ⊢
  simp only [memoryW, memoryC, valueC, valueW, memB, cB, cI, List.cons_append, List.nil_append] at hcp hme ⊢
  refine sound_tri (fn := Try.f11) (c := Try.f11.body.getD .skip) (res := [.ce 4 27, .ce 5 32]) (n := 14) sized (by kernel_rfl) (by rfl) (by kernel_rfl) (by rfl) (by rfl) (by simp [argsV]) (fun uf ub C hpin hpin2 hfull => ?_)
  simp only [Try.f11, Option.getD_some]
  refine Tri.step sized ?_
  simp (decide := true) only [drop0, row1_length, rows_length, memB, memoryW, memoryC, valueW, MemoryD.fail, vI, vB, vS, cI, cB, cS, roI, ro64, List.cons_append, List.nil_append, hpin, go_sem, Nat.reduceAdd, Nat.reduceMul]
  refine Tri.step sized ?_
  simp (decide := true) only [drop0, row1_length, rows_length, memB, memoryW, memoryC, valueW, MemoryD.fail, vI, vB, vS, cI, cB, cS, roI, ro64, List.cons_append, List.nil_append, hpin, go_sem, Nat.reduceAdd, Nat.reduceMul]
  refine aCall_det hcp hpin ?_
  simp (decide := true) only [drop0, row1_length, rows_length, memB, memoryW, memoryC, valueW, MemoryD.fail, vI, vB, vS, cI, cB, cS, roI, ro64, List.cons_append, List.nil_append, hpin, go_sem, Nat.reduceAdd, Nat.reduceMul]
  refine Tri.step sized ?_
  simp (decide := true) only [ints_sh, List.getElem?_cons_zero, List.getElem?_cons_succ, drop0, row1_length, rows_length, memB, memoryW, memoryC, valueW, MemoryD.fail, vI, vB, vS, cI, cB, cS, roI, ro64, List.cons_append, List.nil_append, hpin, go_sem, Nat.reduceAdd, Nat.reduceMul]
  refine aCall_bxdN hme hpin [(2000, 6)] [] [(2000, 6)] ⟨rfl, rfl, rfl, rfl⟩ (fun uf => ?_) ?_
  · simp (decide := true) only [drop0, row1_length, rows_length, memB, memoryW, memoryC, valueW, MemoryD.fail, vI, vB, vS, cI, cB, cS, roI, ro64, List.cons_append, List.nil_append, hpin, hpin2, go_sem, Nat.reduceAdd, Nat.reduceMul]
  simp (decide := true) only [drop0, row1_length, rows_length, memB, memoryW, memoryC, valueW, MemoryD.fail, vI, vB, vS, cI, cB, cS, roI, ro64, List.cons_append, List.nil_append, hpin, go_sem, Nat.reduceAdd, Nat.reduceMul]
  refine Tri.step sized ?_
  refine Tri.fork sized (.two 0 (.two 1 (.one 2 false (.one 3 false .done)) 2 (.one 1 false (.one 3 false .done))) 1 (.one 0 false (.one 2 false (.one 3 false .done)))) mixed (by kernel_rfl) (fun C2 hC2 => ?_)
  have hp2 : ∀ o, isPin o = false → C2.pin o = none := by rw [hC2]; exact hpin
  simp (decide := true) only [drop0, row1_length, rows_length, memB, memoryW, memoryC, valueW, MemoryD.fail, vI, vB, vS, cI, cB, cS, roI, ro64, List.cons_append, List.nil_append, hp2, hpin, go_sem, Nat.reduceAdd, Nat.reduceMul]
  refine ⟨?_, ?_⟩
  all_goals
    refine code_sound sized _ ?_
    simp (decide := true) only [drop0, row1_length, rows_length, memB, memoryW, memoryC, valueW, MemoryD.fail, vI, vB, vS, cI, cB, cS, roI, ro64, List.cons_append, List.nil_append, hpin, go_sem, Nat.reduceAdd, Nat.reduceMul]
theorem movedWI_sound (m : MemoryD) (v : ValueD) (hs : SmallM m) : Sound Try.prog 13 [.ro (memoryW m), .ro (valueW v)] (fun rs st => rs = [(true, memB false (movedM m v).1), (true, valueC false (movedM m v).2)]) := by
  have hcp := copyMemory_sound m hs
  have hme := movedI_sound false m v (by have := hs.1; omega)
  generalize movedM m v = r at hme ⊢
  simp only [memoryW, memoryC, valueC, valueW, memB, cB, cI, List.cons_append, List.nil_append] at hcp hme ⊢
  refine sound_tri (fn := Try.f13) (c := Try.f13.body.getD .skip) (res := [.ce 4 27, .ce 5 32]) (n := 14) sized (by kernel_rfl) (by rfl) (by kernel_rfl) (by rfl) (by rfl) (by simp [argsV]) (fun uf ub C hpin hpin2 hfull => ?_)
  simp only [Try.f13, Option.getD_some]
  refine Tri.step sized ?_
  simp (decide := true) only [drop0, row1_length, rows_length, memB, memoryW, memoryC, valueW, MemoryD.fail, vI, vB, vS, cI, cB, cS, roI, ro64, List.cons_append, List.nil_append, hpin, go_sem, Nat.reduceAdd, Nat.reduceMul]
  refine Tri.step sized ?_
  simp (decide := true) only [drop0, row1_length, rows_length, memB, memoryW, memoryC, valueW, MemoryD.fail, vI, vB, vS, cI, cB, cS, roI, ro64, List.cons_append, List.nil_append, hpin, go_sem, Nat.reduceAdd, Nat.reduceMul]
  refine aCall_det hcp hpin ?_
  simp (decide := true) only [drop0, row1_length, rows_length, memB, memoryW, memoryC, valueW, MemoryD.fail, vI, vB, vS, cI, cB, cS, roI, ro64, List.cons_append, List.nil_append, hpin, go_sem, Nat.reduceAdd, Nat.reduceMul]
  refine Tri.step sized ?_
  simp (decide := true) only [ints_sh, List.getElem?_cons_zero, List.getElem?_cons_succ, drop0, row1_length, rows_length, memB, memoryW, memoryC, valueW, MemoryD.fail, vI, vB, vS, cI, cB, cS, roI, ro64, List.cons_append, List.nil_append, hpin, go_sem, Nat.reduceAdd, Nat.reduceMul]
  refine aCall_bxdN hme hpin [(2000, 6)] [] [(2000, 6)] ⟨rfl, rfl, rfl, rfl⟩ (fun uf => ?_) ?_
  · simp (decide := true) only [drop0, row1_length, rows_length, memB, memoryW, memoryC, valueW, MemoryD.fail, vI, vB, vS, cI, cB, cS, roI, ro64, List.cons_append, List.nil_append, hpin, hpin2, go_sem, Nat.reduceAdd, Nat.reduceMul]
  simp (decide := true) only [drop0, row1_length, rows_length, memB, memoryW, memoryC, valueW, MemoryD.fail, vI, vB, vS, cI, cB, cS, roI, ro64, List.cons_append, List.nil_append, hpin, go_sem, Nat.reduceAdd, Nat.reduceMul]
  refine Tri.step sized ?_
  refine Tri.fork sized (.two 0 (.two 1 (.one 2 false (.one 3 false .done)) 2 (.one 1 false (.one 3 false .done))) 1 (.one 0 false (.one 2 false (.one 3 false .done)))) mixed (by kernel_rfl) (fun C2 hC2 => ?_)
  have hp2 : ∀ o, isPin o = false → C2.pin o = none := by rw [hC2]; exact hpin
  simp (decide := true) only [drop0, row1_length, rows_length, memB, memoryW, memoryC, valueW, MemoryD.fail, vI, vB, vS, cI, cB, cS, roI, ro64, List.cons_append, List.nil_append, hp2, hpin, go_sem, Nat.reduceAdd, Nat.reduceMul]
  refine ⟨?_, ?_⟩
  all_goals
    refine code_sound sized _ ?_
    simp (decide := true) only [drop0, row1_length, rows_length, memB, memoryW, memoryC, valueW, MemoryD.fail, vI, vB, vS, cI, cB, cS, roI, ro64, List.cons_append, List.nil_append, hpin, go_sem, Nat.reduceAdd, Nat.reduceMul]
theorem freedWI_sound (m : MemoryD) (v : ValueD) (hs : SmallM m) : Sound Try.prog 24 [.ro (memoryW m), .ro (valueW v)] (fun rs st => rs = [(true, memB false (freedM m v))]) := by
  have hcp := copyMemory_sound m hs
  have hme := freedI_sound false m v (by have := hs.1; omega)
  generalize freedM m v = r at hme ⊢
  simp only [memoryW, memoryC, valueC, valueW, memB, cB, cI, List.cons_append, List.nil_append] at hcp hme ⊢
  refine sound_tri (fn := Try.f24) (c := Try.f24.body.getD .skip) (res := [.ce 4 27]) (n := 11) sized (by kernel_rfl) (by rfl) (by kernel_rfl) (by rfl) (by rfl) (by simp [argsV]) (fun uf ub C hpin hpin2 hfull => ?_)
  simp only [Try.f24, Option.getD_some]
  refine Tri.step sized ?_
  simp (decide := true) only [drop0, row1_length, rows_length, memB, memoryW, memoryC, valueW, MemoryD.fail, vI, vB, vS, cI, cB, cS, roI, ro64, List.cons_append, List.nil_append, hpin, go_sem, Nat.reduceAdd, Nat.reduceMul]
  refine Tri.step sized ?_
  simp (decide := true) only [drop0, row1_length, rows_length, memB, memoryW, memoryC, valueW, MemoryD.fail, vI, vB, vS, cI, cB, cS, roI, ro64, List.cons_append, List.nil_append, hpin, go_sem, Nat.reduceAdd, Nat.reduceMul]
  refine aCall_det hcp hpin ?_
  simp (decide := true) only [drop0, row1_length, rows_length, memB, memoryW, memoryC, valueW, MemoryD.fail, vI, vB, vS, cI, cB, cS, roI, ro64, List.cons_append, List.nil_append, hpin, go_sem, Nat.reduceAdd, Nat.reduceMul]
  refine Tri.step sized ?_
  simp (decide := true) only [ints_sh, List.getElem?_cons_zero, List.getElem?_cons_succ, drop0, row1_length, rows_length, memB, memoryW, memoryC, valueW, MemoryD.fail, vI, vB, vS, cI, cB, cS, roI, ro64, List.cons_append, List.nil_append, hpin, go_sem, Nat.reduceAdd, Nat.reduceMul]
  refine aCall_bxdN hme hpin [(2000, 5)] [] [(2000, 5)] ⟨rfl, rfl, rfl, rfl⟩ (fun uf => ?_) ?_
  · simp (decide := true) only [drop0, row1_length, rows_length, memB, memoryW, memoryC, valueW, MemoryD.fail, vI, vB, vS, cI, cB, cS, roI, ro64, List.cons_append, List.nil_append, hpin, hpin2, go_sem, Nat.reduceAdd, Nat.reduceMul]
  simp (decide := true) only [drop0, row1_length, rows_length, memB, memoryW, memoryC, valueW, MemoryD.fail, vI, vB, vS, cI, cB, cS, roI, ro64, List.cons_append, List.nil_append, hpin, go_sem, Nat.reduceAdd, Nat.reduceMul]
  refine code_sound sized _ ?_
  simp (decide := true) only [drop0, row1_length, rows_length, memB, memoryW, memoryC, valueW, MemoryD.fail, vI, vB, vS, cI, cB, cS, roI, ro64, List.cons_append, List.nil_append, hpin, go_sem, Nat.reduceAdd, Nat.reduceMul]
theorem lookedWI_sound (m : MemoryD) (v : ValueD) (hs : SmallM m) : Sound Try.prog 15 [.ro (memoryW m), .ro (valueW v)] (fun rs st => rs = [(true, memB false (lookedM m v).1), (false, [cI (lookedM m v).2])]) := by
  have hcp := copyMemory_sound m hs
  have hme := lookedI_sound false m v (by have := hs.1; omega)
  generalize lookedM m v = r at hme ⊢
  simp only [memoryW, memoryC, valueC, valueW, memB, cB, cI, List.cons_append, List.nil_append] at hcp hme ⊢
  refine sound_tri (fn := Try.f15) (c := Try.f15.body.getD .skip) (res := [.ce 4 27, .tm 5]) (n := 14) sized (by kernel_rfl) (by rfl) (by kernel_rfl) (by rfl) (by rfl) (by simp [argsV]) (fun uf ub C hpin hpin2 hfull => ?_)
  simp only [Try.f15, Option.getD_some]
  refine Tri.step sized ?_
  simp (decide := true) only [drop0, row1_length, rows_length, memB, memoryW, memoryC, valueW, MemoryD.fail, vI, vB, vS, cI, cB, cS, roI, ro64, List.cons_append, List.nil_append, hpin, go_sem, Nat.reduceAdd, Nat.reduceMul]
  refine Tri.step sized ?_
  simp (decide := true) only [drop0, row1_length, rows_length, memB, memoryW, memoryC, valueW, MemoryD.fail, vI, vB, vS, cI, cB, cS, roI, ro64, List.cons_append, List.nil_append, hpin, go_sem, Nat.reduceAdd, Nat.reduceMul]
  refine aCall_det hcp hpin ?_
  simp (decide := true) only [drop0, row1_length, rows_length, memB, memoryW, memoryC, valueW, MemoryD.fail, vI, vB, vS, cI, cB, cS, roI, ro64, List.cons_append, List.nil_append, hpin, go_sem, Nat.reduceAdd, Nat.reduceMul]
  refine Tri.step sized ?_
  simp (decide := true) only [ints_sh, List.getElem?_cons_zero, List.getElem?_cons_succ, drop0, row1_length, rows_length, memB, memoryW, memoryC, valueW, MemoryD.fail, vI, vB, vS, cI, cB, cS, roI, ro64, List.cons_append, List.nil_append, hpin, go_sem, Nat.reduceAdd, Nat.reduceMul]
  refine aCall_bxdN hme hpin [(2000, 6)] [] [(2000, 6)] ⟨rfl, rfl, rfl, rfl⟩ (fun uf => ?_) ?_
  · simp (decide := true) only [drop0, row1_length, rows_length, memB, memoryW, memoryC, valueW, MemoryD.fail, vI, vB, vS, cI, cB, cS, roI, ro64, List.cons_append, List.nil_append, hpin, hpin2, go_sem, Nat.reduceAdd, Nat.reduceMul]
  simp (decide := true) only [drop0, row1_length, rows_length, memB, memoryW, memoryC, valueW, MemoryD.fail, vI, vB, vS, cI, cB, cS, roI, ro64, List.cons_append, List.nil_append, hpin, go_sem, Nat.reduceAdd, Nat.reduceMul]
  refine code_sound sized _ ?_
  simp (decide := true) only [drop0, row1_length, rows_length, memB, memoryW, memoryC, valueW, MemoryD.fail, vI, vB, vS, cI, cB, cS, roI, ro64, List.cons_append, List.nil_append, hpin, go_sem, Nat.reduceAdd, Nat.reduceMul]
theorem writtenWI_sound (m : MemoryD) (v : ValueD) (n : Int) (hs : SmallM m) : Sound Try.prog 26 [.ro (memoryW m), .ro (valueW v), .ro (.sc (.int .i64 n))] (fun rs st => rs = [(true, memB false (writtenM m v n))]) := by
  have hcp := copyMemory_sound m hs
  have hme := writtenI_sound false m v n (by have := hs.1; omega)
  generalize writtenM m v n = r at hme ⊢
  simp only [memoryW, memoryC, valueC, valueW, memB, cB, cI, List.cons_append, List.nil_append] at hcp hme ⊢
  refine sound_tri (fn := Try.f26) (c := Try.f26.body.getD .skip) (res := [.ce 6 27]) (n := 14) sized (by kernel_rfl) (by rfl) (by kernel_rfl) (by rfl) (by rfl) (by simp [argsV]) (fun uf ub C hpin hpin2 hfull => ?_)
  simp only [Try.f26, Option.getD_some]
  refine Tri.step sized ?_
  simp (decide := true) only [drop0, row1_length, rows_length, memB, memoryW, memoryC, valueW, MemoryD.fail, vI, vB, vS, cI, cB, cS, roI, ro64, List.cons_append, List.nil_append, hpin, go_sem, Nat.reduceAdd, Nat.reduceMul]
  refine Tri.step sized ?_
  simp (decide := true) only [drop0, row1_length, rows_length, memB, memoryW, memoryC, valueW, MemoryD.fail, vI, vB, vS, cI, cB, cS, roI, ro64, List.cons_append, List.nil_append, hpin, go_sem, Nat.reduceAdd, Nat.reduceMul]
  refine aCall_det hcp hpin ?_
  simp (decide := true) only [drop0, row1_length, rows_length, memB, memoryW, memoryC, valueW, MemoryD.fail, vI, vB, vS, cI, cB, cS, roI, ro64, List.cons_append, List.nil_append, hpin, go_sem, Nat.reduceAdd, Nat.reduceMul]
  refine Tri.step sized ?_
  simp (decide := true) only [ints_sh, List.getElem?_cons_zero, List.getElem?_cons_succ, drop0, row1_length, rows_length, memB, memoryW, memoryC, valueW, MemoryD.fail, vI, vB, vS, cI, cB, cS, roI, ro64, List.cons_append, List.nil_append, hpin, go_sem, Nat.reduceAdd, Nat.reduceMul]
  refine aCall_bxdN hme hpin [(2000, 7)] [] [(2000, 7)] ⟨rfl, rfl, rfl, rfl⟩ (fun uf => ?_) ?_
  · simp (decide := true) only [drop0, row1_length, rows_length, memB, memoryW, memoryC, valueW, MemoryD.fail, vI, vB, vS, cI, cB, cS, roI, ro64, List.cons_append, List.nil_append, hpin, hpin2, go_sem, Nat.reduceAdd, Nat.reduceMul]
  simp (decide := true) only [drop0, row1_length, rows_length, memB, memoryW, memoryC, valueW, MemoryD.fail, vI, vB, vS, cI, cB, cS, roI, ro64, List.cons_append, List.nil_append, hpin, go_sem, Nat.reduceAdd, Nat.reduceMul]
  refine code_sound sized _ ?_
  simp (decide := true) only [drop0, row1_length, rows_length, memB, memoryW, memoryC, valueW, MemoryD.fail, vI, vB, vS, cI, cB, cS, roI, ro64, List.cons_append, List.nil_append, hpin, go_sem, Nat.reduceAdd, Nat.reduceMul]
theorem askedWI_sound (m : MemoryD) (hs : SmallM m) : SoundAt Try.prog 17 (fun uf => argsV 0 [.ro (memoryW m)]) [] (fun rs st => rs = [(true, memB true (askedM m).1), (false, [cI (askedM m).2])] ∧ nowIs st.ob []) := by
  have hcp := copyMemory_sound m hs
  have hme := askedI_sound m hs.2.1
  generalize askedM m = r at hme ⊢
  simp only [memoryW, memoryC, valueC, valueW, memB, cB, cI, List.cons_append, List.nil_append] at hcp hme ⊢
  refine sound_tri (fn := Try.f17) (c := Try.f17.body.getD .skip) (res := [.ce 2 27, .tm 3]) (n := 11) sized (by kernel_rfl) (by rfl) (by kernel_rfl) (by rfl) (by rfl) (by simp [argsV]) (fun uf ub C hpin hpin2 hfull => ?_)
  simp only [Try.f17, Option.getD_some]
  refine Tri.step sized ?_
  simp (decide := true) only [drop0, row1_length, rows_length, memB, memoryW, memoryC, valueW, MemoryD.fail, vI, vB, vS, cI, cB, cS, roI, ro64, List.cons_append, List.nil_append, hpin, go_sem, Nat.reduceAdd, Nat.reduceMul]
  refine Tri.step sized ?_
  simp (decide := true) only [drop0, row1_length, rows_length, memB, memoryW, memoryC, valueW, MemoryD.fail, vI, vB, vS, cI, cB, cS, roI, ro64, List.cons_append, List.nil_append, hpin, go_sem, Nat.reduceAdd, Nat.reduceMul]
  refine aCall_det hcp hpin ?_
  simp (decide := true) only [drop0, row1_length, rows_length, memB, memoryW, memoryC, valueW, MemoryD.fail, vI, vB, vS, cI, cB, cS, roI, ro64, List.cons_append, List.nil_append, hpin, go_sem, Nat.reduceAdd, Nat.reduceMul]
  refine Tri.ent ?_ (Ent.shc hfull 4 1)
  refine Tri.step sized ?_
  simp (decide := true) only [ints_sh, List.getElem?_cons_zero, List.getElem?_cons_succ, drop0, row1_length, rows_length, memB, memoryW, memoryC, valueW, MemoryD.fail, vI, vB, vS, cI, cB, cS, roI, ro64, List.cons_append, List.nil_append, hpin, go_sem, Nat.reduceAdd, Nat.reduceMul]
  refine aCall_bxdN hme hpin [(2000, 4)] [] [(2000, 4)] ⟨rfl, rfl, rfl, rfl⟩ (fun uf => ?_) ?_
  · simp (decide := true) only [drop0, row1_length, rows_length, memB, memoryW, memoryC, valueW, MemoryD.fail, vI, vB, vS, cI, cB, cS, roI, ro64, List.cons_append, List.nil_append, hpin, hpin2, go_sem, Nat.reduceAdd, Nat.reduceMul]
  simp (decide := true) only [drop0, row1_length, rows_length, memB, memoryW, memoryC, valueW, MemoryD.fail, vI, vB, vS, cI, cB, cS, roI, ro64, List.cons_append, List.nil_append, hpin, go_sem, Nat.reduceAdd, Nat.reduceMul]
  refine code_sound sized _ ?_
  simp (decide := true) only [drop0, row1_length, rows_length, memB, memoryW, memoryC, valueW, MemoryD.fail, vI, vB, vS, cI, cB, cS, roI, ro64, List.cons_append, List.nil_append, hpin, go_sem, Nat.reduceAdd, Nat.reduceMul]
theorem toldWI_sound (m : MemoryD) (n : Int) (hs : SmallM m) : Sound Try.prog 28 [.ro (memoryW m), .ro (.sc (.int .i64 n))] (fun rs st => rs = [(true, memB false (toldM m n))]) := by
  have hcp := copyMemory_sound m hs
  have hme := toldI_sound false m n (by have := hs.2.2.1; omega)
  generalize toldM m n = r at hme ⊢
  simp only [memoryW, memoryC, valueC, valueW, memB, cB, cI, List.cons_append, List.nil_append] at hcp hme ⊢
  refine sound_tri (fn := Try.f28) (c := Try.f28.body.getD .skip) (res := [.ce 4 27]) (n := 11) sized (by kernel_rfl) (by rfl) (by kernel_rfl) (by rfl) (by rfl) (by simp [argsV]) (fun uf ub C hpin hpin2 hfull => ?_)
  simp only [Try.f28, Option.getD_some]
  refine Tri.step sized ?_
  simp (decide := true) only [drop0, row1_length, rows_length, memB, memoryW, memoryC, valueW, MemoryD.fail, vI, vB, vS, cI, cB, cS, roI, ro64, List.cons_append, List.nil_append, hpin, go_sem, Nat.reduceAdd, Nat.reduceMul]
  refine Tri.step sized ?_
  simp (decide := true) only [drop0, row1_length, rows_length, memB, memoryW, memoryC, valueW, MemoryD.fail, vI, vB, vS, cI, cB, cS, roI, ro64, List.cons_append, List.nil_append, hpin, go_sem, Nat.reduceAdd, Nat.reduceMul]
  refine aCall_det hcp hpin ?_
  simp (decide := true) only [drop0, row1_length, rows_length, memB, memoryW, memoryC, valueW, MemoryD.fail, vI, vB, vS, cI, cB, cS, roI, ro64, List.cons_append, List.nil_append, hpin, go_sem, Nat.reduceAdd, Nat.reduceMul]
  refine Tri.step sized ?_
  simp (decide := true) only [ints_sh, List.getElem?_cons_zero, List.getElem?_cons_succ, drop0, row1_length, rows_length, memB, memoryW, memoryC, valueW, MemoryD.fail, vI, vB, vS, cI, cB, cS, roI, ro64, List.cons_append, List.nil_append, hpin, go_sem, Nat.reduceAdd, Nat.reduceMul]
  refine aCall_bxdN hme hpin [(2000, 5)] [] [(2000, 5)] ⟨rfl, rfl, rfl, rfl⟩ (fun uf => ?_) ?_
  · simp (decide := true) only [drop0, row1_length, rows_length, memB, memoryW, memoryC, valueW, MemoryD.fail, vI, vB, vS, cI, cB, cS, roI, ro64, List.cons_append, List.nil_append, hpin, hpin2, go_sem, Nat.reduceAdd, Nat.reduceMul]
  simp (decide := true) only [drop0, row1_length, rows_length, memB, memoryW, memoryC, valueW, MemoryD.fail, vI, vB, vS, cI, cB, cS, roI, ro64, List.cons_append, List.nil_append, hpin, go_sem, Nat.reduceAdd, Nat.reduceMul]
  refine code_sound sized _ ?_
  simp (decide := true) only [drop0, row1_length, rows_length, memB, memoryW, memoryC, valueW, MemoryD.fail, vI, vB, vS, cI, cB, cS, roI, ro64, List.cons_append, List.nil_append, hpin, go_sem, Nat.reduceAdd, Nat.reduceMul]
theorem summedWI_sound (m : MemoryD) (a b : Int) (hs : SmallM m) : Sound Try.prog 19 [.ro (memoryW m), .ro (.sc (.int .i64 a)), .ro (.sc (.int .i64 b))] (fun rs st => rs = [(true, memB false (summedM m a b).1), (false, [cI (summedM m a b).2])]) := by
  have hcp := copyMemory_sound m hs
  have hme := summedI_sound false m a b
  generalize summedM m a b = r at hme ⊢
  simp only [memoryW, memoryC, valueC, valueW, memB, cB, cI, List.cons_append, List.nil_append] at hcp hme ⊢
  refine sound_tri (fn := Try.f19) (c := Try.f19.body.getD .skip) (res := [.ce 6 27, .tm 7]) (n := 17) sized (by kernel_rfl) (by rfl) (by kernel_rfl) (by rfl) (by rfl) (by simp [argsV]) (fun uf ub C hpin hpin2 hfull => ?_)
  simp only [Try.f19, Option.getD_some]
  refine Tri.step sized ?_
  simp (decide := true) only [drop0, row1_length, rows_length, memB, memoryW, memoryC, valueW, MemoryD.fail, vI, vB, vS, cI, cB, cS, roI, ro64, List.cons_append, List.nil_append, hpin, go_sem, Nat.reduceAdd, Nat.reduceMul]
  refine Tri.step sized ?_
  simp (decide := true) only [drop0, row1_length, rows_length, memB, memoryW, memoryC, valueW, MemoryD.fail, vI, vB, vS, cI, cB, cS, roI, ro64, List.cons_append, List.nil_append, hpin, go_sem, Nat.reduceAdd, Nat.reduceMul]
  refine aCall_det hcp hpin ?_
  simp (decide := true) only [drop0, row1_length, rows_length, memB, memoryW, memoryC, valueW, MemoryD.fail, vI, vB, vS, cI, cB, cS, roI, ro64, List.cons_append, List.nil_append, hpin, go_sem, Nat.reduceAdd, Nat.reduceMul]
  refine Tri.step sized ?_
  simp (decide := true) only [ints_sh, List.getElem?_cons_zero, List.getElem?_cons_succ, drop0, row1_length, rows_length, memB, memoryW, memoryC, valueW, MemoryD.fail, vI, vB, vS, cI, cB, cS, roI, ro64, List.cons_append, List.nil_append, hpin, go_sem, Nat.reduceAdd, Nat.reduceMul]
  refine aCall_bxdN hme hpin [(2000, 8)] [] [(2000, 8)] ⟨rfl, rfl, rfl, rfl⟩ (fun uf => ?_) ?_
  · simp (decide := true) only [drop0, row1_length, rows_length, memB, memoryW, memoryC, valueW, MemoryD.fail, vI, vB, vS, cI, cB, cS, roI, ro64, List.cons_append, List.nil_append, hpin, hpin2, go_sem, Nat.reduceAdd, Nat.reduceMul]
  simp (decide := true) only [drop0, row1_length, rows_length, memB, memoryW, memoryC, valueW, MemoryD.fail, vI, vB, vS, cI, cB, cS, roI, ro64, List.cons_append, List.nil_append, hpin, go_sem, Nat.reduceAdd, Nat.reduceMul]
  refine code_sound sized _ ?_
  simp (decide := true) only [drop0, row1_length, rows_length, memB, memoryW, memoryC, valueW, MemoryD.fail, vI, vB, vS, cI, cB, cS, roI, ro64, List.cons_append, List.nil_append, hpin, go_sem, Nat.reduceAdd, Nat.reduceMul]
theorem spendWS_sound (m : MemoryD) (hs : SmallM m) : Sound Try.prog 23 [.ro (memoryW m)] (fun rs st => rs = [(true, memB false (spendM m))]) := by
  have hcp := l09Copy_sound m hs
  have hme := spendS_sound false m hs.2.2.2
  generalize spendM m = r at hme ⊢
  simp only [memoryW, memoryC, valueC, valueW, memB, cB, cI, List.cons_append, List.nil_append] at hcp hme ⊢
  refine sound_tri (fn := Try.f23) (c := Try.f23.body.getD .skip) (res := [.ce 2 27]) (n := 8) sized (by kernel_rfl) (by rfl) (by kernel_rfl) (by rfl) (by rfl) (by simp [argsV]) (fun uf ub C hpin hpin2 hfull => ?_)
  simp only [Try.f23, Option.getD_some]
  refine Tri.step sized ?_
  simp (decide := true) only [drop0, row1_length, rows_length, memB, memoryW, memoryC, valueW, MemoryD.fail, vI, vB, vS, cI, cB, cS, roI, ro64, List.cons_append, List.nil_append, hpin, go_sem, Nat.reduceAdd, Nat.reduceMul]
  refine Tri.step sized ?_
  simp (decide := true) only [drop0, row1_length, rows_length, memB, memoryW, memoryC, valueW, MemoryD.fail, vI, vB, vS, cI, cB, cS, roI, ro64, List.cons_append, List.nil_append, hpin, go_sem, Nat.reduceAdd, Nat.reduceMul]
  refine aCall_det hcp hpin ?_
  simp (decide := true) only [drop0, row1_length, rows_length, memB, memoryW, memoryC, valueW, MemoryD.fail, vI, vB, vS, cI, cB, cS, roI, ro64, List.cons_append, List.nil_append, hpin, go_sem, Nat.reduceAdd, Nat.reduceMul]
  refine Tri.step sized ?_
  simp (decide := true) only [ints_sh, List.getElem?_cons_zero, List.getElem?_cons_succ, drop0, row1_length, rows_length, memB, memoryW, memoryC, valueW, MemoryD.fail, vI, vB, vS, cI, cB, cS, roI, ro64, List.cons_append, List.nil_append, hpin, go_sem, Nat.reduceAdd, Nat.reduceMul]
  refine aCall_bxdN hme hpin [(2000, 3)] [] [(2000, 3)] ⟨rfl, rfl, rfl, rfl⟩ (fun uf => ?_) ?_
  · simp (decide := true) only [drop0, row1_length, rows_length, memB, memoryW, memoryC, valueW, MemoryD.fail, vI, vB, vS, cI, cB, cS, roI, ro64, List.cons_append, List.nil_append, hpin, hpin2, go_sem, Nat.reduceAdd, Nat.reduceMul]
  simp (decide := true) only [drop0, row1_length, rows_length, memB, memoryW, memoryC, valueW, MemoryD.fail, vI, vB, vS, cI, cB, cS, roI, ro64, List.cons_append, List.nil_append, hpin, go_sem, Nat.reduceAdd, Nat.reduceMul]
  refine code_sound sized _ ?_
  simp (decide := true) only [drop0, row1_length, rows_length, memB, memoryW, memoryC, valueW, MemoryD.fail, vI, vB, vS, cI, cB, cS, roI, ro64, List.cons_append, List.nil_append, hpin, go_sem, Nat.reduceAdd, Nat.reduceMul]
theorem freshWS_sound (m : MemoryD) (n : Int) (hs : SmallM m) : Sound Try.prog 12 [.ro (memoryW m), .ro (.sc (.int .i64 n))] (fun rs st => rs = [(true, memB false (freshM m n).1), (true, valueC false (freshM m n).2)]) := by
  have hcp := l09Copy_sound m hs
  have hme := freshS_sound false m n (by have := hs.1; omega)
  generalize freshM m n = r at hme ⊢
  simp only [memoryW, memoryC, valueC, valueW, memB, cB, cI, List.cons_append, List.nil_append] at hcp hme ⊢
  refine sound_tri (fn := Try.f12) (c := Try.f12.body.getD .skip) (res := [.ce 4 27, .ce 5 32]) (n := 14) sized (by kernel_rfl) (by rfl) (by kernel_rfl) (by rfl) (by rfl) (by simp [argsV]) (fun uf ub C hpin hpin2 hfull => ?_)
  simp only [Try.f12, Option.getD_some]
  refine Tri.step sized ?_
  simp (decide := true) only [drop0, row1_length, rows_length, memB, memoryW, memoryC, valueW, MemoryD.fail, vI, vB, vS, cI, cB, cS, roI, ro64, List.cons_append, List.nil_append, hpin, go_sem, Nat.reduceAdd, Nat.reduceMul]
  refine Tri.step sized ?_
  simp (decide := true) only [drop0, row1_length, rows_length, memB, memoryW, memoryC, valueW, MemoryD.fail, vI, vB, vS, cI, cB, cS, roI, ro64, List.cons_append, List.nil_append, hpin, go_sem, Nat.reduceAdd, Nat.reduceMul]
  refine aCall_det hcp hpin ?_
  simp (decide := true) only [drop0, row1_length, rows_length, memB, memoryW, memoryC, valueW, MemoryD.fail, vI, vB, vS, cI, cB, cS, roI, ro64, List.cons_append, List.nil_append, hpin, go_sem, Nat.reduceAdd, Nat.reduceMul]
  refine Tri.step sized ?_
  simp (decide := true) only [ints_sh, List.getElem?_cons_zero, List.getElem?_cons_succ, drop0, row1_length, rows_length, memB, memoryW, memoryC, valueW, MemoryD.fail, vI, vB, vS, cI, cB, cS, roI, ro64, List.cons_append, List.nil_append, hpin, go_sem, Nat.reduceAdd, Nat.reduceMul]
  refine aCall_bxdN hme hpin [(2000, 6)] [] [(2000, 6)] ⟨rfl, rfl, rfl, rfl⟩ (fun uf => ?_) ?_
  · simp (decide := true) only [drop0, row1_length, rows_length, memB, memoryW, memoryC, valueW, MemoryD.fail, vI, vB, vS, cI, cB, cS, roI, ro64, List.cons_append, List.nil_append, hpin, hpin2, go_sem, Nat.reduceAdd, Nat.reduceMul]
  simp (decide := true) only [drop0, row1_length, rows_length, memB, memoryW, memoryC, valueW, MemoryD.fail, vI, vB, vS, cI, cB, cS, roI, ro64, List.cons_append, List.nil_append, hpin, go_sem, Nat.reduceAdd, Nat.reduceMul]
  refine Tri.step sized ?_
  refine Tri.fork sized (.two 0 (.two 1 (.one 2 false (.one 3 false .done)) 2 (.one 1 false (.one 3 false .done))) 1 (.one 0 false (.one 2 false (.one 3 false .done)))) mixed (by kernel_rfl) (fun C2 hC2 => ?_)
  have hp2 : ∀ o, isPin o = false → C2.pin o = none := by rw [hC2]; exact hpin
  simp (decide := true) only [drop0, row1_length, rows_length, memB, memoryW, memoryC, valueW, MemoryD.fail, vI, vB, vS, cI, cB, cS, roI, ro64, List.cons_append, List.nil_append, hp2, hpin, go_sem, Nat.reduceAdd, Nat.reduceMul]
  refine ⟨?_, ?_⟩
  all_goals
    refine code_sound sized _ ?_
    simp (decide := true) only [drop0, row1_length, rows_length, memB, memoryW, memoryC, valueW, MemoryD.fail, vI, vB, vS, cI, cB, cS, roI, ro64, List.cons_append, List.nil_append, hpin, go_sem, Nat.reduceAdd, Nat.reduceMul]
theorem movedWS_sound (m : MemoryD) (v : ValueD) (hs : SmallM m) : Sound Try.prog 14 [.ro (memoryW m), .ro (valueW v)] (fun rs st => rs = [(true, memB false (movedM m v).1), (true, valueC false (movedM m v).2)]) := by
  have hcp := l09Copy_sound m hs
  have hme := movedS_sound false m v (by have := hs.1; omega)
  generalize movedM m v = r at hme ⊢
  simp only [memoryW, memoryC, valueC, valueW, memB, cB, cI, List.cons_append, List.nil_append] at hcp hme ⊢
  refine sound_tri (fn := Try.f14) (c := Try.f14.body.getD .skip) (res := [.ce 4 27, .ce 5 32]) (n := 14) sized (by kernel_rfl) (by rfl) (by kernel_rfl) (by rfl) (by rfl) (by simp [argsV]) (fun uf ub C hpin hpin2 hfull => ?_)
  simp only [Try.f14, Option.getD_some]
  refine Tri.step sized ?_
  simp (decide := true) only [drop0, row1_length, rows_length, memB, memoryW, memoryC, valueW, MemoryD.fail, vI, vB, vS, cI, cB, cS, roI, ro64, List.cons_append, List.nil_append, hpin, go_sem, Nat.reduceAdd, Nat.reduceMul]
  refine Tri.step sized ?_
  simp (decide := true) only [drop0, row1_length, rows_length, memB, memoryW, memoryC, valueW, MemoryD.fail, vI, vB, vS, cI, cB, cS, roI, ro64, List.cons_append, List.nil_append, hpin, go_sem, Nat.reduceAdd, Nat.reduceMul]
  refine aCall_det hcp hpin ?_
  simp (decide := true) only [drop0, row1_length, rows_length, memB, memoryW, memoryC, valueW, MemoryD.fail, vI, vB, vS, cI, cB, cS, roI, ro64, List.cons_append, List.nil_append, hpin, go_sem, Nat.reduceAdd, Nat.reduceMul]
  refine Tri.step sized ?_
  simp (decide := true) only [ints_sh, List.getElem?_cons_zero, List.getElem?_cons_succ, drop0, row1_length, rows_length, memB, memoryW, memoryC, valueW, MemoryD.fail, vI, vB, vS, cI, cB, cS, roI, ro64, List.cons_append, List.nil_append, hpin, go_sem, Nat.reduceAdd, Nat.reduceMul]
  refine aCall_bxdN hme hpin [(2000, 6)] [] [(2000, 6)] ⟨rfl, rfl, rfl, rfl⟩ (fun uf => ?_) ?_
  · simp (decide := true) only [drop0, row1_length, rows_length, memB, memoryW, memoryC, valueW, MemoryD.fail, vI, vB, vS, cI, cB, cS, roI, ro64, List.cons_append, List.nil_append, hpin, hpin2, go_sem, Nat.reduceAdd, Nat.reduceMul]
  simp (decide := true) only [drop0, row1_length, rows_length, memB, memoryW, memoryC, valueW, MemoryD.fail, vI, vB, vS, cI, cB, cS, roI, ro64, List.cons_append, List.nil_append, hpin, go_sem, Nat.reduceAdd, Nat.reduceMul]
  refine Tri.step sized ?_
  refine Tri.fork sized (.two 0 (.two 1 (.one 2 false (.one 3 false .done)) 2 (.one 1 false (.one 3 false .done))) 1 (.one 0 false (.one 2 false (.one 3 false .done)))) mixed (by kernel_rfl) (fun C2 hC2 => ?_)
  have hp2 : ∀ o, isPin o = false → C2.pin o = none := by rw [hC2]; exact hpin
  simp (decide := true) only [drop0, row1_length, rows_length, memB, memoryW, memoryC, valueW, MemoryD.fail, vI, vB, vS, cI, cB, cS, roI, ro64, List.cons_append, List.nil_append, hp2, hpin, go_sem, Nat.reduceAdd, Nat.reduceMul]
  refine ⟨?_, ?_⟩
  all_goals
    refine code_sound sized _ ?_
    simp (decide := true) only [drop0, row1_length, rows_length, memB, memoryW, memoryC, valueW, MemoryD.fail, vI, vB, vS, cI, cB, cS, roI, ro64, List.cons_append, List.nil_append, hpin, go_sem, Nat.reduceAdd, Nat.reduceMul]
theorem freedWS_sound (m : MemoryD) (v : ValueD) (hs : SmallM m) : Sound Try.prog 25 [.ro (memoryW m), .ro (valueW v)] (fun rs st => rs = [(true, memB false (freedM m v))]) := by
  have hcp := l09Copy_sound m hs
  have hme := freedS_sound false m v (by have := hs.1; omega)
  generalize freedM m v = r at hme ⊢
  simp only [memoryW, memoryC, valueC, valueW, memB, cB, cI, List.cons_append, List.nil_append] at hcp hme ⊢
  refine sound_tri (fn := Try.f25) (c := Try.f25.body.getD .skip) (res := [.ce 4 27]) (n := 11) sized (by kernel_rfl) (by rfl) (by kernel_rfl) (by rfl) (by rfl) (by simp [argsV]) (fun uf ub C hpin hpin2 hfull => ?_)
  simp only [Try.f25, Option.getD_some]
  refine Tri.step sized ?_
  simp (decide := true) only [drop0, row1_length, rows_length, memB, memoryW, memoryC, valueW, MemoryD.fail, vI, vB, vS, cI, cB, cS, roI, ro64, List.cons_append, List.nil_append, hpin, go_sem, Nat.reduceAdd, Nat.reduceMul]
  refine Tri.step sized ?_
  simp (decide := true) only [drop0, row1_length, rows_length, memB, memoryW, memoryC, valueW, MemoryD.fail, vI, vB, vS, cI, cB, cS, roI, ro64, List.cons_append, List.nil_append, hpin, go_sem, Nat.reduceAdd, Nat.reduceMul]
  refine aCall_det hcp hpin ?_
  simp (decide := true) only [drop0, row1_length, rows_length, memB, memoryW, memoryC, valueW, MemoryD.fail, vI, vB, vS, cI, cB, cS, roI, ro64, List.cons_append, List.nil_append, hpin, go_sem, Nat.reduceAdd, Nat.reduceMul]
  refine Tri.step sized ?_
  simp (decide := true) only [ints_sh, List.getElem?_cons_zero, List.getElem?_cons_succ, drop0, row1_length, rows_length, memB, memoryW, memoryC, valueW, MemoryD.fail, vI, vB, vS, cI, cB, cS, roI, ro64, List.cons_append, List.nil_append, hpin, go_sem, Nat.reduceAdd, Nat.reduceMul]
  refine aCall_bxdN hme hpin [(2000, 5)] [] [(2000, 5)] ⟨rfl, rfl, rfl, rfl⟩ (fun uf => ?_) ?_
  · simp (decide := true) only [drop0, row1_length, rows_length, memB, memoryW, memoryC, valueW, MemoryD.fail, vI, vB, vS, cI, cB, cS, roI, ro64, List.cons_append, List.nil_append, hpin, hpin2, go_sem, Nat.reduceAdd, Nat.reduceMul]
  simp (decide := true) only [drop0, row1_length, rows_length, memB, memoryW, memoryC, valueW, MemoryD.fail, vI, vB, vS, cI, cB, cS, roI, ro64, List.cons_append, List.nil_append, hpin, go_sem, Nat.reduceAdd, Nat.reduceMul]
  refine code_sound sized _ ?_
  simp (decide := true) only [drop0, row1_length, rows_length, memB, memoryW, memoryC, valueW, MemoryD.fail, vI, vB, vS, cI, cB, cS, roI, ro64, List.cons_append, List.nil_append, hpin, go_sem, Nat.reduceAdd, Nat.reduceMul]
theorem lookedWS_sound (m : MemoryD) (v : ValueD) (hs : SmallM m) : Sound Try.prog 16 [.ro (memoryW m), .ro (valueW v)] (fun rs st => rs = [(true, memB false (lookedM m v).1), (false, [cI (lookedM m v).2])]) := by
  have hcp := l09Copy_sound m hs
  have hme := lookedS_sound false m v (by have := hs.1; omega)
  generalize lookedM m v = r at hme ⊢
  simp only [memoryW, memoryC, valueC, valueW, memB, cB, cI, List.cons_append, List.nil_append] at hcp hme ⊢
  refine sound_tri (fn := Try.f16) (c := Try.f16.body.getD .skip) (res := [.ce 4 27, .tm 5]) (n := 14) sized (by kernel_rfl) (by rfl) (by kernel_rfl) (by rfl) (by rfl) (by simp [argsV]) (fun uf ub C hpin hpin2 hfull => ?_)
  simp only [Try.f16, Option.getD_some]
  refine Tri.step sized ?_
  simp (decide := true) only [drop0, row1_length, rows_length, memB, memoryW, memoryC, valueW, MemoryD.fail, vI, vB, vS, cI, cB, cS, roI, ro64, List.cons_append, List.nil_append, hpin, go_sem, Nat.reduceAdd, Nat.reduceMul]
  refine Tri.step sized ?_
  simp (decide := true) only [drop0, row1_length, rows_length, memB, memoryW, memoryC, valueW, MemoryD.fail, vI, vB, vS, cI, cB, cS, roI, ro64, List.cons_append, List.nil_append, hpin, go_sem, Nat.reduceAdd, Nat.reduceMul]
  refine aCall_det hcp hpin ?_
  simp (decide := true) only [drop0, row1_length, rows_length, memB, memoryW, memoryC, valueW, MemoryD.fail, vI, vB, vS, cI, cB, cS, roI, ro64, List.cons_append, List.nil_append, hpin, go_sem, Nat.reduceAdd, Nat.reduceMul]
  refine Tri.step sized ?_
  simp (decide := true) only [ints_sh, List.getElem?_cons_zero, List.getElem?_cons_succ, drop0, row1_length, rows_length, memB, memoryW, memoryC, valueW, MemoryD.fail, vI, vB, vS, cI, cB, cS, roI, ro64, List.cons_append, List.nil_append, hpin, go_sem, Nat.reduceAdd, Nat.reduceMul]
  refine aCall_bxdN hme hpin [(2000, 6)] [] [(2000, 6)] ⟨rfl, rfl, rfl, rfl⟩ (fun uf => ?_) ?_
  · simp (decide := true) only [drop0, row1_length, rows_length, memB, memoryW, memoryC, valueW, MemoryD.fail, vI, vB, vS, cI, cB, cS, roI, ro64, List.cons_append, List.nil_append, hpin, hpin2, go_sem, Nat.reduceAdd, Nat.reduceMul]
  simp (decide := true) only [drop0, row1_length, rows_length, memB, memoryW, memoryC, valueW, MemoryD.fail, vI, vB, vS, cI, cB, cS, roI, ro64, List.cons_append, List.nil_append, hpin, go_sem, Nat.reduceAdd, Nat.reduceMul]
  refine code_sound sized _ ?_
  simp (decide := true) only [drop0, row1_length, rows_length, memB, memoryW, memoryC, valueW, MemoryD.fail, vI, vB, vS, cI, cB, cS, roI, ro64, List.cons_append, List.nil_append, hpin, go_sem, Nat.reduceAdd, Nat.reduceMul]
theorem writtenWS_sound (m : MemoryD) (v : ValueD) (n : Int) (hs : SmallM m) : Sound Try.prog 27 [.ro (memoryW m), .ro (valueW v), .ro (.sc (.int .i64 n))] (fun rs st => rs = [(true, memB false (writtenM m v n))]) := by
  have hcp := l09Copy_sound m hs
  have hme := writtenS_sound false m v n (by have := hs.1; omega)
  generalize writtenM m v n = r at hme ⊢
  simp only [memoryW, memoryC, valueC, valueW, memB, cB, cI, List.cons_append, List.nil_append] at hcp hme ⊢
  refine sound_tri (fn := Try.f27) (c := Try.f27.body.getD .skip) (res := [.ce 6 27]) (n := 14) sized (by kernel_rfl) (by rfl) (by kernel_rfl) (by rfl) (by rfl) (by simp [argsV]) (fun uf ub C hpin hpin2 hfull => ?_)
  simp only [Try.f27, Option.getD_some]
  refine Tri.step sized ?_
  simp (decide := true) only [drop0, row1_length, rows_length, memB, memoryW, memoryC, valueW, MemoryD.fail, vI, vB, vS, cI, cB, cS, roI, ro64, List.cons_append, List.nil_append, hpin, go_sem, Nat.reduceAdd, Nat.reduceMul]
  refine Tri.step sized ?_
  simp (decide := true) only [drop0, row1_length, rows_length, memB, memoryW, memoryC, valueW, MemoryD.fail, vI, vB, vS, cI, cB, cS, roI, ro64, List.cons_append, List.nil_append, hpin, go_sem, Nat.reduceAdd, Nat.reduceMul]
  refine aCall_det hcp hpin ?_
  simp (decide := true) only [drop0, row1_length, rows_length, memB, memoryW, memoryC, valueW, MemoryD.fail, vI, vB, vS, cI, cB, cS, roI, ro64, List.cons_append, List.nil_append, hpin, go_sem, Nat.reduceAdd, Nat.reduceMul]
  refine Tri.step sized ?_
  simp (decide := true) only [ints_sh, List.getElem?_cons_zero, List.getElem?_cons_succ, drop0, row1_length, rows_length, memB, memoryW, memoryC, valueW, MemoryD.fail, vI, vB, vS, cI, cB, cS, roI, ro64, List.cons_append, List.nil_append, hpin, go_sem, Nat.reduceAdd, Nat.reduceMul]
  refine aCall_bxdN hme hpin [(2000, 7)] [] [(2000, 7)] ⟨rfl, rfl, rfl, rfl⟩ (fun uf => ?_) ?_
  · simp (decide := true) only [drop0, row1_length, rows_length, memB, memoryW, memoryC, valueW, MemoryD.fail, vI, vB, vS, cI, cB, cS, roI, ro64, List.cons_append, List.nil_append, hpin, hpin2, go_sem, Nat.reduceAdd, Nat.reduceMul]
  simp (decide := true) only [drop0, row1_length, rows_length, memB, memoryW, memoryC, valueW, MemoryD.fail, vI, vB, vS, cI, cB, cS, roI, ro64, List.cons_append, List.nil_append, hpin, go_sem, Nat.reduceAdd, Nat.reduceMul]
  refine code_sound sized _ ?_
  simp (decide := true) only [drop0, row1_length, rows_length, memB, memoryW, memoryC, valueW, MemoryD.fail, vI, vB, vS, cI, cB, cS, roI, ro64, List.cons_append, List.nil_append, hpin, go_sem, Nat.reduceAdd, Nat.reduceMul]
theorem askedWS_sound (m : MemoryD) (hs : SmallM m) : SoundAt Try.prog 18 (fun uf => argsV 0 [.ro (memoryW m)]) [] (fun rs st => rs = [(true, memB true (askedM m).1), (false, [cI (askedM m).2])] ∧ nowIs st.ob []) := by
  have hcp := l09Copy_sound m hs
  have hme := askedS_sound m hs.2.1
  generalize askedM m = r at hme ⊢
  simp only [memoryW, memoryC, valueC, valueW, memB, cB, cI, List.cons_append, List.nil_append] at hcp hme ⊢
  refine sound_tri (fn := Try.f18) (c := Try.f18.body.getD .skip) (res := [.ce 2 27, .tm 3]) (n := 11) sized (by kernel_rfl) (by rfl) (by kernel_rfl) (by rfl) (by rfl) (by simp [argsV]) (fun uf ub C hpin hpin2 hfull => ?_)
  simp only [Try.f18, Option.getD_some]
  refine Tri.step sized ?_
  simp (decide := true) only [drop0, row1_length, rows_length, memB, memoryW, memoryC, valueW, MemoryD.fail, vI, vB, vS, cI, cB, cS, roI, ro64, List.cons_append, List.nil_append, hpin, go_sem, Nat.reduceAdd, Nat.reduceMul]
  refine Tri.step sized ?_
  simp (decide := true) only [drop0, row1_length, rows_length, memB, memoryW, memoryC, valueW, MemoryD.fail, vI, vB, vS, cI, cB, cS, roI, ro64, List.cons_append, List.nil_append, hpin, go_sem, Nat.reduceAdd, Nat.reduceMul]
  refine aCall_det hcp hpin ?_
  simp (decide := true) only [drop0, row1_length, rows_length, memB, memoryW, memoryC, valueW, MemoryD.fail, vI, vB, vS, cI, cB, cS, roI, ro64, List.cons_append, List.nil_append, hpin, go_sem, Nat.reduceAdd, Nat.reduceMul]
  refine Tri.ent ?_ (Ent.shc hfull 4 1)
  refine Tri.step sized ?_
  simp (decide := true) only [ints_sh, List.getElem?_cons_zero, List.getElem?_cons_succ, drop0, row1_length, rows_length, memB, memoryW, memoryC, valueW, MemoryD.fail, vI, vB, vS, cI, cB, cS, roI, ro64, List.cons_append, List.nil_append, hpin, go_sem, Nat.reduceAdd, Nat.reduceMul]
  refine aCall_bxd hme hpin hfull [(2000, 4)] [] [(2000, 4)] ⟨rfl, rfl, rfl, rfl⟩ (fun uf => ?_) ?_
  · simp (decide := true) only [drop0, row1_length, rows_length, memB, memoryW, memoryC, valueW, MemoryD.fail, vI, vB, vS, cI, cB, cS, roI, ro64, List.cons_append, List.nil_append, hpin, hpin2, go_sem, Nat.reduceAdd, Nat.reduceMul]
  simp (decide := true) only [drop0, row1_length, rows_length, memB, memoryW, memoryC, valueW, MemoryD.fail, vI, vB, vS, cI, cB, cS, roI, ro64, List.cons_append, List.nil_append, hpin, go_sem, Nat.reduceAdd, Nat.reduceMul]
  refine code_sound sized _ ?_
  simp (decide := true) only [drop0, row1_length, rows_length, memB, memoryW, memoryC, valueW, MemoryD.fail, vI, vB, vS, cI, cB, cS, roI, ro64, List.cons_append, List.nil_append, hpin, go_sem, Nat.reduceAdd, Nat.reduceMul]
theorem toldWS_sound (m : MemoryD) (n : Int) (hs : SmallM m) : Sound Try.prog 29 [.ro (memoryW m), .ro (.sc (.int .i64 n))] (fun rs st => rs = [(true, memB false (toldM m n))]) := by
  have hcp := l09Copy_sound m hs
  have hme := toldS_sound false m n (by have := hs.2.2.1; omega)
  generalize toldM m n = r at hme ⊢
  simp only [memoryW, memoryC, valueC, valueW, memB, cB, cI, List.cons_append, List.nil_append] at hcp hme ⊢
  refine sound_tri (fn := Try.f29) (c := Try.f29.body.getD .skip) (res := [.ce 4 27]) (n := 11) sized (by kernel_rfl) (by rfl) (by kernel_rfl) (by rfl) (by rfl) (by simp [argsV]) (fun uf ub C hpin hpin2 hfull => ?_)
  simp only [Try.f29, Option.getD_some]
  refine Tri.step sized ?_
  simp (decide := true) only [drop0, row1_length, rows_length, memB, memoryW, memoryC, valueW, MemoryD.fail, vI, vB, vS, cI, cB, cS, roI, ro64, List.cons_append, List.nil_append, hpin, go_sem, Nat.reduceAdd, Nat.reduceMul]
  refine Tri.step sized ?_
  simp (decide := true) only [drop0, row1_length, rows_length, memB, memoryW, memoryC, valueW, MemoryD.fail, vI, vB, vS, cI, cB, cS, roI, ro64, List.cons_append, List.nil_append, hpin, go_sem, Nat.reduceAdd, Nat.reduceMul]
  refine aCall_det hcp hpin ?_
  simp (decide := true) only [drop0, row1_length, rows_length, memB, memoryW, memoryC, valueW, MemoryD.fail, vI, vB, vS, cI, cB, cS, roI, ro64, List.cons_append, List.nil_append, hpin, go_sem, Nat.reduceAdd, Nat.reduceMul]
  refine Tri.step sized ?_
  simp (decide := true) only [ints_sh, List.getElem?_cons_zero, List.getElem?_cons_succ, drop0, row1_length, rows_length, memB, memoryW, memoryC, valueW, MemoryD.fail, vI, vB, vS, cI, cB, cS, roI, ro64, List.cons_append, List.nil_append, hpin, go_sem, Nat.reduceAdd, Nat.reduceMul]
  refine aCall_bxdN hme hpin [(2000, 5)] [] [(2000, 5)] ⟨rfl, rfl, rfl, rfl⟩ (fun uf => ?_) ?_
  · simp (decide := true) only [drop0, row1_length, rows_length, memB, memoryW, memoryC, valueW, MemoryD.fail, vI, vB, vS, cI, cB, cS, roI, ro64, List.cons_append, List.nil_append, hpin, hpin2, go_sem, Nat.reduceAdd, Nat.reduceMul]
  simp (decide := true) only [drop0, row1_length, rows_length, memB, memoryW, memoryC, valueW, MemoryD.fail, vI, vB, vS, cI, cB, cS, roI, ro64, List.cons_append, List.nil_append, hpin, go_sem, Nat.reduceAdd, Nat.reduceMul]
  refine code_sound sized _ ?_
  simp (decide := true) only [drop0, row1_length, rows_length, memB, memoryW, memoryC, valueW, MemoryD.fail, vI, vB, vS, cI, cB, cS, roI, ro64, List.cons_append, List.nil_append, hpin, go_sem, Nat.reduceAdd, Nat.reduceMul]
theorem summedWS_sound (m : MemoryD) (a b : Int) (hs : SmallM m) : Sound Try.prog 20 [.ro (memoryW m), .ro (.sc (.int .i64 a)), .ro (.sc (.int .i64 b))] (fun rs st => rs = [(true, memB false (summedM m a b).1), (false, [cI (summedM m a b).2])]) := by
  have hcp := l09Copy_sound m hs
  have hme := summedS_sound false m a b
  generalize summedM m a b = r at hme ⊢
  simp only [memoryW, memoryC, valueC, valueW, memB, cB, cI, List.cons_append, List.nil_append] at hcp hme ⊢
  refine sound_tri (fn := Try.f20) (c := Try.f20.body.getD .skip) (res := [.ce 6 27, .tm 7]) (n := 17) sized (by kernel_rfl) (by rfl) (by kernel_rfl) (by rfl) (by rfl) (by simp [argsV]) (fun uf ub C hpin hpin2 hfull => ?_)
  simp only [Try.f20, Option.getD_some]
  refine Tri.step sized ?_
  simp (decide := true) only [drop0, row1_length, rows_length, memB, memoryW, memoryC, valueW, MemoryD.fail, vI, vB, vS, cI, cB, cS, roI, ro64, List.cons_append, List.nil_append, hpin, go_sem, Nat.reduceAdd, Nat.reduceMul]
  refine Tri.step sized ?_
  simp (decide := true) only [drop0, row1_length, rows_length, memB, memoryW, memoryC, valueW, MemoryD.fail, vI, vB, vS, cI, cB, cS, roI, ro64, List.cons_append, List.nil_append, hpin, go_sem, Nat.reduceAdd, Nat.reduceMul]
  refine aCall_det hcp hpin ?_
  simp (decide := true) only [drop0, row1_length, rows_length, memB, memoryW, memoryC, valueW, MemoryD.fail, vI, vB, vS, cI, cB, cS, roI, ro64, List.cons_append, List.nil_append, hpin, go_sem, Nat.reduceAdd, Nat.reduceMul]
  refine Tri.step sized ?_
  simp (decide := true) only [ints_sh, List.getElem?_cons_zero, List.getElem?_cons_succ, drop0, row1_length, rows_length, memB, memoryW, memoryC, valueW, MemoryD.fail, vI, vB, vS, cI, cB, cS, roI, ro64, List.cons_append, List.nil_append, hpin, go_sem, Nat.reduceAdd, Nat.reduceMul]
  refine aCall_bxdN hme hpin [(2000, 8)] [] [(2000, 8)] ⟨rfl, rfl, rfl, rfl⟩ (fun uf => ?_) ?_
  · simp (decide := true) only [drop0, row1_length, rows_length, memB, memoryW, memoryC, valueW, MemoryD.fail, vI, vB, vS, cI, cB, cS, roI, ro64, List.cons_append, List.nil_append, hpin, hpin2, go_sem, Nat.reduceAdd, Nat.reduceMul]
  simp (decide := true) only [drop0, row1_length, rows_length, memB, memoryW, memoryC, valueW, MemoryD.fail, vI, vB, vS, cI, cB, cS, roI, ro64, List.cons_append, List.nil_append, hpin, go_sem, Nat.reduceAdd, Nat.reduceMul]
  refine code_sound sized _ ?_
  simp (decide := true) only [drop0, row1_length, rows_length, memB, memoryW, memoryC, valueW, MemoryD.fail, vI, vB, vS, cI, cB, cS, roI, ro64, List.cons_append, List.nil_append, hpin, go_sem, Nat.reduceAdd, Nat.reduceMul]
end Go.Proofs.Ytldniggehdpheaa.AW
