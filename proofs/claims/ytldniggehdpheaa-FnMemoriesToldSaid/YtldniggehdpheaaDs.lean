/- What is drawn of memories; what is held against another. No condition beyond those named. -/
import Derived.Test.YtldniggehdpheaaDr
namespace Go.Proofs.Ytldniggehdpheaa.AW
open Go.RowKit
set_option maxHeartbeats 8000000
set_option maxRecDepth 100000
set_option linter.unusedSimpArgs false
set_option linter.unusedVariables false

theorem drawSpend_sound (b : List Int) (hb : b.length ≤ 1048576) : SoundQ Try.prog 5 [] (fun uf => argsV 0 [.ro (.imm 5 (row1 cU b))]) [] (fun rs st => ∃ q : MemoryD, DrM q ∧ rs = [(true, memoryC false q)] ∧ nowIs st.ob []) := by
  have hm := fun i h hi => memAny_sound b i h hi hb
  simp only [curC, cI] at hm
  refine sound_triQ (fn := Try.f5) (c := Try.f5.body.getD .skip) (res := [.ce 2 27]) (n := 6) sized (by kernel_rfl) (by rfl) (by kernel_rfl) (by rfl) (by rfl) (by simp [argsV]) (fun uf ub C hpin hpin2 hfull hqs => ?_)
  simp only [Try.f5, Option.getD_some]
  refine Tri.step sized ?_
  simp (decide := true) only [drop0, row1_length, rows_length, curC, memoryC, memoryW, valueC, valueW, MemoryD.fail, vI, vB, vS, cI, cB, cS, roI, ro64, List.cons_append, List.nil_append, hpin, go_sem, Nat.reduceAdd, Nat.reduceMul]
  refine code_sound sized _ ?_
  simp (decide := true) only [drop0, row1_length, rows_length, curC, memoryC, memoryW, valueC, valueW, MemoryD.fail, vI, vB, vS, cI, cB, cS, roI, ro64, List.cons_append, List.nil_append, hpin, go_sem, Nat.reduceAdd, Nat.reduceMul]
  refine aCall_newB (curNew_sound b hb) hpin hfull (by simp (decide := true) only [drop0, row1_length, rows_length, curC, memoryC, memoryW, valueC, valueW, MemoryD.fail, vI, vB, vS, cI, cB, cS, roI, ro64, List.cons_append, List.nil_append, hpin, go_sem, Nat.reduceAdd, Nat.reduceMul]) ?_
  rintro cs ⟨h, rfl⟩
  simp (decide := true) only [drop0, row1_length, rows_length, curC, memoryC, memoryW, valueC, valueW, MemoryD.fail, vI, vB, vS, cI, cB, cS, roI, ro64, List.cons_append, List.nil_append, hpin, go_sem, Nat.reduceAdd, Nat.reduceMul]
  refine aCall_qeN (hm 0 h (by omega)) hpin [(2000, 3004)] [] [(2000, 3004)] ⟨rfl, rfl, rfl, rfl⟩ (fun uf => ?_) ?_
  · simp (decide := true) only [drop0, row1_length, rows_length, curC, memoryC, memoryW, valueC, valueW, MemoryD.fail, vI, vB, vS, cI, cB, cS, roI, ro64, List.cons_append, List.nil_append, hpin, hpin2, go_sem, Nat.reduceAdd, Nat.reduceMul]
  simp (decide := true) only [drop0, row1_length, rows_length, curC, memoryC, memoryW, valueC, valueW, MemoryD.fail, vI, vB, vS, cI, cB, cS, roI, ro64, List.cons_append, List.nil_append, hpin, go_sem, Nat.reduceAdd, Nat.reduceMul]
  rintro ⟨m, j, g⟩ ⟨p1, p2⟩
  simp only at p1 p2
  exact ⟨m, p1, rfl⟩
theorem drawAsked_sound (b : List Int) (hb : b.length ≤ 1048576) : SoundQ Try.prog 9 [] (fun uf => argsV 0 [.ro (.imm 5 (row1 cU b))]) [] (fun rs st => ∃ q : MemoryD, DrM q ∧ rs = [(true, memoryC false q)] ∧ nowIs st.ob []) := by
  have hm := fun i h hi => memAny_sound b i h hi hb
  simp only [curC, cI] at hm
  refine sound_triQ (fn := Try.f9) (c := Try.f9.body.getD .skip) (res := [.ce 2 27]) (n := 6) sized (by kernel_rfl) (by rfl) (by kernel_rfl) (by rfl) (by rfl) (by simp [argsV]) (fun uf ub C hpin hpin2 hfull hqs => ?_)
  simp only [Try.f9, Option.getD_some]
  refine Tri.step sized ?_
  simp (decide := true) only [drop0, row1_length, rows_length, curC, memoryC, memoryW, valueC, valueW, MemoryD.fail, vI, vB, vS, cI, cB, cS, roI, ro64, List.cons_append, List.nil_append, hpin, go_sem, Nat.reduceAdd, Nat.reduceMul]
  refine code_sound sized _ ?_
  simp (decide := true) only [drop0, row1_length, rows_length, curC, memoryC, memoryW, valueC, valueW, MemoryD.fail, vI, vB, vS, cI, cB, cS, roI, ro64, List.cons_append, List.nil_append, hpin, go_sem, Nat.reduceAdd, Nat.reduceMul]
  refine aCall_newB (curNew_sound b hb) hpin hfull (by simp (decide := true) only [drop0, row1_length, rows_length, curC, memoryC, memoryW, valueC, valueW, MemoryD.fail, vI, vB, vS, cI, cB, cS, roI, ro64, List.cons_append, List.nil_append, hpin, go_sem, Nat.reduceAdd, Nat.reduceMul]) ?_
  rintro cs ⟨h, rfl⟩
  simp (decide := true) only [drop0, row1_length, rows_length, curC, memoryC, memoryW, valueC, valueW, MemoryD.fail, vI, vB, vS, cI, cB, cS, roI, ro64, List.cons_append, List.nil_append, hpin, go_sem, Nat.reduceAdd, Nat.reduceMul]
  refine aCall_qeN (hm 0 h (by omega)) hpin [(2000, 3004)] [] [(2000, 3004)] ⟨rfl, rfl, rfl, rfl⟩ (fun uf => ?_) ?_
  · simp (decide := true) only [drop0, row1_length, rows_length, curC, memoryC, memoryW, valueC, valueW, MemoryD.fail, vI, vB, vS, cI, cB, cS, roI, ro64, List.cons_append, List.nil_append, hpin, hpin2, go_sem, Nat.reduceAdd, Nat.reduceMul]
  simp (decide := true) only [drop0, row1_length, rows_length, curC, memoryC, memoryW, valueC, valueW, MemoryD.fail, vI, vB, vS, cI, cB, cS, roI, ro64, List.cons_append, List.nil_append, hpin, go_sem, Nat.reduceAdd, Nat.reduceMul]
  rintro ⟨m, j, g⟩ ⟨p1, p2⟩
  exact ⟨m, p1, rfl⟩
theorem drawFresh_sound (b : List Int) (hb : b.length ≤ 1048576) : SoundQ Try.prog 6 [] (fun uf => argsV 0 [.ro (.imm 5 (row1 cU b))]) [] (fun rs st => ∃ q : MemoryD × Int, DrM q.1 ∧ rs = [(true, memoryC false q.1), (false, [cI q.2])] ∧ nowIs st.ob []) := by
  have hm := fun i h hi => memAny_sound b i h hi hb
  have hp := fun i h hi => curPickInt_sound b i h [0, 5, -1] hi hb (by simp) (by simp)
  have hrp : row1 cI [0, 5, -1] = [[.sc (.int .i64 0)], [.sc (.int .i64 5)], [.sc (.int .i64 (-1))]] := rfl
  simp only [curC, cI] at hm hrp
  simp only [curC, cI, hrp] at hp
  refine sound_triQ (fn := Try.f6) (c := Try.f6.body.getD .skip) (res := [.ce 2 27, .tm 3]) (n := 14) sized (by kernel_rfl) (by rfl) (by kernel_rfl) (by rfl) (by rfl) (by simp [argsV]) (fun uf ub C hpin hpin2 hfull hqs => ?_)
  simp only [Try.f6, Option.getD_some]
  refine Tri.step sized ?_
  simp (decide := true) only [drop0, row1_length, rows_length, curC, memoryC, memoryW, valueC, valueW, MemoryD.fail, vI, vB, vS, cI, cB, cS, roI, ro64, List.cons_append, List.nil_append, hpin, go_sem, Nat.reduceAdd, Nat.reduceMul]
  refine Tri.step sized ?_
  simp (decide := true) only [drop0, row1_length, rows_length, curC, memoryC, memoryW, valueC, valueW, MemoryD.fail, vI, vB, vS, cI, cB, cS, roI, ro64, List.cons_append, List.nil_append, hpin, go_sem, Nat.reduceAdd, Nat.reduceMul]
  refine aCall_newB (curNew_sound b hb) hpin hfull (by simp (decide := true) only [drop0, row1_length, rows_length, curC, memoryC, memoryW, valueC, valueW, MemoryD.fail, vI, vB, vS, cI, cB, cS, roI, ro64, List.cons_append, List.nil_append, hpin, go_sem, Nat.reduceAdd, Nat.reduceMul]) ?_
  rintro cs ⟨h, rfl⟩
  simp (decide := true) only [drop0, row1_length, rows_length, curC, memoryC, memoryW, valueC, valueW, MemoryD.fail, vI, vB, vS, cI, cB, cS, roI, ro64, List.cons_append, List.nil_append, hpin, go_sem, Nat.reduceAdd, Nat.reduceMul]
  refine Tri.step sized ?_
  simp (decide := true) only [drop0, row1_length, rows_length, curC, memoryC, memoryW, valueC, valueW, MemoryD.fail, vI, vB, vS, cI, cB, cS, roI, ro64, List.cons_append, List.nil_append, hpin, go_sem, Nat.reduceAdd, Nat.reduceMul]
  refine aCall_qeN (hp 0 h (by omega)) hpin [(2001, 3009), (2000, 3007)] [(2001, 3009)] [(2000, 3007)] ⟨rfl, rfl, rfl, rfl⟩ (fun uf => ?_) ?_
  · simp (decide := true) only [drop0, row1_length, rows_length, curC, memoryC, memoryW, valueC, valueW, MemoryD.fail, vI, vB, vS, cI, cB, cS, roI, ro64, List.cons_append, List.nil_append, hpin, hpin2, go_sem, Nat.reduceAdd, Nat.reduceMul]
  simp (decide := true) only [drop0, row1_length, rows_length, curC, memoryC, memoryW, valueC, valueW, MemoryD.fail, vI, vB, vS, cI, cB, cS, roI, ro64, List.cons_append, List.nil_append, hpin, go_sem, Nat.reduceAdd, Nat.reduceMul]
  rintro ⟨x1, i1, h1⟩ ⟨p1, s1⟩
  simp only at s1
  refine code_sound sized _ ?_
  simp (decide := true) only [drop0, row1_length, rows_length, curC, memoryC, memoryW, valueC, valueW, MemoryD.fail, vI, vB, vS, cI, cB, cS, roI, ro64, List.cons_append, List.nil_append, hpin, go_sem, Nat.reduceAdd, Nat.reduceMul]
  refine aCall_qeN (hm i1 h1 s1) hpin [(2000, 3007)] [] [(2000, 3007)] ⟨rfl, rfl, rfl, rfl⟩ (fun uf => ?_) ?_
  · simp (decide := true) only [drop0, row1_length, rows_length, curC, memoryC, memoryW, valueC, valueW, MemoryD.fail, vI, vB, vS, cI, cB, cS, roI, ro64, List.cons_append, List.nil_append, hpin, hpin2, go_sem, Nat.reduceAdd, Nat.reduceMul]
  simp (decide := true) only [drop0, row1_length, rows_length, curC, memoryC, memoryW, valueC, valueW, MemoryD.fail, vI, vB, vS, cI, cB, cS, roI, ro64, List.cons_append, List.nil_append, hpin, go_sem, Nat.reduceAdd, Nat.reduceMul]
  rintro ⟨m, j, g⟩ ⟨p2, p3⟩
  exact ⟨(m, x1), p2, rfl⟩
theorem pair_sound (b : List Int) (hb : b.length ≤ 1048576) : SoundQ Try.prog 34 [] (fun uf => argsV 0 [.ro (.imm 5 (row1 cU b))]) [] (fun rs st => ∃ q : MemoryD × ValueD, DrM q.1 ∧ rs = [(true, memoryC false q.1), (true, valueC false q.2)] ∧ nowIs st.ob []) := by
  have hm := fun i h hi => memAny_sound b i h hi hb
  have hv := fun i h hi => valAny_sound b i h hi hb
  simp only [curC, cI] at hm hv
  refine sound_triQ (fn := Try.f34) (c := Try.f34.body.getD .skip) (res := [.ce 2 27, .ce 3 32]) (n := 13) sized (by kernel_rfl) (by rfl) (by kernel_rfl) (by rfl) (by rfl) (by simp [argsV]) (fun uf ub C hpin hpin2 hfull hqs => ?_)
  simp only [Try.f34, Option.getD_some]
  refine Tri.step sized ?_
  simp (decide := true) only [drop0, row1_length, rows_length, curC, memoryC, memoryW, valueC, valueW, MemoryD.fail, vI, vB, vS, cI, cB, cS, roI, ro64, List.cons_append, List.nil_append, hpin, go_sem, Nat.reduceAdd, Nat.reduceMul]
  refine Tri.step sized ?_
  simp (decide := true) only [drop0, row1_length, rows_length, curC, memoryC, memoryW, valueC, valueW, MemoryD.fail, vI, vB, vS, cI, cB, cS, roI, ro64, List.cons_append, List.nil_append, hpin, go_sem, Nat.reduceAdd, Nat.reduceMul]
  refine aCall_newB (curNew_sound b hb) hpin hfull (by simp (decide := true) only [drop0, row1_length, rows_length, curC, memoryC, memoryW, valueC, valueW, MemoryD.fail, vI, vB, vS, cI, cB, cS, roI, ro64, List.cons_append, List.nil_append, hpin, go_sem, Nat.reduceAdd, Nat.reduceMul]) ?_
  rintro cs ⟨h, rfl⟩
  simp (decide := true) only [drop0, row1_length, rows_length, curC, memoryC, memoryW, valueC, valueW, MemoryD.fail, vI, vB, vS, cI, cB, cS, roI, ro64, List.cons_append, List.nil_append, hpin, go_sem, Nat.reduceAdd, Nat.reduceMul]
  refine Tri.step sized ?_
  simp (decide := true) only [drop0, row1_length, rows_length, curC, memoryC, memoryW, valueC, valueW, MemoryD.fail, vI, vB, vS, cI, cB, cS, roI, ro64, List.cons_append, List.nil_append, hpin, go_sem, Nat.reduceAdd, Nat.reduceMul]
  refine aCall_qeN (hv 0 h (by omega)) hpin [(2000, 3007)] [] [(2000, 3007)] ⟨rfl, rfl, rfl, rfl⟩ (fun uf => ?_) ?_
  · simp (decide := true) only [drop0, row1_length, rows_length, curC, memoryC, memoryW, valueC, valueW, MemoryD.fail, vI, vB, vS, cI, cB, cS, roI, ro64, List.cons_append, List.nil_append, hpin, hpin2, go_sem, Nat.reduceAdd, Nat.reduceMul]
  simp (decide := true) only [drop0, row1_length, rows_length, curC, memoryC, memoryW, valueC, valueW, MemoryD.fail, vI, vB, vS, cI, cB, cS, roI, ro64, List.cons_append, List.nil_append, hpin, go_sem, Nat.reduceAdd, Nat.reduceMul]
  rintro ⟨v, i1, h1⟩ s1
  simp only at s1
  simp (decide := true) only [drop0, row1_length, rows_length, curC, memoryC, memoryW, valueC, valueW, MemoryD.fail, vI, vB, vS, cI, cB, cS, roI, ro64, List.cons_append, List.nil_append, hpin, go_sem, Nat.reduceAdd, Nat.reduceMul]
  refine Tri.ent ?_ (Ent.frb hfull 5)
  refine Tri.step sized ?_
  refine Tri.fork sized (.one 0 true (.one 2 true (.one 1 false (.one 3 false (.one 4 false .done))))) mixed (by kernel_rfl) (fun C2 hC2 => ?_)
  have hp2 : ∀ o, isPin o = false → C2.pin o = none := by rw [hC2]; exact hpin
  simp (decide := true) only [drop0, row1_length, rows_length, curC, memoryC, memoryW, valueC, valueW, MemoryD.fail, vI, vB, vS, cI, cB, cS, roI, ro64, List.cons_append, List.nil_append, hp2, hpin, go_sem, Nat.reduceAdd, Nat.reduceMul]
  refine aCall_qeN (hm i1 h1 s1) hp2 [(2000, 3007)] [] [(2000, 3007)] ⟨rfl, rfl, rfl, rfl⟩ (fun uf => ?_) ?_
  · simp (decide := true) only [drop0, row1_length, rows_length, curC, memoryC, memoryW, valueC, valueW, MemoryD.fail, vI, vB, vS, cI, cB, cS, roI, ro64, List.cons_append, List.nil_append, hpin, hpin2, go_sem, Nat.reduceAdd, Nat.reduceMul]
  simp (decide := true) only [drop0, row1_length, rows_length, curC, memoryC, memoryW, valueC, valueW, MemoryD.fail, vI, vB, vS, cI, cB, cS, roI, ro64, List.cons_append, List.nil_append, hp2, hpin, go_sem, Nat.reduceAdd, Nat.reduceMul]
  rintro ⟨m, j, g⟩ ⟨p1, p2⟩
  refine code_sound sized _ ?_
  simp (decide := true) only [drop0, row1_length, rows_length, curC, memoryC, memoryW, valueC, valueW, MemoryD.fail, vI, vB, vS, cI, cB, cS, roI, ro64, List.cons_append, List.nil_append, hpin, go_sem, Nat.reduceAdd, Nat.reduceMul]
  exact ⟨(m, v), p1, rfl⟩
theorem drawMoved_sound (b : List Int) (hb : b.length ≤ 1048576) : SoundQ Try.prog 7 [] (fun uf => argsV 0 [.ro (.imm 5 (row1 cU b))]) [] (fun rs st => ∃ q : MemoryD × ValueD, DrM q.1 ∧ rs = [(true, memoryC false q.1), (true, valueC false q.2)] ∧ nowIs st.ob []) := by
  have hp := pair_sound b hb
  refine sound_triQ (fn := Try.f7) (c := Try.f7.body.getD .skip) (res := [.ce 2 27, .ce 3 32]) (n := 8) sized (by kernel_rfl) (by rfl) (by kernel_rfl) (by rfl) (by rfl) (by simp [argsV]) (fun uf ub C hpin hpin2 hfull hqs => ?_)
  simp only [Try.f7, Option.getD_some]
  refine Tri.step sized ?_
  simp (decide := true) only [drop0, row1_length, rows_length, curC, memoryC, memoryW, valueC, valueW, MemoryD.fail, vI, vB, vS, cI, cB, cS, roI, ro64, List.cons_append, List.nil_append, hpin, go_sem, Nat.reduceAdd, Nat.reduceMul]
  refine code_sound sized _ ?_
  simp (decide := true) only [drop0, row1_length, rows_length, curC, memoryC, memoryW, valueC, valueW, MemoryD.fail, vI, vB, vS, cI, cB, cS, roI, ro64, List.cons_append, List.nil_append, hpin, go_sem, Nat.reduceAdd, Nat.reduceMul]
  refine aCall_qe hp hpin hfull [] [] [] ⟨rfl, rfl, rfl, rfl⟩ (fun uf => ?_) ?_
  · simp (decide := true) only [drop0, row1_length, rows_length, curC, memoryC, memoryW, valueC, valueW, MemoryD.fail, vI, vB, vS, cI, cB, cS, roI, ro64, List.cons_append, List.nil_append, hpin, hpin2, go_sem, Nat.reduceAdd, Nat.reduceMul]
  simp (decide := true) only [drop0, row1_length, rows_length, curC, memoryC, memoryW, valueC, valueW, MemoryD.fail, vI, vB, vS, cI, cB, cS, roI, ro64, List.cons_append, List.nil_append, hpin, go_sem, Nat.reduceAdd, Nat.reduceMul]
  rintro ⟨m, v⟩ p1
  exact ⟨(m, v), p1, rfl⟩
theorem drawWritten_sound (b : List Int) (hb : b.length ≤ 1048576) : SoundQ Try.prog 8 [] (fun uf => argsV 0 [.ro (.imm 5 (row1 cU b))]) [] (fun rs st => ∃ q : MemoryD × ValueD × Int, DrM q.1 ∧ rs = [(true, memoryC false q.1), (true, valueC false q.2.1), (false, [cI q.2.2])] ∧ nowIs st.ob []) := by
  have hp := pair_sound b hb
  refine sound_triQ (fn := Try.f8) (c := Try.f8.body.getD .skip) (res := [.ce 2 27, .ce 3 32, .tm 4]) (n := 16) sized (by kernel_rfl) (by rfl) (by kernel_rfl) (by rfl) (by rfl) (by simp [argsV]) (fun uf ub C hpin hpin2 hfull hqs => ?_)
  simp only [Try.f8, Option.getD_some]
  refine Tri.step sized ?_
  simp (decide := true) only [drop0, row1_length, rows_length, curC, memoryC, memoryW, valueC, valueW, MemoryD.fail, vI, vB, vS, cI, cB, cS, roI, ro64, List.cons_append, List.nil_append, hpin, go_sem, Nat.reduceAdd, Nat.reduceMul]
  refine Tri.step sized ?_
  simp (decide := true) only [drop0, row1_length, rows_length, curC, memoryC, memoryW, valueC, valueW, MemoryD.fail, vI, vB, vS, cI, cB, cS, roI, ro64, List.cons_append, List.nil_append, hpin, go_sem, Nat.reduceAdd, Nat.reduceMul]
  refine aCall_qe hp hpin hfull [] [] [] ⟨rfl, rfl, rfl, rfl⟩ (fun uf => ?_) ?_
  · simp (decide := true) only [drop0, row1_length, rows_length, curC, memoryC, memoryW, valueC, valueW, MemoryD.fail, vI, vB, vS, cI, cB, cS, roI, ro64, List.cons_append, List.nil_append, hpin, hpin2, go_sem, Nat.reduceAdd, Nat.reduceMul]
  simp (decide := true) only [drop0, row1_length, rows_length, curC, memoryC, memoryW, valueC, valueW, MemoryD.fail, vI, vB, vS, cI, cB, cS, roI, ro64, List.cons_append, List.nil_append, hpin, go_sem, Nat.reduceAdd, Nat.reduceMul]
  rintro ⟨m, v⟩ p1
  refine Tri.step sized ?_
  refine Tri.fork sized (.one 2 true (.one 3 true (.two 0 (.two 1 (.one 4 false (.one 5 false (.one 6 false .done))) 4 (.one 1 false (.one 5 false (.one 6 false .done)))) 1 (.one 0 false (.one 4 false (.one 5 false (.one 6 false .done))))))) mixed (by kernel_rfl) (fun C2 hC2 => ?_)
  have hp2 : ∀ o, isPin o = false → C2.pin o = none := by rw [hC2]; exact hpin
  simp (decide := true) only [drop0, row1_length, rows_length, curC, memoryC, memoryW, valueC, valueW, MemoryD.fail, vI, vB, vS, cI, cB, cS, roI, ro64, List.cons_append, List.nil_append, hp2, hpin, go_sem, Nat.reduceAdd, Nat.reduceMul]
  refine ⟨?_, ?_⟩
  all_goals
    refine code_sound sized _ ?_
    simp (decide := true) only [drop0, row1_length, rows_length, curC, memoryC, memoryW, valueC, valueW, MemoryD.fail, vI, vB, vS, cI, cB, cS, roI, ro64, List.cons_append, List.nil_append, hpin, go_sem, Nat.reduceAdd, Nat.reduceMul]
    exact ⟨(m, v, b.length), p1, rfl⟩
theorem drawSummed_sound (b : List Int) (hb : b.length ≤ 1048576) : SoundQ Try.prog 10 [] (fun uf => argsV 0 [.ro (.imm 5 (row1 cU b))]) [] (fun rs st => ∃ q : MemoryD × Int × Int, DrM q.1 ∧ rs = [(true, memoryC false q.1), (false, [cI q.2.1]), (false, [cI q.2.2])] ∧ nowIs st.ob []) := by
  have hm := fun i h hi => memAny_sound b i h hi hb
  have hp := fun i h hi => curPickInt_sound b i h [0, 3, 1000000000, 1000000001, -1, 9223372036854775807] hi hb (by simp) (by simp)
  have hrp : row1 cI [0, 3, 1000000000, 1000000001, -1, 9223372036854775807] = [[.sc (.int .i64 0)], [.sc (.int .i64 3)], [.sc (.int .i64 1000000000)], [.sc (.int .i64 1000000001)], [.sc (.int .i64 (-1))], [.sc (.int .i64 9223372036854775807)]] := rfl
  have hq := fun i h hi => curPickInt_sound b i h [0, 1, 1000000000, 9223372036854775807] hi hb (by simp) (by simp)
  have hrq : row1 cI [0, 1, 1000000000, 9223372036854775807] = [[.sc (.int .i64 0)], [.sc (.int .i64 1)], [.sc (.int .i64 1000000000)], [.sc (.int .i64 9223372036854775807)]] := rfl
  simp only [curC, cI] at hm hrp hrq
  simp only [curC, cI, hrp] at hp
  simp only [curC, cI, hrq] at hq
  refine sound_triQ (fn := Try.f10) (c := Try.f10.body.getD .skip) (res := [.ce 2 27, .tm 3, .tm 4]) (n := 20) sized (by kernel_rfl) (by rfl) (by kernel_rfl) (by rfl) (by rfl) (by simp [argsV]) (fun uf ub C hpin hpin2 hfull hqs => ?_)
  simp only [Try.f10, Option.getD_some]
  refine Tri.step sized ?_
  simp (decide := true) only [drop0, row1_length, rows_length, curC, memoryC, memoryW, valueC, valueW, MemoryD.fail, vI, vB, vS, cI, cB, cS, roI, ro64, List.cons_append, List.nil_append, hpin, go_sem, Nat.reduceAdd, Nat.reduceMul]
  refine Tri.step sized ?_
  simp (decide := true) only [drop0, row1_length, rows_length, curC, memoryC, memoryW, valueC, valueW, MemoryD.fail, vI, vB, vS, cI, cB, cS, roI, ro64, List.cons_append, List.nil_append, hpin, go_sem, Nat.reduceAdd, Nat.reduceMul]
  refine aCall_newB (curNew_sound b hb) hpin hfull (by simp (decide := true) only [drop0, row1_length, rows_length, curC, memoryC, memoryW, valueC, valueW, MemoryD.fail, vI, vB, vS, cI, cB, cS, roI, ro64, List.cons_append, List.nil_append, hpin, go_sem, Nat.reduceAdd, Nat.reduceMul]) ?_
  rintro cs ⟨h, rfl⟩
  simp (decide := true) only [drop0, row1_length, rows_length, curC, memoryC, memoryW, valueC, valueW, MemoryD.fail, vI, vB, vS, cI, cB, cS, roI, ro64, List.cons_append, List.nil_append, hpin, go_sem, Nat.reduceAdd, Nat.reduceMul]
  refine Tri.step sized ?_
  simp (decide := true) only [drop0, row1_length, rows_length, curC, memoryC, memoryW, valueC, valueW, MemoryD.fail, vI, vB, vS, cI, cB, cS, roI, ro64, List.cons_append, List.nil_append, hpin, go_sem, Nat.reduceAdd, Nat.reduceMul]
  refine aCall_qeN (hp 0 h (by omega)) hpin [(2001, 3011), (2000, 3009)] [(2001, 3011)] [(2000, 3009)] ⟨rfl, rfl, rfl, rfl⟩ (fun uf => ?_) ?_
  · simp (decide := true) only [drop0, row1_length, rows_length, curC, memoryC, memoryW, valueC, valueW, MemoryD.fail, vI, vB, vS, cI, cB, cS, roI, ro64, List.cons_append, List.nil_append, hpin, hpin2, go_sem, Nat.reduceAdd, Nat.reduceMul]
  simp (decide := true) only [drop0, row1_length, rows_length, curC, memoryC, memoryW, valueC, valueW, MemoryD.fail, vI, vB, vS, cI, cB, cS, roI, ro64, List.cons_append, List.nil_append, hpin, go_sem, Nat.reduceAdd, Nat.reduceMul]
  rintro ⟨x1, i1, h1⟩ ⟨p1, s1⟩
  simp only at s1
  refine Tri.step sized ?_
  simp (decide := true) only [drop0, row1_length, rows_length, curC, memoryC, memoryW, valueC, valueW, MemoryD.fail, vI, vB, vS, cI, cB, cS, roI, ro64, List.cons_append, List.nil_append, hpin, go_sem, Nat.reduceAdd, Nat.reduceMul]
  refine aCall_qeN (hq i1 h1 s1) hpin [(2001, 3014), (2000, 3009)] [(2001, 3014)] [(2000, 3009)] ⟨rfl, rfl, rfl, rfl⟩ (fun uf => ?_) ?_
  · simp (decide := true) only [drop0, row1_length, rows_length, curC, memoryC, memoryW, valueC, valueW, MemoryD.fail, vI, vB, vS, cI, cB, cS, roI, ro64, List.cons_append, List.nil_append, hpin, hpin2, go_sem, Nat.reduceAdd, Nat.reduceMul]
  simp (decide := true) only [drop0, row1_length, rows_length, curC, memoryC, memoryW, valueC, valueW, MemoryD.fail, vI, vB, vS, cI, cB, cS, roI, ro64, List.cons_append, List.nil_append, hpin, go_sem, Nat.reduceAdd, Nat.reduceMul]
  rintro ⟨x2, i2, h2⟩ ⟨p2, s2⟩
  simp only at s2
  refine code_sound sized _ ?_
  simp (decide := true) only [drop0, row1_length, rows_length, curC, memoryC, memoryW, valueC, valueW, MemoryD.fail, vI, vB, vS, cI, cB, cS, roI, ro64, List.cons_append, List.nil_append, hpin, go_sem, Nat.reduceAdd, Nat.reduceMul]
  refine aCall_qeN (hm i2 h2 s2) hpin [(2000, 3009)] [] [(2000, 3009)] ⟨rfl, rfl, rfl, rfl⟩ (fun uf => ?_) ?_
  · simp (decide := true) only [drop0, row1_length, rows_length, curC, memoryC, memoryW, valueC, valueW, MemoryD.fail, vI, vB, vS, cI, cB, cS, roI, ro64, List.cons_append, List.nil_append, hpin, hpin2, go_sem, Nat.reduceAdd, Nat.reduceMul]
  simp (decide := true) only [drop0, row1_length, rows_length, curC, memoryC, memoryW, valueC, valueW, MemoryD.fail, vI, vB, vS, cI, cB, cS, roI, ro64, List.cons_append, List.nil_append, hpin, go_sem, Nat.reduceAdd, Nat.reduceMul]
  rintro ⟨m, j, g⟩ ⟨p3, p4⟩
  exact ⟨(m, x1, x2), p3, rfl⟩
theorem sameInts_sound (l k : List Int) (hl : l.length ≤ 1048576) : Sound Try.prog 47 [.ro (roI l), .ro (roI k)] (fun rs st => rs = [(false, [cB (decide (l = k))])]) := by
  refine sound_tri (fn := Try.f47) (c := Try.f47.body.getD .skip) (res := [.tm 4]) (n := 26) sized (by kernel_rfl) (by rfl) (by kernel_rfl) (by rfl) (by rfl) (by simp [argsV]) (fun uf ub C hpin hpin2 hfull => ?_)
  simp only [Try.f47, Option.getD_some]
  refine Tri.step sized ?_
  simp (decide := true) only [drop0, row1_length, rows_length, curC, memoryC, memoryW, valueC, valueW, MemoryD.fail, vI, vB, vS, cI, cB, cS, roI, ro64, List.cons_append, List.nil_append, hpin, go_sem, Nat.reduceAdd, Nat.reduceMul]
  refine Tri.step sized ?_
  by_cases hlen : l.length = k.length
  case neg =>
    have e : ((l.length : Int) != (k.length : Int)) = true := by rw [bne_iff_ne]; omega
    have hd : decide (l = k) = false := decide_eq_false (fun e => hlen (by rw [e]))
    simp (decide := true) only [e, hd, drop0, row1_length, rows_length, curC, memoryC, memoryW, valueC, valueW, MemoryD.fail, vI, vB, vS, cI, cB, cS, roI, ro64, List.cons_append, List.nil_append, hpin, go_sem, Nat.reduceAdd, Nat.reduceMul]
  have e : ((l.length : Int) != (k.length : Int)) = false := by simp [hlen]
  simp (decide := true) only [e, drop0, row1_length, rows_length, curC, memoryC, memoryW, valueC, valueW, MemoryD.fail, vI, vB, vS, cI, cB, cS, roI, ro64, List.cons_append, List.nil_append, hpin, go_sem, Nat.reduceAdd, Nat.reduceMul]
  refine Tri.step sized ?_
  simp (decide := true) only [drop0, row1_length, rows_length, curC, memoryC, memoryW, valueC, valueW, MemoryD.fail, vI, vB, vS, cI, cB, cS, roI, ro64, List.cons_append, List.nil_append, hpin, go_sem, Nat.reduceAdd, Nat.reduceMul]
  refine Tri.loop (ι := Nat) (fun i => i ≤ l.length ∧ l.take i = k.take i) (fun i => ⟨26, [(0, roI l), (1, roI k), (5, vI i)], []⟩) (fun i => l.length - i) 0 (by simp) ?_ ?_
  · refine Ent.weak ?_ ?_ ?_ ?_ <;> simp (decide := true) [subT, subB, hereT, hereV, hereL, St.get, look, vI, vB, vS, cI, cS, cB, curC, memoryC, roI]
  · rintro i ⟨hi, ht⟩
    refine code_sound sized _ ?_
    by_cases h' : i < l.length
    · have e : ((i : Int) < (l.length : Int)) = True := by simp [h']
      have h2 : i < k.length := by omega
      have hk2 : ((i : Int) < (k.length : Int)) = True := by simp [h2]
      simp (decide := true) only [e, drop0, row1_length, rows_length, curC, memoryC, memoryW, valueC, valueW, MemoryD.fail, vI, vB, vS, cI, cB, cS, roI, ro64, List.cons_append, List.nil_append, hpin, go_sem, Nat.reduceAdd, Nat.reduceMul]
      refine Tri.draw sized mixed (by kernel_rfl) ?_
      simp (decide := true) only [e, hk2, h', h2, row1_get _ _ h', row1_get _ _ h2, Int.natCast_nonneg, Int.toNat_natCast, drop0, row1_length, rows_length, curC, memoryC, memoryW, valueC, valueW, MemoryD.fail, vI, vB, vS, cI, cB, cS, roI, ro64, List.cons_append, List.nil_append, hpin, go_sem, Nat.reduceAdd, Nat.reduceMul]
      cases hq : l[i] != k[i] with
      | true =>
        have hd : decide (l = k) = false := decide_eq_false (fun e => by subst e; simp at hq)
        simp (decide := true) only [hq, hd, drop0, row1_length, rows_length, curC, memoryC, memoryW, valueC, valueW, MemoryD.fail, vI, vB, vS, cI, cB, cS, roI, ro64, List.cons_append, List.nil_append, hpin, go_sem, Nat.reduceAdd, Nat.reduceMul]
      | false =>
        have hq' : l[i] = k[i] := by simpa using hq
        simp (decide := true) only [hq, drop0, row1_length, rows_length, curC, memoryC, memoryW, valueC, valueW, MemoryD.fail, vI, vB, vS, cI, cB, cS, roI, ro64, List.cons_append, List.nil_append, hpin, go_sem, Nat.reduceAdd, Nat.reduceMul]
        refine ⟨i + 1, ⟨h', by rw [List.take_succ_eq_append_getElem h', List.take_succ_eq_append_getElem h2, ht, hq']⟩, by omega, Ent.weak ?_ ?_ ?_ ?_⟩
        all_goals simp (decide := true) [subT, subB, hereT, hereV, hereL, St.get, look, vI, vB, vS, cI, cS, cB, curC, memoryC, roI, w64s (n := l.length) h' (by omega)]
    · have hil : i = l.length := by omega
      subst hil
      have e : ((l.length : Int) < (l.length : Int)) = False := by simp
      have hd : decide (l = k) = true := decide_eq_true (by rw [List.take_length, hlen, List.take_length] at ht; exact ht)
      simp (decide := true) only [e, drop0, row1_length, rows_length, curC, memoryC, memoryW, valueC, valueW, MemoryD.fail, vI, vB, vS, cI, cB, cS, roI, ro64, List.cons_append, List.nil_append, hpin, go_sem, Nat.reduceAdd, Nat.reduceMul]
      refine code_sound sized _ ?_
      simp (decide := true) only [hd, drop0, row1_length, rows_length, curC, memoryC, memoryW, valueC, valueW, MemoryD.fail, vI, vB, vS, cI, cB, cS, roI, ro64, List.cons_append, List.nil_append, hpin, go_sem, Nat.reduceAdd, Nat.reduceMul]
theorem sameMemory_sound (m : MemoryD) (hs : SmallM m) : Sound Try.prog 21 [.ro (memoryW m), .ro (memoryW m)] (fun rs st => rs = [(false, [cB true])]) := by
  obtain ⟨s1, s2, s3, s4⟩ := hs
  have hi1 := sameInts_sound m.input m.input (by omega)
  have hi2 := sameInts_sound m.out m.out (by omega)
  refine sound_tri (fn := Try.f21) (c := Try.f21.body.getD .skip) (res := [.tm 4]) (n := 61) sized (by kernel_rfl) (by rfl) (by kernel_rfl) (by rfl) (by rfl) (by simp [argsV]) (fun uf ub C hpin hpin2 hfull => ?_)
  simp only [Try.f21, Option.getD_some]
  refine Tri.step sized ?_
  simp (decide := true) only [drop0, row1_length, rows_length, curC, memoryC, memoryW, valueC, valueW, MemoryD.fail, vI, vB, vS, cI, cB, cS, roI, ro64, List.cons_append, List.nil_append, hpin, go_sem, Nat.reduceAdd, Nat.reduceMul]
  refine Tri.ent ?_ (Ent.frb hfull 2)
  refine Tri.ent ?_ (Ent.frb hfull 3)
  refine Tri.step sized ?_
  have e0 : ((m.cells.length : Int) != (m.cells.length : Int)) = false := by simp
  have e3 : (m.fuel != m.fuel) = false := by simp
  have e4 : (m.bad != m.bad) = false := by simp
  simp (decide := true) only [e0, drop0, row1_length, rows_length, curC, memoryC, memoryW, valueC, valueW, MemoryD.fail, vI, vB, vS, cI, cB, cS, roI, ro64, List.cons_append, List.nil_append, hpin, go_sem, Nat.reduceAdd, Nat.reduceMul]
  refine aCall_det hi1 hpin ?_
  simp (decide := true) only [e0, drop0, row1_length, rows_length, curC, memoryC, memoryW, valueC, valueW, MemoryD.fail, vI, vB, vS, cI, cB, cS, roI, ro64, List.cons_append, List.nil_append, hpin, go_sem, Nat.reduceAdd, Nat.reduceMul]
  refine aCall_det hi2 hpin ?_
  simp (decide := true) only [e3, e4, drop0, row1_length, rows_length, curC, memoryC, memoryW, valueC, valueW, MemoryD.fail, vI, vB, vS, cI, cB, cS, roI, ro64, List.cons_append, List.nil_append, hpin, go_sem, Nat.reduceAdd, Nat.reduceMul]
  refine Tri.step sized ?_
  simp (decide := true) only [drop0, row1_length, rows_length, curC, memoryC, memoryW, valueC, valueW, MemoryD.fail, vI, vB, vS, cI, cB, cS, roI, ro64, List.cons_append, List.nil_append, hpin, go_sem, Nat.reduceAdd, Nat.reduceMul]
  refine Tri.loop (ι := Nat) (fun i => i ≤ m.cells.length) (fun i => ⟨61, [(2, .ip (memoryC true m) 0), (3, .ip (memoryC true m) 0), (5, vI i)], []⟩) (fun i => m.cells.length - i) 0 (by simp) ?_ ?_
  · refine Ent.weak ?_ ?_ ?_ ?_ <;> simp (decide := true) [subT, subB, hereT, hereV, hereL, St.get, look, vI, vB, vS, cI, cS, cB, curC, memoryC, roI, memoryC]
  · rintro i hi
    refine code_sound sized _ ?_
    by_cases h' : i < m.cells.length
    · have e : ((i : Int) < (m.cells.length : Int)) = True := by simp [h']
      simp (decide := true) only [e, drop0, row1_length, rows_length, curC, memoryC, memoryW, valueC, valueW, MemoryD.fail, vI, vB, vS, cI, cB, cS, roI, ro64, List.cons_append, List.nil_append, hpin, go_sem, Nat.reduceAdd, Nat.reduceMul]
      refine Tri.draw sized mixed (by kernel_rfl) ?_
      simp (decide := true) only [e, h', rows_get _ _ h', cellC, beq_self_eq_true, Bool.and_self, Bool.not_true, Int.natCast_nonneg, Int.toNat_natCast, drop0, row1_length, rows_length, curC, memoryC, memoryW, valueC, valueW, MemoryD.fail, vI, vB, vS, cI, cB, cS, roI, ro64, List.cons_append, List.nil_append, hpin, go_sem, Nat.reduceAdd, Nat.reduceMul]
      refine ⟨i + 1, h', by omega, Ent.weak ?_ ?_ ?_ ?_⟩
      all_goals simp (decide := true) [subT, subB, hereT, hereV, hereL, St.get, look, vI, vB, vS, cI, cS, cB, curC, memoryC, roI, w64s (n := m.cells.length) h' (by omega)]
    · have hil : i = m.cells.length := by omega
      subst hil
      have e : ((m.cells.length : Int) < (m.cells.length : Int)) = False := by simp
      simp (decide := true) only [e, drop0, row1_length, rows_length, curC, memoryC, memoryW, valueC, valueW, MemoryD.fail, vI, vB, vS, cI, cB, cS, roI, ro64, List.cons_append, List.nil_append, hpin, go_sem, Nat.reduceAdd, Nat.reduceMul]
      refine code_sound sized _ ?_
      simp (decide := true) only [drop0, row1_length, rows_length, curC, memoryC, memoryW, valueC, valueW, MemoryD.fail, vI, vB, vS, cI, cB, cS, roI, ro64, List.cons_append, List.nil_append, hpin, go_sem, Nat.reduceAdd, Nat.reduceMul]
end Go.Proofs.Ytldniggehdpheaa.AW
