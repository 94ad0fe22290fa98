/- The statement FnExactLoansOf: what its code does. No condition beyond those named. -/
import Derived.Test.YtngpjfajoajnjaaDoorSl2
namespace Go.Proofs.YtngpjfajoajnjaaDoor.AW
open Go.RowKit
set_option maxHeartbeats 8000000
set_option maxRecDepth 100000
set_option linter.unusedSimpArgs false
set_option linter.unusedVariables false

theorem law_sound (c : CodeD) (hsc : codeSmall c) : Sound Tryd.prog 3 [.ro (codeV c)] (fun rs st => rs = [(false, [cB true])]) := by
  refine sound_tri (fn := Tryd.f3) (c := Tryd.f3.body.getD .skip) (res := [.tm 2]) (n := 69) sized (by kernel_rfl) (by rfl) (by kernel_rfl) (by rfl) (by rfl) (by simp [argsV]) (fun uf ub C hpin hpin2 hfull => ?_)
  simp only [Tryd.f3, Option.getD_some]
  refine Tri.step sized ?_
  simp (decide := true) only [bne_self_eq_false, codeC, codeV, codeW, loanC, marks_length, row1_length, rows_length, cI, cB, cS, roI, ro64, hpin, go_sem, Nat.reduceAdd, Nat.reduceMul]
  refine Tri.ent ?_ (Ent.frb hfull 1)
  refine Tri.step sized ?_
  simp (decide := true) only [bne_self_eq_false, codeC, codeV, codeW, loanC, marks_length, row1_length, rows_length, cI, cB, cS, roI, ro64, hpin, go_sem, Nat.reduceAdd, Nat.reduceMul]
  refine Tri.step sized ?_
  simp (decide := true) only [codeC, codeV, codeW, loanC, marks_length, row1_length, rows_length, cI, cB, cS, roI, ro64, hpin, go_sem, Nat.reduceAdd, Nat.reduceMul]
  refine aCall_det (szCode_sound c (1048576) (by decide) (by decide) hsc) hpin ?_
  by_cases h0_ : (1048576 : Int) - ((codeCost c : Nat) : Int) < 0
  · rw [sub_neg h0_]
    simp (decide := true) only [bne_self_eq_false, codeC, codeV, codeW, loanC, marks_length, row1_length, rows_length, cI, cB, cS, roI, ro64, hpin, go_sem, Nat.reduceAdd, Nat.reduceMul]
    refine code_sound sized _ ?_
    simp (decide := true) only [codeC, codeV, codeW, loanC, marks_length, row1_length, rows_length, cI, cB, cS, roI, ro64, hpin, go_sem, Nat.reduceAdd, Nat.reduceMul]
  rw [sub_pos h0_]
  have n0_ : ((1048576 : Int) - ((codeCost c : Nat) : Int) < 0) = False := by simpa using h0_
  simp (decide := true) only [n0_, codeC, codeV, codeW, loanC, marks_length, row1_length, rows_length, cI, cB, cS, roI, ro64, hpin, go_sem, Nat.reduceAdd, Nat.reduceMul]
  refine Tri.step sized ?_
  simp (decide := true) only [n0_, codeC, codeV, codeW, loanC, marks_length, row1_length, rows_length, cI, cB, cS, roI, ro64, hpin, go_sem, Nat.reduceAdd, Nat.reduceMul]
  have hcc : codeCost c ≤ 1048576 := by omega
  have k1 : c.locals.length ≤ 1048576 := by unfold codeCost at hcc; omega
  have k2 : c.words.length ≤ 1048576 := by unfold codeCost at hcc; omega
  have k3 := code_args hcc
  have hN1 := code_marks c.words
  have hN2 : sumN insCost c.words ≤ 1048576 := by unfold codeCost at hcc; omega
  have hL := loansB_length c
  have hcost : (loansB c).length + sumN loanCost (loansB c) ≤ 1048576 := by rw [sumN_zero (f := loanCost) (fun _ => rfl)]; omega
  have hLn : sumN loanN (loansB c) = 3 * (loansB c).length := sumN_three 3 (fun _ => rfl) _
  refine Tri.step sized ?_
  simp (decide := true) only [bne_self_eq_false, hpin, codeC, codeV, codeW, loanC, marks_length, row1_length, rows_length, cI, cB, cS, roI, ro64, go_sem, Nat.reduceAdd, Nat.reduceMul]
  refine aCall_det (toCode_sound c hcc) hpin ?_
  simp (decide := true) only [bne_self_eq_false, hpin, codeC, codeV, codeW, loanC, marks_length, row1_length, rows_length, cI, cB, cS, roI, ro64, go_sem, Nat.reduceAdd, Nat.reduceMul]
  refine aCall_det (loansS_sound c k1 k2 k3) hpin ?_
  simp (decide := true) only [bne_self_eq_false, hpin, codeC, codeV, codeW, loanC, marks_length, row1_length, rows_length, cI, cB, cS, roI, ro64, go_sem, Nat.reduceAdd, Nat.reduceMul]
  refine Tri.step sized ?_
  simp (decide := true) only [bne_self_eq_false, hpin, codeC, codeV, codeW, loanC, marks_length, row1_length, rows_length, cI, cB, cS, roI, ro64, go_sem, Nat.reduceAdd, Nat.reduceMul]
  refine aCall_det (toCode_sound c hcc) hpin ?_
  simp (decide := true) only [bne_self_eq_false, hpin, codeC, codeV, codeW, loanC, marks_length, row1_length, rows_length, cI, cB, cS, roI, ro64, go_sem, Nat.reduceAdd, Nat.reduceMul]
  refine Tri.outN [] (x := .box [cS c.name, cI c.params, .row false 3 (row1 cI (c.locals)), .row false 42 (rows (insC false) (c.words))]) (e := 3) (es := row1 cI (c.locals)) 5 [(0, 2)] 1000 (by rfl) (by rfl) (by simp) (by rfl) (by rfl) (by decide) (pinK0 hpin) (pin3 hpin) hfull (fun z1000 C1000 hz1000 ho1000 hpK1000 hp31000 hfull1000 => ?_)
  have hpK := hpK1000
  have hp3 := hp31000
  have hfullK := hfull1000
  refine Tri.outN [1000] (x := .box [cS c.name, cI c.params, .sc z1000, .row false 42 (rows (insC false) (c.words))]) (e := 42) (es := rows (insC false) (c.words)) 5 [(0, 3)] 1001 (by rfl) (by rfl) (by simp) (by rfl) (by rfl) (by decide) hpK hp3 hfullK (fun z1001 C1001 hz1001 ho1001 hpK1001 hp31001 hfull1001 => ?_)
  have hz1000 : C1001.pin 1000 = some (z1000, 0, 0) := (ho1001 1000 (by decide)).trans hz1000
  have hpK := hpK1001
  have hp3 := hp31001
  have hfullK := hfull1001
  refine Tri.ent ?_ (Ent.frb hfullK 5)
  refine Tri.step sized ?_
  simp (decide := true) only [bne_self_eq_false, hpK, hz1000, hz1001, codeC, codeV, codeW, loanC, marks_length, row1_length, rows_length, cI, cB, cS, roI, ro64, go_sem, Nat.reduceAdd, Nat.reduceMul]
  refine aCall_det3 (loansI_sound c k1 k2 k3) hp3 ?_
  simp (decide := true) only [bne_self_eq_false, hpK, hz1000, hz1001, codeC, codeV, codeW, loanC, marks_length, row1_length, rows_length, cI, cB, cS, roI, ro64, go_sem, Nat.reduceAdd, Nat.reduceMul]
  refine Tri.step sized ?_
  simp (decide := true) only [bne_self_eq_false, hpK, hz1000, hz1001, codeC, codeV, codeW, loanC, marks_length, row1_length, rows_length, cI, cB, cS, roI, ro64, go_sem, Nat.reduceAdd, Nat.reduceMul]
  refine aCall_det3 (eqLoanS_sound (loansB c) hcost) hp3 ?_
  simp (decide := true) only [bne_self_eq_false, hpK, hz1000, hz1001, codeC, codeV, codeW, loanC, marks_length, row1_length, rows_length, cI, cB, cS, roI, ro64, go_sem, Nat.reduceAdd, Nat.reduceMul]
  refine Tri.step sized ?_
  simp (decide := true) only [bne_self_eq_false, hpK, hz1000, hz1001, codeC, codeV, codeW, loanC, marks_length, row1_length, rows_length, cI, cB, cS, roI, ro64, go_sem, Nat.reduceAdd, Nat.reduceMul]
  refine Tri.sched sized [(0, true), (1, true), (2, false), (3, false), (4, false)] mixed (by kernel_rfl) (fun CX hCX => ?_)
  have hpX : ∀ o, isPinK [1001, 1000] o = false → CX.pin o = none := by rw [hCX]; exact hpK
  have hpX3 : ∀ n, 3000 ≤ n → CX.pin n = none := by rw [hCX]; exact hp3
  have hzX1000 : CX.pin 1000 = some (z1000, 0, 0) := by rw [hCX]; exact hz1000
  have hzX1001 : CX.pin 1001 = some (z1001, 0, 0) := by rw [hCX]; exact hz1001
  simp (decide := true) only [bne_self_eq_false, hpX, hzX1000, hzX1001, codeC, codeV, codeW, loanC, marks_length, row1_length, rows_length, cI, cB, cS, roI, ro64, go_sem, Nat.reduceAdd, Nat.reduceMul]
  refine aCall_det3 (toCode_sound c hcc) hpX3 ?_
  simp (decide := true) only [bne_self_eq_false, hpX, hzX1000, hzX1001, codeC, codeV, codeW, loanC, marks_length, row1_length, rows_length, cI, cB, cS, roI, ro64, go_sem, Nat.reduceAdd, Nat.reduceMul]
  refine aCall_det3 (eqCode_sound c hcc) hpX3 ?_
  simp (decide := true) only [bne_self_eq_false, hpX, hzX1000, hzX1001, codeC, codeV, codeW, loanC, marks_length, row1_length, rows_length, cI, cB, cS, roI, ro64, go_sem, Nat.reduceAdd, Nat.reduceMul]
  refine Tri.step sized ?_
  simp (decide := true) only [bne_self_eq_false, hpK, hz1000, hz1001, codeC, codeV, codeW, loanC, marks_length, row1_length, rows_length, cI, cB, cS, roI, ro64, go_sem, Nat.reduceAdd, Nat.reduceMul]
  refine Tri.step sized ?_
  simp (decide := true) only [bne_self_eq_false, hpK, hz1000, hz1001, codeC, codeV, codeW, loanC, marks_length, row1_length, rows_length, cI, cB, cS, roI, ro64, go_sem, Nat.reduceAdd, Nat.reduceMul]
  refine aCall_iod3 (markCode_sound c (1) (by omega) (by omega)) hp3 [(2000, 1000), (2001, 1001)] ⟨rfl, rfl, rfl⟩ (fun uf => ⟨rfl, rfl⟩) (fun uf => ?_) ?_
  · simp (decide := true) only [bne_self_eq_false, hpK, hz1000, hz1001, codeC, codeV, codeW, loanC, marks_length, row1_length, rows_length, cI, cB, cS, roI, ro64, go_sem, Nat.reduceAdd, Nat.reduceMul]
  simp (decide := true) only [bne_self_eq_false, hpK, hz1000, hz1001, codeC, codeV, codeW, loanC, marks_length, row1_length, rows_length, cI, cB, cS, roI, ro64, go_sem, Nat.reduceAdd, Nat.reduceMul]
  have hk0 : ((1 + c.locals.length + (sumN insN c.words : Nat) : Int) < 0) = False := by simp; omega
  refine Tri.step sized ?_
  simp (decide := true) only [bne_self_eq_false, hk0, hpK, hz1000, hz1001, codeC, codeV, codeW, loanC, marks_length, row1_length, rows_length, cI, cB, cS, roI, ro64, go_sem, Nat.reduceAdd, Nat.reduceMul]
  refine aCall_det3 (eqLoanS_sound (loansB c) hcost) hp3 ?_
  simp (decide := true) only [bne_self_eq_false, hpK, hz1000, hz1001, codeC, codeV, codeW, loanC, marks_length, row1_length, rows_length, cI, cB, cS, roI, ro64, go_sem, Nat.reduceAdd, Nat.reduceMul]
  refine Tri.step sized ?_
  simp (decide := true) only [bne_self_eq_false, hpK, hz1000, hz1001, codeC, codeV, codeW, loanC, marks_length, row1_length, rows_length, cI, cB, cS, roI, ro64, go_sem, Nat.reduceAdd, Nat.reduceMul]
  refine Tri.step sized ?_
  simp (decide := true) only [bne_self_eq_false, hpK, hz1000, hz1001, codeC, codeV, codeW, loanC, marks_length, row1_length, rows_length, cI, cB, cS, roI, ro64, go_sem, Nat.reduceAdd, Nat.reduceMul]
  refine aCall_iod3 (markLoanS_sound (loansB c) (1) (by omega) (by omega)) hp3 [(2000, 6)] ⟨rfl, rfl, rfl⟩ (fun uf => ⟨rfl, rfl⟩) (fun uf => ?_) ?_
  · simp (decide := true) only [bne_self_eq_false, hpK, hz1000, hz1001, codeC, codeV, codeW, loanC, marks_length, row1_length, rows_length, cI, cB, cS, roI, ro64, go_sem, Nat.reduceAdd, Nat.reduceMul]
  simp (decide := true) only [bne_self_eq_false, hpK, hz1000, hz1001, codeC, codeV, codeW, loanC, marks_length, row1_length, rows_length, cI, cB, cS, roI, ro64, go_sem, Nat.reduceAdd, Nat.reduceMul]
  have hTK : List.take (loansB c).length (rows (loanC false) (loanML 1 (loansB c))) = rows (loanC false) (loanML 1 (loansB c)) := by
    have := rows_takeL (loanC false) (loanML 1 (loansB c))
    rwa [loanML_length] at this
  refine Tri.step sized ?_
  simp (decide := true) only [bne_self_eq_false, hpK, hz1000, hz1001, codeC, codeV, codeW, loanC, marks_length, row1_length, rows_length, cI, cB, cS, roI, ro64, go_sem, Nat.reduceAdd, Nat.reduceMul]
  refine Tri.step sized ?_
  simp (decide := true) only [bne_self_eq_false, hpK, hz1000, hz1001, codeC, codeV, codeW, loanC, marks_length, row1_length, rows_length, cI, cB, cS, roI, ro64, go_sem, Nat.reduceAdd, Nat.reduceMul]
  refine aCall_det3 (heldLoanS_sound (loansB c) 1 (by omega) (by omega)) hp3 ?_
  simp (decide := true) only [bne_self_eq_false, hTK, hpK, hz1000, hz1001, codeC, codeV, codeW, loanC, marks_length, row1_length, rows_length, cI, cB, cS, roI, ro64, go_sem, Nat.reduceAdd, Nat.reduceMul]
  have hq0 : ((1 + (sumN loanN (loansB c) : Nat) : Int) < 0) = False := by simp; omega
  refine Tri.step sized ?_
  simp (decide := true) only [bne_self_eq_false, hq0, hpK, hz1000, hz1001, codeC, codeV, codeW, loanC, marks_length, row1_length, rows_length, cI, cB, cS, roI, ro64, go_sem, Nat.reduceAdd, Nat.reduceMul]
  refine Tri.step sized ?_
  simp (decide := true) only [bne_self_eq_false, hpK, hz1000, hz1001, codeC, codeV, codeW, loanC, marks_length, row1_length, rows_length, cI, cB, cS, roI, ro64, go_sem, Nat.reduceAdd, Nat.reduceMul]
  refine Tri.step sized ?_
  simp (decide := true) only [bne_self_eq_false, hpK, hz1000, hz1001, codeC, codeV, codeW, loanC, marks_length, row1_length, rows_length, cI, cB, cS, roI, ro64, go_sem, Nat.reduceAdd, Nat.reduceMul]
  refine aCall_det3 (toCode_sound c hcc) hp3 ?_
  simp (decide := true) only [bne_self_eq_false, hpK, hz1000, hz1001, codeC, codeV, codeW, loanC, marks_length, row1_length, rows_length, cI, cB, cS, roI, ro64, go_sem, Nat.reduceAdd, Nat.reduceMul]
  refine aCall_det3 (loansI_sound c k1 k2 k3) hp3 ?_
  simp (decide := true) only [bne_self_eq_false, hpK, hz1000, hz1001, codeC, codeV, codeW, loanC, marks_length, row1_length, rows_length, cI, cB, cS, roI, ro64, go_sem, Nat.reduceAdd, Nat.reduceMul]
  refine Tri.step sized ?_
  simp (decide := true) only [bne_self_eq_false, hpK, hz1000, hz1001, codeC, codeV, codeW, loanC, marks_length, row1_length, rows_length, cI, cB, cS, roI, ro64, go_sem, Nat.reduceAdd, Nat.reduceMul]
  refine aCall_det3 (eqLoanS_sound (loansB c) hcost) hp3 ?_
  simp (decide := true) only [bne_self_eq_false, hpK, hz1000, hz1001, codeC, codeV, codeW, loanC, marks_length, row1_length, rows_length, cI, cB, cS, roI, ro64, go_sem, Nat.reduceAdd, Nat.reduceMul]
  refine Tri.step sized ?_
  simp (decide := true) only [bne_self_eq_false, hpK, hz1000, hz1001, codeC, codeV, codeW, loanC, marks_length, row1_length, rows_length, cI, cB, cS, roI, ro64, go_sem, Nat.reduceAdd, Nat.reduceMul]
  refine Tri.step sized ?_
  simp (decide := true) only [bne_self_eq_false, hpK, hz1000, hz1001, codeC, codeV, codeW, loanC, marks_length, row1_length, rows_length, cI, cB, cS, roI, ro64, go_sem, Nat.reduceAdd, Nat.reduceMul]
  refine aCall_det3 (heldLoanS_sound (loansB c) 1 (by omega) (by omega)) hp3 ?_
  simp (decide := true) only [bne_self_eq_false, hTK, hpK, hz1000, hz1001, codeC, codeV, codeW, loanC, marks_length, row1_length, rows_length, cI, cB, cS, roI, ro64, go_sem, Nat.reduceAdd, Nat.reduceMul]
  refine Tri.step sized ?_
  simp (decide := true) only [bne_self_eq_false, hq0, hpK, hz1000, hz1001, codeC, codeV, codeW, loanC, marks_length, row1_length, rows_length, cI, cB, cS, roI, ro64, go_sem, Nat.reduceAdd, Nat.reduceMul]
  refine code_sound sized _ ?_
  simp (decide := true) only [bne_self_eq_false, hpK, hz1000, hz1001, codeC, codeV, codeW, loanC, marks_length, row1_length, rows_length, cI, cB, cS, roI, ro64, go_sem, Nat.reduceAdd, Nat.reduceMul]
end Go.Proofs.YtngpjfajoajnjaaDoor.AW
