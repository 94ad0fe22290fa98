/- The statement FnExactTypesRight: what its code does. No condition beyond those named. -/
import Derived.Test.YtaodmogcjpainaaGreatDoorQl
namespace Go.Proofs.YtaodmogcjpainaaGreatDoor.AW
open Go.RowKit
set_option maxHeartbeats 8000000
set_option maxRecDepth 100000
set_option linter.unusedSimpArgs false
set_option linter.unusedVariables false

theorem law_sound (p : ProgramD) (hsp : programSmall p) : Sound Tryz.prog 5 [.ro (programV p)] (fun rs st => rs = [(false, [cB true])]) := by
  refine sound_tri (fn := Tryz.f5) (c := Tryz.f5.body.getD .skip) (res := [.tm 2]) (n := 27) sized (by kernel_rfl) (by rfl) (by kernel_rfl) (by rfl) (by rfl) (by simp [argsV]) (fun uf ub C hpin hpin2 hfull => ?_)
  simp only [Tryz.f5, Option.getD_some]
  refine Tri.step sized ?_
  simp (decide := true) only [bne_self_eq_false, programC, programV, programW, row1_length, rows_length, cI, cB, cS, roI, ro64, hpin, go_sem, Nat.reduceAdd, Nat.reduceMul]
  refine Tri.ent ?_ (Ent.frb hfull 1)
  refine Tri.step sized ?_
  simp (decide := true) only [bne_self_eq_false, programC, programV, programW, row1_length, rows_length, cI, cB, cS, roI, ro64, hpin, go_sem, Nat.reduceAdd, Nat.reduceMul]
  refine Tri.step sized ?_
  simp (decide := true) only [programC, programV, programW, row1_length, rows_length, cI, cB, cS, roI, ro64, hpin, go_sem, Nat.reduceAdd, Nat.reduceMul]
  refine aCall_det (szProgram_sound p (1048576) (by decide) (by decide) hsp) hpin ?_
  by_cases h0_ : (1048576 : Int) - ((programCost p : Nat) : Int) < 0
  · rw [sub_neg h0_]
    simp (decide := true) only [bne_self_eq_false, programC, programV, programW, row1_length, rows_length, cI, cB, cS, roI, ro64, hpin, go_sem, Nat.reduceAdd, Nat.reduceMul]
    refine code_sound sized _ ?_
    simp (decide := true) only [programC, programV, programW, row1_length, rows_length, cI, cB, cS, roI, ro64, hpin, go_sem, Nat.reduceAdd, Nat.reduceMul]
  rw [sub_pos h0_]
  have n0_ : ((1048576 : Int) - ((programCost p : Nat) : Int) < 0) = False := by simpa using h0_
  simp (decide := true) only [n0_, programC, programV, programW, row1_length, rows_length, cI, cB, cS, roI, ro64, hpin, go_sem, Nat.reduceAdd, Nat.reduceMul]
  refine Tri.step sized ?_
  simp (decide := true) only [n0_, programC, programV, programW, row1_length, rows_length, cI, cB, cS, roI, ro64, hpin, go_sem, Nat.reduceAdd, Nat.reduceMul]
  have hcp : programCost p ≤ 1048576 := by omega
  obtain ⟨k1, k2⟩ := program_kids hcp
  have k0 : p.fns.length ≤ 1048576 := by unfold programCost at hcp; omega
  have k3 := program_params hcp
  refine Tri.step sized ?_
  simp (decide := true) only [bne_self_eq_false, hpin, programC, programV, programW, row1_length, rows_length, cI, cB, cS, roI, ro64, go_sem, Nat.reduceAdd, Nat.reduceMul]
  refine aCall_det (toProgram_sound p hcp) hpin ?_
  simp (decide := true) only [bne_self_eq_false, hpin, programC, programV, programW, row1_length, rows_length, cI, cB, cS, roI, ro64, go_sem, Nat.reduceAdd, Nat.reduceMul]
  refine aCall_det (typesRightS_sound p k0 k1 k2 k3) hpin ?_
  simp (decide := true) only [bne_self_eq_false, hpin, programC, programV, programW, row1_length, rows_length, cI, cB, cS, roI, ro64, go_sem, Nat.reduceAdd, Nat.reduceMul]
  refine Tri.step sized ?_
  simp (decide := true) only [bne_self_eq_false, hpin, programC, programV, programW, row1_length, rows_length, cI, cB, cS, roI, ro64, go_sem, Nat.reduceAdd, Nat.reduceMul]
  refine aCall_det (toProgram_sound p hcp) hpin ?_
  simp (decide := true) only [bne_self_eq_false, hpin, programC, programV, programW, row1_length, rows_length, cI, cB, cS, roI, ro64, go_sem, Nat.reduceAdd, Nat.reduceMul]
  refine Tri.ent ?_ (Ent.frb hfull 5)
  refine Tri.step sized ?_
  simp (decide := true) only [bne_self_eq_false, hpin, programC, programV, programW, row1_length, rows_length, cI, cB, cS, roI, ro64, go_sem, Nat.reduceAdd, Nat.reduceMul]
  refine aCall_det (typesRightI_sound p k0 k1 k2 k3) hpin ?_
  simp (decide := true) only [bne_self_eq_false, hpin, programC, programV, programW, row1_length, rows_length, cI, cB, cS, roI, ro64, go_sem, Nat.reduceAdd, Nat.reduceMul]
  refine Tri.step sized ?_
  simp (decide := true) only [bne_self_eq_false, hpin, programC, programV, programW, row1_length, rows_length, cI, cB, cS, roI, ro64, go_sem, Nat.reduceAdd, Nat.reduceMul]
  refine code_sound sized _ ?_
  simp (decide := true) only [bne_self_eq_false, hpin, programC, programV, programW, row1_length, rows_length, cI, cB, cS, roI, ro64, go_sem, Nat.reduceAdd, Nat.reduceMul]
  refine Tri.sched sized [(0, true), (1, true), (2, false), (3, false), (4, false)] mixed (by kernel_rfl) (fun CX hCX => ?_)
  have hpX : ∀ o, isPin o = false → CX.pin o = none := by rw [hCX]; exact hpin
  simp (decide := true) only [bne_self_eq_false, hpX, programC, programV, programW, row1_length, rows_length, cI, cB, cS, roI, ro64, go_sem, Nat.reduceAdd, Nat.reduceMul]
  refine aCall_det (toProgram_sound p hcp) hpX ?_
  simp (decide := true) only [bne_self_eq_false, hpX, programC, programV, programW, row1_length, rows_length, cI, cB, cS, roI, ro64, go_sem, Nat.reduceAdd, Nat.reduceMul]
  refine aCall_det (eqProgram_sound p hcp) hpX ?_
  simp (decide := true) only [bne_self_eq_false, hpX, programC, programV, programW, row1_length, rows_length, cI, cB, cS, roI, ro64, go_sem, Nat.reduceAdd, Nat.reduceMul]
end Go.Proofs.YtaodmogcjpainaaGreatDoor.AW
