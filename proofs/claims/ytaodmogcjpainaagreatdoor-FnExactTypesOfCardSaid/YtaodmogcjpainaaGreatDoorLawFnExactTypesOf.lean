/- The statement FnExactTypesOf: what its code does. No condition beyond those named. -/
import Derived.Test.YtaodmogcjpainaaGreatDoorQm
namespace Go.Proofs.YtaodmogcjpainaaGreatDoor.AW
open Go.RowKit
set_option maxHeartbeats 8000000
set_option maxRecDepth 100000
set_option linter.unusedSimpArgs false
set_option linter.unusedVariables false

theorem law_sound (p : ProgramD) (fn : Int) (hsp : programSmall p) : Sound Tryz.prog 6 [.ro (programV p), .ro (.sc (.int .i64 fn))] (fun rs st => rs = [(false, [cB true])]) := by
  refine sound_tri (fn := Tryz.f6) (c := Tryz.f6.body.getD .skip) (res := [.tm 4]) (n := 101) sized (by kernel_rfl) (by rfl) (by kernel_rfl) (by rfl) (by rfl) (by simp [argsV]) (fun uf ub C hpin hpin2 hfull => ?_)
  simp only [Tryz.f6, Option.getD_some]
  refine Tri.step sized ?_
  simp (decide := true) only [bne_self_eq_false, programC, programV, programW, varC, marks_length, row1_length, rows_length, cI, cB, cS, roI, ro64, hpin, go_sem, Nat.reduceAdd, Nat.reduceMul]
  refine Tri.ent ?_ (Ent.frb hfull 2)
  refine Tri.step sized ?_
  simp (decide := true) only [bne_self_eq_false, programC, programV, programW, varC, marks_length, row1_length, rows_length, cI, cB, cS, roI, ro64, hpin, go_sem, Nat.reduceAdd, Nat.reduceMul]
  refine Tri.step sized ?_
  simp (decide := true) only [programC, programV, programW, varC, marks_length, row1_length, rows_length, cI, cB, cS, roI, ro64, hpin, go_sem, Nat.reduceAdd, Nat.reduceMul]
  refine aCall_det (szProgram_sound p (1048576) (by decide) (by decide) hsp) hpin ?_
  by_cases h0_ : (1048576 : Int) - ((programCost p : Nat) : Int) < 0
  · rw [sub_neg h0_]
    simp (decide := true) only [bne_self_eq_false, programC, programV, programW, varC, marks_length, row1_length, rows_length, cI, cB, cS, roI, ro64, hpin, go_sem, Nat.reduceAdd, Nat.reduceMul]
    refine code_sound sized _ ?_
    simp (decide := true) only [programC, programV, programW, varC, marks_length, row1_length, rows_length, cI, cB, cS, roI, ro64, hpin, go_sem, Nat.reduceAdd, Nat.reduceMul]
  rw [sub_pos h0_]
  have n0_ : ((1048576 : Int) - ((programCost p : Nat) : Int) < 0) = False := by simpa using h0_
  simp (decide := true) only [n0_, programC, programV, programW, varC, marks_length, row1_length, rows_length, cI, cB, cS, roI, ro64, hpin, go_sem, Nat.reduceAdd, Nat.reduceMul]
  refine Tri.step sized ?_
  simp (decide := true) only [n0_, programC, programV, programW, varC, marks_length, row1_length, rows_length, cI, cB, cS, roI, ro64, hpin, go_sem, Nat.reduceAdd, Nat.reduceMul]
  have hcp : programCost p ≤ 1048576 := by omega
  obtain ⟨k1, k2⟩ := program_kids hcp
  have k0 : p.fns.length ≤ 1048576 := by unfold programCost at hcp; omega
  have k3 := program_params hcp
  have hm1 := node_marks p.nodes
  have hm2 := fn_marks p.fns
  have hm3 : sumN nodeCost p.nodes ≤ 1048576 ∧ sumN fnCost p.fns ≤ 1048576 := by unfold programCost at hcp; omega
  have hcost := tyList_cost (p := p) fn hcp
  have hLn : sumN varN (tyList p fn) = 3 * (tyList p fn).length := three_marks (fun _ => rfl) _
  refine Tri.step sized ?_
  simp (decide := true) only [bne_self_eq_false, hpin, programC, programV, programW, varC, marks_length, row1_length, rows_length, cI, cB, cS, roI, ro64, go_sem, Nat.reduceAdd, Nat.reduceMul]
  refine aCall_det (toProgram_sound p hcp) hpin ?_
  simp (decide := true) only [bne_self_eq_false, hpin, programC, programV, programW, varC, marks_length, row1_length, rows_length, cI, cB, cS, roI, ro64, go_sem, Nat.reduceAdd, Nat.reduceMul]
  refine aCall_det (typesAllS_sound p fn k0 k1 k2 k3) hpin ?_
  simp (decide := true) only [bne_self_eq_false, hpin, programC, programV, programW, varC, marks_length, row1_length, rows_length, cI, cB, cS, roI, ro64, go_sem, Nat.reduceAdd, Nat.reduceMul]
  refine Tri.step sized ?_
  simp (decide := true) only [bne_self_eq_false, hpin, programC, programV, programW, varC, marks_length, row1_length, rows_length, cI, cB, cS, roI, ro64, go_sem, Nat.reduceAdd, Nat.reduceMul]
  refine aCall_det (toProgram_sound p hcp) hpin ?_
  simp (decide := true) only [bne_self_eq_false, hpin, programC, programV, programW, varC, marks_length, row1_length, rows_length, cI, cB, cS, roI, ro64, go_sem, Nat.reduceAdd, Nat.reduceMul]
  refine Tri.outN [] (x := .box [.row false 49 (rows (nodeC false) (p.nodes)), .row false 69 (rows (fnC false) (p.fns))]) (e := 49) (es := rows (nodeC false) (p.nodes)) 8 [(0, 0)] 1000 (by rfl) (by rfl) (by simp) (by rfl) (by rfl) (by decide) (pinK0 hpin) (pin3 hpin) hfull (fun z1000 C1000 hz1000 ho1000 hpK1000 hp31000 hfull1000 => ?_)
  have hpK := hpK1000
  have hp3 := hp31000
  have hfullK := hfull1000
  refine Tri.outN [1000] (x := .box [.sc z1000, .row false 69 (rows (fnC false) (p.fns))]) (e := 69) (es := rows (fnC false) (p.fns)) 8 [(0, 1)] 1001 (by rfl) (by rfl) (by simp) (by rfl) (by rfl) (by decide) hpK hp3 hfullK (fun z1001 C1001 hz1001 ho1001 hpK1001 hp31001 hfull1001 => ?_)
  have hz1000 : C1001.pin 1000 = some (z1000, 0, 0) := (ho1001 1000 (by decide)).trans hz1000
  have hpK := hpK1001
  have hp3 := hp31001
  have hfullK := hfull1001
  refine Tri.ent ?_ (Ent.frb hfullK 8)
  refine Tri.step sized ?_
  simp (decide := true) only [bne_self_eq_false, hpK, hz1000, hz1001, programC, programV, programW, varC, marks_length, row1_length, rows_length, cI, cB, cS, roI, ro64, go_sem, Nat.reduceAdd, Nat.reduceMul]
  refine aCall_det3 (typesAllI_sound p fn k0 k1 k2 k3) hp3 ?_
  simp (decide := true) only [bne_self_eq_false, hpK, hz1000, hz1001, programC, programV, programW, varC, marks_length, row1_length, rows_length, cI, cB, cS, roI, ro64, go_sem, Nat.reduceAdd, Nat.reduceMul]
  refine Tri.step sized ?_
  simp (decide := true) only [bne_self_eq_false, hpK, hz1000, hz1001, programC, programV, programW, varC, marks_length, row1_length, rows_length, cI, cB, cS, roI, ro64, go_sem, Nat.reduceAdd, Nat.reduceMul]
  refine aCall_det3 (eqVarS_sound (tyList p fn) hcost) hp3 ?_
  simp (decide := true) only [bne_self_eq_false, hpK, hz1000, hz1001, programC, programV, programW, varC, marks_length, row1_length, rows_length, cI, cB, cS, roI, ro64, go_sem, Nat.reduceAdd, Nat.reduceMul]
  refine Tri.step sized ?_
  simp (decide := true) only [bne_self_eq_false, hpK, hz1000, hz1001, programC, programV, programW, varC, marks_length, row1_length, rows_length, cI, cB, cS, roI, ro64, go_sem, Nat.reduceAdd, Nat.reduceMul]
  refine Tri.sched sized [(0, true), (1, true), (2, false), (3, false), (4, false)] mixed (by kernel_rfl) (fun CX hCX => ?_)
  have hpX : ∀ o, isPinK [1001, 1000] o = false → CX.pin o = none := by rw [hCX]; exact hpK
  have hpX3 : ∀ n, 3000 ≤ n → CX.pin n = none := by rw [hCX]; exact hp3
  have hzX1000 : CX.pin 1000 = some (z1000, 0, 0) := by rw [hCX]; exact hz1000
  have hzX1001 : CX.pin 1001 = some (z1001, 0, 0) := by rw [hCX]; exact hz1001
  simp (decide := true) only [bne_self_eq_false, hpX, hzX1000, hzX1001, programC, programV, programW, varC, marks_length, row1_length, rows_length, cI, cB, cS, roI, ro64, go_sem, Nat.reduceAdd, Nat.reduceMul]
  refine aCall_det3 (toProgram_sound p hcp) hpX3 ?_
  simp (decide := true) only [bne_self_eq_false, hpX, hzX1000, hzX1001, programC, programV, programW, varC, marks_length, row1_length, rows_length, cI, cB, cS, roI, ro64, go_sem, Nat.reduceAdd, Nat.reduceMul]
  refine aCall_det3 (eqProgram_sound p hcp) hpX3 ?_
  simp (decide := true) only [bne_self_eq_false, hpX, hzX1000, hzX1001, programC, programV, programW, varC, marks_length, row1_length, rows_length, cI, cB, cS, roI, ro64, go_sem, Nat.reduceAdd, Nat.reduceMul]
  refine Tri.step sized ?_
  simp (decide := true) only [bne_self_eq_false, hpK, hz1000, hz1001, programC, programV, programW, varC, marks_length, row1_length, rows_length, cI, cB, cS, roI, ro64, go_sem, Nat.reduceAdd, Nat.reduceMul]
  refine Tri.step sized ?_
  simp (decide := true) only [bne_self_eq_false, hpK, hz1000, hz1001, programC, programV, programW, varC, marks_length, row1_length, rows_length, cI, cB, cS, roI, ro64, go_sem, Nat.reduceAdd, Nat.reduceMul]
  refine aCall_iod3 (markProgram_sound p (1) (by omega) (by omega)) hp3 [(2000, 1000), (2001, 1001)] ⟨rfl, rfl, rfl⟩ (fun uf => ⟨rfl, rfl⟩) (fun uf => ?_) ?_
  · simp (decide := true) only [bne_self_eq_false, hpK, hz1000, hz1001, programC, programV, programW, varC, marks_length, row1_length, rows_length, cI, cB, cS, roI, ro64, go_sem, Nat.reduceAdd, Nat.reduceMul]
  simp (decide := true) only [bne_self_eq_false, hpK, hz1000, hz1001, programC, programV, programW, varC, marks_length, row1_length, rows_length, cI, cB, cS, roI, ro64, go_sem, Nat.reduceAdd, Nat.reduceMul]
  have hk0 : ((1 + (sumN nodeN p.nodes : Nat) + (sumN fnN p.fns : Nat) : Int) < 0) = False := by simp; omega
  refine Tri.step sized ?_
  simp (decide := true) only [bne_self_eq_false, hk0, hpK, hz1000, hz1001, programC, programV, programW, varC, marks_length, row1_length, rows_length, cI, cB, cS, roI, ro64, go_sem, Nat.reduceAdd, Nat.reduceMul]
  refine aCall_det3 (eqVarS_sound (tyList p fn) hcost) hp3 ?_
  simp (decide := true) only [bne_self_eq_false, hpK, hz1000, hz1001, programC, programV, programW, varC, marks_length, row1_length, rows_length, cI, cB, cS, roI, ro64, go_sem, Nat.reduceAdd, Nat.reduceMul]
  refine Tri.step sized ?_
  simp (decide := true) only [bne_self_eq_false, hpK, hz1000, hz1001, programC, programV, programW, varC, marks_length, row1_length, rows_length, cI, cB, cS, roI, ro64, go_sem, Nat.reduceAdd, Nat.reduceMul]
  refine Tri.step sized ?_
  simp (decide := true) only [bne_self_eq_false, hpK, hz1000, hz1001, programC, programV, programW, varC, marks_length, row1_length, rows_length, cI, cB, cS, roI, ro64, go_sem, Nat.reduceAdd, Nat.reduceMul]
  refine aCall_iod3 (markVarS_sound (tyList p fn) (1) (by omega) (by omega)) hp3 [(2000, 9)] ⟨rfl, rfl, rfl⟩ (fun uf => ⟨rfl, rfl⟩) (fun uf => ?_) ?_
  · simp (decide := true) only [bne_self_eq_false, hpK, hz1000, hz1001, programC, programV, programW, varC, marks_length, row1_length, rows_length, cI, cB, cS, roI, ro64, go_sem, Nat.reduceAdd, Nat.reduceMul]
  simp (decide := true) only [bne_self_eq_false, hpK, hz1000, hz1001, programC, programV, programW, varC, marks_length, row1_length, rows_length, cI, cB, cS, roI, ro64, go_sem, Nat.reduceAdd, Nat.reduceMul]
  have hTK : List.take (tyList p fn).length (rows (varC false) (varML 1 (tyList p fn))) = rows (varC false) (varML 1 (tyList p fn)) := by
    have := rows_takeL (varC false) (varML 1 (tyList p fn))
    rwa [varML_length] at this
  refine Tri.step sized ?_
  simp (decide := true) only [bne_self_eq_false, hpK, hz1000, hz1001, programC, programV, programW, varC, marks_length, row1_length, rows_length, cI, cB, cS, roI, ro64, go_sem, Nat.reduceAdd, Nat.reduceMul]
  refine Tri.step sized ?_
  simp (decide := true) only [bne_self_eq_false, hpK, hz1000, hz1001, programC, programV, programW, varC, marks_length, row1_length, rows_length, cI, cB, cS, roI, ro64, go_sem, Nat.reduceAdd, Nat.reduceMul]
  refine aCall_det3 (heldVarS_sound (tyList p fn) 1 (by omega) (by omega)) hp3 ?_
  simp (decide := true) only [bne_self_eq_false, hTK, hpK, hz1000, hz1001, programC, programV, programW, varC, marks_length, row1_length, rows_length, cI, cB, cS, roI, ro64, go_sem, Nat.reduceAdd, Nat.reduceMul]
  have hq0 : ((1 + (sumN varN (tyList p fn) : Nat) : Int) < 0) = False := by simp; omega
  refine Tri.step sized ?_
  simp (decide := true) only [bne_self_eq_false, hq0, hpK, hz1000, hz1001, programC, programV, programW, varC, marks_length, row1_length, rows_length, cI, cB, cS, roI, ro64, go_sem, Nat.reduceAdd, Nat.reduceMul]
  refine Tri.step sized ?_
  simp (decide := true) only [bne_self_eq_false, hpK, hz1000, hz1001, programC, programV, programW, varC, marks_length, row1_length, rows_length, cI, cB, cS, roI, ro64, go_sem, Nat.reduceAdd, Nat.reduceMul]
  refine Tri.step sized ?_
  simp (decide := true) only [bne_self_eq_false, hpK, hz1000, hz1001, programC, programV, programW, varC, marks_length, row1_length, rows_length, cI, cB, cS, roI, ro64, go_sem, Nat.reduceAdd, Nat.reduceMul]
  refine aCall_det3 (toProgram_sound p hcp) hp3 ?_
  simp (decide := true) only [bne_self_eq_false, hpK, hz1000, hz1001, programC, programV, programW, varC, marks_length, row1_length, rows_length, cI, cB, cS, roI, ro64, go_sem, Nat.reduceAdd, Nat.reduceMul]
  refine aCall_det3 (typesAllI_sound p fn k0 k1 k2 k3) hp3 ?_
  simp (decide := true) only [bne_self_eq_false, hpK, hz1000, hz1001, programC, programV, programW, varC, marks_length, row1_length, rows_length, cI, cB, cS, roI, ro64, go_sem, Nat.reduceAdd, Nat.reduceMul]
  refine Tri.step sized ?_
  simp (decide := true) only [bne_self_eq_false, hpK, hz1000, hz1001, programC, programV, programW, varC, marks_length, row1_length, rows_length, cI, cB, cS, roI, ro64, go_sem, Nat.reduceAdd, Nat.reduceMul]
  refine aCall_det3 (eqVarS_sound (tyList p fn) hcost) hp3 ?_
  simp (decide := true) only [bne_self_eq_false, hpK, hz1000, hz1001, programC, programV, programW, varC, marks_length, row1_length, rows_length, cI, cB, cS, roI, ro64, go_sem, Nat.reduceAdd, Nat.reduceMul]
  refine Tri.step sized ?_
  simp (decide := true) only [bne_self_eq_false, hpK, hz1000, hz1001, programC, programV, programW, varC, marks_length, row1_length, rows_length, cI, cB, cS, roI, ro64, go_sem, Nat.reduceAdd, Nat.reduceMul]
  refine Tri.step sized ?_
  simp (decide := true) only [bne_self_eq_false, hpK, hz1000, hz1001, programC, programV, programW, varC, marks_length, row1_length, rows_length, cI, cB, cS, roI, ro64, go_sem, Nat.reduceAdd, Nat.reduceMul]
  refine aCall_det3 (heldVarS_sound (tyList p fn) 1 (by omega) (by omega)) hp3 ?_
  simp (decide := true) only [bne_self_eq_false, hTK, hpK, hz1000, hz1001, programC, programV, programW, varC, marks_length, row1_length, rows_length, cI, cB, cS, roI, ro64, go_sem, Nat.reduceAdd, Nat.reduceMul]
  refine Tri.step sized ?_
  simp (decide := true) only [bne_self_eq_false, hq0, hpK, hz1000, hz1001, programC, programV, programW, varC, marks_length, row1_length, rows_length, cI, cB, cS, roI, ro64, go_sem, Nat.reduceAdd, Nat.reduceMul]
  refine code_sound sized _ ?_
  simp (decide := true) only [bne_self_eq_false, hpK, hz1000, hz1001, programC, programV, programW, varC, marks_length, row1_length, rows_length, cI, cB, cS, roI, ro64, go_sem, Nat.reduceAdd, Nat.reduceMul]
end Go.Proofs.YtaodmogcjpainaaGreatDoor.AW
