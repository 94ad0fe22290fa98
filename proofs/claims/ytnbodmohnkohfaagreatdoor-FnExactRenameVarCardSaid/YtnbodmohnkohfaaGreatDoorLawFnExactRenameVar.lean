/- The statement FnExactRenameVar: what its code does. No condition beyond those named. -/
import Derived.Test.YtnbodmohnkohfaaGreatDoorRd
namespace Go.Proofs.YtnbodmohnkohfaaGreatDoor.AW
open Go.RowKit
set_option maxHeartbeats 8000000
set_option maxRecDepth 100000
set_option linter.unusedSimpArgs false
set_option linter.unusedVariables false
theorem law_sound (p : ProgramD) (fn : Int) (a : ByteArray) (b : ByteArray) (hsp : programSmall p) : Sound Tryz.prog 5 [.ro (programV p), .ro (.sc (.int .i64 fn)), .ro (.sc (.string a)), .ro (.sc (.string b))] (fun rs st => rs = [(false, [cB true])]) := by
  refine sound_tri (fn := Tryz.f5) (c := Tryz.f5.body.getD .skip) (res := [.tm 8]) (n := 117) sized (by kernel_rfl) (by rfl) (by kernel_rfl) (by rfl) (by rfl) (by simp [argsV]) (fun uf ub C hpin hpin2 hfull => ?_)
  simp only [Tryz.f5, Option.getD_some]
  refine Tri.step sized ?_
  simp (decide := true) only [bne_self_eq_false, programC, programV, programW, marks_length, row1_length, rows_length, cI, cB, cS, roI, ro64, hpin, go_sem, Nat.reduceAdd, Nat.reduceMul]
  refine Tri.ent ?_ (Ent.frb hfull 4)
  by_cases hz_a : 1048576 < a.size
  · have e1 : ((1048576 : Int) < (a.size : Int)) = True := by simp; omega
    refine Tri.step sized ?_
    simp (decide := true) only [e1, programC, programV, programW, row1_length, rows_length, cI, cB, cS, roI, ro64, hpin, go_sem, Nat.reduceAdd, Nat.reduceMul]
  have ez_a : ((1048576 : Int) < (a.size : Int)) = False := by simp; omega
  refine Tri.step sized ?_
  simp (decide := true) only [ez_a, programC, programV, programW, row1_length, rows_length, cI, cB, cS, roI, ro64, hpin, go_sem, Nat.reduceAdd, Nat.reduceMul]
  by_cases hz_b : 1048576 < b.size
  · have e1 : ((1048576 : Int) < (b.size : Int)) = True := by simp; omega
    refine Tri.step sized ?_
    simp (decide := true) only [e1, programC, programV, programW, row1_length, rows_length, cI, cB, cS, roI, ro64, hpin, go_sem, Nat.reduceAdd, Nat.reduceMul]
  have ez_b : ((1048576 : Int) < (b.size : Int)) = False := by simp; omega
  refine Tri.step sized ?_
  simp (decide := true) only [ez_b, programC, programV, programW, row1_length, rows_length, cI, cB, cS, roI, ro64, hpin, go_sem, Nat.reduceAdd, Nat.reduceMul]
  refine Tri.step sized ?_
  simp (decide := true) only [bne_self_eq_false, programC, programV, programW, marks_length, row1_length, rows_length, cI, cB, cS, roI, ro64, hpin, go_sem, Nat.reduceAdd, Nat.reduceMul]
  refine Tri.step sized ?_
  simp (decide := true) only [bne_self_eq_false, programC, programV, programW, marks_length, row1_length, rows_length, cI, cB, cS, roI, ro64, hpin, go_sem, Nat.reduceAdd, Nat.reduceMul]
  refine aCall_det (szProgram_sound p (1048576) (by decide) (by decide) hsp) hpin ?_
  by_cases h0_ : (1048576 : Int) - ((programCost p : Nat) : Int) < 0
  · rw [sub_neg h0_]
    simp (decide := true) only [bne_self_eq_false, programC, programV, programW, marks_length, row1_length, rows_length, cI, cB, cS, roI, ro64, hpin, go_sem, Nat.reduceAdd, Nat.reduceMul]
    refine code_sound sized _ ?_
    simp (decide := true) only [bne_self_eq_false, programC, programV, programW, marks_length, row1_length, rows_length, cI, cB, cS, roI, ro64, hpin, go_sem, Nat.reduceAdd, Nat.reduceMul]
  rw [sub_pos h0_]
  have n0_ : ((1048576 : Int) - ((programCost p : Nat) : Int) < 0) = False := by simpa using h0_
  simp (decide := true) only [n0_, programC, programV, programW, row1_length, rows_length, cI, cB, cS, roI, ro64, hpin, go_sem, Nat.reduceAdd, Nat.reduceMul]
  refine Tri.step sized ?_
  simp (decide := true) only [n0_, programC, programV, programW, row1_length, rows_length, cI, cB, cS, roI, ro64, hpin, go_sem, Nat.reduceAdd, Nat.reduceMul]
  have hcp : programCost p ≤ 1048576 := by omega
  obtain ⟨k1, k2⟩ := program_kids hcp
  have k0 : p.fns.length ≤ 1048576 := by unfold programCost at hcp; omega
  have k3 := program_params hcp
  have hm1 := node_marks p.nodes
  have hm2 := fn_marks p.fns
  have hm3 : sumN nodeCost p.nodes ≤ 1048576 ∧ sumN fnCost p.fns ≤ 1048576 := by unfold programCost at hcp; omega
  have hcQ := renVar_cost p fn a b hcp
  have hsS := renameVarS_sound p fn a b k0 k1 k2 k3
  have hsI := renameVarI_sound p fn a b k0 k1 k2 k3
  generalize renVarP p fn a b = Q at hcQ hsS hsI
  generalize renVarCode p fn a b = cd at hsS hsI
  have hq1 := node_marks Q.nodes
  have hq2 := fn_marks Q.fns
  have hq3 : Q.nodes.length ≤ 1048576 ∧ Q.fns.length ≤ 1048576 ∧ sumN nodeCost Q.nodes ≤ 1048576 ∧ sumN fnCost Q.fns ≤ 1048576 := by unfold programCost at hcQ; omega
  refine Tri.step sized ?_
  simp (decide := true) only [bne_self_eq_false, hpin, programC, programV, programW, marks_length, row1_length, rows_length, cI, cB, cS, roI, ro64, go_sem, Nat.reduceAdd, Nat.reduceMul]
  refine aCall_det (toProgram_sound p hcp) hpin ?_
  simp (decide := true) only [bne_self_eq_false, hpin, programC, programV, programW, marks_length, row1_length, rows_length, cI, cB, cS, roI, ro64, go_sem, Nat.reduceAdd, Nat.reduceMul]
  refine aCall_det hsS hpin ?_
  simp (decide := true) only [bne_self_eq_false, hpin, programC, programV, programW, marks_length, row1_length, rows_length, cI, cB, cS, roI, ro64, go_sem, Nat.reduceAdd, Nat.reduceMul]
  refine Tri.ent ?_ (Ent.frb hfull 10)
  refine Tri.step sized ?_
  simp (decide := true) only [bne_self_eq_false, hpin, programC, programV, programW, marks_length, row1_length, rows_length, cI, cB, cS, roI, ro64, go_sem, Nat.reduceAdd, Nat.reduceMul]
  refine aCall_det (toProgram_sound p hcp) hpin ?_
  simp (decide := true) only [bne_self_eq_false, hpin, programC, programV, programW, marks_length, row1_length, rows_length, cI, cB, cS, roI, ro64, go_sem, Nat.reduceAdd, Nat.reduceMul]
  refine Tri.outN [] (x := .box [.row false 60 (rows (nodeC false) (p.nodes)), .row false 80 (rows (fnC false) (p.fns))]) (e := 60) (es := rows (nodeC false) (p.nodes)) 12 [(0, 0)] 1000 (by rfl) (by rfl) (by simp) (by rfl) (by rfl) (by decide) (pinK0 hpin) (pin3 hpin) hfull (fun z1000 C1000 hz1000 ho1000 hpK1000 hp31000 hfull1000 => ?_)
  have hpK := hpK1000
  have hp3 := hp31000
  have hfullK := hfull1000
  refine Tri.outN [1000] (x := .box [.sc z1000, .row false 80 (rows (fnC false) (p.fns))]) (e := 80) (es := rows (fnC false) (p.fns)) 12 [(0, 1)] 1001 (by rfl) (by rfl) (by simp) (by rfl) (by rfl) (by decide) hpK hp3 hfullK (fun z1001 C1001 hz1001 ho1001 hpK1001 hp31001 hfull1001 => ?_)
  have hz1000 : C1001.pin 1000 = some (z1000, 0, 0) := (ho1001 1000 (by decide)).trans hz1000
  have hpK := hpK1001
  have hp3 := hp31001
  have hfullK := hfull1001
  refine Tri.ent ?_ (Ent.frb hfullK 12)
  refine Tri.step sized ?_
  simp (decide := true) only [bne_self_eq_false, hpK, hz1000, hz1001, programC, programV, programW, marks_length, row1_length, rows_length, cI, cB, cS, roI, ro64, go_sem, Nat.reduceAdd, Nat.reduceMul]
  refine aCall_det3 hsI hp3 ?_
  simp (decide := true) only [bne_self_eq_false, hpK, hz1000, hz1001, programC, programV, programW, marks_length, row1_length, rows_length, cI, cB, cS, roI, ro64, go_sem, Nat.reduceAdd, Nat.reduceMul]
  refine Tri.outN [1001, 1000] (x := .box [.row false 60 (rows (nodeC false) (Q.nodes)), .row false 80 (rows (fnC false) (Q.fns))]) (e := 60) (es := rows (nodeC false) (Q.nodes)) 13 [(0, 0)] 1002 (by rfl) (by rfl) (by simp) (by rfl) (by rfl) (by decide) hpK hp3 hfullK (fun z1002 C1002 hz1002 ho1002 hpK1002 hp31002 hfull1002 => ?_)
  have hz1000 : C1002.pin 1000 = some (z1000, 0, 0) := (ho1002 1000 (by decide)).trans hz1000
  have hz1001 : C1002.pin 1001 = some (z1001, 0, 0) := (ho1002 1001 (by decide)).trans hz1001
  have hpK := hpK1002
  have hp3 := hp31002
  have hfullK := hfull1002
  refine Tri.outN [1002, 1001, 1000] (x := .box [.sc z1002, .row false 80 (rows (fnC false) (Q.fns))]) (e := 80) (es := rows (fnC false) (Q.fns)) 13 [(0, 1)] 1003 (by rfl) (by rfl) (by simp) (by rfl) (by rfl) (by decide) hpK hp3 hfullK (fun z1003 C1003 hz1003 ho1003 hpK1003 hp31003 hfull1003 => ?_)
  have hz1000 : C1003.pin 1000 = some (z1000, 0, 0) := (ho1003 1000 (by decide)).trans hz1000
  have hz1001 : C1003.pin 1001 = some (z1001, 0, 0) := (ho1003 1001 (by decide)).trans hz1001
  have hz1002 : C1003.pin 1002 = some (z1002, 0, 0) := (ho1003 1002 (by decide)).trans hz1002
  have hpK := hpK1003
  have hp3 := hp31003
  have hfullK := hfull1003
  refine Tri.ent ?_ (Ent.frb hfullK 13)
  refine Tri.step sized ?_
  simp (decide := true) only [bne_self_eq_false, hpK, hz1000, hz1001, hz1002, hz1003, programC, programV, programW, marks_length, row1_length, rows_length, cI, cB, cS, roI, ro64, go_sem, Nat.reduceAdd, Nat.reduceMul]
  refine aCall_det3 (eqProgram_sound Q hcQ) hp3 ?_
  simp (decide := true) only [bne_self_eq_false, hpK, hz1000, hz1001, hz1002, hz1003, programC, programV, programW, marks_length, row1_length, rows_length, cI, cB, cS, roI, ro64, go_sem, Nat.reduceAdd, Nat.reduceMul]
  refine Tri.step sized ?_
  simp (decide := true) only [bne_self_eq_false, hpK, hz1000, hz1001, hz1002, hz1003, programC, programV, programW, marks_length, row1_length, rows_length, cI, cB, cS, roI, ro64, go_sem, Nat.reduceAdd, Nat.reduceMul]
  refine Tri.sched sized [(0, true), (1, false), (2, false), (3, false), (4, false)] mixed (by kernel_rfl) (fun CX hCX => ?_)
  have hpX : ∀ o, isPinK [1003, 1002, 1001, 1000] o = false → CX.pin o = none := by rw [hCX]; exact hpK
  have hpX3 : ∀ n, 3000 ≤ n → CX.pin n = none := by rw [hCX]; exact hp3
  have hzX1000 : CX.pin 1000 = some (z1000, 0, 0) := by rw [hCX]; exact hz1000
  have hzX1001 : CX.pin 1001 = some (z1001, 0, 0) := by rw [hCX]; exact hz1001
  have hzX1002 : CX.pin 1002 = some (z1002, 0, 0) := by rw [hCX]; exact hz1002
  have hzX1003 : CX.pin 1003 = some (z1003, 0, 0) := by rw [hCX]; exact hz1003
  simp (decide := true) only [bne_self_eq_false, hpX, hzX1000, hzX1001, hzX1002, hzX1003, programC, programV, programW, marks_length, row1_length, rows_length, cI, cB, cS, roI, ro64, go_sem, Nat.reduceAdd, Nat.reduceMul]
  refine aCall_det3 (toProgram_sound p hcp) hpX3 ?_
  simp (decide := true) only [bne_self_eq_false, hpX, hzX1000, hzX1001, hzX1002, hzX1003, programC, programV, programW, marks_length, row1_length, rows_length, cI, cB, cS, roI, ro64, go_sem, Nat.reduceAdd, Nat.reduceMul]
  refine aCall_det3 (eqProgram_sound p hcp) hpX3 ?_
  simp (decide := true) only [bne_self_eq_false, hpX, hzX1000, hzX1001, hzX1002, hzX1003, programC, programV, programW, marks_length, row1_length, rows_length, cI, cB, cS, roI, ro64, go_sem, Nat.reduceAdd, Nat.reduceMul]
  refine Tri.step sized ?_
  simp (decide := true) only [bne_self_eq_false, hpK, hz1000, hz1001, hz1002, hz1003, programC, programV, programW, marks_length, row1_length, rows_length, cI, cB, cS, roI, ro64, go_sem, Nat.reduceAdd, Nat.reduceMul]
  refine Tri.step sized ?_
  simp (decide := true) only [bne_self_eq_false, hpK, hz1000, hz1001, hz1002, hz1003, programC, programV, programW, marks_length, row1_length, rows_length, cI, cB, cS, roI, ro64, go_sem, Nat.reduceAdd, Nat.reduceMul]
  refine aCall_iod3 (markProgram_sound p (1) (by omega) (by omega)) hp3 [(2000, 1000), (2001, 1001)] ⟨rfl, rfl, rfl⟩ (fun uf => ⟨rfl, rfl⟩) (fun uf => ?_) ?_
  · simp (decide := true) only [bne_self_eq_false, hpK, hz1000, hz1001, hz1002, hz1003, programC, programV, programW, marks_length, row1_length, rows_length, cI, cB, cS, roI, ro64, go_sem, Nat.reduceAdd, Nat.reduceMul]
  simp (decide := true) only [bne_self_eq_false, hpK, hz1000, hz1001, hz1002, hz1003, programC, programV, programW, marks_length, row1_length, rows_length, cI, cB, cS, roI, ro64, go_sem, Nat.reduceAdd, Nat.reduceMul]
  obtain ⟨q, hq⟩ : ∃ q : Int, q = 1 + (sumN nodeN p.nodes : Nat) + (sumN fnN p.fns : Nat) := ⟨_, rfl⟩
  rw [← hq]
  have hk0 : (q < 0) = False := by simp; omega
  refine Tri.step sized ?_
  simp (decide := true) only [bne_self_eq_false, hk0, hpK, hz1000, hz1001, hz1002, hz1003, programC, programV, programW, marks_length, row1_length, rows_length, cI, cB, cS, roI, ro64, go_sem, Nat.reduceAdd, Nat.reduceMul]
  refine aCall_det3 (eqProgram_sound Q hcQ) hp3 ?_
  simp (decide := true) only [bne_self_eq_false, hpK, hz1000, hz1001, hz1002, hz1003, programC, programV, programW, marks_length, row1_length, rows_length, cI, cB, cS, roI, ro64, go_sem, Nat.reduceAdd, Nat.reduceMul]
  refine Tri.step sized ?_
  simp (decide := true) only [bne_self_eq_false, hpK, hz1000, hz1001, hz1002, hz1003, programC, programV, programW, marks_length, row1_length, rows_length, cI, cB, cS, roI, ro64, go_sem, Nat.reduceAdd, Nat.reduceMul]
  refine Tri.step sized ?_
  simp (decide := true) only [bne_self_eq_false, hpK, hz1000, hz1001, hz1002, hz1003, programC, programV, programW, marks_length, row1_length, rows_length, cI, cB, cS, roI, ro64, go_sem, Nat.reduceAdd, Nat.reduceMul]
  refine aCall_iod3 (markProgram_sound Q (1) (by omega) (by omega)) hp3 [(2000, 1002), (2001, 1003)] ⟨rfl, rfl, rfl⟩ (fun uf => ⟨rfl, rfl⟩) (fun uf => ?_) ?_
  · simp (decide := true) only [bne_self_eq_false, hpK, hz1000, hz1001, hz1002, hz1003, programC, programV, programW, marks_length, row1_length, rows_length, cI, cB, cS, roI, ro64, go_sem, Nat.reduceAdd, Nat.reduceMul]
  simp (decide := true) only [bne_self_eq_false, hpK, hz1000, hz1001, hz1002, hz1003, programC, programV, programW, marks_length, row1_length, rows_length, cI, cB, cS, roI, ro64, go_sem, Nat.reduceAdd, Nat.reduceMul]
  have hhe := heldProgram_sound Q 1 (by omega) (by omega)
  obtain ⟨M1, hM1⟩ : ∃ M1, M1 = nodeML 1 Q.nodes := ⟨_, rfl⟩
  obtain ⟨M2, hM2⟩ : ∃ M2, M2 = fnML (1 + (sumN nodeN Q.nodes : Nat)) Q.fns := ⟨_, rfl⟩
  rw [← hM1, ← hM2] at hhe ⊢
  refine Tri.step sized ?_
  simp (decide := true) only [bne_self_eq_false, hpK, hz1000, hz1001, hz1002, hz1003, programC, programV, programW, marks_length, row1_length, rows_length, cI, cB, cS, roI, ro64, go_sem, Nat.reduceAdd, Nat.reduceMul]
  refine Tri.step sized ?_
  simp (decide := true) only [bne_self_eq_false, hpK, hz1000, hz1001, hz1002, hz1003, programC, programV, programW, marks_length, row1_length, rows_length, cI, cB, cS, roI, ro64, go_sem, Nat.reduceAdd, Nat.reduceMul]
  refine aCall_det3 hhe hp3 ?_
  simp (decide := true) only [bne_self_eq_false, hpK, hz1000, hz1001, hz1002, hz1003, programC, programV, programW, marks_length, row1_length, rows_length, cI, cB, cS, roI, ro64, go_sem, Nat.reduceAdd, Nat.reduceMul]
  obtain ⟨q2, hq2'⟩ : ∃ q : Int, q = 1 + (sumN nodeN Q.nodes : Nat) + (sumN fnN Q.fns : Nat) := ⟨_, rfl⟩
  rw [← hq2'] at hhe ⊢
  have hk2 : (q2 < 0) = False := by simp; omega
  refine Tri.step sized ?_
  simp (decide := true) only [bne_self_eq_false, hk2, hpK, hz1000, hz1001, hz1002, hz1003, programC, programV, programW, marks_length, row1_length, rows_length, cI, cB, cS, roI, ro64, go_sem, Nat.reduceAdd, Nat.reduceMul]
  refine Tri.step sized ?_
  simp (decide := true) only [bne_self_eq_false, hpK, hz1000, hz1001, hz1002, hz1003, programC, programV, programW, marks_length, row1_length, rows_length, cI, cB, cS, roI, ro64, go_sem, Nat.reduceAdd, Nat.reduceMul]
  refine Tri.step sized ?_
  simp (decide := true) only [bne_self_eq_false, hpK, hz1000, hz1001, hz1002, hz1003, programC, programV, programW, marks_length, row1_length, rows_length, cI, cB, cS, roI, ro64, go_sem, Nat.reduceAdd, Nat.reduceMul]
  refine aCall_det3 (toProgram_sound p hcp) hp3 ?_
  simp (decide := true) only [bne_self_eq_false, hpK, hz1000, hz1001, hz1002, hz1003, programC, programV, programW, marks_length, row1_length, rows_length, cI, cB, cS, roI, ro64, go_sem, Nat.reduceAdd, Nat.reduceMul]
  refine aCall_det3 hsI hp3 ?_
  simp (decide := true) only [bne_self_eq_false, hpK, hz1000, hz1001, hz1002, hz1003, programC, programV, programW, marks_length, row1_length, rows_length, cI, cB, cS, roI, ro64, go_sem, Nat.reduceAdd, Nat.reduceMul]
  refine Tri.ent ?_ (Ent.frb hfullK 18)
  refine Tri.step sized ?_
  simp (decide := true) only [bne_self_eq_false, hpK, hz1000, hz1001, hz1002, hz1003, programC, programV, programW, marks_length, row1_length, rows_length, cI, cB, cS, roI, ro64, go_sem, Nat.reduceAdd, Nat.reduceMul]
  refine aCall_det3 (eqProgram_sound Q hcQ) hp3 ?_
  simp (decide := true) only [bne_self_eq_false, hpK, hz1000, hz1001, hz1002, hz1003, programC, programV, programW, marks_length, row1_length, rows_length, cI, cB, cS, roI, ro64, go_sem, Nat.reduceAdd, Nat.reduceMul]
  refine Tri.step sized ?_
  simp (decide := true) only [bne_self_eq_false, hpK, hz1000, hz1001, hz1002, hz1003, programC, programV, programW, marks_length, row1_length, rows_length, cI, cB, cS, roI, ro64, go_sem, Nat.reduceAdd, Nat.reduceMul]
  refine Tri.step sized ?_
  simp (decide := true) only [bne_self_eq_false, hpK, hz1000, hz1001, hz1002, hz1003, programC, programV, programW, marks_length, row1_length, rows_length, cI, cB, cS, roI, ro64, go_sem, Nat.reduceAdd, Nat.reduceMul]
  refine aCall_det3 hhe hp3 ?_
  simp (decide := true) only [bne_self_eq_false, hpK, hz1000, hz1001, hz1002, hz1003, programC, programV, programW, marks_length, row1_length, rows_length, cI, cB, cS, roI, ro64, go_sem, Nat.reduceAdd, Nat.reduceMul]
  refine Tri.step sized ?_
  simp (decide := true) only [bne_self_eq_false, hk2, hpK, hz1000, hz1001, hz1002, hz1003, programC, programV, programW, marks_length, row1_length, rows_length, cI, cB, cS, roI, ro64, go_sem, Nat.reduceAdd, Nat.reduceMul]
  refine code_sound sized _ ?_
  simp (decide := true) only [bne_self_eq_false, hpK, hz1000, hz1001, hz1002, hz1003, programC, programV, programW, marks_length, row1_length, rows_length, cI, cB, cS, roI, ro64, go_sem, Nat.reduceAdd, Nat.reduceMul]
end Go.Proofs.YtnbodmohnkohfaaGreatDoor.AW
