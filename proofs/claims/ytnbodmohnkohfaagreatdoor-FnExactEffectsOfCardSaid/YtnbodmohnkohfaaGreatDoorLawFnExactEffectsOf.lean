/- The statement FnExactEffectsOf: what its code does. No condition beyond those named. -/
import Derived.Test.YtnbodmohnkohfaaGreatDoorQp
namespace Go.Proofs.YtnbodmohnkohfaaGreatDoor.AW
open Go.RowKit
set_option maxHeartbeats 8000000
set_option maxRecDepth 100000
set_option linter.unusedSimpArgs false
set_option linter.unusedVariables false

theorem two_effects (l : List EffectD) : sumN effectN l = 2 * l.length := two_marks (fun _ => rfl) l
theorem effPut_cost (l : List EffectD) (s : ByteArray) (b : Int) : sumN effectCost (effPut l s b) ≤ sumN effectCost l + s.size := by
  unfold effPut
  split
  · rename_i h
    have e : sumN effectCost (l.set (effAt l s) ⟨(l.getD (effAt l s) ef0).name, bits .or .i64 (l.getD (effAt l s) ef0).bits b⟩) = sumN effectCost l := by
      unfold sumN
      congr 1
      apply List.ext_getElem
      · simp
      · intro j h1 h2
        simp only [List.getElem_map, List.getElem_set]
        split
        · rename_i hh; subst hh; simp [List.getD, h, effectCost]
        · rfl
    omega
  · rw [sumN_app]; simp [sumN, effectCost]
theorem effStep_cost (nodes : List NodeD) (vars : List VarD) (l : List EffectD) (k : Int) (h : 1 ≤ 1) : (effStep nodes vars l k).length + sumN effectCost (effStep nodes vars l k) ≤ l.length + sumN effectCost l + (1 + nodeCost (nAt nodes k)) := by
  have h1 := effStep_length nodes vars l k
  unfold effStep at h1 ⊢
  split
  · omega
  · rename_i hb
    rw [if_neg hb] at h1
    have h2 := effPut_cost l (nAt nodes k).name (effB (nAt nodes k).kind (varTy vars (nAt nodes k).name))
    have h3 : (nAt nodes k).name.size ≤ nodeCost (nAt nodes k) := by unfold nodeCost; omega
    omega
theorem effFold_cost (nodes : List NodeD) (vars : List VarD) : ∀ (U : List Int) (l : List EffectD), (U.foldl (effStep nodes vars) l).length + sumN effectCost (U.foldl (effStep nodes vars) l) ≤ l.length + sumN effectCost l + (U.length + sumN (fun k => nodeCost (nAt nodes k)) U)
  | [], l => by simp [sumN]
  | k :: r, l => by
    have h1 := effFold_cost nodes vars r (effStep nodes vars l k)
    have h2 := effStep_cost nodes vars l k (by omega)
    rw [sumN_one, List.foldl_cons, List.length_cons]
    omega
theorem effL_cost {p : ProgramD} (fn : Int) (R : List Int) (h : programCost p ≤ 1048576) : (effL p fn R).length + sumN effectCost (effL p fn R) ≤ 1048576 := by
  unfold effL
  split
  · have h1 := effFold_cost p.nodes (tyList p fn) (anyNs p R) []
    have h2 := sum_idx p.nodes (anyNs p R) 0 (pick_rising _ _) (fun k hk => by
      obtain ⟨a, _, h3⟩ := (anyNs_mem p R k).1 hk
      have := underP_mem h3
      exact ⟨by omega, this.2.1⟩)
    rw [List.drop_zero] at h2
    have h3 := anyNs_length p R
    unfold effFold
    unfold programCost at h
    simp [sumN] at h1
    simp only [sumN] at h2 h ⊢
    omega
  · simp [sumN]

theorem law_sound (p : ProgramD) (fn : Int) (R : List Int) (hsp : programSmall p) : Sound Tryz.prog 3 [.ro (programV p), .ro (.sc (.int .i64 fn)), .ro (roI R)] (fun rs st => rs = [(false, [cB true])]) := by
  refine sound_tri (fn := Tryz.f3) (c := Tryz.f3.body.getD .skip) (res := [.tm 6]) (n := 95) sized (by kernel_rfl) (by rfl) (by kernel_rfl) (by rfl) (by rfl) (by simp [argsV]) (fun uf ub C hpin hpin2 hfull => ?_)
  simp only [Tryz.f3, Option.getD_some]
  refine Tri.step sized ?_
  simp (decide := true) only [bne_self_eq_false, programC, programV, programW, effectC, marks_length, row1_length, rows_length, cI, cB, cS, roI, ro64, hpin, go_sem, Nat.reduceAdd, Nat.reduceMul]
  refine Tri.ent ?_ (Ent.frb hfull 3)
  by_cases hzR : 1048576 < R.length
  · have e1 : ((1048576 : Int) < (R.length : Int)) = True := by simp; omega
    refine Tri.step sized ?_
    simp (decide := true) only [e1, programC, programV, programW, row1_length, rows_length, cI, cB, cS, roI, ro64, hpin, go_sem, Nat.reduceAdd, Nat.reduceMul]
  have ezR : ((1048576 : Int) < (R.length : Int)) = False := by simp; omega
  have hR : R.length ≤ 1048576 := by omega
  refine Tri.step sized ?_
  simp (decide := true) only [ezR, programC, programV, programW, row1_length, rows_length, cI, cB, cS, roI, ro64, hpin, go_sem, Nat.reduceAdd, Nat.reduceMul]
  refine Tri.step sized ?_
  simp (decide := true) only [bne_self_eq_false, programC, programV, programW, effectC, marks_length, row1_length, rows_length, cI, cB, cS, roI, ro64, hpin, go_sem, Nat.reduceAdd, Nat.reduceMul]
  refine Tri.step sized ?_
  simp (decide := true) only [bne_self_eq_false, programC, programV, programW, effectC, marks_length, row1_length, rows_length, cI, cB, cS, roI, ro64, hpin, go_sem, Nat.reduceAdd, Nat.reduceMul]
  refine aCall_det (szProgram_sound p (1048576) (by decide) (by decide) hsp) hpin ?_
  by_cases h0_ : (1048576 : Int) - ((programCost p : Nat) : Int) < 0
  · rw [sub_neg h0_]
    simp (decide := true) only [bne_self_eq_false, programC, programV, programW, effectC, marks_length, row1_length, rows_length, cI, cB, cS, roI, ro64, hpin, go_sem, Nat.reduceAdd, Nat.reduceMul]
    refine code_sound sized _ ?_
    simp (decide := true) only [bne_self_eq_false, programC, programV, programW, effectC, marks_length, row1_length, rows_length, cI, cB, cS, roI, ro64, hpin, go_sem, Nat.reduceAdd, Nat.reduceMul]
  rw [sub_pos h0_]
  have n0_ : ((1048576 : Int) - ((programCost p : Nat) : Int) < 0) = False := by simpa using h0_
  simp (decide := true) only [n0_, programC, programV, programW, row1_length, rows_length, cI, cB, cS, roI, ro64, hpin, go_sem, Nat.reduceAdd, Nat.reduceMul]
  refine Tri.step sized ?_
  simp (decide := true) only [n0_, programC, programV, programW, row1_length, rows_length, cI, cB, cS, roI, ro64, hpin, go_sem, Nat.reduceAdd, Nat.reduceMul]
  have hcp : programCost p ≤ 1048576 := by omega
  obtain ⟨k1, k2⟩ := program_kids hcp
  have k0 : p.fns.length ≤ 1048576 := by unfold programCost at hcp; omega
  have k3 := program_params hcp
  have hm1 := node_marks p.nodes
  have hm2 := fn_marks p.fns
  have hm3 : sumN nodeCost p.nodes ≤ 1048576 ∧ sumN fnCost p.fns ≤ 1048576 := by unfold programCost at hcp; omega
  have hcost := effL_cost (p := p) fn R hcp
  have hLn : sumN effectN (effL p fn R) = 2 * (effL p fn R).length := two_effects _
  have hsS := effectsS_sound p fn R hR k0 k1 k2 k3
  have hsI := effectsI_sound p fn R hR k0 k1 k2 k3
  generalize effL p fn R = L at hcost hLn hsS hsI
  refine Tri.step sized ?_
  simp (decide := true) only [bne_self_eq_false, hpin, programC, programV, programW, effectC, marks_length, row1_length, rows_length, cI, cB, cS, roI, ro64, go_sem, Nat.reduceAdd, Nat.reduceMul]
  refine aCall_det (toProgram_sound p hcp) hpin ?_
  simp (decide := true) only [bne_self_eq_false, hpin, programC, programV, programW, effectC, marks_length, row1_length, rows_length, cI, cB, cS, roI, ro64, go_sem, Nat.reduceAdd, Nat.reduceMul]
  refine aCall_det (toI_sound R hR) hpin ?_
  simp (decide := true) only [bne_self_eq_false, hpin, programC, programV, programW, effectC, marks_length, row1_length, rows_length, cI, cB, cS, roI, ro64, go_sem, Nat.reduceAdd, Nat.reduceMul]
  refine aCall_det hsS hpin ?_
  simp (decide := true) only [bne_self_eq_false, hpin, programC, programV, programW, effectC, marks_length, row1_length, rows_length, cI, cB, cS, roI, ro64, go_sem, Nat.reduceAdd, Nat.reduceMul]
  refine Tri.step sized ?_
  simp (decide := true) only [bne_self_eq_false, hpin, programC, programV, programW, effectC, marks_length, row1_length, rows_length, cI, cB, cS, roI, ro64, go_sem, Nat.reduceAdd, Nat.reduceMul]
  refine aCall_det (toProgram_sound p hcp) hpin ?_
  simp (decide := true) only [bne_self_eq_false, hpin, programC, programV, programW, effectC, marks_length, row1_length, rows_length, cI, cB, cS, roI, ro64, go_sem, Nat.reduceAdd, Nat.reduceMul]
  refine Tri.outN [] (x := .box [.row false 60 (rows (nodeC false) (p.nodes)), .row false 80 (rows (fnC false) (p.fns))]) (e := 60) (es := rows (nodeC false) (p.nodes)) 9 [(0, 0)] 1000 (by rfl) (by rfl) (by simp) (by rfl) (by rfl) (by decide) (pinK0 hpin) (pin3 hpin) hfull (fun z1000 C1000 hz1000 ho1000 hpK1000 hp31000 hfull1000 => ?_)
  have hpK := hpK1000
  have hp3 := hp31000
  have hfullK := hfull1000
  refine Tri.outN [1000] (x := .box [.sc z1000, .row false 80 (rows (fnC false) (p.fns))]) (e := 80) (es := rows (fnC false) (p.fns)) 9 [(0, 1)] 1001 (by rfl) (by rfl) (by simp) (by rfl) (by rfl) (by decide) hpK hp3 hfullK (fun z1001 C1001 hz1001 ho1001 hpK1001 hp31001 hfull1001 => ?_)
  have hz1000 : C1001.pin 1000 = some (z1000, 0, 0) := (ho1001 1000 (by decide)).trans hz1000
  have hpK := hpK1001
  have hp3 := hp31001
  have hfullK := hfull1001
  refine Tri.ent ?_ (Ent.frb hfullK 9)
  refine Tri.step sized ?_
  simp (decide := true) only [bne_self_eq_false, hpK, hz1000, hz1001, programC, programV, programW, effectC, marks_length, row1_length, rows_length, cI, cB, cS, roI, ro64, go_sem, Nat.reduceAdd, Nat.reduceMul]
  refine aCall_det3 (toI_sound R hR) hp3 ?_
  simp (decide := true) only [bne_self_eq_false, hpK, hz1000, hz1001, programC, programV, programW, effectC, marks_length, row1_length, rows_length, cI, cB, cS, roI, ro64, go_sem, Nat.reduceAdd, Nat.reduceMul]
  refine Tri.step sized ?_
  simp (decide := true) only [bne_self_eq_false, hpK, hz1000, hz1001, programC, programV, programW, effectC, marks_length, row1_length, rows_length, cI, cB, cS, roI, ro64, go_sem, Nat.reduceAdd, Nat.reduceMul]
  refine aCall_det3 hsI hp3 ?_
  simp (decide := true) only [bne_self_eq_false, hpK, hz1000, hz1001, programC, programV, programW, effectC, marks_length, row1_length, rows_length, cI, cB, cS, roI, ro64, go_sem, Nat.reduceAdd, Nat.reduceMul]
  refine Tri.step sized ?_
  simp (decide := true) only [bne_self_eq_false, hpK, hz1000, hz1001, programC, programV, programW, effectC, marks_length, row1_length, rows_length, cI, cB, cS, roI, ro64, go_sem, Nat.reduceAdd, Nat.reduceMul]
  refine aCall_det3 (eqEffectS_sound L hcost) hp3 ?_
  simp (decide := true) only [bne_self_eq_false, hpK, hz1000, hz1001, programC, programV, programW, effectC, marks_length, row1_length, rows_length, cI, cB, cS, roI, ro64, go_sem, Nat.reduceAdd, Nat.reduceMul]
  refine Tri.step sized ?_
  simp (decide := true) only [bne_self_eq_false, hpK, hz1000, hz1001, programC, programV, programW, effectC, marks_length, row1_length, rows_length, cI, cB, cS, roI, ro64, go_sem, Nat.reduceAdd, Nat.reduceMul]
  refine Tri.sched sized [(0, true), (1, true), (2, false), (3, false), (4, false)] mixed (by kernel_rfl) (fun CX hCX => ?_)
  have hpX : ∀ o, isPinK [1001, 1000] o = false → CX.pin o = none := by rw [hCX]; exact hpK
  have hpX3 : ∀ n, 3000 ≤ n → CX.pin n = none := by rw [hCX]; exact hp3
  have hzX1000 : CX.pin 1000 = some (z1000, 0, 0) := by rw [hCX]; exact hz1000
  have hzX1001 : CX.pin 1001 = some (z1001, 0, 0) := by rw [hCX]; exact hz1001
  simp (decide := true) only [bne_self_eq_false, hpX, hzX1000, hzX1001, programC, programV, programW, effectC, marks_length, row1_length, rows_length, cI, cB, cS, roI, ro64, go_sem, Nat.reduceAdd, Nat.reduceMul]
  refine aCall_det3 (toProgram_sound p hcp) hpX3 ?_
  simp (decide := true) only [bne_self_eq_false, hpX, hzX1000, hzX1001, programC, programV, programW, effectC, marks_length, row1_length, rows_length, cI, cB, cS, roI, ro64, go_sem, Nat.reduceAdd, Nat.reduceMul]
  refine aCall_det3 (eqProgram_sound p hcp) hpX3 ?_
  simp (decide := true) only [bne_self_eq_false, hpX, hzX1000, hzX1001, programC, programV, programW, effectC, marks_length, row1_length, rows_length, cI, cB, cS, roI, ro64, go_sem, Nat.reduceAdd, Nat.reduceMul]
  refine Tri.step sized ?_
  simp (decide := true) only [bne_self_eq_false, hpK, hz1000, hz1001, programC, programV, programW, effectC, marks_length, row1_length, rows_length, cI, cB, cS, roI, ro64, go_sem, Nat.reduceAdd, Nat.reduceMul]
  refine aCall_det3 (toI_sound R hR) hp3 ?_
  simp (decide := true) only [bne_self_eq_false, hpK, hz1000, hz1001, programC, programV, programW, effectC, marks_length, row1_length, rows_length, cI, cB, cS, roI, ro64, go_sem, Nat.reduceAdd, Nat.reduceMul]
  refine aCall_det3 (eqI_sound R hR) hp3 ?_
  simp (decide := true) only [bne_self_eq_false, hpK, hz1000, hz1001, programC, programV, programW, effectC, marks_length, row1_length, rows_length, cI, cB, cS, roI, ro64, go_sem, Nat.reduceAdd, Nat.reduceMul]
  refine Tri.step sized ?_
  simp (decide := true) only [bne_self_eq_false, hpK, hz1000, hz1001, programC, programV, programW, effectC, marks_length, row1_length, rows_length, cI, cB, cS, roI, ro64, go_sem, Nat.reduceAdd, Nat.reduceMul]
  refine Tri.step sized ?_
  simp (decide := true) only [bne_self_eq_false, hpK, hz1000, hz1001, programC, programV, programW, effectC, marks_length, row1_length, rows_length, cI, cB, cS, roI, ro64, go_sem, Nat.reduceAdd, Nat.reduceMul]
  refine aCall_iod3 (markProgram_sound p (1) (by omega) (by omega)) hp3 [(2000, 1000), (2001, 1001)] ⟨rfl, rfl, rfl⟩ (fun uf => ⟨rfl, rfl⟩) (fun uf => ?_) ?_
  · simp (decide := true) only [bne_self_eq_false, hpK, hz1000, hz1001, programC, programV, programW, effectC, marks_length, row1_length, rows_length, cI, cB, cS, roI, ro64, go_sem, Nat.reduceAdd, Nat.reduceMul]
  simp (decide := true) only [bne_self_eq_false, hpK, hz1000, hz1001, programC, programV, programW, effectC, marks_length, row1_length, rows_length, cI, cB, cS, roI, ro64, go_sem, Nat.reduceAdd, Nat.reduceMul]
  obtain ⟨q, hq⟩ : ∃ q : Int, q = 1 + (sumN nodeN p.nodes : Nat) + (sumN fnN p.fns : Nat) := ⟨_, rfl⟩
  rw [← hq]
  have hq0 : 0 ≤ q := by omega
  refine Tri.step sized ?_
  simp (decide := true) only [bne_self_eq_false, hpK, hz1000, hz1001, programC, programV, programW, effectC, marks_length, row1_length, rows_length, cI, cB, cS, roI, ro64, go_sem, Nat.reduceAdd, Nat.reduceMul]
  refine aCall_iod3 (markInt_sound R q (by omega) (by omega) (by omega)) hp3 [(2000, 10)] ⟨rfl, rfl, rfl⟩ (fun uf => ⟨rfl, rfl⟩) (fun uf => ?_) ?_
  · simp (decide := true) only [bne_self_eq_false, hpK, hz1000, hz1001, programC, programV, programW, effectC, marks_length, row1_length, rows_length, cI, cB, cS, roI, ro64, go_sem, Nat.reduceAdd, Nat.reduceMul]
  simp (decide := true) only [bne_self_eq_false, hpK, hz1000, hz1001, programC, programV, programW, effectC, marks_length, row1_length, rows_length, cI, cB, cS, roI, ro64, go_sem, Nat.reduceAdd, Nat.reduceMul]
  have hk0 : ((q + (R.length : Int)) < 0) = False := by simp; omega
  refine Tri.step sized ?_
  simp (decide := true) only [bne_self_eq_false, hk0, hpK, hz1000, hz1001, programC, programV, programW, effectC, marks_length, row1_length, rows_length, cI, cB, cS, roI, ro64, go_sem, Nat.reduceAdd, Nat.reduceMul]
  refine aCall_det3 (eqEffectS_sound L hcost) hp3 ?_
  simp (decide := true) only [bne_self_eq_false, hpK, hz1000, hz1001, programC, programV, programW, effectC, marks_length, row1_length, rows_length, cI, cB, cS, roI, ro64, go_sem, Nat.reduceAdd, Nat.reduceMul]
  refine Tri.step sized ?_
  simp (decide := true) only [bne_self_eq_false, hpK, hz1000, hz1001, programC, programV, programW, effectC, marks_length, row1_length, rows_length, cI, cB, cS, roI, ro64, go_sem, Nat.reduceAdd, Nat.reduceMul]
  refine Tri.step sized ?_
  simp (decide := true) only [bne_self_eq_false, hpK, hz1000, hz1001, programC, programV, programW, effectC, marks_length, row1_length, rows_length, cI, cB, cS, roI, ro64, go_sem, Nat.reduceAdd, Nat.reduceMul]
  refine aCall_iod3 (markEffectS_sound L (1) (by omega) (by omega)) hp3 [(2000, 11)] ⟨rfl, rfl, rfl⟩ (fun uf => ⟨rfl, rfl⟩) (fun uf => ?_) ?_
  · simp (decide := true) only [bne_self_eq_false, hpK, hz1000, hz1001, programC, programV, programW, effectC, marks_length, row1_length, rows_length, cI, cB, cS, roI, ro64, go_sem, Nat.reduceAdd, Nat.reduceMul]
  simp (decide := true) only [bne_self_eq_false, hpK, hz1000, hz1001, programC, programV, programW, effectC, marks_length, row1_length, rows_length, cI, cB, cS, roI, ro64, go_sem, Nat.reduceAdd, Nat.reduceMul]
  have hTK : List.take L.length (rows (effectC false) (effectML 1 L)) = rows (effectC false) (effectML 1 L) := by
    have := rows_takeL (effectC false) (effectML 1 L)
    rwa [effectML_length] at this
  refine Tri.step sized ?_
  simp (decide := true) only [bne_self_eq_false, hpK, hz1000, hz1001, programC, programV, programW, effectC, marks_length, row1_length, rows_length, cI, cB, cS, roI, ro64, go_sem, Nat.reduceAdd, Nat.reduceMul]
  refine Tri.step sized ?_
  simp (decide := true) only [bne_self_eq_false, hpK, hz1000, hz1001, programC, programV, programW, effectC, marks_length, row1_length, rows_length, cI, cB, cS, roI, ro64, go_sem, Nat.reduceAdd, Nat.reduceMul]
  refine aCall_det3 (heldEffectS_sound L 1 (by omega) (by omega)) hp3 ?_
  simp (decide := true) only [bne_self_eq_false, hTK, hpK, hz1000, hz1001, programC, programV, programW, effectC, marks_length, row1_length, rows_length, cI, cB, cS, roI, ro64, go_sem, Nat.reduceAdd, Nat.reduceMul]
  have hq1 : ((1 + (sumN effectN L : Nat) : Int) < 0) = False := by simp; omega
  refine Tri.step sized ?_
  simp (decide := true) only [bne_self_eq_false, hq1, hpK, hz1000, hz1001, programC, programV, programW, effectC, marks_length, row1_length, rows_length, cI, cB, cS, roI, ro64, go_sem, Nat.reduceAdd, Nat.reduceMul]
  refine Tri.step sized ?_
  simp (decide := true) only [bne_self_eq_false, hpK, hz1000, hz1001, programC, programV, programW, effectC, marks_length, row1_length, rows_length, cI, cB, cS, roI, ro64, go_sem, Nat.reduceAdd, Nat.reduceMul]
  refine Tri.step sized ?_
  simp (decide := true) only [bne_self_eq_false, hpK, hz1000, hz1001, programC, programV, programW, effectC, marks_length, row1_length, rows_length, cI, cB, cS, roI, ro64, go_sem, Nat.reduceAdd, Nat.reduceMul]
  refine aCall_det3 (toProgram_sound p hcp) hp3 ?_
  simp (decide := true) only [bne_self_eq_false, hpK, hz1000, hz1001, programC, programV, programW, effectC, marks_length, row1_length, rows_length, cI, cB, cS, roI, ro64, go_sem, Nat.reduceAdd, Nat.reduceMul]
  refine aCall_det3 (toI_sound R hR) hp3 ?_
  simp (decide := true) only [bne_self_eq_false, hpK, hz1000, hz1001, programC, programV, programW, effectC, marks_length, row1_length, rows_length, cI, cB, cS, roI, ro64, go_sem, Nat.reduceAdd, Nat.reduceMul]
  refine aCall_det3 hsI hp3 ?_
  simp (decide := true) only [bne_self_eq_false, hpK, hz1000, hz1001, programC, programV, programW, effectC, marks_length, row1_length, rows_length, cI, cB, cS, roI, ro64, go_sem, Nat.reduceAdd, Nat.reduceMul]
  refine Tri.step sized ?_
  simp (decide := true) only [bne_self_eq_false, hpK, hz1000, hz1001, programC, programV, programW, effectC, marks_length, row1_length, rows_length, cI, cB, cS, roI, ro64, go_sem, Nat.reduceAdd, Nat.reduceMul]
  refine aCall_det3 (eqEffectS_sound L hcost) hp3 ?_
  simp (decide := true) only [bne_self_eq_false, hpK, hz1000, hz1001, programC, programV, programW, effectC, marks_length, row1_length, rows_length, cI, cB, cS, roI, ro64, go_sem, Nat.reduceAdd, Nat.reduceMul]
  refine Tri.step sized ?_
  simp (decide := true) only [bne_self_eq_false, hpK, hz1000, hz1001, programC, programV, programW, effectC, marks_length, row1_length, rows_length, cI, cB, cS, roI, ro64, go_sem, Nat.reduceAdd, Nat.reduceMul]
  refine Tri.step sized ?_
  simp (decide := true) only [bne_self_eq_false, hpK, hz1000, hz1001, programC, programV, programW, effectC, marks_length, row1_length, rows_length, cI, cB, cS, roI, ro64, go_sem, Nat.reduceAdd, Nat.reduceMul]
  refine aCall_det3 (heldEffectS_sound L 1 (by omega) (by omega)) hp3 ?_
  simp (decide := true) only [bne_self_eq_false, hTK, hpK, hz1000, hz1001, programC, programV, programW, effectC, marks_length, row1_length, rows_length, cI, cB, cS, roI, ro64, go_sem, Nat.reduceAdd, Nat.reduceMul]
  refine Tri.step sized ?_
  simp (decide := true) only [bne_self_eq_false, hq1, hpK, hz1000, hz1001, programC, programV, programW, effectC, marks_length, row1_length, rows_length, cI, cB, cS, roI, ro64, go_sem, Nat.reduceAdd, Nat.reduceMul]
  refine code_sound sized _ ?_
  simp (decide := true) only [bne_self_eq_false, hpK, hz1000, hz1001, programC, programV, programW, effectC, marks_length, row1_length, rows_length, cI, cB, cS, roI, ro64, go_sem, Nat.reduceAdd, Nat.reduceMul]
end Go.Proofs.YtnbodmohnkohfaaGreatDoor.AW
