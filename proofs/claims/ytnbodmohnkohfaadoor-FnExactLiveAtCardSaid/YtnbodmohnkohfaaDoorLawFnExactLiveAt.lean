/- The statement FnExactLiveAt: what its code does. No condition beyond those named. -/
import Derived.Test.YtnbodmohnkohfaaDoorLf
namespace Go.Proofs.YtnbodmohnkohfaaDoor.AW
open Go.RowKit
set_option maxHeartbeats 8000000
set_option maxRecDepth 100000
set_option linter.unusedSimpArgs false
set_option linter.unusedVariables false

theorem code_marksL : ∀ l : List InsD, sumN insN l ≤ 6 * l.length + sumN insCost l
  | [] => by simp [sumN]
  | x :: r => by
    have := code_marksL r
    simp only [sumN, List.map_cons, List.sum_cons, List.length_cons] at this ⊢
    have e : insN x ≤ 6 + insCost x := by unfold insN insCost; omega
    omega
theorem code_argsL {c : CodeD} (h : codeCost c ≤ 1048576) : ∀ y ∈ c.words, y.args.length ≤ 1048576 := by
  intro y hy
  obtain ⟨i, hi, rfl⟩ := List.getElem_of_mem hy
  have h1 := sumN_mem insCost hi
  unfold codeCost at h
  unfold insCost at h1
  have h2 : sumN (fun x : InsD => x.name.size + x.args.length) c.words = sumN insCost c.words := rfl
  omega
theorem sum_const {α : Type} {f : α → Nat} {k : Nat} : ∀ {l : List α}, (∀ x ∈ l, f x = k) → sumN f l = l.length * k
  | [], _ => by simp [sumN]
  | x :: r, h => by
    have h1 := sum_const (f := f) (l := r) (fun y hy => h y (List.mem_cons_of_mem _ hy))
    have h2 := h x List.mem_cons_self
    simp only [sumN, List.map_cons, List.sum_cons, List.length_cons] at h1 ⊢
    rw [h1, h2, Nat.add_mul]; omega
theorem liveL_cost (c : CodeD) (k1 : c.locals.length ≤ 1048576) (k2 : c.words.length ≤ 1048576) (k3 : ∀ y ∈ c.words, y.args.length ≤ 1048576) : (liveL c).length + sumN List.length (liveL c) ≤ 1048576 := by
  unfold liveL
  split
  · rename_i h
    obtain ⟨s1, s2, s3, _⟩ := code_small h
    rw [sum_const (k := c.locals.length) (fun r hr => by
      unfold tabF at hr
      obtain ⟨i, _, rfl⟩ := List.mem_map.1 hr
      exact rowF_length _ _), tabF_length]
    have : c.words.length * c.locals.length ≤ 400 * 200 := Nat.mul_le_mul s3 s1
    omega
  · simp [sumN]

theorem law_sound (c : CodeD) (hsc : codeSmall c) : Sound Tryd.prog 3 [.ro (codeV c)] (fun rs st => rs = [(false, [cB true])]) := by
  refine sound_tri (fn := Tryd.f3) (c := Tryd.f3.body.getD .skip) (res := [.tm 2]) (n := 69) sized (by kernel_rfl) (by rfl) (by kernel_rfl) (by rfl) (by rfl) (by simp [argsV]) (fun uf ub C hpin hpin2 hfull => ?_)
  simp only [Tryd.f3, Option.getD_some]
  refine Tri.step sized ?_
  simp (decide := true) only [bne_self_eq_false, codeC, codeV, codeW, tabC, marks_length, row1_length, rows_length, cI, cB, cS, roI, ro64, hpin, go_sem, Nat.reduceAdd, Nat.reduceMul]
  refine Tri.ent ?_ (Ent.frb hfull 1)
  refine Tri.step sized ?_
  simp (decide := true) only [bne_self_eq_false, codeC, codeV, codeW, tabC, marks_length, row1_length, rows_length, cI, cB, cS, roI, ro64, hpin, go_sem, Nat.reduceAdd, Nat.reduceMul]
  refine Tri.step sized ?_
  simp (decide := true) only [codeC, codeV, codeW, tabC, marks_length, row1_length, rows_length, cI, cB, cS, roI, ro64, hpin, go_sem, Nat.reduceAdd, Nat.reduceMul]
  refine aCall_det (szCode_sound c (1048576) (by decide) (by decide) hsc) hpin ?_
  by_cases h0_ : (1048576 : Int) - ((codeCost c : Nat) : Int) < 0
  · rw [sub_neg h0_]
    simp (decide := true) only [bne_self_eq_false, codeC, codeV, codeW, tabC, marks_length, row1_length, rows_length, cI, cB, cS, roI, ro64, hpin, go_sem, Nat.reduceAdd, Nat.reduceMul]
    refine code_sound sized _ ?_
    simp (decide := true) only [codeC, codeV, codeW, tabC, marks_length, row1_length, rows_length, cI, cB, cS, roI, ro64, hpin, go_sem, Nat.reduceAdd, Nat.reduceMul]
  rw [sub_pos h0_]
  have n0_ : ((1048576 : Int) - ((codeCost c : Nat) : Int) < 0) = False := by simpa using h0_
  simp (decide := true) only [n0_, codeC, codeV, codeW, tabC, marks_length, row1_length, rows_length, cI, cB, cS, roI, ro64, hpin, go_sem, Nat.reduceAdd, Nat.reduceMul]
  refine Tri.step sized ?_
  simp (decide := true) only [n0_, codeC, codeV, codeW, tabC, marks_length, row1_length, rows_length, cI, cB, cS, roI, ro64, hpin, go_sem, Nat.reduceAdd, Nat.reduceMul]
  have hcc : codeCost c ≤ 1048576 := by omega
  have k1 : c.locals.length ≤ 1048576 := by unfold codeCost at hcc; omega
  have k2 : c.words.length ≤ 1048576 := by unfold codeCost at hcc; omega
  have k3 := code_argsL hcc
  have hN1 := code_marksL c.words
  have hN2 : sumN insCost c.words ≤ 1048576 := by unfold codeCost at hcc; omega
  have hcost := liveL_cost c k1 k2 k3
  have hsS := liveS_sound c k1 k2 k3
  have hsI := liveI_sound c k1 k2 k3
  generalize liveL c = T at hcost hsS hsI
  refine Tri.step sized ?_
  simp (decide := true) only [bne_self_eq_false, hpin, codeC, codeV, codeW, tabC, marks_length, row1_length, rows_length, cI, cB, cS, roI, ro64, go_sem, Nat.reduceAdd, Nat.reduceMul]
  refine aCall_det (toCode_sound c hcc) hpin ?_
  simp (decide := true) only [bne_self_eq_false, hpin, codeC, codeV, codeW, tabC, marks_length, row1_length, rows_length, cI, cB, cS, roI, ro64, go_sem, Nat.reduceAdd, Nat.reduceMul]
  refine aCall_det (hsS) hpin ?_
  simp (decide := true) only [bne_self_eq_false, hpin, codeC, codeV, codeW, tabC, marks_length, row1_length, rows_length, cI, cB, cS, roI, ro64, go_sem, Nat.reduceAdd, Nat.reduceMul]
  refine Tri.step sized ?_
  simp (decide := true) only [bne_self_eq_false, hpin, codeC, codeV, codeW, tabC, marks_length, row1_length, rows_length, cI, cB, cS, roI, ro64, go_sem, Nat.reduceAdd, Nat.reduceMul]
  refine aCall_det (toCode_sound c hcc) hpin ?_
  simp (decide := true) only [bne_self_eq_false, hpin, codeC, codeV, codeW, tabC, marks_length, row1_length, rows_length, cI, cB, cS, roI, ro64, go_sem, Nat.reduceAdd, Nat.reduceMul]
  refine Tri.outN [] (x := .box [cS c.name, cI c.params, .row false 3 (row1 cI (c.locals)), .row false 45 (rows (insC false) (c.words))]) (e := 3) (es := row1 cI (c.locals)) 5 [(0, 2)] 1000 (by rfl) (by rfl) (by simp) (by rfl) (by rfl) (by decide) (pinK0 hpin) (pin3 hpin) hfull (fun z1000 C1000 hz1000 ho1000 hpK1000 hp31000 hfull1000 => ?_)
  have hpK := hpK1000
  have hp3 := hp31000
  have hfullK := hfull1000
  refine Tri.outN [1000] (x := .box [cS c.name, cI c.params, .sc z1000, .row false 45 (rows (insC false) (c.words))]) (e := 45) (es := rows (insC false) (c.words)) 5 [(0, 3)] 1001 (by rfl) (by rfl) (by simp) (by rfl) (by rfl) (by decide) hpK hp3 hfullK (fun z1001 C1001 hz1001 ho1001 hpK1001 hp31001 hfull1001 => ?_)
  have hz1000 : C1001.pin 1000 = some (z1000, 0, 0) := (ho1001 1000 (by decide)).trans hz1000
  have hpK := hpK1001
  have hp3 := hp31001
  have hfullK := hfull1001
  refine Tri.ent ?_ (Ent.frb hfullK 5)
  refine Tri.step sized ?_
  simp (decide := true) only [bne_self_eq_false, hpK, hz1000, hz1001, codeC, codeV, codeW, tabC, marks_length, row1_length, rows_length, cI, cB, cS, roI, ro64, go_sem, Nat.reduceAdd, Nat.reduceMul]
  refine aCall_det3 (hsI) hp3 ?_
  simp (decide := true) only [bne_self_eq_false, hpK, hz1000, hz1001, codeC, codeV, codeW, tabC, marks_length, row1_length, rows_length, cI, cB, cS, roI, ro64, go_sem, Nat.reduceAdd, Nat.reduceMul]
  refine Tri.step sized ?_
  simp (decide := true) only [bne_self_eq_false, hpK, hz1000, hz1001, codeC, codeV, codeW, tabC, marks_length, row1_length, rows_length, cI, cB, cS, roI, ro64, go_sem, Nat.reduceAdd, Nat.reduceMul]
  refine aCall_det3 (eqT_sound T hcost) hp3 ?_
  simp (decide := true) only [bne_self_eq_false, hpK, hz1000, hz1001, codeC, codeV, codeW, tabC, marks_length, row1_length, rows_length, cI, cB, cS, roI, ro64, go_sem, Nat.reduceAdd, Nat.reduceMul]
  refine Tri.step sized ?_
  simp (decide := true) only [bne_self_eq_false, hpK, hz1000, hz1001, codeC, codeV, codeW, tabC, marks_length, row1_length, rows_length, cI, cB, cS, roI, ro64, go_sem, Nat.reduceAdd, Nat.reduceMul]
  refine Tri.sched sized [(0, true), (1, true), (2, false), (3, false), (4, false)] mixed (by kernel_rfl) (fun CX hCX => ?_)
  have hpX : ∀ o, isPinK [1001, 1000] o = false → CX.pin o = none := by rw [hCX]; exact hpK
  have hpX3 : ∀ n, 3000 ≤ n → CX.pin n = none := by rw [hCX]; exact hp3
  have hzX1000 : CX.pin 1000 = some (z1000, 0, 0) := by rw [hCX]; exact hz1000
  have hzX1001 : CX.pin 1001 = some (z1001, 0, 0) := by rw [hCX]; exact hz1001
  simp (decide := true) only [bne_self_eq_false, hpX, hzX1000, hzX1001, codeC, codeV, codeW, tabC, marks_length, row1_length, rows_length, cI, cB, cS, roI, ro64, go_sem, Nat.reduceAdd, Nat.reduceMul]
  refine aCall_det3 (toCode_sound c hcc) hpX3 ?_
  simp (decide := true) only [bne_self_eq_false, hpX, hzX1000, hzX1001, codeC, codeV, codeW, tabC, marks_length, row1_length, rows_length, cI, cB, cS, roI, ro64, go_sem, Nat.reduceAdd, Nat.reduceMul]
  refine aCall_det3 (eqCode_sound c hcc) hpX3 ?_
  simp (decide := true) only [bne_self_eq_false, hpX, hzX1000, hzX1001, codeC, codeV, codeW, tabC, marks_length, row1_length, rows_length, cI, cB, cS, roI, ro64, go_sem, Nat.reduceAdd, Nat.reduceMul]
  refine Tri.step sized ?_
  simp (decide := true) only [bne_self_eq_false, hpK, hz1000, hz1001, codeC, codeV, codeW, tabC, marks_length, row1_length, rows_length, cI, cB, cS, roI, ro64, go_sem, Nat.reduceAdd, Nat.reduceMul]
  refine Tri.step sized ?_
  simp (decide := true) only [bne_self_eq_false, hpK, hz1000, hz1001, codeC, codeV, codeW, tabC, marks_length, row1_length, rows_length, cI, cB, cS, roI, ro64, go_sem, Nat.reduceAdd, Nat.reduceMul]
  refine aCall_iod3 (markCode_sound c (1) (by omega) (by omega)) hp3 [(2000, 1000), (2001, 1001)] ⟨rfl, rfl, rfl⟩ (fun uf => ⟨rfl, rfl⟩) (fun uf => ?_) ?_
  · simp (decide := true) only [bne_self_eq_false, hpK, hz1000, hz1001, codeC, codeV, codeW, tabC, marks_length, row1_length, rows_length, cI, cB, cS, roI, ro64, go_sem, Nat.reduceAdd, Nat.reduceMul]
  simp (decide := true) only [bne_self_eq_false, hpK, hz1000, hz1001, codeC, codeV, codeW, tabC, marks_length, row1_length, rows_length, cI, cB, cS, roI, ro64, go_sem, Nat.reduceAdd, Nat.reduceMul]
  have hk0 : ((1 + c.locals.length + (sumN insN c.words : Nat) : Int) < 0) = False := by simp; omega
  refine Tri.step sized ?_
  simp (decide := true) only [bne_self_eq_false, hk0, hpK, hz1000, hz1001, codeC, codeV, codeW, tabC, marks_length, row1_length, rows_length, cI, cB, cS, roI, ro64, go_sem, Nat.reduceAdd, Nat.reduceMul]
  refine aCall_det3 (eqT_sound T hcost) hp3 ?_
  simp (decide := true) only [bne_self_eq_false, hpK, hz1000, hz1001, codeC, codeV, codeW, tabC, marks_length, row1_length, rows_length, cI, cB, cS, roI, ro64, go_sem, Nat.reduceAdd, Nat.reduceMul]
  refine Tri.step sized ?_
  simp (decide := true) only [bne_self_eq_false, hpK, hz1000, hz1001, codeC, codeV, codeW, tabC, marks_length, row1_length, rows_length, cI, cB, cS, roI, ro64, go_sem, Nat.reduceAdd, Nat.reduceMul]
  refine Tri.step sized ?_
  simp (decide := true) only [bne_self_eq_false, hpK, hz1000, hz1001, codeC, codeV, codeW, tabC, marks_length, row1_length, rows_length, cI, cB, cS, roI, ro64, go_sem, Nat.reduceAdd, Nat.reduceMul]
  refine aCall_iod3 (markT_sound T (1) (by omega) (by omega) (by omega)) hp3 [(2000, 6)] ⟨rfl, rfl, rfl⟩ (fun uf => ⟨rfl, rfl⟩) (fun uf => ?_) ?_
  · simp (decide := true) only [bne_self_eq_false, hpK, hz1000, hz1001, codeC, codeV, codeW, tabC, marks_length, row1_length, rows_length, cI, cB, cS, roI, ro64, go_sem, Nat.reduceAdd, Nat.reduceMul]
  simp (decide := true) only [bne_self_eq_false, hpK, hz1000, hz1001, codeC, codeV, codeW, tabC, marks_length, row1_length, rows_length, cI, cB, cS, roI, ro64, go_sem, Nat.reduceAdd, Nat.reduceMul]
  have hTK : List.take T.length (rows (tabC false) (tabM 1 T)) = rows (tabC false) (tabM 1 T) := by
    have := rows_takeL (tabC false) (tabM 1 T)
    rwa [tabM_length] at this
  refine Tri.step sized ?_
  simp (decide := true) only [bne_self_eq_false, hpK, hz1000, hz1001, codeC, codeV, codeW, tabC, marks_length, row1_length, rows_length, cI, cB, cS, roI, ro64, go_sem, Nat.reduceAdd, Nat.reduceMul]
  refine Tri.step sized ?_
  simp (decide := true) only [bne_self_eq_false, hpK, hz1000, hz1001, codeC, codeV, codeW, tabC, marks_length, row1_length, rows_length, cI, cB, cS, roI, ro64, go_sem, Nat.reduceAdd, Nat.reduceMul]
  refine aCall_det3 (heldT_sound T 1 (by omega) hcost (by omega)) hp3 ?_
  simp (decide := true) only [bne_self_eq_false, hTK, hpK, hz1000, hz1001, codeC, codeV, codeW, tabC, marks_length, row1_length, rows_length, cI, cB, cS, roI, ro64, go_sem, Nat.reduceAdd, Nat.reduceMul]
  have hq0 : ((1 + (sumN List.length T : Nat) : Int) < 0) = False := by simp; omega
  refine Tri.step sized ?_
  simp (decide := true) only [bne_self_eq_false, hq0, hpK, hz1000, hz1001, codeC, codeV, codeW, tabC, marks_length, row1_length, rows_length, cI, cB, cS, roI, ro64, go_sem, Nat.reduceAdd, Nat.reduceMul]
  refine Tri.step sized ?_
  simp (decide := true) only [bne_self_eq_false, hpK, hz1000, hz1001, codeC, codeV, codeW, tabC, marks_length, row1_length, rows_length, cI, cB, cS, roI, ro64, go_sem, Nat.reduceAdd, Nat.reduceMul]
  refine Tri.step sized ?_
  simp (decide := true) only [bne_self_eq_false, hpK, hz1000, hz1001, codeC, codeV, codeW, tabC, marks_length, row1_length, rows_length, cI, cB, cS, roI, ro64, go_sem, Nat.reduceAdd, Nat.reduceMul]
  refine aCall_det3 (toCode_sound c hcc) hp3 ?_
  simp (decide := true) only [bne_self_eq_false, hpK, hz1000, hz1001, codeC, codeV, codeW, tabC, marks_length, row1_length, rows_length, cI, cB, cS, roI, ro64, go_sem, Nat.reduceAdd, Nat.reduceMul]
  refine aCall_det3 (hsI) hp3 ?_
  simp (decide := true) only [bne_self_eq_false, hpK, hz1000, hz1001, codeC, codeV, codeW, tabC, marks_length, row1_length, rows_length, cI, cB, cS, roI, ro64, go_sem, Nat.reduceAdd, Nat.reduceMul]
  refine Tri.step sized ?_
  simp (decide := true) only [bne_self_eq_false, hpK, hz1000, hz1001, codeC, codeV, codeW, tabC, marks_length, row1_length, rows_length, cI, cB, cS, roI, ro64, go_sem, Nat.reduceAdd, Nat.reduceMul]
  refine aCall_det3 (eqT_sound T hcost) hp3 ?_
  simp (decide := true) only [bne_self_eq_false, hpK, hz1000, hz1001, codeC, codeV, codeW, tabC, marks_length, row1_length, rows_length, cI, cB, cS, roI, ro64, go_sem, Nat.reduceAdd, Nat.reduceMul]
  refine Tri.step sized ?_
  simp (decide := true) only [bne_self_eq_false, hpK, hz1000, hz1001, codeC, codeV, codeW, tabC, marks_length, row1_length, rows_length, cI, cB, cS, roI, ro64, go_sem, Nat.reduceAdd, Nat.reduceMul]
  refine Tri.step sized ?_
  simp (decide := true) only [bne_self_eq_false, hpK, hz1000, hz1001, codeC, codeV, codeW, tabC, marks_length, row1_length, rows_length, cI, cB, cS, roI, ro64, go_sem, Nat.reduceAdd, Nat.reduceMul]
  refine aCall_det3 (heldT_sound T 1 (by omega) hcost (by omega)) hp3 ?_
  simp (decide := true) only [bne_self_eq_false, hTK, hpK, hz1000, hz1001, codeC, codeV, codeW, tabC, marks_length, row1_length, rows_length, cI, cB, cS, roI, ro64, go_sem, Nat.reduceAdd, Nat.reduceMul]
  refine Tri.step sized ?_
  simp (decide := true) only [bne_self_eq_false, hq0, hpK, hz1000, hz1001, codeC, codeV, codeW, tabC, marks_length, row1_length, rows_length, cI, cB, cS, roI, ro64, go_sem, Nat.reduceAdd, Nat.reduceMul]
  refine code_sound sized _ ?_
  simp (decide := true) only [bne_self_eq_false, hpK, hz1000, hz1001, codeC, codeV, codeW, tabC, marks_length, row1_length, rows_length, cI, cB, cS, roI, ro64, go_sem, Nat.reduceAdd, Nat.reduceMul]
end Go.Proofs.YtnbodmohnkohfaaDoor.AW
