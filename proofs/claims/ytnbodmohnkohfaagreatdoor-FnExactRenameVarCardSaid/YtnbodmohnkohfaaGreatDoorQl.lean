/- Whether types are right, as the reference tells it. No condition beyond those named. -/
import Derived.Test.YtnbodmohnkohfaaGreatDoorQk
namespace Go.Proofs.YtnbodmohnkohfaaGreatDoor.AW
open Go.RowKit
set_option maxHeartbeats 8000000
set_option maxRecDepth 100000
set_option linter.unusedSimpArgs false
set_option linter.unusedVariables false

theorem typesRightS_sound (p : ProgramD) (hf : p.fns.length ≤ 1048576) (hn : p.nodes.length ≤ 1048576) (hk : ∀ x ∈ p.nodes, x.kids.length ≤ 1048576) (hpl : ∀ f ∈ p.fns, f.params.length ≤ 1048576) : Sound Tryz.prog 47 [.ro (programW p)] (fun rs st => rs = [(false, [cB (typesRightB p)])]) := by
  have hps := namesRightS_sound p hf hn hk hpl
  simp only [programW] at hps
  unfold typesRightB
  refine sound_tri (fn := Tryz.f47) (c := Tryz.f47.body.getD .skip) (res := [.tm 2]) (n := 53) sized (by kernel_rfl) (by rfl) (by kernel_rfl) (by rfl) (by rfl) (by simp [argsV]) (fun uf ub C hpin hpin2 hfull => ?_)
  simp only [Tryz.f47, Option.getD_some]
  refine Tri.step sized ?_
  simp (decide := true) only [drop0, row1_length, rows_length, programW, programC, cI, cB, cS, roI, ro64, hpin, go_sem, Nat.reduceAdd, Nat.reduceMul]
  refine Tri.ent ?_ (Ent.frb hfull 1)
  refine Tri.step sized ?_
  simp (decide := true) only [drop0, row1_length, rows_length, programW, programC, cI, cB, cS, roI, ro64, hpin, go_sem, Nat.reduceAdd, Nat.reduceMul]
  refine aCall_det hps hpin ?_
  cases h0 : namesRightB p with
  | false => simp (decide := true) only [Bool.false_and, drop0, row1_length, rows_length, programW, programC, cI, cB, cS, roI, ro64, hpin, go_sem, Nat.reduceAdd, Nat.reduceMul]
  | true =>
  have hG := programB_true (Bool.and_eq_true_iff.1 h0).1
  have hk3 : ∀ x ∈ p.nodes, x.kids.length ≤ 300 := fun x hx => by have := hG.deep.few x hx; omega
  simp (decide := true) only [Bool.true_and, drop0, row1_length, rows_length, programW, programC, cI, cB, cS, roI, ro64, hpin, go_sem, Nat.reduceAdd, Nat.reduceMul]
  refine Tri.step sized ?_
  simp (decide := true) only [drop0, row1_length, rows_length, programW, programC, cI, cB, cS, roI, ro64, hpin, go_sem, Nat.reduceAdd, Nat.reduceMul]
  refine Tri.loop (ι := Nat) (fun i => i ≤ p.fns.length ∧ rangeB (fnTypesB p) i = true) (fun i => ⟨53, [(1, .ip (programC true p) 0), (2, vB false), (3, vI i)], []⟩) (fun i => p.fns.length - i) 0 ⟨by simp, rfl⟩ ?_ ?_
  · refine Ent.weak ?_ ?_ ?_ ?_ <;> simp (decide := true) [subT, subB, hereT, hereV, hereL, St.get, look, vI, vB, vS, cI, cS, cB, nodeC, programC, roI]
  · rintro i ⟨hi, hq⟩
    refine code_sound sized _ ?_
    by_cases h' : i < p.fns.length
    · have e : ((i : Int) < (p.fns.length : Int)) = True := by simp [h']
      have hx : (rows (fnC true) p.fns).getD i [] = fnC true p.fns[i] := rows_get _ _ h'
      have hok := hG.fn i h'
      have hfe : fnTypesB p i = (typesB p i && (downB p (typesL p i) p.fns[i].body.toNat && (decide (p.fns[i].ret < 0) || typeB p (typesL p i) p.fns[i].ret == p.fns[i].res))) := by unfold fnTypesB; rw [fAt_nat h']
      obtain ⟨⟨b0, b1⟩, hret⟩ := fnOk_roots hok
      have hbk : (nAt p.nodes p.fns[i].body).kind == 20 := by
        simp only [fnOkB, Bool.and_eq_true, fnBodyB] at hok
        exact hok.2.2.2.2.1.2
      generalize p.fns[i] = g at hx hok hfe b0 b1 hret hbk
      have hts := varsTS_sound p hG.deep i hf hn hk3 hpl
      have hll := typesL_length p i hpl hn
      obtain ⟨b, hbb⟩ : ∃ b : Nat, g.body = b := ⟨g.body.toNat, by omega⟩
      have hbl : b < p.nodes.length := by omega
      rw [hbb] at hfe hbk
      rw [show (b : Int).toNat = b by omega] at hfe
      simp only [programW] at hts
      simp (decide := true) only [e, h', Int.natCast_nonneg, programC, vB, vI, drop0, row1_length, rows_length, programW, programC, cI, cB, cS, roI, ro64, hpin, go_sem, Nat.reduceAdd, Nat.reduceMul]
      cases hB : typesB p i with
      | false =>
        have hff : rangeB (fnTypesB p) p.fns.length = false := rangeB_false h' (by rw [hfe, hB]; rfl)
        rw [hB] at hts
        simp only [if_false, Bool.false_eq_true] at hts
        refine aCall_det hts hpin ?_
        simp (decide := true) only [e, hx, fnC, hbb, Int.natCast_nonneg, drop0, row1_length, rows_length, programW, programC, cI, cB, cS, roI, ro64, hpin, go_sem, Nat.reduceAdd, Nat.reduceMul]
        refine Tri.ent ?_ (Ent.frb hfull 6)
        simp (decide := true) only [drop0, row1_length, rows_length, programW, programC, cI, cB, cS, roI, ro64, hpin, go_sem, Nat.reduceAdd, Nat.reduceMul]
        refine Tri.sched sized [(0, false), (1, false), (2, false), (4, true), (5, true), (3, true), (6, false), (7, false), (8, false), (9, false), (10, false), (11, false), (12, false), (13, false), (14, false), (16, true), (17, true), (20, true), (15, true), (18, true), (21, true), (19, false), (22, false), (23, false), (24, false)] mixed (by kernel_rfl) (fun C2 hC2 => ?_)
        have hp2 : ∀ o, isPin o = false → C2.pin o = none := by rw [hC2]; exact hpin
        simp (decide := true) only [hff, drop0, row1_length, rows_length, programW, programC, cI, cB, cS, roI, ro64, hp2, hpin, go_sem, Nat.reduceAdd, Nat.reduceMul]
      | true =>
      rw [hB] at hts
      rw [hB, Bool.true_and] at hfe
      simp only [if_true] at hts
      refine aCall_det hts hpin ?_
      generalize typesL p i = l at hll hfe ⊢
      have hbs := (tlook_all p hG.deep l (by omega) hf hn hk3 b hbl).2 hbk
      have htk := rows_takeL (varC false) l
      have htk2 := rows_takeL (varC true) l
      simp only [programW] at hbs
      simp (decide := true) only [e, hx, fnC, hbb, Int.natCast_nonneg, drop0, row1_length, rows_length, programW, programC, cI, cB, cS, roI, ro64, hpin, go_sem, Nat.reduceAdd, Nat.reduceMul]
      refine Tri.ent ?_ (Ent.frb hfull 6)
      refine Tri.ent ?_ (Ent.frz hfull 4)
      simp (decide := true) only [drop0, row1_length, rows_length, programW, programC, cI, cB, cS, roI, ro64, hpin, go_sem, Nat.reduceAdd, Nat.reduceMul]
      refine Tri.sched sized [(0, false), (1, false), (2, false), (4, true), (5, true), (3, true), (6, false), (7, false), (8, false), (9, false), (10, false), (11, false), (12, false), (13, false), (14, false), (16, true), (17, true), (20, true), (15, true), (18, true), (21, true), (19, false), (22, false), (23, false), (24, false)] mixed (by kernel_rfl) (fun C2 hC2 => ?_)
      have hp2 : ∀ o, isPin o = false → C2.pin o = none := by rw [hC2]; exact hpin
      simp (decide := true) only [hbb, drop0, row1_length, rows_length, programW, programC, cI, cB, cS, roI, ro64, hp2, go_sem, Nat.reduceAdd, Nat.reduceMul]
      refine aCall_det hbs hp2 ?_
      cases hc : downB p l b with
      | false =>
        rw [hc, Bool.false_and] at hfe
        have hff : rangeB (fnTypesB p) p.fns.length = false := rangeB_false h' hfe
        simp (decide := true) only [hff, drop0, row1_length, rows_length, programW, programC, cI, cB, cS, roI, ro64, hp2, hpin, go_sem, Nat.reduceAdd, Nat.reduceMul]
      | true =>
      rw [hc, Bool.true_and] at hfe
      rcases hret with hneg | ⟨x0, x1⟩
      · have y0 : (0 ≤ g.ret) = False := eq_false (by omega)
        have y1 : decide (g.ret < 0) = true := decide_eq_true hneg
        rw [y1, Bool.true_or] at hfe
        simp (decide := true) only [y0, ge_iff_le, drop0, row1_length, rows_length, programW, programC, cI, cB, cS, roI, ro64, hp2, hpin, go_sem, Nat.reduceAdd, Nat.reduceMul]
        refine ⟨i + 1, ⟨h', by rw [rangeB_succ, hq, hfe]; rfl⟩, by omega, Ent.weak ?_ ?_ ?_ ?_⟩
        all_goals simp (decide := true) [subT, subB, hereT, hereV, hereL, St.get, look, vI, vB, vS, cI, cS, cB, nodeC, programC, roI, w64s (n := p.fns.length) h' (by omega)]
      · have y0 : (0 ≤ g.ret) = True := eq_true x0
        have y1 : decide (g.ret < 0) = false := decide_eq_false (by omega)
        rw [y1, Bool.false_or] at hfe
        obtain ⟨r, hrr⟩ : ∃ r : Nat, g.ret = r := ⟨g.ret.toNat, by omega⟩
        have hrl : r < p.nodes.length := by omega
        have hty := typeS_sound p hG.deep l (by omega) hf hn hk3 r hrl
        rw [hrr] at hfe
        simp only [programW] at hty
        simp (decide := true) only [y0, hrr, ge_iff_le, Int.natCast_nonneg, drop0, row1_length, rows_length, programW, programC, cI, cB, cS, roI, ro64, hp2, go_sem, Nat.reduceAdd, Nat.reduceMul]
        refine aCall_det hty hp2 ?_
        cases g2 : typeB p l r == g.res with
        | false =>
          rw [g2] at hfe
          have hff : rangeB (fnTypesB p) p.fns.length = false := rangeB_false h' hfe
          simp (decide := true) only [g2, hff, bne, drop0, row1_length, rows_length, programW, programC, cI, cB, cS, roI, ro64, hp2, hpin, go_sem, Nat.reduceAdd, Nat.reduceMul]
        | true =>
          rw [g2] at hfe
          simp (decide := true) only [g2, bne, drop0, row1_length, rows_length, programW, programC, cI, cB, cS, roI, ro64, hp2, hpin, go_sem, Nat.reduceAdd, Nat.reduceMul]
          refine ⟨i + 1, ⟨h', by rw [rangeB_succ, hq, hfe]; rfl⟩, by omega, Ent.weak ?_ ?_ ?_ ?_⟩
          all_goals simp (decide := true) [subT, subB, hereT, hereV, hereL, St.get, look, vI, vB, vS, cI, cS, cB, nodeC, programC, roI, w64s (n := p.fns.length) h' (by omega)]
    · have hil : i = p.fns.length := by omega
      subst hil
      have e : ((p.fns.length : Int) < (p.fns.length : Int)) = False := by simp
      simp (decide := true) only [e, vB, vI, drop0, row1_length, rows_length, programW, programC, cI, cB, cS, roI, ro64, hpin, go_sem, Nat.reduceAdd, Nat.reduceMul]
      refine code_sound sized _ ?_
      simp (decide := true) only [hq, drop0, row1_length, rows_length, programW, programC, cI, cB, cS, roI, ro64, hpin, go_sem, Nat.reduceAdd, Nat.reduceMul]
end Go.Proofs.YtnbodmohnkohfaaGreatDoor.AW
