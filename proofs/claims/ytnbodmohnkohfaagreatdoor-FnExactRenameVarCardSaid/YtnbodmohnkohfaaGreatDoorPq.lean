/- Whether a function is right, both sides. No condition beyond those named. -/
import Derived.Test.YtnbodmohnkohfaaGreatDoorPo
namespace Go.Proofs.YtnbodmohnkohfaaGreatDoor.AW
open Go.RowKit
set_option maxHeartbeats 8000000
set_option maxRecDepth 100000
set_option linter.unusedSimpArgs false
set_option linter.unusedVariables false

def paramB (x : ParamD) : Bool := nameB x.name && inI x.ty 1 4
def fnBodyB (p : ProgramD) (f : FnD) : Bool := inI f.body 0 (p.nodes.length - 1) && (nAt p.nodes f.body).kind == 20
def fnRetB (p : ProgramD) (f : FnD) : Bool := if f.res == 0 then f.ret == -1 else (inI f.ret 0 (p.nodes.length - 1) && isValB (nAt p.nodes f.ret).kind)
def fnOkB (p : ProgramD) (f : FnD) : Bool := nameB f.name && (decide ((f.params.length : Int) ≤ 3) && (inI f.res 0 2 && (f.params.all paramB && (fnBodyB p f && fnRetB p f))))
theorem res_three (n : Int) : (bne n 0 && (bne n 1 && bne n 2)) = !inI n 0 2 := by
  simp only [inI, bne]
  by_cases h0 : n = 0
  · subst h0; rfl
  · by_cases h1 : n = 1
    · subst h1; rfl
    · by_cases h2 : n = 2
      · subst h2; rfl
      · have e0 : (n == 0) = false := by simpa using h0
        have e1 : (n == 1) = false := by simpa using h1
        have e2 : (n == 2) = false := by simpa using h2
        rw [e0, e1, e2]
        simp
        omega
theorem all_false {α : Type} {f : α → Bool} {l : List α} {i : Nat} (h : i < l.length) (hf : f l[i] = false) : l.all f = false := by
  rw [List.all_eq_false]; exact ⟨l[i], List.getElem_mem h, by simp [hf]⟩
theorem all_next {α : Type} {f : α → Bool} {l : List α} {i : Nat} (h : i < l.length) (hq : (l.take i).all f = true) (hf : f l[i] = true) : (l.take (i + 1)).all f = true := by
  rw [List.take_succ_eq_append_getElem h, List.all_append, hq]; simp [hf]

theorem rows_any (nodes : List NodeD) (j : Nat) : (∃ x, (rows (nodeC true) nodes).getD j [] = nodeC true x) ∨ (rows (nodeC true) nodes).getD j [] = [] := by
  by_cases h : j < nodes.length
  · exact Or.inl ⟨nodes[j], rows_get _ _ h⟩
  · right
    simp [List.getD, List.getElem?_eq_none (show (rows (nodeC true) nodes).length ≤ j by rw [rows_length]; omega)]

theorem fnOkI_sound (p : ProgramD) (f : FnD) (hn : p.nodes.length ≤ 1048576) (hpl : f.params.length ≤ 1048576) : Sound Tryz.prog 130 [.ro (programW p), .ro (fnW f)] (fun rs st => rs = [(false, [cB (fnOkB p f)])]) := by
  refine sound_tri (fn := Tryz.f130) (c := Tryz.f130.body.getD .skip) (res := [.tm 4]) (n := 91) sized (by kernel_rfl) (by rfl) (by kernel_rfl) (by rfl) (by rfl) (by simp [argsV]) (fun uf ub C hpin hpin2 hfull => ?_)
  simp only [Tryz.f130, Option.getD_some]
  have w1 : IntKind.i64.wrap ((p.nodes.length : Int) - 1) = (p.nodes.length : Int) - 1 := w64 (by omega) (by omega)
  refine Tri.step sized ?_
  simp (decide := true) only [programW, programC, fnW, drop0, row1_length, rows_length, programW, programC, fnW, fnC, cI, cB, cS, roI, ro64, hpin, go_sem, Nat.reduceAdd, Nat.reduceMul]
  refine Tri.ent ?_ (Ent.frb hfull 2)
  refine Tri.ent ?_ (Ent.frb hfull 3)
  unfold fnOkB
  cases h0 : nameB f.name with
  | false =>
    refine Tri.step sized ?_
    simp (decide := true) only [drop0, row1_length, rows_length, programW, programC, fnW, fnC, cI, cB, cS, roI, ro64, hpin, go_sem, Nat.reduceAdd, Nat.reduceMul]
    refine aCall_det (nameI_sound f.name) hpin ?_
    simp (decide := true) only [h0, Bool.false_and, drop0, row1_length, rows_length, programW, programC, fnW, fnC, cI, cB, cS, roI, ro64, hpin, go_sem, Nat.reduceAdd, Nat.reduceMul]
  | true =>
  by_cases h1 : (f.params.length : Int) ≤ 3
  case neg =>
    have c1 : ((3 : Int) < (f.params.length : Int)) = True := eq_true (by omega)
    have c2 : decide ((f.params.length : Int) ≤ 3) = false := decide_eq_false h1
    refine Tri.step sized ?_
    simp (decide := true) only [drop0, row1_length, rows_length, programW, programC, fnW, fnC, cI, cB, cS, roI, ro64, hpin, go_sem, Nat.reduceAdd, Nat.reduceMul]
    refine aCall_det (nameI_sound f.name) hpin ?_
    simp (decide := true) only [h0, c1, c2, gt_iff_lt, Bool.false_and, Bool.and_false, Bool.true_and, drop0, row1_length, rows_length, programW, programC, fnW, fnC, cI, cB, cS, roI, ro64, hpin, go_sem, Nat.reduceAdd, Nat.reduceMul]
  have c1 : ((3 : Int) < (f.params.length : Int)) = False := eq_false (by omega)
  have c2 : decide ((f.params.length : Int) ≤ 3) = true := decide_eq_true h1
  have h3 := res_three f.res
  cases h2 : inI f.res 0 2 with
  | false =>
    rw [h2] at h3
    have z0 : (f.res == 0) = false := by cases h : f.res == 0 with | false => rfl | true => simp [bne, h] at h3
    have z1 : (f.res == 1) = false := by cases h : f.res == 1 with | false => rfl | true => simp [bne, h] at h3
    have z2 : (f.res == 2) = false := by cases h : f.res == 2 with | false => rfl | true => simp [bne, h] at h3
    refine Tri.step sized ?_
    simp (decide := true) only [drop0, row1_length, rows_length, programW, programC, fnW, fnC, cI, cB, cS, roI, ro64, hpin, go_sem, Nat.reduceAdd, Nat.reduceMul]
    refine aCall_det (nameI_sound f.name) hpin ?_
    simp (decide := true) only [h0, c1, c2, z0, z1, z2, bne, gt_iff_lt, Bool.false_and, Bool.true_and, drop0, row1_length, rows_length, programW, programC, fnW, fnC, cI, cB, cS, roI, ro64, hpin, go_sem, Nat.reduceAdd, Nat.reduceMul]
  | true =>
  rw [h2] at h3
  refine Tri.stop sized ⟨91, [(2, .ip (programC true p) 0), (3, .ip (fnC true f) 0), (4, vB false)], []⟩ ?_ ?_
  · simp (decide := true) only [drop0, row1_length, rows_length, programW, programC, fnW, fnC, cI, cB, cS, roI, ro64, hpin, go_sem, Nat.reduceAdd, Nat.reduceMul]
    refine aCall_det (nameI_sound f.name) hpin ?_
    cases z0 : f.res == 0 with
    | true => simp (decide := true) only [h0, c1, c2, z0, bne, gt_iff_lt, Bool.false_and, Bool.true_and, drop0, row1_length, rows_length, programW, programC, fnW, fnC, cI, cB, cS, roI, ro64, hpin, go_sem, Nat.reduceAdd, Nat.reduceMul]; refine Ent.weak ?_ ?_ ?_ ?_ <;> simp (decide := true) [subT, subB, hereT, hereV, hereL, St.get, look, vI, vB, vS, cI, cS, cB, nodeC, roI, programC, fnC]
    | false =>
    cases z1 : f.res == 1 with
    | true => simp (decide := true) only [h0, c1, c2, z0, z1, bne, gt_iff_lt, Bool.false_and, Bool.true_and, drop0, row1_length, rows_length, programW, programC, fnW, fnC, cI, cB, cS, roI, ro64, hpin, go_sem, Nat.reduceAdd, Nat.reduceMul]; refine Ent.weak ?_ ?_ ?_ ?_ <;> simp (decide := true) [subT, subB, hereT, hereV, hereL, St.get, look, vI, vB, vS, cI, cS, cB, nodeC, roI, programC, fnC]
    | false =>
    have z2 : (f.res == 2) = true := by cases h : f.res == 2 with | true => rfl | false => simp [bne, z0, z1, h] at h3
    simp (decide := true) only [h0, c1, c2, z0, z1, z2, bne, gt_iff_lt, Bool.false_and, Bool.true_and, drop0, row1_length, rows_length, programW, programC, fnW, fnC, cI, cB, cS, roI, ro64, hpin, go_sem, Nat.reduceAdd, Nat.reduceMul]; refine Ent.weak ?_ ?_ ?_ ?_ <;> simp (decide := true) [subT, subB, hereT, hereV, hereL, St.get, look, vI, vB, vS, cI, cS, cB, nodeC, roI, programC, fnC]
  simp (decide := true) only [c2, Bool.true_and]
  refine Tri.step sized ?_
  simp (decide := true) only [programC, fnC, vB, vI, drop0, row1_length, rows_length, programW, programC, fnW, fnC, cI, cB, cS, roI, ro64, hpin, go_sem, Nat.reduceAdd, Nat.reduceMul]
  refine Tri.loop (ι := Nat) (fun i => i ≤ f.params.length ∧ (f.params.take i).all paramB = true) (fun i => ⟨91, [(2, .ip (programC true p) 0), (3, .ip (fnC true f) 0), (4, vB false), (33, .imm 86 (rows (paramC true) f.params)), (34, vI f.params.length), (35, vI i)], []⟩) (fun i => f.params.length - i) 0 ⟨by simp, by simp⟩ ?_ ?_
  · refine Ent.weak ?_ ?_ ?_ ?_ <;> simp (decide := true) [subT, subB, hereT, hereV, hereL, St.get, look, vI, vB, vS, cI, cS, cB, nodeC, roI, programC, fnC]
  · rintro i ⟨hi, hq⟩
    refine code_sound sized _ ?_
    by_cases h' : i < f.params.length
    · have e : ((i : Int) < (f.params.length : Int)) = True := by simp [h']
      simp (decide := true) only [e, h', rows_get _ _ h', paramC, Int.natCast_nonneg, vB, vI, drop0, row1_length, rows_length, programW, programC, fnW, fnC, cI, cB, cS, roI, ro64, hpin, go_sem, Nat.reduceAdd, Nat.reduceMul]
      refine aCall_det (nameI_sound f.params[i].name) hpin ?_
      cases g0 : nameB f.params[i].name with
      | false =>
        have hf := all_false (f := paramB) h' (by simp only [paramB, g0, Bool.false_and])
        simp (decide := true) only [hf, Bool.false_and, drop0, row1_length, rows_length, programW, programC, fnW, fnC, cI, cB, cS, roI, ro64, hpin, go_sem, Nat.reduceAdd, Nat.reduceMul]
      | true =>
      simp (decide := true) only [drop0, row1_length, rows_length, programW, programC, fnW, fnC, cI, cB, cS, roI, ro64, hpin, go_sem, Nat.reduceAdd, Nat.reduceMul]
      refine aCall_det (in' f.params[i].ty 1 4) hpin ?_
      cases g1 : inI f.params[i].ty 1 4 with
      | false =>
        have hf := all_false (f := paramB) h' (by simp only [paramB, g1, Bool.and_false])
        simp (decide := true) only [hf, Bool.false_and, drop0, row1_length, rows_length, programW, programC, fnW, fnC, cI, cB, cS, roI, ro64, hpin, go_sem, Nat.reduceAdd, Nat.reduceMul]
      | true =>
      have hnx := all_next (f := paramB) h' hq (by simp only [paramB, g0, g1]; rfl)
      simp (decide := true) only [drop0, row1_length, rows_length, programW, programC, fnW, fnC, cI, cB, cS, roI, ro64, hpin, go_sem, Nat.reduceAdd, Nat.reduceMul]
      refine ⟨i + 1, ⟨h', hnx⟩, by omega, Ent.weak ?_ ?_ ?_ ?_⟩
      all_goals simp (decide := true) [subT, subB, hereT, hereV, hereL, St.get, look, vI, vB, vS, cI, cS, cB, nodeC, roI, programC, fnC, w64s (n := f.params.length) h' (by omega)]
    · have hil : i = f.params.length := by omega
      subst hil
      have e : ((f.params.length : Int) < (f.params.length : Int)) = False := by simp
      rw [List.take_length] at hq
      rw [hq, Bool.true_and]
      simp (decide := true) only [e, vB, vI, drop0, row1_length, rows_length, programW, programC, fnW, fnC, cI, cB, cS, roI, ro64, hpin, go_sem, Nat.reduceAdd, Nat.reduceMul]
      refine Tri.step sized ?_
      simp (decide := true) only [w1, programC, fnC, drop0, row1_length, rows_length, programW, programC, fnW, fnC, cI, cB, cS, roI, ro64, hpin, go_sem, Nat.reduceAdd, Nat.reduceMul]
      refine aCall_det (in' f.body 0 (p.nodes.length - 1)) hpin ?_
      unfold fnBodyB
      cases g0 : inI f.body 0 (p.nodes.length - 1) with
      | false =>
        rcases rows_any p.nodes f.body.toNat with ⟨y, hy⟩ | hy
        · simp (decide := true) only [hy, nodeC, Bool.false_and, drop0, row1_length, rows_length, programW, programC, fnW, fnC, cI, cB, cS, roI, ro64, hpin, go_sem, Nat.reduceAdd, Nat.reduceMul]
        · simp (decide := true) only [hy, List.getElem?_nil, Option.map_none, Option.getD_none, Bool.false_and, drop0, row1_length, rows_length, programW, programC, fnW, fnC, cI, cB, cS, roI, ro64, hpin, go_sem, Nat.reduceAdd, Nat.reduceMul]
      | true =>
      have hr := inI_true g0
      have z0 : (0 ≤ f.body) = True := eq_true hr.1
      have hbl : f.body.toNat < p.nodes.length := by omega
      have z1 : (f.body < (p.nodes.length : Int)) = True := eq_true (by omega)
      rw [nAt_get hbl]
      simp (decide := true) only [z0, z1, rows_get _ _ hbl, nodeC, bne, programC, fnC, drop0, row1_length, rows_length, programW, programC, fnW, fnC, cI, cB, cS, roI, ro64, hpin, go_sem, Nat.reduceAdd, Nat.reduceMul]
      cases g1 : p.nodes[f.body.toNat].kind == 20 with
      | false => simp (decide := true) only [g1, Bool.and_false, Bool.false_and, drop0, row1_length, rows_length, programW, programC, fnW, fnC, cI, cB, cS, roI, ro64, hpin, go_sem, Nat.reduceAdd, Nat.reduceMul]
      | true =>
      simp (decide := true) only [g1, Bool.true_and, drop0, row1_length, rows_length, programW, programC, fnW, fnC, cI, cB, cS, roI, ro64, hpin, go_sem, Nat.reduceAdd, Nat.reduceMul]
      refine Tri.step sized ?_
      unfold fnRetB
      cases g2 : f.res == 0 with
      | true =>
        simp (decide := true) only [g2, if_true, programC, fnC, drop0, row1_length, rows_length, programW, programC, fnW, fnC, cI, cB, cS, roI, ro64, hpin, go_sem, Nat.reduceAdd, Nat.reduceMul]
      | false =>
        rw [if_neg (by decide)]
        simp (decide := true) only [g2, programC, fnC, drop0, row1_length, rows_length, programW, programC, fnW, fnC, cI, cB, cS, roI, ro64, hpin, go_sem, Nat.reduceAdd, Nat.reduceMul]
        refine code_sound sized _ ?_
        simp (decide := true) only [w1, programC, fnC, drop0, row1_length, rows_length, programW, programC, fnW, fnC, cI, cB, cS, roI, ro64, hpin, go_sem, Nat.reduceAdd, Nat.reduceMul]
        refine aCall_det (in' f.ret 0 (p.nodes.length - 1)) hpin ?_
        cases g3 : inI f.ret 0 (p.nodes.length - 1) with
        | false =>
          rcases rows_any p.nodes f.ret.toNat with ⟨y, hy⟩ | hy
          · simp (decide := true) only [hy, nodeC, Bool.false_and, drop0, row1_length, rows_length, programW, programC, fnW, fnC, cI, cB, cS, roI, ro64, hpin, go_sem, Nat.reduceAdd, Nat.reduceMul]
          · simp (decide := true) only [hy, List.getElem?_nil, Option.map_none, Option.getD_none, Bool.false_and, drop0, row1_length, rows_length, programW, programC, fnW, fnC, cI, cB, cS, roI, ro64, hpin, go_sem, Nat.reduceAdd, Nat.reduceMul]
        | true =>
        have hr2 := inI_true g3
        have y0 : (0 ≤ f.ret) = True := eq_true hr2.1
        have hrl : f.ret.toNat < p.nodes.length := by omega
        have y1 : (f.ret < (p.nodes.length : Int)) = True := eq_true (by omega)
        rw [nAt_get hrl]
        simp (decide := true) only [y0, y1, rows_get _ _ hrl, nodeC, programC, fnC, drop0, row1_length, rows_length, programW, programC, fnW, fnC, cI, cB, cS, roI, ro64, hpin, go_sem, Nat.reduceAdd, Nat.reduceMul]
        refine aCall_det (isValI_sound p.nodes[f.ret.toNat].kind) hpin ?_
        simp (decide := true) only [Bool.true_and, drop0, row1_length, rows_length, programW, programC, fnW, fnC, cI, cB, cS, roI, ro64, hpin, go_sem, Nat.reduceAdd, Nat.reduceMul]
theorem fnOkS_sound (p : ProgramD) (i : Nat) (hil : i < p.fns.length) (hf : p.fns.length ≤ 1048576) (hn : p.nodes.length ≤ 1048576) (hpl : ∀ f ∈ p.fns, f.params.length ≤ 1048576) : Sound Tryz.prog 118 [.ro (programW p), .ro (.sc (.int .i64 i))] (fun rs st => rs = [(false, [cB (fnOkB p p.fns[i] && fnAtP p.fns p.fns[i].name == (i : Int))])]) := by
  have hplx := hpl p.fns[i] (List.getElem_mem hil)
  have hns := fnAtS_sound p p.fns[i].name hf
  generalize hfe : p.fns[i] = f at hplx hns
  have ci : ((i : Int) < (p.fns.length : Int)) = True := eq_true (by omega)
  refine sound_tri (fn := Tryz.f118) (c := Tryz.f118.body.getD .skip) (res := [.tm 4]) (n := 102) sized (by kernel_rfl) (by rfl) (by kernel_rfl) (by rfl) (by rfl) (by simp [argsV]) (fun uf ub C hpin hpin2 hfull => ?_)
  simp only [Tryz.f118, Option.getD_some]
  have w1 : IntKind.i64.wrap ((p.nodes.length : Int) - 1) = (p.nodes.length : Int) - 1 := w64 (by omega) (by omega)
  refine Tri.step sized ?_
  simp (decide := true) only [programW, programC, fnW, drop0, row1_length, rows_length, programW, programC, fnW, fnC, cI, cB, cS, roI, ro64, hpin, go_sem, Nat.reduceAdd, Nat.reduceMul]
  refine Tri.ent ?_ (Ent.frb hfull 2)
  refine Tri.step sized ?_
  simp (decide := true) only [ci, rows_get _ _ hil, hfe, fnC, programW, programC, Int.natCast_nonneg, drop0, row1_length, rows_length, programW, programC, fnW, fnC, cI, cB, cS, roI, ro64, hpin, go_sem, Nat.reduceAdd, Nat.reduceMul]
  refine Tri.ent ?_ (Ent.frb hfull 5)
  refine Tri.step sized ?_
  simp (decide := true) only [fnC, programC, drop0, row1_length, rows_length, programW, programC, fnW, fnC, cI, cB, cS, roI, ro64, hpin, go_sem, Nat.reduceAdd, Nat.reduceMul]
  refine aCall_det (nameS_sound f.name) hpin ?_
  unfold fnOkB
  cases h0 : nameB f.name with
  | false => simp (decide := true) only [Bool.false_and, drop0, row1_length, rows_length, programW, programC, fnW, fnC, cI, cB, cS, roI, ro64, hpin, go_sem, Nat.reduceAdd, Nat.reduceMul]
  | true =>
  simp (decide := true) only [fnC, programC, programW, drop0, row1_length, rows_length, programW, programC, fnW, fnC, cI, cB, cS, roI, ro64, hpin, go_sem, Nat.reduceAdd, Nat.reduceMul]
  refine aCall_det hns hpin ?_
  cases ha : fnAtP p.fns f.name == (i : Int) with
  | false => simp (decide := true) only [ha, bne, Bool.and_false, drop0, row1_length, rows_length, programW, programC, fnW, fnC, cI, cB, cS, roI, ro64, hpin, go_sem, Nat.reduceAdd, Nat.reduceMul]
  | true =>
  by_cases h1 : (f.params.length : Int) ≤ 3
  case neg =>
    have c1 : ((3 : Int) < (f.params.length : Int)) = True := eq_true (by omega)
    have c2 : decide ((f.params.length : Int) ≤ 3) = false := decide_eq_false h1
    simp (decide := true) only [ha, bne, c1, c2, gt_iff_lt, Bool.false_and, Bool.true_and, drop0, row1_length, rows_length, programW, programC, fnW, fnC, cI, cB, cS, roI, ro64, hpin, go_sem, Nat.reduceAdd, Nat.reduceMul]
  have c1 : ((3 : Int) < (f.params.length : Int)) = False := eq_false (by omega)
  have c2 : decide ((f.params.length : Int) ≤ 3) = true := decide_eq_true h1
  simp (decide := true) only [ha, bne, c1, c2, gt_iff_lt, Bool.false_and, Bool.true_and, drop0, row1_length, rows_length, programW, programC, fnW, fnC, cI, cB, cS, roI, ro64, hpin, go_sem, Nat.reduceAdd, Nat.reduceMul]
  refine aCall_det (l01In' f.res 0 2) hpin ?_
  cases h2 : inI f.res 0 2 with
  | false => simp (decide := true) only [Bool.false_and, drop0, row1_length, rows_length, programW, programC, fnW, fnC, cI, cB, cS, roI, ro64, hpin, go_sem, Nat.reduceAdd, Nat.reduceMul]
  | true =>
  simp (decide := true) only [Bool.true_and, Bool.and_true, drop0, row1_length, rows_length, programW, programC, fnW, fnC, cI, cB, cS, roI, ro64, hpin, go_sem, Nat.reduceAdd, Nat.reduceMul]
  refine Tri.step sized ?_
  simp (decide := true) only [programC, fnC, drop0, row1_length, rows_length, programW, programC, fnW, fnC, cI, cB, cS, roI, ro64, hpin, go_sem, Nat.reduceAdd, Nat.reduceMul]
  refine Tri.loop (ι := Nat) (fun i => i ≤ f.params.length ∧ (f.params.take i).all paramB = true) (fun i => ⟨102, [(2, .ip (programC true p) 0), (4, vB false), (5, .ip (fnC true f) 0), (6, vI i)], []⟩) (fun i => f.params.length - i) 0 ⟨by simp, by simp⟩ ?_ ?_
  · refine Ent.weak ?_ ?_ ?_ ?_ <;> simp (decide := true) [subT, subB, hereT, hereV, hereL, St.get, look, vI, vB, vS, cI, cS, cB, nodeC, roI, programC, fnC]
  · rintro i ⟨hi, hq⟩
    refine code_sound sized _ ?_
    by_cases h' : i < f.params.length
    · have e : ((i : Int) < (f.params.length : Int)) = True := by simp [h']
      simp (decide := true) only [e, h', rows_get _ _ h', paramC, fnC, programC, Int.natCast_nonneg, vB, vI, drop0, row1_length, rows_length, programW, programC, fnW, fnC, cI, cB, cS, roI, ro64, hpin, go_sem, Nat.reduceAdd, Nat.reduceMul]
      refine aCall_det (nameS_sound f.params[i].name) hpin ?_
      cases g0 : nameB f.params[i].name with
      | false =>
        have hf := all_false (f := paramB) h' (by simp only [paramB, g0, Bool.false_and])
        simp (decide := true) only [hf, Bool.false_and, drop0, row1_length, rows_length, programW, programC, fnW, fnC, cI, cB, cS, roI, ro64, hpin, go_sem, Nat.reduceAdd, Nat.reduceMul]
      | true =>
      simp (decide := true) only [e, h', rows_get _ _ h', paramC, fnC, programC, Int.natCast_nonneg, vB, vI, drop0, row1_length, rows_length, programW, programC, fnW, fnC, cI, cB, cS, roI, ro64, hpin, go_sem, Nat.reduceAdd, Nat.reduceMul]
      refine aCall_det (l01In' f.params[i].ty 1 4) hpin ?_
      cases g1 : inI f.params[i].ty 1 4 with
      | false =>
        have hf := all_false (f := paramB) h' (by simp only [paramB, g1, Bool.and_false])
        simp (decide := true) only [hf, Bool.false_and, drop0, row1_length, rows_length, programW, programC, fnW, fnC, cI, cB, cS, roI, ro64, hpin, go_sem, Nat.reduceAdd, Nat.reduceMul]
      | true =>
      have hnx := all_next (f := paramB) h' hq (by simp only [paramB, g0, g1]; rfl)
      simp (decide := true) only [drop0, row1_length, rows_length, programW, programC, fnW, fnC, cI, cB, cS, roI, ro64, hpin, go_sem, Nat.reduceAdd, Nat.reduceMul]
      refine ⟨i + 1, ⟨h', hnx⟩, by omega, Ent.weak ?_ ?_ ?_ ?_⟩
      all_goals simp (decide := true) [subT, subB, hereT, hereV, hereL, St.get, look, vI, vB, vS, cI, cS, cB, nodeC, roI, programC, fnC, w64s (n := f.params.length) h' (by omega)]
    · have hil : i = f.params.length := by omega
      subst hil
      have e : ((f.params.length : Int) < (f.params.length : Int)) = False := by simp
      rw [List.take_length] at hq
      rw [hq, Bool.true_and]
      simp (decide := true) only [e, fnC, programC, vB, vI, drop0, row1_length, rows_length, programW, programC, fnW, fnC, cI, cB, cS, roI, ro64, hpin, go_sem, Nat.reduceAdd, Nat.reduceMul]
      refine Tri.step sized ?_
      simp (decide := true) only [w1, programC, fnC, drop0, row1_length, rows_length, programW, programC, fnW, fnC, cI, cB, cS, roI, ro64, hpin, go_sem, Nat.reduceAdd, Nat.reduceMul]
      refine aCall_det (l01In' f.body 0 (p.nodes.length - 1)) hpin ?_
      unfold fnBodyB
      cases g0 : inI f.body 0 (p.nodes.length - 1) with
      | false =>
        rcases rows_any p.nodes f.body.toNat with ⟨y, hy⟩ | hy
        · simp (decide := true) only [hy, nodeC, Bool.false_and, drop0, row1_length, rows_length, programW, programC, fnW, fnC, cI, cB, cS, roI, ro64, hpin, go_sem, Nat.reduceAdd, Nat.reduceMul]
        · simp (decide := true) only [hy, List.getElem?_nil, Option.map_none, Option.getD_none, Bool.false_and, drop0, row1_length, rows_length, programW, programC, fnW, fnC, cI, cB, cS, roI, ro64, hpin, go_sem, Nat.reduceAdd, Nat.reduceMul]
      | true =>
      have hr := inI_true g0
      have z0 : (0 ≤ f.body) = True := eq_true hr.1
      have hbl : f.body.toNat < p.nodes.length := by omega
      have z1 : (f.body < (p.nodes.length : Int)) = True := eq_true (by omega)
      rw [nAt_get hbl]
      simp (decide := true) only [z0, z1, rows_get _ _ hbl, nodeC, bne, programC, fnC, drop0, row1_length, rows_length, programW, programC, fnW, fnC, cI, cB, cS, roI, ro64, hpin, go_sem, Nat.reduceAdd, Nat.reduceMul]
      cases g1 : p.nodes[f.body.toNat].kind == 20 with
      | false => simp (decide := true) only [g1, Bool.and_false, Bool.false_and, drop0, row1_length, rows_length, programW, programC, fnW, fnC, cI, cB, cS, roI, ro64, hpin, go_sem, Nat.reduceAdd, Nat.reduceMul]
      | true =>
      simp (decide := true) only [g1, Bool.true_and, drop0, row1_length, rows_length, programW, programC, fnW, fnC, cI, cB, cS, roI, ro64, hpin, go_sem, Nat.reduceAdd, Nat.reduceMul]
      refine Tri.step sized ?_
      unfold fnRetB
      cases g2 : f.res == 0 with
      | true =>
        simp (decide := true) only [g2, c2, if_true, Bool.true_and, programC, fnC, drop0, row1_length, rows_length, programW, programC, fnW, fnC, cI, cB, cS, roI, ro64, hpin, go_sem, Nat.reduceAdd, Nat.reduceMul]
      | false =>
        rw [if_neg (by decide)]
        simp (decide := true) only [g2, programC, fnC, drop0, row1_length, rows_length, programW, programC, fnW, fnC, cI, cB, cS, roI, ro64, hpin, go_sem, Nat.reduceAdd, Nat.reduceMul]
        refine code_sound sized _ ?_
        simp (decide := true) only [w1, programC, fnC, drop0, row1_length, rows_length, programW, programC, fnW, fnC, cI, cB, cS, roI, ro64, hpin, go_sem, Nat.reduceAdd, Nat.reduceMul]
        refine aCall_det (l01In' f.ret 0 (p.nodes.length - 1)) hpin ?_
        cases g3 : inI f.ret 0 (p.nodes.length - 1) with
        | false =>
          rcases rows_any p.nodes f.ret.toNat with ⟨y, hy⟩ | hy
          · simp (decide := true) only [hy, nodeC, Bool.false_and, drop0, row1_length, rows_length, programW, programC, fnW, fnC, cI, cB, cS, roI, ro64, hpin, go_sem, Nat.reduceAdd, Nat.reduceMul]
          · simp (decide := true) only [hy, List.getElem?_nil, Option.map_none, Option.getD_none, Bool.false_and, drop0, row1_length, rows_length, programW, programC, fnW, fnC, cI, cB, cS, roI, ro64, hpin, go_sem, Nat.reduceAdd, Nat.reduceMul]
        | true =>
        have hr2 := inI_true g3
        have y0 : (0 ≤ f.ret) = True := eq_true hr2.1
        have hrl : f.ret.toNat < p.nodes.length := by omega
        have y1 : (f.ret < (p.nodes.length : Int)) = True := eq_true (by omega)
        rw [nAt_get hrl]
        simp (decide := true) only [y0, y1, rows_get _ _ hrl, nodeC, programC, fnC, drop0, row1_length, rows_length, programW, programC, fnW, fnC, cI, cB, cS, roI, ro64, hpin, go_sem, Nat.reduceAdd, Nat.reduceMul]
        refine aCall_det (isValS_sound p.nodes[f.ret.toNat].kind) hpin ?_
        simp (decide := true) only [c2, Bool.true_and, drop0, row1_length, rows_length, programW, programC, fnW, fnC, cI, cB, cS, roI, ro64, hpin, go_sem, Nat.reduceAdd, Nat.reduceMul]
end Go.Proofs.YtnbodmohnkohfaaGreatDoor.AW
