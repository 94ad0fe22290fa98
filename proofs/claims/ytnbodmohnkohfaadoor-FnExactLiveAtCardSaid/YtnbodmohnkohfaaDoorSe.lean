/- Whether a word is right, as the reference tells it. No condition beyond those named. -/
import Derived.Test.YtnbodmohnkohfaaDoorSd
namespace Go.Proofs.YtnbodmohnkohfaaDoor.AW
open Go.RowKit
set_option maxHeartbeats 8000000
set_option maxRecDepth 100000
set_option linter.unusedSimpArgs false
set_option linter.unusedVariables false

def numB (c : CodeD) (x : InsD) : Bool := if x.op == 1 then inI x.num 0 1000000000 else if x.op == 18 || x.op == 19 then inI x.num 0 (c.words.length - 1) else x.num == 0
def wordS (c : CodeD) (x : InsD) : Bool := inI x.op 1 20 && (aOkB c x && (isPlaceB c x.b (hasBB x.op) && (isPlaceB c x.c (hasCB x.op) && (numB c x && tailB c x))))

theorem wordS_sound (c : CodeD) (x : InsD) (h : c.locals.length ≤ 1048576) (hw : c.words.length ≤ 1048576) (hl : x.args.length ≤ 1048576) : Sound Tryd.prog 35 [.ro (codeW c), .ro (insW x)] (fun rs st => rs = [(false, [cB (wordS c x)])]) := by
  refine sound_tri (fn := Tryd.f35) (c := Tryd.f35.body.getD .skip) (res := [.tm 4]) (n := 116) sized (by kernel_rfl) (by rfl) (by kernel_rfl) (by rfl) (by rfl) (by simp [argsV]) (fun uf ub C hpin hpin2 hfull => ?_)
  simp only [Tryd.f35, Option.getD_some]
  refine Tri.step sized ?_
  simp (decide := true) only [codeW, insW, codeC, insC, row1_length, rows_length, cI, cB, cS, roI, ro64, hpin, go_sem, Nat.reduceAdd, Nat.reduceMul]
  refine Tri.ent ?_ (Ent.frb hfull 2)
  refine Tri.ent ?_ (Ent.frb hfull 3)
  refine Tri.step sized ?_
  simp (decide := true) only [row1_length, rows_length, cI, cB, cS, roI, ro64, hpin, go_sem, Nat.reduceAdd, Nat.reduceMul]
  refine aCall_det (l01In' x.op 1 20) hpin ?_
  simp (decide := true) only [row1_length, rows_length, cI, cB, cS, roI, ro64, hpin, go_sem, Nat.reduceAdd, Nat.reduceMul]
  unfold wordS
  cases h0 : inI x.op 1 20 with
  | false => simp (decide := true) only [Bool.false_and, codeW, insW, row1_length, rows_length, cI, cB, cS, roI, ro64, hpin, go_sem, Nat.reduceAdd, Nat.reduceMul]
  | true =>
  simp (decide := true) only [Bool.true_and, row1_length, rows_length, cI, cB, cS, roI, ro64, hpin, go_sem, Nat.reduceAdd, Nat.reduceMul]
  refine aCall_det (aOk_sound c x h) hpin ?_
  simp (decide := true) only [bne, codeW, insW, row1_length, rows_length, cI, cB, cS, roI, ro64, hpin, go_sem, Nat.reduceAdd, Nat.reduceMul]
  cases ha : aOkB c x with
  | false => simp (decide := true) only [Bool.false_and, codeW, insW, row1_length, rows_length, cI, cB, cS, roI, ro64, hpin, go_sem, Nat.reduceAdd, Nat.reduceMul]
  | true =>
  simp (decide := true) only [Bool.true_and, row1_length, rows_length, cI, cB, cS, roI, ro64, hpin, go_sem, Nat.reduceAdd, Nat.reduceMul]
  cases hb : isPlaceB c x.b (hasBB x.op) with
  | false =>
    unfold isPlaceB at hb
    simp only [Bool.false_and]
    refine Tri.step sized ?_
    simp (decide := true) only [bne, codeW, insW, row1_length, rows_length, cI, cB, cS, roI, ro64, hpin, go_sem, Nat.reduceAdd, Nat.reduceMul]
    refine aCall_det (hasBS_sound x.op) hpin ?_
    simp (decide := true) only [bne, codeW, insW, row1_length, rows_length, cI, cB, cS, roI, ro64, hpin, go_sem, Nat.reduceAdd, Nat.reduceMul]
    cases hB : hasBB x.op with
    | true =>
      simp (decide := true) only [bne, codeW, insW, row1_length, rows_length, cI, cB, cS, roI, ro64, hpin, go_sem, Nat.reduceAdd, Nat.reduceMul]
      refine aCall_det (placeS_sound c x.b h) hpin ?_
      simp (decide := true) only [bne, codeW, insW, row1_length, rows_length, cI, cB, cS, roI, ro64, hpin, go_sem, Nat.reduceAdd, Nat.reduceMul]
      rw [hB] at hb
      simp only [if_true] at hb
      simp (decide := true) only [hb, codeW, insW, row1_length, rows_length, cI, cB, cS, roI, ro64, hpin, go_sem, Nat.reduceAdd, Nat.reduceMul]
    | false =>
      simp (decide := true) only [bne, codeW, insW, row1_length, rows_length, cI, cB, cS, roI, ro64, hpin, go_sem, Nat.reduceAdd, Nat.reduceMul]
      refine aCall_det (hasBS_sound x.op) hpin ?_
      rw [hB] at hb
      simp only [Bool.false_eq_true, if_false] at hb
      simp (decide := true) only [hb, hB, bne, row1_length, rows_length, cI, cB, cS, roI, ro64, hpin, go_sem, Nat.reduceAdd, Nat.reduceMul]
  | true =>
  simp only [Bool.true_and]
  refine Tri.stop sized ⟨116, [(2, .ip (codeC true c) 0), (3, .ip (insC true x) 0), (4, vB false)], []⟩ ?_ ?_
  · unfold isPlaceB at hb
    simp (decide := true) only [bne, codeW, insW, row1_length, rows_length, cI, cB, cS, roI, ro64, hpin, go_sem, Nat.reduceAdd, Nat.reduceMul]
    refine aCall_det (hasBS_sound x.op) hpin ?_
    simp (decide := true) only [bne, codeW, insW, row1_length, rows_length, cI, cB, cS, roI, ro64, hpin, go_sem, Nat.reduceAdd, Nat.reduceMul]
    cases hB : hasBB x.op with
    | true =>
      simp (decide := true) only [bne, codeW, insW, row1_length, rows_length, cI, cB, cS, roI, ro64, hpin, go_sem, Nat.reduceAdd, Nat.reduceMul]
      refine aCall_det (placeS_sound c x.b h) hpin ?_
      rw [hB] at hb
      simp only [if_true] at hb
      simp (decide := true) only [hb, codeW, insW, row1_length, rows_length, cI, cB, cS, roI, ro64, hpin, go_sem, Nat.reduceAdd, Nat.reduceMul]
      refine aCall_det (hasBS_sound x.op) hpin ?_
      simp (decide := true) only [hB, bne, row1_length, rows_length, cI, cB, cS, roI, ro64, hpin, go_sem, Nat.reduceAdd, Nat.reduceMul]
      refine Ent.weak ?_ ?_ ?_ ?_ <;> simp (decide := true) [subT, subB, hereT, hereV, hereL, St.get, look, vI, vB, vS, cI, cS, cB, insC, codeC, roI]
    | false =>
      simp (decide := true) only [bne, codeW, insW, row1_length, rows_length, cI, cB, cS, roI, ro64, hpin, go_sem, Nat.reduceAdd, Nat.reduceMul]
      refine aCall_det (hasBS_sound x.op) hpin ?_
      rw [hB] at hb
      simp only [Bool.false_eq_true, if_false] at hb
      simp (decide := true) only [hb, hB, bne, row1_length, rows_length, cI, cB, cS, roI, ro64, hpin, go_sem, Nat.reduceAdd, Nat.reduceMul]
      refine Ent.weak ?_ ?_ ?_ ?_ <;> simp (decide := true) [subT, subB, hereT, hereV, hereL, St.get, look, vI, vB, vS, cI, cS, cB, insC, codeC, roI]
  cases hc : isPlaceB c x.c (hasCB x.op) with
  | false =>
    unfold isPlaceB at hc
    simp only [Bool.false_and]
    refine Tri.step sized ?_
    simp (decide := true) only [bne, vB, codeC, insC, codeW, insW, row1_length, rows_length, cI, cB, cS, roI, ro64, hpin, go_sem, Nat.reduceAdd, Nat.reduceMul]
    refine aCall_det (hasCS_sound x.op) hpin ?_
    simp (decide := true) only [bne, codeW, insW, row1_length, rows_length, cI, cB, cS, roI, ro64, hpin, go_sem, Nat.reduceAdd, Nat.reduceMul]
    cases hC : hasCB x.op with
    | true =>
      simp (decide := true) only [bne, codeW, insW, row1_length, rows_length, cI, cB, cS, roI, ro64, hpin, go_sem, Nat.reduceAdd, Nat.reduceMul]
      refine aCall_det (placeS_sound c x.c h) hpin ?_
      simp (decide := true) only [bne, codeW, insW, row1_length, rows_length, cI, cB, cS, roI, ro64, hpin, go_sem, Nat.reduceAdd, Nat.reduceMul]
      rw [hC] at hc
      simp only [if_true] at hc
      simp (decide := true) only [hc, codeW, insW, row1_length, rows_length, cI, cB, cS, roI, ro64, hpin, go_sem, Nat.reduceAdd, Nat.reduceMul]
    | false =>
      simp (decide := true) only [bne, codeW, insW, row1_length, rows_length, cI, cB, cS, roI, ro64, hpin, go_sem, Nat.reduceAdd, Nat.reduceMul]
      refine aCall_det (hasCS_sound x.op) hpin ?_
      rw [hC] at hc
      simp only [Bool.false_eq_true, if_false] at hc
      simp (decide := true) only [hc, hC, bne, row1_length, rows_length, cI, cB, cS, roI, ro64, hpin, go_sem, Nat.reduceAdd, Nat.reduceMul]
  | true =>
  simp only [Bool.true_and]
  refine Tri.stop sized ⟨116, [(2, .ip (codeC true c) 0), (3, .ip (insC true x) 0), (4, vB false)], []⟩ ?_ ?_
  · unfold isPlaceB at hc
    simp (decide := true) only [bne, vB, codeC, insC, codeW, insW, row1_length, rows_length, cI, cB, cS, roI, ro64, hpin, go_sem, Nat.reduceAdd, Nat.reduceMul]
    refine aCall_det (hasCS_sound x.op) hpin ?_
    simp (decide := true) only [bne, codeW, insW, row1_length, rows_length, cI, cB, cS, roI, ro64, hpin, go_sem, Nat.reduceAdd, Nat.reduceMul]
    cases hC : hasCB x.op with
    | true =>
      simp (decide := true) only [bne, codeW, insW, row1_length, rows_length, cI, cB, cS, roI, ro64, hpin, go_sem, Nat.reduceAdd, Nat.reduceMul]
      refine aCall_det (placeS_sound c x.c h) hpin ?_
      rw [hC] at hc
      simp only [if_true] at hc
      simp (decide := true) only [hc, codeW, insW, row1_length, rows_length, cI, cB, cS, roI, ro64, hpin, go_sem, Nat.reduceAdd, Nat.reduceMul]
      refine aCall_det (hasCS_sound x.op) hpin ?_
      simp (decide := true) only [hC, bne, row1_length, rows_length, cI, cB, cS, roI, ro64, hpin, go_sem, Nat.reduceAdd, Nat.reduceMul]
      refine Ent.weak ?_ ?_ ?_ ?_ <;> simp (decide := true) [subT, subB, hereT, hereV, hereL, St.get, look, vI, vB, vS, cI, cS, cB, insC, codeC, roI]
    | false =>
      simp (decide := true) only [bne, codeW, insW, row1_length, rows_length, cI, cB, cS, roI, ro64, hpin, go_sem, Nat.reduceAdd, Nat.reduceMul]
      refine aCall_det (hasCS_sound x.op) hpin ?_
      rw [hC] at hc
      simp only [Bool.false_eq_true, if_false] at hc
      simp (decide := true) only [hc, hC, bne, row1_length, rows_length, cI, cB, cS, roI, ro64, hpin, go_sem, Nat.reduceAdd, Nat.reduceMul]
      refine Ent.weak ?_ ?_ ?_ ?_ <;> simp (decide := true) [subT, subB, hereT, hereV, hereL, St.get, look, vI, vB, vS, cI, cS, cB, insC, codeC, roI]
  have wl : IntKind.i64.wrap ((c.words.length : Int) - 1) = c.words.length - 1 := w64 (by omega) (by omega)
  cases hm : numB c x with
  | false =>
    unfold numB at hm
    simp only [Bool.false_and]
    refine Tri.step sized ?_
    simp (decide := true) only [bne, vB, codeC, insC, codeW, insW, row1_length, rows_length, cI, cB, cS, roI, ro64, hpin, go_sem, Nat.reduceAdd, Nat.reduceMul]
    cases h1 : x.op == 1 with
    | true =>
      simp (decide := true) only [bne, codeW, insW, row1_length, rows_length, cI, cB, cS, roI, ro64, hpin, go_sem, Nat.reduceAdd, Nat.reduceMul]
      refine aCall_det (l01In' x.num 0 1000000000) hpin ?_
      rw [h1] at hm
      simp only [if_true] at hm
      simp (decide := true) only [hm, bne, row1_length, rows_length, cI, cB, cS, roI, ro64, hpin, go_sem, Nat.reduceAdd, Nat.reduceMul]
    | false =>
    rw [h1] at hm
    simp only [Bool.false_eq_true, if_false] at hm
    simp (decide := true) only [bne, codeW, insW, row1_length, rows_length, cI, cB, cS, roI, ro64, hpin, go_sem, Nat.reduceAdd, Nat.reduceMul]
    cases h18 : x.op == 18 with
    | true =>
      simp (decide := true) only [wl, bne, row1_length, rows_length, cI, cB, cS, roI, ro64, hpin, go_sem, Nat.reduceAdd, Nat.reduceMul]
      refine aCall_det (l01In' x.num 0 (c.words.length - 1)) hpin ?_
      rw [h18] at hm
      simp only [Bool.true_or, if_true] at hm
      simp (decide := true) only [hm, bne, row1_length, rows_length, cI, cB, cS, roI, ro64, hpin, go_sem, Nat.reduceAdd, Nat.reduceMul]
    | false =>
    simp (decide := true) only [bne, codeW, insW, row1_length, rows_length, cI, cB, cS, roI, ro64, hpin, go_sem, Nat.reduceAdd, Nat.reduceMul]
    cases h19 : x.op == 19 with
    | true =>
      simp (decide := true) only [wl, bne, row1_length, rows_length, cI, cB, cS, roI, ro64, hpin, go_sem, Nat.reduceAdd, Nat.reduceMul]
      refine aCall_det (l01In' x.num 0 (c.words.length - 1)) hpin ?_
      rw [h18, h19] at hm
      simp only [Bool.or_true, if_true] at hm
      simp (decide := true) only [hm, bne, row1_length, rows_length, cI, cB, cS, roI, ro64, hpin, go_sem, Nat.reduceAdd, Nat.reduceMul]
    | false =>
      simp (decide := true) only [bne, codeW, insW, row1_length, rows_length, cI, cB, cS, roI, ro64, hpin, go_sem, Nat.reduceAdd, Nat.reduceMul]
      rw [h18, h19] at hm
      simp only [Bool.or_self, Bool.false_eq_true, if_false] at hm
      simp (decide := true) only [hm, bne, row1_length, rows_length, cI, cB, cS, roI, ro64, hpin, go_sem, Nat.reduceAdd, Nat.reduceMul]
  | true =>
  simp only [Bool.true_and]
  refine Tri.stop sized ⟨116, [(2, .ip (codeC true c) 0), (3, .ip (insC true x) 0), (4, vB false)], []⟩ ?_ ?_
  · unfold numB at hm
    simp (decide := true) only [bne, vB, codeC, insC, codeW, insW, row1_length, rows_length, cI, cB, cS, roI, ro64, hpin, go_sem, Nat.reduceAdd, Nat.reduceMul]
    cases h1 : x.op == 1 with
    | true =>
      simp (decide := true) only [bne, codeW, insW, row1_length, rows_length, cI, cB, cS, roI, ro64, hpin, go_sem, Nat.reduceAdd, Nat.reduceMul]
      refine aCall_det (l01In' x.num 0 1000000000) hpin ?_
      rw [h1] at hm
      simp only [if_true] at hm
      simp (decide := true) only [hm, bne, row1_length, rows_length, cI, cB, cS, roI, ro64, hpin, go_sem, Nat.reduceAdd, Nat.reduceMul]
      refine Ent.weak ?_ ?_ ?_ ?_ <;> simp (decide := true) [subT, subB, hereT, hereV, hereL, St.get, look, vI, vB, vS, cI, cS, cB, insC, codeC, roI]
    | false =>
    rw [h1] at hm
    simp only [Bool.false_eq_true, if_false] at hm
    simp (decide := true) only [bne, codeW, insW, row1_length, rows_length, cI, cB, cS, roI, ro64, hpin, go_sem, Nat.reduceAdd, Nat.reduceMul]
    cases h18 : x.op == 18 with
    | true =>
      simp (decide := true) only [wl, bne, row1_length, rows_length, cI, cB, cS, roI, ro64, hpin, go_sem, Nat.reduceAdd, Nat.reduceMul]
      refine aCall_det (l01In' x.num 0 (c.words.length - 1)) hpin ?_
      rw [h18] at hm
      simp only [Bool.true_or, if_true] at hm
      simp (decide := true) only [hm, bne, row1_length, rows_length, cI, cB, cS, roI, ro64, hpin, go_sem, Nat.reduceAdd, Nat.reduceMul]
      refine Ent.weak ?_ ?_ ?_ ?_ <;> simp (decide := true) [subT, subB, hereT, hereV, hereL, St.get, look, vI, vB, vS, cI, cS, cB, insC, codeC, roI]
    | false =>
    simp (decide := true) only [bne, codeW, insW, row1_length, rows_length, cI, cB, cS, roI, ro64, hpin, go_sem, Nat.reduceAdd, Nat.reduceMul]
    cases h19 : x.op == 19 with
    | true =>
      simp (decide := true) only [wl, bne, row1_length, rows_length, cI, cB, cS, roI, ro64, hpin, go_sem, Nat.reduceAdd, Nat.reduceMul]
      refine aCall_det (l01In' x.num 0 (c.words.length - 1)) hpin ?_
      rw [h18, h19] at hm
      simp only [Bool.or_true, if_true] at hm
      simp (decide := true) only [hm, bne, row1_length, rows_length, cI, cB, cS, roI, ro64, hpin, go_sem, Nat.reduceAdd, Nat.reduceMul]
      refine Ent.weak ?_ ?_ ?_ ?_ <;> simp (decide := true) [subT, subB, hereT, hereV, hereL, St.get, look, vI, vB, vS, cI, cS, cB, insC, codeC, roI]
    | false =>
      simp (decide := true) only [bne, codeW, insW, row1_length, rows_length, cI, cB, cS, roI, ro64, hpin, go_sem, Nat.reduceAdd, Nat.reduceMul]
      rw [h18, h19] at hm
      simp only [Bool.or_self, Bool.false_eq_true, if_false] at hm
      simp (decide := true) only [hm, bne, row1_length, rows_length, cI, cB, cS, roI, ro64, hpin, go_sem, Nat.reduceAdd, Nat.reduceMul]
      refine Ent.weak ?_ ?_ ?_ ?_ <;> simp (decide := true) [subT, subB, hereT, hereV, hereL, St.get, look, vI, vB, vS, cI, cS, cB, insC, codeC, roI]
  refine code_sound sized _ ?_
  simp (decide := true) only [bne, vB, codeC, insC, codeW, insW, row1_length, rows_length, cI, cB, cS, roI, ro64, hpin, go_sem, Nat.reduceAdd, Nat.reduceMul]
  unfold tailB
  cases h13 : x.op == 13 with
  | false =>
    simp (decide := true) only [bne, row1_length, rows_length, cI, cB, cS, roI, ro64, hpin, go_sem, Nat.reduceAdd, Nat.reduceMul]
    cases hx : decide (x.name = ⟨#[]⟩) with
    | false => simp (decide := true) only [Bool.false_and, Bool.false_eq_true, if_false, row1_length, rows_length, cI, cB, cS, roI, ro64, hpin, go_sem, Nat.reduceAdd, Nat.reduceMul]
    | true => simp (decide := true) only [Bool.true_and, Bool.false_eq_true, if_false, row1_length, rows_length, cI, cB, cS, roI, ro64, hpin, go_sem, Nat.reduceAdd, Nat.reduceMul]
  | true =>
    simp (decide := true) only [row1_length, rows_length, cI, cB, cS, roI, ro64, hpin, go_sem, Nat.reduceAdd, Nat.reduceMul]
    refine Tri.loop (ι := Nat) (fun i => i ≤ x.args.length ∧ argsB c (x.args.take i) = true) (fun i => ⟨116, [(2, .ip (codeC true c) 0), (3, .ip (insC true x) 0), (4, vB false), (5, vI i)], []⟩) (fun i => x.args.length - i) 0 (by simp [argsB]) ?_ ?_
    · refine Ent.weak ?_ ?_ ?_ ?_ <;> simp (decide := true) [subT, subB, hereT, hereV, hereL, St.get, look, vI, vB, vS, cI, cS, cB, insC, codeC, roI]
    · rintro i ⟨hi, hn⟩
      refine code_sound sized _ ?_
      by_cases h' : i < x.args.length
      · have e : ((i : Int) < (x.args.length : Int)) = True := by simp [h']
        simp (decide := true) only [e, row1_get _ _ h', Int.natCast_nonneg, vB, vI, insC, codeC, row1_length, rows_length, cI, cB, cS, roI, ro64, hpin, go_sem, Nat.reduceAdd, Nat.reduceMul]
        refine Tri.sched sized [(0, true), (1, true), (3, true), (2, true), (4, true), (5, true), (6, false), (7, false)] mixed (by kernel_rfl) (fun C2 hC2 => ?_)
        have hp2 : ∀ o, isPin o = false → C2.pin o = none := by rw [hC2]; exact hpin
        simp (decide := true) only [e, row1_get _ _ h', Int.natCast_nonneg, codeW, row1_length, rows_length, cI, cB, cS, roI, ro64, hp2, go_sem, Nat.reduceAdd, Nat.reduceMul]
        refine aCall_det (placeS_sound c x.args[i] h) hp2 ?_
        simp (decide := true) only [codeW, row1_length, rows_length, cI, cB, cS, roI, ro64, hp2, go_sem, Nat.reduceAdd, Nat.reduceMul]
        cases hp : placeB c x.args[i] with
        | false => simp (decide := true) only [args_false h' hp, Bool.false_and, row1_length, rows_length, cI, cB, cS, roI, ro64, hpin, go_sem, Nat.reduceAdd, Nat.reduceMul]
        | true =>
          simp (decide := true) only [row1_length, rows_length, cI, cB, cS, roI, ro64, hpin, go_sem, Nat.reduceAdd, Nat.reduceMul]
          refine ⟨i + 1, ⟨h', by rw [args_take h', hn, hp]; rfl⟩, by omega, Ent.weak ?_ ?_ ?_ ?_⟩
          all_goals simp (decide := true) [subT, subB, hereT, hereV, hereL, St.get, look, vI, vB, vS, cI, cS, cB, insC, codeC, roI, w64s (n := x.args.length) h' (by omega)]
      · have hil : i = x.args.length := by omega
        subst hil
        have e : ((x.args.length : Int) < (x.args.length : Int)) = False := by simp
        rw [List.take_length] at hn
        simp (decide := true) only [e, hn, vB, vI, insC, codeC, row1_length, rows_length, cI, cB, cS, roI, ro64, hpin, go_sem, Nat.reduceAdd, Nat.reduceMul]
        refine aCall_det (nameS_sound x.name) hpin ?_
        simp (decide := true) only [row1_length, rows_length, cI, cB, cS, roI, ro64, hpin, go_sem, Nat.reduceAdd, Nat.reduceMul]
        cases hx : nameB x.name with
        | false => simp (decide := true) only [Bool.false_and, row1_length, rows_length, cI, cB, cS, roI, ro64, hpin, go_sem, Nat.reduceAdd, Nat.reduceMul]
        | true =>
          simp (decide := true) only [Bool.true_and, row1_length, rows_length, cI, cB, cS, roI, ro64, hpin, go_sem, Nat.reduceAdd, Nat.reduceMul]
          simp [hn]

theorem word_eq (c : CodeD) (x : InsD) : wordI c x = wordS c x := by
  unfold wordI wordS partsB
  cases h0 : inI x.op 1 20 with
  | false => rfl
  | true =>
  have ho : 1 ≤ x.op ∧ x.op ≤ 20 := by simpa [inI] using h0
  have e1 : (noneB x || isPlaceB c x.a (hasAB x.op)) = aOkB c x := by
    unfold noneB isPlaceB hasAB aOkB inI
    by_cases h13 : x.op = 13
    · simp [h13]
    by_cases h20 : x.op = 20
    · simp [h20]
    by_cases h18 : x.op = 18
    · simp [h18]
    by_cases h19 : x.op = 19
    · simp [h19]
    have : x.op ≤ 17 := by omega
    simp [h13, h20, h18, h19, this, ho.1]
  have e2 : inI x.num 0 (highB c x) = numB c x := by
    unfold highB numB
    by_cases h1 : x.op = 1
    · simp [h1]
    by_cases h18 : x.op = 18
    · simp [h18]
    by_cases h19 : x.op = 19
    · simp [h19]
    have b1 : (x.op == 1) = false := by simp [h1]
    have b2 : (x.op == 18) = false := by simp [h18]
    have b3 : (x.op == 19) = false := by simp [h19]
    rw [b1, b2, b3]
    simp only [Bool.or_self, Bool.false_eq_true, if_false]
    unfold inI
    by_cases hn : x.num = 0
    · simp [hn]
    · have b4 : (x.num == 0) = false := by simp [hn]
      rw [b4]
      simp; omega
  rw [e1, e2]
  cases aOkB c x <;> cases isPlaceB c x.b (hasBB x.op) <;> cases isPlaceB c x.c (hasCB x.op) <;> simp
end Go.Proofs.YtnbodmohnkohfaaDoor.AW
