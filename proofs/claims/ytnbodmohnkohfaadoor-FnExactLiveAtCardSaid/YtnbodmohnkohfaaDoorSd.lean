/- Whether a word is right, as the program tells it. No condition beyond those named. -/
import Derived.Test.YtnbodmohnkohfaaDoorSc
namespace Go.Proofs.YtnbodmohnkohfaaDoor.AW
open Go.RowKit
set_option maxHeartbeats 8000000
set_option maxRecDepth 100000
set_option linter.unusedSimpArgs false
set_option linter.unusedVariables false

def noneB (x : InsD) : Bool := (x.op == 13 || x.op == 20) && x.a == -1
def highB (c : CodeD) (x : InsD) : Int := if x.op == 1 then 1000000000 else if x.op == 18 || x.op == 19 then c.words.length - 1 else 0
def argsB (c : CodeD) (l : List Int) : Bool := l.all (placeB c)
theorem args_take {c : CodeD} {l : List Int} {i : Nat} (h : i < l.length) : argsB c (l.take (i + 1)) = (argsB c (l.take i) && placeB c l[i]) := by
  unfold argsB
  rw [List.take_succ_eq_append_getElem h, List.all_append]; simp
theorem args_false {c : CodeD} {l : List Int} {i : Nat} (h : i < l.length) (hp : placeB c l[i] = false) : argsB c l = false := by
  unfold argsB
  rw [List.all_eq_false]
  exact ⟨l[i], List.getElem_mem h, by simp [hp]⟩
def partsB (c : CodeD) (x : InsD) : Bool := (noneB x || isPlaceB c x.a (hasAB x.op)) && (isPlaceB c x.b (hasBB x.op) && isPlaceB c x.c (hasCB x.op))
def tailB (c : CodeD) (x : InsD) : Bool := if x.op == 13 then argsB c x.args && (nameB x.name && decide ((x.args.length : Int) ≤ 3)) else decide (x.name = ⟨#[]⟩) && (x.args.length : Int) == 0
def wordI (c : CodeD) (x : InsD) : Bool := inI x.op 1 20 && (partsB c x && (inI x.num 0 (highB c x) && tailB c x))

theorem wordI_sound (c : CodeD) (x : InsD) (h : c.locals.length ≤ 1048576) (hw : c.words.length ≤ 1048576) (hl : x.args.length ≤ 1048576) : Sound Tryd.prog 43 [.ro (codeW c), .ro (insW x)] (fun rs st => rs = [(false, [cB (wordI c x)])]) := by
  refine sound_tri (fn := Tryd.f43) (c := Tryd.f43.body.getD .skip) (res := [.tm 4]) (n := 107) sized (by kernel_rfl) (by rfl) (by kernel_rfl) (by rfl) (by rfl) (by simp [argsV]) (fun uf ub C hpin hpin2 hfull => ?_)
  simp only [Tryd.f43, Option.getD_some]
  refine Tri.step sized ?_
  simp (decide := true) only [codeW, insW, codeC, insC, row1_length, rows_length, cI, cB, cS, roI, ro64, hpin, go_sem, Nat.reduceAdd, Nat.reduceMul]
  refine Tri.ent ?_ (Ent.frb hfull 2)
  refine Tri.ent ?_ (Ent.frb hfull 3)
  refine Tri.step sized ?_
  simp (decide := true) only [row1_length, rows_length, cI, cB, cS, roI, ro64, hpin, go_sem, Nat.reduceAdd, Nat.reduceMul]
  refine aCall_det (in' x.op 1 20) hpin ?_
  simp (decide := true) only [row1_length, rows_length, cI, cB, cS, roI, ro64, hpin, go_sem, Nat.reduceAdd, Nat.reduceMul]
  unfold wordI
  cases h0 : inI x.op 1 20 with
  | false => simp (decide := true) only [Bool.false_and, row1_length, rows_length, cI, cB, cS, roI, ro64, hpin, go_sem, Nat.reduceAdd, Nat.reduceMul]
  | true =>
  simp (decide := true) only [Bool.true_and, row1_length, rows_length, cI, cB, cS, roI, ro64, hpin, go_sem, Nat.reduceAdd, Nat.reduceMul]
  refine Tri.stop sized ⟨107, [(2, .ip (codeC true c) 0), (3, .ip (insC true x) 0), (4, vB false), (5, vB (noneB x))], []⟩ ?_ ?_
  · simp (decide := true) only [row1_length, rows_length, cI, cB, cS, roI, ro64, hpin, go_sem, Nat.reduceAdd, Nat.reduceMul]
    cases h13 : x.op == 13 <;> cases h20 : x.op == 20 <;> cases ha : x.a == -1 <;> simp (decide := true) only [row1_length, rows_length, cI, cB, cS, roI, ro64, hpin, go_sem, Nat.reduceAdd, Nat.reduceMul] <;> refine Ent.weak ?_ ?_ ?_ ?_ <;> simp (decide := true) [subT, subB, hereT, hereV, hereL, St.get, look, vI, vB, vS, cI, cS, cB, insC, codeC, roI, noneB, h13, h20, ha]
  cases hall : partsB c x with
  | false =>
    simp only [Bool.false_and]
    unfold partsB at hall
    generalize noneB x = nb at hall ⊢
    refine Tri.step sized ?_
    simp (decide := true) only [vB, insC, codeC, row1_length, rows_length, cI, cB, cS, roI, ro64, hpin, go_sem, Nat.reduceAdd, Nat.reduceMul]
    refine Tri.sched sized [(0, false), (1, false), (2, false), (3, true), (4, true), (6, true), (5, true), (7, true), (8, false), (9, false), (10, false), (11, false), (12, false), (13, true), (14, true), (16, true), (15, true), (17, true), (18, false), (19, false), (20, false), (21, false), (22, false), (23, true), (24, true), (26, true), (25, true), (27, true), (28, false), (29, false), (30, false), (31, false)] mixed (by kernel_rfl) (fun C2 hC2 => ?_)
    have hp2 : ∀ o, isPin o = false → C2.pin o = none := by rw [hC2]; exact hpin
    cases nb with
    | false =>
      simp (decide := true) only [codeW, row1_length, rows_length, cI, cB, cS, roI, ro64, hp2, go_sem, Nat.reduceAdd, Nat.reduceMul]
      refine aCall_det (hasA_sound x.op) hp2 ?_
      simp (decide := true) only [codeW, row1_length, rows_length, cI, cB, cS, roI, ro64, hp2, go_sem, Nat.reduceAdd, Nat.reduceMul]
      refine aCall_det (isPlace_sound c x.a (hasAB x.op) h) hp2 ?_
      simp (decide := true) only [codeW, row1_length, rows_length, cI, cB, cS, roI, ro64, hp2, go_sem, Nat.reduceAdd, Nat.reduceMul]
      cases hA : isPlaceB c x.a (hasAB x.op) with
      | false =>
        simp (decide := true) only [codeW, row1_length, rows_length, cI, cB, cS, roI, ro64, hp2, go_sem, Nat.reduceAdd, Nat.reduceMul]
      | true =>
        simp (decide := true) only [codeW, row1_length, rows_length, cI, cB, cS, roI, ro64, hp2, go_sem, Nat.reduceAdd, Nat.reduceMul]
        refine aCall_det (hasBI_sound x.op) hp2 ?_
        simp (decide := true) only [codeW, row1_length, rows_length, cI, cB, cS, roI, ro64, hp2, go_sem, Nat.reduceAdd, Nat.reduceMul]
        refine aCall_det (isPlace_sound c x.b (hasBB x.op) h) hp2 ?_
        simp (decide := true) only [codeW, row1_length, rows_length, cI, cB, cS, roI, ro64, hp2, go_sem, Nat.reduceAdd, Nat.reduceMul]
        cases hB : isPlaceB c x.b (hasBB x.op) with
        | false =>
          simp (decide := true) only [codeW, row1_length, rows_length, cI, cB, cS, roI, ro64, hp2, go_sem, Nat.reduceAdd, Nat.reduceMul]
        | true =>
          simp (decide := true) only [codeW, row1_length, rows_length, cI, cB, cS, roI, ro64, hp2, go_sem, Nat.reduceAdd, Nat.reduceMul]
          refine aCall_det (hasCI_sound x.op) hp2 ?_
          simp (decide := true) only [codeW, row1_length, rows_length, cI, cB, cS, roI, ro64, hp2, go_sem, Nat.reduceAdd, Nat.reduceMul]
          refine aCall_det (isPlace_sound c x.c (hasCB x.op) h) hp2 ?_
          simp (decide := true) only [codeW, row1_length, rows_length, cI, cB, cS, roI, ro64, hp2, go_sem, Nat.reduceAdd, Nat.reduceMul]
          cases hC : isPlaceB c x.c (hasCB x.op) with
          | false =>
            simp (decide := true) only [codeW, row1_length, rows_length, cI, cB, cS, roI, ro64, hp2, go_sem, Nat.reduceAdd, Nat.reduceMul]
          | true =>
            simp_all
    | true =>
      simp (decide := true) only [codeW, row1_length, rows_length, cI, cB, cS, roI, ro64, hp2, go_sem, Nat.reduceAdd, Nat.reduceMul]
      refine aCall_det (hasBI_sound x.op) hp2 ?_
      simp (decide := true) only [codeW, row1_length, rows_length, cI, cB, cS, roI, ro64, hp2, go_sem, Nat.reduceAdd, Nat.reduceMul]
      refine aCall_det (isPlace_sound c x.b (hasBB x.op) h) hp2 ?_
      simp (decide := true) only [codeW, row1_length, rows_length, cI, cB, cS, roI, ro64, hp2, go_sem, Nat.reduceAdd, Nat.reduceMul]
      cases hB : isPlaceB c x.b (hasBB x.op) with
      | false =>
        simp (decide := true) only [codeW, row1_length, rows_length, cI, cB, cS, roI, ro64, hp2, go_sem, Nat.reduceAdd, Nat.reduceMul]
      | true =>
        simp (decide := true) only [codeW, row1_length, rows_length, cI, cB, cS, roI, ro64, hp2, go_sem, Nat.reduceAdd, Nat.reduceMul]
        refine aCall_det (hasCI_sound x.op) hp2 ?_
        simp (decide := true) only [codeW, row1_length, rows_length, cI, cB, cS, roI, ro64, hp2, go_sem, Nat.reduceAdd, Nat.reduceMul]
        refine aCall_det (isPlace_sound c x.c (hasCB x.op) h) hp2 ?_
        simp (decide := true) only [codeW, row1_length, rows_length, cI, cB, cS, roI, ro64, hp2, go_sem, Nat.reduceAdd, Nat.reduceMul]
        cases hC : isPlaceB c x.c (hasCB x.op) with
        | false =>
          simp (decide := true) only [codeW, row1_length, rows_length, cI, cB, cS, roI, ro64, hp2, go_sem, Nat.reduceAdd, Nat.reduceMul]
        | true =>
          simp_all
  | true =>
  simp only [Bool.true_and]
  refine Tri.stop sized ⟨107, [(2, .ip (codeC true c) 0), (3, .ip (insC true x) 0), (4, vB false)], []⟩ ?_ ?_
  · unfold partsB at hall
    generalize noneB x = nb at hall ⊢
    simp (decide := true) only [vB, insC, codeC, row1_length, rows_length, cI, cB, cS, roI, ro64, hpin, go_sem, Nat.reduceAdd, Nat.reduceMul]
    refine Tri.sched sized [(0, false), (1, false), (2, false), (3, true), (4, true), (6, true), (5, true), (7, true), (8, false), (9, false), (10, false), (11, false), (12, false), (13, true), (14, true), (16, true), (15, true), (17, true), (18, false), (19, false), (20, false), (21, false), (22, false), (23, true), (24, true), (26, true), (25, true), (27, true), (28, false), (29, false), (30, false), (31, false)] mixed (by kernel_rfl) (fun C2 hC2 => ?_)
    have hp2 : ∀ o, isPin o = false → C2.pin o = none := by rw [hC2]; exact hpin
    cases nb with
    | false =>
      simp (decide := true) only [codeW, row1_length, rows_length, cI, cB, cS, roI, ro64, hp2, go_sem, Nat.reduceAdd, Nat.reduceMul]
      refine aCall_det (hasA_sound x.op) hp2 ?_
      simp (decide := true) only [codeW, row1_length, rows_length, cI, cB, cS, roI, ro64, hp2, go_sem, Nat.reduceAdd, Nat.reduceMul]
      refine aCall_det (isPlace_sound c x.a (hasAB x.op) h) hp2 ?_
      simp (decide := true) only [codeW, row1_length, rows_length, cI, cB, cS, roI, ro64, hp2, go_sem, Nat.reduceAdd, Nat.reduceMul]
      cases hA : isPlaceB c x.a (hasAB x.op) with
      | false =>
        simp_all
      | true =>
        simp (decide := true) only [codeW, row1_length, rows_length, cI, cB, cS, roI, ro64, hp2, go_sem, Nat.reduceAdd, Nat.reduceMul]
        refine aCall_det (hasBI_sound x.op) hp2 ?_
        simp (decide := true) only [codeW, row1_length, rows_length, cI, cB, cS, roI, ro64, hp2, go_sem, Nat.reduceAdd, Nat.reduceMul]
        refine aCall_det (isPlace_sound c x.b (hasBB x.op) h) hp2 ?_
        simp (decide := true) only [codeW, row1_length, rows_length, cI, cB, cS, roI, ro64, hp2, go_sem, Nat.reduceAdd, Nat.reduceMul]
        cases hB : isPlaceB c x.b (hasBB x.op) with
        | false =>
          simp_all
        | true =>
          simp (decide := true) only [codeW, row1_length, rows_length, cI, cB, cS, roI, ro64, hp2, go_sem, Nat.reduceAdd, Nat.reduceMul]
          refine aCall_det (hasCI_sound x.op) hp2 ?_
          simp (decide := true) only [codeW, row1_length, rows_length, cI, cB, cS, roI, ro64, hp2, go_sem, Nat.reduceAdd, Nat.reduceMul]
          refine aCall_det (isPlace_sound c x.c (hasCB x.op) h) hp2 ?_
          simp (decide := true) only [codeW, row1_length, rows_length, cI, cB, cS, roI, ro64, hp2, go_sem, Nat.reduceAdd, Nat.reduceMul]
          cases hC : isPlaceB c x.c (hasCB x.op) with
          | false =>
            simp_all
          | true =>
            simp (decide := true) only [codeW, row1_length, rows_length, cI, cB, cS, roI, ro64, hp2, go_sem, Nat.reduceAdd, Nat.reduceMul]
            refine Ent.weak ?_ ?_ ?_ ?_ <;> simp (decide := true) [subT, subB, hereT, hereV, hereL, St.get, look, vI, vB, vS, cI, cS, cB, insC, codeC, roI]
    | true =>
      simp (decide := true) only [codeW, row1_length, rows_length, cI, cB, cS, roI, ro64, hp2, go_sem, Nat.reduceAdd, Nat.reduceMul]
      refine aCall_det (hasBI_sound x.op) hp2 ?_
      simp (decide := true) only [codeW, row1_length, rows_length, cI, cB, cS, roI, ro64, hp2, go_sem, Nat.reduceAdd, Nat.reduceMul]
      refine aCall_det (isPlace_sound c x.b (hasBB x.op) h) hp2 ?_
      simp (decide := true) only [codeW, row1_length, rows_length, cI, cB, cS, roI, ro64, hp2, go_sem, Nat.reduceAdd, Nat.reduceMul]
      cases hB : isPlaceB c x.b (hasBB x.op) with
      | false =>
        simp_all
      | true =>
        simp (decide := true) only [codeW, row1_length, rows_length, cI, cB, cS, roI, ro64, hp2, go_sem, Nat.reduceAdd, Nat.reduceMul]
        refine aCall_det (hasCI_sound x.op) hp2 ?_
        simp (decide := true) only [codeW, row1_length, rows_length, cI, cB, cS, roI, ro64, hp2, go_sem, Nat.reduceAdd, Nat.reduceMul]
        refine aCall_det (isPlace_sound c x.c (hasCB x.op) h) hp2 ?_
        simp (decide := true) only [codeW, row1_length, rows_length, cI, cB, cS, roI, ro64, hp2, go_sem, Nat.reduceAdd, Nat.reduceMul]
        cases hC : isPlaceB c x.c (hasCB x.op) with
        | false =>
          simp_all
        | true =>
          simp (decide := true) only [codeW, row1_length, rows_length, cI, cB, cS, roI, ro64, hp2, go_sem, Nat.reduceAdd, Nat.reduceMul]
          refine Ent.weak ?_ ?_ ?_ ?_ <;> simp (decide := true) [subT, subB, hereT, hereV, hereL, St.get, look, vI, vB, vS, cI, cS, cB, insC, codeC, roI]
  refine Tri.step sized ?_
  simp (decide := true) only [row1_length, rows_length, cI, cB, cS, roI, ro64, hpin, go_sem, Nat.reduceAdd, Nat.reduceMul]
  have wl : IntKind.i64.wrap ((c.words.length : Int) - 1) = c.words.length - 1 := w64 (by omega) (by omega)
  refine Tri.stop sized ⟨107, [(2, .ip (codeC true c) 0), (3, .ip (insC true x) 0), (4, vB false), (6, vI (highB c x))], []⟩ ?_ ?_
  · simp (decide := true) only [vB, insC, codeC, row1_length, rows_length, cI, cB, cS, roI, ro64, hpin, go_sem, Nat.reduceAdd, Nat.reduceMul]
    cases h1 : x.op == 1 with
    | true =>
      simp (decide := true) only [row1_length, rows_length, cI, cB, cS, roI, ro64, hpin, go_sem, Nat.reduceAdd, Nat.reduceMul]
      refine Ent.weak ?_ ?_ ?_ ?_ <;> simp (decide := true) [subT, subB, hereT, hereV, hereL, St.get, look, vI, vB, vS, cI, cS, cB, insC, codeC, roI, highB, h1]
    | false =>
    simp (decide := true) only [row1_length, rows_length, cI, cB, cS, roI, ro64, hpin, go_sem, Nat.reduceAdd, Nat.reduceMul]
    cases h18 : x.op == 18 with
    | true =>
      simp (decide := true) only [wl, row1_length, rows_length, cI, cB, cS, roI, ro64, hpin, go_sem, Nat.reduceAdd, Nat.reduceMul]
      refine Ent.weak ?_ ?_ ?_ ?_ <;> simp (decide := true) [subT, subB, hereT, hereV, hereL, St.get, look, vI, vB, vS, cI, cS, cB, insC, codeC, roI, highB, h1, h18]
    | false =>
    simp (decide := true) only [row1_length, rows_length, cI, cB, cS, roI, ro64, hpin, go_sem, Nat.reduceAdd, Nat.reduceMul]
    cases h19 : x.op == 19 with
    | true =>
      simp (decide := true) only [wl, row1_length, rows_length, cI, cB, cS, roI, ro64, hpin, go_sem, Nat.reduceAdd, Nat.reduceMul]
      refine Ent.weak ?_ ?_ ?_ ?_ <;> simp (decide := true) [subT, subB, hereT, hereV, hereL, St.get, look, vI, vB, vS, cI, cS, cB, insC, codeC, roI, highB, h1, h18, h19]
    | false =>
      simp (decide := true) only [row1_length, rows_length, cI, cB, cS, roI, ro64, hpin, go_sem, Nat.reduceAdd, Nat.reduceMul]
      refine Ent.weak ?_ ?_ ?_ ?_ <;> simp (decide := true) [subT, subB, hereT, hereV, hereL, St.get, look, vI, vB, vS, cI, cS, cB, insC, codeC, roI, highB, h1, h18, h19]
  refine Tri.step sized ?_
  simp (decide := true) only [vB, vI, insC, codeC, row1_length, rows_length, cI, cB, cS, roI, ro64, hpin, go_sem, Nat.reduceAdd, Nat.reduceMul]
  refine aCall_det (in' x.num 0 (highB c x)) hpin ?_
  simp (decide := true) only [row1_length, rows_length, cI, cB, cS, roI, ro64, hpin, go_sem, Nat.reduceAdd, Nat.reduceMul]
  cases hn : inI x.num 0 (highB c x) with
  | false => simp (decide := true) only [Bool.false_and, row1_length, rows_length, cI, cB, cS, roI, ro64, hpin, go_sem, Nat.reduceAdd, Nat.reduceMul]
  | true =>
  simp (decide := true) only [Bool.true_and, row1_length, rows_length, cI, cB, cS, roI, ro64, hpin, go_sem, Nat.reduceAdd, Nat.reduceMul]
  refine code_sound sized _ ?_
  simp (decide := true) only [bne, row1_length, rows_length, cI, cB, cS, roI, ro64, hpin, go_sem, Nat.reduceAdd, Nat.reduceMul]
  unfold tailB
  cases h13 : x.op == 13 with
  | false =>
    simp (decide := true) only [bne, row1_length, rows_length, cI, cB, cS, roI, ro64, hpin, go_sem, Nat.reduceAdd, Nat.reduceMul]
    cases hx : decide (x.name = ⟨#[]⟩) with
    | false => simp (decide := true) only [Bool.false_and, Bool.false_eq_true, if_false, row1_length, rows_length, cI, cB, cS, roI, ro64, hpin, go_sem, Nat.reduceAdd, Nat.reduceMul]
    | true => simp (decide := true) only [Bool.true_and, Bool.false_eq_true, if_false, row1_length, rows_length, cI, cB, cS, roI, ro64, hpin, go_sem, Nat.reduceAdd, Nat.reduceMul]
  | true =>
    simp (decide := true) only [row1_length, rows_length, cI, cB, cS, roI, ro64, hpin, go_sem, Nat.reduceAdd, Nat.reduceMul]
    refine Tri.loop (ι := Nat) (fun i => i ≤ x.args.length ∧ argsB c (x.args.take i) = true) (fun i => ⟨107, [(2, .ip (codeC true c) 0), (3, .ip (insC true x) 0), (4, vB false), (87, roI x.args), (88, vI x.args.length), (89, vI i)], []⟩) (fun i => x.args.length - i) 0 (by simp [argsB]) ?_ ?_
    · refine Ent.weak ?_ ?_ ?_ ?_ <;> simp (decide := true) [subT, subB, hereT, hereV, hereL, St.get, look, vI, vB, vS, cI, cS, cB, insC, codeC, roI]
    · rintro i ⟨hi, hn⟩
      refine code_sound sized _ ?_
      by_cases h' : i < x.args.length
      · have e : ((i : Int) < (x.args.length : Int)) = True := by simp [h']
        simp (decide := true) only [e, row1_get _ _ h', Int.natCast_nonneg, vB, vI, insC, codeC, row1_length, rows_length, cI, cB, cS, roI, ro64, hpin, go_sem, Nat.reduceAdd, Nat.reduceMul]
        refine aCall_det (isPlace_sound c x.args[i] true h) hpin ?_
        simp (decide := true) only [codeW, isPlaceB, row1_length, rows_length, cI, cB, cS, roI, ro64, hpin, go_sem, Nat.reduceAdd, Nat.reduceMul]
        cases hp : placeB c x.args[i] with
        | false => simp (decide := true) only [args_false h' hp, Bool.false_and, row1_length, rows_length, cI, cB, cS, roI, ro64, hpin, go_sem, Nat.reduceAdd, Nat.reduceMul]
        | true =>
          simp (decide := true) only [row1_length, rows_length, cI, cB, cS, roI, ro64, hpin, go_sem, Nat.reduceAdd, Nat.reduceMul]
          refine ⟨i + 1, ⟨h', by rw [args_take h', hn, hp]; rfl⟩, by omega, Ent.weak ?_ ?_ ?_ ?_⟩
          all_goals simp (decide := true) [subT, subB, hereT, hereV, hereL, St.get, look, vI, vB, vS, cI, cS, cB, insC, codeC, roI, w64s (n := x.args.length) h' (by omega)]
      · have hil : i = x.args.length := by omega
        subst hil
        have e : ((x.args.length : Int) < (x.args.length : Int)) = False := by simp
        rw [List.take_length] at hn
        simp (decide := true) only [e, hn, vB, vI, insC, codeC, row1_length, rows_length, cI, cB, cS, roI, ro64, hpin, go_sem, Nat.reduceAdd, Nat.reduceMul]
        refine aCall_det (nameI_sound x.name) hpin ?_
        simp (decide := true) only [row1_length, rows_length, cI, cB, cS, roI, ro64, hpin, go_sem, Nat.reduceAdd, Nat.reduceMul]
        cases hx : nameB x.name with
        | false => simp (decide := true) only [Bool.false_and, row1_length, rows_length, cI, cB, cS, roI, ro64, hpin, go_sem, Nat.reduceAdd, Nat.reduceMul]
        | true =>
          simp (decide := true) only [Bool.true_and, row1_length, rows_length, cI, cB, cS, roI, ro64, hpin, go_sem, Nat.reduceAdd, Nat.reduceMul]
          simp [hn]
end Go.Proofs.YtnbodmohnkohfaaDoor.AW
