/- Whether a code is right, as the program tells it and as the reference does. No condition beyond those named. -/
import Derived.Test.YtnbodmohnkohfaaDoorSe
namespace Go.Proofs.YtnbodmohnkohfaaDoor.AW
open Go.RowKit
set_option maxHeartbeats 8000000
set_option maxRecDepth 100000
set_option linter.unusedSimpArgs false
set_option linter.unusedVariables false

theorem all_take {α : Type} {f : α → Bool} {l : List α} {i : Nat} (h : i < l.length) : (l.take (i + 1)).all f = ((l.take i).all f && f l[i]) := by
  rw [List.take_succ_eq_append_getElem h, List.all_append]; simp
theorem all_false {α : Type} {f : α → Bool} {l : List α} {i : Nat} (h : i < l.length) (hp : f l[i] = false) : l.all f = false := by
  rw [List.all_eq_false]
  exact ⟨l[i], List.getElem_mem h, by simp [hp]⟩
def tyB (n : Int) : Bool := inI n 1 4
def lastB (c : CodeD) : Bool := match c.words[c.words.length - 1]? with
  | some x => x.op == 20
  | none => false
def codeB (c : CodeD) : Bool := nameB c.name && (!decide ((200 : Int) < c.locals.length) && (inI c.params 0 c.locals.length && (inI c.words.length 1 400 && (lastB c && (c.locals.all tyB && c.words.all (wordS c))))))

theorem codeS_sound (c : CodeD) (h : c.locals.length ≤ 1048576) (hw : c.words.length ≤ 1048576) (hl : ∀ y ∈ c.words, y.args.length ≤ 1048576) : Sound Tryd.prog 15 [.ro (codeW c)] (fun rs st => rs = [(false, [cB (codeB c)])]) := by
  refine sound_tri (fn := Tryd.f15) (c := Tryd.f15.body.getD .skip) (res := [.tm 2]) (n := 72) sized (by kernel_rfl) (by rfl) (by kernel_rfl) (by rfl) (by rfl) (by simp [argsV]) (fun uf ub C hpin hpin2 hfull => ?_)
  simp only [Tryd.f15, Option.getD_some]
  refine Tri.step sized ?_
  simp (decide := true) only [codeW, insW, codeC, insC, row1_length, rows_length, cI, cB, cS, roI, ro64, hpin, go_sem, Nat.reduceAdd, Nat.reduceMul]
  refine Tri.ent ?_ (Ent.frb hfull 1)
  refine Tri.step sized ?_
  simp (decide := true) only [row1_length, rows_length, cI, cB, cS, roI, ro64, hpin, go_sem, Nat.reduceAdd, Nat.reduceMul]
  refine aCall_det (nameS_sound c.name) hpin ?_
  simp (decide := true) only [bne, codeW, insW, row1_length, rows_length, cI, cB, cS, roI, ro64, hpin, go_sem, Nat.reduceAdd, Nat.reduceMul]
  unfold codeB
  have hg : (∃ n : Int, ((rows (insC true) c.words).getD (IntKind.i64.wrap ((c.words.length : Int) - 1)).toNat [])[0]? = some (.sc (.int .i64 n))) ∨ ((rows (insC true) c.words).getD (IntKind.i64.wrap ((c.words.length : Int) - 1)).toNat [])[0]? = none := by
    by_cases h0 : 1 ≤ c.words.length
    · left
      have w0 : (IntKind.i64.wrap ((c.words.length : Int) - 1)).toNat = c.words.length - 1 := by rw [w64 (by omega) (by omega)]; omega
      rw [w0, rows_get _ _ (show c.words.length - 1 < c.words.length by omega)]
      exact ⟨_, rfl⟩
    · right
      have : c.words = [] := List.eq_nil_of_length_eq_zero (by omega)
      rw [this]; simp [rows]
  cases h1 : nameB c.name with
  | false => rcases hg with ⟨n, hg⟩ | hg <;> simp (decide := true) only [hg, Bool.false_and, codeW, insW, row1_length, rows_length, cI, cB, cS, roI, ro64, hpin, go_sem, Nat.reduceAdd, Nat.reduceMul]
  | true =>
  simp (decide := true) only [Bool.true_and, codeW, insW, row1_length, rows_length, cI, cB, cS, roI, ro64, hpin, go_sem, Nat.reduceAdd, Nat.reduceMul]
  cases h2 : decide ((200 : Int) < c.locals.length) with
  | true => rcases hg with ⟨n, hg⟩ | hg <;> simp (decide := true) only [hg, Bool.false_and, codeW, insW, row1_length, rows_length, cI, cB, cS, roI, ro64, hpin, go_sem, Nat.reduceAdd, Nat.reduceMul]
  | false =>
  simp (decide := true) only [Bool.true_and, codeW, insW, row1_length, rows_length, cI, cB, cS, roI, ro64, hpin, go_sem, Nat.reduceAdd, Nat.reduceMul]
  refine aCall_det (l01In' c.params 0 c.locals.length) hpin ?_
  simp (decide := true) only [bne, codeW, insW, row1_length, rows_length, cI, cB, cS, roI, ro64, hpin, go_sem, Nat.reduceAdd, Nat.reduceMul]
  cases h3 : inI c.params 0 c.locals.length with
  | false => rcases hg with ⟨n, hg⟩ | hg <;> simp (decide := true) only [hg, Bool.false_and, codeW, insW, row1_length, rows_length, cI, cB, cS, roI, ro64, hpin, go_sem, Nat.reduceAdd, Nat.reduceMul]
  | true =>
  simp (decide := true) only [Bool.true_and, codeW, insW, row1_length, rows_length, cI, cB, cS, roI, ro64, hpin, go_sem, Nat.reduceAdd, Nat.reduceMul]
  refine aCall_det (l01In' c.words.length 1 400) hpin ?_
  simp (decide := true) only [bne, codeW, insW, row1_length, rows_length, cI, cB, cS, roI, ro64, hpin, go_sem, Nat.reduceAdd, Nat.reduceMul]
  cases h4 : inI c.words.length 1 400 with
  | false => rcases hg with ⟨n, hg⟩ | hg <;> simp (decide := true) only [hg, Bool.false_and, codeW, insW, row1_length, rows_length, cI, cB, cS, roI, ro64, hpin, go_sem, Nat.reduceAdd, Nat.reduceMul]
  | true =>
  have hn : 1 ≤ c.words.length := by simp [inI] at h4; omega
  have hk : c.words.length - 1 < c.words.length := by omega
  have w1 : IntKind.i64.wrap ((c.words.length : Int) - 1) = ((c.words.length - 1 : Nat) : Int) := by rw [w64 (by omega) (by omega)]; omega
  have e10 : lastB c = (c.words[c.words.length - 1].op == 20) := by simp [lastB, hk]
  have e11 : (((c.words.length - 1 : Nat) : Int) < (c.words.length : Int)) = True := by simp; omega
  simp (decide := true) only [w1, e11, rows_get _ _ hk, Int.natCast_nonneg, insC, bne, Bool.true_and, e10, codeW, insW, row1_length, rows_length, cI, cB, cS, roI, ro64, hpin, go_sem, Nat.reduceAdd, Nat.reduceMul]
  cases h5 : c.words[c.words.length - 1].op == 20 with
  | false =>
    simp (decide := true) only [Bool.false_and, codeW, insW, row1_length, rows_length, cI, cB, cS, roI, ro64, hpin, go_sem, Nat.reduceAdd, Nat.reduceMul]
    simp [e10, h5]
  | true =>
  have e12 : lastB c = true := by rw [e10]; exact h5
  rw [e12]
  simp (decide := true) only [Bool.true_and, codeW, insW, row1_length, rows_length, cI, cB, cS, roI, ro64, hpin, go_sem, Nat.reduceAdd, Nat.reduceMul]
  refine Tri.step sized ?_
  simp (decide := true) only [row1_length, rows_length, cI, cB, cS, roI, ro64, hpin, go_sem, Nat.reduceAdd, Nat.reduceMul]
  refine Tri.loop (ι := Nat) (fun i => i ≤ c.locals.length ∧ (c.locals.take i).all tyB = true) (fun i => ⟨72, [(1, .ip (codeC true c) 0), (2, vB false), (3, vI i)], []⟩) (fun i => c.locals.length - i) 0 (by simp) ?_ ?_
  · refine Ent.weak ?_ ?_ ?_ ?_ <;> simp (decide := true) [subT, subB, hereT, hereV, hereL, St.get, look, vI, vB, vS, cI, cS, cB, insC, codeC, roI]
  · rintro i ⟨hi, hq⟩
    refine code_sound sized _ ?_
    by_cases h' : i < c.locals.length
    · have e : ((i : Int) < (c.locals.length : Int)) = True := by simp [h']
      simp (decide := true) only [e, row1_get _ _ h', Int.natCast_nonneg, vB, vI, insC, codeC, row1_length, rows_length, cI, cB, cS, roI, ro64, hpin, go_sem, Nat.reduceAdd, Nat.reduceMul]
      refine aCall_det (l01In' c.locals[i] 1 4) hpin ?_
      simp (decide := true) only [bne, codeW, insW, row1_length, rows_length, cI, cB, cS, roI, ro64, hpin, go_sem, Nat.reduceAdd, Nat.reduceMul]
      cases hp : inI c.locals[i] 1 4 with
      | false => simp (decide := true) only [all_false (f := tyB) h' hp, Bool.false_and, row1_length, rows_length, cI, cB, cS, roI, ro64, hpin, go_sem, Nat.reduceAdd, Nat.reduceMul]
      | true =>
        simp (decide := true) only [row1_length, rows_length, cI, cB, cS, roI, ro64, hpin, go_sem, Nat.reduceAdd, Nat.reduceMul]
        refine ⟨i + 1, ⟨h', by rw [all_take h', hq, tyB, hp]; rfl⟩, by omega, Ent.weak ?_ ?_ ?_ ?_⟩
        all_goals simp (decide := true) [subT, subB, hereT, hereV, hereL, St.get, look, vI, vB, vS, cI, cS, cB, insC, codeC, roI, w64s (n := c.locals.length) h' (by omega)]
    · have hil : i = c.locals.length := by omega
      subst hil
      have e : ((c.locals.length : Int) < (c.locals.length : Int)) = False := by simp
      rw [List.take_length] at hq
      simp (decide := true) only [e, hq, Bool.true_and, vB, vI, insC, codeC, row1_length, rows_length, cI, cB, cS, roI, ro64, hpin, go_sem, Nat.reduceAdd, Nat.reduceMul]
      refine code_sound sized _ ?_
      simp (decide := true) only [row1_length, rows_length, cI, cB, cS, roI, ro64, hpin, go_sem, Nat.reduceAdd, Nat.reduceMul]
      refine Tri.loop (ι := Nat) (fun i => i ≤ c.words.length ∧ (c.words.take i).all (wordS c) = true) (fun i => ⟨72, [(1, .ip (codeC true c) 0), (2, vB false), (4, vI i)], []⟩) (fun i => c.words.length - i) 0 (by simp) ?_ ?_
      · refine Ent.weak ?_ ?_ ?_ ?_ <;> simp (decide := true) [subT, subB, hereT, hereV, hereL, St.get, look, vI, vB, vS, cI, cS, cB, insC, codeC, roI]
      · rintro i ⟨hi, hq2⟩
        refine code_sound sized _ ?_
        by_cases h' : i < c.words.length
        · have e : ((i : Int) < (c.words.length : Int)) = True := by simp [h']
          have hla := hl _ (List.getElem_mem h')
          simp (decide := true) only [e, rows_get _ _ h', Int.natCast_nonneg, vB, vI, insC, codeC, row1_length, rows_length, cI, cB, cS, roI, ro64, hpin, go_sem, Nat.reduceAdd, Nat.reduceMul]
          refine Tri.sched sized [(0, true), (1, true), (3, true), (2, true), (4, true), (5, true), (6, false), (7, false)] mixed (by kernel_rfl) (fun C2 hC2 => ?_)
          have hp2 : ∀ o, isPin o = false → C2.pin o = none := by rw [hC2]; exact hpin
          simp (decide := true) only [e, rows_get _ _ h', Int.natCast_nonneg, codeW, insC, row1_length, rows_length, cI, cB, cS, roI, ro64, hp2, go_sem, Nat.reduceAdd, Nat.reduceMul]
          refine aCall_det (wordS_sound c c.words[i] h hw hla) hp2 ?_
          simp (decide := true) only [codeW, insW, row1_length, rows_length, cI, cB, cS, roI, ro64, hp2, go_sem, Nat.reduceAdd, Nat.reduceMul]
          cases hp : wordS c c.words[i] with
          | false => simp (decide := true) only [all_false h' hp, row1_length, rows_length, cI, cB, cS, roI, ro64, hpin, go_sem, Nat.reduceAdd, Nat.reduceMul]
          | true =>
            simp (decide := true) only [row1_length, rows_length, cI, cB, cS, roI, ro64, hpin, go_sem, Nat.reduceAdd, Nat.reduceMul]
            refine ⟨i + 1, ⟨h', by rw [all_take h', hq2, hp]; rfl⟩, by omega, Ent.weak ?_ ?_ ?_ ?_⟩
            all_goals simp (decide := true) [subT, subB, hereT, hereV, hereL, St.get, look, vI, vB, vS, cI, cS, cB, insC, codeC, roI, w64s (n := c.words.length) h' (by omega)]
        · have hil : i = c.words.length := by omega
          subst hil
          have e : ((c.words.length : Int) < (c.words.length : Int)) = False := by simp
          rw [List.take_length] at hq2
          simp (decide := true) only [e, hq2, vB, vI, insC, codeC, row1_length, rows_length, cI, cB, cS, roI, ro64, hpin, go_sem, Nat.reduceAdd, Nat.reduceMul]

theorem codeI_sound (c : CodeD) (h : c.locals.length ≤ 1048576) (hw : c.words.length ≤ 1048576) (hl : ∀ y ∈ c.words, y.args.length ≤ 1048576) : Sound Tryd.prog 19 [.ro (codeW c)] (fun rs st => rs = [(false, [cB (codeB c)])]) := by
  refine sound_tri (fn := Tryd.f19) (c := Tryd.f19.body.getD .skip) (res := [.tm 2]) (n := 68) sized (by kernel_rfl) (by rfl) (by kernel_rfl) (by rfl) (by rfl) (by simp [argsV]) (fun uf ub C hpin hpin2 hfull => ?_)
  simp only [Tryd.f19, Option.getD_some]
  refine Tri.step sized ?_
  simp (decide := true) only [codeW, insW, codeC, insC, row1_length, rows_length, cI, cB, cS, roI, ro64, hpin, go_sem, Nat.reduceAdd, Nat.reduceMul]
  refine Tri.ent ?_ (Ent.frb hfull 1)
  refine Tri.step sized ?_
  simp (decide := true) only [row1_length, rows_length, cI, cB, cS, roI, ro64, hpin, go_sem, Nat.reduceAdd, Nat.reduceMul]
  refine Tri.step sized ?_
  simp (decide := true) only [row1_length, rows_length, cI, cB, cS, roI, ro64, hpin, go_sem, Nat.reduceAdd, Nat.reduceMul]
  refine aCall_det (nameI_sound c.name) hpin ?_
  simp (decide := true) only [bne, codeW, insW, row1_length, rows_length, cI, cB, cS, roI, ro64, hpin, go_sem, Nat.reduceAdd, Nat.reduceMul]
  unfold codeB
  have hg : (∃ n : Int, ((rows (insC true) c.words).getD (IntKind.i64.wrap ((c.words.length : Int) - 1)).toNat [])[0]? = some (.sc (.int .i64 n))) ∨ ((rows (insC true) c.words).getD (IntKind.i64.wrap ((c.words.length : Int) - 1)).toNat [])[0]? = none := by
    by_cases h0 : 1 ≤ c.words.length
    · left
      have w0 : (IntKind.i64.wrap ((c.words.length : Int) - 1)).toNat = c.words.length - 1 := by rw [w64 (by omega) (by omega)]; omega
      rw [w0, rows_get _ _ (show c.words.length - 1 < c.words.length by omega)]
      exact ⟨_, rfl⟩
    · right
      have : c.words = [] := List.eq_nil_of_length_eq_zero (by omega)
      rw [this]; simp [rows]
  cases h1 : nameB c.name with
  | false => rcases hg with ⟨n, hg⟩ | hg <;> simp (decide := true) only [hg, Bool.false_and, codeW, insW, row1_length, rows_length, cI, cB, cS, roI, ro64, hpin, go_sem, Nat.reduceAdd, Nat.reduceMul]
  | true =>
  simp (decide := true) only [Bool.true_and, codeW, insW, row1_length, rows_length, cI, cB, cS, roI, ro64, hpin, go_sem, Nat.reduceAdd, Nat.reduceMul]
  cases h2 : decide ((200 : Int) < c.locals.length) with
  | true => rcases hg with ⟨n, hg⟩ | hg <;> simp (decide := true) only [hg, Bool.false_and, codeW, insW, row1_length, rows_length, cI, cB, cS, roI, ro64, hpin, go_sem, Nat.reduceAdd, Nat.reduceMul]
  | false =>
  simp (decide := true) only [Bool.true_and, codeW, insW, row1_length, rows_length, cI, cB, cS, roI, ro64, hpin, go_sem, Nat.reduceAdd, Nat.reduceMul]
  refine aCall_det (in' c.params 0 c.locals.length) hpin ?_
  simp (decide := true) only [bne, codeW, insW, row1_length, rows_length, cI, cB, cS, roI, ro64, hpin, go_sem, Nat.reduceAdd, Nat.reduceMul]
  cases h3 : inI c.params 0 c.locals.length with
  | false => rcases hg with ⟨n, hg⟩ | hg <;> simp (decide := true) only [hg, Bool.false_and, codeW, insW, row1_length, rows_length, cI, cB, cS, roI, ro64, hpin, go_sem, Nat.reduceAdd, Nat.reduceMul]
  | true =>
  simp (decide := true) only [Bool.true_and, codeW, insW, row1_length, rows_length, cI, cB, cS, roI, ro64, hpin, go_sem, Nat.reduceAdd, Nat.reduceMul]
  refine aCall_det (in' c.words.length 1 400) hpin ?_
  simp (decide := true) only [bne, codeW, insW, row1_length, rows_length, cI, cB, cS, roI, ro64, hpin, go_sem, Nat.reduceAdd, Nat.reduceMul]
  cases h4 : inI c.words.length 1 400 with
  | false => rcases hg with ⟨n, hg⟩ | hg <;> simp (decide := true) only [hg, Bool.false_and, codeW, insW, row1_length, rows_length, cI, cB, cS, roI, ro64, hpin, go_sem, Nat.reduceAdd, Nat.reduceMul]
  | true =>
  have hn : 1 ≤ c.words.length := by simp [inI] at h4; omega
  have hk : c.words.length - 1 < c.words.length := by omega
  have w1 : IntKind.i64.wrap ((c.words.length : Int) - 1) = ((c.words.length - 1 : Nat) : Int) := by rw [w64 (by omega) (by omega)]; omega
  have e10 : lastB c = (c.words[c.words.length - 1].op == 20) := by simp [lastB, hk]
  have e11 : (((c.words.length - 1 : Nat) : Int) < (c.words.length : Int)) = True := by simp; omega
  simp (decide := true) only [w1, e11, rows_get _ _ hk, Int.natCast_nonneg, insC, bne, Bool.true_and, e10, codeW, insW, row1_length, rows_length, cI, cB, cS, roI, ro64, hpin, go_sem, Nat.reduceAdd, Nat.reduceMul]
  cases h5 : c.words[c.words.length - 1].op == 20 with
  | false =>
    simp (decide := true) only [Bool.false_and, codeW, insW, row1_length, rows_length, cI, cB, cS, roI, ro64, hpin, go_sem, Nat.reduceAdd, Nat.reduceMul]
    simp [e10, h5]
  | true =>
  have e12 : lastB c = true := by rw [e10]; exact h5
  rw [e12]
  simp (decide := true) only [Bool.true_and, codeW, insW, row1_length, rows_length, cI, cB, cS, roI, ro64, hpin, go_sem, Nat.reduceAdd, Nat.reduceMul]
  refine Tri.step sized ?_
  simp (decide := true) only [row1_length, rows_length, cI, cB, cS, roI, ro64, hpin, go_sem, Nat.reduceAdd, Nat.reduceMul]
  refine Tri.loop (ι := Nat) (fun i => i ≤ c.locals.length ∧ (c.locals.take i).all tyB = true) (fun i => ⟨68, [(1, .ip (codeC true c) 0), (2, vB false), (46, roI c.locals), (47, vI c.locals.length), (48, vI i)], []⟩) (fun i => c.locals.length - i) 0 (by simp) ?_ ?_
  · refine Ent.weak ?_ ?_ ?_ ?_ <;> simp (decide := true) [subT, subB, hereT, hereV, hereL, St.get, look, vI, vB, vS, cI, cS, cB, insC, codeC, roI]
  · rintro i ⟨hi, hq⟩
    refine code_sound sized _ ?_
    by_cases h' : i < c.locals.length
    · have e : ((i : Int) < (c.locals.length : Int)) = True := by simp [h']
      simp (decide := true) only [e, row1_get _ _ h', Int.natCast_nonneg, vB, vI, insC, codeC, row1_length, rows_length, cI, cB, cS, roI, ro64, hpin, go_sem, Nat.reduceAdd, Nat.reduceMul]
      refine aCall_det (in' c.locals[i] 1 4) hpin ?_
      simp (decide := true) only [bne, codeW, insW, row1_length, rows_length, cI, cB, cS, roI, ro64, hpin, go_sem, Nat.reduceAdd, Nat.reduceMul]
      cases hp : inI c.locals[i] 1 4 with
      | false => simp (decide := true) only [all_false (f := tyB) h' hp, Bool.false_and, row1_length, rows_length, cI, cB, cS, roI, ro64, hpin, go_sem, Nat.reduceAdd, Nat.reduceMul]
      | true =>
        simp (decide := true) only [row1_length, rows_length, cI, cB, cS, roI, ro64, hpin, go_sem, Nat.reduceAdd, Nat.reduceMul]
        refine ⟨i + 1, ⟨h', by rw [all_take h', hq, tyB, hp]; rfl⟩, by omega, Ent.weak ?_ ?_ ?_ ?_⟩
        all_goals simp (decide := true) [subT, subB, hereT, hereV, hereL, St.get, look, vI, vB, vS, cI, cS, cB, insC, codeC, roI, w64s (n := c.locals.length) h' (by omega)]
    · have hil : i = c.locals.length := by omega
      subst hil
      have e : ((c.locals.length : Int) < (c.locals.length : Int)) = False := by simp
      rw [List.take_length] at hq
      simp (decide := true) only [e, hq, Bool.true_and, vB, vI, insC, codeC, row1_length, rows_length, cI, cB, cS, roI, ro64, hpin, go_sem, Nat.reduceAdd, Nat.reduceMul]
      refine code_sound sized _ ?_
      simp (decide := true) only [row1_length, rows_length, cI, cB, cS, roI, ro64, hpin, go_sem, Nat.reduceAdd, Nat.reduceMul]
      refine Tri.loop (ι := Nat) (fun i => i ≤ c.words.length ∧ (c.words.take i).all (wordS c) = true) (fun i => ⟨68, [(1, .ip (codeC true c) 0), (2, vB false), (57, .imm 45 (rows (insC true) c.words)), (58, vI c.words.length), (59, vI i)], []⟩) (fun i => c.words.length - i) 0 (by simp) ?_ ?_
      · refine Ent.weak ?_ ?_ ?_ ?_ <;> simp (decide := true) [subT, subB, hereT, hereV, hereL, St.get, look, vI, vB, vS, cI, cS, cB, insC, codeC, roI]
      · rintro i ⟨hi, hq2⟩
        refine code_sound sized _ ?_
        by_cases h' : i < c.words.length
        · have e : ((i : Int) < (c.words.length : Int)) = True := by simp [h']
          have hla := hl _ (List.getElem_mem h')
          simp (decide := true) only [e, rows_get _ _ h', Int.natCast_nonneg, vB, vI, insC, codeC, row1_length, rows_length, cI, cB, cS, roI, ro64, hpin, go_sem, Nat.reduceAdd, Nat.reduceMul]
          refine aCall_det (wordI_sound c c.words[i] h hw hla) hpin ?_
          rw [word_eq]
          simp (decide := true) only [bne, codeW, insW, row1_length, rows_length, cI, cB, cS, roI, ro64, hpin, go_sem, Nat.reduceAdd, Nat.reduceMul]
          cases hp : wordS c c.words[i] with
          | false => simp (decide := true) only [all_false h' hp, row1_length, rows_length, cI, cB, cS, roI, ro64, hpin, go_sem, Nat.reduceAdd, Nat.reduceMul]
          | true =>
            simp (decide := true) only [row1_length, rows_length, cI, cB, cS, roI, ro64, hpin, go_sem, Nat.reduceAdd, Nat.reduceMul]
            refine ⟨i + 1, ⟨h', by rw [all_take h', hq2, hp]; rfl⟩, by omega, Ent.weak ?_ ?_ ?_ ?_⟩
            all_goals simp (decide := true) [subT, subB, hereT, hereV, hereL, St.get, look, vI, vB, vS, cI, cS, cB, insC, codeC, roI, w64s (n := c.words.length) h' (by omega)]
        · have hil : i = c.words.length := by omega
          subst hil
          have e : ((c.words.length : Int) < (c.words.length : Int)) = False := by simp
          rw [List.take_length] at hq2
          simp (decide := true) only [e, hq2, vB, vI, insC, codeC, row1_length, rows_length, cI, cB, cS, roI, ro64, hpin, go_sem, Nat.reduceAdd, Nat.reduceMul]

end Go.Proofs.YtnbodmohnkohfaaDoor.AW
