/- The loans of a code, as the program tells them and as the reference does. No condition beyond those named. -/
import Derived.Test.YtngpjfajoajnjaaDoorSg
namespace Go.Proofs.YtngpjfajoajnjaaDoor.AW
open Go.RowKit
set_option maxHeartbeats 8000000
set_option maxRecDepth 100000
set_option linter.unusedSimpArgs false
set_option linter.unusedVariables false

def loanAt (i : Nat) (x : InsD) : List LoanD := if x.op == 6 || x.op == 7 then [⟨i, x.b, x.op == 7⟩] else []
def loansL : Nat → List InsD → List LoanD
  | _, [] => []
  | i, x :: r => loanAt i x ++ loansL (i + 1) r
theorem loansL_append : ∀ (i : Nat) (l l2 : List InsD), loansL i (l ++ l2) = loansL i l ++ loansL (i + l.length) l2
  | i, [], l2 => rfl
  | i, x :: r, l2 => by
    simp only [loansL, List.cons_append, loansL_append (i + 1) r l2, List.append_assoc, List.length_cons]
    congr 3; omega
theorem loansL_take (l : List InsD) {i : Nat} (h : i < l.length) : loansL 0 (l.take (i + 1)) = loansL 0 (l.take i) ++ loanAt i l[i] := by
  rw [List.take_succ_eq_append_getElem h, loansL_append]
  have e : 0 + (l.take i).length = i := by simp; omega
  rw [e]; simp [loansL]
theorem loanAt_length (i : Nat) (x : InsD) : (loanAt i x).length ≤ 1 := by unfold loanAt; split <;> simp
theorem loansL_length : ∀ (i : Nat) (l : List InsD), (loansL i l).length ≤ l.length
  | i, [] => by simp [loansL]
  | i, x :: r => by
    have h1 := loansL_length (i + 1) r
    have h2 := loanAt_length i x
    simp only [loansL, List.length_append, List.length_cons]; omega
theorem loansL_le (l : List InsD) (i : Nat) : (loansL 0 (l.take i)).length ≤ i := Nat.le_trans (loansL_length _ _) (by simp; omega)
theorem sumN_zero {α : Type} {f : α → Nat} (hf : ∀ x, f x = 0) : ∀ l : List α, sumN f l = 0
  | [] => rfl
  | x :: r => by simp only [sumN, List.map_cons, List.sum_cons, hf]; exact (Nat.zero_add _).trans (sumN_zero hf r)
theorem sumN_three {α : Type} {f : α → Nat} (n : Nat) (hf : ∀ x, f x = n) : ∀ l : List α, sumN f l = n * l.length
  | [] => by simp [sumN]
  | x :: r => by
    have := sumN_three n hf r
    simp only [sumN, List.map_cons, List.sum_cons, List.length_cons, hf] at this ⊢
    rw [this, Nat.mul_add]; omega
theorem code_marks : ∀ l : List InsD, sumN insN l ≤ 6 * l.length + sumN insCost l
  | [] => by simp [sumN]
  | x :: r => by
    have := code_marks r
    simp only [sumN, List.map_cons, List.sum_cons, List.length_cons] at this ⊢
    have e : insN x ≤ 6 + insCost x := by unfold insN insCost; omega
    omega
def loansB (c : CodeD) : List LoanD := if codeB c then loansL 0 c.words else []
theorem loansB_length (c : CodeD) : (loansB c).length ≤ c.words.length := by
  unfold loansB
  split
  · exact loansL_length 0 c.words
  · simp

theorem loansI_sound (c : CodeD) (h : c.locals.length ≤ 1048576) (hw : c.words.length ≤ 1048576) (hl : ∀ y ∈ c.words, y.args.length ≤ 1048576) : Sound Tryd.prog 7 [.ro (codeW c)] (fun rs st => rs = [(false, [.row false 44 (rows (loanC false) (loansB c))])]) := by
  refine sound_tri (fn := Tryd.f7) (c := Tryd.f7.body.getD .skip) (res := [.tm 2]) (n := 37) sized (by kernel_rfl) (by rfl) (by kernel_rfl) (by rfl) (by rfl) (by simp [argsV]) (fun uf ub C hpin hpin2 hfull => ?_)
  simp only [Tryd.f7, Option.getD_some]
  refine Tri.step sized ?_
  simp (decide := true) only [codeW, insW, codeC, insC, row1_length, rows_length, cI, cB, cS, roI, ro64, hpin, go_sem, Nat.reduceAdd, Nat.reduceMul]
  refine Tri.ent ?_ (Ent.frb hfull 1)
  refine Tri.step sized ?_
  simp (decide := true) only [row1_length, rows_length, cI, cB, cS, roI, ro64, hpin, go_sem, Nat.reduceAdd, Nat.reduceMul]
  refine aCall_det (codeI_sound c h hw hl) hpin ?_
  simp (decide := true) only [codeW, insW, codeC, insC, row1_length, rows_length, cI, cB, cS, roI, ro64, hpin, go_sem, Nat.reduceAdd, Nat.reduceMul]
  unfold loansB
  cases hc : codeB c with
  | false =>
    simp (decide := true) only [Bool.false_eq_true, rows_nil, row1_length, rows_length, cI, cB, cS, roI, ro64, hpin, go_sem, Nat.reduceAdd, Nat.reduceMul]
  | true =>
  simp (decide := true) only [codeW, insW, codeC, insC, row1_length, rows_length, cI, cB, cS, roI, ro64, hpin, go_sem, Nat.reduceAdd, Nat.reduceMul]
  refine Tri.step sized ?_
  simp (decide := true) only [row1_length, rows_length, cI, cB, cS, roI, ro64, hpin, go_sem, Nat.reduceAdd, Nat.reduceMul]
  refine Tri.step sized ?_
  simp (decide := true) only [codeW, insW, codeC, insC, row1_length, rows_length, cI, cB, cS, roI, ro64, hpin, go_sem, Nat.reduceAdd, Nat.reduceMul]
  refine Tri.loop (ι := Nat) (fun i => i ≤ c.words.length) (fun i => ⟨37, [(1, .ip (codeC true c) 0), (3, .ref 3 [] (loansL 0 (c.words.take i)).length), (10, .imm 42 (rows (insC true) c.words)), (11, vI c.words.length), (12, vI i)], [(3, .row 44 (rows (loanC false) (loansL 0 (c.words.take i))))]⟩) (fun i => c.words.length - i) 0 (by simp) ?_ ?_
  · refine Ent.weak ?_ ?_ ?_ ?_ <;> simp (decide := true) [subT, subB, hereT, hereV, hereL, St.get, look, vI, vB, vS, cI, cS, cB, insC, codeC, loanC, roI, rows, loansL]
  · rintro i hi
    refine code_sound sized _ ?_
    have hle := loansL_le c.words i
    by_cases h' : i < c.words.length
    · have e : ((i : Int) < (c.words.length : Int)) = True := by simp [h']
      have hb1 : (loansL 0 (c.words.take i)).length + 1 ≤ 140737488355328 := by omega
      have hb2 : ((loansL 0 (c.words.take i)).length + 1) * 24 ≤ 140737488355328 := by omega
      have htk := loansL_take c.words h'
      simp (decide := true) only [e, rows_get _ _ h', Int.natCast_nonneg, vB, vI, codeC, insC, row1_length, rows_length, cI, cB, cS, roI, ro64, hpin, go_sem, Nat.reduceAdd, Nat.reduceMul]
      cases h6 : c.words[i].op == 6 with
      | true =>
        have ea : loanAt i c.words[i] = [⟨i, c.words[i].b, c.words[i].op == 7⟩] := by simp [loanAt, h6]
        rw [ea] at htk
        simp (decide := true) only [hb1, hb2, row1_length, rows_length, cI, cB, cS, roI, ro64, hpin, go_sem, Nat.reduceAdd, Nat.reduceMul]
        refine ⟨i + 1, h', by omega, Ent.weak ?_ ?_ ?_ ?_⟩
        all_goals simp (decide := true) [subT, subB, hereT, hereV, hereL, St.get, look, w64s (n := c.words.length) h' (by omega), vI, vB, htk, rows, loanC, codeC, roI, cI, cB, cS]
      | false =>
        simp (decide := true) only [row1_length, rows_length, cI, cB, cS, roI, ro64, hpin, go_sem, Nat.reduceAdd, Nat.reduceMul]
        cases h7 : c.words[i].op == 7 with
        | true =>
          have ea : loanAt i c.words[i] = [⟨i, c.words[i].b, true⟩] := by simp [loanAt, h7]
          rw [ea] at htk
          have h70 : c.words[i].op = 7 := by simpa using h7
          simp (decide := true) only [hb1, hb2, row1_length, rows_length, cI, cB, cS, roI, ro64, hpin, go_sem, Nat.reduceAdd, Nat.reduceMul]
          refine ⟨i + 1, h', by omega, Ent.weak ?_ ?_ ?_ ?_⟩
          all_goals simp (decide := true) [h70, subT, subB, hereT, hereV, hereL, St.get, look, w64s (n := c.words.length) h' (by omega), vI, vB, htk, rows, loanC, codeC, roI, cI, cB, cS]
        | false =>
          have ea : loanAt i c.words[i] = [] := by simp [loanAt, h6, h7]
          rw [ea] at htk
          simp (decide := true) only [row1_length, rows_length, cI, cB, cS, roI, ro64, hpin, go_sem, Nat.reduceAdd, Nat.reduceMul]
          refine ⟨i + 1, h', by omega, Ent.weak ?_ ?_ ?_ ?_⟩
          all_goals simp (decide := true) [subT, subB, hereT, hereV, hereL, St.get, look, w64s (n := c.words.length) h' (by omega), vI, vB, htk, rows, loanC, codeC, roI, cI, cB, cS]
    · have hil : i = c.words.length := by omega
      subst hil
      have e : ((c.words.length : Int) < (c.words.length : Int)) = False := by simp
      have et : c.words.take c.words.length = c.words := List.take_length
      simp (decide := true) only [e, et, vB, vI, codeC, insC, row1_length, rows_length, cI, cB, cS, roI, ro64, hpin, go_sem, Nat.reduceAdd, Nat.reduceMul]
      refine code_sound sized _ ?_
      simp (decide := true) only [row1_length, rows_length, cI, cB, cS, roI, ro64, hpin, go_sem, Nat.reduceAdd, Nat.reduceMul]

theorem loansS_sound (c : CodeD) (h : c.locals.length ≤ 1048576) (hw : c.words.length ≤ 1048576) (hl : ∀ y ∈ c.words, y.args.length ≤ 1048576) : Sound Tryd.prog 5 [.ro (codeW c)] (fun rs st => rs = [(false, [.row false 44 (rows (loanC false) (loansB c))])]) := by
  refine sound_tri (fn := Tryd.f5) (c := Tryd.f5.body.getD .skip) (res := [.tm 2]) (n := 42) sized (by kernel_rfl) (by rfl) (by kernel_rfl) (by rfl) (by rfl) (by simp [argsV]) (fun uf ub C hpin hpin2 hfull => ?_)
  simp only [Tryd.f5, Option.getD_some]
  refine Tri.step sized ?_
  simp (decide := true) only [codeW, insW, codeC, insC, row1_length, rows_length, cI, cB, cS, roI, ro64, hpin, go_sem, Nat.reduceAdd, Nat.reduceMul]
  refine Tri.ent ?_ (Ent.frb hfull 1)
  refine Tri.step sized ?_
  simp (decide := true) only [row1_length, rows_length, cI, cB, cS, roI, ro64, hpin, go_sem, Nat.reduceAdd, Nat.reduceMul]
  refine Tri.step sized ?_
  simp (decide := true) only [row1_length, rows_length, cI, cB, cS, roI, ro64, hpin, go_sem, Nat.reduceAdd, Nat.reduceMul]
  refine aCall_det (codeS_sound c h hw hl) hpin ?_
  simp (decide := true) only [codeW, insW, codeC, insC, row1_length, rows_length, cI, cB, cS, roI, ro64, hpin, go_sem, Nat.reduceAdd, Nat.reduceMul]
  unfold loansB
  cases hc : codeB c with
  | false =>
    simp (decide := true) only [Bool.false_eq_true, rows_nil, row1_length, rows_length, cI, cB, cS, roI, ro64, hpin, go_sem, Nat.reduceAdd, Nat.reduceMul]
  | true =>
  simp (decide := true) only [codeW, insW, codeC, insC, row1_length, rows_length, cI, cB, cS, roI, ro64, hpin, go_sem, Nat.reduceAdd, Nat.reduceMul]
  refine Tri.step sized ?_
  simp (decide := true) only [row1_length, rows_length, cI, cB, cS, roI, ro64, hpin, go_sem, Nat.reduceAdd, Nat.reduceMul]
  refine Tri.loop (ι := Nat) (fun i => i ≤ c.words.length) (fun i => ⟨42, [(1, .ip (codeC true c) 0), (3, .ref 3 [] (loansL 0 (c.words.take i)).length), (4, vI i)], [(3, .row 44 (rows (loanC false) (loansL 0 (c.words.take i))))]⟩) (fun i => c.words.length - i) 0 (by simp) ?_ ?_
  · refine Ent.weak ?_ ?_ ?_ ?_ <;> simp (decide := true) [subT, subB, hereT, hereV, hereL, St.get, look, vI, vB, vS, cI, cS, cB, insC, codeC, loanC, roI, rows, loansL]
  · rintro i hi
    refine code_sound sized _ ?_
    have hle := loansL_le c.words i
    by_cases h' : i < c.words.length
    · have e : ((i : Int) < (c.words.length : Int)) = True := by simp [h']
      have hb1 : (loansL 0 (c.words.take i)).length + 1 ≤ 140737488355328 := by omega
      have hb2 : ((loansL 0 (c.words.take i)).length + 1) * 24 ≤ 140737488355328 := by omega
      have htk := loansL_take c.words h'
      simp (decide := true) only [e, rows_get _ _ h', Int.natCast_nonneg, vB, vI, codeC, insC, row1_length, rows_length, cI, cB, cS, roI, ro64, hpin, go_sem, Nat.reduceAdd, Nat.reduceMul]
      cases h6 : c.words[i].op == 6 with
      | true =>
        have ea : loanAt i c.words[i] = [⟨i, c.words[i].b, c.words[i].op == 7⟩] := by simp [loanAt, h6]
        rw [ea] at htk
        simp (decide := true) only [hb1, hb2, row1_length, rows_length, cI, cB, cS, roI, ro64, hpin, go_sem, Nat.reduceAdd, Nat.reduceMul]
        refine ⟨i + 1, h', by omega, Ent.weak ?_ ?_ ?_ ?_⟩
        all_goals simp (decide := true) [subT, subB, hereT, hereV, hereL, St.get, look, w64s (n := c.words.length) h' (by omega), vI, vB, htk, rows, loanC, codeC, roI, cI, cB, cS]
      | false =>
        simp (decide := true) only [row1_length, rows_length, cI, cB, cS, roI, ro64, hpin, go_sem, Nat.reduceAdd, Nat.reduceMul]
        cases h7 : c.words[i].op == 7 with
        | true =>
          have ea : loanAt i c.words[i] = [⟨i, c.words[i].b, true⟩] := by simp [loanAt, h7]
          rw [ea] at htk
          have h70 : c.words[i].op = 7 := by simpa using h7
          simp (decide := true) only [hb1, hb2, row1_length, rows_length, cI, cB, cS, roI, ro64, hpin, go_sem, Nat.reduceAdd, Nat.reduceMul]
          refine ⟨i + 1, h', by omega, Ent.weak ?_ ?_ ?_ ?_⟩
          all_goals simp (decide := true) [h70, subT, subB, hereT, hereV, hereL, St.get, look, w64s (n := c.words.length) h' (by omega), vI, vB, htk, rows, loanC, codeC, roI, cI, cB, cS]
        | false =>
          have ea : loanAt i c.words[i] = [] := by simp [loanAt, h6, h7]
          rw [ea] at htk
          simp (decide := true) only [row1_length, rows_length, cI, cB, cS, roI, ro64, hpin, go_sem, Nat.reduceAdd, Nat.reduceMul]
          refine ⟨i + 1, h', by omega, Ent.weak ?_ ?_ ?_ ?_⟩
          all_goals simp (decide := true) [subT, subB, hereT, hereV, hereL, St.get, look, w64s (n := c.words.length) h' (by omega), vI, vB, htk, rows, loanC, codeC, roI, cI, cB, cS]
    · have hil : i = c.words.length := by omega
      subst hil
      have e : ((c.words.length : Int) < (c.words.length : Int)) = False := by simp
      have et : c.words.take c.words.length = c.words := List.take_length
      simp (decide := true) only [e, et, vB, vI, codeC, insC, row1_length, rows_length, cI, cB, cS, roI, ro64, hpin, go_sem, Nat.reduceAdd, Nat.reduceMul]
      refine code_sound sized _ ?_
      simp (decide := true) only [row1_length, rows_length, cI, cB, cS, roI, ro64, hpin, go_sem, Nat.reduceAdd, Nat.reduceMul]
end Go.Proofs.YtngpjfajoajnjaaDoor.AW
