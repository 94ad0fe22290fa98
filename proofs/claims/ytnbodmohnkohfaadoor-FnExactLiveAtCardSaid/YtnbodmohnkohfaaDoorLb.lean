/- What a word writes; the words that may come behind one; tables of flags. No condition beyond those named. -/
import Derived.Test.YtnbodmohnkohfaaDoorLa
namespace Go.Proofs.YtnbodmohnkohfaaDoor.AW
open Go.RowKit
set_option maxHeartbeats 8000000
set_option maxRecDepth 100000
set_option linter.unusedSimpArgs false
set_option linter.unusedVariables false

def writesB (x : InsD) : Int := if inI x.op 1 14 then x.a else -1
theorem writesI_sound (x : InsD) : Sound Tryd.prog 24 [.ro (insW x)] (fun rs st => rs = [(false, [cI (writesB x)])]) := by
  refine sound_tri (fn := Tryd.f24) (c := Tryd.f24.body.getD .skip) (res := [.tm 2]) (n := 8) sized (by kernel_rfl) (by rfl) (by kernel_rfl) (by rfl) (by rfl) (by simp [argsV]) (fun uf ub C hpin hpin2 hfull => ?_)
  simp only [Tryd.f24, Option.getD_some]
  refine Tri.step sized ?_
  simp (decide := true) only [codeW, codeC, insW, insC, row1_length, rows_length, cI, cB, cS, roI, ro64, hpin, go_sem, Nat.reduceAdd, Nat.reduceMul]
  refine Tri.ent ?_ (Ent.frb hfull 1)
  refine code_sound sized _ ?_
  simp (decide := true) only [codeW, codeC, insW, insC, row1_length, rows_length, cI, cB, cS, roI, ro64, hpin, go_sem, Nat.reduceAdd, Nat.reduceMul]
  refine aCall_det (in' x.op 1 14) hpin ?_
  unfold writesB
  cases h : inI x.op 1 14 with
  | true => simp (decide := true) only [h, if_true, insC, row1_length, rows_length, cI, cB, cS, roI, ro64, hpin, go_sem, Nat.reduceAdd, Nat.reduceMul]
  | false => simp (decide := true) only [h, if_false, Bool.false_eq_true, insC, row1_length, rows_length, cI, cB, cS, roI, ro64, hpin, go_sem, Nat.reduceAdd, Nat.reduceMul]
theorem writesS_sound (x : InsD) : Sound Tryd.prog 37 [.ro (insW x)] (fun rs st => rs = [(false, [cI (writesB x)])]) := by
  refine sound_tri (fn := Tryd.f37) (c := Tryd.f37.body.getD .skip) (res := [.tm 2]) (n := 8) sized (by kernel_rfl) (by rfl) (by kernel_rfl) (by rfl) (by rfl) (by simp [argsV]) (fun uf ub C hpin hpin2 hfull => ?_)
  simp only [Tryd.f37, Option.getD_some]
  refine Tri.step sized ?_
  simp (decide := true) only [codeW, codeC, insW, insC, row1_length, rows_length, cI, cB, cS, roI, ro64, hpin, go_sem, Nat.reduceAdd, Nat.reduceMul]
  refine Tri.ent ?_ (Ent.frb hfull 1)
  refine code_sound sized _ ?_
  simp (decide := true) only [codeW, codeC, insW, insC, row1_length, rows_length, cI, cB, cS, roI, ro64, hpin, go_sem, Nat.reduceAdd, Nat.reduceMul]
  refine aCall_det (l01In' x.op 1 14) hpin ?_
  unfold writesB
  cases h : inI x.op 1 14 with
  | true => simp (decide := true) only [h, if_true, insC, row1_length, rows_length, cI, cB, cS, roI, ro64, hpin, go_sem, Nat.reduceAdd, Nat.reduceMul]
  | false => simp (decide := true) only [h, if_false, Bool.false_eq_true, insC, row1_length, rows_length, cI, cB, cS, roI, ro64, hpin, go_sem, Nat.reduceAdd, Nat.reduceMul]
theorem inL_true {n lo hi : Int} (h : inI n lo hi = true) : lo ≤ n ∧ n ≤ hi := by simpa [inI] using h
def ins0 : InsD := ⟨0, 0, 0, 0, 0, ⟨#[]⟩, []⟩
def wAt (c : CodeD) (i : Nat) : InsD := c.words.getD i ins0
theorem wAt_get {c : CodeD} {i : Nat} (h : i < c.words.length) : wAt c i = c.words[i] := by simp [wAt, List.getD, h]
def rawN (x : InsD) (i : Nat) : List Int := if x.op == 20 then [] else if x.op == 18 then [x.num] else if x.op == 19 then [(i : Int) + 1, x.num] else [(i : Int) + 1]
theorem rawN_length (x : InsD) (i : Nat) : (rawN x i).length ≤ 2 := by unfold rawN; split; simp; split; simp; split <;> simp
def insideB (c : CodeD) (n : Int) : Bool := inI n 0 (c.words.length - 1)
def nextI (c : CodeD) (i : Nat) : List Int := (rawN (wAt c i) i).filter (insideB c)
def nextS (c : CodeD) (i : Nat) : List Int := addAll [] (nextI c i)
theorem nextI_length (c : CodeD) (i : Nat) : (nextI c i).length ≤ 2 := Nat.le_trans (List.length_filter_le _ _) (rawN_length _ _)
theorem nextI_mem {c : CodeD} {i : Nat} {n : Int} (h : n ∈ nextI c i) : 0 ≤ n ∧ n.toNat < c.words.length := by
  have := inL_true (List.mem_filter.1 h).2
  omega
theorem addI_mem (l : List Int) (n x : Int) : x ∈ addI l n ↔ x ∈ l ∨ x = n := by
  unfold addI
  split
  · rename_i h
    have : n ∈ l := by simpa using h
    constructor
    · exact Or.inl
    · rintro (h | rfl)
      · exact h
      · exact this
  · simp
theorem addAll_mem (ns : List Int) : ∀ (l : List Int) (x : Int), x ∈ addAll l ns ↔ x ∈ l ∨ x ∈ ns := by
  induction ns with
  | nil => intro l x; simp [addAll]
  | cons n r ih =>
    intro l x
    have := ih (addI l n) x
    unfold addAll at this ⊢
    rw [List.foldl_cons, this, addI_mem, List.mem_cons, or_assoc]
theorem nextS_mem (c : CodeD) (i : Nat) (n : Int) : n ∈ nextS c i ↔ n ∈ nextI c i := by unfold nextS; rw [addAll_mem]; simp
theorem filter_next {α : Type} {f : α → Bool} {l : List α} {k : Nat} (h : k < l.length) : (l.take (k + 1)).filter f = (l.take k).filter f ++ (if f l[k] then [l[k]] else []) := by
  rw [List.take_succ_eq_append_getElem h, List.filter_append]
  congr 1
  cases hf : f l[k] <;> simp [hf]
theorem nextI_sound (c : CodeD) (i : Nat) (hi : i < c.words.length) (hw : c.words.length ≤ 1048576) : Sound Tryd.prog 23 [.ro (codeW c), .ro (.sc (.int .i64 i))] (fun rs st => rs = [(false, [.row false 3 (row1 cI (nextI c i))])]) := by
  refine sound_tri (fn := Tryd.f23) (c := Tryd.f23.body.getD .skip) (res := [.tm 4]) (n := 59) sized (by kernel_rfl) (by rfl) (by kernel_rfl) (by rfl) (by rfl) (by simp [argsV]) (fun uf ub C hpin hpin2 hfull => ?_)
  simp only [Tryd.f23, Option.getD_some]
  have w1 : IntKind.i64.wrap ((c.words.length : Int) - 1) = (c.words.length : Int) - 1 := w64 (by omega) (by omega)
  have w2 : IntKind.i64.wrap ((i : Int) + 1) = (i : Int) + 1 := w64 (by omega) (by omega)
  have hin : inI (i : Int) 0 (c.words.length - 1) = true := by simp [inI]; omega
  have hx : (rows (insC true) c.words).getD i [] = insC true c.words[i] := rows_get _ _ hi
  have hc1 : ((i : Int) < (c.words.length : Int)) = True := eq_true (by omega)
  unfold nextI
  rw [wAt_get hi]
  generalize c.words[i] = x at hx
  refine Tri.step sized ?_
  simp (decide := true) only [codeW, codeC, insW, insC, row1_length, rows_length, cI, cB, cS, roI, ro64, hpin, go_sem, Nat.reduceAdd, Nat.reduceMul]
  refine Tri.ent ?_ (Ent.frb hfull 2)
  refine Tri.step sized ?_
  simp (decide := true) only [w1, codeC, row1_length, rows_length, cI, cB, cS, roI, ro64, hpin, go_sem, Nat.reduceAdd, Nat.reduceMul]
  refine aCall_det (in' i 0 (c.words.length - 1)) hpin ?_
  simp (decide := true) only [hin, row1_length, rows_length, cI, cB, cS, roI, ro64, hpin, go_sem, Nat.reduceAdd, Nat.reduceMul]
  refine Tri.step sized ?_
  simp (decide := true) only [hc1, hx, codeC, insC, Int.natCast_nonneg, row1_length, rows_length, cI, cB, cS, roI, ro64, hpin, go_sem, Nat.reduceAdd, Nat.reduceMul]
  refine Tri.ent ?_ (Ent.frb hfull 5)
  refine Tri.step sized ?_
  simp (decide := true) only [w2, row1_length, rows_length, cI, cB, cS, roI, ro64, hpin, go_sem, Nat.reduceAdd, Nat.reduceMul]
  refine Tri.stop sized ⟨59, [(2, .ip (codeC true c) 0), (6, roI (rawN x i))], []⟩ ?_ ?_
  · cases h20 : x.op == 20 with
    | true =>
      have er : rawN x i = [] := by simp [rawN, h20]
      rw [er]
      simp (decide := true) only [h20, insC, row1_length, rows_length, cI, cB, cS, roI, ro64, hpin, go_sem, Nat.reduceAdd, Nat.reduceMul]
      refine (Ent.frz hfull 6).trans (Ent.weak ?_ ?_ ?_ ?_) <;> simp (decide := true) [St.frz, frzV, frzL, mapT, drop, shLL, shL, shD, subT, subB, hereT, hereV, hereL, St.get, look, vI, vB, vS, cI, cS, cB, roI, row1, codeC]
    | false =>
    cases h18 : x.op == 18 with
    | true =>
      have er : rawN x i = [x.num] := by simp [rawN, h20, h18]
      rw [er]
      simp (decide := true) only [h20, h18, insC, row1_length, rows_length, cI, cB, cS, roI, ro64, hpin, go_sem, Nat.reduceAdd, Nat.reduceMul]
      refine (Ent.frz hfull 6).trans (Ent.weak ?_ ?_ ?_ ?_) <;> simp (decide := true) [St.frz, frzV, frzL, mapT, drop, shLL, shL, shD, subT, subB, hereT, hereV, hereL, St.get, look, vI, vB, vS, cI, cS, cB, roI, row1, codeC]
    | false =>
    cases h19 : x.op == 19 with
    | true =>
      have er : rawN x i = [(i : Int) + 1, x.num] := by simp [rawN, h20, h18, h19]
      rw [er]
      simp (decide := true) only [h20, h18, h19, insC, row1_length, rows_length, cI, cB, cS, roI, ro64, hpin, go_sem, Nat.reduceAdd, Nat.reduceMul]
      refine (Ent.frz hfull 6).trans (Ent.weak ?_ ?_ ?_ ?_) <;> simp (decide := true) [St.frz, frzV, frzL, mapT, drop, shLL, shL, shD, subT, subB, hereT, hereV, hereL, St.get, look, vI, vB, vS, cI, cS, cB, roI, row1, codeC]
    | false =>
      have er : rawN x i = [(i : Int) + 1] := by simp [rawN, h20, h18, h19]
      rw [er]
      simp (decide := true) only [h20, h18, h19, insC, row1_length, rows_length, cI, cB, cS, roI, ro64, hpin, go_sem, Nat.reduceAdd, Nat.reduceMul]
      refine (Ent.frz hfull 6).trans (Ent.weak ?_ ?_ ?_ ?_) <;> simp (decide := true) [St.frz, frzV, frzL, mapT, drop, shLL, shL, shD, subT, subB, hereT, hereV, hereL, St.get, look, vI, vB, vS, cI, cS, cB, roI, row1, codeC]
  · have hl := rawN_length x i
    generalize rawN x i = l at hl
    refine code_sound sized _ ?_
    simp (decide := true) only [codeC, row1_length, rows_length, cI, cB, cS, roI, ro64, hpin, go_sem, Nat.reduceAdd, Nat.reduceMul]
    refine Tri.loop (ι := Nat) (fun k => k ≤ l.length) (fun k => ⟨59, [(2, .ip (codeC true c) 0), (7, .ref 7 [] ((l.take k).filter (insideB c)).length), (41, roI l), (42, vI l.length), (43, vI k)], [(7, .row 3 (row1 cI ((l.take k).filter (insideB c))))]⟩) (fun k => l.length - k) 0 (by simp) ?_ ?_
    · refine Ent.weak ?_ ?_ ?_ ?_ <;> simp (decide := true) [subT, subB, hereT, hereV, hereL, St.get, look, vI, vB, vS, cI, cS, cB, codeC, insC, roI, row1]
    · rintro k hk
      refine code_sound sized _ ?_
      by_cases h' : k < l.length
      · have e : ((k : Int) < (l.length : Int)) = True := by simp [h']
        have hnx := filter_next (f := insideB c) h'
        have hLl : ((l.take k).filter (insideB c)).length ≤ 2 := Nat.le_trans (List.length_filter_le _ _) (by rw [List.length_take]; omega)
        have hir : insideB c l[k] = inI l[k] 0 (c.words.length - 1) := rfl
        generalize (l.take k).filter (insideB c) = L at hnx hLl
        obtain ⟨L2, hL2⟩ : ∃ L2, L2 = (l.take (k + 1)).filter (insideB c) := ⟨_, rfl⟩
        rw [← hL2] at hnx
        simp (decide := true) only [e, h', w1, row1_get _ _ h', codeC, Int.natCast_nonneg, vB, vI, row1_length, rows_length, cI, cB, cS, roI, ro64, hpin, go_sem, Nat.reduceAdd, Nat.reduceMul]
        refine aCall_det (in' l[k] 0 (c.words.length - 1)) hpin ?_
        rw [hir] at hnx
        cases hb : inI l[k] 0 (c.words.length - 1) with
        | true =>
          rw [hb, if_pos rfl] at hnx
          have hsn := row1_snoc cI L l[k]
          rw [← hnx] at hsn
          have hl2 : L2.length = L.length + 1 := by rw [hnx]; simp
          have hb1 : L.length + 1 ≤ 140737488355328 := by omega
          have hb2 : (L.length + 1) * 8 ≤ 140737488355328 := by omega
          simp only [cI] at hsn
          simp (decide := true) only [hb1, hb2, hsn, row1_length, rows_length, cI, cB, cS, roI, ro64, hpin, go_sem, Nat.reduceAdd, Nat.reduceMul]
          refine ⟨k + 1, h', by omega, Ent.weak ?_ ?_ ?_ ?_⟩
          all_goals simp (decide := true) [subT, subB, hereT, hereV, hereL, St.get, look, vI, vB, vS, cI, cS, cB, codeC, insC, roI, ← hL2, hl2, w64s (n := l.length) h' (by omega)]
        | false =>
          rw [hb, if_neg (by decide), List.append_nil] at hnx
          simp (decide := true) only [row1_length, rows_length, cI, cB, cS, roI, ro64, hpin, go_sem, Nat.reduceAdd, Nat.reduceMul]
          refine ⟨k + 1, h', by omega, Ent.weak ?_ ?_ ?_ ?_⟩
          all_goals simp (decide := true) [subT, subB, hereT, hereV, hereL, St.get, look, vI, vB, vS, cI, cS, cB, codeC, insC, roI, ← hL2, hnx, w64s (n := l.length) h' (by omega)]
      · have hkl : k = l.length := by omega
        subst hkl
        have e : ((l.length : Int) < (l.length : Int)) = False := by simp
        simp (decide := true) only [e, List.take_length, vB, vI, row1_length, rows_length, cI, cB, cS, roI, ro64, hpin, go_sem, Nat.reduceAdd, Nat.reduceMul]
theorem nextS_sound (c : CodeD) (i : Nat) (hi : i < c.words.length) (hw : c.words.length ≤ 1048576) : Sound Tryd.prog 38 [.ro (codeW c), .ro (.sc (.int .i64 i))] (fun rs st => rs = [(false, [.row false 3 (row1 cI (nextS c i))])]) := by
  refine sound_tri (fn := Tryd.f38) (c := Tryd.f38.body.getD .skip) (res := [.tm 4]) (n := 65) sized (by kernel_rfl) (by rfl) (by kernel_rfl) (by rfl) (by rfl) (by simp [argsV]) (fun uf ub C hpin hpin2 hfull => ?_)
  simp only [Tryd.f38, Option.getD_some]
  have w1 : IntKind.i64.wrap ((c.words.length : Int) - 1) = (c.words.length : Int) - 1 := w64 (by omega) (by omega)
  have w2 : IntKind.i64.wrap ((i : Int) + 1) = (i : Int) + 1 := w64 (by omega) (by omega)
  have hin : inI (i : Int) 0 (c.words.length - 1) = true := by simp [inI]; omega
  have hx : (rows (insC true) c.words).getD i [] = insC true c.words[i] := rows_get _ _ hi
  have hc1 : ((i : Int) < (c.words.length : Int)) = True := eq_true (by omega)
  unfold nextS nextI
  rw [wAt_get hi]
  generalize c.words[i] = x at hx
  refine Tri.step sized ?_
  simp (decide := true) only [codeW, codeC, insW, insC, row1_length, rows_length, cI, cB, cS, roI, ro64, hpin, go_sem, Nat.reduceAdd, Nat.reduceMul]
  refine Tri.ent ?_ (Ent.frb hfull 2)
  refine Tri.step sized ?_
  simp (decide := true) only [codeC, row1_length, rows_length, cI, cB, cS, roI, ro64, hpin, go_sem, Nat.reduceAdd, Nat.reduceMul]
  refine Tri.step sized ?_
  simp (decide := true) only [w1, codeC, row1_length, rows_length, cI, cB, cS, roI, ro64, hpin, go_sem, Nat.reduceAdd, Nat.reduceMul]
  refine aCall_det (l01In' i 0 (c.words.length - 1)) hpin ?_
  simp (decide := true) only [hin, row1_length, rows_length, cI, cB, cS, roI, ro64, hpin, go_sem, Nat.reduceAdd, Nat.reduceMul]
  refine Tri.step sized ?_
  simp (decide := true) only [hc1, hx, codeC, insC, Int.natCast_nonneg, row1_length, rows_length, cI, cB, cS, roI, ro64, hpin, go_sem, Nat.reduceAdd, Nat.reduceMul]
  refine Tri.ent ?_ (Ent.frb hfull 6)
  refine Tri.step sized ?_
  simp (decide := true) only [w2, row1_length, rows_length, cI, cB, cS, roI, ro64, hpin, go_sem, Nat.reduceAdd, Nat.reduceMul]
  refine Tri.stop sized ⟨65, [(2, .ip (codeC true c) 0), (5, .ref 5 [] 0), (7, roI (rawN x i))], [(5, .row 3 [])]⟩ ?_ ?_
  · cases h20 : x.op == 20 with
    | true =>
      have er : rawN x i = [] := by simp [rawN, h20]
      rw [er]
      simp (decide := true) only [h20, insC, row1_length, rows_length, cI, cB, cS, roI, ro64, hpin, go_sem, Nat.reduceAdd, Nat.reduceMul]
      refine (Ent.frz hfull 7).trans (Ent.weak ?_ ?_ ?_ ?_) <;> simp (decide := true) [St.frz, frzV, frzL, mapT, drop, shLL, shL, shD, subT, subB, hereT, hereV, hereL, St.get, look, vI, vB, vS, cI, cS, cB, roI, row1, codeC]
    | false =>
    cases h18 : x.op == 18 with
    | true =>
      have er : rawN x i = [x.num] := by simp [rawN, h20, h18]
      rw [er]
      simp (decide := true) only [h20, h18, insC, row1_length, rows_length, cI, cB, cS, roI, ro64, hpin, go_sem, Nat.reduceAdd, Nat.reduceMul]
      refine (Ent.frz hfull 7).trans (Ent.weak ?_ ?_ ?_ ?_) <;> simp (decide := true) [St.frz, frzV, frzL, mapT, drop, shLL, shL, shD, subT, subB, hereT, hereV, hereL, St.get, look, vI, vB, vS, cI, cS, cB, roI, row1, codeC]
    | false =>
    cases h19 : x.op == 19 with
    | true =>
      have er : rawN x i = [(i : Int) + 1, x.num] := by simp [rawN, h20, h18, h19]
      rw [er]
      simp (decide := true) only [h20, h18, h19, w2, insC, row1_length, rows_length, cI, cB, cS, roI, ro64, hpin, go_sem, Nat.reduceAdd, Nat.reduceMul]
      refine (Ent.frz hfull 7).trans (Ent.weak ?_ ?_ ?_ ?_) <;> simp (decide := true) [St.frz, frzV, frzL, mapT, drop, shLL, shL, shD, subT, subB, hereT, hereV, hereL, St.get, look, vI, vB, vS, cI, cS, cB, roI, row1, codeC]
    | false =>
      have er : rawN x i = [(i : Int) + 1] := by simp [rawN, h20, h18, h19]
      rw [er]
      simp (decide := true) only [h20, h18, h19, insC, row1_length, rows_length, cI, cB, cS, roI, ro64, hpin, go_sem, Nat.reduceAdd, Nat.reduceMul]
      refine (Ent.frz hfull 7).trans (Ent.weak ?_ ?_ ?_ ?_) <;> simp (decide := true) [St.frz, frzV, frzL, mapT, drop, shLL, shL, shD, subT, subB, hereT, hereV, hereL, St.get, look, vI, vB, vS, cI, cS, cB, roI, row1, codeC]
  · have hl := rawN_length x i
    generalize rawN x i = l at hl
    refine code_sound sized _ ?_
    simp (decide := true) only [codeC, row1_length, rows_length, cI, cB, cS, roI, ro64, hpin, go_sem, Nat.reduceAdd, Nat.reduceMul]
    refine Tri.loop (ι := Nat) (fun k => k ≤ l.length) (fun k => ⟨65, [(2, .ip (codeC true c) 0), (5, .ref 5 [] (addAll [] ((l.take k).filter (insideB c))).length), (7, roI l), (8, vI k)], [(5, .row 3 (row1 cI (addAll [] ((l.take k).filter (insideB c)))))]⟩) (fun k => l.length - k) 0 (by simp) ?_ ?_
    · refine Ent.weak ?_ ?_ ?_ ?_ <;> simp (decide := true) [subT, subB, hereT, hereV, hereL, St.get, look, vI, vB, vS, cI, cS, cB, codeC, insC, roI, row1, addAll]
    · rintro k hk
      refine code_sound sized _ ?_
      by_cases h' : k < l.length
      · have e : ((k : Int) < (l.length : Int)) = True := by simp [h']
        have hnx := filter_next (f := insideB c) h'
        have hLl : ((l.take k).filter (insideB c)).length ≤ 2 := Nat.le_trans (List.length_filter_le _ _) (by rw [List.length_take]; omega)
        have hir : insideB c l[k] = inI l[k] 0 (c.words.length - 1) := rfl
        have hLa := addAll_length ((l.take k).filter (insideB c)) []
        have hnx2 : addAll [] ((l.take (k + 1)).filter (insideB c)) = if inI l[k] 0 (c.words.length - 1) then addI (addAll [] ((l.take k).filter (insideB c))) l[k] else addAll [] ((l.take k).filter (insideB c)) := by
          rw [hnx, hir]
          cases inI l[k] 0 (c.words.length - 1) <;> simp [addAll, List.foldl_append]
        rw [List.length_nil] at hLa
        generalize addAll [] ((l.take k).filter (insideB c)) = L at hnx2 hLa
        obtain ⟨L2, hL2⟩ : ∃ L2, L2 = addAll [] ((l.take (k + 1)).filter (insideB c)) := ⟨_, rfl⟩
        rw [← hL2] at hnx2
        simp (decide := true) only [e, h', vB, vI, row1_length, rows_length, cI, cB, cS, roI, ro64, hpin, go_sem, Nat.reduceAdd, Nat.reduceMul]
        refine Tri.sched sized [(0, true), (1, true), (2, true), (4, true), (3, true), (5, false), (6, false), (7, false), (8, false)] mixed (by kernel_rfl) (fun C2 hC2 => ?_)
        have hp2 : ∀ o, isPin o = false → C2.pin o = none := by rw [hC2]; exact hpin
        simp (decide := true) only [e, h', w1, row1_get _ _ h', codeC, Int.natCast_nonneg, vB, vI, row1_length, rows_length, cI, cB, cS, roI, ro64, hp2, hpin, go_sem, Nat.reduceAdd, Nat.reduceMul]
        refine aCall_det (l01In' l[k] 0 (c.words.length - 1)) hp2 ?_
        cases hb : inI l[k] 0 (c.words.length - 1) with
        | true =>
          rw [hb, if_pos rfl] at hnx2
          simp (decide := true) only [e, h', row1_get _ _ h', Int.natCast_nonneg, vB, vI, row1_length, rows_length, cI, cB, cS, roI, ro64, hp2, hpin, go_sem, Nat.reduceAdd, Nat.reduceMul]
          refine aCall_det (add_sound L l[k] (by omega)) hpin ?_
          rw [← hnx2]
          simp (decide := true) only [row1_length, rows_length, cI, cB, cS, roI, ro64, hp2, hpin, go_sem, Nat.reduceAdd, Nat.reduceMul]
          refine ⟨k + 1, h', by omega, Ent.weak ?_ ?_ ?_ ?_⟩
          all_goals simp (decide := true) [subT, subB, hereT, hereV, hereL, St.get, look, vI, vB, vS, cI, cS, cB, codeC, insC, roI, ← hL2, w64s (n := l.length) h' (by omega)]
        | false =>
          rw [hb, if_neg (by decide)] at hnx2
          simp (decide := true) only [row1_length, rows_length, cI, cB, cS, roI, ro64, hp2, hpin, go_sem, Nat.reduceAdd, Nat.reduceMul]
          refine ⟨k + 1, h', by omega, Ent.weak ?_ ?_ ?_ ?_⟩
          all_goals simp (decide := true) [subT, subB, hereT, hereV, hereL, St.get, look, vI, vB, vS, cI, cS, cB, codeC, insC, roI, ← hL2, hnx2, w64s (n := l.length) h' (by omega)]
      · have hkl : k = l.length := by omega
        subst hkl
        have e : ((l.length : Int) < (l.length : Int)) = False := by simp
        simp (decide := true) only [e, List.take_length, vB, vI, row1_length, rows_length, cI, cB, cS, roI, ro64, hpin, go_sem, Nat.reduceAdd, Nat.reduceMul]
end Go.Proofs.YtnbodmohnkohfaaDoor.AW
