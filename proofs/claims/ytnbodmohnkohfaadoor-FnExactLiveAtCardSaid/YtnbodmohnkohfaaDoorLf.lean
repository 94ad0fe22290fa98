/- Tables of flags: whether two are alike, and their marks. No condition beyond those named. -/
import Derived.Test.YtnbodmohnkohfaaDoorLe
namespace Go.Proofs.YtnbodmohnkohfaaDoor.AW
open Go.RowKit
set_option maxHeartbeats 8000000
set_option maxRecDepth 100000
set_option linter.unusedSimpArgs false
set_option linter.unusedVariables false

abbrev roB (l : List Bool) : V := .imm 4 (row1 cB l)
theorem eqB_sound (l : List Bool) (hl : l.length ≤ 1048576) : Sound Tryd.prog 25 [.ro (roB l), .ro (roB l)] (fun rs st => rs = [(false, [cB true])]) := by
  refine sound_code (fn := Tryd.f25) (c := Tryd.f25.body.getD .skip) (res := [.tm 4]) (n := 26) sized (by kernel_rfl) (by rfl) (by kernel_rfl) (by rfl) (by rfl) (by simp [argsV]) (fun C hpin hfull => ?_)
  simp (decide := true) only [Tryd.f25, bne_self_eq_false, row1_length, rows_length, cI, cB, cS, roI, ro64, hpin, go_sem, Nat.reduceAdd, Nat.reduceMul]
  refine Tri.loop (ι := Nat) (fun i => i ≤ l.length) (fun i => ⟨26, [(0, roB l), (1, roB l), (5, vI i)], []⟩) (fun i => l.length - i) 0 (by simp) ?_ ?_
  · refine Ent.weak ?_ ?_ ?_ ?_ <;> simp (decide := true) [subT, subB, hereT, hereV, hereL, St.get, look, vI, vB, vS, cI, cS, cB, roI]
  · rintro i hi
    refine code_sound sized _ ?_
    by_cases h' : i < l.length
    · have e : ((i : Int) < (l.length : Int)) = True := by simp [h']
      simp (decide := true) only [e, vB, vI, row1_length, rows_length, cI, cB, cS, roI, ro64, hpin, go_sem, Nat.reduceAdd, Nat.reduceMul]
      refine Tri.draw sized mixed (by kernel_rfl) ?_
      simp (decide := true) only [e, h', row1_get _ _ h', bne_self_eq_false, Int.natCast_nonneg, vB, vI, row1_length, rows_length, cI, cB, cS, roI, ro64, hpin, go_sem, Nat.reduceAdd, Nat.reduceMul]
      refine ⟨i + 1, h', by omega, Ent.weak ?_ ?_ ?_ ?_⟩
      all_goals simp (decide := true) [subT, subB, hereT, hereV, hereL, St.get, look, vI, vB, vS, cI, cS, cB, roI, w64s (n := l.length) h' (by omega)]
    · have hil : i = l.length := by omega
      subst hil
      have e : ((l.length : Int) < (l.length : Int)) = False := by simp
      simp (decide := true) only [e, vB, vI, row1_length, rows_length, cI, cB, cS, roI, ro64, hpin, go_sem, Nat.reduceAdd, Nat.reduceMul]
theorem eqT_sound (T : List (List Bool)) (hl : T.length + sumN List.length T ≤ 1048576) : Sound Tryd.prog 8 [.ro (.imm 50 (rows (tabC true) T)), .ro (.imm 50 (rows (tabC true) T))] (fun rs st => rs = [(false, [cB true])]) := by
  refine sound_code (fn := Tryd.f8) (c := Tryd.f8.body.getD .skip) (res := [.tm 4]) (n := 27) sized (by kernel_rfl) (by rfl) (by kernel_rfl) (by rfl) (by rfl) (by simp [argsV]) (fun C hpin hfull => ?_)
  simp (decide := true) only [Tryd.f8, bne_self_eq_false, row1_length, rows_length, cI, cB, cS, roI, ro64, hpin, go_sem, Nat.reduceAdd, Nat.reduceMul]
  refine Tri.loop (ι := Nat) (fun i => i ≤ T.length) (fun i => ⟨27, [(0, .imm 50 (rows (tabC true) T)), (1, .imm 50 (rows (tabC true) T)), (5, vI i)], []⟩) (fun i => T.length - i) 0 (by simp) ?_ ?_
  · refine Ent.weak ?_ ?_ ?_ ?_ <;> simp (decide := true) [subT, subB, hereT, hereV, hereL, St.get, look, vI, vB, vS, cI, cS, cB, roI]
  · rintro i hi
    refine code_sound sized _ ?_
    by_cases h' : i < T.length
    · have e : ((i : Int) < (T.length : Int)) = True := by simp [h']
      have h1 := sumN_take List.length T h'
      have h2 := sumN_le List.length T (i + 1)
      simp (decide := true) only [e, vB, vI, row1_length, rows_length, cI, cB, cS, roI, ro64, hpin, go_sem, Nat.reduceAdd, Nat.reduceMul]
      refine Tri.sched sized [(0, true), (1, true), (2, true), (4, true), (5, true), (6, true), (3, true), (7, false), (8, false), (9, false)] mixed (by kernel_rfl) (fun C2 hC2 => ?_)
      have hp2 : ∀ o, isPin o = false → C2.pin o = none := by rw [hC2]; exact hpin
      simp (decide := true) only [e, h', rows_get _ _ h', tabC, Int.natCast_nonneg, vB, vI, row1_length, rows_length, cI, cB, cS, roI, ro64, hp2, hpin, go_sem, Nat.reduceAdd, Nat.reduceMul]
      refine aCall_det (eqB_sound T[i] (by omega)) hp2 ?_
      simp (decide := true) only [row1_length, rows_length, cI, cB, cS, roI, ro64, hp2, hpin, go_sem, Nat.reduceAdd, Nat.reduceMul]
      refine ⟨i + 1, h', by omega, Ent.weak ?_ ?_ ?_ ?_⟩
      all_goals simp (decide := true) [subT, subB, hereT, hereV, hereL, St.get, look, vI, vB, vS, cI, cS, cB, roI, w64s (n := T.length) h' (by omega)]
    · have hil : i = T.length := by omega
      subst hil
      have e : ((T.length : Int) < (T.length : Int)) = False := by simp
      simp (decide := true) only [e, vB, vI, row1_length, rows_length, cI, cB, cS, roI, ro64, hpin, go_sem, Nat.reduceAdd, Nat.reduceMul]
/-- What a row of flags is marked with. -/
def marksB (k : Int) (n : Nat) : List Bool := (List.range n).map fun (i : Nat) => mbool (k + i)
theorem marksB_length (k : Int) (n : Nat) : (marksB k n).length = n := by simp [marksB]
theorem marksB_get (k : Int) (n i : Nat) (h : i < (marksB k n).length) : (marksB k n)[i] = mbool (k + i) := by simp [marksB]
theorem markB_sound (l : List Bool) (k : Int) (hl : l.length < 9223372036854775807) (h0 : 0 ≤ k) (h1 : k + l.length < 9223372036854775807) :
    SoundAt Tryd.prog 30 (fun uf => argsV 0 [.ro (.ref 2000 [] l.length), .ro (.sc (.int .i64 k))]) [(2000, .row 4 (row1 cB l))]
      (fun rs st => rs = [(false, [cI (k + l.length)])] ∧ nowIs st.ob [(2000, .row 4 (row1 cB (marksB k l.length)))]) := by
  refine sound_of_code (fn := Tryd.f30) (c := Tryd.f30.body.getD .skip) (res := [.tm 4]) (n := 21) sized (by kernel_rfl) (by rfl) (by kernel_rfl) (by rfl) (by rfl) (by simp [argsV]) (fun uf ub C hpin hpin2 hfull => ?_)
  simp (decide := true) only [Tryd.f30, row1_length, rows_length, cI, cB, cS, roI, ro64, hpin, go_sem, Nat.reduceAdd, Nat.reduceMul]
  let L : Nat → List Bool := fun i => marksB k i ++ l.drop i
  have hL : ∀ i, i ≤ l.length → (L i).length = l.length := fun i hi => by simp [L, marksB]; omega
  refine Tri.loop (ι := Nat) (fun i => i ≤ l.length) (fun i => ⟨21, [(0, .ref 2000 [] l.length), (1, vI (k + i)), (5, vI i)], [(2000, .row 4 (row1 cB (L i)))]⟩) (fun i => l.length - i) 0 (by simp) ?_ ?_
  · refine Ent.weak ?_ ?_ ?_ ?_ <;> simp (decide := true) [subT, subB, hereT, hereV, St.get, look, vI, vB, L, marksB]
  · rintro i hi
    refine code_sound sized _ ?_
    by_cases h : i < l.length
    · have e : ((i : Int) < (l.length : Int)) = True := by simp [h]
      have e2 : i < (L i).length := by rw [hL i hi]; exact h
      have emb : ((k + (i : Int)).tmod 3 == 0) = mbool (k + i) := rfl
      simp (decide := true) only [e, hL i hi, h, emb, row1_get _ _ e2, row1_getq _ _ e2, Int.natCast_nonneg, vI, vB, row1_length, rows_length, cI, cB, cS, roI, ro64, hpin, go_sem, Nat.reduceAdd, Nat.reduceMul]
      refine ⟨i + 1, h, by omega, Ent.weak ?_ ?_ ?_ ?_⟩
      · have e3 : IntKind.i64.wrap (k + i + 1) = k + ((i + 1 : Nat) : Int) := by rw [w64 (by omega) (by omega)]; omega
        simp (decide := true) [subT, St.get, look, w64s (n := l.length) h (by omega), e3, vI, vB]
      · have e4 : (row1 cB (L i)).set i [D.sc (.bool (mbool (k + i)))] = row1 cB (L (i + 1)) := by
          have := row1_set cB (L i) i (mbool (k + i))
          simp only [cB] at this ⊢
          rw [this]
          congr 1
          apply List.ext_getElem
          · simp [L, marksB]; omega
          · intro j h1 h2
            simp only [L, marksB, List.getElem_set, List.getElem_append, List.length_map, List.length_range, List.getElem_map, List.getElem_range, List.getElem_drop]
            by_cases e1 : i = j
            · subst e1; simp
            · rw [if_neg e1]
              by_cases e2 : j < i
              · rw [dif_pos e2, dif_pos (by omega)]
              · rw [dif_neg e2, dif_neg (by omega)]; congr 1; omega
        simp (decide := true) [subB, look, e4, cB]
      all_goals simp (decide := true) [hereT, hereV, look, vI]
    · have hil : i = l.length := by omega
      subst hil
      have e : ((l.length : Int) < (l.length : Int)) = False := by simp
      simp (decide := true) only [e, vI, vB, row1_length, rows_length, cI, cB, cS, roI, ro64, hpin, go_sem, Nat.reduceAdd, Nat.reduceMul]
      simp [L, marksB]
def tabM : Int → List (List Bool) → List (List Bool)
  | _, [] => []
  | q, x :: r => marksB q x.length :: tabM (q + (x.length : Nat)) r
theorem tabM_length : ∀ (q : Int) (l : List (List Bool)), (tabM q l).length = l.length
  | _, [] => rfl
  | q, x :: r => by simp [tabM, tabM_length]
theorem tabM_append : ∀ (q : Int) (l l2 : List (List Bool)), tabM q (l ++ l2) = tabM q l ++ tabM (q + (sumN List.length l : Nat)) l2
  | q, [], l2 => by simp [tabM, sumN]
  | q, x :: r, l2 => by
    have e : q + (x.length : Nat) + (sumN List.length r : Nat) = q + (sumN List.length (x :: r) : Nat) := by simp only [sumN, List.map_cons, List.sum_cons]; omega
    simp only [tabM, List.cons_append, tabM_append, e]
theorem tabM_take (q : Int) (l : List (List Bool)) {i : Nat} (h : i < l.length) : tabM q (l.take (i + 1)) = tabM q (l.take i) ++ [marksB (q + (sumN List.length (l.take i) : Nat)) l[i].length] := by
  rw [List.take_succ_eq_append_getElem h, tabM_append]; rfl
theorem tabM_get (q : Int) (l : List (List Bool)) {i : Nat} (h : i < l.length) (h2 : i < (tabM q l).length) : (tabM q l)[i] = marksB (q + (sumN List.length (l.take i) : Nat)) l[i].length := by
  have e : l = l.take (i + 1) ++ l.drop (i + 1) := (List.take_append_drop _ _).symm
  have hl : (tabM q (l.take i)).length = i := by rw [tabM_length]; simp; omega
  have e2 : (tabM q l)[i]? = some (marksB (q + (sumN List.length (l.take i) : Nat)) l[i].length) := by
    conv => lhs; rw [e, tabM_append, tabM_take q l h, List.append_assoc]
    rw [List.getElem?_append_right (by omega), hl, Nat.sub_self]; rfl
  exact (List.getElem?_eq_some_iff.1 e2).2
attribute [go_sem] tabM_length
theorem markT_sound (l : List (List Bool)) (k : Int) (h0 : 0 ≤ k) (hl : l.length ≤ 1048576) (h1 : k + (sumN List.length l : Nat) < 4611686018427387904) :
    SoundAt Tryd.prog 11 (fun uf => argsV 0 [.ro (.ref 2000 [] l.length), .ro (.sc (.int .i64 k))]) [(2000, .row 50 (rows (tabC false) l))]
      (fun rs st => rs = [(false, [cI (k + (sumN List.length l : Nat))])] ∧ nowIs st.ob [(2000, .row 50 (rows (tabC false) (tabM k l)))]) := by
  refine sound_of_code (fn := Tryd.f11) (c := Tryd.f11.body.getD .skip) (res := [.tm 4]) (n := 19) sized (by kernel_rfl) (by rfl) (by kernel_rfl) (by rfl) (by rfl) (by simp [argsV]) (fun uf ub C hpin hpin2 hfull => ?_)
  simp (decide := true) only [Tryd.f11, row1_length, rows_length, cI, cB, cS, roI, ro64, hpin, go_sem, Nat.reduceAdd, Nat.reduceMul]
  refine Tri.loop (ι := Nat) (fun i => i ≤ l.length) (fun i => ⟨19, [(0, .ref 2000 [] l.length), (1, vI (k + (sumN List.length (l.take i) : Nat))), (5, vI i)], [(2000, .row 50 (rows (tabC false) (tabM k (l.take i)) ++ rows (tabC false) (l.drop i)))]⟩) (fun i => l.length - i) 0 (by simp) ?_ ?_
  · refine Ent.weak ?_ ?_ ?_ ?_ <;> simp (decide := true) [subT, subB, hereT, hereV, St.get, look, vI, vB, rows, sumN, tabM]
  · rintro i hi
    refine code_sound sized _ ?_
    by_cases h' : i < l.length
    · have e : ((i : Int) < (l.length : Int)) = True := by simp [h']
      have hs1 := sumN_take List.length l h'
      have hs2 := sumN_le List.length l (i + 1)
      rw [List.drop_eq_getElem_cons h']
      obtain ⟨EA, hEA⟩ : ∃ E, E = rows (tabC false) (tabM k (l.take i)) := ⟨_, rfl⟩
      obtain ⟨EB, hEB⟩ : ∃ E, E = rows (tabC false) (l.drop (i + 1)) := ⟨_, rfl⟩
      obtain ⟨q, hq⟩ : ∃ q, q = k + (sumN List.length (l.take i) : Nat) := ⟨_, rfl⟩
      have e4 : EA ++ tabC false (marksB q l[i].length) :: EB = rows (tabC false) (tabM k (l.take (i + 1))) ++ rows (tabC false) (l.drop (i + 1)) := by
        rw [hEA, hEB, hq, tabM_take k l h']; simp [rows]
      have hA : EA.length = i := by rw [hEA, rows_length, tabM_length]; simp; omega
      have hn : EA.length + (EB.length + 1) = l.length := by rw [hA, hEB, rows_length, List.length_drop]; omega
      have e0 : rows (tabC false) (tabM k (l.take i)) ++ rows (tabC false) (l[i] :: l.drop (i + 1)) = EA ++ tabC false l[i] :: EB := by rw [hEA, hEB]; rfl
      rw [e0, ← hq]
      have hq0 : 0 ≤ q := by omega
      simp (decide := true) only [e, h', hn, mid_get hA, mid_getq hA, mid_set hA, mid_cell hA, mid_setc hA, Int.natCast_nonneg, vI, tabC, row1_length, rows_length, cI, cB, cS, roI, ro64, hpin, go_sem, Nat.reduceAdd, Nat.reduceMul]
      refine aCall_nest 2000 [(i, 0)] 1000 (x := ?x) (e := 4) (es := row1 cB l[i]) ?ho ?hs (by simp) (by decide) ?ho2 (hpin 1000 rfl) (fun z => ?_)
      case ho => exact rfl
      case hs => simp [subO, subD, mid_cell hA]
      case ho2 => exact rfl
      simp (decide := true) only [e, h', hn, mid_get hA, mid_getq hA, mid_set hA, mid_cell hA, mid_setc hA, Int.natCast_nonneg, vI, tabC, outV, outL, St.out, look, subO, subD, setO, setD, drop, row1_length, rows_length, cI, cB, cS, roI, ro64, hpin, go_sem, Nat.reduceAdd, Nat.reduceMul]
      refine aCall_iod3 (markB_sound l[i] q (by omega) (by omega) (by omega)) (pinned3 (pin3 hpin) (by decide)) [(2000, 1000)] ⟨rfl, rfl, rfl⟩ (fun uf => ⟨rfl, rfl⟩) (fun uf => ?_) ?_
      · simp (decide := true) only [e, h', hn, mid_get hA, mid_getq hA, mid_set hA, mid_cell hA, mid_setc hA, Int.natCast_nonneg, vI, tabC, Cx.pinned, marksB_length, row1_length, rows_length, cI, cB, cS, roI, ro64, hpin, go_sem, Nat.reduceAdd, Nat.reduceMul]
      simp (decide := true) only [e, h', hn, mid_get hA, mid_getq hA, mid_set hA, mid_cell hA, mid_setc hA, Int.natCast_nonneg, vI, tabC, Cx.pinned, marksB_length, row1_length, rows_length, cI, cB, cS, roI, ro64, hpin, go_sem, Nat.reduceAdd, Nat.reduceMul]
      refine ⟨i + 1, h', by omega, Ent.weak ?_ ?_ ?_ ?_⟩
      · have e5 : k + (sumN List.length (l.take (i + 1)) : Nat) = q + (l[i].length : Int) := by omega
        simp (decide := true) [subT, St.get, look, w64s (n := l.length) h' (by omega), vI, vB, e5, hn]
      · rw [← e4]; simp (decide := true) [subB, look, tabC, cI, cS, cB]
      all_goals simp (decide := true) [hereT, hereV, look, vI, hn]
    · have hil : i = l.length := by omega
      subst hil
      have e : ((l.length : Int) < (l.length : Int)) = False := by simp
      have e6 : rows (tabC false) (tabM k (l.take l.length)) ++ rows (tabC false) (l.drop l.length) = rows (tabC false) (tabM k l) := by simp [rows]
      rw [e6]
      simp (decide := true) only [e, vI, row1_length, rows_length, cI, cB, cS, roI, ro64, hpin, go_sem, Nat.reduceAdd, Nat.reduceMul]
theorem heldB_sound (k : Int) (n : Nat) (hn : n ≤ 1048576) (h0 : 0 ≤ k) (h1 : k + n < 4611686018427387904) :
    Sound Tryd.prog 31 [.ro (roB (marksB k n)), .ro (.sc (.int .i64 k))] (fun rs st => rs = [(false, [cI (k + n)])]) := by
  refine sound_code (fn := Tryd.f31) (c := Tryd.f31.body.getD .skip) (res := [.tm 4]) (n := 23) sized (by kernel_rfl) (by rfl) (by kernel_rfl) (by rfl) (by rfl) (by simp [argsV]) (fun C hpin hfull => ?_)
  simp (decide := true) only [Tryd.f31, marksB_length, row1_length, rows_length, cI, cB, cS, roI, ro64, hpin, go_sem, Nat.reduceAdd, Nat.reduceMul]
  refine Tri.loop (ι := Nat) (fun i => i ≤ n) (fun i => ⟨23, [(0, roB (marksB k n)), (1, vI (k + i)), (5, vI i)], []⟩) (fun i => n - i) 0 (by simp) ?_ ?_
  · refine Ent.weak ?_ ?_ ?_ ?_ <;> simp (decide := true) [subT, subB, hereT, hereV, hereL, St.get, look, vI, vB, vS, cI, cS, cB, roI]
  · rintro i hi
    refine code_sound sized _ ?_
    by_cases h : i < n
    · have e : ((i : Int) < (n : Int)) = True := by simp [h]
      have e2 : i < (marksB k n).length := by rw [marksB_length]; exact h
      have emb : ((k + (i : Int)).tmod 3 == 0) = mbool (k + i) := rfl
      simp (decide := true) only [e, h, emb, marksB_length, row1_get _ _ e2, marksB_get k n i e2, bne_self_eq_false, Int.natCast_nonneg, vI, vB, row1_length, rows_length, cI, cB, cS, roI, ro64, hpin, go_sem, Nat.reduceAdd, Nat.reduceMul]
      have e3 : IntKind.i64.wrap (k + i + 1) = k + ((i + 1 : Nat) : Int) := by rw [w64 (by omega) (by omega)]; omega
      refine ⟨i + 1, h, by omega, Ent.weak ?_ ?_ ?_ ?_⟩
      all_goals simp (decide := true) [subT, subB, hereT, hereV, St.get, look, w64s (n := n) h (by omega), e3, vI, vB]
    · have hil : i = n := by omega
      subst hil
      have e : ((i : Int) < (i : Int)) = False := by simp
      simp (decide := true) only [e, marksB_length, vI, vB, row1_length, rows_length, cI, cB, cS, roI, ro64, hpin, go_sem, Nat.reduceAdd, Nat.reduceMul]
theorem heldT_sound (l : List (List Bool)) (k : Int) (h0 : 0 ≤ k) (hl : l.length + sumN List.length l ≤ 1048576) (h1 : k + (sumN List.length l : Nat) < 4611686018427387904) :
    Sound Tryd.prog 12 [.ro (.imm 50 (rows (tabC true) (tabM k l))), .ro (.sc (.int .i64 k))] (fun rs st => rs = [(false, [cI (k + (sumN List.length l : Nat))])]) := by
  refine sound_code (fn := Tryd.f12) (c := Tryd.f12.body.getD .skip) (res := [.tm 4]) (n := 21) sized (by kernel_rfl) (by rfl) (by kernel_rfl) (by rfl) (by rfl) (by simp [argsV]) (fun C hpin hfull => ?_)
  simp (decide := true) only [Tryd.f12, row1_length, rows_length, cI, cB, cS, roI, ro64, hpin, go_sem, Nat.reduceAdd, Nat.reduceMul]
  refine Tri.loop (ι := Nat) (fun i => i ≤ l.length) (fun i => ⟨21, [(0, .imm 50 (rows (tabC true) (tabM k l))), (1, vI (k + (sumN List.length (l.take i) : Nat))), (5, vI i)], []⟩) (fun i => l.length - i) 0 (by simp) ?_ ?_
  · refine Ent.weak ?_ ?_ ?_ ?_ <;> simp (decide := true) [subT, subB, hereT, hereV, St.get, look, vI, vB, rows, sumN]
  · rintro i hi
    refine code_sound sized _ ?_
    by_cases h' : i < l.length
    · have e : ((i : Int) < (l.length : Int)) = True := by simp [h']
      have hs1 := sumN_take List.length l h'
      have hs2 := sumN_le List.length l (i + 1)
      have h2 : i < (tabM k l).length := by rw [tabM_length]; exact h'
      have hg : (rows (tabC true) (tabM k l)).getD i [] = tabC true (marksB (k + (sumN List.length (l.take i) : Nat)) l[i].length) := by rw [rows_get _ _ h2, tabM_get k l h' h2]
      obtain ⟨q, hq⟩ : ∃ q, q = k + (sumN List.length (l.take i) : Nat) := ⟨_, rfl⟩
      rw [← hq] at hg ⊢
      have hq0 : 0 ≤ q := by omega
      simp (decide := true) only [e, h', hg, Int.natCast_nonneg, vI, tabC, row1_length, rows_length, cI, cB, cS, roI, ro64, hpin, go_sem, Nat.reduceAdd, Nat.reduceMul]
      refine aCall_det (heldB_sound q l[i].length (by omega) (by omega) (by omega)) hpin ?_
      have n3 : ((q + (l[i].length : Int)) < 0) = False := by simp; omega
      simp (decide := true) only [n3, row1_length, rows_length, cI, cB, cS, roI, ro64, hpin, go_sem, Nat.reduceAdd, Nat.reduceMul]
      have e5 : k + (sumN List.length (l.take (i + 1)) : Nat) = q + (l[i].length : Int) := by omega
      refine ⟨i + 1, h', by omega, Ent.weak ?_ ?_ ?_ ?_⟩
      all_goals simp (decide := true) [subT, subB, hereT, hereV, St.get, look, w64s (n := l.length) h' (by omega), vI, vB, e5]
    · have hil : i = l.length := by omega
      subst hil
      have e : ((l.length : Int) < (l.length : Int)) = False := by simp
      simp (decide := true) only [e, List.take_length, vI, row1_length, rows_length, cI, cB, cS, roI, ro64, hpin, go_sem, Nat.reduceAdd, Nat.reduceMul]
end Go.Proofs.YtnbodmohnkohfaaDoor.AW
