/- The places that a word uses, both sides. No condition beyond those named. -/
import Derived.Test.YtnbodmohnkohfaaDoorSg
namespace Go.Proofs.YtnbodmohnkohfaaDoor.AW
open Go.RowKit
set_option maxHeartbeats 8000000
set_option maxRecDepth 100000
set_option linter.unusedSimpArgs false
set_option linter.unusedVariables false

def addI (l : List Int) (n : Int) : List Int := if l.contains n then l else l ++ [n]
def addAll (l ns : List Int) : List Int := ns.foldl addI l
/-- The places that a word uses, as the reference tells them. -/
def readsS (x : InsD) : List Int :=
  if x.op == 15 then addI (addI [] x.a) x.b
  else if x.op == 16 || x.op == 19 then addI [] x.a
  else if x.op == 20 then (if x.a != -1 then addI [] x.a else [])
  else if x.op == 13 then addAll [] x.args
  else if hasBB x.op then (if hasCB x.op then addI (addI [] x.b) x.c else addI [] x.b)
  else []

theorem addI_nil (n : Int) : addI [] n = [n] := by simp [addI]
theorem row1_nil {α : Type} (f : α → D) : row1 f [] = [] := rfl
theorem row1_single {α : Type} (f : α → D) (x : α) : row1 f [x] = [[f x]] := rfl
theorem addI_length (l : List Int) (n : Int) : (addI l n).length ≤ l.length + 1 := by unfold addI; split <;> simp
theorem addAll_length (ns l : List Int) : (addAll l ns).length ≤ l.length + ns.length := by
  induction ns generalizing l with
  | nil => simp [addAll]
  | cons n ns ih =>
    have := ih (addI l n)
    have h2 := addI_length l n
    simp only [addAll, List.foldl_cons, List.length_cons] at this ⊢
    omega
theorem add_sound (l : List Int) (n : Int) (hl : l.length < 1073741824) : Sound Tryd.prog 53 [.mv 3 (row1 cI l), .ro (.sc (.int .i64 n))] (fun rs st => rs = [(false, [.row false 3 (row1 cI (addI l n))])]) := by
  refine sound_code (fn := Tryd.f53) (c := Tryd.f53.body.getD .skip) (res := [.tm 4]) (n := 23) sized (by kernel_rfl) (by rfl) (by kernel_rfl) (by rfl) (by rfl) (by simp [argsV]) (fun C hpin hfull => ?_)
  simp (decide := true) only [Tryd.f53, row1_length, rows_length, cI, cB, cS, roI, ro64, hpin, go_sem, Nat.reduceAdd, Nat.reduceMul]
  unfold addI
  refine Tri.loop (ι := Nat) (fun i => i ≤ l.length ∧ (l.take i).contains n = false) (fun i => ⟨23, [(0, .ref 0 [] l.length), (1, vI n), (4, .ref 4 [] 0), (5, vI i)], [(0, .row 3 (row1 cI l)), (4, .row 3 [])]⟩) (fun i => l.length - i) 0 (by simp) ?_ ?_
  · refine Ent.weak ?_ ?_ ?_ ?_ <;> simp (decide := true) [subT, subB, hereT, hereV, hereL, St.get, look, vI, vB, vS]
  · rintro i ⟨hi, hn⟩
    refine code_sound sized _ ?_
    by_cases h : i < l.length
    · have e : ((i : Int) < (l.length : Int)) = True := by simp [h]
      simp (decide := true) only [e, h, row1_get _ _ h, row1_getq _ _ h, Int.natCast_nonneg, vI, vB, row1_length, rows_length, cI, cB, cS, roI, ro64, hpin, go_sem, Nat.reduceAdd, Nat.reduceMul]
      cases hq : (l[i] == n) with
      | true =>
        have hc : l.contains n = true := by simp at hq ⊢; exact hq ▸ List.getElem_mem h
        simp (decide := true) only [hq, hc, vB, row1_length, rows_length, cI, cB, cS, roI, ro64, hpin, go_sem, Nat.reduceAdd, Nat.reduceMul]
      | false =>
        simp (decide := true) only [hq, vB, row1_length, rows_length, cI, cB, cS, roI, ro64, hpin, go_sem, Nat.reduceAdd, Nat.reduceMul]
        refine ⟨i + 1, ⟨h, ?_⟩, by omega, Ent.weak ?_ ?_ ?_ ?_⟩
        · rw [List.take_succ_eq_append_getElem h, List.contains_append]
          simp at hn hq ⊢
          exact ⟨hn, fun e => hq e.symm⟩
        all_goals simp (decide := true) [subT, subB, hereT, hereV, St.get, look, w64s (n := l.length) h (by omega), vI, vB]
    · have hil : i = l.length := by omega
      subst hil
      have e : ((l.length : Int) < (l.length : Int)) = False := by simp
      rw [List.take_length] at hn
      have hb1 : l.length + 1 ≤ 140737488355328 := by omega
      have hb2 : (l.length + 1) * 8 ≤ 140737488355328 := by omega
      have e5 := row1_snoc cI l n
      simp only [cI] at e5
      simp (decide := true) only [e, hn, hb1, hb2, vI, vB, row1_length, rows_length, cI, cB, cS, roI, ro64, hpin, go_sem, Nat.reduceAdd, Nat.reduceMul]
      rw [e5]

theorem add0_sound (n : Int) : Sound Tryd.prog 53 [.mv 3 [], .ro (.sc (.int .i64 n))] (fun rs st => rs = [(false, [.row false 3 (row1 cI [n])])]) := by
  have := add_sound [] n (by simp)
  rw [addI_nil, row1_nil] at this; exact this

theorem readsS_sound (x : InsD) (hl : x.args.length < 1073741824) : Sound Tryd.prog 39 [.ro (insW x)] (fun rs st => rs = [(false, [.row false 3 (row1 cI (readsS x))])]) := by
  refine sound_tri (fn := Tryd.f39) (c := Tryd.f39.body.getD .skip) (res := [.tm 2]) (n := 75) sized (by kernel_rfl) (by rfl) (by kernel_rfl) (by rfl) (by rfl) (by simp [argsV]) (fun uf ub C hpin hpin2 hfull => ?_)
  simp only [Tryd.f39, Option.getD_some]
  refine Tri.seqE sized (fun s => s.frb 1) (fun s => Ent.frb hfull 1) ?_
  simp (decide := true) only [insW, hpin, bne, row1_length, rows_length, cI, cB, cS, roI, ro64, go_sem, Nat.reduceAdd, Nat.reduceMul]
  unfold readsS
  cases h15 : x.op == 15 with
  | true =>
    simp (decide := true) only [hpin, bne, row1_length, rows_length, cI, cB, cS, roI, ro64, go_sem, Nat.reduceAdd, Nat.reduceMul]
    refine Tri.sched sized [(0, true), (1, true), (4, true), (2, true), (5, true), (3, false), (6, false), (7, false)] mixed (by kernel_rfl) (fun C' hC => ?_)
    have hpin' : ∀ o, isPin o = false → C'.pin o = none := by rw [hC]; exact hpin
    simp (decide := true) only [hpin, bne, row1_length, rows_length, cI, cB, cS, roI, ro64, go_sem, Nat.reduceAdd, Nat.reduceMul]
    refine aCall_det (add0_sound x.a) hpin' ?_
    simp (decide := true) only [hpin, bne, row1_length, rows_length, cI, cB, cS, roI, ro64, go_sem, Nat.reduceAdd, Nat.reduceMul]
    refine aCall_det (add_sound [x.a] x.b (by simp)) hpin' ?_
    simp (decide := true) only [hpin, bne, row1_length, rows_length, cI, cB, cS, roI, ro64, hpin', addI_nil, go_sem, Nat.reduceAdd, Nat.reduceMul]
  | false =>
  simp (decide := true) only [hpin, bne, row1_length, rows_length, cI, cB, cS, roI, ro64, go_sem, Nat.reduceAdd, Nat.reduceMul]
  cases h16 : x.op == 16 with
  | true =>
    simp (decide := true) only [hpin, bne, row1_length, rows_length, cI, cB, cS, roI, ro64, go_sem, Nat.reduceAdd, Nat.reduceMul]
    refine aCall_det (add0_sound x.a) hpin ?_
    simp (decide := true) only [hpin, bne, row1_length, rows_length, cI, cB, cS, roI, ro64, addI_nil, Bool.true_or, go_sem, Nat.reduceAdd, Nat.reduceMul]
  | false =>
  cases h19 : x.op == 19 with
  | true =>
    simp (decide := true) only [hpin, bne, row1_length, rows_length, cI, cB, cS, roI, ro64, go_sem, Nat.reduceAdd, Nat.reduceMul]
    refine aCall_det (add0_sound x.a) hpin ?_
    simp (decide := true) only [hpin, bne, row1_length, rows_length, cI, cB, cS, roI, ro64, addI_nil, Bool.or_true, go_sem, Nat.reduceAdd, Nat.reduceMul]
  | false =>
  simp (decide := true) only [hpin, bne, row1_length, rows_length, cI, cB, cS, roI, ro64, Bool.or_self, go_sem, Nat.reduceAdd, Nat.reduceMul]
  cases h20 : x.op == 20 with
  | true =>
    simp (decide := true) only [hpin, bne, row1_length, rows_length, cI, cB, cS, roI, ro64, go_sem, Nat.reduceAdd, Nat.reduceMul]
    cases ha : x.a == -1 with
    | true =>
      simp (decide := true) only [hpin, bne, row1_length, rows_length, cI, cB, cS, roI, ro64, go_sem, Nat.reduceAdd, Nat.reduceMul]
      simp [ha, row1_nil]
    | false =>
      simp (decide := true) only [hpin, bne, row1_length, rows_length, cI, cB, cS, roI, ro64, go_sem, Nat.reduceAdd, Nat.reduceMul]
      refine aCall_det (add0_sound x.a) hpin ?_
      simp (decide := true) only [hpin, bne, row1_length, rows_length, cI, cB, cS, roI, ro64, addI_nil, go_sem, Nat.reduceAdd, Nat.reduceMul]
      simp [ha]
  | false =>
  simp (decide := true) only [hpin, bne, row1_length, rows_length, cI, cB, cS, roI, ro64, go_sem, Nat.reduceAdd, Nat.reduceMul]
  cases h13 : x.op == 13 with
  | true =>
    simp (decide := true) only [hpin, bne, row1_length, rows_length, cI, cB, cS, roI, ro64, go_sem, Nat.reduceAdd, Nat.reduceMul]
    let L : Nat → List Int := fun i => addAll [] (x.args.take i)
    have hL : ∀ i, i ≤ x.args.length → (L i).length ≤ i := fun i hi => by have := addAll_length (x.args.take i) []; simp only [List.length_nil, List.length_take] at this; simp only [L]; omega
    refine Tri.loop (ι := Nat) (fun i => i ≤ x.args.length) (fun i => ⟨75, [(1, .ip (insC true x) 0), (3, .ref 3 [] (L i).length), (4, vI i)], [(3, .row 3 (row1 cI (L i)))]⟩) (fun i => x.args.length - i) 0 (by simp) ?_ ?_
    · refine Ent.weak ?_ ?_ ?_ ?_ <;> simp (decide := true) [subT, subB, hereT, hereV, hereL, St.get, look, vI, vB, vS, insC, cI, cS, L, addAll, row1_nil]
    · rintro i hi
      refine code_sound sized _ ?_
      by_cases h : i < x.args.length
      · have e : ((i : Int) < (x.args.length : Int)) = True := by simp [h]
        have hLi := hL i hi
        simp (decide := true) only [hpin, bne, row1_length, rows_length, cI, cB, cS, roI, ro64, insC, cS, vI, e, h, row1_get _ _ h, Int.natCast_nonneg, go_sem, Nat.reduceAdd, Nat.reduceMul]
        refine aCall_det (add_sound (L i) x.args[i] (by omega)) hpin ?_
        simp (decide := true) only [hpin, bne, row1_length, rows_length, cI, cB, cS, roI, ro64, go_sem, Nat.reduceAdd, Nat.reduceMul]
        have eL : addI (L i) x.args[i] = L (i + 1) := by simp only [L, addAll]; rw [List.take_succ_eq_append_getElem h, List.foldl_append]; rfl
        refine ⟨i + 1, h, by omega, Ent.weak ?_ ?_ ?_ ?_⟩ <;> simp (decide := true) [subT, subB, hereT, hereV, St.get, look, w64s (n := x.args.length) h (by omega), vI, vB, insC, cI, cS, eL]
      · have hil : i = x.args.length := by omega
        subst hil
        have e : ((x.args.length : Int) < (x.args.length : Int)) = False := by simp
        simp (decide := true) only [hpin, bne, row1_length, rows_length, cI, cB, cS, roI, ro64, insC, cS, vI, e, go_sem, Nat.reduceAdd, Nat.reduceMul]
        simp [L]
  | false =>
  simp (decide := true) only [hpin, bne, row1_length, rows_length, cI, cB, cS, roI, ro64, go_sem, Nat.reduceAdd, Nat.reduceMul]
  refine aCall_det (hasBS_sound x.op) hpin ?_
  simp (decide := true) only [hpin, bne, row1_length, rows_length, cI, cB, cS, roI, ro64, go_sem, Nat.reduceAdd, Nat.reduceMul]
  cases hb : hasBB x.op with
  | true =>
    simp (decide := true) only [hpin, bne, row1_length, rows_length, cI, cB, cS, roI, ro64, go_sem, Nat.reduceAdd, Nat.reduceMul]
    refine aCall_det (add0_sound x.b) hpin ?_
    simp (decide := true) only [hpin, bne, row1_length, rows_length, cI, cB, cS, roI, ro64, go_sem, Nat.reduceAdd, Nat.reduceMul]
    refine aCall_det (hasCS_sound x.op) hpin ?_
    simp (decide := true) only [hpin, bne, row1_length, rows_length, cI, cB, cS, roI, ro64, go_sem, Nat.reduceAdd, Nat.reduceMul]
    cases hc : hasCB x.op with
    | true =>
      simp (decide := true) only [hpin, bne, row1_length, rows_length, cI, cB, cS, roI, ro64, go_sem, Nat.reduceAdd, Nat.reduceMul]
      refine aCall_det (add_sound [x.b] x.c (by simp)) hpin ?_
      simp (decide := true) only [hpin, bne, row1_length, rows_length, cI, cB, cS, roI, ro64, addI_nil, go_sem, Nat.reduceAdd, Nat.reduceMul]
    | false =>
      simp (decide := true) only [hpin, bne, row1_length, rows_length, cI, cB, cS, roI, ro64, addI_nil, go_sem, Nat.reduceAdd, Nat.reduceMul]
  | false =>
    simp (decide := true) only [hpin, bne, row1_length, rows_length, cI, cB, cS, roI, ro64, row1_nil, go_sem, Nat.reduceAdd, Nat.reduceMul]
def chosen (x : InsD) : List Int :=
  if inI x.op 2 7 || x.op == 9 || x.op == 14 then [x.b]
  else if inI x.op 10 12 then [x.b, x.c]
  else if x.op == 13 then x.args
  else if x.op == 15 then [x.a, x.b]
  else if x.op == 16 || x.op == 19 || (x.op == 20 && !(x.a == -1)) then [x.a]
  else []
def readsI (x : InsD) : List Int := addAll [] (chosen x)

theorem chosen_length (x : InsD) : (chosen x).length ≤ x.args.length + 2 := by
  unfold chosen
  split
  · simp
  split
  · simp
  split
  · omega
  split
  · simp
  split <;> simp

theorem readsI_sound (x : InsD) (hl : x.args.length < 536870912) : Sound Tryd.prog 22 [.ro (insW x)] (fun rs st => rs = [(false, [.row false 3 (row1 cI (readsI x))])]) := by
  unfold readsI
  refine sound_tri (fn := Tryd.f22) (c := Tryd.f22.body.getD .skip) (res := [.tm 2]) (n := 86) sized (by kernel_rfl) (by rfl) (by kernel_rfl) (by rfl) (by rfl) (by simp [argsV]) (fun uf ub C hpin hpin2 hfull => ?_)
  simp only [Tryd.f22, Option.getD_some]
  refine Tri.step sized ?_
  simp (decide := true) only [insW, hpin, bne, row1_length, rows_length, cI, cB, cS, roI, ro64, go_sem, Nat.reduceAdd, Nat.reduceMul]
  refine Tri.step sized ?_
  simp (decide := true) only [insW, hpin, bne, row1_length, rows_length, cI, cB, cS, roI, ro64, go_sem, Nat.reduceAdd, Nat.reduceMul]
  refine Tri.stop sized ⟨86, [(3, roI (chosen x))], []⟩ ?_ ?_
  · simp (decide := true) only [insW, hpin, bne, row1_length, rows_length, cI, cB, cS, roI, ro64, go_sem, Nat.reduceAdd, Nat.reduceMul]
    refine aCall_det (in' x.op 2 7) hpin ?_
    simp (decide := true) only [insW, hpin, bne, row1_length, rows_length, cI, cB, cS, roI, ro64, go_sem, Nat.reduceAdd, Nat.reduceMul]
    cases h1 : inI x.op 2 7 with
    | true =>
      simp (decide := true) only [hpin, bne, row1_length, rows_length, cI, cB, cS, roI, ro64, go_sem, Nat.reduceAdd, Nat.reduceMul]
      have ec : chosen x = [x.b] := by simp [chosen, h1]
      rw [ec]
      refine (Ent.frz hfull 3).trans (Ent.weak ?_ ?_ ?_ ?_) <;> simp (decide := true) [St.frz, frzV, frzL, mapT, drop, shLL, shL, shD, subT, subB, hereT, hereV, hereL, St.get, look, vI, vB, vS, cI, cS, cB, roI, row1_nil, row1_single, row1, ints_sh, List.take_length]
    | false =>
    cases h9 : x.op == 9 with
    | true =>
      simp (decide := true) only [hpin, bne, row1_length, rows_length, cI, cB, cS, roI, ro64, go_sem, Nat.reduceAdd, Nat.reduceMul]
      have ec : chosen x = [x.b] := by simp [chosen, h1, h9]
      rw [ec]
      refine (Ent.frz hfull 3).trans (Ent.weak ?_ ?_ ?_ ?_) <;> simp (decide := true) [St.frz, frzV, frzL, mapT, drop, shLL, shL, shD, subT, subB, hereT, hereV, hereL, St.get, look, vI, vB, vS, cI, cS, cB, roI, row1_nil, row1_single, row1, ints_sh, List.take_length]
    | false =>
    cases h14 : x.op == 14 with
    | true =>
      simp (decide := true) only [hpin, bne, row1_length, rows_length, cI, cB, cS, roI, ro64, go_sem, Nat.reduceAdd, Nat.reduceMul]
      have ec : chosen x = [x.b] := by simp [chosen, h1, h9, h14]
      rw [ec]
      refine (Ent.frz hfull 3).trans (Ent.weak ?_ ?_ ?_ ?_) <;> simp (decide := true) [St.frz, frzV, frzL, mapT, drop, shLL, shL, shD, subT, subB, hereT, hereV, hereL, St.get, look, vI, vB, vS, cI, cS, cB, roI, row1_nil, row1_single, row1, ints_sh, List.take_length]
    | false =>
    simp (decide := true) only [hpin, bne, row1_length, rows_length, cI, cB, cS, roI, ro64, go_sem, Nat.reduceAdd, Nat.reduceMul]
    refine aCall_det (in' x.op 10 12) hpin ?_
    simp (decide := true) only [hpin, bne, row1_length, rows_length, cI, cB, cS, roI, ro64, go_sem, Nat.reduceAdd, Nat.reduceMul]
    cases h10 : inI x.op 10 12 with
    | true =>
      simp (decide := true) only [hpin, bne, row1_length, rows_length, cI, cB, cS, roI, ro64, go_sem, Nat.reduceAdd, Nat.reduceMul]
      have ec : chosen x = [x.b, x.c] := by simp [chosen, h1, h9, h14, h10]
      rw [ec]
      refine (Ent.frz hfull 3).trans (Ent.weak ?_ ?_ ?_ ?_) <;> simp (decide := true) [St.frz, frzV, frzL, mapT, drop, shLL, shL, shD, subT, subB, hereT, hereV, hereL, St.get, look, vI, vB, vS, cI, cS, cB, roI, row1_nil, row1_single, row1, ints_sh, List.take_length]
    | false =>
    simp (decide := true) only [hpin, bne, row1_length, rows_length, cI, cB, cS, roI, ro64, go_sem, Nat.reduceAdd, Nat.reduceMul]
    cases h13 : x.op == 13 with
    | true =>
      simp (decide := true) only [hpin, bne, row1_length, rows_length, cI, cB, cS, roI, ro64, go_sem, Nat.reduceAdd, Nat.reduceMul]
      have ec : chosen x = x.args := by simp [chosen, h1, h9, h14, h10, h13]
      rw [ec]
      refine Ent.weak ?_ ?_ ?_ ?_ <;> simp (decide := true) [St.frz, frzV, frzL, mapT, drop, shLL, shL, shD, subT, subB, hereT, hereV, hereL, St.get, look, vI, vB, vS, cI, cS, cB, roI, row1_nil, row1_single, row1, ints_sh, List.take_length]
    | false =>
    simp (decide := true) only [hpin, bne, row1_length, rows_length, cI, cB, cS, roI, ro64, go_sem, Nat.reduceAdd, Nat.reduceMul]
    cases h15 : x.op == 15 with
    | true =>
      simp (decide := true) only [hpin, bne, row1_length, rows_length, cI, cB, cS, roI, ro64, go_sem, Nat.reduceAdd, Nat.reduceMul]
      have ec : chosen x = [x.a, x.b] := by simp [chosen, h1, h9, h14, h10, h13, h15]
      rw [ec]
      refine (Ent.frz hfull 3).trans (Ent.weak ?_ ?_ ?_ ?_) <;> simp (decide := true) [St.frz, frzV, frzL, mapT, drop, shLL, shL, shD, subT, subB, hereT, hereV, hereL, St.get, look, vI, vB, vS, cI, cS, cB, roI, row1_nil, row1_single, row1, ints_sh, List.take_length]
    | false =>
    simp (decide := true) only [hpin, bne, row1_length, rows_length, cI, cB, cS, roI, ro64, go_sem, Nat.reduceAdd, Nat.reduceMul]
    cases h16 : x.op == 16 with
    | true =>
      simp (decide := true) only [hpin, bne, row1_length, rows_length, cI, cB, cS, roI, ro64, go_sem, Nat.reduceAdd, Nat.reduceMul]
      have ec : chosen x = [x.a] := by simp [chosen, h1, h9, h14, h10, h13, h15, h16]
      rw [ec]
      refine (Ent.frz hfull 3).trans (Ent.weak ?_ ?_ ?_ ?_) <;> simp (decide := true) [St.frz, frzV, frzL, mapT, drop, shLL, shL, shD, subT, subB, hereT, hereV, hereL, St.get, look, vI, vB, vS, cI, cS, cB, roI, row1_nil, row1_single, row1, ints_sh, List.take_length]
    | false =>
    cases h19 : x.op == 19 with
    | true =>
      simp (decide := true) only [hpin, bne, row1_length, rows_length, cI, cB, cS, roI, ro64, go_sem, Nat.reduceAdd, Nat.reduceMul]
      have ec : chosen x = [x.a] := by simp [chosen, h1, h9, h14, h10, h13, h15, h16, h19]
      rw [ec]
      refine (Ent.frz hfull 3).trans (Ent.weak ?_ ?_ ?_ ?_) <;> simp (decide := true) [St.frz, frzV, frzL, mapT, drop, shLL, shL, shD, subT, subB, hereT, hereV, hereL, St.get, look, vI, vB, vS, cI, cS, cB, roI, row1_nil, row1_single, row1, ints_sh, List.take_length]
    | false =>
    cases h20 : x.op == 20 with
    | true =>
      cases ha : x.a == -1 with
      | true =>
        simp (decide := true) only [hpin, bne, row1_length, rows_length, cI, cB, cS, roI, ro64, go_sem, Nat.reduceAdd, Nat.reduceMul]
        have ec : chosen x = [] := by simp [chosen, h1, h9, h14, h10, h13, h15, h16, h19, h20, ha]
        rw [ec]
        refine (Ent.frz hfull 3).trans (Ent.weak ?_ ?_ ?_ ?_) <;> simp (decide := true) [St.frz, frzV, frzL, mapT, drop, shLL, shL, shD, subT, subB, hereT, hereV, hereL, St.get, look, vI, vB, vS, cI, cS, cB, roI, row1_nil, row1_single, row1, ints_sh, List.take_length]
      | false =>
        simp (decide := true) only [hpin, bne, row1_length, rows_length, cI, cB, cS, roI, ro64, go_sem, Nat.reduceAdd, Nat.reduceMul]
        have ec : chosen x = [x.a] := by simp [chosen, h1, h9, h14, h10, h13, h15, h16, h19, h20, ha]
        rw [ec]
        refine (Ent.frz hfull 3).trans (Ent.weak ?_ ?_ ?_ ?_) <;> simp (decide := true) [St.frz, frzV, frzL, mapT, drop, shLL, shL, shD, subT, subB, hereT, hereV, hereL, St.get, look, vI, vB, vS, cI, cS, cB, roI, row1_nil, row1_single, row1, ints_sh, List.take_length]
    | false =>
    simp (decide := true) only [hpin, bne, row1_length, rows_length, cI, cB, cS, roI, ro64, go_sem, Nat.reduceAdd, Nat.reduceMul]
    have ec : chosen x = [] := by simp [chosen, h1, h9, h14, h10, h13, h15, h16, h19, h20]
    rw [ec]
    refine (Ent.frz hfull 3).trans (Ent.weak ?_ ?_ ?_ ?_) <;> simp (decide := true) [St.frz, frzV, frzL, mapT, drop, shLL, shL, shD, subT, subB, hereT, hereV, hereL, St.get, look, vI, vB, vS, cI, cS, cB, roI, row1_nil, row1_single, row1, ints_sh, List.take_length]
  · have hc := chosen_length x
    generalize chosen x = l at hc
    refine code_sound sized _ ?_
    simp (decide := true) only [hpin, bne, row1_length, rows_length, cI, cB, cS, roI, ro64, go_sem, Nat.reduceAdd, Nat.reduceMul]
    let L : Nat → List Int := fun i => addAll [] (l.take i)
    have hL : ∀ i, i ≤ l.length → (L i).length ≤ i := fun i hi => by have := addAll_length (l.take i) []; simp only [List.length_nil, List.length_take] at this; simp only [L]; omega
    refine Tri.loop (ι := Nat) (fun i => i ≤ l.length) (fun i => ⟨86, [(4, .ref 4 [] (L i).length), (70, roI l), (71, vI l.length), (72, vI i)], [(4, .row 3 (row1 cI (L i)))]⟩) (fun i => l.length - i) 0 (by simp) ?_ ?_
    · refine Ent.weak ?_ ?_ ?_ ?_ <;> simp (decide := true) [subT, subB, hereT, hereV, hereL, St.get, look, vI, vB, vS, roI, cI, cS, L, addAll, row1_nil]
    · rintro i hi
      refine code_sound sized _ ?_
      by_cases h : i < l.length
      · have e : ((i : Int) < (l.length : Int)) = True := by simp [h]
        have hLi := hL i hi
        simp (decide := true) only [vI, e, h, row1_get _ _ h, Int.natCast_nonneg, hpin, bne, row1_length, rows_length, cI, cB, cS, roI, ro64, go_sem, Nat.reduceAdd, Nat.reduceMul]
        refine aCall_det (hasInt_sound (L i) l[i] (by omega)) hpin ?_
        simp (decide := true) only [hpin, bne, row1_length, rows_length, cI, cB, cS, roI, ro64, go_sem, Nat.reduceAdd, Nat.reduceMul]
        have eL : L (i + 1) = addI (L i) l[i] := by simp only [L, addAll]; rw [List.take_succ_eq_append_getElem h, List.foldl_append]; rfl
        cases hq : (L i).contains l[i] with
        | true =>
          simp (decide := true) only [hpin, bne, row1_length, rows_length, cI, cB, cS, roI, ro64, go_sem, Nat.reduceAdd, Nat.reduceMul]
          have e2 : L (i + 1) = L i := by rw [eL, addI, hq]; rfl
          refine ⟨i + 1, h, by omega, Ent.weak ?_ ?_ ?_ ?_⟩ <;> simp (decide := true) [subT, subB, hereT, hereV, St.get, look, w64s (n := l.length) h (by omega), vI, vB, cI, roI, e2]
        | false =>
          simp (decide := true) only [hpin, bne, row1_length, rows_length, cI, cB, cS, roI, ro64, go_sem, Nat.reduceAdd, Nat.reduceMul]
          have e2 : L (i + 1) = L i ++ [l[i]] := by rw [eL, addI, hq]; rfl
          have e5 := row1_snoc cI (L i) l[i]
          simp only [cI] at e5
          refine ⟨by omega, by omega, i + 1, h, by omega, Ent.weak ?_ ?_ ?_ ?_⟩ <;> simp (decide := true) [subT, subB, hereT, hereV, St.get, look, w64s (n := l.length) h (by omega), vI, vB, cI, roI, e2, e5]
      · have hil : i = l.length := by omega
        subst hil
        have e : ((l.length : Int) < (l.length : Int)) = False := by simp
        simp (decide := true) only [vI, e, hpin, bne, row1_length, rows_length, cI, cB, cS, roI, ro64, go_sem, Nat.reduceAdd, Nat.reduceMul]
        simp [L]
theorem reads_eq (x : InsD) : readsI x = readsS x := by
  unfold readsI readsS chosen hasBB hasCB inI
  by_cases h15 : x.op = 15
  · simp [h15, addAll]
  by_cases h16 : x.op = 16
  · simp [h16, addAll]
  by_cases h19 : x.op = 19
  · simp [h19, addAll]
  by_cases h20 : x.op = 20
  · simp only [h20]
    by_cases ha : x.a = -1 <;> simp [ha, addAll]
  by_cases h13 : x.op = 13
  · simp [h13, addAll]
  by_cases h14 : x.op = 14
  · simp [h14, addAll]
  by_cases h9 : x.op = 9
  · simp [h9, addAll]
  by_cases h1 : 2 ≤ x.op ∧ x.op ≤ 7
  · have e1 : ¬ (10 ≤ x.op) := by omega
    simp [h1.1, h1.2, h13, h15, h16, h19, h20, e1, addAll]
  · by_cases h2 : 10 ≤ x.op ∧ x.op ≤ 12
    · have e1 : ¬ (x.op ≤ 7) := by omega
      have e2 : 9 ≤ x.op := by omega
      simp [h2.1, h2.2, h13, h15, h16, h19, h20, h9, h14, e1, e2, addAll]
    · have e1 : (decide (2 ≤ x.op) && decide (x.op ≤ 7)) = false := by simp; omega
      have e2 : (decide (10 ≤ x.op) && decide (x.op ≤ 12)) = false := by simp; omega
      have e3 : (decide (9 ≤ x.op) && decide (x.op ≤ 12)) = false := by simp; omega
      simp [e1, e2, e3, h13, h15, h16, h19, h20, h9, h14, addAll]
end Go.Proofs.YtnbodmohnkohfaaDoor.AW
