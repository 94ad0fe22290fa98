/- What is used later, as the program tells it. No condition beyond those named. -/
import Derived.Test.YtnbodmohnkohfaaDoorLc
namespace Go.Proofs.YtnbodmohnkohfaaDoor.AW
open Go.RowKit
set_option maxHeartbeats 8000000
set_option maxRecDepth 100000
set_option linter.unusedSimpArgs false
set_option linter.unusedVariables false

theorem code_small {c : CodeD} (h : codeB c = true) : c.locals.length ≤ 200 ∧ 1 ≤ c.words.length ∧ c.words.length ≤ 400 ∧ (∀ i (hi : i < c.words.length), wordS c c.words[i] = true) := by
  unfold codeB at h
  simp only [Bool.and_eq_true] at h
  obtain ⟨_, h1, _, h2, _, _, h3⟩ := h
  have h4 := inL_true h2
  simp only [Bool.not_eq_true', decide_eq_false_iff_not] at h1
  refine ⟨by omega, by omega, by omega, fun i hi => ?_⟩
  exact List.all_eq_true.1 h3 _ (List.getElem_mem hi)
theorem any_take {f : Int → Bool} {l : List Int} {i : Nat} (h : i < l.length) : (l.take (i + 1)).any f = ((l.take i).any f || f l[i]) := by
  rw [List.take_succ_eq_append_getElem h, List.any_append]; simp
/-- What has been done of a row of words. -/
structure Round (c : CodeD) (f0 f : Nat → Nat → Bool) (mo : Bool) : Prop where
  sub : SubF c f
  grew : mo = true → cntT f0 c.locals.length c.words.length < cntT f c.locals.length c.words.length
  same : mo = false → f = f0
theorem Round.upd {c : CodeD} {f0 f : Nat → Nat → Bool} {mo : Bool} (h : Round c f0 f mo) {i l : Nat} (hv : Liv c i l) (hf : f i l = false) (hi : i < c.words.length) (hl : l < c.locals.length) : Round c f0 (upd f i l) true where
  sub := sub_upd h.sub hv
  grew := fun _ => by
    rw [cnt_new hf hl hi]
    cases mo with
    | true => have := h.grew rfl; omega
    | false => have := h.same rfl; subst this; omega
  same := fun hh => by cases hh
def doneR (c : CodeD) (f : Nat → Nat → Bool) (k : Nat) : Prop := ∀ i, k ≤ i → i < c.words.length → ∀ l, l < c.locals.length → wantF c f i l = true → f i l = true
def doneL (c : CodeD) (f : Nat → Nat → Bool) (i n : Nat) : Prop := ∀ l, l < n → wantF c f i l = true → f i l = true

theorem tab_setc {W L : Nat} {f : Nat → Nat → Bool} {i l : Nat} (h : i < W) : setCellAt (rows (tabC false) (tabF W L f)) i 0 (.row false 4 (row1 cB (rowF L (upd f i l i)))) = rows (tabC false) (tabF W L (upd f i l)) := by
  unfold setCellAt
  rw [tab_cells h, List.set_cons_zero, tab_set]

theorem liveI_sound (c : CodeD) (hl : c.locals.length ≤ 1048576) (hw : c.words.length ≤ 1048576) (ha : ∀ y ∈ c.words, y.args.length ≤ 1048576) : Sound Tryd.prog 7 [.ro (codeW c)] (fun rs st => rs = [(false, [.row false 50 (rows (tabC false) (liveL c))])]) := by
  have hck := codeI_sound c hl hw ha
  have e0 : rows (tabC false) ([] : List (List Bool)) = [] := rfl
  unfold liveL
  simp only [codeW] at hck
  refine sound_tri (fn := Tryd.f7) (c := Tryd.f7.body.getD .skip) (res := [.tm 2]) (n := 89) sized (by kernel_rfl) (by rfl) (by kernel_rfl) (by rfl) (by rfl) (by simp [argsV]) (fun uf ub C hpin hpin2 hfull => ?_)
  simp only [Tryd.f7, Option.getD_some]
  refine Tri.step sized ?_
  simp (decide := true) only [codeW, codeC, insW, insC, row1_length, rows_length, tabF_length, rowF_length, cI, cB, cS, roI, ro64, hpin, go_sem, Nat.reduceAdd, Nat.reduceMul]
  refine Tri.ent ?_ (Ent.frb hfull 1)
  refine Tri.step sized ?_
  simp (decide := true) only [codeC, row1_length, rows_length, tabF_length, rowF_length, cI, cB, cS, roI, ro64, hpin, go_sem, Nat.reduceAdd, Nat.reduceMul]
  refine aCall_det hck hpin ?_
  cases hok : codeB c with
  | false => simp (decide := true) only [e0, if_false, Bool.false_eq_true, row1_length, rows_length, tabF_length, rowF_length, cI, cB, cS, roI, ro64, hpin, go_sem, Nat.reduceAdd, Nat.reduceMul]
  | true =>
  obtain ⟨s1, s2, s3, s4⟩ := code_small hok
  obtain ⟨W, hW⟩ : ∃ W, W = c.words.length := ⟨_, rfl⟩
  obtain ⟨L, hL⟩ : ∃ L, L = c.locals.length := ⟨_, rfl⟩
  simp (decide := true) only [if_true, row1_length, rows_length, tabF_length, rowF_length, cI, cB, cS, roI, ro64, hpin, go_sem, Nat.reduceAdd, Nat.reduceMul]
  refine Tri.step sized ?_
  simp (decide := true) only [codeC, ← hW, ← hL, row1_length, rows_length, tabF_length, rowF_length, cI, cB, cS, roI, ro64, hpin, go_sem, Nat.reduceAdd, Nat.reduceMul]
  refine aCall_det (tableI_sound W L (by omega) (by omega)) hpin ?_
  simp (decide := true) only [row1_length, rows_length, tabF_length, rowF_length, cI, cB, cS, roI, ro64, hpin, go_sem, Nat.reduceAdd, Nat.reduceMul]
  refine Tri.step sized ?_
  simp (decide := true) only [codeC, row1_length, rows_length, tabF_length, rowF_length, cI, cB, cS, roI, ro64, hpin, go_sem, Nat.reduceAdd, Nat.reduceMul]
  refine Tri.loop (ι := (Nat → Nat → Bool) × Bool) (fun q => SubF c q.1 ∧ (q.2 = false → ClosedF c q.1)) (fun q => ⟨89, [(1, .ip (codeC true c) 0), (3, .ref 3 [] W), (4, vB q.2)], [(3, .row 50 (rows (tabC false) (tabF W L q.1)))]⟩) (fun q => 2 * (W * L - cntT q.1 L W) + (if q.2 then 1 else 0)) (fun _ _ => false, true) ⟨fun i l h => by simp at h, fun h => by simp at h⟩ ?_ ?_
  · refine Ent.weak ?_ ?_ ?_ ?_ <;> simp (decide := true) [subT, subB, hereT, hereV, hereL, St.get, look, vI, vB, vS, cI, cS, cB, codeC, insC, roI]
  · rintro ⟨f0, mo⟩ ⟨hsub, hcl⟩
    simp only at hsub hcl ⊢
    refine code_sound sized _ ?_
    cases mo with
    | false =>
      have hfin := live_tab hsub (hcl rfl)
      simp (decide := true) only [vB, row1_length, rows_length, tabF_length, rowF_length, cI, cB, cS, roI, ro64, hpin, go_sem, Nat.reduceAdd, Nat.reduceMul]
      refine code_sound sized _ ?_
      simp (decide := true) only [hfin, hW, hL, row1_length, rows_length, tabF_length, rowF_length, cI, cB, cS, roI, ro64, hpin, go_sem, Nat.reduceAdd, Nat.reduceMul]
    | true =>
    have w1 : IntKind.i64.wrap ((W : Int) - 1) = (W : Int) - 1 := w64 (by omega) (by omega)
    simp (decide := true) only [codeC, w1, ← hW, vB, row1_length, rows_length, tabF_length, rowF_length, cI, cB, cS, roI, ro64, hpin, go_sem, Nat.reduceAdd, Nat.reduceMul]
    refine Tri.loop (ι := (Nat → Nat → Bool) × Bool × Nat) (fun q => q.2.2 ≤ W ∧ Round c f0 q.1 q.2.1 ∧ (q.2.1 = false → doneR c f0 q.2.2)) (fun q => ⟨89, [(1, .ip (codeC true c) 0), (3, .ref 3 [] W), (4, vB q.2.1), (5, vI ((q.2.2 : Int) - 1))], [(3, .row 50 (rows (tabC false) (tabF W L q.1)))]⟩) (fun q => q.2.2) (f0, false, W) ⟨by simp, ⟨hsub, fun h => by simp at h, fun _ => rfl⟩, fun _ i h1 h2 => by simp only at h1; omega⟩ ?_ ?_
    · refine Ent.weak ?_ ?_ ?_ ?_ <;> simp (decide := true) [subT, subB, hereT, hereV, hereL, St.get, look, vI, vB, vS, cI, cS, cB, codeC, insC, roI]
    · rintro ⟨f, mo, k⟩ ⟨hk, hR, hdone⟩
      simp only at hk hR hdone ⊢
      refine code_sound sized _ ?_
      cases k with
      | zero =>
        have e : ((0 : Int) ≤ ((0 : Nat) : Int) - 1) = False := by simp
        simp (decide := true) only [e, ge_iff_le, vB, vI, row1_length, rows_length, tabF_length, rowF_length, cI, cB, cS, roI, ro64, hpin, go_sem, Nat.reduceAdd, Nat.reduceMul]
        have hroom : cntT f L W ≤ W * L := cntT_le f L W
        refine ⟨(f, mo), ⟨hR.sub, fun hm => ?_⟩, ?_, Ent.weak ?_ ?_ ?_ ?_⟩
        · have hs := hR.same hm
          subst hs
          intro i hi l hll
          exact hdone hm i (by omega) hi l hll
        · cases mo with
          | true =>
            have := hR.grew rfl
            rw [← hW, ← hL] at this
            simp only [if_true]; omega
          | false =>
            have := hR.same rfl
            subst this
            simp
        all_goals simp (decide := true) [subT, subB, hereT, hereV, hereL, St.get, look, vI, vB, vS, cI, cS, cB, codeC, insC, roI]
      | succ j =>
      have hjw : j < c.words.length := by omega
      have hjW : j < W := by omega
      have ec : (((j + 1 : Nat) : Int) - 1) = (j : Int) := by omega
      have e : ((0 : Int) ≤ (j : Int)) = True := by simp
      have hc1 : ((j : Int) < (W : Int)) = True := eq_true (by omega)
      have hx : (rows (insC true) c.words).getD j [] = insC true (wAt c j) := by rw [rows_get _ _ hjw, wAt_get hjw]
      have hax : (wAt c j).args.length ≤ 1048576 := by rw [wAt_get hjw]; exact ha _ (List.getElem_mem hjw)
      have hri := readsI_sound (wAt c j) (by omega)
      have hwr := writesI_sound (wAt c j)
      have hnx := nextI_sound c j hjw hw
      simp only [codeW] at hnx
      rw [ec]
      obtain ⟨x, hxw⟩ : ∃ x, x = wAt c j := ⟨_, rfl⟩
      rw [← hxw] at hx hax hri hwr
      simp only [insW] at hri hwr
      simp (decide := true) only [codeC, insC, e, hc1, hx, ge_iff_le, ← hW, ← hL, Int.natCast_nonneg, vB, vI, row1_length, rows_length, tabF_length, rowF_length, cI, cB, cS, roI, ro64, hpin, go_sem, Nat.reduceAdd, Nat.reduceMul]
      refine Tri.ent ?_ (Ent.frb hfull 6)
      refine code_sound sized _ ?_
      simp (decide := true) only [codeC, ← hW, ← hL, vB, vI, row1_length, rows_length, tabF_length, rowF_length, cI, cB, cS, roI, ro64, hpin, go_sem, Nat.reduceAdd, Nat.reduceMul]
      refine Tri.loop (ι := (Nat → Nat → Bool) × Bool × Nat) (fun q => q.2.2 ≤ L ∧ Round c f0 q.1 q.2.1 ∧ (q.2.1 = false → doneR c f0 (j + 1) ∧ doneL c f0 j q.2.2)) (fun q => ⟨89, [(1, .ip (codeC true c) 0), (3, .ref 3 [] W), (4, vB q.2.1), (5, vI j), (6, .ip (insC true x) 0), (37, vI L), (38, vI q.2.2)], [(3, .row 50 (rows (tabC false) (tabF W L q.1)))]⟩) (fun q => L - q.2.2) (f, mo, 0) ⟨by simp, hR, fun hm => ⟨hdone hm, fun l hl => by simp only at hl; omega⟩⟩ ?_ ?_
      · refine Ent.weak ?_ ?_ ?_ ?_ <;> simp (decide := true) [subT, subB, hereT, hereV, hereL, St.get, look, vI, vB, vS, cI, cS, cB, codeC, insC, roI]
      · rintro ⟨f, mo, l⟩ ⟨hll, hR, hdone⟩
        simp only at hll hR hdone ⊢
        refine code_sound sized _ ?_
        by_cases hl' : l < L
        · have e2 : ((l : Int) < (L : Int)) = True := by simp [hl']
          simp (decide := true) only [codeC, insC, e2, hl', vB, vI, row1_length, rows_length, tabF_length, rowF_length, cI, cB, cS, roI, ro64, hpin, go_sem, Nat.reduceAdd, Nat.reduceMul]
          refine aCall_det hri hpin ?_
          simp (decide := true) only [row1_length, rows_length, tabF_length, rowF_length, cI, cB, cS, roI, ro64, hpin, go_sem, Nat.reduceAdd, Nat.reduceMul]
          have hrl : (readsI x).length ≤ x.args.length + 2 := by
            unfold readsI
            have h1 := addAll_length (chosen x) []
            have h2 := chosen_length x
            simp only [List.length_nil] at h1
            omega
          refine aCall_det (hasInt_sound (readsI x) (l : Int) (by omega)) hpin ?_
          have hwant : ∀ g : Nat → Nat → Bool, wantF c g j l = ((readsI x).contains (l : Int) || (nextI c j).any (fun n => !(writesB x == (l : Int)) && g n.toNat l)) := fun g => by unfold wantF; rw [hxw]
          generalize (readsI x).contains (l : Int) = r at hwant
          simp (decide := true) only [codeC, row1_length, rows_length, tabF_length, rowF_length, cI, cB, cS, roI, ro64, hpin, go_sem, Nat.reduceAdd, Nat.reduceMul]
          refine aCall_det hnx hpin ?_
          have hnl := nextI_length c j
          have hnm : ∀ a (h : a < (nextI c j).length), 0 ≤ (nextI c j)[a] ∧ (nextI c j)[a].toNat < c.words.length := fun a h => nextI_mem (List.getElem_mem h)
          generalize nextI c j = N at hwant hnl hnm ⊢
          simp (decide := true) only [codeC, row1_length, rows_length, tabF_length, rowF_length, cI, cB, cS, roI, ro64, hpin, go_sem, Nat.reduceAdd, Nat.reduceMul]
          obtain ⟨B, hB⟩ : ∃ B : Nat → Bool, ∀ a, B a = (r || (N.take a).any (fun n => !(writesB x == (l : Int)) && f n.toNat l)) := ⟨_, fun _ => rfl⟩
          have hB0 : B 0 = r := by rw [hB]; simp
          refine Tri.loop (ι := Nat) (fun a => a ≤ N.length) (fun a => ⟨89, [(1, .ip (codeC true c) 0), (3, .ref 3 [] W), (4, vB mo), (5, vI j), (6, .ip (insC true x) 0), (7, vI l), (8, vB (B a)), (37, vI L), (38, vI l), (47, .ref 3047 [] N.length), (48, vI N.length), (49, vI a)], [(3047, .row 3 (row1 cI N)), (3, .row 50 (rows (tabC false) (tabF W L f)))]⟩) (fun a => N.length - a) 0 (by simp) ?_ ?_
          · refine Ent.weak ?_ ?_ ?_ ?_ <;> simp (decide := true) [subT, subB, hereT, hereV, hereL, St.get, look, vI, vB, vS, cI, cS, cB, codeC, insC, roI, hB0]
          · rintro a ha
            refine code_sound sized _ ?_
            by_cases ha' : a < N.length
            · have e3 : ((a : Int) < (N.length : Int)) = True := by simp [ha']
              have hBn : B (a + 1) = (B a || (!(writesB x == (l : Int)) && f N[a].toNat l)) := by
                rw [hB, hB, any_take ha', Bool.or_assoc]
              obtain ⟨n0, n1⟩ := hnm a ha'
              obtain ⟨m, hm⟩ : ∃ m : Nat, N[a] = m := ⟨N[a].toNat, by omega⟩
              have hmW : m < W := by omega
              have hc2 : ((m : Int) < (W : Int)) = True := eq_true (by omega)
              rw [hm, show (m : Int).toNat = m by omega] at hBn
              generalize B a = b at hBn ⊢
              cases b with
              | true =>
                simp (decide := true) only [e3, ha', hm, row1_getq _ _ ha', insC, Int.natCast_nonneg, vB, vI, row1_length, rows_length, tabF_length, rowF_length, cI, cB, cS, roI, ro64, hpin, go_sem, Nat.reduceAdd, Nat.reduceMul]
                refine ⟨a + 1, ha', by omega, Ent.weak ?_ ?_ ?_ ?_⟩
                all_goals simp (decide := true) [subT, subB, hereT, hereV, hereL, St.get, look, vI, vB, vS, cI, cS, cB, codeC, insC, roI, hBn, w64s (n := N.length) ha' (by omega)]
              | false =>
                simp (decide := true) only [e3, ha', hm, row1_getq _ _ ha', insC, Int.natCast_nonneg, vB, vI, row1_length, rows_length, tabF_length, rowF_length, cI, cB, cS, roI, ro64, hpin, go_sem, Nat.reduceAdd, Nat.reduceMul]
                refine aCall_det hwr hpin ?_
                cases hw2 : writesB x == (l : Int) with
                | true =>
                  rw [hw2] at hBn
                  simp (decide := true) only [hw2, bne, hc2, hmW, e2, hl', tab_cellq hmW, tab_cells hmW, tab_cell0 hmW, row_cellq hl', row_cells hl', Int.natCast_nonneg, row1_length, rows_length, tabF_length, rowF_length, cI, cB, cS, roI, ro64, hpin, go_sem, Nat.reduceAdd, Nat.reduceMul]
                  refine ⟨a + 1, ha', by omega, Ent.weak ?_ ?_ ?_ ?_⟩
                  all_goals simp (decide := true) [subT, subB, hereT, hereV, hereL, St.get, look, vI, vB, vS, cI, cS, cB, codeC, insC, roI, hBn, w64s (n := N.length) ha' (by omega)]
                | false =>
                  rw [hw2] at hBn
                  simp (decide := true) only [hw2, bne, hc2, hmW, e2, hl', tab_cellq hmW, tab_cells hmW, tab_cell0 hmW, row_cellq hl', row_cells hl', Int.natCast_nonneg, row1_length, rows_length, tabF_length, rowF_length, cI, cB, cS, roI, ro64, hpin, go_sem, Nat.reduceAdd, Nat.reduceMul]
                  refine ⟨a + 1, ha', by omega, Ent.weak ?_ ?_ ?_ ?_⟩
                  all_goals simp (decide := true) [subT, subB, hereT, hereV, hereL, St.get, look, vI, vB, vS, cI, cS, cB, codeC, insC, roI, hBn, w64s (n := N.length) ha' (by omega)]
            · have hal : a = N.length := by omega
              subst hal
              have e3 : ((N.length : Int) < (N.length : Int)) = False := by simp
              have hBw : B N.length = wantF c f j l := by rw [hB, List.take_length, hwant]
              rw [hBw]
              have hq : tabF W L f = tabF W L f := rfl
              cases hwf : wantF c f j l with
              | false =>
                simp (decide := true) only [e3, hc1, hjW, e2, hl', tab_cellq hjW, tab_cells hjW, tab_cell0 hjW, row_cellq hl', row_cells hl', Int.natCast_nonneg, vB, vI, row1_length, rows_length, tabF_length, rowF_length, cI, cB, cS, roI, ro64, hpin, go_sem, Nat.reduceAdd, Nat.reduceMul]
                refine ⟨(f, mo, l + 1), ⟨hl', hR, fun hm => ⟨(hdone hm).1, fun l2 hl2 hw2 => ?_⟩⟩, by simp only; omega, Ent.weak ?_ ?_ ?_ ?_⟩
                · have hl3 : l2 < l + 1 := hl2
                  by_cases el : l2 = l
                  · subst el
                    have := hR.same hm
                    subst this
                    rw [hwf] at hw2; cases hw2
                  · exact (hdone hm).2 l2 (by omega) hw2
                all_goals simp (decide := true) [subT, subB, hereT, hereV, hereL, St.get, look, vI, vB, vS, cI, cS, cB, codeC, insC, roI, w64s (n := L) hl' (by omega)]
              | true =>
                cases hfl : f j l with
                | true =>
                  simp (decide := true) only [e3, hc1, hjW, e2, hl', hfl, tab_cellq hjW, tab_cells hjW, tab_cell0 hjW, row_cellq hl', row_cells hl', Int.natCast_nonneg, vB, vI, row1_length, rows_length, tabF_length, rowF_length, cI, cB, cS, roI, ro64, hpin, go_sem, Nat.reduceAdd, Nat.reduceMul]
                  refine ⟨(f, mo, l + 1), ⟨hl', hR, fun hm => ⟨(hdone hm).1, fun l2 hl2 hw2 => ?_⟩⟩, by simp only; omega, Ent.weak ?_ ?_ ?_ ?_⟩
                  · have hl3 : l2 < l + 1 := hl2
                    by_cases el : l2 = l
                    · subst el
                      have := hR.same hm
                      subst this
                      exact hfl
                    · exact (hdone hm).2 l2 (by omega) hw2
                  all_goals simp (decide := true) [subT, subB, hereT, hereV, hereL, St.get, look, vI, vB, vS, cI, cS, cB, codeC, insC, roI, w64s (n := L) hl' (by omega)]
                | false =>
                  have hR2 := hR.upd (want_liv hR.sub hwf) hfl hjw (by omega)
                  have ht1 := row_set (L := L) (f := f) (i := j) (l := l)
                  have ht2 := tab_set (W := W) (L := L) (f := f) (i := j) (l := l)
                  simp only [cB] at ht1 ht2
                  simp (decide := true) only [e3, hc1, hjW, e2, hl', hfl, ht1, ht2, tab_cellq hjW, tab_cells hjW, tab_cell0 hjW, row_cellq hl', row_cells hl', Int.natCast_nonneg, vB, vI, row1_length, rows_length, tabF_length, rowF_length, cI, cB, cS, roI, ro64, hpin, go_sem, Nat.reduceAdd, Nat.reduceMul]
                  refine ⟨(upd f j l, true, l + 1), ⟨hl', hR2, fun hm => by cases hm⟩, by simp only; omega, Ent.weak ?_ ?_ ?_ ?_⟩
                  all_goals simp (decide := true) [subT, subB, hereT, hereV, hereL, St.get, look, vI, vB, vS, cI, cS, cB, codeC, insC, roI, ht1, tab_setc hjW, w64s (n := L) hl' (by omega)]
        · have hlL : l = L := by omega
          subst hlL
          have e2 : ((l : Int) < (l : Int)) = False := by simp
          have wj : IntKind.i64.wrap ((j : Int) - 1) = (j : Int) - 1 := w64 (by omega) (by omega)
          simp (decide := true) only [e2, wj, vB, vI, row1_length, rows_length, tabF_length, rowF_length, cI, cB, cS, roI, ro64, hpin, go_sem, Nat.reduceAdd, Nat.reduceMul]
          refine ⟨(f, mo, j), ⟨by show j ≤ W; omega, hR, fun hm i h1 h2 l2 hl2 hw2 => ?_⟩, by simp only; omega, Ent.weak ?_ ?_ ?_ ?_⟩
          · have h3 : j ≤ i := h1
            by_cases ei : i = j
            · subst ei; exact (hdone hm).2 l2 (by omega) hw2
            · exact (hdone hm).1 i (by omega) h2 l2 hl2 hw2
          all_goals simp (decide := true) [subT, subB, hereT, hereV, hereL, St.get, look, vI, vB, vS, cI, cS, cB, codeC, insC, roI, wj]
end Go.Proofs.YtnbodmohnkohfaaDoor.AW
