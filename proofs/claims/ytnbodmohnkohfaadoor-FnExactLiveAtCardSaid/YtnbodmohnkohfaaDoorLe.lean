/- What is used later, as the reference tells it. No condition beyond those named. -/
import Derived.Test.YtnbodmohnkohfaaDoorLd
namespace Go.Proofs.YtnbodmohnkohfaaDoor.AW
open Go.RowKit
set_option maxHeartbeats 8000000
set_option maxRecDepth 100000
set_option linter.unusedSimpArgs false
set_option linter.unusedVariables false

theorem place_true {c : CodeD} {n : Int} (h : placeB c n = true) : 0 ≤ n ∧ n.toNat < c.locals.length := by
  have := inL_true (show inI n 0 (c.locals.length - 1) = true from h)
  omega
theorem reads_place {c : CodeD} {x : InsD} (h : wordS c x = true) : ∀ n ∈ readsS x, 0 ≤ n ∧ n.toNat < c.locals.length := by
  unfold wordS at h
  simp only [Bool.and_eq_true] at h
  obtain ⟨h0, hA, hb, hc, _, ht⟩ := h
  have hB : hasBB x.op = true → placeB c x.b = true := fun hh => by rw [hh] at hb; simpa [isPlaceB] using hb
  have hC : hasCB x.op = true → placeB c x.c = true := fun hh => by rw [hh] at hc; simpa [isPlaceB] using hc
  intro n hn
  unfold readsS at hn
  by_cases h15 : x.op = 15
  · have hAA : placeB c x.a = true := by unfold aOkB at hA; simpa [h15] using hA
    have hBB := hB (by simp [hasBB, h15])
    simp only [h15, beq_self_eq_true, if_true, addI_mem, List.not_mem_nil, false_or] at hn
    rcases hn with rfl | rfl
    · exact place_true hAA
    · exact place_true hBB
  by_cases h16 : x.op = 16 ∨ x.op = 19
  · have hAA : placeB c x.a = true := by unfold aOkB at hA; rcases h16 with e | e <;> simpa [e] using hA
    have : n = x.a := by rcases h16 with e | e <;> simpa [e, addI] using hn
    subst this; exact place_true hAA
  by_cases h20 : x.op = 20
  · by_cases ha : x.a = -1
    · simp [h20, ha] at hn
    · have hAA : placeB c x.a = true := by unfold aOkB at hA; simpa [h20, ha] using hA
      have : n = x.a := by simpa [h20, ha, addI] using hn
      subst this; exact place_true hAA
  by_cases h13 : x.op = 13
  · have h1 : argsB c x.args = true := by unfold tailB at ht; simp [h13] at ht; exact ht.1
    have : n ∈ x.args := by
      have e : (if (13 : Int) == 15 then addI (addI [] x.a) x.b else addAll [] x.args) = addAll [] x.args := rfl
      simp [h13] at hn
      rw [addAll_mem] at hn
      simpa using hn
    exact place_true (List.all_eq_true.1 h1 n this)
  have e15 : (x.op == 15) = false := by simpa using h15
  have e16 : (x.op == 16 || x.op == 19) = false := by
    rw [Bool.or_eq_false_iff]
    exact ⟨by simpa using fun e => h16 (Or.inl e), by simpa using fun e => h16 (Or.inr e)⟩
  have e20 : (x.op == 20) = false := by simpa using h20
  have e13 : (x.op == 13) = false := by simpa using h13
  simp only [e15, e16, e20, e13, if_false, Bool.false_eq_true] at hn
  by_cases hbb : hasBB x.op = true
  · rw [if_pos hbb] at hn
    by_cases hcc : hasCB x.op = true
    · rw [if_pos hcc, addI_mem, addI_mem] at hn
      rcases hn with (hn | rfl) | rfl
      · simp at hn
      · exact place_true (hB hbb)
      · exact place_true (hC hcc)
    · rw [if_neg hcc, addI_mem] at hn
      rcases hn with hn | rfl
      · simp at hn
      · exact place_true (hB hbb)
  · rw [if_neg hbb] at hn; simp at hn
theorem readsS_length (x : InsD) : (readsS x).length ≤ x.args.length + 2 := by
  rw [← reads_eq]
  unfold readsI
  have h1 := addAll_length (chosen x) []
  have h2 := chosen_length x
  simp only [List.length_nil] at h1
  omega
theorem nextS_length (c : CodeD) (i : Nat) : (nextS c i).length ≤ 2 := by
  unfold nextS
  have h1 := addAll_length (nextI c i) []
  have h2 := nextI_length c i
  simp only [List.length_nil] at h1
  omega
/-- What the words behind say is there. -/
def doneN (w : Int) (f : Nat → Nat → Bool) (j L : Nat) (N : List Int) (k : Nat) : Prop := ∀ a (h : a < N.length), a < k → ∀ l, l < L → ¬ w = (l : Int) → f N[a].toNat l = true → f j l = true
theorem done_all {c : CodeD} {f : Nat → Nat → Bool} {j : Nat} (h1 : doneN (writesB (wAt c j)) f j c.locals.length (nextS c j) (nextS c j).length) (h2 : ∀ a (h : a < (readsS (wAt c j)).length), f j (readsS (wAt c j))[a].toNat = true) : ∀ l, l < c.locals.length → wantF c f j l = true → f j l = true := fun l hl hw => by
  unfold wantF at hw
  rw [Bool.or_eq_true] at hw
  rcases hw with hw | hw
  · rw [reads_eq] at hw
    have hm : (l : Int) ∈ readsS (wAt c j) := by simpa using hw
    obtain ⟨a, ha, he⟩ := List.getElem_of_mem hm
    have := h2 a ha
    rw [he] at this
    simpa using this
  · obtain ⟨n, hn, h3⟩ := List.any_eq_true.1 hw
    rw [Bool.and_eq_true] at h3
    obtain ⟨a, ha, he⟩ := List.getElem_of_mem ((nextS_mem c j n).2 hn)
    exact h1 a ha ha l hl (by simpa using h3.1) (by rw [he]; exact h3.2)

theorem liveSS_sound (c : CodeD) (hok : codeB c = true) (ha : ∀ y ∈ c.words, y.args.length ≤ 1048576) : Sound Tryd.prog 16 [.ro (codeW c)] (fun rs st => rs = [(false, [.row false 50 (rows (tabC false) (tabF c.words.length c.locals.length (livF c)))])]) := by
  obtain ⟨s1, s2, s3, s4⟩ := code_small hok
  have hw : c.words.length ≤ 1048576 := by omega
  obtain ⟨W, hW⟩ : ∃ W, W = c.words.length := ⟨_, rfl⟩
  obtain ⟨L, hL⟩ : ∃ L, L = c.locals.length := ⟨_, rfl⟩
  obtain ⟨M, hM⟩ : ∃ M, M = W * L := ⟨_, rfl⟩
  have hMi : (W : Int) * (L : Int) = (M : Int) := by rw [hM]; simp
  have hMb : M ≤ 80000 := by rw [hM]; exact Nat.mul_le_mul (by omega : W ≤ 400) (by omega : L ≤ 200)
  have wM : IntKind.i64.wrap (M : Int) = (M : Int) := w64 (by omega) (by omega)
  have wM1 : IntKind.i64.wrap ((M : Int) + 1) = (M : Int) + 1 := w64 (by omega) (by omega)
  refine sound_tri (fn := Tryd.f16) (c := Tryd.f16.body.getD .skip) (res := [.tm 2]) (n := 129) sized (by kernel_rfl) (by rfl) (by kernel_rfl) (by rfl) (by rfl) (by simp [argsV]) (fun uf ub C hpin hpin2 hfull => ?_)
  simp only [Tryd.f16, Option.getD_some]
  refine Tri.step sized ?_
  simp (decide := true) only [codeW, codeC, insW, insC, row1_length, rows_length, tabF_length, rowF_length, cI, cB, cS, roI, ro64, hpin, go_sem, Nat.reduceAdd, Nat.reduceMul]
  refine Tri.ent ?_ (Ent.frb hfull 1)
  refine Tri.step sized ?_
  simp (decide := true) only [codeC, ← hW, ← hL, row1_length, rows_length, tabF_length, rowF_length, cI, cB, cS, roI, ro64, hpin, go_sem, Nat.reduceAdd, Nat.reduceMul]
  refine aCall_det (tableS_sound W L (by omega) (by omega)) hpin ?_
  simp (decide := true) only [row1_length, rows_length, tabF_length, rowF_length, cI, cB, cS, roI, ro64, hpin, go_sem, Nat.reduceAdd, Nat.reduceMul]
  refine Tri.step sized ?_
  simp (decide := true) only [codeC, row1_length, rows_length, tabF_length, rowF_length, cI, cB, cS, roI, ro64, hpin, go_sem, Nat.reduceAdd, Nat.reduceMul]
  refine Tri.step sized ?_
  simp (decide := true) only [codeC, row1_length, rows_length, tabF_length, rowF_length, cI, cB, cS, roI, ro64, hpin, go_sem, Nat.reduceAdd, Nat.reduceMul]
  refine Tri.loop (ι := (Nat → Nat → Bool) × Bool × Nat) (fun q => SubF c q.1 ∧ (q.2.1 = true → q.2.2 ≤ cntT q.1 L W) ∧ q.2.2 ≤ M + 1 ∧ (q.2.1 = false → ClosedF c q.1)) (fun q => ⟨129, [(1, .ip (codeC true c) 0), (3, .ref 3 [] W), (4, vB q.2.1), (5, vI q.2.2)], [(3, .row 50 (rows (tabC false) (tabF W L q.1)))]⟩) (fun q => 2 * (M - cntT q.1 L W) + (if q.2.1 then 1 else 0)) (fun _ _ => false, true, 0) ⟨fun i l h => by simp at h, fun _ => Nat.zero_le _, by simp, fun h => by simp at h⟩ ?_ ?_
  · refine Ent.weak ?_ ?_ ?_ ?_ <;> simp (decide := true) [subT, subB, hereT, hereV, hereL, St.get, look, vI, vB, vS, cI, cS, cB, codeC, insC, roI]
  · rintro ⟨f0, mo, r⟩ ⟨hsub, hrc, hrM, hcl⟩
    simp only at hsub hrc hrM hcl ⊢
    refine code_sound sized _ ?_
    cases mo with
    | false =>
      have hfin := live_tab hsub (hcl rfl)
      simp (decide := true) only [codeC, ← hW, ← hL, hMi, wM, wM1, vB, vI, row1_length, rows_length, tabF_length, rowF_length, cI, cB, cS, roI, ro64, hpin, go_sem, Nat.reduceAdd, Nat.reduceMul]
      refine code_sound sized _ ?_
      simp (decide := true) only [hfin, hW, hL, row1_length, rows_length, tabF_length, rowF_length, cI, cB, cS, roI, ro64, hpin, go_sem, Nat.reduceAdd, Nat.reduceMul]
    | true =>
    have hroom0 : cntT f0 L W ≤ W * L := cntT_le f0 L W
    have hrr := hrc rfl
    have er : ((r : Int) ≤ (M : Int) + 1) = True := eq_true (by omega)
    have w1 : IntKind.i64.wrap ((W : Int) - 1) = (W : Int) - 1 := w64 (by omega) (by omega)
    simp (decide := true) only [codeC, ← hW, ← hL, hMi, wM, wM1, er, w1, vB, vI, row1_length, rows_length, tabF_length, rowF_length, cI, cB, cS, roI, ro64, hpin, go_sem, Nat.reduceAdd, Nat.reduceMul]
    refine Tri.loop (ι := (Nat → Nat → Bool) × Bool × Nat) (fun q => q.2.2 ≤ W ∧ Round c f0 q.1 q.2.1 ∧ (q.2.1 = false → doneR c f0 q.2.2)) (fun q => ⟨129, [(1, .ip (codeC true c) 0), (3, .ref 3 [] W), (4, vB q.2.1), (5, vI r), (6, vI ((q.2.2 : Int) - 1))], [(3, .row 50 (rows (tabC false) (tabF W L q.1)))]⟩) (fun q => q.2.2) (f0, false, W) ⟨by simp, ⟨hsub, fun h => by simp at h, fun _ => rfl⟩, fun _ i h1 h2 => by simp only at h1; omega⟩ ?_ ?_
    · refine Ent.weak ?_ ?_ ?_ ?_ <;> simp (decide := true) [subT, subB, hereT, hereV, hereL, St.get, look, vI, vB, vS, cI, cS, cB, codeC, insC, roI]
    · rintro ⟨f, mo, k⟩ ⟨hk, hR, hdone⟩
      simp only at hk hR hdone ⊢
      refine code_sound sized _ ?_
      cases k with
      | zero =>
        have e : ((0 : Int) ≤ ((0 : Nat) : Int) - 1) = False := by simp
        have wr : IntKind.i64.wrap ((r : Int) + 1) = ((r + 1 : Nat) : Int) := by rw [w64 (by omega) (by omega)]; omega
        simp (decide := true) only [e, wr, ge_iff_le, vB, vI, row1_length, rows_length, tabF_length, rowF_length, cI, cB, cS, roI, ro64, hpin, go_sem, Nat.reduceAdd, Nat.reduceMul]
        have hroom : cntT f L W ≤ W * L := cntT_le f L W
        refine ⟨(f, mo, r + 1), ⟨hR.sub, fun hm => ?_, by show r + 1 ≤ M + 1; omega, fun hm => ?_⟩, ?_, Ent.weak ?_ ?_ ?_ ?_⟩
        · have := hR.grew hm
          rw [← hW, ← hL] at this
          show r + 1 ≤ cntT f L W
          omega
        · have hs := hR.same hm
          subst hs
          intro i hi l hll
          exact hdone hm i (by omega) hi l hll
        · cases mo with
          | true =>
            have := hR.grew rfl
            rw [← hW, ← hL] at this
            simp only [if_true]; omega
          | false =>
            have := hR.same rfl
            subst this
            simp
        all_goals simp (decide := true) [subT, subB, hereT, hereV, hereL, St.get, look, vI, vB, vS, cI, cS, cB, codeC, insC, roI]
      | succ j =>
      have hjw : j < c.words.length := by omega
      have hjW : j < W := by omega
      have ec : (((j + 1 : Nat) : Int) - 1) = (j : Int) := by omega
      have e : ((0 : Int) ≤ (j : Int)) = True := by simp
      have hc1 : ((j : Int) < (W : Int)) = True := eq_true (by omega)
      have hx : (rows (insC true) c.words).getD j [] = insC true (wAt c j) := by rw [rows_get _ _ hjw, wAt_get hjw]
      have hax : (wAt c j).args.length ≤ 1048576 := by rw [wAt_get hjw]; exact ha _ (List.getElem_mem hjw)
      have hri := readsS_sound (wAt c j) (by omega)
      have hwr := writesS_sound (wAt c j)
      have hnx := nextS_sound c j hjw hw
      have hpl : ∀ n ∈ readsS (wAt c j), 0 ≤ n ∧ n.toNat < c.locals.length := reads_place (by rw [wAt_get hjw]; exact s4 j hjw)
      have hall : ∀ f, doneN (writesB (wAt c j)) f j L (nextS c j) (nextS c j).length → (∀ a (h : a < (readsS (wAt c j)).length), f j (readsS (wAt c j))[a].toNat = true) → ∀ l, l < L → wantF c f j l = true → f j l = true := fun f => by rw [hL]; exact @done_all c f j
      have hrl := readsS_length (wAt c j)
      have hnl := nextS_length c j
      have hnm : ∀ a (h : a < (nextS c j).length), 0 ≤ (nextS c j)[a] ∧ (nextS c j)[a].toNat < c.words.length := fun a h => nextI_mem ((nextS_mem c j _).1 (List.getElem_mem h))
      have hnI : ∀ a (h : a < (nextS c j).length), (nextS c j)[a] ∈ nextI c j := fun a h => (nextS_mem c j _).1 (List.getElem_mem h)
      have hlr : ∀ l : Nat, (l : Int) ∈ readsS (wAt c j) → Liv c j l := fun l hl => .read (by rw [reads_eq]; simpa using hl)
      have hln : ∀ (n : Int) (l : Nat), n ∈ nextI c j → ¬ writesB (wAt c j) = (l : Int) → Liv c n.toNat l → Liv c j l := fun n l h1 h2 h3 => .next h1 h2 h3
      simp only [codeW] at hnx
      rw [ec]
      generalize wAt c j = x at hx hax hri hwr hpl hall hrl hlr hln
      simp only [insW] at hri hwr
      generalize nextS c j = N at hnx hall hnl hnm hnI
      generalize writesB x = w at hwr hall hln
      simp (decide := true) only [codeC, insC, e, hc1, hx, ge_iff_le, ← hW, ← hL, Int.natCast_nonneg, vB, vI, row1_length, rows_length, tabF_length, rowF_length, cI, cB, cS, roI, ro64, hpin, go_sem, Nat.reduceAdd, Nat.reduceMul]
      refine aCall_det hwr hpin ?_
      simp (decide := true) only [codeC, insC, row1_length, rows_length, tabF_length, rowF_length, cI, cB, cS, roI, ro64, hpin, go_sem, Nat.reduceAdd, Nat.reduceMul]
      refine aCall_det hnx hpin ?_
      simp (decide := true) only [codeC, insC, row1_length, rows_length, tabF_length, rowF_length, cI, cB, cS, roI, ro64, hpin, go_sem, Nat.reduceAdd, Nat.reduceMul]
      refine Tri.loop (ι := (Nat → Nat → Bool) × Bool × Nat) (fun q => q.2.2 ≤ N.length ∧ Round c f0 q.1 q.2.1 ∧ (q.2.1 = false → doneR c f0 (j + 1) ∧ doneN w f0 j L N q.2.2)) (fun q => ⟨129, [(1, .ip (codeC true c) 0), (3, .ref 3 [] W), (4, vB q.2.1), (5, vI r), (6, vI j), (7, vI w), (8, .ref 8 [] N.length), (9, vI q.2.2)], [(8, .row 3 (row1 cI N)), (3, .row 50 (rows (tabC false) (tabF W L q.1)))]⟩) (fun q => N.length - q.2.2) (f, mo, 0) ⟨by simp, hR, fun hm => ⟨hdone hm, fun a h h1 => by simp only at h1; omega⟩⟩ ?_ ?_
      · refine Ent.weak ?_ ?_ ?_ ?_ <;> simp (decide := true) [subT, subB, hereT, hereV, hereL, St.get, look, vI, vB, vS, cI, cS, cB, codeC, insC, roI]
      · rintro ⟨f, mo, a⟩ ⟨hal, hR, hdone⟩
        simp only at hal hR hdone ⊢
        refine code_sound sized _ ?_
        by_cases ha' : a < N.length
        · have e2 : ((a : Int) < (N.length : Int)) = True := by simp [ha']
          obtain ⟨n0, n1⟩ := hnm a ha'
          have hni := hnI a ha'
          obtain ⟨m, hm⟩ : ∃ m : Nat, N[a] = m := ⟨N[a].toNat, by omega⟩
          have hmW : m < W := by omega
          have hc2 : ((m : Int) < (W : Int)) = True := eq_true (by omega)
          simp (decide := true) only [codeC, e2, ha', vB, vI, row1_length, rows_length, tabF_length, rowF_length, cI, cB, cS, roI, ro64, hpin, go_sem, Nat.reduceAdd, Nat.reduceMul]
          refine Tri.loop (ι := (Nat → Nat → Bool) × Bool × Nat) (fun q => q.2.2 ≤ L ∧ Round c f0 q.1 q.2.1 ∧ (q.2.1 = false → doneR c f0 (j + 1) ∧ doneN w f0 j L N a ∧ ∀ l, l < q.2.2 → ¬ w = (l : Int) → f0 m l = true → f0 j l = true)) (fun q => ⟨129, [(1, .ip (codeC true c) 0), (3, .ref 3 [] W), (4, vB q.2.1), (5, vI r), (6, vI j), (7, vI w), (8, .ref 8 [] N.length), (9, vI a), (10, vI q.2.2)], [(8, .row 3 (row1 cI N)), (3, .row 50 (rows (tabC false) (tabF W L q.1)))]⟩) (fun q => L - q.2.2) (f, mo, 0) ⟨by simp, hR, fun hm => ⟨(hdone hm).1, (hdone hm).2, fun l h1 => by simp only at h1; omega⟩⟩ ?_ ?_
          · refine Ent.weak ?_ ?_ ?_ ?_ <;> simp (decide := true) [subT, subB, hereT, hereV, hereL, St.get, look, vI, vB, vS, cI, cS, cB, codeC, insC, roI]
          · rintro ⟨f, mo, l⟩ ⟨hll, hR, hdone⟩
            simp only at hll hR hdone ⊢
            refine code_sound sized _ ?_
            by_cases hl' : l < L
            · have e3 : ((l : Int) < (L : Int)) = True := by simp [hl']
              have keep : ∀ mo2, mo2 = mo → (¬ w = (l : Int) → f m l = true → f j l = true) → (mo2 = false → doneR c f0 (j + 1) ∧ doneN w f0 j L N a ∧ ∀ l2, l2 < l + 1 → ¬ w = (l2 : Int) → f0 m l2 = true → f0 j l2 = true) := fun mo2 hmo hkk hm2 => by
                subst hmo
                have hsame := hR.same hm2
                subst hsame
                refine ⟨(hdone hm2).1, (hdone hm2).2.1, fun l2 hl2 h1 h2 => ?_⟩
                by_cases el : l2 = l
                · subst el; exact hkk h1 h2
                · exact (hdone hm2).2.2 l2 (by omega) h1 h2
              cases hfm : f m l with
              | false =>
                simp (decide := true) only [codeC, e2, e3, hc1, hc2, hjW, hmW, ha', hl', hm, hfm, row1_getq _ _ ha', tab_cellq hmW, tab_cells hmW, tab_cell0 hmW, tab_cellq hjW, tab_cells hjW, tab_cell0 hjW, row_cellq hl', row_cells hl', ← hW, ← hL, Int.natCast_nonneg, vB, vI, row1_length, rows_length, tabF_length, rowF_length, cI, cB, cS, roI, ro64, hpin, go_sem, Nat.reduceAdd, Nat.reduceMul]
                refine ⟨(f, mo, l + 1), ⟨hl', hR, keep mo rfl (fun _ h => by rw [hfm] at h; cases h)⟩, by simp only; omega, Ent.weak ?_ ?_ ?_ ?_⟩
                all_goals simp (decide := true) [subT, subB, hereT, hereV, hereL, St.get, look, vI, vB, vS, cI, cS, cB, codeC, insC, roI, w64s (n := L) hl' (by omega)]
              | true =>
              cases hwl : ((l : Int) == w) with
              | true =>
                have hwe : w = (l : Int) := (eq_of_beq hwl).symm
                simp (decide := true) only [codeC, bne, e2, e3, hc1, hc2, hjW, hmW, ha', hl', hm, hfm, hwl, row1_getq _ _ ha', tab_cellq hmW, tab_cells hmW, tab_cell0 hmW, tab_cellq hjW, tab_cells hjW, tab_cell0 hjW, row_cellq hl', row_cells hl', ← hW, ← hL, Int.natCast_nonneg, vB, vI, row1_length, rows_length, tabF_length, rowF_length, cI, cB, cS, roI, ro64, hpin, go_sem, Nat.reduceAdd, Nat.reduceMul]
                refine ⟨(f, mo, l + 1), ⟨hl', hR, keep mo rfl (fun h => absurd hwe h)⟩, by simp only; omega, Ent.weak ?_ ?_ ?_ ?_⟩
                all_goals simp (decide := true) [subT, subB, hereT, hereV, hereL, St.get, look, vI, vB, vS, cI, cS, cB, codeC, insC, roI, w64s (n := L) hl' (by omega)]
              | false =>
              have hwe : ¬ w = (l : Int) := fun e => by rw [e] at hwl; simp at hwl
              cases hfl : f j l with
              | true =>
                simp (decide := true) only [codeC, bne, e2, e3, hc1, hc2, hjW, hmW, ha', hl', hm, hfm, hfl, hwl, row1_getq _ _ ha', tab_cellq hmW, tab_cells hmW, tab_cell0 hmW, tab_cellq hjW, tab_cells hjW, tab_cell0 hjW, row_cellq hl', row_cells hl', ← hW, ← hL, Int.natCast_nonneg, vB, vI, row1_length, rows_length, tabF_length, rowF_length, cI, cB, cS, roI, ro64, hpin, go_sem, Nat.reduceAdd, Nat.reduceMul]
                refine ⟨(f, mo, l + 1), ⟨hl', hR, keep mo rfl (fun _ _ => hfl)⟩, by simp only; omega, Ent.weak ?_ ?_ ?_ ?_⟩
                all_goals simp (decide := true) [subT, subB, hereT, hereV, hereL, St.get, look, vI, vB, vS, cI, cS, cB, codeC, insC, roI, w64s (n := L) hl' (by omega)]
              | false =>
                have hLv : Liv c j l := hln N[a] l hni hwe (hR.sub _ _ (by rw [hm]; exact hfm))
                have hR2 := hR.upd hLv hfl hjw (by omega)
                have ht1 := row_set (L := L) (f := f) (i := j) (l := l)
                simp only [cB] at ht1
                simp (decide := true) only [codeC, bne, e2, e3, hc1, hc2, hjW, hmW, ha', hl', hm, hfm, hfl, hwl, ht1, row1_getq _ _ ha', tab_cellq hmW, tab_cells hmW, tab_cell0 hmW, tab_cellq hjW, tab_cells hjW, tab_cell0 hjW, row_cellq hl', row_cells hl', ← hW, ← hL, Int.natCast_nonneg, vB, vI, row1_length, rows_length, tabF_length, rowF_length, cI, cB, cS, roI, ro64, hpin, go_sem, Nat.reduceAdd, Nat.reduceMul]
                refine ⟨(upd f j l, true, l + 1), ⟨hl', hR2, fun hm => by simp at hm⟩, by simp only; omega, Ent.weak ?_ ?_ ?_ ?_⟩
                all_goals simp (decide := true) [subT, subB, hereT, hereV, hereL, St.get, look, vI, vB, vS, cI, cS, cB, codeC, insC, roI, ht1, tab_setc hjW, w64s (n := L) hl' (by omega)]
            · have hlL : l = L := by omega
              subst hlL
              have e3 : ((l : Int) < (l : Int)) = False := by simp
              simp (decide := true) only [codeC, e3, ← hL, vB, vI, row1_length, rows_length, tabF_length, rowF_length, cI, cB, cS, roI, ro64, hpin, go_sem, Nat.reduceAdd, Nat.reduceMul]
              refine ⟨(f, mo, a + 1), ⟨ha', hR, fun hm2 => ⟨(hdone hm2).1, fun a2 h2 h3 l2 hl2 h4 h5 => ?_⟩⟩, by simp only; omega, Ent.weak ?_ ?_ ?_ ?_⟩
              · have h3' : a2 < a + 1 := h3
                by_cases ea : a2 = a
                · subst ea
                  rw [hm] at h5
                  exact (hdone hm2).2.2 l2 (by omega) h4 (by simpa using h5)
                · exact (hdone hm2).2.1 a2 h2 (by omega) l2 hl2 h4 h5
              all_goals simp (decide := true) [subT, subB, hereT, hereV, hereL, St.get, look, vI, vB, vS, cI, cS, cB, codeC, insC, roI, w64s (n := N.length) ha' (by omega)]
        · have haN : a = N.length := by omega
          subst haN
          have e2 : ((N.length : Int) < (N.length : Int)) = False := by simp
          simp (decide := true) only [codeC, insC, e2, hc1, hx, ← hW, Int.natCast_nonneg, vB, vI, row1_length, rows_length, tabF_length, rowF_length, cI, cB, cS, roI, ro64, hpin, go_sem, Nat.reduceAdd, Nat.reduceMul]
          refine aCall_det hri hpin ?_
          simp (decide := true) only [codeC, row1_length, rows_length, tabF_length, rowF_length, cI, cB, cS, roI, ro64, hpin, go_sem, Nat.reduceAdd, Nat.reduceMul]
          generalize readsS x = rs at hpl hall hrl hlr ⊢
          refine Tri.ent ?_ (Ent.frz hfull 11)
          simp (decide := true) only [codeC, row1_length, rows_length, tabF_length, rowF_length, cI, cB, cS, roI, ro64, hpin, go_sem, Nat.reduceAdd, Nat.reduceMul]
          refine Tri.loop (ι := (Nat → Nat → Bool) × Bool × Nat) (fun q => q.2.2 ≤ rs.length ∧ Round c f0 q.1 q.2.1 ∧ (q.2.1 = false → doneR c f0 (j + 1) ∧ doneN w f0 j L N N.length ∧ ∀ b (h : b < rs.length), b < q.2.2 → f0 j rs[b].toNat = true)) (fun q => ⟨129, [(1, .ip (codeC true c) 0), (3, .ref 3 [] W), (4, vB q.2.1), (5, vI r), (6, vI j), (11, roI rs), (12, vI q.2.2)], [(3, .row 50 (rows (tabC false) (tabF W L q.1)))]⟩) (fun q => rs.length - q.2.2) (f, mo, 0) ⟨by simp, hR, fun hm => ⟨(hdone hm).1, (hdone hm).2, fun b h h1 => by simp only at h1; omega⟩⟩ ?_ ?_
          · refine Ent.weak ?_ ?_ ?_ ?_ <;> simp (decide := true) [subT, subB, hereT, hereV, hereL, St.get, look, vI, vB, vS, cI, cS, cB, codeC, insC, roI]
          · rintro ⟨f, mo, b⟩ ⟨hbl, hR, hdone⟩
            simp only at hbl hR hdone ⊢
            refine code_sound sized _ ?_
            by_cases hb' : b < rs.length
            · have e3 : ((b : Int) < (rs.length : Int)) = True := by simp [hb']
              obtain ⟨p0, p1⟩ := hpl rs[b] (List.getElem_mem hb')
              have hmem := List.getElem_mem hb'
              obtain ⟨l, hl⟩ : ∃ l : Nat, rs[b] = l := ⟨rs[b].toNat, by omega⟩
              have hl' : l < L := by omega
              have hc3 : ((l : Int) < (L : Int)) = True := eq_true (by omega)
              have keep : (f j l = true) → (mo = false → doneR c f0 (j + 1) ∧ doneN w f0 j L N N.length ∧ ∀ b2 (h : b2 < rs.length), b2 < b + 1 → f0 j rs[b2].toNat = true) := fun hkk hm2 => by
                have hsame := hR.same hm2
                subst hsame
                refine ⟨(hdone hm2).1, (hdone hm2).2.1, fun b2 h2 h3 => ?_⟩
                by_cases el : b2 = b
                · subst el; rw [hl]; simpa using hkk
                · exact (hdone hm2).2.2 b2 h2 (by omega)
              simp (decide := true) only [e3, vB, vI, row1_length, rows_length, tabF_length, rowF_length, cI, cB, cS, roI, ro64, hpin, go_sem, Nat.reduceAdd, Nat.reduceMul]
              cases hfl : f j l with
              | true =>
                refine Tri.sched sized [(0, true), (1, true), (2, true), (4, true), (5, true), (6, true), (7, true), (3, false), (8, false), (9, false), (10, false)] mixed (by kernel_rfl) (fun C2 hC2 => ?_)
                have hp2 : ∀ o, isPin o = false → C2.pin o = none := by rw [hC2]; exact hpin
                simp (decide := true) only [hc1, hjW, hc3, hl', hb', e3, hl, hfl, row1_get _ _ hb', tab_cellq hjW, tab_cells hjW, tab_cell0 hjW, row_cellq hl', row_cells hl', Int.natCast_nonneg, vB, vI, row1_length, rows_length, tabF_length, rowF_length, cI, cB, cS, roI, ro64, hp2, hpin, go_sem, Nat.reduceAdd, Nat.reduceMul]
                refine ⟨(f, mo, b + 1), ⟨hb', hR, keep hfl⟩, by simp only; omega, Ent.weak ?_ ?_ ?_ ?_⟩
                all_goals simp (decide := true) [subT, subB, hereT, hereV, hereL, St.get, look, vI, vB, vS, cI, cS, cB, codeC, insC, roI, w64s (n := rs.length) hb' (by omega)]
              | false =>
                have hR2 := hR.upd (hlr l (by rw [← hl]; exact hmem)) hfl hjw (by omega)
                have ht1 := row_set (L := L) (f := f) (i := j) (l := l)
                simp only [cB] at ht1
                refine Tri.sched sized [(0, true), (1, true), (2, true), (4, true), (5, true), (6, true), (7, true), (3, false), (8, false), (9, false), (10, false)] mixed (by kernel_rfl) (fun C2 hC2 => ?_)
                have hp2 : ∀ o, isPin o = false → C2.pin o = none := by rw [hC2]; exact hpin
                simp (decide := true) only [hc1, hjW, hc3, hl', hb', e3, hl, hfl, row1_get _ _ hb', tab_cellq hjW, tab_cells hjW, tab_cell0 hjW, row_cellq hl', row_cells hl', Int.natCast_nonneg, vB, vI, row1_length, rows_length, tabF_length, rowF_length, cI, cB, cS, roI, ro64, hp2, hpin, go_sem, Nat.reduceAdd, Nat.reduceMul]
                refine Tri.sched sized [(0, true), (1, true), (2, true), (4, true), (5, true), (6, true), (7, true), (3, false), (8, false), (9, false)] mixed (by kernel_rfl) (fun C3 hC3 => ?_)
                have hp3 : ∀ o, isPin o = false → C3.pin o = none := by rw [hC3]; exact hpin
                simp (decide := true) only [hc1, hjW, hc3, hl', hb', e3, hl, hfl, ht1, row1_get _ _ hb', tab_cellq hjW, tab_cells hjW, tab_cell0 hjW, row_cellq hl', row_cells hl', Int.natCast_nonneg, vB, vI, row1_length, rows_length, tabF_length, rowF_length, cI, cB, cS, roI, ro64, hp3, hp2, hpin, go_sem, Nat.reduceAdd, Nat.reduceMul]
                refine ⟨(upd f j l, true, b + 1), ⟨hb', hR2, fun hm => by simp at hm⟩, by simp only; omega, Ent.weak ?_ ?_ ?_ ?_⟩
                all_goals simp (decide := true) [subT, subB, hereT, hereV, hereL, St.get, look, vI, vB, vS, cI, cS, cB, codeC, insC, roI, ht1, tab_setc hjW, w64s (n := rs.length) hb' (by omega)]
            · have hbL : b = rs.length := by omega
              subst hbL
              have e3 : ((rs.length : Int) < (rs.length : Int)) = False := by simp
              have wj : IntKind.i64.wrap ((j : Int) - 1) = (j : Int) - 1 := w64 (by omega) (by omega)
              simp (decide := true) only [e3, wj, vB, vI, row1_length, rows_length, tabF_length, rowF_length, cI, cB, cS, roI, ro64, hpin, go_sem, Nat.reduceAdd, Nat.reduceMul]
              refine ⟨(f, mo, j), ⟨by show j ≤ W; omega, hR, fun hm i h1 h2 l2 hl2 hw2 => ?_⟩, by simp only; omega, Ent.weak ?_ ?_ ?_ ?_⟩
              · have h3 : j ≤ i := h1
                have hd := hdone hm
                by_cases ei : i = j
                · subst ei
                  exact hall f0 hd.2.1 (fun b h => hd.2.2 b h h) l2 (by omega) hw2
                · exact hd.1 i (by omega) h2 l2 hl2 hw2
              all_goals simp (decide := true) [subT, subB, hereT, hereV, hereL, St.get, look, vI, vB, vS, cI, cS, cB, codeC, insC, roI, wj]
theorem liveS_sound (c : CodeD) (hl : c.locals.length ≤ 1048576) (hw : c.words.length ≤ 1048576) (ha : ∀ y ∈ c.words, y.args.length ≤ 1048576) : Sound Tryd.prog 5 [.ro (codeW c)] (fun rs st => rs = [(false, [.row false 50 (rows (tabC false) (liveL c))])]) := by
  have hck := codeS_sound c hl hw ha
  have hlv := fun h => liveSS_sound c h ha
  have e0 : rows (tabC false) ([] : List (List Bool)) = [] := rfl
  unfold liveL
  simp only [codeW] at hck hlv
  refine sound_tri (fn := Tryd.f5) (c := Tryd.f5.body.getD .skip) (res := [.tm 2]) (n := 9) sized (by kernel_rfl) (by rfl) (by kernel_rfl) (by rfl) (by rfl) (by simp [argsV]) (fun uf ub C hpin hpin2 hfull => ?_)
  simp only [Tryd.f5, Option.getD_some]
  refine Tri.step sized ?_
  simp (decide := true) only [codeW, codeC, insW, insC, row1_length, rows_length, tabF_length, rowF_length, cI, cB, cS, roI, ro64, hpin, go_sem, Nat.reduceAdd, Nat.reduceMul]
  refine Tri.ent ?_ (Ent.frb hfull 1)
  refine Tri.step sized ?_
  simp (decide := true) only [codeC, row1_length, rows_length, tabF_length, rowF_length, cI, cB, cS, roI, ro64, hpin, go_sem, Nat.reduceAdd, Nat.reduceMul]
  refine aCall_det hck hpin ?_
  cases hok : codeB c with
  | false => simp (decide := true) only [e0, if_false, Bool.false_eq_true, row1_length, rows_length, tabF_length, rowF_length, cI, cB, cS, roI, ro64, hpin, go_sem, Nat.reduceAdd, Nat.reduceMul]
  | true =>
  simp (decide := true) only [if_true, row1_length, rows_length, tabF_length, rowF_length, cI, cB, cS, roI, ro64, hpin, go_sem, Nat.reduceAdd, Nat.reduceMul]
  refine code_sound sized _ ?_
  simp (decide := true) only [codeC, row1_length, rows_length, tabF_length, rowF_length, cI, cB, cS, roI, ro64, hpin, go_sem, Nat.reduceAdd, Nat.reduceMul]
  refine aCall_det (hlv hok) hpin ?_
  simp (decide := true) only [row1_length, rows_length, tabF_length, rowF_length, cI, cB, cS, roI, ro64, hpin, go_sem, Nat.reduceAdd, Nat.reduceMul]
end Go.Proofs.YtnbodmohnkohfaaDoor.AW
