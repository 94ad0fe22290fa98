/- Another name of a function, both sides. No condition beyond those named. -/
import Derived.Test.YtnbodmohnkohfaaGreatDoorRb
namespace Go.Proofs.YtnbodmohnkohfaaGreatDoor.AW
open Go.RowKit
set_option maxHeartbeats 8000000
set_option maxRecDepth 100000
set_option linter.unusedSimpArgs false
set_option linter.unusedVariables false

noncomputable def renFnCode (p : ProgramD) (a b : ByteArray) : Int := if typesRightB p then (if decide (fnAtP p.fns a < 0) || (!nameB b || decide (0 ≤ fnAtP p.fns b)) then 2 else 0) else 1
noncomputable def renFnP (p : ProgramD) (a b : ByteArray) : ProgramD := if renFnCode p a b == 0 then renFns a b p else p

theorem findN_first {s : ByteArray} : ∀ (l : List FnD) (i k : Nat), findN s l i = ((i + k : Nat) : Int) → k < l.length → (l.getD k fd0).name = s
  | [], i, k, _, hk => by simp at hk
  | f :: r, i, k, h, hk => by
    unfold findN at h
    by_cases hs : f.name = s
    · rw [if_pos hs] at h
      have : k = 0 := by omega
      subst this
      simpa using hs
    · rw [if_neg hs] at h
      cases k with
      | zero =>
        have := findN_range s r (i + 1)
        rw [h] at this
        omega
      | succ k =>
        have := findN_first r (i + 1) k (by rw [h]; congr 1; omega) (by simpa using hk)
        simpa using this
theorem fnAt_name {fns : List FnD} {s : ByteArray} {k : Nat} (h : fnAtP fns s = (k : Int)) (hk : k < fns.length) : fns[k].name = s := by
  have := findN_first fns 0 k (by simpa [fnAtP] using h) hk
  simpa [List.getD, hk] using this
/-- Where no two names are alike, one function alone bears a name. -/
theorem ren_one {fns : List FnD} (hu : ∀ i (h : i < fns.length), fnAtP fns fns[i].name = (i : Int)) {a : ByteArray} (b : ByteArray) {k : Nat} (h : fnAtP fns a = (k : Int)) (hk : k < fns.length) :
    fns.set k ⟨b, fns[k].params, fns[k].res, fns[k].body, fns[k].ret⟩ = fns.map (renFnD a b) := by
  apply List.ext_getElem
  · simp
  · intro j h1 h2
    have hj : j < fns.length := by simpa using h1
    rw [List.getElem_set, List.getElem_map]
    split
    · rename_i e
      subst e
      have := fnAt_name h hk
      simp [renFnD, renS, this]
    · rename_i e
      have : fns[j].name ≠ a := fun hh => by
        have h3 := hu j hj
        rw [hh, h] at h3
        omega
      simp [renFnD, renS, this]
theorem right_names {p : ProgramD} (h : typesRightB p = true) : ∀ i (hi : i < p.fns.length), fnAtP p.fns p.fns[i].name = (i : Int) := fun i hi => by
  unfold typesRightB at h
  have h1 := (Bool.and_eq_true_iff.1 h).1
  unfold namesRightB at h1
  have h2 := (Bool.and_eq_true_iff.1 h1).1
  simp only [programB, Bool.and_eq_true] at h2
  have h3 := rangeB_true.1 h2.2.2.2.1 i hi
  unfold fnRightB at h3
  rw [fAt_nat hi] at h3
  simpa using (Bool.and_eq_true_iff.1 h3).2

theorem renameFnI_sound (p : ProgramD) (a b : ByteArray) (hf : p.fns.length ≤ 1048576) (hn : p.nodes.length ≤ 1048576) (hk : ∀ x ∈ p.nodes, x.kids.length ≤ 1048576) (hpl : ∀ f ∈ p.fns, f.params.length ≤ 1048576) :
    Sound Tryz.prog 20 [.ro (programW p), .ro (.sc (.string a)), .ro (.sc (.string b))] (fun rs st => rs = [(true, programC false (renFnP p a b)), (false, [cI (renFnCode p a b)])]) := by
  have htr := typesRightI_sound p hf hn hk hpl
  have hcp := copyProgram_sound p hf hn hk hpl
  have hfa := fnAtI_sound p a hf
  have hfb := fnAtI_sound p b hf
  have hnm := nameI_sound b
  have hrn := renamedFns_sound p a b hf hn hk hpl
  simp only [programW] at htr hcp hfa hfb hrn
  refine sound_tri (fn := Tryz.f20) (c := Tryz.f20.body.getD .skip) (res := [.ce 6 33, .tm 7]) (n := 33) sized (by kernel_rfl) (by rfl) (by kernel_rfl) (by rfl) (by rfl) (by simp [argsV]) (fun uf ub C hpin hpin2 hfull => ?_)
  simp only [Tryz.f20, Option.getD_some]
  refine Tri.step sized ?_
  simp (decide := true) only [drop0, row1_length, rows_length, programW, programC, cI, cB, cS, roI, ro64, hpin, go_sem, Nat.reduceAdd, Nat.reduceMul]
  refine Tri.ent ?_ (Ent.frb hfull 3)
  refine Tri.ent ?_ (Ent.frb hfull 4)
  refine Tri.ent ?_ (Ent.frb hfull 5)
  refine Tri.step sized ?_
  simp (decide := true) only [drop0, row1_length, rows_length, programW, programC, cI, cB, cS, roI, ro64, hpin, go_sem, Nat.reduceAdd, Nat.reduceMul]
  refine aCall_det htr hpin ?_
  cases hR : typesRightB p with
  | false =>
    have hC : renFnCode p a b = 1 := by unfold renFnCode; simp [hR]
    have hP : renFnP p a b = p := by unfold renFnP; rw [hC]; rfl
    simp (decide := true) only [if_false, Int.reduceBEq, Bool.false_eq_true, drop0, row1_length, rows_length, programW, programC, cI, cB, cS, roI, ro64, hpin, go_sem, Nat.reduceAdd, Nat.reduceMul]
    refine aCall_det hcp hpin ?_
    simp (decide := true) only [hC, hP, drop0, row1_length, rows_length, programW, programC, cI, cB, cS, roI, ro64, hpin, go_sem, Nat.reduceAdd, Nat.reduceMul]
  | true =>
  simp (decide := true) only [if_true, drop0, row1_length, rows_length, programW, programC, cI, cB, cS, roI, ro64, hpin, go_sem, Nat.reduceAdd, Nat.reduceMul]
  refine Tri.step sized ?_
  simp (decide := true) only [drop0, row1_length, rows_length, programW, programC, cI, cB, cS, roI, ro64, hpin, go_sem, Nat.reduceAdd, Nat.reduceMul]
  refine aCall_det hfa hpin ?_
  by_cases h1 : fnAtP p.fns a < 0
  · have c1 : (fnAtP p.fns a < 0) = True := eq_true h1
    have d1 : decide (fnAtP p.fns a < 0) = true := decide_eq_true h1
    have hC : renFnCode p a b = 2 := by unfold renFnCode; simp [hR, h1]
    have hP : renFnP p a b = p := by unfold renFnP; rw [hC]; rfl
    simp (decide := true) only [c1, d1, Bool.true_or, if_true, if_false, Int.reduceBEq, Bool.false_eq_true, drop0, row1_length, rows_length, programW, programC, cI, cB, cS, roI, ro64, hpin, go_sem, Nat.reduceAdd, Nat.reduceMul]
    refine aCall_det hcp hpin ?_
    simp (decide := true) only [hC, hP, drop0, row1_length, rows_length, programW, programC, cI, cB, cS, roI, ro64, hpin, go_sem, Nat.reduceAdd, Nat.reduceMul]
  have c1 : (fnAtP p.fns a < 0) = False := eq_false h1
  have d1 : decide (fnAtP p.fns a < 0) = false := decide_eq_false h1
  simp (decide := true) only [c1, d1, Bool.false_or, drop0, row1_length, rows_length, programW, programC, cI, cB, cS, roI, ro64, hpin, go_sem, Nat.reduceAdd, Nat.reduceMul]
  refine aCall_det hnm hpin ?_
  cases h2 : nameB b with
  | false =>
    have hC : renFnCode p a b = 2 := by unfold renFnCode; simp [hR, h1, h2]
    have hP : renFnP p a b = p := by unfold renFnP; rw [hC]; rfl
    simp (decide := true) only [Bool.true_or, if_true, if_false, Int.reduceBEq, Bool.false_eq_true, drop0, row1_length, rows_length, programW, programC, cI, cB, cS, roI, ro64, hpin, go_sem, Nat.reduceAdd, Nat.reduceMul]
    refine aCall_det hcp hpin ?_
    simp (decide := true) only [hC, hP, drop0, row1_length, rows_length, programW, programC, cI, cB, cS, roI, ro64, hpin, go_sem, Nat.reduceAdd, Nat.reduceMul]
  | true =>
  simp (decide := true) only [Bool.false_or, drop0, row1_length, rows_length, programW, programC, cI, cB, cS, roI, ro64, hpin, go_sem, Nat.reduceAdd, Nat.reduceMul]
  refine aCall_det hfb hpin ?_
  by_cases h3 : 0 ≤ fnAtP p.fns b
  · have c3 : (0 ≤ fnAtP p.fns b) = True := eq_true h3
    have d3 : decide (0 ≤ fnAtP p.fns b) = true := decide_eq_true h3
    have hC : renFnCode p a b = 2 := by unfold renFnCode; simp [hR, h1, h2, h3]
    have hP : renFnP p a b = p := by unfold renFnP; rw [hC]; rfl
    simp (decide := true) only [c3, d3, ge_iff_le, if_true, if_false, Int.reduceBEq, Bool.false_eq_true, drop0, row1_length, rows_length, programW, programC, cI, cB, cS, roI, ro64, hpin, go_sem, Nat.reduceAdd, Nat.reduceMul]
    refine aCall_det hcp hpin ?_
    simp (decide := true) only [hC, hP, drop0, row1_length, rows_length, programW, programC, cI, cB, cS, roI, ro64, hpin, go_sem, Nat.reduceAdd, Nat.reduceMul]
  have c3 : (0 ≤ fnAtP p.fns b) = False := eq_false h3
  have d3 : decide (0 ≤ fnAtP p.fns b) = false := decide_eq_false h3
  simp (decide := true) only [c3, d3, ge_iff_le, if_true, if_false, Int.reduceBEq, Bool.false_eq_true, drop0, row1_length, rows_length, programW, programC, cI, cB, cS, roI, ro64, hpin, go_sem, Nat.reduceAdd, Nat.reduceMul]
  refine code_sound sized _ ?_
  simp (decide := true) only [drop0, row1_length, rows_length, programW, programC, cI, cB, cS, roI, ro64, hpin, go_sem, Nat.reduceAdd, Nat.reduceMul]
  have hC : renFnCode p a b = 0 := by unfold renFnCode; simp [hR, h1, h2, h3]
  have hP : renFnP p a b = renFns a b p := by unfold renFnP; rw [hC]; rfl
  refine aCall_det hrn hpin ?_
  simp (decide := true) only [hC, hP, drop0, row1_length, rows_length, programW, programC, cI, cB, cS, roI, ro64, hpin, go_sem, Nat.reduceAdd, Nat.reduceMul]
theorem renameFnS_sound (p : ProgramD) (a b : ByteArray) (hf : p.fns.length ≤ 1048576) (hn : p.nodes.length ≤ 1048576) (hk : ∀ x ∈ p.nodes, x.kids.length ≤ 1048576) (hpl : ∀ f ∈ p.fns, f.params.length ≤ 1048576) :
    Sound Tryz.prog 19 [.ro (programW p), .ro (.sc (.string a)), .ro (.sc (.string b))] (fun rs st => rs = [(true, programC false (renFnP p a b)), (false, [cI (renFnCode p a b)])]) := by
  have htr := typesRightS_sound p hf hn hk hpl
  have hcp := l04Copy_sound p hf hn hk hpl
  have hfa := fnAtS_sound p a hf
  have hfb := fnAtS_sound p b hf
  have hnm := nameS_sound b
  simp only [programW] at htr hcp hfa hfb
  refine sound_tri (fn := Tryz.f19) (c := Tryz.f19.body.getD .skip) (res := [.ce 6 33, .tm 7]) (n := 71) sized (by kernel_rfl) (by rfl) (by kernel_rfl) (by rfl) (by rfl) (by simp [argsV]) (fun uf ub C hpin hpin2 hfull => ?_)
  simp only [Tryz.f19, Option.getD_some]
  refine Tri.step sized ?_
  simp (decide := true) only [drop0, row1_length, rows_length, programW, programC, cI, cB, cS, roI, ro64, hpin, go_sem, Nat.reduceAdd, Nat.reduceMul]
  refine Tri.ent ?_ (Ent.frb hfull 3)
  refine Tri.step sized ?_
  simp (decide := true) only [drop0, row1_length, rows_length, programW, programC, cI, cB, cS, roI, ro64, hpin, go_sem, Nat.reduceAdd, Nat.reduceMul]
  refine aCall_det hcp hpin ?_
  simp (decide := true) only [drop0, row1_length, rows_length, programW, programC, cI, cB, cS, roI, ro64, hpin, go_sem, Nat.reduceAdd, Nat.reduceMul]
  refine Tri.step sized ?_
  simp (decide := true) only [drop0, row1_length, rows_length, programW, programC, cI, cB, cS, roI, ro64, hpin, go_sem, Nat.reduceAdd, Nat.reduceMul]
  refine aCall_det htr hpin ?_
  cases hR : typesRightB p with
  | false =>
    have hC : renFnCode p a b = 1 := by unfold renFnCode; simp [hR]
    have hP : renFnP p a b = p := by unfold renFnP; rw [hC]; rfl
    simp (decide := true) only [hC, hP, if_false, Int.reduceBEq, Bool.false_eq_true, drop0, row1_length, rows_length, programW, programC, cI, cB, cS, roI, ro64, hpin, go_sem, Nat.reduceAdd, Nat.reduceMul]
  | true =>
  have hu := right_names hR
  simp (decide := true) only [if_true, drop0, row1_length, rows_length, programW, programC, cI, cB, cS, roI, ro64, hpin, go_sem, Nat.reduceAdd, Nat.reduceMul]
  refine Tri.step sized ?_
  simp (decide := true) only [drop0, row1_length, rows_length, programW, programC, cI, cB, cS, roI, ro64, hpin, go_sem, Nat.reduceAdd, Nat.reduceMul]
  refine aCall_det hfa hpin ?_
  simp (decide := true) only [drop0, row1_length, rows_length, programW, programC, cI, cB, cS, roI, ro64, hpin, go_sem, Nat.reduceAdd, Nat.reduceMul]
  refine Tri.step sized ?_
  by_cases h1 : fnAtP p.fns a < 0
  · have c1 : (fnAtP p.fns a < 0) = True := eq_true h1
    have d1 : decide (fnAtP p.fns a < 0) = true := decide_eq_true h1
    have hC : renFnCode p a b = 2 := by unfold renFnCode; simp [hR, h1]
    have hP : renFnP p a b = p := by unfold renFnP; rw [hC]; rfl
    simp (decide := true) only [hC, hP, c1, d1, Bool.true_or, if_true, if_false, Int.reduceBEq, Bool.false_eq_true, drop0, row1_length, rows_length, programW, programC, cI, cB, cS, roI, ro64, hpin, go_sem, Nat.reduceAdd, Nat.reduceMul]
  have c1 : (fnAtP p.fns a < 0) = False := eq_false h1
  have d1 : decide (fnAtP p.fns a < 0) = false := decide_eq_false h1
  simp (decide := true) only [c1, d1, Bool.false_or, drop0, row1_length, rows_length, programW, programC, cI, cB, cS, roI, ro64, hpin, go_sem, Nat.reduceAdd, Nat.reduceMul]
  refine aCall_det hnm hpin ?_
  cases h2 : nameB b with
  | false =>
    have hC : renFnCode p a b = 2 := by unfold renFnCode; simp [hR, h1, h2]
    have hP : renFnP p a b = p := by unfold renFnP; rw [hC]; rfl
    simp (decide := true) only [hC, hP, Bool.true_or, if_true, if_false, Int.reduceBEq, Bool.false_eq_true, drop0, row1_length, rows_length, programW, programC, cI, cB, cS, roI, ro64, hpin, go_sem, Nat.reduceAdd, Nat.reduceMul]
  | true =>
  simp (decide := true) only [Bool.false_or, drop0, row1_length, rows_length, programW, programC, cI, cB, cS, roI, ro64, hpin, go_sem, Nat.reduceAdd, Nat.reduceMul]
  refine aCall_det hfb hpin ?_
  by_cases h3 : 0 ≤ fnAtP p.fns b
  · have c3 : (0 ≤ fnAtP p.fns b) = True := eq_true h3
    have d3 : decide (0 ≤ fnAtP p.fns b) = true := decide_eq_true h3
    have hC : renFnCode p a b = 2 := by unfold renFnCode; simp [hR, h1, h2, h3]
    have hP : renFnP p a b = p := by unfold renFnP; rw [hC]; rfl
    simp (decide := true) only [hC, hP, c3, d3, ge_iff_le, if_true, if_false, Int.reduceBEq, Bool.false_eq_true, drop0, row1_length, rows_length, programW, programC, cI, cB, cS, roI, ro64, hpin, go_sem, Nat.reduceAdd, Nat.reduceMul]
  have c3 : (0 ≤ fnAtP p.fns b) = False := eq_false h3
  have d3 : decide (0 ≤ fnAtP p.fns b) = false := decide_eq_false h3
  have hC : renFnCode p a b = 0 := by unfold renFnCode; simp [hR, h1, h2, h3]
  have hP : renFnP p a b = renFns a b p := by unfold renFnP; rw [hC]; rfl
  have hrg := findN_range a p.fns 0
  obtain ⟨k, hka⟩ : ∃ k : Nat, fnAtP p.fns a = k := ⟨(fnAtP p.fns a).toNat, by omega⟩
  have hkl : k < p.fns.length := by
    have hfe : fnAtP p.fns a = findN a p.fns 0 := rfl
    rw [← hfe, hka] at hrg
    omega
  have hone := ren_one hu b hka hkl
  have hck : ((k : Int) < (p.fns.length : Int)) = True := eq_true (by omega)
  have hset := fn_setn hkl b
  rw [hone] at hset
  have hq := rows_getq (fnC false) p.fns hkl
  simp only [fnC, cI, cS] at hq
  simp (decide := true) only [c3, d3, ge_iff_le, if_true, if_false, Int.reduceBEq, Bool.false_eq_true, drop0, row1_length, rows_length, programW, programC, cI, cB, cS, roI, ro64, hpin, go_sem, Nat.reduceAdd, Nat.reduceMul]
  refine Tri.step sized ?_
  simp (decide := true) only [hka, hck, hkl, hq, hset, Int.natCast_nonneg, drop0, row1_length, rows_length, programW, programC, cI, cB, cS, roI, ro64, hpin, go_sem, Nat.reduceAdd, Nat.reduceMul]
  unfold renFns at hP
  generalize p.fns.map (renFnD a b) = F at hP hset ⊢
  have hset3 : (rows (fnC false) p.fns).set k (((rows (fnC false) p.fns)[k]?.getD []).set 0 (D.sc (.string b))) = rows (fnC false) F := by rw [← hset]; unfold setCellAt; simp [List.getD]
  refine Tri.stop sized ⟨71, [(6, .bp 6 0), (8, .bp 8 0)], [(6, .box [.sc (.slice none 0 0), .sc (.slice none 0 0)]), (8, .box [.row false 60 (rows (nodeC false) (p.nodes.map (renCall a b))), .row false 80 (rows (fnC false) F)])]⟩ ?_ ?_
  · simp (decide := true) only [drop0, row1_length, rows_length, programW, programC, cI, cB, cS, roI, ro64, hpin, go_sem, Nat.reduceAdd, Nat.reduceMul]
    refine Tri.loop (ι := Nat) (fun i => i ≤ p.nodes.length) (fun i => ⟨71, [(1, vS a), (2, vS b), (6, .bp 6 0), (8, .bp 8 0), (10, vI i)], [(6, .box [.sc (.slice none 0 0), .sc (.slice none 0 0)]), (8, .box [.row false 60 (rows (nodeC false) (mixL (renCall a b) p.nodes i)), .row false 80 (rows (fnC false) F)])]⟩) (fun i => p.nodes.length - i) 0 (by simp) ?_ ?_
    · refine Ent.weak ?_ ?_ ?_ ?_ <;> simp (decide := true) [subT, subB, hereT, hereV, hereL, St.get, look, vI, vB, vS, cI, cS, cB, nodeC, programC, roI, mixL_zero, hset3]
    · rintro i hi
      refine code_sound sized _ ?_
      have hml := mixL_length (renCall a b) p.nodes i
      by_cases h' : i < p.nodes.length
      · have e : ((i : Int) < (p.nodes.length : Int)) = True := by simp [h']
        have h2 : i < (mixL (renCall a b) p.nodes i).length := by omega
        have hg := mixL_get (renCall a b) p.nodes h' h2
        have hst := mixL_set (renCall a b) p.nodes h'
        have hsk := mixL_skip (renCall a b) p.nodes h'
        have hsn := node_setn h2 b
        have hq := rows_getq (nodeC false) _ h2
        rw [hg] at hsn hq
        obtain ⟨L2, hL2⟩ : ∃ L, L = mixL (renCall a b) p.nodes (i + 1) := ⟨_, rfl⟩
        rw [← hL2] at hst hsk
        generalize mixL (renCall a b) p.nodes i = L at hml h2 hst hsk hsn hq ⊢
        generalize p.nodes[i] = x at hst hsk hsn hq
        unfold renCall at hst hsk
        simp only [nodeC, cI, cS] at hq
        cases h12 : x.kind == 12 with
        | true =>
          rw [h12, if_pos rfl] at hst hsk
          by_cases hxa : x.name = a
          · have d4 : decide (x.name = a) = true := decide_eq_true hxa
            unfold renS at hst
            rw [if_pos hxa] at hst
            rw [hst] at hsn
            have hsn3 : (rows (nodeC false) L).set i (((rows (nodeC false) L)[i]?.getD []).set 2 (D.sc (.string b))) = rows (nodeC false) L2 := by rw [← hsn]; unfold setCellAt; simp [List.getD]
            simp (decide := true) only [e, h', hml, hq, hsn, h12, d4, Int.natCast_nonneg, vB, vI, vS, drop0, row1_length, rows_length, programW, programC, cI, cB, cS, roI, ro64, hpin, go_sem, Nat.reduceAdd, Nat.reduceMul]
            refine ⟨i + 1, h', by omega, Ent.weak ?_ ?_ ?_ ?_⟩
            all_goals simp (decide := true) [subT, subB, hereT, hereV, hereL, St.get, look, vI, vB, vS, cI, cS, cB, nodeC, programC, roI, ← hL2, hsn3, w64s (n := p.nodes.length) h' (by omega)]
          · have d4 : decide (x.name = a) = false := decide_eq_false hxa
            have hsk2 := hsk (by simp [renS, hxa])
            simp (decide := true) only [e, h', hml, hq, h12, d4, Int.natCast_nonneg, vB, vI, vS, drop0, row1_length, rows_length, programW, programC, cI, cB, cS, roI, ro64, hpin, go_sem, Nat.reduceAdd, Nat.reduceMul]
            refine ⟨i + 1, h', by omega, Ent.weak ?_ ?_ ?_ ?_⟩
            all_goals simp (decide := true) [subT, subB, hereT, hereV, hereL, St.get, look, vI, vB, vS, cI, cS, cB, nodeC, programC, roI, ← hL2, hsk2, w64s (n := p.nodes.length) h' (by omega)]
        | false =>
          rw [h12] at hsk
          have hsk2 := hsk (by simp)
          simp (decide := true) only [e, h', hml, hq, h12, Int.natCast_nonneg, vB, vI, vS, drop0, row1_length, rows_length, programW, programC, cI, cB, cS, roI, ro64, hpin, go_sem, Nat.reduceAdd, Nat.reduceMul]
          refine ⟨i + 1, h', by omega, Ent.weak ?_ ?_ ?_ ?_⟩
          all_goals simp (decide := true) [subT, subB, hereT, hereV, hereL, St.get, look, vI, vB, vS, cI, cS, cB, nodeC, programC, roI, ← hL2, hsk2, w64s (n := p.nodes.length) h' (by omega)]
      · have hil : i = p.nodes.length := by omega
        subst hil
        have e : ((p.nodes.length : Int) < (p.nodes.length : Int)) = False := by simp
        simp (decide := true) only [e, hml, vB, vI, drop0, row1_length, rows_length, programW, programC, cI, cB, cS, roI, ro64, hpin, go_sem, Nat.reduceAdd, Nat.reduceMul]
        refine Ent.weak ?_ ?_ ?_ ?_
        all_goals simp (decide := true) [subT, subB, hereT, hereV, hereL, St.get, look, vI, vB, vS, cI, cS, cB, nodeC, programC, roI, mixL_end]
  refine code_sound sized _ ?_
  simp (decide := true) only [hC, hP, drop0, row1_length, rows_length, programW, programC, cI, cB, cS, roI, ro64, hpin, go_sem, Nat.reduceAdd, Nat.reduceMul]
theorem renFn_cost (p : ProgramD) (a b : ByteArray) (h : programCost p ≤ 1048576) : programCost (renFnP p a b) ≤ 1048576 := by
  unfold renFnP
  split
  · rename_i hc
    have hc := eq_of_beq hc
    have hR : typesRightB p = true := by
      cases hR : typesRightB p with
      | true => rfl
      | false => unfold renFnCode at hc; rw [hR] at hc; simp at hc
    have hb : nameB b = true := by
      cases hb : nameB b with
      | true => rfl
      | false => unfold renFnCode at hc; rw [hR, hb] at hc; simp at hc
    have hb8 : b.size ≤ 8 := by
      unfold nameB at hb
      have := inI_true (Bool.and_eq_true_iff.1 hb).1
      omega
    have hG : Right p := by
      unfold typesRightB at hR
      have h1 := (Bool.and_eq_true_iff.1 hR).1
      unfold namesRightB at h1
      exact programB_true (Bool.and_eq_true_iff.1 h1).1
    have hs : ∀ s : ByteArray, s.size ≤ 8 → (renS a b s).size ≤ 8 := fun s hs => by unfold renS; split <;> assumption
    refine Nat.le_trans (cost_of (by simpa [renFns] using hG.few) (by simpa [renFns] using hG.fns) (fun x hx => ?_) (fun f hf => ?_)) (by decide)
    · simp only [renFns, List.mem_map] at hx
      obtain ⟨y, hy, rfl⟩ := hx
      have h1 := node_name hG.deep y hy
      have h2 := hG.deep.few y hy
      unfold renCall
      split
      · exact ⟨hs _ h1, h2⟩
      · exact ⟨h1, h2⟩
    · simp only [renFns, List.mem_map] at hf
      obtain ⟨g, hg, rfl⟩ := hf
      obtain ⟨i, hi, rfl⟩ := List.getElem_of_mem hg
      obtain ⟨g1, g2, g3⟩ := fn_small (hG.fn i hi)
      exact ⟨hs _ g1, g2, g3⟩
  · exact h
end Go.Proofs.YtnbodmohnkohfaaGreatDoor.AW
