/- Another name of a variable, both sides. No condition beyond those named. -/
import Derived.Test.YtnbodmohnkohfaaGreatDoorRc
namespace Go.Proofs.YtnbodmohnkohfaaGreatDoor.AW
open Go.RowKit
set_option maxHeartbeats 8000000
set_option maxRecDepth 100000
set_option linter.unusedSimpArgs false
set_option linter.unusedVariables false

def renNode (a b : ByteArray) (x : NodeD) : NodeD := if hasNameB x.kind && !(x.kind == 12) then ⟨x.kind, x.num, renS a b x.name, x.kids⟩ else x
def renNodeS (a b : ByteArray) (x : NodeD) : NodeD := if !(x.kind == 12) && decide (x.name = a) then ⟨x.kind, x.num, b, x.kids⟩ else x
def renPar (a b : ByteArray) (x : ParamD) : ParamD := ⟨renS a b x.name, x.ty⟩
def atN (g : NodeD → NodeD) (N : List NodeD) (k : Int) : List NodeD := N.set k.toNat (g (nAt N k))
def atAll (g : NodeD → NodeD) (l : List Int) (N : List NodeD) : List NodeD := l.foldl (atN g) N
def parOf (a b : ByteArray) (f : FnD) : FnD := ⟨f.name, f.params.map (renPar a b), f.res, f.body, f.ret⟩
noncomputable def renVars (a b : ByteArray) (fn : Int) (p : ProgramD) : ProgramD := ⟨atAll (renNode a b) (fnNs p fn) p.nodes, p.fns.set fn.toNat (parOf a b (fAt p.fns fn))⟩
theorem atAll_length (g : NodeD → NodeD) : ∀ (l : List Int) (N : List NodeD), (atAll g l N).length = N.length
  | [], _ => rfl
  | k :: r, N => by unfold atAll; rw [List.foldl_cons]; exact (atAll_length g r _).trans (by simp [atN])
theorem atAll_next (g : NodeD → NodeD) (l : List Int) {i : Nat} (h : i < l.length) (N : List NodeD) : atAll g (l.take (i + 1)) N = atN g (atAll g (l.take i) N) l[i] := by
  unfold atAll
  rw [List.take_succ_eq_append_getElem h, List.foldl_append]; rfl
theorem atN_nat (g : NodeD → NodeD) {N : List NodeD} {k : Int} (h0 : 0 ≤ k) (h : k.toNat < N.length) : atN g N k = N.set k.toNat (g N[k.toNat]) := by
  unfold atN nAt
  rw [List.getD_eq_getElem?_getD, List.getElem?_eq_getElem h]; rfl
theorem par_setn {l : List ParamD} {i : Nat} (h : i < l.length) (s : ByteArray) : setCellAt (rows (paramC false) l) i 0 (.sc (.string s)) = rows (paramC false) (l.set i ⟨s, l[i].ty⟩) := by
  unfold setCellAt
  rw [rows_get _ _ h, ← rows_set]; rfl
theorem fn_setp {l : List FnD} {i : Nat} (h : i < l.length) (ps : List ParamD) : setCellAt (rows (fnC false) l) i 1 (.row false 86 (rows (paramC false) ps)) = rows (fnC false) (l.set i ⟨l[i].name, ps, l[i].res, l[i].body, l[i].ret⟩) := by
  unfold setCellAt
  rw [rows_get _ _ h, ← rows_set]; rfl
theorem set_set_get {l : List FnD} {i : Nat} (h : i < l.length) (x y : FnD) (h2 : i < (l.set i x).length) : (l.set i x)[i] = x := by simp

theorem cloVar_sound (s a b : ByteArray) : Sound Tryz.prog 65 [.ro (.sc (.string s)), .ro (.ip [cS a] 0), .ro (.ip [cS b] 0)] (fun rs st => rs = [(false, [cS (renS a b s)])]) := by
  refine sound_tri (fn := Tryz.f65) (c := Tryz.f65.body.getD .skip) (res := [.tm 4]) (n := 10) sized (by kernel_rfl) (by rfl) (by kernel_rfl) (by rfl) (by rfl) (by simp [argsV]) (fun uf ub C hpin hpin2 hfull => ?_)
  simp only [Tryz.f65, Option.getD_some]
  unfold renS
  refine Tri.step sized ?_
  simp (decide := true) only [drop0, row1_length, rows_length, programW, programC, cI, cB, cS, roI, ro64, hpin, go_sem, Nat.reduceAdd, Nat.reduceMul]
  by_cases h : s = a
  · have h1 : decide (s = a) = true := decide_eq_true h
    rw [if_pos h]
    refine Tri.step sized ?_
    simp (decide := true) only [h1, drop0, row1_length, rows_length, programW, programC, cI, cB, cS, roI, ro64, hpin, go_sem, Nat.reduceAdd, Nat.reduceMul]
  · have h1 : decide (s = a) = false := decide_eq_false h
    rw [if_neg h]
    refine Tri.step sized ?_
    simp (decide := true) only [h1, drop0, row1_length, rows_length, programW, programC, cI, cB, cS, roI, ro64, hpin, go_sem, Nat.reduceAdd, Nat.reduceMul]
    refine code_sound sized _ ?_
    simp (decide := true) only [h1, drop0, row1_length, rows_length, programW, programC, cI, cB, cS, roI, ro64, hpin, go_sem, Nat.reduceAdd, Nat.reduceMul]
theorem renamed_sound (p : ProgramD) (a b : ByteArray) (fn : Nat) (hfl : fn < p.fns.length) (hf : p.fns.length ≤ 1048576) (hn : p.nodes.length ≤ 1048576) (hk : ∀ x ∈ p.nodes, x.kids.length ≤ 1048576) (hpl : ∀ f ∈ p.fns, f.params.length ≤ 1048576) :
    Sound Tryz.prog 64 [.ro (programW p), .ro (.sc (.int .i64 fn)), .ro (.clo 65 [[cS a], [cS b]])] (fun rs st => rs = [(true, programC false (renVars a b fn p))]) := by
  have hcp := copyProgram_sound p hf hn hk hpl
  have hfs := fnNodes_sound p fn hf hn hk
  simp only [programW] at hcp hfs
  unfold renVars
  have hll := fnNs_length p fn
  have hnode := fun i (h : i < (fnNs p fn).length) => fnNs_node p fn h
  generalize fnNs p fn = L at hll hnode hfs ⊢
  refine sound_tri (fn := Tryz.f64) (c := Tryz.f64.body.getD .skip) (res := [.ce 6 33]) (n := 78) sized (by kernel_rfl) (by rfl) (by kernel_rfl) (by rfl) (by rfl) (by simp [argsV]) (fun uf ub C hpin hpin2 hfull => ?_)
  simp only [Tryz.f64, Option.getD_some]
  refine Tri.step sized ?_
  simp (decide := true) only [drop0, row1_length, rows_length, programW, programC, cI, cB, cS, roI, ro64, hpin, go_sem, Nat.reduceAdd, Nat.reduceMul]
  refine Tri.ent ?_ (Ent.frb hfull 3)
  refine Tri.step sized ?_
  simp (decide := true) only [drop0, row1_length, rows_length, programW, programC, cI, cB, cS, roI, ro64, hpin, go_sem, Nat.reduceAdd, Nat.reduceMul]
  refine aCall_det hcp hpin ?_
  simp (decide := true) only [drop0, row1_length, rows_length, programW, programC, cI, cB, cS, roI, ro64, hpin, go_sem, Nat.reduceAdd, Nat.reduceMul]
  refine Tri.stop sized ⟨78, [(1, vI fn), (2, .clo 65 [[cS a], [cS b]]), (6, .bp 6 0), (7, .bp 7 0)], [(6, .box [.sc (.slice none 0 0), .sc (.slice none 0 0)]), (7, .box [.row false 60 (rows (nodeC false) (atAll (renNode a b) L p.nodes)), .row false 80 (rows (fnC false) p.fns)])]⟩ ?_ ?_
  · simp (decide := true) only [drop0, row1_length, rows_length, programW, programC, cI, cB, cS, roI, ro64, hpin, go_sem, Nat.reduceAdd, Nat.reduceMul]
    refine aCall_det hfs hpin ?_
    simp (decide := true) only [drop0, row1_length, rows_length, programW, programC, cI, cB, cS, roI, ro64, hpin, go_sem, Nat.reduceAdd, Nat.reduceMul]
    refine Tri.loop (ι := Nat) (fun i => i ≤ L.length) (fun i => ⟨78, [(1, vI fn), (2, .clo 65 [[cS a], [cS b]]), (6, .bp 6 0), (7, .bp 7 0), (17, .ref 3017 [] L.length), (18, vI L.length), (19, vI i)], [(3017, .row 3 (row1 cI L)), (6, .box [.sc (.slice none 0 0), .sc (.slice none 0 0)]), (7, .box [.row false 60 (rows (nodeC false) (atAll (renNode a b) (L.take i) p.nodes)), .row false 80 (rows (fnC false) p.fns)])]⟩) (fun i => L.length - i) 0 (by simp) ?_ ?_
    · refine Ent.weak ?_ ?_ ?_ ?_ <;> simp (decide := true) [subT, subB, hereT, hereV, hereL, St.get, look, vI, vB, vS, cI, cS, cB, nodeC, programC, roI, atAll]
    · rintro i hi
      refine code_sound sized _ ?_
      have hml := atAll_length (renNode a b) (L.take i) p.nodes
      by_cases h' : i < L.length
      · have e : ((i : Int) < (L.length : Int)) = True := by simp [h']
        obtain ⟨g0, g1⟩ := hnode i h'
        have z0 : (0 ≤ L[i]) = True := eq_true g0
        have z1 : (L[i] < (p.nodes.length : Int)) = True := eq_true (by omega)
        have hnx := atAll_next (renNode a b) L h' p.nodes
        obtain ⟨N2, hN2⟩ : ∃ N, N = atAll (renNode a b) (L.take (i + 1)) p.nodes := ⟨_, rfl⟩
        rw [← hN2] at hnx
        generalize atAll (renNode a b) (L.take i) p.nodes = N at hml hnx ⊢
        have g2 : L[i].toNat < N.length := by omega
        rw [atN_nat _ g0 g2] at hnx
        have hsn := fun s => node_setn g2 s
        have hq := rows_getq (nodeC false) N g2
        have hc2 := rows_cell (nodeC false) N 2 g2
        have hc0 := rows_cell (nodeC false) N 0 g2
        have hself : N.set L[i].toNat N[L[i].toNat] = N := set_same N g2 rfl
        generalize N[L[i].toNat] = x at hnx hsn hq hc2 hc0 hself
        unfold renNode at hnx
        simp only [nodeC, cI, cS] at hq hc2 hc0
        simp (decide := true) only [e, z0, z1, g1, h', hml, row1_getq' _ _ h', hq, hc2, hc0, Int.natCast_nonneg, vB, vI, drop0, row1_length, rows_length, programW, programC, cI, cB, cS, roI, ro64, hpin, go_sem, Nat.reduceAdd, Nat.reduceMul]
        refine aCall_det (hasNameI_sound x.kind) hpin ?_
        cases hb : hasNameB x.kind with
        | false =>
          rw [hb, Bool.false_and, if_neg (by decide), hself] at hnx
          simp (decide := true) only [g1, hml, hq, hc2, hc0, Int.natCast_nonneg, vB, vI, drop0, row1_length, rows_length, programW, programC, cI, cB, cS, roI, ro64, hpin, go_sem, Nat.reduceAdd, Nat.reduceMul]
          refine ⟨i + 1, h', by omega, Ent.weak ?_ ?_ ?_ ?_⟩
          all_goals simp (decide := true) [subT, subB, hereT, hereV, hereL, St.get, look, vI, vB, vS, cI, cS, cB, nodeC, programC, roI, ← hN2, hnx, w64s (n := L.length) h' (by omega)]
        | true =>
          rw [hb, Bool.true_and] at hnx
          cases h12 : x.kind == 12 with
          | true =>
            rw [h12, Bool.not_true, if_neg (by decide), hself] at hnx
            simp (decide := true) only [g1, hml, hq, hc2, hc0, h12, bne, Int.natCast_nonneg, vB, vI, drop0, row1_length, rows_length, programW, programC, cI, cB, cS, roI, ro64, hpin, go_sem, Nat.reduceAdd, Nat.reduceMul]
            refine ⟨i + 1, h', by omega, Ent.weak ?_ ?_ ?_ ?_⟩
            all_goals simp (decide := true) [subT, subB, hereT, hereV, hereL, St.get, look, vI, vB, vS, cI, cS, cB, nodeC, programC, roI, ← hN2, hnx, w64s (n := L.length) h' (by omega)]
          | false =>
            rw [h12, Bool.not_false, if_pos rfl] at hnx
            have hsn2 := hsn (renS a b x.name)
            rw [← hnx] at hsn2
            have hsn3 : (rows (nodeC false) N).set L[i].toNat (((rows (nodeC false) N)[L[i].toNat]?.getD []).set 2 (D.sc (.string (renS a b x.name)))) = rows (nodeC false) N2 := by rw [← hsn2]; unfold setCellAt; simp [List.getD]
            simp (decide := true) only [g1, hml, hq, hc2, hc0, h12, bne, Int.natCast_nonneg, vB, vI, drop0, row1_length, rows_length, programW, programC, cI, cB, cS, roI, ro64, hpin, go_sem, Nat.reduceAdd, Nat.reduceMul]
            refine aCall_det (cloVar_sound x.name a b) hpin ?_
            simp (decide := true) only [g1, hml, hq, hc2, hc0, h12, hsn2, Int.natCast_nonneg, vB, vI, drop0, row1_length, rows_length, programW, programC, cI, cB, cS, roI, ro64, hpin, go_sem, Nat.reduceAdd, Nat.reduceMul]
            refine ⟨i + 1, h', by omega, Ent.weak ?_ ?_ ?_ ?_⟩
            all_goals simp (decide := true) [subT, subB, hereT, hereV, hereL, St.get, look, vI, vB, vS, cI, cS, cB, nodeC, programC, roI, ← hN2, hsn3, w64s (n := L.length) h' (by omega)]
      · have hil : i = L.length := by omega
        subst hil
        have e : ((L.length : Int) < (L.length : Int)) = False := by simp
        simp (decide := true) only [e, vB, vI, drop0, row1_length, rows_length, programW, programC, cI, cB, cS, roI, ro64, hpin, go_sem, Nat.reduceAdd, Nat.reduceMul]
        refine Ent.weak ?_ ?_ ?_ ?_
        all_goals simp (decide := true) [subT, subB, hereT, hereV, hereL, St.get, look, vI, vB, vS, cI, cS, cB, nodeC, programC, roI]
  generalize atAll (renNode a b) L p.nodes = N
  have hfe : fAt p.fns fn = p.fns[fn] := fAt_nat hfl
  rw [hfe]
  have c1 : ((fn : Int) < (p.fns.length : Int)) = True := eq_true (by omega)
  have hplx := hpl p.fns[fn] (List.getElem_mem hfl)
  have hseti := fun ps => fn_setp hfl ps
  have hq1 := rows_getq (fnC false) p.fns hfl
  have hown : p.fns = p.fns.set fn ⟨p.fns[fn].name, p.fns[fn].params, p.fns[fn].res, p.fns[fn].body, p.fns[fn].ret⟩ := (set_same p.fns hfl rfl).symm
  have hown2 := hown.symm
  refine Tri.stop sized ⟨78, [(6, .bp 6 0), (7, .bp 7 0)], [(6, .box [.sc (.slice none 0 0), .sc (.slice none 0 0)]), (7, .box [.row false 60 (rows (nodeC false) N), .row false 80 (rows (fnC false) (p.fns.set fn (parOf a b p.fns[fn])))])]⟩ ?_ ?_
  · simp only [fnC, cI, cS] at hq1
    simp (decide := true) only [c1, hfl, hq1, Int.natCast_nonneg, vB, vI, drop0, row1_length, rows_length, programW, programC, cI, cB, cS, roI, ro64, hpin, go_sem, Nat.reduceAdd, Nat.reduceMul]
    refine Tri.loop (ι := Nat) (fun i => i ≤ p.fns[fn].params.length) (fun i => ⟨78, [(1, vI fn), (2, .clo 65 [[cS a], [cS b]]), (6, .bp 6 0), (7, .bp 7 0), (55, vI p.fns[fn].params.length), (56, vI i)], [(6, .box [.sc (.slice none 0 0), .sc (.slice none 0 0)]), (7, .box [.row false 60 (rows (nodeC false) N), .row false 80 (rows (fnC false) (p.fns.set fn ⟨p.fns[fn].name, mixL (renPar a b) p.fns[fn].params i, p.fns[fn].res, p.fns[fn].body, p.fns[fn].ret⟩))])]⟩) (fun i => p.fns[fn].params.length - i) 0 (by simp) ?_ ?_
    · refine Ent.weak ?_ ?_ ?_ ?_ <;> simp (decide := true) [subT, subB, hereT, hereV, hereL, St.get, look, vI, vB, vS, cI, cS, cB, nodeC, programC, roI, mixL_zero, hown2]
    · rintro i hi
      refine code_sound sized _ ?_
      have hml := mixL_length (renPar a b) p.fns[fn].params i
      by_cases h' : i < p.fns[fn].params.length
      · have e : ((i : Int) < (p.fns[fn].params.length : Int)) = True := by simp [h']
        have h2 : i < (mixL (renPar a b) p.fns[fn].params i).length := by omega
        have hg := mixL_get (renPar a b) p.fns[fn].params h' h2
        have hst := mixL_set (renPar a b) p.fns[fn].params h'
        have hsn := fun s => par_setn h2 s
        have hq := rows_getq (paramC false) _ h2
        have hc0 := rows_cell (paramC false) (mixL (renPar a b) p.fns[fn].params i) 0 h2
        rw [hg] at hsn hq hc0
        obtain ⟨L2, hL2⟩ : ∃ L, L = mixL (renPar a b) p.fns[fn].params (i + 1) := ⟨_, rfl⟩
        rw [← hL2] at hst
        generalize mixL (renPar a b) p.fns[fn].params i = M at hml h2 hst hsn hq hc0 ⊢
        generalize p.fns[fn].params[i] = x at hst hsn hq hc0
        unfold renPar at hst
        have hsn2 := hsn (renS a b x.name)
        rw [hst] at hsn2
        obtain ⟨f1, hf1⟩ : ∃ f, f = p.fns[fn] := ⟨_, rfl⟩
        have e2 := e
        rw [← hf1] at e ⊢
        have h3 : fn < (p.fns.set fn ⟨f1.name, M, f1.res, f1.body, f1.ret⟩).length := by simpa using hfl
        have hG := rows_getq (fnC false) _ h3
        have hGc := rows_cell (fnC false) _ 1 h3
        have hGs := fn_setp h3 L2
        rw [List.getElem_set_self] at hG hGc hGs
        rw [List.set_set] at hGs
        have hlen : (p.fns.set fn ⟨f1.name, M, f1.res, f1.body, f1.ret⟩).length = p.fns.length := by simp
        have h3b : fn < p.fns.length := hfl
        simp only [paramC, cI, cS] at hq hc0
        generalize hGG : p.fns.set fn ⟨f1.name, M, f1.res, f1.body, f1.ret⟩ = G at h3 hG hGc hGs hlen ⊢
        simp only [fnC, cI, cS] at hG hGc
        simp (decide := true) only [e, e2, h', hml, hG, hGc, hlen, c1, hfl, hq, hc0, Int.natCast_nonneg, vB, vI, drop0, row1_length, rows_length, programW, programC, cI, cB, cS, roI, ro64, hpin, go_sem, Nat.reduceAdd, Nat.reduceMul]
        refine aCall_det (cloVar_sound x.name a b) hpin ?_
        have hsn3 : (rows (paramC false) M).set i (((rows (paramC false) M)[i]?.getD []).set 0 (D.sc (.string (renS a b x.name)))) = rows (paramC false) L2 := by rw [← hsn2]; unfold setCellAt; simp [List.getD]
        have hGs3 : (rows (fnC false) G).set fn (((rows (fnC false) G)[fn]?.getD []).set 1 (D.row false 86 (rows (paramC false) L2))) = rows (fnC false) (p.fns.set fn ⟨f1.name, L2, f1.res, f1.body, f1.ret⟩) := by rw [← hGs]; unfold setCellAt; simp [List.getD]
        simp (decide := true) only [e, e2, h', hml, hG, hGc, hlen, c1, hfl, hq, hc0, hsn2, hGs, Int.natCast_nonneg, vB, vI, drop0, row1_length, rows_length, programW, programC, cI, cB, cS, roI, ro64, hpin, go_sem, Nat.reduceAdd, Nat.reduceMul]
        have hGs2 : setCellAt (rows (fnC false) G) fn 1 (D.row false 86 (rows (paramC false) L2)) = rows (fnC false) (p.fns.set fn ⟨f1.name, L2, f1.res, f1.body, f1.ret⟩) := hGs
        have hL3 : mixL (renPar a b) f1.params (i + 1) = L2 := by rw [hL2, hf1]
        have h9 : i < f1.params.length := by rw [hf1]; exact h'
        refine ⟨i + 1, h9, by omega, Ent.weak ?_ ?_ ?_ ?_⟩
        all_goals simp (decide := true) [subT, subB, hereT, hereV, hereL, St.get, look, vI, vB, vS, cI, cS, cB, nodeC, programC, roI, hL3, ← hL2, hsn3, hGs3, hGs2, w64s (n := f1.params.length) (by rw [hf1]; exact h') (by rw [hf1]; omega)]
      · have hil : i = p.fns[fn].params.length := by omega
        subst hil
        have e : ((p.fns[fn].params.length : Int) < (p.fns[fn].params.length : Int)) = False := by simp
        simp (decide := true) only [e, vB, vI, drop0, row1_length, rows_length, programW, programC, cI, cB, cS, roI, ro64, hpin, go_sem, Nat.reduceAdd, Nat.reduceMul]
        refine Ent.weak ?_ ?_ ?_ ?_
        all_goals simp (decide := true) [subT, subB, hereT, hereV, hereL, St.get, look, vI, vB, vS, cI, cS, cB, nodeC, programC, roI, mixL_end, parOf]
  refine code_sound sized _ ?_
  simp (decide := true) only [drop0, row1_length, rows_length, programW, programC, cI, cB, cS, roI, ro64, hpin, go_sem, Nat.reduceAdd, Nat.reduceMul]
theorem findV_mem {s : ByteArray} : ∀ (l : List VarD) (i : Nat), 0 ≤ findV s l i → ∃ v ∈ l, v.name = s
  | [], i, h => by simp [findV] at h
  | v :: r, i, h => by
    unfold findV at h
    by_cases hv : v.name = s
    · exact ⟨v, List.mem_cons_self .., hv⟩
    · rw [if_neg hv] at h
      obtain ⟨w, hw, e⟩ := findV_mem r (i + 1) h
      exact ⟨w, List.mem_cons_of_mem _ hw, e⟩
theorem vars_names {p : ProgramD} (hG : Right p) (fn : Nat) (hfl : fn < p.fns.length) : ∀ v ∈ varsL p fn, nameB v.name = true := fun v hv => by
  unfold varsL at hv
  split at hv
  · rcases List.mem_append.1 hv with hv | hv
    · unfold parVars at hv
      obtain ⟨x, hx, rfl⟩ := List.mem_map.1 hv
      rw [fAt_nat hfl] at hx
      have h := hG.fn fn hfl
      simp only [fnOkB, Bool.and_eq_true, List.all_eq_true, paramB] at h
      exact (h.2.2.2.1 x hx).1
    · unfold letVars at hv
      obtain ⟨k, hk, hv⟩ := List.mem_flatMap.1 hv
      unfold letV at hv
      split at hv
      · rename_i h13
        have hv := List.mem_singleton.1 hv
        subst hv
        have hm := underP_mem hk
        have hkl : k.toNat < p.nodes.length := hm.2.1
        have hb := dAt_node p.nodes k.toNat (hG.deep.deep _ hkl)
        simp only [nodeB, Bool.and_eq_true, nodeXB] at hb
        obtain ⟨_, _, _, _, hs, _⟩ := hb
        have hkk : ((k.toNat : Nat) : Int) = k := by have := hm.1; omega
        rw [hkk] at hs
        unfold namOkB at hs
        have h13 := eq_of_beq h13
        rw [h13] at hs
        simpa [hasNameB, inI] using hs
      · simp at hv
  · simp at hv
theorem atAll_same {g h : NodeD → NodeD} (P : NodeD → Prop) (he : ∀ x, P x → g x = h x) (hp : ∀ x, P x → P (g x)) (h0 : P nd0) : ∀ (l : List Int) (N : List NodeD), (∀ x ∈ N, P x) → atAll g l N = atAll h l N
  | [], _, _ => rfl
  | k :: r, N, hN => by
    have hk : P (nAt N k) := by
      unfold nAt
      rw [List.getD_eq_getElem?_getD]
      cases hq : N[k.toNat]? with
      | none => simpa using h0
      | some y => exact hN y (List.mem_of_getElem? hq)
    have e1 : atN g N k = atN h N k := by unfold atN; rw [he _ hk]
    have e2 : ∀ x ∈ atN g N k, P x := fun x hx => by
      unfold atN at hx
      rcases List.mem_or_eq_of_mem_set hx with hx | rfl
      · exact hN x hx
      · exact hp _ hk
    have e3 := atAll_same P he hp h0 r (atN g N k) e2
    unfold atAll at e3 ⊢
    rw [List.foldl_cons, List.foldl_cons, e3, e1]
theorem ren_same {p : ProgramD} (hG : Right p) {a b : ByteArray} (ha : nameB a = true) (hb : nameB b = true) (l : List Int) : atAll (renNode a b) l p.nodes = atAll (renNodeS a b) l p.nodes := by
  have hne : a ≠ ⟨#[]⟩ := fun e => by rw [e] at ha; revert ha; decide
  refine atAll_same (fun x => namOkB x = true) (fun x hx => ?_) (fun x hx => ?_) (by decide) l p.nodes (fun x hx => ?_)
  · unfold renNode renNodeS
    unfold namOkB at hx
    cases h12 : x.kind == 12 with
    | true => simp
    | false =>
      cases hn : hasNameB x.kind with
      | true =>
        by_cases hs : x.name = a
        · simp [renS, hs]
        · simp [renS, hs]
      | false =>
        rw [hn, if_neg (by decide)] at hx
        have hx := of_decide_eq_true hx
        have : ¬ x.name = a := fun e => hne (by rw [← e, hx])
        simp [this]
  · unfold renNode
    split
    · rename_i hc
      unfold namOkB at hx ⊢
      have h1 := (Bool.and_eq_true_iff.1 hc).1
      rw [h1, if_pos rfl] at hx
      simp only [h1, if_true]
      unfold renS
      split <;> assumption
    · exact hx
  · obtain ⟨i, hi, rfl⟩ := List.getElem_of_mem hx
    have hb := dAt_node p.nodes i (hG.deep.deep i hi)
    simp only [nodeB, Bool.and_eq_true, nodeXB] at hb
    obtain ⟨_, _, _, _, hs, _⟩ := hb
    rwa [nAt_nat hi] at hs
noncomputable def renVarCode (p : ProgramD) (fn : Int) (a b : ByteArray) : Int := if typesRightB p && inI fn 0 (p.fns.length - 1) then (if decide (varAtP (varsL p fn) a < 0) || (!nameB b || decide (0 ≤ varAtP (varsL p fn) b)) then 2 else 0) else 1
noncomputable def renVarP (p : ProgramD) (fn : Int) (a b : ByteArray) : ProgramD := if renVarCode p fn a b == 0 then renVars a b fn p else p

theorem renameVarI_sound (p : ProgramD) (fn : Int) (a b : ByteArray) (hf : p.fns.length ≤ 1048576) (hn : p.nodes.length ≤ 1048576) (hk : ∀ x ∈ p.nodes, x.kids.length ≤ 1048576) (hpl : ∀ f ∈ p.fns, f.params.length ≤ 1048576) :
    Sound Tryz.prog 23 [.ro (programW p), .ro (.sc (.int .i64 fn)), .ro (.sc (.string a)), .ro (.sc (.string b))] (fun rs st => rs = [(true, programC false (renVarP p fn a b)), (false, [cI (renVarCode p fn a b)])]) := by
  have htr := typesRightI_sound p hf hn hk hpl
  have hcp := copyProgram_sound p hf hn hk hpl
  have hvs := varsI_sound p fn hf hn hk hpl
  have hvl := varsL_length p fn hpl hn
  have hva := varAtI_sound (varsL p fn) a (by omega)
  have hvb := varAtI_sound (varsL p fn) b (by omega)
  have hnm := nameI_sound b
  have w1 : IntKind.i64.wrap ((p.fns.length : Int) - 1) = (p.fns.length : Int) - 1 := w64 (by omega) (by omega)
  have hin := in' fn 0 (p.fns.length - 1)
  have htv : List.take (varsL p fn).length (rows (varC false) (varsL p fn)) = rows (varC false) (varsL p fn) := rows_takeL (varC false) (varsL p fn)
  simp only [programW] at htr hcp hvs
  refine sound_tri (fn := Tryz.f23) (c := Tryz.f23.body.getD .skip) (res := [.ce 8 33, .tm 9]) (n := 49) sized (by kernel_rfl) (by rfl) (by kernel_rfl) (by rfl) (by rfl) (by simp [argsV]) (fun uf ub C hpin hpin2 hfull => ?_)
  simp only [Tryz.f23, Option.getD_some]
  refine Tri.step sized ?_
  simp (decide := true) only [drop0, row1_length, rows_length, programW, programC, cI, cB, cS, roI, ro64, hpin, go_sem, Nat.reduceAdd, Nat.reduceMul]
  refine Tri.ent ?_ (Ent.frb hfull 4)
  refine Tri.ent ?_ (Ent.frb hfull 6)
  refine Tri.ent ?_ (Ent.frb hfull 7)
  refine Tri.step sized ?_
  simp (decide := true) only [drop0, row1_length, rows_length, programW, programC, cI, cB, cS, roI, ro64, hpin, go_sem, Nat.reduceAdd, Nat.reduceMul]
  refine aCall_det htr hpin ?_
  cases hR : typesRightB p with
  | false =>
    have hC : renVarCode p fn a b = 1 := by unfold renVarCode; simp [hR]
    have hP : renVarP p fn a b = p := by unfold renVarP; rw [hC]; rfl
    simp (decide := true) only [hC, hP, Bool.true_or, if_true, if_false, Int.reduceBEq, Bool.false_eq_true, drop0, row1_length, rows_length, programW, programC, cI, cB, cS, roI, ro64, hpin, go_sem, Nat.reduceAdd, Nat.reduceMul]
    refine aCall_det hcp hpin ?_
    simp (decide := true) only [hC, hP, drop0, row1_length, rows_length, programW, programC, cI, cB, cS, roI, ro64, hpin, go_sem, Nat.reduceAdd, Nat.reduceMul]
  | true =>
  simp (decide := true) only [w1, drop0, row1_length, rows_length, programW, programC, cI, cB, cS, roI, ro64, hpin, go_sem, Nat.reduceAdd, Nat.reduceMul]
  refine aCall_det hin hpin ?_
  cases hI : inI fn 0 (p.fns.length - 1) with
  | false =>
    have hC : renVarCode p fn a b = 1 := by unfold renVarCode; simp [hR, hI]
    have hP : renVarP p fn a b = p := by unfold renVarP; rw [hC]; rfl
    simp (decide := true) only [hC, hP, Bool.true_or, if_true, if_false, Int.reduceBEq, Bool.false_eq_true, drop0, row1_length, rows_length, programW, programC, cI, cB, cS, roI, ro64, hpin, go_sem, Nat.reduceAdd, Nat.reduceMul]
    refine aCall_det hcp hpin ?_
    simp (decide := true) only [hC, hP, drop0, row1_length, rows_length, programW, programC, cI, cB, cS, roI, ro64, hpin, go_sem, Nat.reduceAdd, Nat.reduceMul]
  | true =>
  have hIr := inI_true hI
  obtain ⟨f, rfl⟩ : ∃ f : Nat, fn = f := ⟨fn.toNat, by omega⟩
  have hfl : f < p.fns.length := by omega
  have hrn := renamed_sound p a b f hfl hf hn hk hpl
  simp only [programW] at hrn
  simp (decide := true) only [drop0, row1_length, rows_length, programW, programC, cI, cB, cS, roI, ro64, hpin, go_sem, Nat.reduceAdd, Nat.reduceMul]
  refine Tri.step sized ?_
  simp (decide := true) only [drop0, row1_length, rows_length, programW, programC, cI, cB, cS, roI, ro64, hpin, go_sem, Nat.reduceAdd, Nat.reduceMul]
  refine aCall_det hvs hpin ?_
  simp (decide := true) only [drop0, row1_length, rows_length, programW, programC, cI, cB, cS, roI, ro64, hpin, go_sem, Nat.reduceAdd, Nat.reduceMul]
  refine Tri.ent ?_ (Ent.frz hfull 3027)
  refine Tri.step sized ?_
  simp (decide := true) only [htv, drop0, row1_length, rows_length, programW, programC, cI, cB, cS, roI, ro64, hpin, go_sem, Nat.reduceAdd, Nat.reduceMul]
  refine aCall_det hva hpin ?_
  by_cases h1 : varAtP (varsL p f) a < 0
  · have c1 : (varAtP (varsL p f) a < 0) = True := eq_true h1
    have hC : renVarCode p f a b = 2 := by unfold renVarCode; simp [hR, hI, h1]
    have hP : renVarP p f a b = p := by unfold renVarP; rw [hC]; rfl
    simp (decide := true) only [hC, hP, c1, Bool.true_or, Bool.false_or, if_true, if_false, Int.reduceBEq, Bool.false_eq_true, drop0, row1_length, rows_length, programW, programC, cI, cB, cS, roI, ro64, hpin, go_sem, Nat.reduceAdd, Nat.reduceMul]
    refine aCall_det hcp hpin ?_
    simp (decide := true) only [hC, hP, drop0, row1_length, rows_length, programW, programC, cI, cB, cS, roI, ro64, hpin, go_sem, Nat.reduceAdd, Nat.reduceMul]
  have c1 : (varAtP (varsL p f) a < 0) = False := eq_false h1
  simp (decide := true) only [c1, Bool.false_or, drop0, row1_length, rows_length, programW, programC, cI, cB, cS, roI, ro64, hpin, go_sem, Nat.reduceAdd, Nat.reduceMul]
  refine aCall_det hnm hpin ?_
  cases h2 : nameB b with
  | false =>
    have hC : renVarCode p f a b = 2 := by unfold renVarCode; simp [hR, hI, h1, h2]
    have hP : renVarP p f a b = p := by unfold renVarP; rw [hC]; rfl
    simp (decide := true) only [hC, hP, Bool.true_or, Bool.false_or, if_true, if_false, Int.reduceBEq, Bool.false_eq_true, drop0, row1_length, rows_length, programW, programC, cI, cB, cS, roI, ro64, hpin, go_sem, Nat.reduceAdd, Nat.reduceMul]
    refine aCall_det hcp hpin ?_
    simp (decide := true) only [hC, hP, drop0, row1_length, rows_length, programW, programC, cI, cB, cS, roI, ro64, hpin, go_sem, Nat.reduceAdd, Nat.reduceMul]
  | true =>
  simp (decide := true) only [htv, Bool.false_or, drop0, row1_length, rows_length, programW, programC, cI, cB, cS, roI, ro64, hpin, go_sem, Nat.reduceAdd, Nat.reduceMul]
  refine aCall_det hvb hpin ?_
  by_cases h3 : 0 ≤ varAtP (varsL p f) b
  · have c3 : (0 ≤ varAtP (varsL p f) b) = True := eq_true h3
    have hC : renVarCode p f a b = 2 := by unfold renVarCode; simp [hR, hI, h1, h2, h3]
    have hP : renVarP p f a b = p := by unfold renVarP; rw [hC]; rfl
    simp (decide := true) only [hC, hP, c3, ge_iff_le, Bool.true_or, Bool.false_or, if_true, if_false, Int.reduceBEq, Bool.false_eq_true, drop0, row1_length, rows_length, programW, programC, cI, cB, cS, roI, ro64, hpin, go_sem, Nat.reduceAdd, Nat.reduceMul]
    refine aCall_det hcp hpin ?_
    simp (decide := true) only [hC, hP, drop0, row1_length, rows_length, programW, programC, cI, cB, cS, roI, ro64, hpin, go_sem, Nat.reduceAdd, Nat.reduceMul]
  have c3 : (0 ≤ varAtP (varsL p f) b) = False := eq_false h3
  simp (decide := true) only [c3, ge_iff_le, Bool.true_or, Bool.false_or, if_true, if_false, Int.reduceBEq, Bool.false_eq_true, drop0, row1_length, rows_length, programW, programC, cI, cB, cS, roI, ro64, hpin, go_sem, Nat.reduceAdd, Nat.reduceMul]
  refine code_sound sized _ ?_
  simp (decide := true) only [drop0, row1_length, rows_length, programW, programC, cI, cB, cS, roI, ro64, hpin, go_sem, Nat.reduceAdd, Nat.reduceMul]
  have hC : renVarCode p f a b = 0 := by unfold renVarCode; simp [hR, hI, h1, h2, h3]
  have hP : renVarP p f a b = renVars a b f p := by unfold renVarP; rw [hC]; rfl
  refine aCall_det hrn hpin ?_
  simp (decide := true) only [hC, hP, drop0, row1_length, rows_length, programW, programC, cI, cB, cS, roI, ro64, hpin, go_sem, Nat.reduceAdd, Nat.reduceMul]
theorem renameVarS_sound (p : ProgramD) (fn : Int) (a b : ByteArray) (hf : p.fns.length ≤ 1048576) (hn : p.nodes.length ≤ 1048576) (hk : ∀ x ∈ p.nodes, x.kids.length ≤ 1048576) (hpl : ∀ f ∈ p.fns, f.params.length ≤ 1048576) :
    Sound Tryz.prog 22 [.ro (programW p), .ro (.sc (.int .i64 fn)), .ro (.sc (.string a)), .ro (.sc (.string b))] (fun rs st => rs = [(true, programC false (renVarP p fn a b)), (false, [cI (renVarCode p fn a b)])]) := by
  have htr := typesRightS_sound p hf hn hk hpl
  have hcp := l04Copy_sound p hf hn hk hpl
  have hvs := varsS_sound p fn hf hn hk hpl
  have hvl := varsL_length p fn hpl hn
  have hva := varAtS_sound (varsL p fn) a (by omega)
  have hvb := varAtS_sound (varsL p fn) b (by omega)
  have hnm := nameS_sound b
  have hal := all_sound p fn hf hn hk
  have w1 : IntKind.i64.wrap ((p.fns.length : Int) - 1) = (p.fns.length : Int) - 1 := w64 (by omega) (by omega)
  have hin := l01In' fn 0 (p.fns.length - 1)
  have htv : List.take (varsL p fn).length (rows (varC false) (varsL p fn)) = rows (varC false) (varsL p fn) := rows_takeL (varC false) (varsL p fn)
  simp only [programW] at htr hcp hvs hal
  refine sound_tri (fn := Tryz.f22) (c := Tryz.f22.body.getD .skip) (res := [.ce 8 33, .tm 9]) (n := 124) sized (by kernel_rfl) (by rfl) (by kernel_rfl) (by rfl) (by rfl) (by simp [argsV]) (fun uf ub C hpin hpin2 hfull => ?_)
  simp only [Tryz.f22, Option.getD_some]
  refine Tri.step sized ?_
  simp (decide := true) only [drop0, row1_length, rows_length, programW, programC, cI, cB, cS, roI, ro64, hpin, go_sem, Nat.reduceAdd, Nat.reduceMul]
  refine Tri.ent ?_ (Ent.frb hfull 4)
  refine Tri.step sized ?_
  simp (decide := true) only [drop0, row1_length, rows_length, programW, programC, cI, cB, cS, roI, ro64, hpin, go_sem, Nat.reduceAdd, Nat.reduceMul]
  refine aCall_det hcp hpin ?_
  simp (decide := true) only [drop0, row1_length, rows_length, programW, programC, cI, cB, cS, roI, ro64, hpin, go_sem, Nat.reduceAdd, Nat.reduceMul]
  refine Tri.step sized ?_
  simp (decide := true) only [drop0, row1_length, rows_length, programW, programC, cI, cB, cS, roI, ro64, hpin, go_sem, Nat.reduceAdd, Nat.reduceMul]
  refine aCall_det htr hpin ?_
  cases hR : typesRightB p with
  | false =>
    have hC : renVarCode p fn a b = 1 := by unfold renVarCode; simp [hR]
    have hP : renVarP p fn a b = p := by unfold renVarP; rw [hC]; rfl
    simp (decide := true) only [hC, hP, Bool.true_or, if_true, if_false, Int.reduceBEq, Bool.false_eq_true, drop0, row1_length, rows_length, programW, programC, cI, cB, cS, roI, ro64, hpin, go_sem, Nat.reduceAdd, Nat.reduceMul]
  | true =>
  simp (decide := true) only [w1, drop0, row1_length, rows_length, programW, programC, cI, cB, cS, roI, ro64, hpin, go_sem, Nat.reduceAdd, Nat.reduceMul]
  refine aCall_det hin hpin ?_
  cases hI : inI fn 0 (p.fns.length - 1) with
  | false =>
    have hC : renVarCode p fn a b = 1 := by unfold renVarCode; simp [hR, hI]
    have hP : renVarP p fn a b = p := by unfold renVarP; rw [hC]; rfl
    simp (decide := true) only [hC, hP, Bool.true_or, if_true, if_false, Int.reduceBEq, Bool.false_eq_true, drop0, row1_length, rows_length, programW, programC, cI, cB, cS, roI, ro64, hpin, go_sem, Nat.reduceAdd, Nat.reduceMul]
  | true =>
  have hIr := inI_true hI
  obtain ⟨f, rfl⟩ : ∃ f : Nat, fn = f := ⟨fn.toNat, by omega⟩
  have hfl : f < p.fns.length := by omega
  simp (decide := true) only [drop0, row1_length, rows_length, programW, programC, cI, cB, cS, roI, ro64, hpin, go_sem, Nat.reduceAdd, Nat.reduceMul]
  refine Tri.step sized ?_
  simp (decide := true) only [drop0, row1_length, rows_length, programW, programC, cI, cB, cS, roI, ro64, hpin, go_sem, Nat.reduceAdd, Nat.reduceMul]
  refine aCall_det hvs hpin ?_
  simp (decide := true) only [drop0, row1_length, rows_length, programW, programC, cI, cB, cS, roI, ro64, hpin, go_sem, Nat.reduceAdd, Nat.reduceMul]
  refine Tri.step sized ?_
  simp (decide := true) only [htv, drop0, row1_length, rows_length, programW, programC, cI, cB, cS, roI, ro64, hpin, go_sem, Nat.reduceAdd, Nat.reduceMul]
  refine aCall_det hva hpin ?_
  by_cases h1 : varAtP (varsL p f) a < 0
  · have c1 : (varAtP (varsL p f) a < 0) = True := eq_true h1
    have hC : renVarCode p f a b = 2 := by unfold renVarCode; simp [hR, hI, h1]
    have hP : renVarP p f a b = p := by unfold renVarP; rw [hC]; rfl
    simp (decide := true) only [hC, hP, c1, Bool.true_or, Bool.false_or, if_true, if_false, Int.reduceBEq, Bool.false_eq_true, drop0, row1_length, rows_length, programW, programC, cI, cB, cS, roI, ro64, hpin, go_sem, Nat.reduceAdd, Nat.reduceMul]
  have c1 : (varAtP (varsL p f) a < 0) = False := eq_false h1
  simp (decide := true) only [c1, Bool.false_or, drop0, row1_length, rows_length, programW, programC, cI, cB, cS, roI, ro64, hpin, go_sem, Nat.reduceAdd, Nat.reduceMul]
  refine aCall_det hnm hpin ?_
  cases h2 : nameB b with
  | false =>
    have hC : renVarCode p f a b = 2 := by unfold renVarCode; simp [hR, hI, h1, h2]
    have hP : renVarP p f a b = p := by unfold renVarP; rw [hC]; rfl
    simp (decide := true) only [hC, hP, Bool.true_or, Bool.false_or, if_true, if_false, Int.reduceBEq, Bool.false_eq_true, drop0, row1_length, rows_length, programW, programC, cI, cB, cS, roI, ro64, hpin, go_sem, Nat.reduceAdd, Nat.reduceMul]
  | true =>
  simp (decide := true) only [htv, Bool.false_or, drop0, row1_length, rows_length, programW, programC, cI, cB, cS, roI, ro64, hpin, go_sem, Nat.reduceAdd, Nat.reduceMul]
  refine aCall_det hvb hpin ?_
  by_cases h3 : 0 ≤ varAtP (varsL p f) b
  · have c3 : (0 ≤ varAtP (varsL p f) b) = True := eq_true h3
    have hC : renVarCode p f a b = 2 := by unfold renVarCode; simp [hR, hI, h1, h2, h3]
    have hP : renVarP p f a b = p := by unfold renVarP; rw [hC]; rfl
    simp (decide := true) only [hC, hP, c3, ge_iff_le, Bool.true_or, Bool.false_or, if_true, if_false, Int.reduceBEq, Bool.false_eq_true, drop0, row1_length, rows_length, programW, programC, cI, cB, cS, roI, ro64, hpin, go_sem, Nat.reduceAdd, Nat.reduceMul]
  have c3 : (0 ≤ varAtP (varsL p f) b) = False := eq_false h3
  simp (decide := true) only [c3, ge_iff_le, Bool.true_or, Bool.false_or, if_true, if_false, Int.reduceBEq, Bool.false_eq_true, drop0, row1_length, rows_length, programW, programC, cI, cB, cS, roI, ro64, hpin, go_sem, Nat.reduceAdd, Nat.reduceMul]
  have hG : Right p := by
    have h4 := hR
    unfold typesRightB at h4
    have h5 := (Bool.and_eq_true_iff.1 h4).1
    unfold namesRightB at h5
    exact programB_true (Bool.and_eq_true_iff.1 h5).1
  have ha : nameB a = true := by
    obtain ⟨v, hv, e⟩ := findV_mem (s := a) (varsL p f) 0 (by have := h1; unfold varAtP at this; omega)
    rw [← e]
    exact vars_names hG f hfl v hv
  have hsame := ren_same hG ha h2 (fnNs p f)
  have hC : renVarCode p f a b = 0 := by unfold renVarCode; simp [hR, hI, h1, h2, h3]
  have hP : renVarP p f a b = renVars a b f p := by unfold renVarP; rw [hC]; rfl
  refine Tri.step sized ?_
  simp (decide := true) only [drop0, row1_length, rows_length, programW, programC, cI, cB, cS, roI, ro64, hpin, go_sem, Nat.reduceAdd, Nat.reduceMul]
  refine aCall_det hal hpin ?_
  simp (decide := true) only [drop0, row1_length, rows_length, programW, programC, cI, cB, cS, roI, ro64, hpin, go_sem, Nat.reduceAdd, Nat.reduceMul]
  unfold renVars at hP
  rw [hsame] at hP
  have hll := fnNs_length p f
  have hnode := fun i (h : i < (fnNs p f).length) => fnNs_node p f h
  generalize fnNs p f = L at hll hnode hal hP ⊢
  refine Tri.ent ?_ (Ent.frz hfull 12)
  refine Tri.stop sized ⟨124, [(1, vI f), (2, vS a), (3, vS b), (8, .bp 8 0), (10, .bp 10 0)], [(8, .box [.sc (.slice none 0 0), .sc (.slice none 0 0)]), (10, .box [.row false 60 (rows (nodeC false) (atAll (renNodeS a b) L p.nodes)), .row false 80 (rows (fnC false) p.fns)])]⟩ ?_ ?_
  · have hsh : shLL (row1 cI L) = row1 cI L := ints_sh L
    simp (decide := true) only [hsh, drop0, row1_length, rows_length, programW, programC, cI, cB, cS, roI, ro64, hpin, go_sem, Nat.reduceAdd, Nat.reduceMul]
    refine Tri.loop (ι := Nat) (fun i => i ≤ L.length) (fun i => ⟨124, [(1, vI f), (2, vS a), (3, vS b), (8, .bp 8 0), (10, .bp 10 0), (12, roI L), (13, vI i)], [(8, .box [.sc (.slice none 0 0), .sc (.slice none 0 0)]), (10, .box [.row false 60 (rows (nodeC false) (atAll (renNodeS a b) (L.take i) p.nodes)), .row false 80 (rows (fnC false) p.fns)])]⟩) (fun i => L.length - i) 0 (by simp) ?_ ?_
    · refine Ent.weak ?_ ?_ ?_ ?_ <;> simp (decide := true) [subT, subB, hereT, hereV, hereL, St.get, look, vI, vB, vS, cI, cS, cB, nodeC, programC, roI, atAll]
    · rintro i hi
      refine code_sound sized _ ?_
      have hml := atAll_length (renNodeS a b) (L.take i) p.nodes
      by_cases h' : i < L.length
      · have e : ((i : Int) < (L.length : Int)) = True := by simp [h']
        obtain ⟨g0, g1⟩ := hnode i h'
        have z0 : (0 ≤ L[i]) = True := eq_true g0
        have z1 : (L[i] < (p.nodes.length : Int)) = True := eq_true (by omega)
        have hnx := atAll_next (renNodeS a b) L h' p.nodes
        obtain ⟨N2, hN2⟩ : ∃ N, N = atAll (renNodeS a b) (L.take (i + 1)) p.nodes := ⟨_, rfl⟩
        rw [← hN2] at hnx
        generalize atAll (renNodeS a b) (L.take i) p.nodes = N at hml hnx ⊢
        have g2 : L[i].toNat < N.length := by omega
        rw [atN_nat _ g0 g2] at hnx
        have hsn := node_setn g2 b
        have hq := rows_getq (nodeC false) N g2
        have hc2 := rows_cell (nodeC false) N 2 g2
        have hc0 := rows_cell (nodeC false) N 0 g2
        have hself : N.set L[i].toNat N[L[i].toNat] = N := set_same N g2 rfl
        generalize N[L[i].toNat] = x at hnx hsn hq hc2 hc0 hself
        unfold renNodeS at hnx
        simp only [nodeC, cI, cS] at hq hc2 hc0
        simp (decide := true) only [e, vI, vB, vS, drop0, row1_length, rows_length, programW, programC, cI, cB, cS, roI, ro64, hpin, go_sem, Nat.reduceAdd, Nat.reduceMul]
        cases h12 : x.kind == 12 with
        | true =>
          rw [h12, Bool.not_true, Bool.false_and, if_neg (by decide), hself] at hnx
          refine Tri.fork sized (.one 0 true (.one 2 true (.one 3 true (.one 4 true (.one 5 true (.one 1 false (.one 6 false (.one 7 false (.one 8 false (.one 9 false (.one 10 false (.one 11 true (.one 13 true (.one 14 true (.one 15 true (.one 20 true (.one 16 true (.one 12 false (.one 17 false (.one 18 false (.one 19 false (.one 21 false (.one 22 false .done))))))))))))))))))))))) mixed (by kernel_rfl) (fun C2 hC2 => ?_)
          have hp2 : ∀ o, isPin o = false → C2.pin o = none := by rw [hC2]; exact hpin
          simp (decide := true) only [e, z0, z1, g1, h', hml, row1_get _ _ h', hq, hc2, hc0, h12, bne, Int.natCast_nonneg, vB, vI, vS, drop0, row1_length, rows_length, programW, programC, cI, cB, cS, roI, ro64, hp2, hpin, go_sem, Nat.reduceAdd, Nat.reduceMul]
          refine ⟨i + 1, h', by omega, Ent.weak ?_ ?_ ?_ ?_⟩
          all_goals simp (decide := true) [subT, subB, hereT, hereV, hereL, St.get, look, vI, vB, vS, cI, cS, cB, nodeC, programC, roI, ← hN2, hnx, w64s (n := L.length) h' (by omega)]
        | false =>
          by_cases hxa : x.name = a
          · have d4 : decide (x.name = a) = true := decide_eq_true hxa
            rw [h12, d4, Bool.not_false, Bool.true_and, if_pos rfl] at hnx
            rw [← hnx] at hsn
            have hsn3 : (rows (nodeC false) N).set L[i].toNat (((rows (nodeC false) N)[L[i].toNat]?.getD []).set 2 (D.sc (.string b))) = rows (nodeC false) N2 := by rw [← hsn]; unfold setCellAt; simp [List.getD]
            refine Tri.fork sized (.one 0 true (.one 2 true (.one 3 true (.one 4 true (.one 5 true (.one 1 false (.one 6 false (.one 7 false (.one 8 false (.one 9 false (.one 10 false (.one 11 true (.one 13 true (.one 14 true (.one 15 true (.one 20 true (.one 16 true (.one 12 false (.one 17 false (.one 18 false (.one 19 false (.one 21 false (.one 22 false .done))))))))))))))))))))))) mixed (by kernel_rfl) (fun C2 hC2 => ?_)
            have hp2 : ∀ o, isPin o = false → C2.pin o = none := by rw [hC2]; exact hpin
            simp (decide := true) only [e, z0, z1, g1, h', hml, row1_get _ _ h', hq, hc2, hc0, h12, d4, bne, Int.natCast_nonneg, vB, vI, vS, drop0, row1_length, rows_length, programW, programC, cI, cB, cS, roI, ro64, hp2, hpin, go_sem, Nat.reduceAdd, Nat.reduceMul]
            refine Tri.fork sized (.one 0 true (.one 2 true (.one 3 true (.one 4 true (.one 6 true (.one 5 true (.one 1 false (.one 7 false (.one 8 false (.one 9 false .done)))))))))) mixed (by kernel_rfl) (fun C3 hC3 => ?_)
            have hp3 : ∀ o, isPin o = false → C3.pin o = none := by rw [hC3]; exact hpin
            simp (decide := true) only [e, z0, z1, g1, h', hml, row1_get _ _ h', hq, hc2, hc0, hsn, Int.natCast_nonneg, vB, vI, vS, drop0, row1_length, rows_length, programW, programC, cI, cB, cS, roI, ro64, hp3, hpin, go_sem, Nat.reduceAdd, Nat.reduceMul]
            refine ⟨i + 1, h', by omega, Ent.weak ?_ ?_ ?_ ?_⟩
            all_goals simp (decide := true) [subT, subB, hereT, hereV, hereL, St.get, look, vI, vB, vS, cI, cS, cB, nodeC, programC, roI, ← hN2, hsn3, w64s (n := L.length) h' (by omega)]
          · have d4 : decide (x.name = a) = false := decide_eq_false hxa
            rw [h12, d4, Bool.and_false, if_neg (by decide), hself] at hnx
            refine Tri.fork sized (.one 0 true (.one 2 true (.one 3 true (.one 4 true (.one 5 true (.one 1 false (.one 6 false (.one 7 false (.one 8 false (.one 9 false (.one 10 false (.one 11 true (.one 13 true (.one 14 true (.one 15 true (.one 20 true (.one 16 true (.one 12 false (.one 17 false (.one 18 false (.one 19 false (.one 21 false (.one 22 false .done))))))))))))))))))))))) mixed (by kernel_rfl) (fun C2 hC2 => ?_)
            have hp2 : ∀ o, isPin o = false → C2.pin o = none := by rw [hC2]; exact hpin
            simp (decide := true) only [e, z0, z1, g1, h', hml, row1_get _ _ h', hq, hc2, hc0, h12, d4, bne, Int.natCast_nonneg, vB, vI, vS, drop0, row1_length, rows_length, programW, programC, cI, cB, cS, roI, ro64, hp2, hpin, go_sem, Nat.reduceAdd, Nat.reduceMul]
            refine ⟨i + 1, h', by omega, Ent.weak ?_ ?_ ?_ ?_⟩
            all_goals simp (decide := true) [subT, subB, hereT, hereV, hereL, St.get, look, vI, vB, vS, cI, cS, cB, nodeC, programC, roI, ← hN2, hnx, w64s (n := L.length) h' (by omega)]
      · have hil : i = L.length := by omega
        subst hil
        have e : ((L.length : Int) < (L.length : Int)) = False := by simp
        simp (decide := true) only [e, vB, vI, drop0, row1_length, rows_length, programW, programC, cI, cB, cS, roI, ro64, hpin, go_sem, Nat.reduceAdd, Nat.reduceMul]
        refine Ent.weak ?_ ?_ ?_ ?_
        all_goals simp (decide := true) [subT, subB, hereT, hereV, hereL, St.get, look, vI, vB, vS, cI, cS, cB, nodeC, programC, roI]
  generalize atAll (renNodeS a b) L p.nodes = N at hP ⊢
  have hfe : fAt p.fns f = p.fns[f] := fAt_nat hfl
  rw [hfe, Int.toNat_natCast] at hP
  have c2 : ((f : Int) < (p.fns.length : Int)) = True := eq_true (by omega)
  have hplx := hpl p.fns[f] (List.getElem_mem hfl)
  have hown2 := set_same p.fns hfl (x := ⟨p.fns[f].name, p.fns[f].params, p.fns[f].res, p.fns[f].body, p.fns[f].ret⟩) rfl
  refine Tri.stop sized ⟨124, [(8, .bp 8 0), (10, .bp 10 0)], [(8, .box [.sc (.slice none 0 0), .sc (.slice none 0 0)]), (10, .box [.row false 60 (rows (nodeC false) N), .row false 80 (rows (fnC false) (p.fns.set f (parOf a b p.fns[f])))])]⟩ ?_ ?_
  · simp (decide := true) only [drop0, row1_length, rows_length, programW, programC, cI, cB, cS, roI, ro64, hpin, go_sem, Nat.reduceAdd, Nat.reduceMul]
    refine Tri.loop (ι := Nat) (fun i => i ≤ p.fns[f].params.length) (fun i => ⟨124, [(1, vI f), (2, vS a), (3, vS b), (8, .bp 8 0), (10, .bp 10 0), (14, vI i)], [(8, .box [.sc (.slice none 0 0), .sc (.slice none 0 0)]), (10, .box [.row false 60 (rows (nodeC false) N), .row false 80 (rows (fnC false) (p.fns.set f ⟨p.fns[f].name, mixL (renPar a b) p.fns[f].params i, p.fns[f].res, p.fns[f].body, p.fns[f].ret⟩))])]⟩) (fun i => p.fns[f].params.length - i) 0 (by simp) ?_ ?_
    · refine Ent.weak ?_ ?_ ?_ ?_ <;> simp (decide := true) [subT, subB, hereT, hereV, hereL, St.get, look, vI, vB, vS, cI, cS, cB, nodeC, programC, roI, mixL_zero, hown2]
    · rintro i hi
      refine code_sound sized _ ?_
      have hml := mixL_length (renPar a b) p.fns[f].params i
      have hlen : (p.fns.set f ⟨p.fns[f].name, mixL (renPar a b) p.fns[f].params i, p.fns[f].res, p.fns[f].body, p.fns[f].ret⟩).length = p.fns.length := by simp
      have h3 : f < (p.fns.set f ⟨p.fns[f].name, mixL (renPar a b) p.fns[f].params i, p.fns[f].res, p.fns[f].body, p.fns[f].ret⟩).length := by simpa using hfl
      have hG2 := rows_getq (fnC false) _ h3
      have hGc := rows_cell (fnC false) _ 1 h3
      have hGs := fn_setp h3 (mixL (renPar a b) p.fns[f].params (i + 1))
      rw [List.getElem_set_self] at hG2 hGc hGs
      rw [List.set_set] at hGs
      by_cases h' : i < p.fns[f].params.length
      · have e : ((i : Int) < (p.fns[f].params.length : Int)) = True := by simp [h']
        have h2 : i < (mixL (renPar a b) p.fns[f].params i).length := by omega
        have hg := mixL_get (renPar a b) p.fns[f].params h' h2
        have hst := mixL_set (renPar a b) p.fns[f].params h'
        have hsk := mixL_skip (renPar a b) p.fns[f].params h'
        have hsn := par_setn h2 b
        have hq := rows_getq (paramC false) _ h2
        have hc0 := rows_cell (paramC false) (mixL (renPar a b) p.fns[f].params i) 0 h2
        rw [hg] at hsn hq hc0
        obtain ⟨L2, hL2⟩ : ∃ L, L = mixL (renPar a b) p.fns[f].params (i + 1) := ⟨_, rfl⟩
        rw [← hL2] at hst hsk hGs
        generalize mixL (renPar a b) p.fns[f].params i = M at hml h2 hst hsk hsn hq hc0 hlen h3 hG2 hGc hGs ⊢
        generalize p.fns[f].params[i] = x at hst hsk hsn hq hc0
        unfold renPar at hst hsk
        simp only [paramC, cI, cS] at hq hc0
        obtain ⟨f1, hf1⟩ : ∃ f1, f1 = p.fns[f] := ⟨_, rfl⟩
        have e2 := e
        have h9 : i < f1.params.length := by rw [hf1]; exact h'
        have hL3 : mixL (renPar a b) f1.params (i + 1) = L2 := by rw [hL2, hf1]
        rw [← hf1] at e hlen h3 hG2 hGc hGs hml ⊢
        generalize hGG : p.fns.set f ⟨f1.name, M, f1.res, f1.body, f1.ret⟩ = G at hG2 hGc hGs hlen ⊢
        simp only [fnC, cI, cS] at hG2 hGc
        have hGs2 : setCellAt (rows (fnC false) G) f 1 (D.row false 86 (rows (paramC false) L2)) = rows (fnC false) (p.fns.set f ⟨f1.name, L2, f1.res, f1.body, f1.ret⟩) := hGs
        by_cases hxa : x.name = a
        · have d4 : decide (x.name = a) = true := decide_eq_true hxa
          unfold renS at hst
          rw [if_pos hxa] at hst
          rw [hst] at hsn
          have hsn3 : (rows (paramC false) M).set i (((rows (paramC false) M)[i]?.getD []).set 0 (D.sc (.string b))) = rows (paramC false) L2 := by rw [← hsn]; unfold setCellAt; simp [List.getD]
          have hGs3 : (rows (fnC false) G).set f (((rows (fnC false) G)[f]?.getD []).set 1 (D.row false 86 (rows (paramC false) L2))) = rows (fnC false) (p.fns.set f ⟨f1.name, L2, f1.res, f1.body, f1.ret⟩) := by rw [← hGs2]; unfold setCellAt; simp [List.getD]
          simp (decide := true) only [e, e2, h', h9, hml, hG2, hGc, hlen, c2, hfl, hq, hc0, d4, hsn, hGs2, Int.natCast_nonneg, vB, vI, vS, drop0, row1_length, rows_length, programW, programC, cI, cB, cS, roI, ro64, hpin, go_sem, Nat.reduceAdd, Nat.reduceMul]
          refine ⟨i + 1, h9, by omega, Ent.weak ?_ ?_ ?_ ?_⟩
          all_goals simp (decide := true) [subT, subB, hereT, hereV, hereL, St.get, look, vI, vB, vS, cI, cS, cB, nodeC, programC, roI, hL3, ← hL2, hsn3, hGs3, hsn, hGs2, w64s (n := f1.params.length) (by rw [hf1]; exact h') (by rw [hf1]; omega)]
        · have d4 : decide (x.name = a) = false := decide_eq_false hxa
          have hsk2 := hsk (by simp [renS, hxa])
          have hGG2 : G = p.fns.set f ⟨f1.name, L2, f1.res, f1.body, f1.ret⟩ := by rw [← hGG, hsk2]
          simp (decide := true) only [e, e2, h', h9, hml, hG2, hGc, hlen, c2, hfl, hq, hc0, d4, Int.natCast_nonneg, vB, vI, vS, drop0, row1_length, rows_length, programW, programC, cI, cB, cS, roI, ro64, hpin, go_sem, Nat.reduceAdd, Nat.reduceMul]
          refine ⟨i + 1, h9, by omega, Ent.weak ?_ ?_ ?_ ?_⟩
          all_goals simp (decide := true) [subT, subB, hereT, hereV, hereL, St.get, look, vI, vB, vS, cI, cS, cB, nodeC, programC, roI, hL3, ← hL2, hGG2, w64s (n := f1.params.length) (by rw [hf1]; exact h') (by rw [hf1]; omega)]
      · have hil : i = p.fns[f].params.length := by omega
        subst hil
        have e : ((p.fns[f].params.length : Int) < (p.fns[f].params.length : Int)) = False := by simp
        simp only [fnC, cI, cS] at hG2 hGc
        simp (decide := true) only [e, hml, hG2, hGc, hlen, c2, hfl, Int.natCast_nonneg, vB, vI, drop0, row1_length, rows_length, programW, programC, cI, cB, cS, roI, ro64, hpin, go_sem, Nat.reduceAdd, Nat.reduceMul]
        refine Ent.weak ?_ ?_ ?_ ?_
        all_goals simp (decide := true) [subT, subB, hereT, hereV, hereL, St.get, look, vI, vB, vS, cI, cS, cB, nodeC, programC, roI, mixL_end, parOf]
  refine code_sound sized _ ?_
  simp (decide := true) only [hC, hP, drop0, row1_length, rows_length, programW, programC, cI, cB, cS, roI, ro64, hpin, go_sem, Nat.reduceAdd, Nat.reduceMul]
theorem renVar_cost (p : ProgramD) (fn : Int) (a b : ByteArray) (h : programCost p ≤ 1048576) : programCost (renVarP p fn a b) ≤ 1048576 := by
  unfold renVarP
  split
  · rename_i hc
    have hc := eq_of_beq hc
    unfold renVarCode at hc
    split at hc
    · rename_i hRI
      obtain ⟨hR, hI⟩ := Bool.and_eq_true_iff.1 hRI
      split at hc
      · cases hc
      · rename_i hb
        have hb : nameB b = true := by
          cases hb2 : nameB b with
          | true => rfl
          | false => rw [hb2] at hb; simp at hb
        have hb8 : b.size ≤ 8 := by
          unfold nameB at hb
          have := inI_true (Bool.and_eq_true_iff.1 hb).1
          omega
        have hG : Right p := by
          unfold typesRightB at hR
          have h1 := (Bool.and_eq_true_iff.1 hR).1
          unfold namesRightB at h1
          exact programB_true (Bool.and_eq_true_iff.1 h1).1
        have hs : ∀ s : ByteArray, s.size ≤ 8 → (renS a b s).size ≤ 8 := fun s hs => by unfold renS; split <;> assumption
        have hst : ∀ l : List Int, ∀ N : List NodeD, (∀ x ∈ N, x.name.size ≤ 8 ∧ x.kids.length ≤ 12) → ∀ x ∈ atAll (renNode a b) l N, x.name.size ≤ 8 ∧ x.kids.length ≤ 12 := by
          intro l
          induction l with
          | nil => intro N hN; exact hN
          | cons k r ih =>
            intro N hN
            unfold atAll
            rw [List.foldl_cons]
            refine ih _ (fun x hx => ?_)
            unfold atN at hx
            rcases List.mem_or_eq_of_mem_set hx with hx | rfl
            · exact hN x hx
            · have hy : (nAt N k).name.size ≤ 8 ∧ (nAt N k).kids.length ≤ 12 := by
                unfold nAt
                rw [List.getD_eq_getElem?_getD]
                cases hq : N[k.toNat]? with
                | none => exact ⟨by decide, by decide⟩
                | some y => exact hN y (List.mem_of_getElem? hq)
              unfold renNode
              split
              · exact ⟨hs _ hy.1, hy.2⟩
              · exact hy
        refine Nat.le_trans (cost_of (by simpa [renVars, atAll_length] using hG.few) (by simpa [renVars] using hG.fns) (hst _ _ (fun x hx => ⟨node_name hG.deep x hx, hG.deep.few x hx⟩)) (fun f hf => ?_)) (by decide)
        have hsm : ∀ g ∈ p.fns, g.name.size ≤ 8 ∧ g.params.length ≤ 3 ∧ ∀ x ∈ g.params, x.name.size ≤ 8 := fun g hg => by
          obtain ⟨i, hi, rfl⟩ := List.getElem_of_mem hg
          exact fn_small (hG.fn i hi)
        have hIr := inI_true hI
        have hfl : fn.toNat < p.fns.length := by omega
        unfold renVars at hf
        rcases List.mem_or_eq_of_mem_set hf with hf | rfl
        · exact hsm f hf
        · have hfe : fAt p.fns fn = p.fns[fn.toNat] := by have := fAt_nat hfl; rwa [show ((fn.toNat : Nat) : Int) = fn by omega] at this
          obtain ⟨g1, g2, g3⟩ := hsm _ (List.getElem_mem hfl)
          rw [hfe]
          refine ⟨g1, by simpa [parOf] using g2, fun x hx => ?_⟩
          simp only [parOf, List.mem_map] at hx
          obtain ⟨y, hy, rfl⟩ := hx
          exact hs _ (g3 y hy)
    · cases hc
  · exact h
end Go.Proofs.YtnbodmohnkohfaaGreatDoor.AW
