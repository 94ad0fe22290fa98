/- The variables of a function, both sides. No condition beyond those named. -/
import Derived.Test.YtnbodmohnkohfaaGreatDoorPu
namespace Go.Proofs.YtnbodmohnkohfaaGreatDoor.AW
open Go.RowKit
set_option maxHeartbeats 8000000
set_option maxRecDepth 100000
set_option linter.unusedSimpArgs false
set_option linter.unusedVariables false

def parVar (x : ParamD) : VarD := ⟨x.name, x.ty, -1⟩
def letV (nodes : List NodeD) (k : Int) : List VarD := if (nAt nodes k).kind == 13 then [⟨(nAt nodes k).name, 0, k⟩] else []
def parVars (l : List ParamD) : List VarD := l.map parVar
def letVars (nodes : List NodeD) (l : List Int) : List VarD := l.flatMap (letV nodes)
noncomputable def varsL (p : ProgramD) (fn : Int) : List VarD := if inI fn 0 (p.fns.length - 1) then parVars (fAt p.fns fn).params ++ letVars p.nodes (underP p.nodes (fAt p.fns fn).body) else []
theorem lets_length (nodes : List NodeD) : ∀ l : List Int, (letVars nodes l).length ≤ l.length
  | [] => by simp [letVars]
  | k :: r => by
    have h1 := lets_length nodes r
    have h2 : (letV nodes k).length ≤ 1 := by unfold letV; split <;> simp
    unfold letVars at h1 ⊢
    rw [List.flatMap_cons, List.length_append, List.length_cons]; omega
theorem lets_next (nodes : List NodeD) {l : List Int} {i : Nat} (h : i < l.length) : letVars nodes (l.take (i + 1)) = letVars nodes (l.take i) ++ letV nodes l[i] := by
  unfold letVars
  rw [List.take_succ_eq_append_getElem h, List.flatMap_append]; simp
def accV (nodes : List NodeD) (M : List VarD) (l : List Int) : List VarD := M ++ letVars nodes l
theorem accV_next (nodes : List NodeD) (M : List VarD) {l : List Int} {i : Nat} (h : i < l.length) : accV nodes M (l.take (i + 1)) = accV nodes M (l.take i) ++ letV nodes l[i] := by
  unfold accV; rw [lets_next nodes h, List.append_assoc]
theorem accV_length (nodes : List NodeD) (M : List VarD) (l : List Int) : (accV nodes M l).length ≤ M.length + l.length := by
  have := lets_length nodes l
  unfold accV; rw [List.length_append]; omega
theorem params_next {l : List ParamD} {i : Nat} (h : i < l.length) : parVars (l.take (i + 1)) = parVars (l.take i) ++ [parVar l[i]] := by
  unfold parVars
  rw [List.take_succ_eq_append_getElem h, List.map_append]; rfl
theorem pars_length (l : List ParamD) : (parVars l).length = l.length := by simp [parVars]
theorem varC_one (l : List VarD) (x : VarD) : rows (varC false) l ++ [[cS x.name, cI x.ty, cI x.node]] = rows (varC false) (l ++ [x]) := rows_snoc _ l x

theorem varsI_sound (p : ProgramD) (fn : Int) (hf : p.fns.length ≤ 1048576) (hn : p.nodes.length ≤ 1048576) (hk : ∀ x ∈ p.nodes, x.kids.length ≤ 1048576) (hpl : ∀ f ∈ p.fns, f.params.length ≤ 1048576) : Sound Tryz.prog 62 [.ro (programW p), .ro (.sc (.int .i64 fn))] (fun rs st => rs = [(false, [.row false 107 (rows (varC false) (varsL p fn))])]) := by
  refine sound_tri (fn := Tryz.f62) (c := Tryz.f62.body.getD .skip) (res := [.tm 4]) (n := 68) sized (by kernel_rfl) (by rfl) (by kernel_rfl) (by rfl) (by rfl) (by simp [argsV]) (fun uf ub C hpin hpin2 hfull => ?_)
  simp only [Tryz.f62, Option.getD_some]
  have w1 : IntKind.i64.wrap ((p.fns.length : Int) - 1) = (p.fns.length : Int) - 1 := w64 (by omega) (by omega)
  have e0 : rows (varC false) ([] : List VarD) = [] := rfl
  refine Tri.step sized ?_
  simp (decide := true) only [drop0, row1_length, rows_length, programW, programC, cI, cB, cS, roI, ro64, hpin, go_sem, Nat.reduceAdd, Nat.reduceMul]
  refine Tri.ent ?_ (Ent.frb hfull 2)
  refine Tri.step sized ?_
  simp (decide := true) only [w1, drop0, row1_length, rows_length, programW, programC, cI, cB, cS, roI, ro64, hpin, go_sem, Nat.reduceAdd, Nat.reduceMul]
  refine aCall_det (in' fn 0 (p.fns.length - 1)) hpin ?_
  unfold varsL
  cases h0 : inI fn 0 (p.fns.length - 1) with
  | false => simp (decide := true) only [e0, drop0, row1_length, rows_length, programW, programC, cI, cB, cS, roI, ro64, hpin, go_sem, Nat.reduceAdd, Nat.reduceMul]
  | true =>
  have hr := inI_true h0
  obtain ⟨f, rfl⟩ : ∃ f : Nat, fn = f := ⟨fn.toNat, by omega⟩
  have hfl : f < p.fns.length := by omega
  have c1 : ((f : Int) < (p.fns.length : Int)) = True := eq_true (by omega)
  have hx : (rows (fnC true) p.fns).getD f [] = fnC true p.fns[f] := rows_get _ _ hfl
  have hplx := hpl p.fns[f] (List.getElem_mem hfl)
  rw [fAt_nat hfl]
  generalize p.fns[f] = g at hx hplx
  simp (decide := true) only [drop0, row1_length, rows_length, programW, programC, cI, cB, cS, roI, ro64, hpin, go_sem, Nat.reduceAdd, Nat.reduceMul]
  refine Tri.step sized ?_
  simp (decide := true) only [drop0, row1_length, rows_length, programW, programC, cI, cB, cS, roI, ro64, hpin, go_sem, Nat.reduceAdd, Nat.reduceMul]
  refine Tri.step sized ?_
  simp (decide := true) only [c1, hx, fnC, Int.natCast_nonneg, drop0, row1_length, rows_length, programW, programC, cI, cB, cS, roI, ro64, hpin, go_sem, Nat.reduceAdd, Nat.reduceMul]
  refine Tri.loop (ι := Nat) (fun i => i ≤ g.params.length) (fun i => ⟨68, [(1, vI f), (2, .ip (programC true p) 0), (5, .ref 5 [] (parVars (g.params.take i)).length), (23, .imm 86 (rows (paramC true) g.params)), (24, vI g.params.length), (25, vI i)], [(5, .row 107 (rows (varC false) (parVars (g.params.take i))))]⟩) (fun i => g.params.length - i) 0 (by simp) ?_ ?_
  · refine Ent.weak ?_ ?_ ?_ ?_ <;> simp (decide := true) [subT, subB, hereT, hereV, hereL, St.get, look, vI, vB, vS, cI, cS, cB, nodeC, roI, programC, rows, parVars]
  · rintro i hi
    refine code_sound sized _ ?_
    by_cases h' : i < g.params.length
    · have e : ((i : Int) < (g.params.length : Int)) = True := by simp [h']
      have hnx := params_next h'
      have hlen : (parVars (g.params.take i)).length ≤ i := by rw [pars_length]; simp; omega
      have htk := rows_takeL (varC false) (parVars (g.params.take i))
      have hsn := varC_one (parVars (g.params.take i)) (parVar g.params[i])
      have hy : (rows (paramC true) g.params).getD i [] = paramC true g.params[i] := rows_get _ _ h'
      have hl2 : (parVars (g.params.take (i + 1))).length = (parVars (g.params.take i)).length + 1 := by rw [hnx]; simp
      rw [← hnx] at hsn
      simp only [parVar] at hsn
      generalize parVars (g.params.take i) = M at hlen htk hsn hl2
      have hb1 : M.length + 1 ≤ 140737488355328 := by omega
      have hb2 : (M.length + 1) * 32 ≤ 140737488355328 := by omega
      simp only [cI, cS] at hsn
      simp (decide := true) only [e, hy, paramC, hb1, hb2, htk, hsn, Int.natCast_nonneg, vB, vI, drop0, row1_length, rows_length, programW, programC, cI, cB, cS, roI, ro64, hpin, go_sem, Nat.reduceAdd, Nat.reduceMul]
      refine ⟨i + 1, h', by omega, Ent.weak ?_ ?_ ?_ ?_⟩
      all_goals simp (decide := true) [subT, subB, hereT, hereV, hereL, St.get, look, vI, vB, vS, cI, cS, cB, nodeC, roI, programC, hl2, w64s (n := g.params.length) h' (by omega)]
    · have hil : i = g.params.length := by omega
      subst hil
      have e : ((g.params.length : Int) < (g.params.length : Int)) = False := by simp
      have hM : (parVars g.params).length ≤ 1048576 := by rw [pars_length]; omega
      simp (decide := true) only [e, List.take_length, vB, vI, drop0, row1_length, rows_length, programW, programC, cI, cB, cS, roI, ro64, hpin, go_sem, Nat.reduceAdd, Nat.reduceMul]
      generalize parVars g.params = M at hM ⊢
      refine Tri.step sized ?_
      refine Tri.sched sized [(1, true), (3, true), (9, true), (0, true), (2, false), (4, false), (5, false), (6, false), (7, false), (8, false)] mixed (by kernel_rfl) (fun C2 hC2 => ?_)
      have hp2 : ∀ o, isPin o = false → C2.pin o = none := by rw [hC2]; exact hpin
      simp (decide := true) only [c1, hx, fnC, Int.natCast_nonneg, programC, drop0, row1_length, rows_length, programW, programC, cI, cB, cS, roI, ro64, hp2, go_sem, Nat.reduceAdd, Nat.reduceMul]
      refine aCall_det (underI_sound p g.body hn hk) hp2 ?_
      simp (decide := true) only [programC, drop0, row1_length, rows_length, programW, programC, cI, cB, cS, roI, ro64, hp2, go_sem, Nat.reduceAdd, Nat.reduceMul]
      have hul := underP_length p.nodes g.body
      have hum : ∀ b (hb : b < (underP p.nodes g.body).length), 0 ≤ (underP p.nodes g.body)[b] ∧ (underP p.nodes g.body)[b].toNat < p.nodes.length := fun b hb => by
        have := underP_mem (List.getElem_mem hb)
        exact ⟨this.1, this.2.1⟩
      generalize underP p.nodes g.body = U at hul hum ⊢
      refine Tri.loop (ι := Nat) (fun i => i ≤ U.length) (fun i => ⟨68, [(2, .ip (programC true p) 0), (5, .ref 5 [] (accV p.nodes M (U.take i)).length), (45, .ref 3045 [] U.length), (46, vI U.length), (47, vI i)], [(3045, .row 3 (row1 cI U)), (5, .row 107 (rows (varC false) (accV p.nodes M (U.take i))))]⟩) (fun i => U.length - i) 0 (by simp) ?_ ?_
      · have e1 : accV p.nodes M [] = M := by simp [accV, letVars]
        refine Ent.weak ?_ ?_ ?_ ?_ <;> simp (decide := true) [subT, subB, hereT, hereV, hereL, St.get, look, vI, vB, vS, cI, cS, cB, nodeC, roI, programC, e1]
      · rintro i hi
        refine code_sound sized _ ?_
        by_cases h' : i < U.length
        · have e : ((i : Int) < (U.length : Int)) = True := by simp [h']
          obtain ⟨g0, g1⟩ := hum i h'
          have z0 : (0 ≤ U[i]) = True := eq_true g0
          have z1 : (U[i] < (p.nodes.length : Int)) = True := eq_true (by omega)
          have hlen : (accV p.nodes M (U.take i)).length ≤ 1048576 + i := by
            have := accV_length p.nodes M (U.take i)
            rw [List.length_take] at this
            omega
          have hat : nAt p.nodes U[i] = p.nodes[U[i].toNat] := nAt_get g1
          have hy : (rows (nodeC true) p.nodes).getD U[i].toNat [] = nodeC true p.nodes[U[i].toNat] := rows_get _ _ g1
          have hnx2 := accV_next p.nodes M h'
          unfold letV at hnx2
          rw [hat] at hnx2
          generalize p.nodes[U[i].toNat] = x at hy hnx2
          generalize accV p.nodes M (U.take i) = M1 at hlen hnx2
          have htk := rows_takeL (varC false) M1
          have hsn := varC_one M1 ⟨x.name, 0, U[i]⟩
          have hb1 : M1.length + 1 ≤ 140737488355328 := by omega
          have hb2 : (M1.length + 1) * 32 ≤ 140737488355328 := by omega
          simp only [cI, cS] at hsn
          simp (decide := true) only [e, z0, z1, h', row1_getq' _ _ h', hy, nodeC, Int.natCast_nonneg, programC, vB, vI, drop0, row1_length, rows_length, programW, programC, cI, cB, cS, roI, ro64, hpin, go_sem, Nat.reduceAdd, Nat.reduceMul]
          cases hkk : x.kind == 13 with
          | false =>
            rw [hkk, if_neg (by decide), List.append_nil] at hnx2
            simp (decide := true) only [hkk, drop0, row1_length, rows_length, programW, programC, cI, cB, cS, roI, ro64, hpin, go_sem, Nat.reduceAdd, Nat.reduceMul]
            refine ⟨i + 1, h', by omega, Ent.weak ?_ ?_ ?_ ?_⟩
            all_goals simp (decide := true) only [hnx2]
            all_goals simp (decide := true) [subT, subB, hereT, hereV, hereL, St.get, look, vI, vB, vS, cI, cS, cB, nodeC, roI, programC, w64s (n := U.length) h' (by omega)]
          | true =>
            rw [hkk, if_pos rfl] at hnx2
            simp (decide := true) only [hkk, hb1, hb2, htk, hsn, drop0, row1_length, rows_length, programW, programC, cI, cB, cS, roI, ro64, hpin, go_sem, Nat.reduceAdd, Nat.reduceMul]
            refine ⟨i + 1, h', by omega, Ent.weak ?_ ?_ ?_ ?_⟩
            all_goals simp (decide := true) only [hnx2]
            all_goals simp (decide := true) [subT, subB, hereT, hereV, hereL, St.get, look, vI, vB, vS, cI, cS, cB, nodeC, roI, programC, w64s (n := U.length) h' (by omega)]
        · have hil : i = U.length := by omega
          subst hil
          have e : ((U.length : Int) < (U.length : Int)) = False := by simp
          have e5 : accV p.nodes M U = M ++ letVars p.nodes U := rfl
          simp (decide := true) only [e, List.take_length, vB, vI, drop0, row1_length, rows_length, programW, programC, cI, cB, cS, roI, ro64, hpin, go_sem, Nat.reduceAdd, Nat.reduceMul]
          refine code_sound sized _ ?_
          simp (decide := true) only [e5, drop0, row1_length, rows_length, programW, programC, cI, cB, cS, roI, ro64, hpin, go_sem, Nat.reduceAdd, Nat.reduceMul]
theorem varsS_sound (p : ProgramD) (fn : Int) (hf : p.fns.length ≤ 1048576) (hn : p.nodes.length ≤ 1048576) (hk : ∀ x ∈ p.nodes, x.kids.length ≤ 1048576) (hpl : ∀ f ∈ p.fns, f.params.length ≤ 1048576) : Sound Tryz.prog 58 [.ro (programW p), .ro (.sc (.int .i64 fn))] (fun rs st => rs = [(false, [.row false 107 (rows (varC false) (varsL p fn))])]) := by
  refine sound_tri (fn := Tryz.f58) (c := Tryz.f58.body.getD .skip) (res := [.tm 4]) (n := 85) sized (by kernel_rfl) (by rfl) (by kernel_rfl) (by rfl) (by rfl) (by simp [argsV]) (fun uf ub C hpin hpin2 hfull => ?_)
  simp only [Tryz.f58, Option.getD_some]
  have w1 : IntKind.i64.wrap ((p.fns.length : Int) - 1) = (p.fns.length : Int) - 1 := w64 (by omega) (by omega)
  have e0 : rows (varC false) ([] : List VarD) = [] := rfl
  refine Tri.step sized ?_
  simp (decide := true) only [drop0, row1_length, rows_length, programW, programC, cI, cB, cS, roI, ro64, hpin, go_sem, Nat.reduceAdd, Nat.reduceMul]
  refine Tri.ent ?_ (Ent.frb hfull 2)
  refine Tri.step sized ?_
  simp (decide := true) only [drop0, row1_length, rows_length, programW, programC, cI, cB, cS, roI, ro64, hpin, go_sem, Nat.reduceAdd, Nat.reduceMul]
  refine Tri.step sized ?_
  simp (decide := true) only [w1, drop0, row1_length, rows_length, programW, programC, cI, cB, cS, roI, ro64, hpin, go_sem, Nat.reduceAdd, Nat.reduceMul]
  refine aCall_det (l01In' fn 0 (p.fns.length - 1)) hpin ?_
  unfold varsL
  cases h0 : inI fn 0 (p.fns.length - 1) with
  | false => simp (decide := true) only [e0, drop0, row1_length, rows_length, programW, programC, cI, cB, cS, roI, ro64, hpin, go_sem, Nat.reduceAdd, Nat.reduceMul]
  | true =>
  have hr := inI_true h0
  obtain ⟨f, rfl⟩ : ∃ f : Nat, fn = f := ⟨fn.toNat, by omega⟩
  have hfl : f < p.fns.length := by omega
  have c1 : ((f : Int) < (p.fns.length : Int)) = True := eq_true (by omega)
  have hx : (rows (fnC true) p.fns).getD f [] = fnC true p.fns[f] := rows_get _ _ hfl
  have hplx := hpl p.fns[f] (List.getElem_mem hfl)
  rw [fAt_nat hfl]
  generalize p.fns[f] = g at hx hplx
  simp (decide := true) only [drop0, row1_length, rows_length, programW, programC, cI, cB, cS, roI, ro64, hpin, go_sem, Nat.reduceAdd, Nat.reduceMul]
  refine Tri.step sized ?_
  simp (decide := true) only [c1, hx, fnC, Int.natCast_nonneg, drop0, row1_length, rows_length, programW, programC, cI, cB, cS, roI, ro64, hpin, go_sem, Nat.reduceAdd, Nat.reduceMul]
  refine Tri.ent ?_ (Ent.frb hfull 6)
  refine Tri.step sized ?_
  simp (decide := true) only [drop0, row1_length, rows_length, programW, programC, cI, cB, cS, roI, ro64, hpin, go_sem, Nat.reduceAdd, Nat.reduceMul]
  refine Tri.loop (ι := Nat) (fun i => i ≤ g.params.length) (fun i => ⟨85, [(2, .ip (programC true p) 0), (5, .ref 5 [] (parVars (g.params.take i)).length), (6, .ip (fnC true g) 0), (7, vI i)], [(5, .row 107 (rows (varC false) (parVars (g.params.take i))))]⟩) (fun i => g.params.length - i) 0 (by simp) ?_ ?_
  · refine Ent.weak ?_ ?_ ?_ ?_ <;> simp (decide := true) [subT, subB, hereT, hereV, hereL, St.get, look, vI, vB, vS, cI, cS, cB, nodeC, roI, programC, fnC, rows, parVars]
  · rintro i hi
    refine code_sound sized _ ?_
    by_cases h' : i < g.params.length
    · have e : ((i : Int) < (g.params.length : Int)) = True := by simp [h']
      have hnx := params_next h'
      have hlen : (parVars (g.params.take i)).length ≤ i := by rw [pars_length]; simp; omega
      have htk := rows_takeL (varC false) (parVars (g.params.take i))
      have hsn := varC_one (parVars (g.params.take i)) (parVar g.params[i])
      have hy : (rows (paramC true) g.params).getD i [] = paramC true g.params[i] := rows_get _ _ h'
      have hl2 : (parVars (g.params.take (i + 1))).length = (parVars (g.params.take i)).length + 1 := by rw [hnx]; simp
      rw [← hnx] at hsn
      simp only [parVar] at hsn
      generalize parVars (g.params.take i) = M at hlen htk hsn hl2
      have hb1 : M.length + 1 ≤ 140737488355328 := by omega
      have hb2 : (M.length + 1) * 32 ≤ 140737488355328 := by omega
      simp only [cI, cS] at hsn
      simp (decide := true) only [e, fnC, programC, vB, vI, drop0, row1_length, rows_length, programW, programC, cI, cB, cS, roI, ro64, hpin, go_sem, Nat.reduceAdd, Nat.reduceMul]
      refine Tri.sched sized [(0, true), (1, true), (3, true), (7, true), (9, true), (2, true), (4, true), (5, true), (6, true), (8, false), (10, false), (11, false), (12, false), (13, false), (14, false), (15, false), (16, false)] mixed (by kernel_rfl) (fun C2 hC2 => ?_)
      have hp2 : ∀ o, isPin o = false → C2.pin o = none := by rw [hC2]; exact hpin
      simp (decide := true) only [e, hy, paramC, hb1, hb2, htk, hsn, Int.natCast_nonneg, vB, vI, drop0, row1_length, rows_length, programW, programC, cI, cB, cS, roI, ro64, hp2, hpin, go_sem, Nat.reduceAdd, Nat.reduceMul]
      refine ⟨i + 1, h', by omega, Ent.weak ?_ ?_ ?_ ?_⟩
      all_goals simp (decide := true) [subT, subB, hereT, hereV, hereL, St.get, look, vI, vB, vS, cI, cS, cB, nodeC, roI, programC, fnC, hl2, w64s (n := g.params.length) h' (by omega)]
    · have hil : i = g.params.length := by omega
      subst hil
      have e : ((g.params.length : Int) < (g.params.length : Int)) = False := by simp
      have hM : (parVars g.params).length ≤ 1048576 := by rw [pars_length]; omega
      simp (decide := true) only [e, fnC, programC, List.take_length, vB, vI, drop0, row1_length, rows_length, programW, programC, cI, cB, cS, roI, ro64, hpin, go_sem, Nat.reduceAdd, Nat.reduceMul]
      generalize parVars g.params = M at hM ⊢
      refine Tri.step sized ?_
      simp (decide := true) only [programC, drop0, row1_length, rows_length, programW, programC, cI, cB, cS, roI, ro64, hpin, go_sem, Nat.reduceAdd, Nat.reduceMul]
      refine aCall_det (underS_sound p g.body hn hk) hpin ?_
      simp (decide := true) only [programC, drop0, row1_length, rows_length, programW, programC, cI, cB, cS, roI, ro64, hpin, go_sem, Nat.reduceAdd, Nat.reduceMul]
      refine Tri.ent ?_ (Ent.frz hfull 8)
      have hul := underP_length p.nodes g.body
      have hum : ∀ b (hb : b < (underP p.nodes g.body).length), 0 ≤ (underP p.nodes g.body)[b] ∧ (underP p.nodes g.body)[b].toNat < p.nodes.length := fun b hb => by
        have := underP_mem (List.getElem_mem hb)
        exact ⟨this.1, this.2.1⟩
      generalize underP p.nodes g.body = U at hul hum ⊢
      refine Tri.step sized ?_
      simp (decide := true) only [programC, drop0, row1_length, rows_length, programW, programC, cI, cB, cS, roI, ro64, hpin, go_sem, Nat.reduceAdd, Nat.reduceMul]
      refine Tri.loop (ι := Nat) (fun i => i ≤ U.length) (fun i => ⟨85, [(2, .ip (programC true p) 0), (5, .ref 5 [] (accV p.nodes M (U.take i)).length), (8, roI U), (9, vI i)], [(5, .row 107 (rows (varC false) (accV p.nodes M (U.take i))))]⟩) (fun i => U.length - i) 0 (by simp) ?_ ?_
      · have e1 : accV p.nodes M [] = M := by simp [accV, letVars]
        refine Ent.weak ?_ ?_ ?_ ?_ <;> simp (decide := true) [subT, subB, hereT, hereV, hereL, St.get, look, vI, vB, vS, cI, cS, cB, nodeC, roI, programC, e1]
      · rintro i hi
        refine code_sound sized _ ?_
        by_cases h' : i < U.length
        · have e : ((i : Int) < (U.length : Int)) = True := by simp [h']
          obtain ⟨g0, g1⟩ := hum i h'
          have z0 : (0 ≤ U[i]) = True := eq_true g0
          have z1 : (U[i] < (p.nodes.length : Int)) = True := eq_true (by omega)
          have hlen : (accV p.nodes M (U.take i)).length ≤ 1048576 + i := by
            have := accV_length p.nodes M (U.take i)
            rw [List.length_take] at this
            omega
          have hat : nAt p.nodes U[i] = p.nodes[U[i].toNat] := nAt_get g1
          have hy : (rows (nodeC true) p.nodes).getD U[i].toNat [] = nodeC true p.nodes[U[i].toNat] := rows_get _ _ g1
          have hnx2 := accV_next p.nodes M h'
          unfold letV at hnx2
          rw [hat] at hnx2
          generalize p.nodes[U[i].toNat] = x at hy hnx2
          generalize accV p.nodes M (U.take i) = M1 at hlen hnx2
          have htk := rows_takeL (varC false) M1
          have hsn := varC_one M1 ⟨x.name, 0, U[i]⟩
          have hb1 : M1.length + 1 ≤ 140737488355328 := by omega
          have hb2 : (M1.length + 1) * 32 ≤ 140737488355328 := by omega
          simp only [cI, cS] at hsn
          simp (decide := true) only [e, programC, vB, vI, drop0, row1_length, rows_length, programW, programC, cI, cB, cS, roI, ro64, hpin, go_sem, Nat.reduceAdd, Nat.reduceMul]
          refine Tri.sched sized [(0, true), (2, true), (3, true), (4, true), (1, true), (5, false), (6, false), (7, false), (8, false), (9, false)] mixed (by kernel_rfl) (fun C2 hC2 => ?_)
          have hp2 : ∀ o, isPin o = false → C2.pin o = none := by rw [hC2]; exact hpin
          simp (decide := true) only [e, z0, z1, h', row1_get _ _ h', hy, nodeC, Int.natCast_nonneg, programC, vB, vI, drop0, row1_length, rows_length, programW, programC, cI, cB, cS, roI, ro64, hp2, hpin, go_sem, Nat.reduceAdd, Nat.reduceMul]
          cases hkk : x.kind == 13 with
          | false =>
            rw [hkk, if_neg (by decide), List.append_nil] at hnx2
            simp (decide := true) only [hkk, drop0, row1_length, rows_length, programW, programC, cI, cB, cS, roI, ro64, hpin, go_sem, Nat.reduceAdd, Nat.reduceMul]
            refine ⟨i + 1, h', by omega, Ent.weak ?_ ?_ ?_ ?_⟩
            all_goals simp (decide := true) only [hnx2]
            all_goals simp (decide := true) [subT, subB, hereT, hereV, hereL, St.get, look, vI, vB, vS, cI, cS, cB, nodeC, roI, programC, w64s (n := U.length) h' (by omega)]
          | true =>
            rw [hkk, if_pos rfl] at hnx2
            simp (decide := true) only [hkk, drop0, row1_length, rows_length, programW, programC, cI, cB, cS, roI, ro64, hpin, go_sem, Nat.reduceAdd, Nat.reduceMul]
            refine Tri.sched sized [(0, true), (1, true), (3, true), (4, true), (5, true), (10, true), (11, true), (12, true), (2, true), (6, true), (7, true), (8, true), (9, true), (13, false), (14, false), (15, false), (16, false), (17, false)] mixed (by kernel_rfl) (fun C3 hC3 => ?_)
            have hp3 : ∀ o, isPin o = false → C3.pin o = none := by rw [hC3]; exact hpin
            simp (decide := true) only [e, z0, z1, h', row1_get _ _ h', hy, nodeC, hkk, hb1, hb2, htk, hsn, Int.natCast_nonneg, programC, vB, vI, drop0, row1_length, rows_length, programW, programC, cI, cB, cS, roI, ro64, hp3, hpin, go_sem, Nat.reduceAdd, Nat.reduceMul]
            refine ⟨i + 1, h', by omega, Ent.weak ?_ ?_ ?_ ?_⟩
            all_goals simp (decide := true) only [hnx2]
            all_goals simp (decide := true) [subT, subB, hereT, hereV, hereL, St.get, look, vI, vB, vS, cI, cS, cB, nodeC, roI, programC, w64s (n := U.length) h' (by omega)]
        · have hil : i = U.length := by omega
          subst hil
          have e : ((U.length : Int) < (U.length : Int)) = False := by simp
          have e5 : accV p.nodes M U = M ++ letVars p.nodes U := rfl
          simp (decide := true) only [e, List.take_length, programC, vB, vI, drop0, row1_length, rows_length, programW, programC, cI, cB, cS, roI, ro64, hpin, go_sem, Nat.reduceAdd, Nat.reduceMul]
          refine code_sound sized _ ?_
          simp (decide := true) only [e5, drop0, row1_length, rows_length, programW, programC, cI, cB, cS, roI, ro64, hpin, go_sem, Nat.reduceAdd, Nat.reduceMul]

/-- The place of the first variable of this name. -/
def findV (s : ByteArray) : List VarD → Nat → Int
  | [], _ => -1
  | v :: r, i => if v.name = s then (i : Int) else findV s r (i + 1)
def varAtP (l : List VarD) (s : ByteArray) : Int := findV s l 0
theorem findV_range (s : ByteArray) : ∀ (l : List VarD) (i : Nat), findV s l i = -1 ∨ ((i : Int) ≤ findV s l i ∧ findV s l i < (i + l.length : Nat))
  | [], i => Or.inl rfl
  | v :: r, i => by
    unfold findV
    by_cases h : v.name = s
    · rw [if_pos h]; right; simp; omega
    · rw [if_neg h]
      rcases findV_range s r (i + 1) with h1 | h1
      · exact Or.inl h1
      · right; simp only [List.length_cons]; omega
theorem varAtI_sound (l : List VarD) (s : ByteArray) (hl : l.length ≤ 4194304) : Sound Tryz.prog 63 [.ro (.imm 107 (rows (varC true) l)), .ro (.sc (.string s))] (fun rs st => rs = [(false, [cI (varAtP l s)])]) := by
  refine sound_tri (fn := Tryz.f63) (c := Tryz.f63.body.getD .skip) (res := [.tm 4]) (n := 20) sized (by kernel_rfl) (by rfl) (by kernel_rfl) (by rfl) (by rfl) (by simp [argsV]) (fun uf ub C hpin hpin2 hfull => ?_)
  simp only [Tryz.f63, Option.getD_some]
  refine Tri.step sized ?_
  simp (decide := true) only [drop0, row1_length, rows_length, programW, programC, cI, cB, cS, roI, ro64, hpin, go_sem, Nat.reduceAdd, Nat.reduceMul]
  refine Tri.step sized ?_
  simp (decide := true) only [drop0, row1_length, rows_length, programW, programC, cI, cB, cS, roI, ro64, hpin, go_sem, Nat.reduceAdd, Nat.reduceMul]
  refine Tri.loop (ι := Nat) (fun i => i ≤ l.length ∧ varAtP l s = findV s (l.drop i) i) (fun i => ⟨20, [(1, vS s), (7, .imm 107 (rows (varC true) l)), (8, vI l.length), (9, vI i)], []⟩) (fun i => l.length - i) 0 ⟨by simp, rfl⟩ ?_ ?_
  · refine Ent.weak ?_ ?_ ?_ ?_ <;> simp (decide := true) [subT, subB, hereT, hereV, hereL, St.get, look, vI, vB, vS, cI, cS, cB, nodeC, roI]
  · rintro i ⟨hi, hq⟩
    refine code_sound sized _ ?_
    by_cases h' : i < l.length
    · have e : ((i : Int) < (l.length : Int)) = True := by simp [h']
      rw [List.drop_eq_getElem_cons h', findV] at hq
      simp (decide := true) only [e, h', rows_get _ _ h', varC, Int.natCast_nonneg, vB, vI, vS, drop0, row1_length, rows_length, programW, programC, cI, cB, cS, roI, ro64, hpin, go_sem, Nat.reduceAdd, Nat.reduceMul]
      by_cases hs : l[i].name = s
      · have h1 : decide (l[i].name = s) = true := decide_eq_true hs
        rw [if_pos hs] at hq
        simp (decide := true) only [h1, hq, drop0, row1_length, rows_length, programW, programC, cI, cB, cS, roI, ro64, hpin, go_sem, Nat.reduceAdd, Nat.reduceMul]
      · have h1 : decide (l[i].name = s) = false := decide_eq_false hs
        rw [if_neg hs] at hq
        simp (decide := true) only [h1, drop0, row1_length, rows_length, programW, programC, cI, cB, cS, roI, ro64, hpin, go_sem, Nat.reduceAdd, Nat.reduceMul]
        refine ⟨i + 1, ⟨h', hq⟩, by omega, Ent.weak ?_ ?_ ?_ ?_⟩
        all_goals simp (decide := true) [subT, subB, hereT, hereV, hereL, St.get, look, vI, vB, vS, cI, cS, cB, nodeC, roI, w64s (n := l.length) h' (by omega)]
    · have hil : i = l.length := by omega
      subst hil
      have e : ((l.length : Int) < (l.length : Int)) = False := by simp
      rw [List.drop_length] at hq
      have hq2 : varAtP l s = -1 := hq
      simp (decide := true) only [e, hq2, vB, vI, drop0, row1_length, rows_length, programW, programC, cI, cB, cS, roI, ro64, hpin, go_sem, Nat.reduceAdd, Nat.reduceMul]
      refine code_sound sized _ ?_
      simp (decide := true) only [hq2, drop0, row1_length, rows_length, programW, programC, cI, cB, cS, roI, ro64, hpin, go_sem, Nat.reduceAdd, Nat.reduceMul]
theorem varAtS_sound (l : List VarD) (s : ByteArray) (hl : l.length ≤ 4194304) : Sound Tryz.prog 59 [.ro (.imm 107 (rows (varC true) l)), .ro (.sc (.string s))] (fun rs st => rs = [(false, [cI (varAtP l s)])]) := by
  refine sound_tri (fn := Tryz.f59) (c := Tryz.f59.body.getD .skip) (res := [.tm 4]) (n := 20) sized (by kernel_rfl) (by rfl) (by kernel_rfl) (by rfl) (by rfl) (by simp [argsV]) (fun uf ub C hpin hpin2 hfull => ?_)
  simp only [Tryz.f59, Option.getD_some]
  refine Tri.step sized ?_
  simp (decide := true) only [drop0, row1_length, rows_length, programW, programC, cI, cB, cS, roI, ro64, hpin, go_sem, Nat.reduceAdd, Nat.reduceMul]
  refine Tri.step sized ?_
  simp (decide := true) only [drop0, row1_length, rows_length, programW, programC, cI, cB, cS, roI, ro64, hpin, go_sem, Nat.reduceAdd, Nat.reduceMul]
  refine Tri.loop (ι := Nat) (fun i => i ≤ l.length ∧ varAtP l s = findV s (l.drop i) i) (fun i => ⟨20, [(0, .imm 107 (rows (varC true) l)), (1, vS s), (5, vI i)], []⟩) (fun i => l.length - i) 0 ⟨by simp, rfl⟩ ?_ ?_
  · refine Ent.weak ?_ ?_ ?_ ?_ <;> simp (decide := true) [subT, subB, hereT, hereV, hereL, St.get, look, vI, vB, vS, cI, cS, cB, nodeC, roI]
  · rintro i ⟨hi, hq⟩
    refine code_sound sized _ ?_
    by_cases h' : i < l.length
    · have e : ((i : Int) < (l.length : Int)) = True := by simp [h']
      rw [List.drop_eq_getElem_cons h', findV] at hq
      simp (decide := true) only [e, h', rows_get _ _ h', varC, Int.natCast_nonneg, vB, vI, vS, drop0, row1_length, rows_length, programW, programC, cI, cB, cS, roI, ro64, hpin, go_sem, Nat.reduceAdd, Nat.reduceMul]
      by_cases hs : l[i].name = s
      · have h1 : decide (l[i].name = s) = true := decide_eq_true hs
        rw [if_pos hs] at hq
        simp (decide := true) only [h1, hq, drop0, row1_length, rows_length, programW, programC, cI, cB, cS, roI, ro64, hpin, go_sem, Nat.reduceAdd, Nat.reduceMul]
      · have h1 : decide (l[i].name = s) = false := decide_eq_false hs
        rw [if_neg hs] at hq
        simp (decide := true) only [h1, drop0, row1_length, rows_length, programW, programC, cI, cB, cS, roI, ro64, hpin, go_sem, Nat.reduceAdd, Nat.reduceMul]
        refine ⟨i + 1, ⟨h', hq⟩, by omega, Ent.weak ?_ ?_ ?_ ?_⟩
        all_goals simp (decide := true) [subT, subB, hereT, hereV, hereL, St.get, look, vI, vB, vS, cI, cS, cB, nodeC, roI, w64s (n := l.length) h' (by omega)]
    · have hil : i = l.length := by omega
      subst hil
      have e : ((l.length : Int) < (l.length : Int)) = False := by simp
      rw [List.drop_length] at hq
      have hq2 : varAtP l s = -1 := hq
      simp (decide := true) only [e, hq2, vB, vI, drop0, row1_length, rows_length, programW, programC, cI, cB, cS, roI, ro64, hpin, go_sem, Nat.reduceAdd, Nat.reduceMul]
      refine code_sound sized _ ?_
      simp (decide := true) only [hq2, drop0, row1_length, rows_length, programW, programC, cI, cB, cS, roI, ro64, hpin, go_sem, Nat.reduceAdd, Nat.reduceMul]
theorem hasText_sound (l : List ByteArray) (s : ByteArray) (hl : l.length ≤ 4194304) : Sound Tryz.prog 168 [.ro (.imm 9 (row1 cS l)), .ro (.sc (.string s))] (fun rs st => rs = [(false, [cB (anyEq l s)])]) := by
  refine sound_tri (fn := Tryz.f168) (c := Tryz.f168.body.getD .skip) (res := [.tm 4]) (n := 17) sized (by kernel_rfl) (by rfl) (by kernel_rfl) (by rfl) (by rfl) (by simp [argsV]) (fun uf ub C hpin hpin2 hfull => ?_)
  simp only [Tryz.f168, Option.getD_some]
  refine Tri.step sized ?_
  simp (decide := true) only [drop0, row1_length, rows_length, programW, programC, cI, cB, cS, roI, ro64, hpin, go_sem, Nat.reduceAdd, Nat.reduceMul]
  refine Tri.step sized ?_
  simp (decide := true) only [drop0, row1_length, rows_length, programW, programC, cI, cB, cS, roI, ro64, hpin, go_sem, Nat.reduceAdd, Nat.reduceMul]
  refine Tri.loop (ι := Nat) (fun i => i ≤ l.length ∧ anyEq (l.take i) s = false) (fun i => ⟨17, [(1, vS s), (7, .imm 9 (row1 cS l)), (8, vI l.length), (9, vI i)], []⟩) (fun i => l.length - i) 0 ⟨by simp, rfl⟩ ?_ ?_
  · refine Ent.weak ?_ ?_ ?_ ?_ <;> simp (decide := true) [subT, subB, hereT, hereV, hereL, St.get, look, vI, vB, vS, cI, cS, cB, nodeC, roI]
  · rintro i ⟨hi, hq⟩
    refine code_sound sized _ ?_
    by_cases h' : i < l.length
    · have e : ((i : Int) < (l.length : Int)) = True := by simp [h']
      simp (decide := true) only [e, h', row1_get _ _ h', Int.natCast_nonneg, vB, vI, vS, drop0, row1_length, rows_length, programW, programC, cI, cB, cS, roI, ro64, hpin, go_sem, Nat.reduceAdd, Nat.reduceMul]
      cases h1 : decide (l[i] = s) with
      | true =>
        have ht := anyEq_true h' h1
        simp (decide := true) only [h1, ht, drop0, row1_length, rows_length, programW, programC, cI, cB, cS, roI, ro64, hpin, go_sem, Nat.reduceAdd, Nat.reduceMul]
      | false =>
        simp (decide := true) only [h1, drop0, row1_length, rows_length, programW, programC, cI, cB, cS, roI, ro64, hpin, go_sem, Nat.reduceAdd, Nat.reduceMul]
        refine ⟨i + 1, ⟨h', by rw [anyEq_take h', hq, h1]; rfl⟩, by omega, Ent.weak ?_ ?_ ?_ ?_⟩
        all_goals simp (decide := true) [subT, subB, hereT, hereV, hereL, St.get, look, vI, vB, vS, cI, cS, cB, nodeC, roI, w64s (n := l.length) h' (by omega)]
    · have hil : i = l.length := by omega
      subst hil
      have e : ((l.length : Int) < (l.length : Int)) = False := by simp
      rw [List.take_length] at hq
      simp (decide := true) only [e, hq, vB, vI, drop0, row1_length, rows_length, programW, programC, cI, cB, cS, roI, ro64, hpin, go_sem, Nat.reduceAdd, Nat.reduceMul]
      refine code_sound sized _ ?_
      simp (decide := true) only [hq, drop0, row1_length, rows_length, programW, programC, cI, cB, cS, roI, ro64, hpin, go_sem, Nat.reduceAdd, Nat.reduceMul]
theorem l07Has_sound (l : List ByteArray) (s : ByteArray) (hl : l.length ≤ 4194304) : Sound Tryz.prog 165 [.ro (.imm 9 (row1 cS l)), .ro (.sc (.string s))] (fun rs st => rs = [(false, [cB (anyEq l s)])]) := by
  refine sound_tri (fn := Tryz.f165) (c := Tryz.f165.body.getD .skip) (res := [.tm 4]) (n := 18) sized (by kernel_rfl) (by rfl) (by kernel_rfl) (by rfl) (by rfl) (by simp [argsV]) (fun uf ub C hpin hpin2 hfull => ?_)
  simp only [Tryz.f165, Option.getD_some]
  refine Tri.step sized ?_
  simp (decide := true) only [drop0, row1_length, rows_length, programW, programC, cI, cB, cS, roI, ro64, hpin, go_sem, Nat.reduceAdd, Nat.reduceMul]
  refine Tri.step sized ?_
  simp (decide := true) only [drop0, row1_length, rows_length, programW, programC, cI, cB, cS, roI, ro64, hpin, go_sem, Nat.reduceAdd, Nat.reduceMul]
  refine Tri.loop (ι := Nat) (fun i => i ≤ l.length ∧ anyEq (l.take i) s = false) (fun i => ⟨18, [(0, .imm 9 (row1 cS l)), (1, vS s), (5, vI i)], []⟩) (fun i => l.length - i) 0 ⟨by simp, rfl⟩ ?_ ?_
  · refine Ent.weak ?_ ?_ ?_ ?_ <;> simp (decide := true) [subT, subB, hereT, hereV, hereL, St.get, look, vI, vB, vS, cI, cS, cB, nodeC, roI]
  · rintro i ⟨hi, hq⟩
    refine code_sound sized _ ?_
    by_cases h' : i < l.length
    · have e : ((i : Int) < (l.length : Int)) = True := by simp [h']
      simp (decide := true) only [e, h', row1_get _ _ h', Int.natCast_nonneg, vB, vI, vS, drop0, row1_length, rows_length, programW, programC, cI, cB, cS, roI, ro64, hpin, go_sem, Nat.reduceAdd, Nat.reduceMul]
      cases h1 : decide (l[i] = s) with
      | true =>
        have ht := anyEq_true h' h1
        simp (decide := true) only [h1, ht, drop0, row1_length, rows_length, programW, programC, cI, cB, cS, roI, ro64, hpin, go_sem, Nat.reduceAdd, Nat.reduceMul]
      | false =>
        simp (decide := true) only [h1, drop0, row1_length, rows_length, programW, programC, cI, cB, cS, roI, ro64, hpin, go_sem, Nat.reduceAdd, Nat.reduceMul]
        refine ⟨i + 1, ⟨h', by rw [anyEq_take h', hq, h1]; rfl⟩, by omega, Ent.weak ?_ ?_ ?_ ?_⟩
        all_goals simp (decide := true) [subT, subB, hereT, hereV, hereL, St.get, look, vI, vB, vS, cI, cS, cB, nodeC, roI, w64s (n := l.length) h' (by omega)]
    · have hil : i = l.length := by omega
      subst hil
      have e : ((l.length : Int) < (l.length : Int)) = False := by simp
      rw [List.take_length] at hq
      simp (decide := true) only [e, hq, vB, vI, drop0, row1_length, rows_length, programW, programC, cI, cB, cS, roI, ro64, hpin, go_sem, Nat.reduceAdd, Nat.reduceMul]
      refine code_sound sized _ ?_
      simp (decide := true) only [hq, drop0, row1_length, rows_length, programW, programC, cI, cB, cS, roI, ro64, hpin, go_sem, Nat.reduceAdd, Nat.reduceMul]
def usesB (k : Int) : Bool := inI k 2 6 || (k == 14 || k == 15)
theorem uses_sound (k : Int) : Sound Tryz.prog 167 [.ro (.sc (.int .i64 k))] (fun rs st => rs = [(false, [cB (usesB k)])]) := by
  refine sound_code (fn := Tryz.f167) (c := Tryz.f167.body.getD .skip) (res := [.tm 2]) (n := 13) sized (by kernel_rfl) (by rfl) (by kernel_rfl) (by rfl) (by rfl) (by simp [argsV]) (fun C hpin hfull => ?_)
  simp (decide := true) only [Tryz.f167, drop0, row1_length, rows_length, programW, programC, cI, cB, cS, roI, ro64, hpin, go_sem, Nat.reduceAdd, Nat.reduceMul]
  refine aCall_det (in' k 2 6) hpin ?_
  unfold usesB
  cases h0 : inI k 2 6 with
  | true => simp (decide := true) only [Bool.true_or, drop0, row1_length, rows_length, programW, programC, cI, cB, cS, roI, ro64, hpin, go_sem, Nat.reduceAdd, Nat.reduceMul]
  | false =>
  cases h1 : k == 14 with
  | true => simp (decide := true) only [h1, Bool.true_or, Bool.false_or, drop0, row1_length, rows_length, programW, programC, cI, cB, cS, roI, ro64, hpin, go_sem, Nat.reduceAdd, Nat.reduceMul]
  | false => simp (decide := true) only [h1, Bool.false_or, drop0, row1_length, rows_length, programW, programC, cI, cB, cS, roI, ro64, hpin, go_sem, Nat.reduceAdd, Nat.reduceMul]
end Go.Proofs.YtnbodmohnkohfaaGreatDoor.AW
