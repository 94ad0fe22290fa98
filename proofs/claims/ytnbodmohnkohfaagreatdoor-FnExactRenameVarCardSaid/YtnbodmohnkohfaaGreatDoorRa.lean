/- Copies of programs, both sides. No condition beyond those named. -/
import Derived.Test.YtnbodmohnkohfaaGreatDoorQl
namespace Go.Proofs.YtnbodmohnkohfaaGreatDoor.AW
open Go.RowKit
set_option maxHeartbeats 8000000
set_option maxRecDepth 100000
set_option linter.unusedSimpArgs false
set_option linter.unusedVariables false

theorem ints_free (l : List Int) : (row1 cI l).all (fun x => x.all freeD) = true := by simp [row1, cI, freeD]
theorem params_free (l : List ParamD) : (rows (paramC true) l).all (fun x => x.all freeD) = true := by simp [rows, paramC, cI, cS, freeD]
theorem params_tf (l : List ParamD) : rows (paramC true) l = rows (paramC false) l := rfl
theorem node_snoc (l : List NodeD) (x : NodeD) : rows (nodeC false) l ++ [[D.sc (.int .i64 x.kind), .sc (.int .i64 x.num), .sc (.string x.name), .row false 3 (row1 cI x.kids)]] = rows (nodeC false) (l ++ [x]) := rows_snoc (nodeC false) l x
theorem fn_snoc (l : List FnD) (x : FnD) : rows (fnC false) l ++ [[D.sc (.string x.name), .row false 86 (rows (paramC false) x.params), .sc (.int .i64 x.res), .sc (.int .i64 x.body), .sc (.int .i64 x.ret)]] = rows (fnC false) (l ++ [x]) := rows_snoc (fnC false) l x
theorem take_nx {α : Type} {l : List α} {i : Nat} (h : i < l.length) : l.take (i + 1) = l.take i ++ [l[i]] := List.take_succ_eq_append_getElem h
theorem take_ln {α : Type} {l : List α} {i : Nat} (h : i ≤ l.length) : (l.take i).length = i := by simp; omega

theorem copyInts_sound (l : List Int) (hl : l.length ≤ 1048576) : Sound Tryz.prog 146 [.ro (roI l)] (fun rs st => rs = [(false, [.row false 3 (row1 cI l)])]) := by
  have hf := ints_free l
  have hb1 : l.length ≤ 140737488355328 := by omega
  have hb2 : l.length * 8 ≤ 140737488355328 := by omega
  refine sound_tri (fn := Tryz.f146) (c := Tryz.f146.body.getD .skip) (res := [.tm 2]) (n := 5) sized (by kernel_rfl) (by rfl) (by kernel_rfl) (by rfl) (by rfl) (by simp [argsV]) (fun uf ub C hpin hpin2 hfull => ?_)
  simp only [Tryz.f146, Option.getD_some]
  refine Tri.step sized ?_
  simp (decide := true) only [drop0, row1_length, rows_length, programW, programC, cI, cB, cS, roI, ro64, hpin, go_sem, Nat.reduceAdd, Nat.reduceMul]
  refine code_sound sized _ ?_
  simp (decide := true) only [hf, hb1, hb2, drop0, row1_length, rows_length, programW, programC, cI, cB, cS, roI, ro64, hpin, go_sem, Nat.reduceAdd, Nat.reduceMul]
theorem copyNodesI_sound (l : List NodeD) (hl : l.length ≤ 1048576) (hk : ∀ x ∈ l, x.kids.length ≤ 1048576) : Sound Tryz.prog 98 [.ro (.imm 60 (rows (nodeC true) l))] (fun rs st => rs = [(false, [.row false 60 (rows (nodeC false) l)])]) := by
  refine sound_tri (fn := Tryz.f98) (c := Tryz.f98.body.getD .skip) (res := [.tm 2]) (n := 22) sized (by kernel_rfl) (by rfl) (by kernel_rfl) (by rfl) (by rfl) (by simp [argsV]) (fun uf ub C hpin hpin2 hfull => ?_)
  simp only [Tryz.f98, Option.getD_some]
  refine Tri.step sized ?_
  simp (decide := true) only [drop0, row1_length, rows_length, programW, programC, cI, cB, cS, roI, ro64, hpin, go_sem, Nat.reduceAdd, Nat.reduceMul]
  refine Tri.step sized ?_
  simp (decide := true) only [drop0, row1_length, rows_length, programW, programC, cI, cB, cS, roI, ro64, hpin, go_sem, Nat.reduceAdd, Nat.reduceMul]
  refine Tri.step sized ?_
  simp (decide := true) only [drop0, row1_length, rows_length, programW, programC, cI, cB, cS, roI, ro64, hpin, go_sem, Nat.reduceAdd, Nat.reduceMul]
  refine Tri.loop (ι := Nat) (fun i => i ≤ l.length) (fun i => ⟨22, [(3, .ref 3 [] i), (6, .imm 60 (rows (nodeC true) l)), (7, vI l.length), (8, vI i)], [(3, .row 60 (rows (nodeC false) (l.take i)))]⟩) (fun i => l.length - i) 0 (by simp) ?_ ?_
  · refine Ent.weak ?_ ?_ ?_ ?_ <;> simp (decide := true) [subT, subB, hereT, hereV, hereL, St.get, look, vI, vB, vS, cI, cS, cB, nodeC, programC, roI, rows]
  · rintro i hi
    refine code_sound sized _ ?_
    have htl := take_ln hi
    by_cases h' : i < l.length
    · have e : ((i : Int) < (l.length : Int)) = True := by simp [h']
      have hx : (rows (nodeC true) l).getD i [] = nodeC true l[i] := rows_get _ _ h'
      have hkx := hk l[i] (List.getElem_mem h')
      have hsn := node_snoc (l.take i) l[i]
      rw [← take_nx h'] at hsn
      generalize l[i] = x at hx hkx hsn
      have hb1 : i + 1 ≤ 140737488355328 := by omega
      have hb2 : (i + 1) * 56 ≤ 140737488355328 := by omega
      simp (decide := true) only [e, h', hx, nodeC, Int.natCast_nonneg, vB, vI, drop0, row1_length, rows_length, programW, programC, cI, cB, cS, roI, ro64, hpin, go_sem, Nat.reduceAdd, Nat.reduceMul]
      refine aCall_det (copyInts_sound x.kids hkx) hpin ?_
      simp (decide := true) only [hb1, hb2, htl, hsn, drop0, row1_length, rows_length, programW, programC, cI, cB, cS, roI, ro64, hpin, go_sem, Nat.reduceAdd, Nat.reduceMul]
      refine ⟨i + 1, h', by omega, Ent.weak ?_ ?_ ?_ ?_⟩
      all_goals simp (decide := true) [subT, subB, hereT, hereV, hereL, St.get, look, vI, vB, vS, cI, cS, cB, nodeC, programC, roI, hsn, w64s (n := l.length) h' (by omega)]
    · have hil : i = l.length := by omega
      subst hil
      have e : ((l.length : Int) < (l.length : Int)) = False := by simp
      simp (decide := true) only [e, List.take_length, vB, vI, drop0, row1_length, rows_length, programW, programC, cI, cB, cS, roI, ro64, hpin, go_sem, Nat.reduceAdd, Nat.reduceMul]
      refine code_sound sized _ ?_
      simp (decide := true) only [List.take_length, drop0, row1_length, rows_length, programW, programC, cI, cB, cS, roI, ro64, hpin, go_sem, Nat.reduceAdd, Nat.reduceMul]
theorem copyNodesS_sound (l : List NodeD) (hl : l.length ≤ 1048576) (hk : ∀ x ∈ l, x.kids.length ≤ 1048576) : Sound Tryz.prog 89 [.ro (.imm 60 (rows (nodeC true) l))] (fun rs st => rs = [(false, [.row false 60 (rows (nodeC false) l)])]) := by
  refine sound_tri (fn := Tryz.f89) (c := Tryz.f89.body.getD .skip) (res := [.tm 2]) (n := 27) sized (by kernel_rfl) (by rfl) (by kernel_rfl) (by rfl) (by rfl) (by simp [argsV]) (fun uf ub C hpin hpin2 hfull => ?_)
  simp only [Tryz.f89, Option.getD_some]
  refine Tri.step sized ?_
  simp (decide := true) only [drop0, row1_length, rows_length, programW, programC, cI, cB, cS, roI, ro64, hpin, go_sem, Nat.reduceAdd, Nat.reduceMul]
  refine Tri.step sized ?_
  simp (decide := true) only [drop0, row1_length, rows_length, programW, programC, cI, cB, cS, roI, ro64, hpin, go_sem, Nat.reduceAdd, Nat.reduceMul]
  refine Tri.step sized ?_
  simp (decide := true) only [drop0, row1_length, rows_length, programW, programC, cI, cB, cS, roI, ro64, hpin, go_sem, Nat.reduceAdd, Nat.reduceMul]
  refine Tri.loop (ι := Nat) (fun i => i ≤ l.length) (fun i => ⟨27, [(0, .imm 60 (rows (nodeC true) l)), (3, .ref 3 [] i), (4, vI i)], [(3, .row 60 (rows (nodeC false) (l.take i)))]⟩) (fun i => l.length - i) 0 (by simp) ?_ ?_
  · refine Ent.weak ?_ ?_ ?_ ?_ <;> simp (decide := true) [subT, subB, hereT, hereV, hereL, St.get, look, vI, vB, vS, cI, cS, cB, nodeC, programC, roI, rows]
  · rintro i hi
    refine code_sound sized _ ?_
    have htl := take_ln hi
    by_cases h' : i < l.length
    · have e : ((i : Int) < (l.length : Int)) = True := by simp [h']
      have hx : (rows (nodeC true) l).getD i [] = nodeC true l[i] := rows_get _ _ h'
      have hkx := hk l[i] (List.getElem_mem h')
      have hsn := node_snoc (l.take i) l[i]
      rw [← take_nx h'] at hsn
      generalize l[i] = x at hx hkx hsn
      have hf := ints_free x.kids
      have hb1 : i + 1 ≤ 140737488355328 := by omega
      have hb2 : (i + 1) * 56 ≤ 140737488355328 := by omega
      have hb3 : x.kids.length ≤ 140737488355328 := by omega
      have hb4 : x.kids.length * 8 ≤ 140737488355328 := by omega
      simp (decide := true) only [e, h', hx, hf, hb1, hb2, hb3, hb4, htl, hsn, nodeC, Int.natCast_nonneg, vB, vI, drop0, row1_length, rows_length, programW, programC, cI, cB, cS, roI, ro64, hpin, go_sem, Nat.reduceAdd, Nat.reduceMul]
      refine ⟨i + 1, h', by omega, Ent.weak ?_ ?_ ?_ ?_⟩
      all_goals simp (decide := true) [subT, subB, hereT, hereV, hereL, St.get, look, vI, vB, vS, cI, cS, cB, nodeC, programC, roI, hsn, w64s (n := l.length) h' (by omega)]
    · have hil : i = l.length := by omega
      subst hil
      have e : ((l.length : Int) < (l.length : Int)) = False := by simp
      simp (decide := true) only [e, List.take_length, vB, vI, drop0, row1_length, rows_length, programW, programC, cI, cB, cS, roI, ro64, hpin, go_sem, Nat.reduceAdd, Nat.reduceMul]
      refine code_sound sized _ ?_
      simp (decide := true) only [List.take_length, drop0, row1_length, rows_length, programW, programC, cI, cB, cS, roI, ro64, hpin, go_sem, Nat.reduceAdd, Nat.reduceMul]
theorem copyFn_sound (f : FnD) (hp : f.params.length ≤ 1048576) : Sound Tryz.prog 99 [.ro (fnW f)] (fun rs st => rs = [(true, fnC false f)]) := by
  have hf := params_free f.params
  have hb1 : f.params.length ≤ 140737488355328 := by omega
  have hb2 : f.params.length * 24 ≤ 140737488355328 := by omega
  have htf := params_tf f.params
  refine sound_tri (fn := Tryz.f99) (c := Tryz.f99.body.getD .skip) (res := [.ce 2 80]) (n := 8) sized (by kernel_rfl) (by rfl) (by kernel_rfl) (by rfl) (by rfl) (by simp [argsV]) (fun uf ub C hpin hpin2 hfull => ?_)
  simp only [Tryz.f99, Option.getD_some]
  refine Tri.step sized ?_
  simp (decide := true) only [fnW, fnC, drop0, row1_length, rows_length, programW, programC, cI, cB, cS, roI, ro64, hpin, go_sem, Nat.reduceAdd, Nat.reduceMul]
  refine Tri.step sized ?_
  simp (decide := true) only [hf, hb1, hb2, fnW, fnC, drop0, row1_length, rows_length, programW, programC, cI, cB, cS, roI, ro64, hpin, go_sem, Nat.reduceAdd, Nat.reduceMul]
  refine code_sound sized _ ?_
  simp (decide := true) only [htf, fnW, fnC, drop0, row1_length, rows_length, programW, programC, cI, cB, cS, roI, ro64, hpin, go_sem, Nat.reduceAdd, Nat.reduceMul]
theorem copyProgram_sound (p : ProgramD) (hf : p.fns.length ≤ 1048576) (hn : p.nodes.length ≤ 1048576) (hk : ∀ x ∈ p.nodes, x.kids.length ≤ 1048576) (hpl : ∀ f ∈ p.fns, f.params.length ≤ 1048576) :
    Sound Tryz.prog 51 [.ro (programW p)] (fun rs st => rs = [(true, programC false p)]) := by
  refine sound_tri (fn := Tryz.f51) (c := Tryz.f51.body.getD .skip) (res := [.ce 2 33]) (n := 26) sized (by kernel_rfl) (by rfl) (by kernel_rfl) (by rfl) (by rfl) (by simp [argsV]) (fun uf ub C hpin hpin2 hfull => ?_)
  simp only [Tryz.f51, Option.getD_some]
  refine Tri.step sized ?_
  simp (decide := true) only [drop0, row1_length, rows_length, programW, programC, cI, cB, cS, roI, ro64, hpin, go_sem, Nat.reduceAdd, Nat.reduceMul]
  refine Tri.ent ?_ (Ent.frb hfull 1)
  refine Tri.step sized ?_
  simp (decide := true) only [drop0, row1_length, rows_length, programW, programC, cI, cB, cS, roI, ro64, hpin, go_sem, Nat.reduceAdd, Nat.reduceMul]
  refine aCall_det (copyNodesI_sound p.nodes hn hk) hpin ?_
  simp (decide := true) only [drop0, row1_length, rows_length, programW, programC, cI, cB, cS, roI, ro64, hpin, go_sem, Nat.reduceAdd, Nat.reduceMul]
  refine Tri.ent ?_ (Ent.nilr 3 1 80)
  refine Tri.step sized ?_
  simp (decide := true) only [St.nilr, drop0, row1_length, rows_length, programW, programC, cI, cB, cS, roI, ro64, hpin, go_sem, Nat.reduceAdd, Nat.reduceMul]
  refine Tri.loop (ι := Nat) (fun i => i ≤ p.fns.length) (fun i => ⟨26, [(2, .bp 2 0), (3, .bp 3 0), (11, .imm 80 (rows (fnC true) p.fns)), (12, vI p.fns.length), (13, vI i)], [(2, .box [.sc (.slice none 0 0), .sc (.slice none 0 0)]), (3, .box [.row false 60 (rows (nodeC false) p.nodes), .row false 80 (rows (fnC false) (p.fns.take i))])]⟩) (fun i => p.fns.length - i) 0 (by simp) ?_ ?_
  · refine Ent.weak ?_ ?_ ?_ ?_ <;> simp (decide := true) [subT, subB, hereT, hereV, hereL, St.get, look, vI, vB, vS, cI, cS, cB, nodeC, programC, roI, rows, St.nilr, St.swap]
  · rintro i hi
    refine code_sound sized _ ?_
    have htl := take_ln hi
    by_cases h' : i < p.fns.length
    · have e : ((i : Int) < (p.fns.length : Int)) = True := by simp [h']
      have hx : (rows (fnC true) p.fns).getD i [] = fnC true p.fns[i] := rows_get _ _ h'
      have hkx := hpl p.fns[i] (List.getElem_mem h')
      have hsn := fn_snoc (p.fns.take i) p.fns[i]
      rw [← take_nx h'] at hsn
      generalize p.fns[i] = f at hx hkx hsn
      have hcf := copyFn_sound f hkx
      simp only [fnW] at hcf
      have hb1 : i + 1 ≤ 140737488355328 := by omega
      have hb2 : (i + 1) * 64 ≤ 140737488355328 := by omega
      simp (decide := true) only [e, h', hx, fnC, Int.natCast_nonneg, vB, vI, drop0, row1_length, rows_length, programW, programC, cI, cB, cS, roI, ro64, hpin, go_sem, Nat.reduceAdd, Nat.reduceMul]
      refine Tri.ent ?_ (Ent.frb hfull 5)
      refine Tri.fork sized (.one 0 true (.one 2 true (.two 1 (.one 3 false (.one 4 false (.one 5 false (.one 6 false (.one 7 false .done))))) 3 (.two 1 (.one 4 false (.one 5 false (.one 6 false (.one 7 false .done)))) 4 (.one 1 false (.one 5 false (.one 6 false (.one 7 false .done)))))))) mixed (by kernel_rfl) (fun C2 hC2 => ?_)
      have hp2 : ∀ o, isPin o = false → C2.pin o = none := by rw [hC2]; exact hpin
      simp (decide := true) only [fnC, drop0, row1_length, rows_length, programW, programC, cI, cB, cS, roI, ro64, hp2, hpin, go_sem, Nat.reduceAdd, Nat.reduceMul]
      have htl1 := take_ln (l := p.fns) (i := i + 1) h'
      refine ⟨aCall_det hcf hp2 ?_, aCall_det hcf hp2 ?_⟩
      · simp (decide := true) only [hb1, hb2, htl, htl1, hsn, fnC, drop0, row1_length, rows_length, programW, programC, cI, cB, cS, roI, ro64, hp2, hpin, go_sem, Nat.reduceAdd, Nat.reduceMul]
        refine ⟨i + 1, h', by omega, Ent.weak ?_ ?_ ?_ ?_⟩
        all_goals simp (decide := true) [subT, subB, hereT, hereV, hereL, St.get, look, vI, vB, vS, cI, cS, cB, nodeC, programC, roI, hsn, w64s (n := p.fns.length) h' (by omega)]
      · simp (decide := true) only [hb1, hb2, htl, htl1, hsn, fnC, drop0, row1_length, rows_length, programW, programC, cI, cB, cS, roI, ro64, hp2, hpin, go_sem, Nat.reduceAdd, Nat.reduceMul]
        refine ⟨?_, ?_⟩ <;> refine ⟨i + 1, h', by omega, Ent.weak ?_ ?_ ?_ ?_⟩
        all_goals simp (decide := true) [subT, subB, hereT, hereV, hereL, St.get, look, vI, vB, vS, cI, cS, cB, nodeC, programC, roI, hsn, w64s (n := p.fns.length) h' (by omega)]
    · have hil : i = p.fns.length := by omega
      subst hil
      have e : ((p.fns.length : Int) < (p.fns.length : Int)) = False := by simp
      simp (decide := true) only [e, List.take_length, vB, vI, drop0, row1_length, rows_length, programW, programC, cI, cB, cS, roI, ro64, hpin, go_sem, Nat.reduceAdd, Nat.reduceMul]
      refine code_sound sized _ ?_
      simp (decide := true) only [List.take_length, drop0, row1_length, rows_length, programW, programC, cI, cB, cS, roI, ro64, hpin, go_sem, Nat.reduceAdd, Nat.reduceMul]
theorem l04Copy_sound (p : ProgramD) (hf : p.fns.length ≤ 1048576) (hn : p.nodes.length ≤ 1048576) (hk : ∀ x ∈ p.nodes, x.kids.length ≤ 1048576) (hpl : ∀ f ∈ p.fns, f.params.length ≤ 1048576) :
    Sound Tryz.prog 46 [.ro (programW p)] (fun rs st => rs = [(true, programC false p)]) := by
  refine sound_tri (fn := Tryz.f46) (c := Tryz.f46.body.getD .skip) (res := [.ce 2 33]) (n := 34) sized (by kernel_rfl) (by rfl) (by kernel_rfl) (by rfl) (by rfl) (by simp [argsV]) (fun uf ub C hpin hpin2 hfull => ?_)
  simp only [Tryz.f46, Option.getD_some]
  refine Tri.step sized ?_
  simp (decide := true) only [drop0, row1_length, rows_length, programW, programC, cI, cB, cS, roI, ro64, hpin, go_sem, Nat.reduceAdd, Nat.reduceMul]
  refine Tri.ent ?_ (Ent.frb hfull 1)
  refine Tri.step sized ?_
  simp (decide := true) only [drop0, row1_length, rows_length, programW, programC, cI, cB, cS, roI, ro64, hpin, go_sem, Nat.reduceAdd, Nat.reduceMul]
  refine aCall_det (copyNodesS_sound p.nodes hn hk) hpin ?_
  simp (decide := true) only [drop0, row1_length, rows_length, programW, programC, cI, cB, cS, roI, ro64, hpin, go_sem, Nat.reduceAdd, Nat.reduceMul]
  refine Tri.ent ?_ (Ent.nilr 3 1 80)
  refine Tri.step sized ?_
  simp (decide := true) only [St.nilr, drop0, row1_length, rows_length, programW, programC, cI, cB, cS, roI, ro64, hpin, go_sem, Nat.reduceAdd, Nat.reduceMul]
  refine Tri.loop (ι := Nat) (fun i => i ≤ p.fns.length) (fun i => ⟨34, [(1, .ip (programC true p) 0), (2, .bp 2 0), (3, .bp 3 0), (4, vI i)], [(2, .box [.sc (.slice none 0 0), .sc (.slice none 0 0)]), (3, .box [.row false 60 (rows (nodeC false) p.nodes), .row false 80 (rows (fnC false) (p.fns.take i))])]⟩) (fun i => p.fns.length - i) 0 (by simp) ?_ ?_
  · refine Ent.weak ?_ ?_ ?_ ?_ <;> simp (decide := true) [subT, subB, hereT, hereV, hereL, St.get, look, vI, vB, vS, cI, cS, cB, nodeC, programC, roI, rows, St.nilr, St.swap]
  · rintro i hi
    refine code_sound sized _ ?_
    have htl := take_ln hi
    by_cases h' : i < p.fns.length
    · have e : ((i : Int) < (p.fns.length : Int)) = True := by simp [h']
      have hx : (rows (fnC true) p.fns).getD i [] = fnC true p.fns[i] := rows_get _ _ h'
      have hkx := hpl p.fns[i] (List.getElem_mem h')
      have hsn := fn_snoc (p.fns.take i) p.fns[i]
      rw [← take_nx h'] at hsn
      generalize p.fns[i] = f at hx hkx hsn
      have hfr := params_free f.params
      have htf := params_tf f.params
      have htl1 := take_ln (l := p.fns) (i := i + 1) h'
      have hb1 : i + 1 ≤ 140737488355328 := by omega
      have hb2 : (i + 1) * 64 ≤ 140737488355328 := by omega
      have hb3 : f.params.length ≤ 140737488355328 := by omega
      have hb4 : f.params.length * 24 ≤ 140737488355328 := by omega
      rw [← htf] at hsn
      simp (decide := true) only [e, h', hx, hfr, hb1, hb2, hb3, hb4, htl, htl1, hsn, fnC, Int.natCast_nonneg, vB, vI, drop0, row1_length, rows_length, programW, programC, cI, cB, cS, roI, ro64, hpin, go_sem, Nat.reduceAdd, Nat.reduceMul]
      refine ⟨i + 1, h', by omega, Ent.weak ?_ ?_ ?_ ?_⟩
      all_goals simp (decide := true) [subT, subB, hereT, hereV, hereL, St.get, look, vI, vB, vS, cI, cS, cB, nodeC, programC, roI, hsn, w64s (n := p.fns.length) h' (by omega)]
    · have hil : i = p.fns.length := by omega
      subst hil
      have e : ((p.fns.length : Int) < (p.fns.length : Int)) = False := by simp
      simp (decide := true) only [e, List.take_length, vB, vI, drop0, row1_length, rows_length, programW, programC, cI, cB, cS, roI, ro64, hpin, go_sem, Nat.reduceAdd, Nat.reduceMul]
      refine code_sound sized _ ?_
      simp (decide := true) only [List.take_length, drop0, row1_length, rows_length, programW, programC, cI, cB, cS, roI, ro64, hpin, go_sem, Nat.reduceAdd, Nat.reduceMul]
theorem heldProgram_sound (x : ProgramD) (k : Int) (h0 : 0 ≤ k) (h1 : k + (sumN nodeN x.nodes : Nat) + (sumN fnN x.fns : Nat) < 4611686018427387904) :
    Sound Tryz.prog 21 [.ro (programW ⟨nodeML k x.nodes, fnML (k + (sumN nodeN x.nodes : Nat)) x.fns⟩), .ro (.sc (.int .i64 k))] (fun rs st => rs = [(false, [cI ((k + (sumN nodeN x.nodes : Nat)) + (sumN fnN x.fns : Nat))])]) := by
  have n0 : ((k + (sumN nodeN x.nodes : Nat) : Int) < 0) = False := by simp; omega
  have n1 : (((k + (sumN nodeN x.nodes : Nat)) + (sumN fnN x.fns : Nat) : Int) < 0) = False := by simp; omega
  refine sound_code (fn := Tryz.f21) (c := Tryz.f21.body.getD .skip) (res := [.tm 4]) (n := 18) sized (by kernel_rfl) (by rfl) (by kernel_rfl) (by rfl) (by rfl) (by simp [argsV]) (fun C hpin hfull => ?_)
  simp (decide := true) only [Tryz.f21, programW, drop0, row1_length, rows_length, programW, programC, cI, cB, cS, roI, ro64, hpin, go_sem, Nat.reduceAdd, Nat.reduceMul]
  refine aCall_det (heldNodeS_sound x.nodes k (by omega) (by omega)) hpin ?_
  simp (decide := true) only [n0, programW, drop0, row1_length, rows_length, programW, programC, cI, cB, cS, roI, ro64, hpin, go_sem, Nat.reduceAdd, Nat.reduceMul]
  refine aCall_det (heldFnS_sound x.fns (k + (sumN nodeN x.nodes : Nat)) (by omega) (by omega)) hpin ?_
  simp (decide := true) only [n1, programW, drop0, row1_length, rows_length, programW, programC, cI, cB, cS, roI, ro64, hpin, go_sem, Nat.reduceAdd, Nat.reduceMul]
/-! ### Right programs are small -/
theorem sumN_cap {α : Type} {f : α → Nat} {c : Nat} : ∀ l : List α, (∀ x ∈ l, f x ≤ c) → sumN f l ≤ c * l.length
  | [], _ => by simp [sumN]
  | a :: r, h => by
    have h1 := sumN_cap r (fun x hx => h x (List.mem_cons_of_mem _ hx))
    have h2 := h a (List.mem_cons_self ..)
    simp only [sumN, List.map_cons, List.sum_cons] at h1 ⊢
    rw [List.length_cons, Nat.mul_add]
    omega
theorem node_name {nodes : List NodeD} (hD : Deep nodes) : ∀ x ∈ nodes, x.name.size ≤ 8 := fun x hx => by
  obtain ⟨i, hi, rfl⟩ := List.getElem_of_mem hx
  have hb := dAt_node nodes i (hD.deep i hi)
  simp only [nodeB, Bool.and_eq_true, nodeXB] at hb
  obtain ⟨_, _, _, _, hs, _⟩ := hb
  rw [nAt_nat hi] at hs
  unfold namOkB at hs
  split at hs
  · unfold nameB at hs
    have := inI_true (Bool.and_eq_true_iff.1 hs).1
    omega
  · rw [of_decide_eq_true hs]; decide
theorem fn_small {p : ProgramD} {f : FnD} (h : fnOkB p f = true) : f.name.size ≤ 8 ∧ f.params.length ≤ 3 ∧ ∀ x ∈ f.params, x.name.size ≤ 8 := by
  simp only [fnOkB, Bool.and_eq_true, List.all_eq_true, paramB, decide_eq_true_eq] at h
  obtain ⟨h1, h2, _, h3, _⟩ := h
  unfold nameB at h1
  have e1 := inI_true (Bool.and_eq_true_iff.1 h1).1
  refine ⟨by omega, by omega, fun x hx => ?_⟩
  have h4 := (h3 x hx).1
  unfold nameB at h4
  have e2 := inI_true (Bool.and_eq_true_iff.1 h4).1
  omega
theorem cost_of {p : ProgramD} (h0 : p.nodes.length ≤ 300) (h1 : p.fns.length ≤ 8) (h2 : ∀ x ∈ p.nodes, x.name.size ≤ 8 ∧ x.kids.length ≤ 12) (h3 : ∀ f ∈ p.fns, f.name.size ≤ 8 ∧ f.params.length ≤ 3 ∧ ∀ x ∈ f.params, x.name.size ≤ 8) : programCost p ≤ 100000 := by
  have e1 := sumN_cap (f := nodeCost) (c := 20) p.nodes (fun x hx => by
    have := h2 x hx
    unfold nodeCost; omega)
  have e2 := sumN_cap (f := fnCost) (c := 100) p.fns (fun f hf => by
    obtain ⟨g1, g2, g3⟩ := h3 f hf
    have e3 := sumN_cap (f := paramCost) (c := 8) f.params (fun x hx => g3 x hx)
    unfold fnCost; omega)
  unfold programCost
  omega
theorem right_cost {p : ProgramD} (h : Right p) : programCost p ≤ 100000 :=
  cost_of h.few h.fns (fun x hx => ⟨node_name h.deep x hx, h.deep.few x hx⟩) (fun f hf => by
    obtain ⟨i, hi, rfl⟩ := List.getElem_of_mem hf
    exact fn_small (h.fn i hi))
end Go.Proofs.YtnbodmohnkohfaaGreatDoor.AW
