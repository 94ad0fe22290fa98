/- The variables of a function with their types. No condition beyond those named. -/
import Derived.Test.YtnbodmohnkohfaaGreatDoorQg
namespace Go.Proofs.YtnbodmohnkohfaaGreatDoor.AW
open Go.RowKit
set_option maxHeartbeats 8000000
set_option maxRecDepth 100000
set_option linter.unusedSimpArgs false
set_option linter.unusedVariables false

def tyOf (p : ProgramD) (l : List VarD) (v : VarD) : Int := typeB p l ((nAt p.nodes v.node).kids.getD 0 0)
def tyStep (p : ProgramD) (l : List VarD) (i : Nat) : List VarD := if 0 ≤ (l.getD i vr0).node then l.set i ⟨(l.getD i vr0).name, tyOf p l (l.getD i vr0), (l.getD i vr0).node⟩ else l
def typesP (p : ProgramD) (l : List VarD) : Nat → List VarD
  | 0 => l
  | i + 1 => tyStep p (typesP p l i) i
/-- A variable that is let stands at a node that has a value. -/
def LetOk (p : ProgramD) (l : List VarD) : Prop := ∀ i (h : i < l.length), l[i].node < 0 ∨ (l[i].node.toNat < p.nodes.length ∧ 0 < (nAt p.nodes l[i].node).kids.length)
theorem tyStep_length (p : ProgramD) (l : List VarD) (i : Nat) : (tyStep p l i).length = l.length := by unfold tyStep; split <;> simp
theorem typesP_length (p : ProgramD) (l : List VarD) : ∀ i, (typesP p l i).length = l.length
  | 0 => rfl
  | i + 1 => by unfold typesP; rw [tyStep_length, typesP_length p l i]
theorem tyStep_node (p : ProgramD) (l : List VarD) (i j : Nat) (hj : j < l.length) : ((tyStep p l i)[j]'(by rw [tyStep_length]; exact hj)).node = l[j].node := by
  unfold tyStep
  split
  · simp only [List.getElem_set]
    split
    · rename_i h; subst h; simp [List.getD, hj]
    · rfl
  · rfl
theorem tyStep_other (p : ProgramD) (l : List VarD) (i j : Nat) (hj : j < l.length) (hne : i ≠ j) : (tyStep p l i)[j]'(by rw [tyStep_length]; exact hj) = l[j] := by
  unfold tyStep
  split
  · simp only [List.getElem_set, if_neg hne]
  · rfl
theorem typesP_ok {p : ProgramD} {l : List VarD} (h : LetOk p l) : ∀ i, LetOk p (typesP p l i)
  | 0 => h
  | i + 1 => fun j hj => by
    have h1 := typesP_ok h i
    have hj2 : j < (typesP p l i).length := by rw [typesP_length] at hj ⊢; exact hj
    have h2 := h1 j hj2
    have e : ((typesP p l (i + 1))[j]).node = ((typesP p l i)[j]).node := tyStep_node p (typesP p l i) i j hj2
    rw [e]; exact h2
theorem typesP_keep (p : ProgramD) (l : List VarD) {j : Nat} (hj : j < l.length) : ∀ i, j < i → (typesP p l i)[j]'(by rw [typesP_length]; exact hj) = (typesP p l (j + 1))[j]'(by rw [typesP_length]; exact hj)
  | 0, h => by omega
  | i + 1, h => by
    by_cases e : j = i
    · subst e; rfl
    · have h1 := typesP_keep p l hj i (by omega)
      rw [← h1]
      exact tyStep_other p (typesP p l i) i j (by rw [typesP_length]; exact hj) (fun hh => e hh.symm)
def tyB (l : List VarD) (i : Nat) : Bool := !((l.getD i vr0).ty == 0)
noncomputable def typesL (p : ProgramD) (fn : Int) : List VarD := typesP p (varsL p fn) (varsL p fn).length
noncomputable def typesB (p : ProgramD) (fn : Int) : Bool := rangeB (tyB (typesL p fn)) (typesL p fn).length
theorem vars_ok {p : ProgramD} (hD : Deep p.nodes) (fn : Int) : LetOk p (varsL p fn) := by
  have key : ∀ v ∈ varsL p fn, v.node < 0 ∨ (v.node.toNat < p.nodes.length ∧ 0 < (nAt p.nodes v.node).kids.length) := fun v hv => by
    unfold varsL at hv
    split at hv
    · rcases List.mem_append.1 hv with hv | hv
      · unfold parVars at hv
        obtain ⟨x, _, rfl⟩ := List.mem_map.1 hv
        left; simp [parVar]
      · unfold letVars at hv
        obtain ⟨k, hk, hv⟩ := List.mem_flatMap.1 hv
        unfold letV at hv
        split at hv
        · rename_i h13
          simp at hv
          subst hv
          have hm := underP_mem hk
          right
          refine ⟨hm.2.1, ?_⟩
          have hsh := inI_true (node_shape (hD.deep _ hm.2.1) hm.2.1)
          rw [nAt_get hm.2.1] at h13 ⊢
          have ek := eq_of_beq h13
          rw [ek] at hsh
          have := hsh.1
          simp [shapeI] at this
          omega
        · simp at hv
    · simp at hv
  exact fun i h => key _ (List.getElem_mem h)
theorem var_set (l : List VarD) (i : Nat) (x : VarD) : (rows (varC false) l).set i [cS x.name, cI x.ty, cI x.node] = rows (varC false) (l.set i x) := rows_set (varC false) l i x

theorem typeOfI_sound (p : ProgramD) (hD : Deep p.nodes) (l : List VarD) (hl : l.length ≤ 4194304) (hf : p.fns.length ≤ 1048576) (hn : p.nodes.length ≤ 1048576) (hk : ∀ x ∈ p.nodes, x.kids.length ≤ 300) (n : Nat) (hnl : n < p.nodes.length) :
    Sound Tryz.prog 138 [.ro (programW p), .ro (.imm 107 (rows (varC true) l)), .ro (.sc (.int .i64 n))] (fun rs st => rs = [(false, [cI (typeB p l n)])]) := by
  have hty := typeI_sound p hD l hl hf hn hk n hnl
  have hde := deepI_sound p.nodes n hn (fun x hx => by have := hk x hx; omega)
  have hd0 : (deepOf p.nodes (n : Int) == 0) = false := by
    have h9 : inI (n : Int) 0 (p.nodes.length - 1) = true := by simp [inI]; omega
    have := hD.deep n hnl
    simp [deepOf, h9, this]
  simp only [programW] at hty
  refine sound_tri (fn := Tryz.f138) (c := Tryz.f138.body.getD .skip) (res := [.tm 6]) (n := 16) sized (by kernel_rfl) (by rfl) (by kernel_rfl) (by rfl) (by rfl) (by simp [argsV]) (fun uf ub C hpin hpin2 hfull => ?_)
  simp only [Tryz.f138, Option.getD_some]
  refine Tri.step sized ?_
  simp (decide := true) only [drop0, row1_length, rows_length, programW, programC, cI, cB, cS, roI, ro64, hpin, go_sem, Nat.reduceAdd, Nat.reduceMul]
  refine Tri.ent ?_ (Ent.frb hfull 3)
  refine Tri.step sized ?_
  simp (decide := true) only [drop0, row1_length, rows_length, programW, programC, cI, cB, cS, roI, ro64, hpin, go_sem, Nat.reduceAdd, Nat.reduceMul]
  refine aCall_det hde hpin ?_
  simp (decide := true) only [hd0, drop0, row1_length, rows_length, programW, programC, cI, cB, cS, roI, ro64, hpin, go_sem, Nat.reduceAdd, Nat.reduceMul]
  refine code_sound sized _ ?_
  simp (decide := true) only [drop0, row1_length, rows_length, programW, programC, cI, cB, cS, roI, ro64, hpin, go_sem, Nat.reduceAdd, Nat.reduceMul]
  refine aCall_det hty hpin ?_
  simp (decide := true) only [drop0, row1_length, rows_length, programW, programC, cI, cB, cS, roI, ro64, hpin, go_sem, Nat.reduceAdd, Nat.reduceMul]
theorem typesOfI_sound (p : ProgramD) (hD : Deep p.nodes) (fn : Int) (hf : p.fns.length ≤ 1048576) (hn : p.nodes.length ≤ 1048576) (hk : ∀ x ∈ p.nodes, x.kids.length ≤ 300) (hpl : ∀ f ∈ p.fns, f.params.length ≤ 1048576) :
    Sound Tryz.prog 81 [.ro (programW p), .ro (.sc (.int .i64 fn))] (fun rs st => rs = [(false, [.row false 107 (rows (varC false) (typesL p fn))])]) := by
  have hvs := varsI_sound p fn hf hn (fun x hx => by have := hk x hx; omega) hpl
  have hvl := varsL_length p fn hpl hn
  have hok := vars_ok hD fn
  unfold typesL
  generalize varsL p fn = l at hvs hvl hok ⊢
  simp only [programW] at hvs
  refine sound_tri (fn := Tryz.f81) (c := Tryz.f81.body.getD .skip) (res := [.tm 4]) (n := 42) sized (by kernel_rfl) (by rfl) (by kernel_rfl) (by rfl) (by rfl) (by simp [argsV]) (fun uf ub C hpin hpin2 hfull => ?_)
  simp only [Tryz.f81, Option.getD_some]
  refine Tri.step sized ?_
  simp (decide := true) only [drop0, row1_length, rows_length, programW, programC, cI, cB, cS, roI, ro64, hpin, go_sem, Nat.reduceAdd, Nat.reduceMul]
  refine Tri.ent ?_ (Ent.frb hfull 2)
  refine Tri.step sized ?_
  simp (decide := true) only [drop0, row1_length, rows_length, programW, programC, cI, cB, cS, roI, ro64, hpin, go_sem, Nat.reduceAdd, Nat.reduceMul]
  refine aCall_det hvs hpin ?_
  simp (decide := true) only [drop0, row1_length, rows_length, programW, programC, cI, cB, cS, roI, ro64, hpin, go_sem, Nat.reduceAdd, Nat.reduceMul]
  refine Tri.step sized ?_
  simp (decide := true) only [drop0, row1_length, rows_length, programW, programC, cI, cB, cS, roI, ro64, hpin, go_sem, Nat.reduceAdd, Nat.reduceMul]
  refine Tri.loop (ι := Nat) (fun i => i ≤ l.length) (fun i => ⟨42, [(2, .ip (programC true p) 0), (5, .ref 5 [] l.length), (11, vI l.length), (12, vI i)], [(5, .row 107 (rows (varC false) (typesP p l i)))]⟩) (fun i => l.length - i) 0 (by simp) ?_ ?_
  · refine Ent.weak ?_ ?_ ?_ ?_ <;> simp (decide := true) [subT, subB, hereT, hereV, hereL, St.get, look, vI, vB, vS, cI, cS, cB, nodeC, programC, roI, typesP]
  · rintro i hi
    refine code_sound sized _ ?_
    have hpl2 := typesP_length p l i
    by_cases h' : i < l.length
    · have e : ((i : Int) < (l.length : Int)) = True := by simp [h']
      have hok2 := typesP_ok hok i
      have hnx : typesP p l (i + 1) = tyStep p (typesP p l i) i := rfl
      generalize typesP p l i = L at hpl2 hok2 hnx
      have hiL : i < L.length := by omega
      have hge : L.getD i vr0 = L[i] := by simp [List.getD, hiL]
      have htk := rows_takeL (varC false) L
      rw [hpl2] at htk
      unfold tyStep tyOf at hnx
      rw [hge] at hnx
      have hq := rows_getq (varC false) L hiL
      have hqd := rows_get (varC false) L hiL
      simp only [varC] at hq hqd
      by_cases hneg : 0 ≤ L[i].node
      · have c1 : (0 ≤ L[i].node) = True := eq_true hneg
        obtain ⟨g1, g2⟩ := (hok2 i hiL).resolve_left (by omega)
        rw [if_pos hneg, nAt_get g1] at hnx
        rw [nAt_get g1] at g2
        have c2 : (L[i].node < (p.nodes.length : Int)) = True := eq_true (by omega)
        have hy : (rows (nodeC true) p.nodes).getD L[i].node.toNat [] = nodeC true p.nodes[L[i].node.toNat] := rows_get _ _ g1
        have hkd := hD.kid g1
        generalize p.nodes[L[i].node.toNat] = x at hy g2 hnx hkd
        have hk0 : x.kids.getD 0 0 = x.kids[0] := by simp [List.getD, g2]
        obtain ⟨q0, q1, q2⟩ := hkd x.kids[0] (List.getElem_mem g2)
        obtain ⟨m, hm⟩ : ∃ m : Nat, x.kids[0] = m := ⟨x.kids[0].toNat, by omega⟩
        have hty := typeOfI_sound p hD L (by omega) hf hn hk m (by omega)
        rw [hk0, hm] at hnx
        have hg0 : (row1 cI x.kids).getD (Int.toNat 0) [] = [cI x.kids[0]] := row1_get cI x.kids g2
        rw [hm] at hg0
        have hc0 : ((0 : Int) < (x.kids.length : Int)) = True := eq_true (by omega)
        have hvst := var_set L i ⟨L[i].name, typeB p L m, L[i].node⟩
        rw [← hnx] at hvst
        simp only [programW] at hty
        simp only [cI, cS] at hvst hg0 hq hqd
        simp (decide := true) only [e, h', c1, hq, hqd, Int.natCast_nonneg, vB, vI, drop0, row1_length, rows_length, programW, programC, cI, cB, cS, roI, ro64, hpin, go_sem, Nat.reduceAdd, Nat.reduceMul]
        refine Tri.sched sized [(0, true), (1, true), (3, true), (4, true), (6, true), (7, true), (8, true), (9, true), (2, true), (5, true), (10, false), (11, false), (12, false), (13, false), (14, false), (15, false), (16, false), (17, false), (18, false), (19, false)] mixed (by kernel_rfl) (fun C2 hC2 => ?_)
        have hp2 : ∀ o, isPin o = false → C2.pin o = none := by rw [hC2]; exact hpin
        simp (decide := true) only [e, h', c1, c2, hq, hqd, hy, nodeC, hg0, hc0, g2, htk, Int.natCast_nonneg, drop0, row1_length, rows_length, programW, programC, cI, cB, cS, roI, ro64, hp2, go_sem, Nat.reduceAdd, Nat.reduceMul]
        refine aCall_det hty hp2 ?_
        simp (decide := true) only [e, hpl2, htk, h', hq, hqd, hvst, Int.natCast_nonneg, drop0, row1_length, rows_length, programW, programC, cI, cB, cS, roI, ro64, hp2, hpin, go_sem, Nat.reduceAdd, Nat.reduceMul]
        refine ⟨i + 1, h', by omega, Ent.weak ?_ ?_ ?_ ?_⟩
        all_goals simp (decide := true) [subT, subB, hereT, hereV, hereL, St.get, look, vI, vB, vS, cI, cS, cB, nodeC, programC, roI, w64s (n := l.length) h' (by omega)]
      · have c1 : (0 ≤ L[i].node) = False := eq_false hneg
        rw [if_neg hneg] at hnx
        simp (decide := true) only [e, h', c1, hq, hqd, Int.natCast_nonneg, vB, vI, drop0, row1_length, rows_length, programW, programC, cI, cB, cS, roI, ro64, hpin, go_sem, Nat.reduceAdd, Nat.reduceMul]
        refine ⟨i + 1, h', by omega, Ent.weak ?_ ?_ ?_ ?_⟩
        all_goals simp (decide := true) [subT, subB, hereT, hereV, hereL, St.get, look, vI, vB, vS, cI, cS, cB, nodeC, programC, roI, hnx, w64s (n := l.length) h' (by omega)]
    · have hil : i = l.length := by omega
      subst hil
      have e : ((l.length : Int) < (l.length : Int)) = False := by simp
      simp (decide := true) only [e, vB, vI, drop0, row1_length, rows_length, programW, programC, cI, cB, cS, roI, ro64, hpin, go_sem, Nat.reduceAdd, Nat.reduceMul]
      refine code_sound sized _ ?_
      simp (decide := true) only [hpl2, drop0, row1_length, rows_length, programW, programC, cI, cB, cS, roI, ro64, hpin, go_sem, Nat.reduceAdd, Nat.reduceMul]
theorem typesI_sound (p : ProgramD) (hR : namesRightB p = true) (fn : Nat) (hfn : fn < p.fns.length) (hf : p.fns.length ≤ 1048576) (hn : p.nodes.length ≤ 1048576) (hk : ∀ x ∈ p.nodes, x.kids.length ≤ 1048576) (hpl : ∀ f ∈ p.fns, f.params.length ≤ 1048576) :
    Sound Tryz.prog 36 [.ro (programW p), .ro (.sc (.int .i64 fn))] (fun rs st => rs = if typesB p fn then [(false, [.row false 107 (rows (varC false) (typesL p fn))]), (false, [cB true])] else [(false, [.row false 107 []]), (false, [cB false])]) := by
  have hG := programB_true (Bool.and_eq_true_iff.1 hR).1
  have hk3 : ∀ x ∈ p.nodes, x.kids.length ≤ 300 := fun x hx => by have := hG.deep.few x hx; omega
  have hvs := typesOfI_sound p hG.deep fn hf hn hk3 hpl
  have hnr := namesRightI_sound p hf hn hk hpl
  have hvl : (typesL p fn).length ≤ 2097152 := by unfold typesL; rw [typesP_length]; exact varsL_length p fn hpl hn
  have hin : inI (fn : Int) 0 (p.fns.length - 1) = true := by simp [inI]; omega
  rw [hR] at hnr
  unfold typesB
  generalize typesL p fn = l at hvs hvl ⊢
  simp only [programW] at hvs hnr
  have w1 : IntKind.i64.wrap ((p.fns.length : Int) - 1) = (p.fns.length : Int) - 1 := w64 (by omega) (by omega)
  refine sound_tri (fn := Tryz.f36) (c := Tryz.f36.body.getD .skip) (res := [.tm 4, .tm 5]) (n := 35) sized (by kernel_rfl) (by rfl) (by kernel_rfl) (by rfl) (by rfl) (by simp [argsV]) (fun uf ub C hpin hpin2 hfull => ?_)
  simp only [Tryz.f36, Option.getD_some]
  refine Tri.step sized ?_
  simp (decide := true) only [drop0, row1_length, rows_length, programW, programC, cI, cB, cS, roI, ro64, hpin, go_sem, Nat.reduceAdd, Nat.reduceMul]
  refine Tri.ent ?_ (Ent.frb hfull 2)
  refine Tri.step sized ?_
  simp (decide := true) only [drop0, row1_length, rows_length, programW, programC, cI, cB, cS, roI, ro64, hpin, go_sem, Nat.reduceAdd, Nat.reduceMul]
  refine aCall_det hnr hpin ?_
  simp (decide := true) only [w1, drop0, row1_length, rows_length, programW, programC, cI, cB, cS, roI, ro64, hpin, go_sem, Nat.reduceAdd, Nat.reduceMul]
  refine aCall_det (in' fn 0 (p.fns.length - 1)) hpin ?_
  simp (decide := true) only [hin, drop0, row1_length, rows_length, programW, programC, cI, cB, cS, roI, ro64, hpin, go_sem, Nat.reduceAdd, Nat.reduceMul]
  refine Tri.step sized ?_
  simp (decide := true) only [drop0, row1_length, rows_length, programW, programC, cI, cB, cS, roI, ro64, hpin, go_sem, Nat.reduceAdd, Nat.reduceMul]
  refine aCall_det hvs hpin ?_
  simp (decide := true) only [drop0, row1_length, rows_length, programW, programC, cI, cB, cS, roI, ro64, hpin, go_sem, Nat.reduceAdd, Nat.reduceMul]
  refine Tri.step sized ?_
  simp (decide := true) only [drop0, row1_length, rows_length, programW, programC, cI, cB, cS, roI, ro64, hpin, go_sem, Nat.reduceAdd, Nat.reduceMul]
  have htk := rows_takeL (varC false) l
  refine Tri.loop (ι := Nat) (fun i => i ≤ l.length ∧ rangeB (tyB l) i = true) (fun i => ⟨35, [(6, .ref 6 [] l.length), (24, .ref 6 [] l.length), (25, vI l.length), (26, vI i)], [(6, .row 107 (rows (varC false) l))]⟩) (fun i => l.length - i) 0 ⟨by simp, rfl⟩ ?_ ?_
  · refine Ent.weak ?_ ?_ ?_ ?_ <;> simp (decide := true) [subT, subB, hereT, hereV, hereL, St.get, look, vI, vB, vS, cI, cS, cB, nodeC, programC, roI]
  · rintro i ⟨hi, hq⟩
    refine code_sound sized _ ?_
    by_cases h' : i < l.length
    · have e : ((i : Int) < (l.length : Int)) = True := by simp [h']
      have hge : tyB l i = !(l[i].ty == 0) := by simp [tyB, List.getD, h']
      simp (decide := true) only [e, h', rows_getq _ _ h', rows_get _ _ h', varC, Int.natCast_nonneg, vB, vI, drop0, row1_length, rows_length, programW, programC, cI, cB, cS, roI, ro64, hpin, go_sem, Nat.reduceAdd, Nat.reduceMul]
      cases hz : l[i].ty == 0 with
      | true =>
        have hff : rangeB (tyB l) l.length = false := rangeB_false h' (by rw [hge, hz]; rfl)
        rw [hff]
        simp (decide := true) only [hz, if_false, Bool.false_eq_true, drop0, row1_length, rows_length, programW, programC, cI, cB, cS, roI, ro64, hpin, go_sem, Nat.reduceAdd, Nat.reduceMul]
      | false =>
        simp (decide := true) only [hz, drop0, row1_length, rows_length, programW, programC, cI, cB, cS, roI, ro64, hpin, go_sem, Nat.reduceAdd, Nat.reduceMul]
        refine ⟨i + 1, ⟨h', by rw [rangeB_succ, hq, hge, hz]; rfl⟩, by omega, Ent.weak ?_ ?_ ?_ ?_⟩
        all_goals simp (decide := true) [subT, subB, hereT, hereV, hereL, St.get, look, vI, vB, vS, cI, cS, cB, nodeC, programC, roI, w64s (n := l.length) h' (by omega)]
    · have hil : i = l.length := by omega
      subst hil
      have e : ((l.length : Int) < (l.length : Int)) = False := by simp
      rw [hq]
      simp (decide := true) only [e, if_true, vB, vI, drop0, row1_length, rows_length, programW, programC, cI, cB, cS, roI, ro64, hpin, go_sem, Nat.reduceAdd, Nat.reduceMul]
      refine code_sound sized _ ?_
      simp (decide := true) only [htk, drop0, row1_length, rows_length, programW, programC, cI, cB, cS, roI, ro64, hpin, go_sem, Nat.reduceAdd, Nat.reduceMul]
theorem varsTS_sound (p : ProgramD) (hD : Deep p.nodes) (fn : Int) (hf : p.fns.length ≤ 1048576) (hn : p.nodes.length ≤ 1048576) (hk : ∀ x ∈ p.nodes, x.kids.length ≤ 300) (hpl : ∀ f ∈ p.fns, f.params.length ≤ 1048576) :
    Sound Tryz.prog 76 [.ro (programW p), .ro (.sc (.int .i64 fn))] (fun rs st => rs = if typesB p fn then [(false, [.row false 107 (rows (varC false) (typesL p fn))]), (false, [cB true])] else [(false, [.row false 107 []]), (false, [cB false])]) := by
  have hvs := varsS_sound p fn hf hn (fun x hx => by have := hk x hx; omega) hpl
  have hvl := varsL_length p fn hpl hn
  have hok := vars_ok hD fn
  unfold typesB typesL
  generalize varsL p fn = l at hvs hvl hok ⊢
  simp only [programW] at hvs
  have hll := typesP_length p l l.length
  have hbad : ∀ i (h : i < l.length), (((typesP p l (i + 1)).getD i vr0).ty == 0) = true → rangeB (tyB (typesP p l l.length)) (typesP p l l.length).length = false := fun i h hz => by
    refine rangeB_false (i := i) (by omega) ?_
    have h1 := typesP_keep p l h l.length h
    have h2 : (typesP p l (i + 1)).getD i vr0 = (typesP p l (i + 1))[i]'(by rw [typesP_length]; exact h) := by simp [List.getD, typesP_length, h]
    have h3 : (typesP p l l.length).getD i vr0 = (typesP p l l.length)[i]'(by rw [typesP_length]; exact h) := by simp [List.getD, typesP_length, h]
    unfold tyB
    rw [h3, h1, ← h2, hz]; rfl
  have hgood : (∀ i (h : i < l.length), (((typesP p l (i + 1)).getD i vr0).ty == 0) = false) → rangeB (tyB (typesP p l l.length)) (typesP p l l.length).length = true := fun hall => by
    rw [rangeB_true]
    intro i hi
    rw [hll] at hi
    have h1 := typesP_keep p l hi l.length hi
    have h2 : (typesP p l (i + 1)).getD i vr0 = (typesP p l (i + 1))[i]'(by rw [typesP_length]; exact hi) := by simp [List.getD, typesP_length, hi]
    have h3 : (typesP p l l.length).getD i vr0 = (typesP p l l.length)[i]'(by rw [typesP_length]; exact hi) := by simp [List.getD, typesP_length, hi]
    unfold tyB
    rw [h3, h1, ← h2, hall i hi]; rfl
  refine sound_tri (fn := Tryz.f76) (c := Tryz.f76.body.getD .skip) (res := [.tm 4, .tm 5]) (n := 50) sized (by kernel_rfl) (by rfl) (by kernel_rfl) (by rfl) (by rfl) (by simp [argsV]) (fun uf ub C hpin hpin2 hfull => ?_)
  simp only [Tryz.f76, Option.getD_some]
  refine Tri.step sized ?_
  simp (decide := true) only [drop0, row1_length, rows_length, programW, programC, cI, cB, cS, roI, ro64, hpin, go_sem, Nat.reduceAdd, Nat.reduceMul]
  refine Tri.ent ?_ (Ent.frb hfull 2)
  refine Tri.step sized ?_
  simp (decide := true) only [drop0, row1_length, rows_length, programW, programC, cI, cB, cS, roI, ro64, hpin, go_sem, Nat.reduceAdd, Nat.reduceMul]
  refine aCall_det hvs hpin ?_
  simp (decide := true) only [drop0, row1_length, rows_length, programW, programC, cI, cB, cS, roI, ro64, hpin, go_sem, Nat.reduceAdd, Nat.reduceMul]
  refine Tri.step sized ?_
  simp (decide := true) only [drop0, row1_length, rows_length, programW, programC, cI, cB, cS, roI, ro64, hpin, go_sem, Nat.reduceAdd, Nat.reduceMul]
  refine Tri.loop (ι := Nat) (fun i => i ≤ l.length ∧ ∀ j (h : j < l.length), j < i → (((typesP p l (j + 1)).getD j vr0).ty == 0) = false) (fun i => ⟨50, [(2, .ip (programC true p) 0), (6, .ref 6 [] l.length), (7, vI i)], [(6, .row 107 (rows (varC false) (typesP p l i)))]⟩) (fun i => l.length - i) 0 ⟨by simp, fun j hj h0 => by omega⟩ ?_ ?_
  · refine Ent.weak ?_ ?_ ?_ ?_ <;> simp (decide := true) [subT, subB, hereT, hereV, hereL, St.get, look, vI, vB, vS, cI, cS, cB, nodeC, programC, roI, typesP]
  · rintro i ⟨hi, hall⟩
    have hpl2 := typesP_length p l i
    by_cases h' : i < l.length
    · have e : ((i : Int) < (l.length : Int)) = True := by simp [h']
      have hok2 := typesP_ok hok i
      have hnx : typesP p l (i + 1) = tyStep p (typesP p l i) i := rfl
      have hnl2 := typesP_length p l (i + 1)
      have hbad2 := hbad i h'
      have hall2 : (((typesP p l (i + 1)).getD i vr0).ty == 0) = false → ∀ j (h : j < l.length), j < i + 1 → (((typesP p l (j + 1)).getD j vr0).ty == 0) = false := fun hz j hj hj2 => by
        by_cases ej : j = i
        · subst ej; exact hz
        · exact hall j hj (by omega)
      generalize rangeB (tyB (typesP p l l.length)) (typesP p l l.length).length = RB at hbad2 ⊢
      generalize typesP p l l.length = FL at hbad2 ⊢
      have hgoal : ∀ j, j = i + 1 → rows (varC false) (typesP p l j) = rows (varC false) (typesP p l (i + 1)) := fun j hj => by rw [hj]
      generalize hL : typesP p l i = L at hpl2 hok2 hnx
      generalize hM : typesP p l (i + 1) = M at hnx hnl2 hbad2 hall2
      have hiL : i < L.length := by omega
      have hiM : i < M.length := by omega
      have hge : L.getD i vr0 = L[i] := by simp [List.getD, hiL]
      have hgm : M.getD i vr0 = M[i] := by simp [List.getD, hiM]
      have htk := rows_takeL (varC false) L
      rw [hpl2] at htk
      rw [hgm] at hbad2 hall2
      have hnx0 := hnx
      unfold tyStep tyOf at hnx
      rw [hge] at hnx
      have hq := rows_getq (varC false) L hiL
      have hqd := rows_get (varC false) L hiL
      have hqm := rows_getq (varC false) M hiM
      have hqdm := rows_get (varC false) M hiM
      simp only [varC, cI, cS] at hq hqd hqm hqdm
      have fin : ∀ (b : Bool), (M[i].ty == 0) = b → True := fun _ _ => trivial
      refine code_sound sized _ ?_
      by_cases hneg : 0 ≤ L[i].node
      · have c1 : (0 ≤ L[i].node) = True := eq_true hneg
        obtain ⟨g1, g2⟩ := (hok2 i hiL).resolve_left (by omega)
        rw [if_pos hneg, nAt_get g1] at hnx
        rw [nAt_get g1] at g2
        have c2 : (L[i].node < (p.nodes.length : Int)) = True := eq_true (by omega)
        have hy : (rows (nodeC true) p.nodes).getD L[i].node.toNat [] = nodeC true p.nodes[L[i].node.toNat] := rows_get _ _ g1
        have hkd := hD.kid g1
        generalize p.nodes[L[i].node.toNat] = x at hy g2 hnx hkd
        have hk0 : x.kids.getD 0 0 = x.kids[0] := by simp [List.getD, g2]
        obtain ⟨q0, q1, q2⟩ := hkd x.kids[0] (List.getElem_mem g2)
        obtain ⟨m, hm⟩ : ∃ m : Nat, x.kids[0] = m := ⟨x.kids[0].toNat, by omega⟩
        have hty := typeS_sound p hD L (by omega) hf hn hk m (by omega)
        rw [hk0, hm] at hnx
        have hg0 : (row1 cI x.kids).getD (Int.toNat 0) [] = [cI x.kids[0]] := row1_get cI x.kids g2
        rw [hm] at hg0
        have hc0 : ((0 : Int) < (x.kids.length : Int)) = True := eq_true (by omega)
        have hvst := var_set L i ⟨L[i].name, typeB p L m, L[i].node⟩
        rw [← hnx] at hvst
        simp only [programW] at hty
        simp only [cI, cS] at hvst hg0
        simp (decide := true) only [e, h', c1, hq, hqd, Int.natCast_nonneg, vB, vI, drop0, row1_length, rows_length, programW, programC, cI, cB, cS, roI, ro64, hpin, go_sem, Nat.reduceAdd, Nat.reduceMul]
        refine Tri.sched sized [(0, true), (1, true), (3, true), (4, true), (6, true), (7, true), (8, true), (9, true), (2, true), (5, true), (10, false), (11, false), (12, false), (13, false), (14, false), (15, false), (16, false), (17, false), (18, false), (19, false)] mixed (by kernel_rfl) (fun C2 hC2 => ?_)
        have hp2 : ∀ o, isPin o = false → C2.pin o = none := by rw [hC2]; exact hpin
        simp (decide := true) only [e, h', c1, c2, hq, hqd, hy, nodeC, hg0, hc0, g2, htk, Int.natCast_nonneg, drop0, row1_length, rows_length, programW, programC, cI, cB, cS, roI, ro64, hp2, go_sem, Nat.reduceAdd, Nat.reduceMul]
        refine aCall_det hty hp2 ?_
        cases hz : M[i].ty == 0 with
        | true =>
          rw [hbad2 hz]
          simp (decide := true) only [e, hpl2, htk, h', hq, hqd, hvst, hqm, hqdm, hz, if_false, Bool.false_eq_true, Int.natCast_nonneg, drop0, row1_length, rows_length, programW, programC, cI, cB, cS, roI, ro64, hp2, hpin, go_sem, Nat.reduceAdd, Nat.reduceMul]
        | false =>
        simp (decide := true) only [e, hpl2, htk, h', hq, hqd, hvst, hqm, hqdm, hz, Int.natCast_nonneg, drop0, row1_length, rows_length, programW, programC, cI, cB, cS, roI, ro64, hp2, hpin, go_sem, Nat.reduceAdd, Nat.reduceMul]
        refine ⟨i + 1, ⟨h', hall2 hz⟩, by omega, Ent.weak ?_ ?_ ?_ ?_⟩
        all_goals simp (decide := true) [subT, subB, hereT, hereV, hereL, St.get, look, vI, vB, vS, cI, cS, cB, nodeC, programC, roI, hM, w64s (n := l.length) h' (by omega)]
      · have c1 : (0 ≤ L[i].node) = False := eq_false hneg
        rw [if_neg hneg] at hnx
        subst hnx
        cases hz : M[i].ty == 0 with
        | true =>
          rw [hbad2 hz]
          simp (decide := true) only [e, h', c1, hq, hqd, hz, if_false, Bool.false_eq_true, Int.natCast_nonneg, vB, vI, drop0, row1_length, rows_length, programW, programC, cI, cB, cS, roI, ro64, hpin, go_sem, Nat.reduceAdd, Nat.reduceMul]
        | false =>
        simp (decide := true) only [e, h', c1, hq, hqd, hz, Int.natCast_nonneg, vB, vI, drop0, row1_length, rows_length, programW, programC, cI, cB, cS, roI, ro64, hpin, go_sem, Nat.reduceAdd, Nat.reduceMul]
        refine ⟨i + 1, ⟨h', hall2 hz⟩, by omega, Ent.weak ?_ ?_ ?_ ?_⟩
        all_goals simp (decide := true) [subT, subB, hereT, hereV, hereL, St.get, look, vI, vB, vS, cI, cS, cB, nodeC, programC, roI, hM, w64s (n := l.length) h' (by omega)]
    · have hil : i = l.length := by omega
      subst hil
      have e : ((l.length : Int) < (l.length : Int)) = False := by simp
      have hRt := hgood (fun j hj => hall j hj hj)
      have htk := rows_takeL (varC false) (typesP p l l.length)
      rw [hll] at htk
      refine code_sound sized _ ?_
      rw [hRt]
      simp (decide := true) only [e, if_true, vB, vI, drop0, row1_length, rows_length, programW, programC, cI, cB, cS, roI, ro64, hpin, go_sem, Nat.reduceAdd, Nat.reduceMul]
      refine code_sound sized _ ?_
      simp (decide := true) only [htk, hll, drop0, row1_length, rows_length, programW, programC, cI, cB, cS, roI, ro64, hpin, go_sem, Nat.reduceAdd, Nat.reduceMul]
end Go.Proofs.YtnbodmohnkohfaaGreatDoor.AW
