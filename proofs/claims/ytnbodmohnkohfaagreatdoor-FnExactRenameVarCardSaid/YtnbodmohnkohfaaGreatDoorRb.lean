/- Other names of functions, both sides. No condition beyond those named. -/
import Derived.Test.YtnbodmohnkohfaaGreatDoorRa
namespace Go.Proofs.YtnbodmohnkohfaaGreatDoor.AW
open Go.RowKit
set_option maxHeartbeats 8000000
set_option maxRecDepth 100000
set_option linter.unusedSimpArgs false
set_option linter.unusedVariables false

def renS (a b s : ByteArray) : ByteArray := if s = a then b else s
def renCall (a b : ByteArray) (x : NodeD) : NodeD := if x.kind == 12 then ⟨x.kind, x.num, renS a b x.name, x.kids⟩ else x
def renFnD (a b : ByteArray) (f : FnD) : FnD := ⟨renS a b f.name, f.params, f.res, f.body, f.ret⟩
def renFns (a b : ByteArray) (p : ProgramD) : ProgramD := ⟨p.nodes.map (renCall a b), p.fns.map (renFnD a b)⟩
/-- A list of which the first ones have been changed. -/
def mixL {α : Type} (g : α → α) (l : List α) (i : Nat) : List α := (l.take i).map g ++ l.drop i
theorem mixL_length {α : Type} (g : α → α) (l : List α) (i : Nat) : (mixL g l i).length = l.length := by simp [mixL]; omega
theorem mixL_zero {α : Type} (g : α → α) (l : List α) : mixL g l 0 = l := by simp [mixL]
theorem mixL_end {α : Type} (g : α → α) (l : List α) : mixL g l l.length = l.map g := by simp [mixL]
theorem mixL_get {α : Type} (g : α → α) (l : List α) {i : Nat} (h : i < l.length) (h2 : i < (mixL g l i).length) : (mixL g l i)[i] = l[i] := by
  simp only [mixL]
  rw [List.getElem_append_right (by simp; omega)]
  simp [Nat.min_eq_left (Nat.le_of_lt h)]
theorem mixL_set {α : Type} (g : α → α) (l : List α) {i : Nat} (h : i < l.length) : (mixL g l i).set i (g l[i]) = mixL g l (i + 1) := by
  have e : ((l.take i).map g).length = i := by simp; omega
  unfold mixL
  rw [List.drop_eq_getElem_cons h, List.set_append_right _ _ (by rw [e]; omega), e, Nat.sub_self, List.set_cons_zero, List.take_succ_eq_append_getElem h, List.map_append, List.append_assoc]
  rfl
theorem mixL_skip {α : Type} (g : α → α) (l : List α) {i : Nat} (h : i < l.length) (hg : g l[i] = l[i]) : mixL g l i = mixL g l (i + 1) := by
  rw [← mixL_set g l h, hg]
  apply List.ext_getElem
  · simp
  · intro j h1 h2
    rw [List.getElem_set]
    split
    · rename_i e; subst e; rw [mixL_get g l h]
    · rfl
theorem node_setn {l : List NodeD} {i : Nat} (h : i < l.length) (s : ByteArray) : setCellAt (rows (nodeC false) l) i 2 (.sc (.string s)) = rows (nodeC false) (l.set i ⟨l[i].kind, l[i].num, s, l[i].kids⟩) := by
  unfold setCellAt
  rw [rows_get _ _ h, ← rows_set]; rfl
theorem fn_setn {l : List FnD} {i : Nat} (h : i < l.length) (s : ByteArray) : setCellAt (rows (fnC false) l) i 0 (.sc (.string s)) = rows (fnC false) (l.set i ⟨s, l[i].params, l[i].res, l[i].body, l[i].ret⟩) := by
  unfold setCellAt
  rw [rows_get _ _ h, ← rows_set]; rfl
theorem set_same {α : Type} (l : List α) {i : Nat} (h : i < l.length) {x : α} (e : x = l[i]) : l.set i x = l := by
  subst e
  apply List.ext_getElem
  · simp
  · intro j h1 h2
    rw [List.getElem_set]
    split
    · rename_i e; subst e; rfl
    · rfl

theorem cloFn_sound (s a b : ByteArray) : Sound Tryz.prog 55 [.ro (.sc (.string s)), .ro (.ip [cS a] 0), .ro (.ip [cS b] 0)] (fun rs st => rs = [(false, [cS (renS a b s)])]) := by
  refine sound_tri (fn := Tryz.f55) (c := Tryz.f55.body.getD .skip) (res := [.tm 4]) (n := 10) sized (by kernel_rfl) (by rfl) (by kernel_rfl) (by rfl) (by rfl) (by simp [argsV]) (fun uf ub C hpin hpin2 hfull => ?_)
  simp only [Tryz.f55, Option.getD_some]
  unfold renS
  refine Tri.step sized ?_
  simp (decide := true) only [drop0, row1_length, rows_length, programW, programC, cI, cB, cS, roI, ro64, hpin, go_sem, Nat.reduceAdd, Nat.reduceMul]
  by_cases h : s = a
  · have h1 : decide (s = a) = true := decide_eq_true h
    rw [if_pos h]
    refine Tri.step sized ?_
    simp (decide := true) only [h1, drop0, row1_length, rows_length, programW, programC, cI, cB, cS, roI, ro64, hpin, go_sem, Nat.reduceAdd, Nat.reduceMul]
  · have h1 : decide (s = a) = false := decide_eq_false h
    rw [if_neg h]
    refine Tri.step sized ?_
    simp (decide := true) only [h1, drop0, row1_length, rows_length, programW, programC, cI, cB, cS, roI, ro64, hpin, go_sem, Nat.reduceAdd, Nat.reduceMul]
    refine code_sound sized _ ?_
    simp (decide := true) only [h1, drop0, row1_length, rows_length, programW, programC, cI, cB, cS, roI, ro64, hpin, go_sem, Nat.reduceAdd, Nat.reduceMul]
theorem renamedFns_sound (p : ProgramD) (a b : ByteArray) (hf : p.fns.length ≤ 1048576) (hn : p.nodes.length ≤ 1048576) (hk : ∀ x ∈ p.nodes, x.kids.length ≤ 1048576) (hpl : ∀ f ∈ p.fns, f.params.length ≤ 1048576) :
    Sound Tryz.prog 54 [.ro (programW p), .ro (.clo 55 [[cS a], [cS b]])] (fun rs st => rs = [(true, programC false (renFns a b p))]) := by
  have hcp := copyProgram_sound p hf hn hk hpl
  simp only [programW] at hcp
  unfold renFns
  refine sound_tri (fn := Tryz.f54) (c := Tryz.f54.body.getD .skip) (res := [.ce 4 33]) (n := 57) sized (by kernel_rfl) (by rfl) (by kernel_rfl) (by rfl) (by rfl) (by simp [argsV]) (fun uf ub C hpin hpin2 hfull => ?_)
  simp only [Tryz.f54, Option.getD_some]
  refine Tri.step sized ?_
  simp (decide := true) only [drop0, row1_length, rows_length, programW, programC, cI, cB, cS, roI, ro64, hpin, go_sem, Nat.reduceAdd, Nat.reduceMul]
  refine Tri.ent ?_ (Ent.frb hfull 2)
  refine Tri.step sized ?_
  simp (decide := true) only [drop0, row1_length, rows_length, programW, programC, cI, cB, cS, roI, ro64, hpin, go_sem, Nat.reduceAdd, Nat.reduceMul]
  refine aCall_det hcp hpin ?_
  simp (decide := true) only [drop0, row1_length, rows_length, programW, programC, cI, cB, cS, roI, ro64, hpin, go_sem, Nat.reduceAdd, Nat.reduceMul]
  refine Tri.stop sized ⟨57, [(1, .clo 55 [[cS a], [cS b]]), (4, .bp 4 0), (5, .bp 5 0)], [(4, .box [.sc (.slice none 0 0), .sc (.slice none 0 0)]), (5, .box [.row false 60 (rows (nodeC false) (p.nodes.map (renCall a b))), .row false 80 (rows (fnC false) p.fns)])]⟩ ?_ ?_
  · simp (decide := true) only [drop0, row1_length, rows_length, programW, programC, cI, cB, cS, roI, ro64, hpin, go_sem, Nat.reduceAdd, Nat.reduceMul]
    refine Tri.loop (ι := Nat) (fun i => i ≤ p.nodes.length) (fun i => ⟨57, [(1, .clo 55 [[cS a], [cS b]]), (4, .bp 4 0), (5, .bp 5 0), (13, vI p.nodes.length), (14, vI i)], [(4, .box [.sc (.slice none 0 0), .sc (.slice none 0 0)]), (5, .box [.row false 60 (rows (nodeC false) (mixL (renCall a b) p.nodes i)), .row false 80 (rows (fnC false) p.fns)])]⟩) (fun i => p.nodes.length - i) 0 (by simp) ?_ ?_
    · refine Ent.weak ?_ ?_ ?_ ?_ <;> simp (decide := true) [subT, subB, hereT, hereV, hereL, St.get, look, vI, vB, vS, cI, cS, cB, nodeC, programC, roI, mixL_zero]
    · rintro i hi
      refine code_sound sized _ ?_
      have hml := mixL_length (renCall a b) p.nodes i
      by_cases h' : i < p.nodes.length
      · have e : ((i : Int) < (p.nodes.length : Int)) = True := by simp [h']
        have h2 : i < (mixL (renCall a b) p.nodes i).length := by omega
        have hg := mixL_get (renCall a b) p.nodes h' h2
        have hst := mixL_set (renCall a b) p.nodes h'
        have hsk := mixL_skip (renCall a b) p.nodes h'
        have hsn := fun s => node_setn h2 s
        have hq := rows_getq (nodeC false) _ h2
        have hc2 := rows_cell (nodeC false) (mixL (renCall a b) p.nodes i) 2 h2
        have hc0 := rows_cell (nodeC false) (mixL (renCall a b) p.nodes i) 0 h2
        rw [hg] at hsn hq hc2 hc0
        obtain ⟨L2, hL2⟩ : ∃ L, L = mixL (renCall a b) p.nodes (i + 1) := ⟨_, rfl⟩
        rw [← hL2] at hst hsk
        generalize mixL (renCall a b) p.nodes i = L at hml h2 hst hsk hsn hq hc2 hc0 ⊢
        generalize p.nodes[i] = x at hst hsk hsn hq hc2 hc0
        unfold renCall at hst hsk
        simp only [nodeC, cI, cS] at hq hc2 hc0
        cases h12 : x.kind == 12 with
        | true =>
          rw [h12, if_pos rfl] at hst
          simp (decide := true) only [e, h', hml, hq, hc2, hc0, h12, Int.natCast_nonneg, vB, vI, drop0, row1_length, rows_length, programW, programC, cI, cB, cS, roI, ro64, hpin, go_sem, Nat.reduceAdd, Nat.reduceMul]
          refine aCall_det (cloFn_sound x.name a b) hpin ?_
          have hsn2 := hsn (renS a b x.name)
          rw [hst] at hsn2
          have hsn3 : (rows (nodeC false) L).set i (((rows (nodeC false) L)[i]?.getD []).set 2 (D.sc (.string (renS a b x.name)))) = rows (nodeC false) L2 := by rw [← hsn2]; unfold setCellAt; simp [List.getD]
          simp (decide := true) only [e, h', hml, hq, hc2, hc0, hsn2, Int.natCast_nonneg, vB, vI, drop0, row1_length, rows_length, programW, programC, cI, cB, cS, roI, ro64, hpin, go_sem, Nat.reduceAdd, Nat.reduceMul]
          refine ⟨i + 1, h', by omega, Ent.weak ?_ ?_ ?_ ?_⟩
          all_goals simp (decide := true) [subT, subB, hereT, hereV, hereL, St.get, look, vI, vB, vS, cI, cS, cB, nodeC, programC, roI, ← hL2, hsn3, w64s (n := p.nodes.length) h' (by omega)]
        | false =>
          rw [h12] at hsk
          have hsk2 := hsk (by simp)
          simp (decide := true) only [e, h', hml, hq, hc2, hc0, h12, Int.natCast_nonneg, vB, vI, drop0, row1_length, rows_length, programW, programC, cI, cB, cS, roI, ro64, hpin, go_sem, Nat.reduceAdd, Nat.reduceMul]
          refine ⟨i + 1, h', by omega, Ent.weak ?_ ?_ ?_ ?_⟩
          all_goals simp (decide := true) [subT, subB, hereT, hereV, hereL, St.get, look, vI, vB, vS, cI, cS, cB, nodeC, programC, roI, ← hL2, hsk2, w64s (n := p.nodes.length) h' (by omega)]
      · have hil : i = p.nodes.length := by omega
        subst hil
        have e : ((p.nodes.length : Int) < (p.nodes.length : Int)) = False := by simp
        simp (decide := true) only [e, vB, vI, drop0, row1_length, rows_length, programW, programC, cI, cB, cS, roI, ro64, hpin, go_sem, Nat.reduceAdd, Nat.reduceMul]
        refine Ent.weak ?_ ?_ ?_ ?_
        all_goals simp (decide := true) [subT, subB, hereT, hereV, hereL, St.get, look, vI, vB, vS, cI, cS, cB, nodeC, programC, roI, mixL_end]
  generalize p.nodes.map (renCall a b) = N
  refine Tri.stop sized ⟨57, [(4, .bp 4 0), (5, .bp 5 0)], [(4, .box [.sc (.slice none 0 0), .sc (.slice none 0 0)]), (5, .box [.row false 60 (rows (nodeC false) N), .row false 80 (rows (fnC false) (p.fns.map (renFnD a b)))])]⟩ ?_ ?_
  · simp (decide := true) only [drop0, row1_length, rows_length, programW, programC, cI, cB, cS, roI, ro64, hpin, go_sem, Nat.reduceAdd, Nat.reduceMul]
    refine Tri.loop (ι := Nat) (fun i => i ≤ p.fns.length) (fun i => ⟨57, [(1, .clo 55 [[cS a], [cS b]]), (4, .bp 4 0), (5, .bp 5 0), (38, vI p.fns.length), (39, vI i)], [(4, .box [.sc (.slice none 0 0), .sc (.slice none 0 0)]), (5, .box [.row false 60 (rows (nodeC false) N), .row false 80 (rows (fnC false) (mixL (renFnD a b) p.fns i))])]⟩) (fun i => p.fns.length - i) 0 (by simp) ?_ ?_
    · refine Ent.weak ?_ ?_ ?_ ?_ <;> simp (decide := true) [subT, subB, hereT, hereV, hereL, St.get, look, vI, vB, vS, cI, cS, cB, nodeC, programC, roI, mixL_zero]
    · rintro i hi
      refine code_sound sized _ ?_
      have hml := mixL_length (renFnD a b) p.fns i
      by_cases h' : i < p.fns.length
      · have e : ((i : Int) < (p.fns.length : Int)) = True := by simp [h']
        have h2 : i < (mixL (renFnD a b) p.fns i).length := by omega
        have hg := mixL_get (renFnD a b) p.fns h' h2
        have hst := mixL_set (renFnD a b) p.fns h'
        have hsn := fun s => fn_setn h2 s
        have hq := rows_getq (fnC false) _ h2
        rw [hg] at hsn hq
        obtain ⟨L2, hL2⟩ : ∃ L, L = mixL (renFnD a b) p.fns (i + 1) := ⟨_, rfl⟩
        rw [← hL2] at hst
        generalize mixL (renFnD a b) p.fns i = L at hml h2 hst hsn hq ⊢
        generalize p.fns[i] = x at hst hsn hq
        unfold renFnD at hst
        have hsn2 := hsn (renS a b x.name)
        rw [hst] at hsn2
        simp only [fnC, cI, cS] at hq
        simp (decide := true) only [e, vB, vI, drop0, row1_length, rows_length, programW, programC, cI, cB, cS, roI, ro64, hpin, go_sem, Nat.reduceAdd, Nat.reduceMul]
        refine Tri.fork sized (.one 0 true (.one 2 true (.one 3 true (.one 4 true (.one 6 true (.two 1 (.one 5 false (.one 7 false (.one 8 false (.one 9 false (.one 10 false (.one 11 false (.one 12 false (.one 13 false .done)))))))) 5 (.one 7 true (.one 8 true (.two 1 (.one 9 false (.one 10 false (.one 11 false (.one 12 false (.one 13 false .done))))) 9 (.two 1 (.one 10 false (.one 11 false (.one 12 false (.one 13 false .done)))) 10 (.one 1 false (.one 11 false (.one 12 false (.one 13 false .done)))))))))))))) mixed (by kernel_rfl) (fun C2 hC2 => ?_)
        have hp2 : ∀ o, isPin o = false → C2.pin o = none := by rw [hC2]; exact hpin
        have hcl := cloFn_sound x.name a b
        simp (decide := true) only [e, h', hml, hq, Int.natCast_nonneg, vB, vI, drop0, row1_length, rows_length, programW, programC, cI, cB, cS, roI, ro64, hp2, hpin, go_sem, Nat.reduceAdd, Nat.reduceMul]
        have hsn3 : (rows (fnC false) L).set i (((rows (fnC false) L)[i]?.getD []).set 0 (D.sc (.string (renS a b x.name)))) = rows (fnC false) L2 := by rw [← hsn2]; unfold setCellAt; simp [List.getD]
        refine ⟨aCall_det hcl hp2 ?_, aCall_det hcl hp2 ?_, aCall_det hcl hp2 ?_, aCall_det hcl hp2 ?_⟩
        all_goals
          simp (decide := true) only [e, h', hml, hq, hsn2, Int.natCast_nonneg, vB, vI, drop0, row1_length, rows_length, programW, programC, cI, cB, cS, roI, ro64, hp2, hpin, go_sem, Nat.reduceAdd, Nat.reduceMul]
          refine ⟨i + 1, h', by omega, Ent.weak ?_ ?_ ?_ ?_⟩
        all_goals simp (decide := true) [subT, subB, hereT, hereV, hereL, St.get, look, vI, vB, vS, cI, cS, cB, nodeC, programC, roI, ← hL2, hsn3, w64s (n := p.fns.length) h' (by omega)]
      · have hil : i = p.fns.length := by omega
        subst hil
        have e : ((p.fns.length : Int) < (p.fns.length : Int)) = False := by simp
        simp (decide := true) only [e, vB, vI, drop0, row1_length, rows_length, programW, programC, cI, cB, cS, roI, ro64, hpin, go_sem, Nat.reduceAdd, Nat.reduceMul]
        refine Ent.weak ?_ ?_ ?_ ?_
        all_goals simp (decide := true) [subT, subB, hereT, hereV, hereL, St.get, look, vI, vB, vS, cI, cS, cB, nodeC, programC, roI, mixL_end]
  refine code_sound sized _ ?_
  simp (decide := true) only [drop0, row1_length, rows_length, programW, programC, cI, cB, cS, roI, ro64, hpin, go_sem, Nat.reduceAdd, Nat.reduceMul]
end Go.Proofs.YtnbodmohnkohfaaGreatDoor.AW
