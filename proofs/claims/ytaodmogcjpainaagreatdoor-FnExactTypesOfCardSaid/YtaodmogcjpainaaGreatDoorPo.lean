/- Whom a function calls, both sides. No condition beyond those named. -/
import Derived.Test.YtaodmogcjpainaaGreatDoorPn
namespace Go.Proofs.YtaodmogcjpainaaGreatDoor.AW
open Go.RowKit
set_option maxHeartbeats 8000000
set_option maxRecDepth 100000
set_option linter.unusedSimpArgs false
set_option linter.unusedVariables false

def callStep (p : ProgramD) (out : List Int) (k : Int) : List Int :=
  if (nAt p.nodes k).kind == 12 then (if 0 ≤ fnAtP p.fns (nAt p.nodes k).name then addI out (fnAtP p.fns (nAt p.nodes k).name) else out) else out
noncomputable def callsL (p : ProgramD) (fn : Int) : List Int := (fnNs p fn).foldl (callStep p) []
theorem callStep_length (p : ProgramD) (out : List Int) (k : Int) : (callStep p out k).length ≤ out.length + 1 := by
  unfold callStep
  split
  · split
    · exact addI_length _ _
    · omega
  · omega
theorem calls_length (p : ProgramD) : ∀ (l : List Int) (out : List Int), (l.foldl (callStep p) out).length ≤ out.length + l.length
  | [], out => by simp
  | k :: r, out => by
    have h1 := calls_length p r (callStep p out k)
    have h2 := callStep_length p out k
    simp only [List.foldl_cons, List.length_cons]; omega
theorem calls_take (p : ProgramD) (l : List Int) {i : Nat} (h : i < l.length) : (l.take (i + 1)).foldl (callStep p) [] = callStep p ((l.take i).foldl (callStep p) []) l[i] := by
  rw [List.take_succ_eq_append_getElem h, List.foldl_append]; rfl
theorem fnNs_node (p : ProgramD) (fn : Int) {i : Nat} (h : i < (fnNs p fn).length) : 0 ≤ (fnNs p fn)[i] ∧ (fnNs p fn)[i].toNat < p.nodes.length := by
  obtain ⟨k, _, hk⟩ := (fnNs_mem p fn _).1 (List.getElem_mem h)
  have := underP_mem hk
  exact ⟨this.1, this.2.1⟩

theorem callsI_sound (p : ProgramD) (fn : Int) (hf : p.fns.length ≤ 1048576) (hn : p.nodes.length ≤ 1048576) (hk : ∀ x ∈ p.nodes, x.kids.length ≤ 1048576) : Sound Tryz.prog 10 [.ro (programW p), .ro (.sc (.int .i64 fn))] (fun rs st => rs = [(false, [.row false 3 (row1 cI (callsL p fn))])]) := by
  refine sound_tri (fn := Tryz.f10) (c := Tryz.f10.body.getD .skip) (res := [.tm 4]) (n := 44) sized (by kernel_rfl) (by rfl) (by kernel_rfl) (by rfl) (by rfl) (by simp [argsV]) (fun uf ub C hpin hpin2 hfull => ?_)
  simp only [Tryz.f10, Option.getD_some]
  refine Tri.step sized ?_
  simp (decide := true) only [programW, programC, drop0, row1_length, rows_length, cI, cB, cS, roI, ro64, hpin, go_sem, Nat.reduceAdd, Nat.reduceMul]
  refine Tri.ent ?_ (Ent.frb hfull 2)
  refine Tri.step sized ?_
  simp (decide := true) only [programW, programC, drop0, row1_length, rows_length, cI, cB, cS, roI, ro64, hpin, go_sem, Nat.reduceAdd, Nat.reduceMul]
  refine Tri.step sized ?_
  simp (decide := true) only [programW, programC, drop0, row1_length, rows_length, cI, cB, cS, roI, ro64, hpin, go_sem, Nat.reduceAdd, Nat.reduceMul]
  refine aCall_det (fnNodes_sound p fn hf hn hk) hpin ?_
  simp (decide := true) only [programW, programC, drop0, row1_length, rows_length, cI, cB, cS, roI, ro64, hpin, go_sem, Nat.reduceAdd, Nat.reduceMul]
  unfold callsL
  have hll := fnNs_length p fn
  have hnode := fun i (h : i < (fnNs p fn).length) => fnNs_node p fn h
  generalize fnNs p fn = L at hll hnode ⊢
  refine Tri.loop (ι := Nat) (fun i => i ≤ L.length) (fun i => ⟨44, [(2, .ip (programC true p) 0), (5, .ref 5 [] ((L.take i).foldl (callStep p) []).length), (12, .ref 3012 [] L.length), (13, vI L.length), (14, vI i)], [(3012, .row 3 (row1 cI L)), (5, .row 3 (row1 cI ((L.take i).foldl (callStep p) [])))]⟩) (fun i => L.length - i) 0 (by simp) ?_ ?_
  · refine Ent.weak ?_ ?_ ?_ ?_ <;> simp (decide := true) [subT, subB, hereT, hereV, hereL, St.get, look, vI, vB, vS, cI, cS, cB, nodeC, roI, programC, row1]
  · rintro i hi
    refine code_sound sized _ ?_
    have hol := calls_length p (L.take i) []
    simp only [List.length_nil, List.length_take] at hol
    by_cases h' : i < L.length
    · have e : ((i : Int) < (L.length : Int)) = True := by simp [h']
      obtain ⟨g0, g1⟩ := hnode i h'
      have z0 : (0 ≤ L[i]) = True := eq_true g0
      have z1 : (L[i] < (p.nodes.length : Int)) = True := eq_true (by omega)
      have hct := calls_take p L h'
      have hat : nAt p.nodes L[i] = p.nodes[L[i].toNat] := nAt_get g1
      have hfr := findN_range p.nodes[L[i].toNat].name p.fns 0
      have htk := row1_takeL cI ((L.take i).foldl (callStep p) [])
      simp only [callStep, hat] at hct
      generalize hO : (L.take i).foldl (callStep p) [] = O at hol hct htk
      generalize hX : p.nodes[L[i].toNat] = x at hct hfr
      simp (decide := true) only [e, z0, z1, h', row1_getq' _ _ h', rows_get _ _ g1, hX, nodeC, programC, Int.natCast_nonneg, vB, vI, drop0, row1_length, rows_length, cI, cB, cS, roI, ro64, hpin, go_sem, Nat.reduceAdd, Nat.reduceMul]
      cases hb : x.kind == 12 with
      | false =>
        rw [hb, if_neg (by decide)] at hct
        simp (decide := true) only [hb, drop0, row1_length, rows_length, cI, cB, cS, roI, ro64, hpin, go_sem, Nat.reduceAdd, Nat.reduceMul]
        refine ⟨i + 1, h', by omega, Ent.weak ?_ ?_ ?_ ?_⟩
        all_goals simp (decide := true) [subT, subB, hereT, hereV, hereL, St.get, look, vI, vB, vS, cI, cS, cB, nodeC, roI, programC, hct, w64s (n := L.length) h' (by omega)]
      | true =>
        rw [hb, if_pos rfl] at hct
        have hfs := fnAtI_sound p x.name hf
        have hfe : fnAtP p.fns x.name = findN x.name p.fns 0 := rfl
        rw [← hfe] at hfr
        simp (decide := true) only [hb, programC, drop0, row1_length, rows_length, cI, cB, cS, roI, ro64, hpin, go_sem, Nat.reduceAdd, Nat.reduceMul]
        refine aCall_det hfs hpin ?_
        generalize fnAtP p.fns x.name = at_ at hct hfr ⊢
        by_cases ha : 0 ≤ at_
        · have ha1 : (0 ≤ at_) = True := eq_true ha
          rw [if_pos ha] at hct
          simp (decide := true) only [ha1, htk, programW, programC, drop0, row1_length, rows_length, cI, cB, cS, roI, ro64, hpin, go_sem, Nat.reduceAdd, Nat.reduceMul]
          refine aCall_det (hasInt_sound O at_ (by omega)) hpin ?_
          unfold addI at hct
          cases hc : O.contains at_ with
          | true =>
            rw [hc, if_pos rfl] at hct
            simp (decide := true) only [hc, htk, drop0, row1_length, rows_length, cI, cB, cS, roI, ro64, hpin, go_sem, Nat.reduceAdd, Nat.reduceMul]
            refine ⟨i + 1, h', by omega, Ent.weak ?_ ?_ ?_ ?_⟩
            all_goals simp (decide := true) [subT, subB, hereT, hereV, hereL, St.get, look, vI, vB, vS, cI, cS, cB, nodeC, roI, programC, hct, w64s (n := L.length) h' (by omega)]
          | false =>
            rw [hc, if_neg (by decide)] at hct
            have hb1 : O.length + 1 ≤ 140737488355328 := by omega
            have hb2 : (O.length + 1) * 8 ≤ 140737488355328 := by omega
            have hsn := row1_snoc cI O at_
            simp only [cI] at hsn
            simp (decide := true) only [hc, htk, hb1, hb2, drop0, row1_length, rows_length, cI, cB, cS, roI, ro64, hpin, go_sem, Nat.reduceAdd, Nat.reduceMul]
            refine ⟨i + 1, h', by omega, Ent.weak ?_ ?_ ?_ ?_⟩
            all_goals simp (decide := true) [subT, subB, hereT, hereV, hereL, St.get, look, vI, vB, vS, cI, cS, cB, nodeC, roI, programC, hct, hsn, w64s (n := L.length) h' (by omega)]
        · have ha1 : (0 ≤ at_) = False := eq_false ha
          rw [if_neg ha] at hct
          simp (decide := true) only [ha1, htk, programW, programC, drop0, row1_length, rows_length, cI, cB, cS, roI, ro64, hpin, go_sem, Nat.reduceAdd, Nat.reduceMul]
          refine ⟨i + 1, h', by omega, Ent.weak ?_ ?_ ?_ ?_⟩
          all_goals simp (decide := true) [subT, subB, hereT, hereV, hereL, St.get, look, vI, vB, vS, cI, cS, cB, nodeC, roI, programC, hct, w64s (n := L.length) h' (by omega)]
    · have hil : i = L.length := by omega
      subst hil
      have e : ((L.length : Int) < (L.length : Int)) = False := by simp
      simp (decide := true) only [e, List.take_length, vB, vI, drop0, row1_length, rows_length, cI, cB, cS, roI, ro64, hpin, go_sem, Nat.reduceAdd, Nat.reduceMul]
      refine code_sound sized _ ?_
      simp (decide := true) only [drop0, row1_length, rows_length, cI, cB, cS, roI, ro64, hpin, go_sem, Nat.reduceAdd, Nat.reduceMul]

theorem callsS_sound (p : ProgramD) (fn : Int) (hf : p.fns.length ≤ 1048576) (hn : p.nodes.length ≤ 1048576) (hk : ∀ x ∈ p.nodes, x.kids.length ≤ 1048576) : Sound Tryz.prog 8 [.ro (programW p), .ro (.sc (.int .i64 fn))] (fun rs st => rs = [(false, [.row false 3 (row1 cI (callsL p fn))])]) := by
  refine sound_tri (fn := Tryz.f8) (c := Tryz.f8.body.getD .skip) (res := [.tm 4]) (n := 46) sized (by kernel_rfl) (by rfl) (by kernel_rfl) (by rfl) (by rfl) (by simp [argsV]) (fun uf ub C hpin hpin2 hfull => ?_)
  simp only [Tryz.f8, Option.getD_some]
  refine Tri.step sized ?_
  simp (decide := true) only [programW, programC, drop0, row1_length, rows_length, cI, cB, cS, roI, ro64, hpin, go_sem, Nat.reduceAdd, Nat.reduceMul]
  refine Tri.ent ?_ (Ent.frb hfull 2)
  refine Tri.step sized ?_
  simp (decide := true) only [programW, programC, drop0, row1_length, rows_length, cI, cB, cS, roI, ro64, hpin, go_sem, Nat.reduceAdd, Nat.reduceMul]
  refine Tri.step sized ?_
  simp (decide := true) only [programW, programC, drop0, row1_length, rows_length, cI, cB, cS, roI, ro64, hpin, go_sem, Nat.reduceAdd, Nat.reduceMul]
  refine aCall_det (all_sound p fn hf hn hk) hpin ?_
  simp (decide := true) only [programW, programC, drop0, row1_length, rows_length, cI, cB, cS, roI, ro64, hpin, go_sem, Nat.reduceAdd, Nat.reduceMul]
  refine Tri.ent ?_ (Ent.frz hfull 6)
  refine Tri.step sized ?_
  simp (decide := true) only [programW, programC, drop0, row1_length, rows_length, cI, cB, cS, roI, ro64, hpin, go_sem, Nat.reduceAdd, Nat.reduceMul]
  unfold callsL
  have hll := fnNs_length p fn
  have hnode := fun i (h : i < (fnNs p fn).length) => fnNs_node p fn h
  generalize fnNs p fn = L at hll hnode ⊢
  refine Tri.loop (ι := Nat) (fun i => i ≤ L.length) (fun i => ⟨46, [(2, .ip (programC true p) 0), (5, .ref 5 [] ((L.take i).foldl (callStep p) []).length), (6, roI L), (7, vI i)], [(5, .row 3 (row1 cI ((L.take i).foldl (callStep p) [])))]⟩) (fun i => L.length - i) 0 (by simp) ?_ ?_
  · refine Ent.weak ?_ ?_ ?_ ?_ <;> simp (decide := true) [subT, subB, hereT, hereV, hereL, St.get, look, vI, vB, vS, cI, cS, cB, nodeC, roI, programC, row1]
  · rintro i hi
    refine code_sound sized _ ?_
    have hol := calls_length p (L.take i) []
    simp only [List.length_nil, List.length_take] at hol
    by_cases h' : i < L.length
    · have e : ((i : Int) < (L.length : Int)) = True := by simp [h']
      obtain ⟨g0, g1⟩ := hnode i h'
      have z0 : (0 ≤ L[i]) = True := eq_true g0
      have z1 : (L[i] < (p.nodes.length : Int)) = True := eq_true (by omega)
      have hct := calls_take p L h'
      have hat : nAt p.nodes L[i] = p.nodes[L[i].toNat] := nAt_get g1
      have htk := row1_takeL cI ((L.take i).foldl (callStep p) [])
      simp only [callStep, hat] at hct
      generalize hO : (L.take i).foldl (callStep p) [] = O at hol hct htk
      generalize hX : p.nodes[L[i].toNat] = x at hct
      simp (decide := true) only [e, vB, vI, drop0, row1_length, rows_length, cI, cB, cS, roI, ro64, hpin, go_sem, Nat.reduceAdd, Nat.reduceMul]
      refine Tri.sched sized [(0, true), (2, true), (3, true), (4, true), (1, true), (5, false), (6, false), (7, false), (8, false), (9, false)] mixed (by kernel_rfl) (fun C2 hC2 => ?_)
      have hp2 : ∀ o, isPin o = false → C2.pin o = none := by rw [hC2]; exact hpin
      simp (decide := true) only [e, z0, z1, row1_get _ _ h', rows_get _ _ g1, hX, bne, nodeC, programC, Int.natCast_nonneg, vB, vI, drop0, row1_length, rows_length, cI, cB, cS, roI, ro64, hp2, go_sem, Nat.reduceAdd, Nat.reduceMul]
      cases hb : x.kind == 12 with
      | false =>
        rw [hb, if_neg (by decide)] at hct
        simp (decide := true) only [hb, drop0, row1_length, rows_length, cI, cB, cS, roI, ro64, hpin, go_sem, Nat.reduceAdd, Nat.reduceMul]
        refine ⟨i + 1, h', by omega, Ent.weak ?_ ?_ ?_ ?_⟩
        all_goals simp (decide := true) [subT, subB, hereT, hereV, hereL, St.get, look, vI, vB, vS, cI, cS, cB, nodeC, roI, programC, hct, w64s (n := L.length) h' (by omega)]
      | true =>
        rw [hb, if_pos rfl] at hct
        have hfs := fnAtS_sound p x.name hf
        simp (decide := true) only [hb, programC, drop0, row1_length, rows_length, cI, cB, cS, roI, ro64, hpin, go_sem, Nat.reduceAdd, Nat.reduceMul]
        refine Tri.sched sized [(1, true), (3, true), (4, true), (5, true), (0, true), (2, true), (6, false), (7, false), (8, false), (9, false), (10, false), (11, false)] mixed (by kernel_rfl) (fun C3 hC3 => ?_)
        have hp3 : ∀ o, isPin o = false → C3.pin o = none := by rw [hC3]; exact hpin
        simp (decide := true) only [e, z0, z1, row1_get _ _ h', rows_get _ _ g1, hX, nodeC, programC, Int.natCast_nonneg, vB, vI, drop0, row1_length, rows_length, cI, cB, cS, roI, ro64, hp3, go_sem, Nat.reduceAdd, Nat.reduceMul]
        refine aCall_det hfs hp3 ?_
        generalize fnAtP p.fns x.name = at_ at hct ⊢
        by_cases ha : 0 ≤ at_
        · have ha1 : (0 ≤ at_) = True := eq_true ha
          rw [if_pos ha] at hct
          simp (decide := true) only [ha1, htk, programW, programC, drop0, row1_length, rows_length, cI, cB, cS, roI, ro64, hp3, hpin, go_sem, Nat.reduceAdd, Nat.reduceMul]
          refine aCall_det (add_sound O at_ (by omega)) hpin ?_
          simp (decide := true) only [drop0, row1_length, rows_length, cI, cB, cS, roI, ro64, hpin, go_sem, Nat.reduceAdd, Nat.reduceMul]
          refine ⟨i + 1, h', by omega, Ent.weak ?_ ?_ ?_ ?_⟩
          all_goals simp (decide := true) [subT, subB, hereT, hereV, hereL, St.get, look, vI, vB, vS, cI, cS, cB, nodeC, roI, programC, hct, w64s (n := L.length) h' (by omega)]
        · have ha1 : (0 ≤ at_) = False := eq_false ha
          rw [if_neg ha] at hct
          simp (decide := true) only [ha1, htk, programW, programC, drop0, row1_length, rows_length, cI, cB, cS, roI, ro64, hp3, hpin, go_sem, Nat.reduceAdd, Nat.reduceMul]
          refine ⟨i + 1, h', by omega, Ent.weak ?_ ?_ ?_ ?_⟩
          all_goals simp (decide := true) [subT, subB, hereT, hereV, hereL, St.get, look, vI, vB, vS, cI, cS, cB, nodeC, roI, programC, hct, w64s (n := L.length) h' (by omega)]
    · have hil : i = L.length := by omega
      subst hil
      have e : ((L.length : Int) < (L.length : Int)) = False := by simp
      simp (decide := true) only [e, List.take_length, vB, vI, drop0, row1_length, rows_length, cI, cB, cS, roI, ro64, hpin, go_sem, Nat.reduceAdd, Nat.reduceMul]
      refine code_sound sized _ ?_
      simp (decide := true) only [drop0, row1_length, rows_length, cI, cB, cS, roI, ro64, hpin, go_sem, Nat.reduceAdd, Nat.reduceMul]
theorem callsL_length (p : ProgramD) (fn : Int) : (callsL p fn).length ≤ p.nodes.length := by
  have h1 := calls_length p (fnNs p fn) []
  have h2 := fnNs_length p fn
  unfold callsL
  simp only [List.length_nil] at h1
  omega
theorem node_marks : ∀ l : List NodeD, sumN nodeN l ≤ 3 * l.length + sumN nodeCost l
  | [] => by simp [sumN]
  | x :: r => by
    have := node_marks r
    simp only [sumN, List.map_cons, List.sum_cons, List.length_cons] at this ⊢
    have e : nodeN x ≤ 3 + nodeCost x := by unfold nodeN nodeCost; omega
    omega
theorem two_marks {α : Type} {f : α → Nat} (h : ∀ x, f x = 2) : ∀ l : List α, sumN f l = 2 * l.length
  | [] => by simp [sumN]
  | x :: r => by
    have := two_marks h r
    simp only [sumN, List.map_cons, List.sum_cons, List.length_cons] at this ⊢
    rw [h x]; omega
theorem fn_marks : ∀ l : List FnD, sumN fnN l ≤ 4 * l.length + 2 * sumN fnCost l
  | [] => by simp [sumN]
  | x :: r => by
    have := fn_marks r
    simp only [sumN, List.map_cons, List.sum_cons, List.length_cons] at this ⊢
    have e : fnN x ≤ 4 + 2 * fnCost x := by
      have h := two_marks (f := paramN) (fun _ => rfl) x.params
      unfold fnN fnCost; omega
    omega
end Go.Proofs.YtaodmogcjpainaaGreatDoor.AW
