/- What nodes do with each name, both sides. No condition beyond those named. -/
import Derived.Test.YtnbodmohnkohfaaGreatDoorQo
namespace Go.Proofs.YtnbodmohnkohfaaGreatDoor.AW
open Go.RowKit
set_option maxHeartbeats 8000000
set_option maxRecDepth 100000
set_option linter.unusedSimpArgs false
set_option linter.unusedVariables false

noncomputable def effL (p : ProgramD) (fn : Int) (R : List Int) : List EffectD := if tyGood p fn then effFold p.nodes (tyList p fn) (anyNs p R) else []
theorem eff_set (l : List EffectD) (i : Nat) (x : EffectD) : (rows (effectC false) l).set i [cS x.name, cI x.bits] = rows (effectC false) (l.set i x) := rows_set (effectC false) l i x
theorem eff_snoc (l : List EffectD) (s : ByteArray) : rows (effectC false) l ++ [[cS s, cI 0]] = rows (effectC false) (l ++ [(⟨s, 0⟩ : EffectD)]) := rows_snoc (effectC false) l (⟨s, 0⟩ : EffectD)
theorem effPut_old {E : List EffectD} {s : ByteArray} {j : Nat} {b : Int} (h : effAt E s = j) (hj : j < E.length) : E.set j ⟨E[j].name, bits .or .i64 E[j].bits b⟩ = effPut E s b := by
  unfold effPut
  subst h
  rw [if_pos hj]
  simp [List.getD, hj]
theorem effPut_new {E : List EffectD} {s : ByteArray} {b : Int} (h : effAt E s = E.length) : (E ++ [(⟨s, 0⟩ : EffectD)]).set E.length ⟨s, bits .or .i64 0 b⟩ = effPut E s b := by
  unfold effPut
  rw [h, if_neg (by omega)]
  simp
theorem tyList_length {p : ProgramD} (fn : Int) (hpl : ∀ f ∈ p.fns, f.params.length ≤ 1048576) (hn : p.nodes.length ≤ 1048576) : (tyList p fn).length ≤ 2097152 := by
  unfold tyList
  split
  · exact typesL_length p fn hpl hn
  · simp
theorem anyNs_nat {p : ProgramD} {R : List Int} {i : Nat} (h : i < (anyNs p R).length) : ∃ m : Nat, (anyNs p R)[i] = m ∧ m < p.nodes.length := by
  have hm := List.getElem_mem h
  obtain ⟨k, hk, h1⟩ := (anyNs_mem p R _).1 hm
  have := underP_mem h1
  exact ⟨(anyNs p R)[i].toNat, by omega, this.2.1⟩
theorem effectsI_sound (p : ProgramD) (fn : Int) (R : List Int) (hR : R.length ≤ 1048576) (hf : p.fns.length ≤ 1048576) (hn : p.nodes.length ≤ 1048576) (hk : ∀ x ∈ p.nodes, x.kids.length ≤ 1048576) (hpl : ∀ f ∈ p.fns, f.params.length ≤ 1048576) :
    Sound Tryz.prog 11 [.ro (programW p), .ro (.sc (.int .i64 fn)), .ro (roI R)] (fun rs st => rs = [(false, [.row false 65 (rows (effectC false) (effL p fn R))])]) := by
  have e0 : rows (effectC false) ([] : List EffectD) = [] := rfl
  have hty := typesAllI_sound p fn hf hn hk hpl
  have hll := tyList_length (p := p) fn hpl hn
  have hua := underAll_sound p R hR hn hk
  simp only [programW] at hty hua
  unfold effL
  refine sound_tri (fn := Tryz.f11) (c := Tryz.f11.body.getD .skip) (res := [.tm 6]) (n := 82) sized (by kernel_rfl) (by rfl) (by kernel_rfl) (by rfl) (by rfl) (by simp [argsV]) (fun uf ub C hpin hpin2 hfull => ?_)
  simp only [Tryz.f11, Option.getD_some]
  refine Tri.step sized ?_
  simp (decide := true) only [drop0, row1_length, rows_length, ofP_length, programW, programC, cI, cB, cS, roI, ro64, hpin, go_sem, Nat.reduceAdd, Nat.reduceMul]
  refine Tri.ent ?_ (Ent.frb hfull 3)
  refine Tri.step sized ?_
  simp (decide := true) only [drop0, row1_length, rows_length, ofP_length, programW, programC, cI, cB, cS, roI, ro64, hpin, go_sem, Nat.reduceAdd, Nat.reduceMul]
  refine aCall_det hty hpin ?_
  cases hg : tyGood p fn with
  | false =>
    simp (decide := true) only [e0, if_false, Bool.false_eq_true, drop0, row1_length, rows_length, ofP_length, programW, programC, cI, cB, cS, roI, ro64, hpin, go_sem, Nat.reduceAdd, Nat.reduceMul]
    refine Tri.step sized ?_
    simp (decide := true) only [e0, if_false, Bool.false_eq_true, drop0, row1_length, rows_length, ofP_length, programW, programC, cI, cB, cS, roI, ro64, hpin, go_sem, Nat.reduceAdd, Nat.reduceMul]
  | true =>
  generalize tyList p fn = l at hll ⊢
  simp (decide := true) only [if_true, drop0, row1_length, rows_length, ofP_length, programW, programC, cI, cB, cS, roI, ro64, hpin, go_sem, Nat.reduceAdd, Nat.reduceMul]
  refine Tri.ent ?_ (Ent.frz hfull 7)
  refine Tri.step sized ?_
  simp (decide := true) only [drop0, row1_length, rows_length, ofP_length, programW, programC, cI, cB, cS, roI, ro64, hpin, go_sem, Nat.reduceAdd, Nat.reduceMul]
  refine Tri.step sized ?_
  simp (decide := true) only [drop0, row1_length, rows_length, ofP_length, programW, programC, cI, cB, cS, roI, ro64, hpin, go_sem, Nat.reduceAdd, Nat.reduceMul]
  refine Tri.step sized ?_
  simp (decide := true) only [drop0, row1_length, rows_length, ofP_length, programW, programC, cI, cB, cS, roI, ro64, hpin, go_sem, Nat.reduceAdd, Nat.reduceMul]
  refine aCall_det hua hpin ?_
  simp (decide := true) only [drop0, row1_length, rows_length, ofP_length, programW, programC, cI, cB, cS, roI, ro64, hpin, go_sem, Nat.reduceAdd, Nat.reduceMul]
  have hul := anyNs_length p R
  have hnat := @anyNs_nat p R
  generalize anyNs p R = U at hul hnat ⊢
  refine Tri.loop (ι := Nat) (fun i => i ≤ U.length) (fun i => ⟨82, [(3, .ip (programC true p) 0), (7, .imm 107 (rows (varC true) l)), (9, .ref 9 [] (effFold p.nodes l (U.take i)).length), (25, .ref 3025 [] U.length), (26, vI U.length), (27, vI i)], [(3025, .row 3 (row1 cI U)), (9, .row 65 (rows (effectC false) (effFold p.nodes l (U.take i))))]⟩) (fun i => U.length - i) 0 (by simp) ?_ ?_
  · refine Ent.weak ?_ ?_ ?_ ?_ <;> simp (decide := true) [subT, subB, hereT, hereV, hereL, St.get, look, vI, vB, vS, cI, cS, cB, nodeC, programC, roI, effFold, rows]
  · rintro i hi
    refine code_sound sized _ ?_
    by_cases h' : i < U.length
    · have e : ((i : Int) < (U.length : Int)) = True := by simp [h']
      obtain ⟨m, hm, hml⟩ := hnat h'
      have hx : (rows (nodeC true) p.nodes).getD m [] = nodeC true p.nodes[m] := rows_get _ _ hml
      have hc1 : ((m : Int) < (p.nodes.length : Int)) = True := eq_true (by omega)
      have hnx := effFold_next p.nodes l h'
      have hEl : (effFold p.nodes l (U.take i)).length ≤ U.length := Nat.le_trans (effFold_length p.nodes l (U.take i)) (by rw [List.length_take]; omega)
      rw [hm] at hnx
      unfold effStep at hnx
      rw [nAt_nat hml] at hnx
      generalize p.nodes[m] = x at hx hnx
      generalize effFold p.nodes l (U.take i) = E at hEl hnx
      obtain ⟨E2, hE2⟩ : ∃ E, E = effFold p.nodes l (U.take (i + 1)) := ⟨_, rfl⟩
      rw [← hE2] at hnx
      have hvt := varTyI_sound l x.name (by omega)
      have hef := effI_sound x.kind (varTy l x.name)
      generalize varTy l x.name = tv at hvt hef hnx
      generalize effB x.kind tv = b at hef hnx
      simp (decide := true) only [e, h', row1_getq' _ _ h', hm, hx, hc1, nodeC, Int.natCast_nonneg, vB, vI, drop0, row1_length, rows_length, ofP_length, programW, programC, cI, cB, cS, roI, ro64, hpin, go_sem, Nat.reduceAdd, Nat.reduceMul]
      refine Tri.ent ?_ (Ent.frb hfull 12)
      refine Tri.sched sized [(0, true), (2, true), (3, true), (1, true), (4, false), (5, false), (6, false), (7, false)] mixed (by kernel_rfl) (fun C2 hC2 => ?_)
      have hp2 : ∀ o, isPin o = false → C2.pin o = none := by rw [hC2]; exact hpin
      simp (decide := true) only [nodeC, Int.natCast_nonneg, drop0, row1_length, rows_length, ofP_length, programW, programC, cI, cB, cS, roI, ro64, hp2, hpin, go_sem, Nat.reduceAdd, Nat.reduceMul]
      refine aCall_det hvt hp2 ?_
      simp (decide := true) only [nodeC, drop0, row1_length, rows_length, ofP_length, programW, programC, cI, cB, cS, roI, ro64, hp2, hpin, go_sem, Nat.reduceAdd, Nat.reduceMul]
      refine aCall_det hef hp2 ?_
      cases hb0 : b == 0 with
      | true =>
        rw [hb0] at hnx
        simp only [if_true] at hnx
        simp (decide := true) only [hb0, drop0, row1_length, rows_length, ofP_length, programW, programC, cI, cB, cS, roI, ro64, hp2, hpin, go_sem, Nat.reduceAdd, Nat.reduceMul]
        refine ⟨i + 1, h', by omega, Ent.weak ?_ ?_ ?_ ?_⟩
        all_goals simp (decide := true) [subT, subB, hereT, hereV, hereL, St.get, look, vI, vB, vS, cI, cS, cB, nodeC, programC, roI, ← hE2, hnx, w64s (n := U.length) h' (by omega)]
      | false =>
      rw [hb0] at hnx
      simp only [if_false, Bool.false_eq_true] at hnx
      simp (decide := true) only [hb0, nodeC, drop0, row1_length, rows_length, ofP_length, programW, programC, cI, cB, cS, roI, ro64, hp2, hpin, go_sem, Nat.reduceAdd, Nat.reduceMul]
      refine Tri.loop (ι := Nat) (fun j => j ≤ E.length ∧ effAt E x.name = j + effAt (E.drop j) x.name) (fun j => ⟨82, [(3, .ip (programC true p) 0), (7, .imm 107 (rows (varC true) l)), (9, .ref 9 [] E.length), (12, .ip (nodeC true x) 0), (13, vI b), (14, vI j), (25, .ref 3025 [] U.length), (26, vI U.length), (27, vI i)], [(3025, .row 3 (row1 cI U)), (9, .row 65 (rows (effectC false) E))]⟩) (fun j => E.length - j) 0 ⟨by simp, by simp⟩ ?_ ?_
      · refine Ent.weak ?_ ?_ ?_ ?_ <;> simp (decide := true) [subT, subB, hereT, hereV, hereL, St.get, look, vI, vB, vS, cI, cS, cB, nodeC, programC, roI]
      · rintro j ⟨hj, hq⟩
        refine code_sound sized _ ?_
        by_cases hj' : j < E.length
        · have e2 : ((j : Int) < (E.length : Int)) = True := by simp [hj']
          have hge := rows_getq (effectC false) E hj'
          have hgd := rows_get (effectC false) E hj'
          rw [List.drop_eq_getElem_cons hj', effAt] at hq
          by_cases hs : E[j].name = x.name
          · have h2 : decide (E[j].name = x.name) = true := decide_eq_true hs
            rw [if_pos hs] at hq
            have hput := effPut_old (b := b) (show effAt E x.name = j by omega) hj'
            have hst := eff_set E j ⟨E[j].name, bits .or .i64 E[j].bits b⟩
            rw [hput, ← hnx] at hst
            simp only [effectC] at hge hgd
            simp only [cI, cS] at hst hge hgd
            have e3 : ((j : Int) == (E.length : Int)) = false := by simp; omega
            have hl2 : E2.length = E.length := by rw [hnx, ← hput, List.length_set]
            refine Tri.sched sized [(0, true), (1, false), (2, false), (3, false), (4, false), (5, true), (6, true), (7, true), (8, true), (10, true), (11, true), (9, false), (12, false), (13, false)] mixed (by kernel_rfl) (fun C3 hC3 => ?_)
            have hp3 : ∀ o, isPin o = false → C3.pin o = none := by rw [hC3]; exact hpin
            simp (decide := true) only [e2, e3, hj', hge, hgd, hst, h2, nodeC, bne, Int.natCast_nonneg, vB, vI, drop0, row1_length, rows_length, ofP_length, programW, programC, cI, cB, cS, roI, ro64, hp3, hp2, hpin, go_sem, Nat.reduceAdd, Nat.reduceMul]
            refine ⟨i + 1, h', by omega, Ent.weak ?_ ?_ ?_ ?_⟩
            all_goals simp (decide := true) [subT, subB, hereT, hereV, hereL, St.get, look, vI, vB, vS, cI, cS, cB, nodeC, programC, roI, ← hE2, hl2, w64s (n := U.length) h' (by omega)]
          · have h2 : decide (E[j].name = x.name) = false := decide_eq_false hs
            rw [if_neg hs] at hq
            simp only [effectC] at hge hgd
            simp only [cI, cS] at hge hgd
            refine Tri.sched sized [(0, true), (1, false), (2, false), (3, false), (4, false), (5, true), (6, true), (7, true), (8, true), (10, true), (11, true), (9, false), (12, false), (13, false)] mixed (by kernel_rfl) (fun C3 hC3 => ?_)
            have hp3 : ∀ o, isPin o = false → C3.pin o = none := by rw [hC3]; exact hpin
            simp (decide := true) only [e2, hj', hge, hgd, h2, nodeC, bne, Int.natCast_nonneg, vB, vI, drop0, row1_length, rows_length, ofP_length, programW, programC, cI, cB, cS, roI, ro64, hp3, hp2, hpin, go_sem, Nat.reduceAdd, Nat.reduceMul]
            refine ⟨j + 1, ⟨hj', by omega⟩, by omega, Ent.weak ?_ ?_ ?_ ?_⟩
            all_goals simp (decide := true) [subT, subB, hereT, hereV, hereL, St.get, look, vI, vB, vS, cI, cS, cB, nodeC, programC, roI, w64s (n := E.length) hj' (by omega)]
        · have hjl : j = E.length := by omega
          subst hjl
          have e2 : ((E.length : Int) < (E.length : Int)) = False := by simp
          have e3 : ((E.length : Int) == (E.length : Int)) = true := by simp
          rw [List.drop_length] at hq
          have hput := effPut_new (b := b) (show effAt E x.name = E.length by rw [hq]; rfl)
          have hsn := eff_snoc E x.name
          have hlt : E.length < (E ++ [(⟨x.name, 0⟩ : EffectD)]).length := by simp
          have hge := rows_getq (effectC false) (E ++ [(⟨x.name, 0⟩ : EffectD)]) hlt
          have hgd := rows_get (effectC false) (E ++ [(⟨x.name, 0⟩ : EffectD)]) hlt
          have hla : (E ++ [(⟨x.name, 0⟩ : EffectD)])[E.length] = ⟨x.name, 0⟩ := by simp
          rw [hla] at hge hgd
          have hst := eff_set (E ++ [(⟨x.name, 0⟩ : EffectD)]) E.length ⟨x.name, bits .or .i64 0 b⟩
          rw [hput, ← hnx] at hst
          have hl2 : E2.length = E.length + 1 := by rw [hnx, ← hput, List.length_set]; simp
          have hb1 : E.length + 1 ≤ 140737488355328 := by omega
          have hb2 : (E.length + 1) * 24 ≤ 140737488355328 := by omega
          have e4 : ((E.length : Int) < ((E.length + 1 : Nat) : Int)) = True := eq_true (by omega)
          have e5 : (E.length < E.length + 1) = True := eq_true (by omega)
          have e6 : (rows (effectC false) E)[E.length]? = none := by simp [rows]
          have e7 : (rows (effectC false) E).getD E.length [] = [] := by simp [rows, List.getD]
          simp only [effectC] at hge hgd
          simp only [cI, cS] at hst hge hgd hsn
          refine Tri.sched sized [(0, true), (1, false), (2, false), (3, false), (4, false), (5, true), (6, true), (7, true), (8, true), (10, true), (11, true), (9, false), (12, false), (13, false)] mixed (by kernel_rfl) (fun C3 hC3 => ?_)
          have hp3 : ∀ o, isPin o = false → C3.pin o = none := by rw [hC3]; exact hpin
          simp (decide := true) only [e2, e3, e4, e5, e6, e7, Option.bind_none, hb1, hb2, hsn, hge, hgd, hst, nodeC, Int.natCast_nonneg, vB, vI, drop0, row1_length, rows_length, ofP_length, programW, programC, cI, cB, cS, roI, ro64, hp3, hp2, hpin, go_sem, Nat.reduceAdd, Nat.reduceMul]
          refine ⟨i + 1, h', by omega, Ent.weak ?_ ?_ ?_ ?_⟩
          all_goals simp (decide := true) [subT, subB, hereT, hereV, hereL, St.get, look, vI, vB, vS, cI, cS, cB, nodeC, programC, roI, ← hE2, hl2, w64s (n := U.length) h' (by omega)]
    · have hil : i = U.length := by omega
      subst hil
      have e : ((U.length : Int) < (U.length : Int)) = False := by simp
      simp (decide := true) only [e, List.take_length, vB, vI, drop0, row1_length, rows_length, ofP_length, programW, programC, cI, cB, cS, roI, ro64, hpin, go_sem, Nat.reduceAdd, Nat.reduceMul]
      refine code_sound sized _ ?_
      simp (decide := true) only [List.take_length, drop0, row1_length, rows_length, ofP_length, programW, programC, cI, cB, cS, roI, ro64, hpin, go_sem, Nat.reduceAdd, Nat.reduceMul]
def effIx (E : List EffectD) (s : ByteArray) : Int := if effAt E s < E.length then (effAt E s : Int) else -1
theorem l17At_sound (E : List EffectD) (s : ByteArray) (hl : E.length ≤ 1048576) : Sound Tryz.prog 33 [.ro (.imm 65 (rows (effectC true) E)), .ro (.sc (.string s))] (fun rs st => rs = [(false, [cI (effIx E s)])]) := by
  refine sound_tri (fn := Tryz.f33) (c := Tryz.f33.body.getD .skip) (res := [.tm 4]) (n := 20) sized (by kernel_rfl) (by rfl) (by kernel_rfl) (by rfl) (by rfl) (by simp [argsV]) (fun uf ub C hpin hpin2 hfull => ?_)
  simp only [Tryz.f33, Option.getD_some]
  refine Tri.step sized ?_
  simp (decide := true) only [drop0, row1_length, rows_length, ofP_length, programW, programC, cI, cB, cS, roI, ro64, hpin, go_sem, Nat.reduceAdd, Nat.reduceMul]
  refine Tri.step sized ?_
  simp (decide := true) only [drop0, row1_length, rows_length, ofP_length, programW, programC, cI, cB, cS, roI, ro64, hpin, go_sem, Nat.reduceAdd, Nat.reduceMul]
  refine Tri.loop (ι := Nat) (fun j => j ≤ E.length ∧ effAt E s = j + effAt (E.drop j) s) (fun j => ⟨20, [(0, .imm 65 (rows (effectC true) E)), (1, vS s), (5, vI j)], []⟩) (fun j => E.length - j) 0 ⟨by simp, by simp⟩ ?_ ?_
  · refine Ent.weak ?_ ?_ ?_ ?_ <;> simp (decide := true) [subT, subB, hereT, hereV, hereL, St.get, look, vI, vB, vS, cI, cS, cB, nodeC, programC, roI]
  · rintro j ⟨hj, hq⟩
    refine code_sound sized _ ?_
    by_cases hj' : j < E.length
    · have e2 : ((j : Int) < (E.length : Int)) = True := by simp [hj']
      have hgd := rows_get (effectC true) E hj'
      rw [List.drop_eq_getElem_cons hj', effAt] at hq
      simp only [effectC] at hgd
      simp only [cI, cS] at hgd
      by_cases hs : E[j].name = s
      · have h2 : decide (E[j].name = s) = true := decide_eq_true hs
        rw [if_pos hs] at hq
        have hix : effIx E s = (j : Int) := by unfold effIx; rw [if_pos (by omega)]; omega
        simp (decide := true) only [e2, hj', hgd, h2, hix, Int.natCast_nonneg, vB, vI, vS, drop0, row1_length, rows_length, ofP_length, programW, programC, cI, cB, cS, roI, ro64, hpin, go_sem, Nat.reduceAdd, Nat.reduceMul]
      · have h2 : decide (E[j].name = s) = false := decide_eq_false hs
        rw [if_neg hs] at hq
        simp (decide := true) only [e2, hj', hgd, h2, Int.natCast_nonneg, vB, vI, vS, drop0, row1_length, rows_length, ofP_length, programW, programC, cI, cB, cS, roI, ro64, hpin, go_sem, Nat.reduceAdd, Nat.reduceMul]
        refine ⟨j + 1, ⟨hj', by omega⟩, by omega, Ent.weak ?_ ?_ ?_ ?_⟩
        all_goals simp (decide := true) [subT, subB, hereT, hereV, hereL, St.get, look, vI, vB, vS, cI, cS, cB, nodeC, programC, roI, w64s (n := E.length) hj' (by omega)]
    · have hjl : j = E.length := by omega
      subst hjl
      have e2 : ((E.length : Int) < (E.length : Int)) = False := by simp
      rw [List.drop_length] at hq
      have hix : effIx E s = -1 := by unfold effIx; rw [if_neg (by rw [hq]; simp [effAt])]
      simp (decide := true) only [e2, vB, vI, vS, drop0, row1_length, rows_length, ofP_length, programW, programC, cI, cB, cS, roI, ro64, hpin, go_sem, Nat.reduceAdd, Nat.reduceMul]
      refine code_sound sized _ ?_
      simp (decide := true) only [hix, drop0, row1_length, rows_length, ofP_length, programW, programC, cI, cB, cS, roI, ro64, hpin, go_sem, Nat.reduceAdd, Nat.reduceMul]
theorem underP_reach {nodes : List NodeD} {k : Int} (hd : ¬ (deepOf nodes k == 0) = true) (m : Nat) : (m : Int) ∈ underP nodes k ↔ Reach nodes k.toNat m := by
  have hd2 : (deepOf nodes k == 0) = false := by simpa using hd
  obtain ⟨n, rfl, hnl, hdn⟩ := deep_nat hd2
  unfold underP
  rw [hd2]
  simp only [if_false, Bool.false_eq_true]
  show (m : Int) ∈ ints (underN nodes (n : Int).toNat) ↔ _
  rw [ints_mem]
  exact underN_mem hdn
theorem effPick_true (nodes : List NodeD) (l : List VarD) {P : Nat → Prop} {i : Nat} (h : P i) : effFold nodes l (ints (pick P (i + 1))) = effStep nodes l (effFold nodes l (ints (pick P i))) i := by
  rw [pick_true h]; unfold effFold ints; rw [List.map_append, List.foldl_append]; rfl
theorem effPick_false (nodes : List NodeD) (l : List VarD) {P : Nat → Prop} {i : Nat} (h : ¬ P i) : effFold nodes l (ints (pick P (i + 1))) = effFold nodes l (ints (pick P i)) := by rw [pick_false h]
theorem effPick_length (nodes : List NodeD) (l : List VarD) (P : Nat → Prop) (i : Nat) : (effFold nodes l (ints (pick P i))).length ≤ i := by
  have h1 := effFold_length nodes l (ints (pick P i))
  rw [ints_length] at h1
  exact Nat.le_trans h1 (pick_length P i)
theorem effectsS_sound (p : ProgramD) (fn : Int) (R : List Int) (hR : R.length ≤ 1048576) (hf : p.fns.length ≤ 1048576) (hn : p.nodes.length ≤ 1048576) (hk : ∀ x ∈ p.nodes, x.kids.length ≤ 1048576) (hpl : ∀ f ∈ p.fns, f.params.length ≤ 1048576) :
    Sound Tryz.prog 8 [.ro (programW p), .ro (.sc (.int .i64 fn)), .ro (roI R)] (fun rs st => rs = [(false, [.row false 65 (rows (effectC false) (effL p fn R))])]) := by
  classical
  have e0 : rows (effectC false) ([] : List EffectD) = [] := rfl
  have hty := typesAllS_sound p fn hf hn hk hpl
  have hll := tyList_length (p := p) fn hpl hn
  simp only [programW] at hty
  unfold effL
  refine sound_tri (fn := Tryz.f8) (c := Tryz.f8.body.getD .skip) (res := [.tm 6]) (n := 107) sized (by kernel_rfl) (by rfl) (by kernel_rfl) (by rfl) (by rfl) (by simp [argsV]) (fun uf ub C hpin hpin2 hfull => ?_)
  simp only [Tryz.f8, Option.getD_some]
  refine Tri.step sized ?_
  simp (decide := true) only [drop0, row1_length, rows_length, ofP_length, programW, programC, cI, cB, cS, roI, ro64, hpin, go_sem, Nat.reduceAdd, Nat.reduceMul]
  refine Tri.ent ?_ (Ent.frb hfull 3)
  refine Tri.step sized ?_
  simp (decide := true) only [drop0, row1_length, rows_length, ofP_length, programW, programC, cI, cB, cS, roI, ro64, hpin, go_sem, Nat.reduceAdd, Nat.reduceMul]
  refine Tri.step sized ?_
  simp (decide := true) only [drop0, row1_length, rows_length, ofP_length, programW, programC, cI, cB, cS, roI, ro64, hpin, go_sem, Nat.reduceAdd, Nat.reduceMul]
  refine aCall_det hty hpin ?_
  cases hg : tyGood p fn with
  | false =>
    simp (decide := true) only [e0, if_false, Bool.false_eq_true, drop0, row1_length, rows_length, ofP_length, programW, programC, cI, cB, cS, roI, ro64, hpin, go_sem, Nat.reduceAdd, Nat.reduceMul]
    refine Tri.step sized ?_
    simp (decide := true) only [e0, if_false, Bool.false_eq_true, drop0, row1_length, rows_length, ofP_length, programW, programC, cI, cB, cS, roI, ro64, hpin, go_sem, Nat.reduceAdd, Nat.reduceMul]
  | true =>
  have hD : Deep p.nodes := by
    unfold tyGood at hg
    have h1 := (Bool.and_eq_true_iff.1 hg).1
    unfold namesRightB at h1
    exact (programB_true (Bool.and_eq_true_iff.1 h1).1).deep
  generalize tyList p fn = l at hll ⊢
  simp (decide := true) only [if_true, drop0, row1_length, rows_length, ofP_length, programW, programC, cI, cB, cS, roI, ro64, hpin, go_sem, Nat.reduceAdd, Nat.reduceMul]
  refine Tri.ent ?_ (Ent.frz hfull 8)
  have hm1 : ((1 : Nat) : Int) * (p.nodes.length : Int) ≤ 281474976710656 := by omega
  have hm2 : (p.nodes.length : Int) ≤ 140737488355328 := by omega
  have hof := ofP_false p.nodes.length
  simp only [cB] at hof
  refine Tri.step sized ?_
  simp (decide := true) only [drop0, row1_length, rows_length, ofP_length, programW, programC, cI, cB, cS, roI, ro64, hpin, go_sem, Nat.reduceAdd, Nat.reduceMul]
  refine Tri.step sized ?_
  simp (decide := true) only [hm1, hm2, hof, Int.natCast_nonneg, drop0, row1_length, rows_length, ofP_length, programW, programC, cI, cB, cS, roI, ro64, hpin, go_sem, Nat.reduceAdd, Nat.reduceMul]
  have w1 : IntKind.i64.wrap ((p.nodes.length : Int) - 1) = (p.nodes.length : Int) - 1 := w64 (by omega) (by omega)
  let Q : Nat → Nat → Prop := fun i m => ∃ a, ∃ (ha : a < R.length), a < i ∧ (m : Int) ∈ underP p.nodes R[a]
  refine Tri.stop sized ⟨107, [(3, .ip (programC true p) 0), (7, .ref 7 [] 0), (8, .imm 107 (rows (varC true) l)), (10, .ref 10 [] p.nodes.length)], [(7, .row 65 []), (10, .row 4 (row1 cB (ofP p.nodes.length (Q R.length))))]⟩ ?_ ?_
  · simp (decide := true) only [drop0, row1_length, rows_length, ofP_length, programW, programC, cI, cB, cS, roI, ro64, hpin, go_sem, Nat.reduceAdd, Nat.reduceMul]
    refine Tri.loop (ι := Nat) (fun i => i ≤ R.length) (fun i => ⟨107, [(2, roI R), (3, .ip (programC true p) 0), (7, .ref 7 [] 0), (8, .imm 107 (rows (varC true) l)), (10, .ref 10 [] p.nodes.length), (11, vI i)], [(7, .row 65 []), (10, .row 4 (row1 cB (ofP p.nodes.length (Q i))))]⟩) (fun i => R.length - i) 0 (by simp) ?_ ?_
    · have e9 : ofP p.nodes.length (Q 0) = ofP p.nodes.length (fun _ => False) := ofP_congr (fun m _ => ⟨fun ⟨a, ha, h0, _⟩ => by omega, fun h => h.elim⟩)
      refine Ent.weak ?_ ?_ ?_ ?_ <;> simp (decide := true) [subT, subB, hereT, hereV, hereL, St.get, look, vI, vB, vS, cI, cS, cB, nodeC, programC, roI, e9]
    · rintro i hi
      refine code_sound sized _ ?_
      by_cases h' : i < R.length
      · have e : ((i : Int) < (R.length : Int)) = True := by simp [h']
        simp (decide := true) only [e, h', Int.natCast_nonneg, vB, vI, drop0, row1_length, rows_length, ofP_length, programW, programC, cI, cB, cS, roI, ro64, hpin, go_sem, Nat.reduceAdd, Nat.reduceMul]
        refine Tri.sched sized [(0, true), (1, true), (2, true), (4, true), (3, true), (5, false), (6, false), (7, false), (8, false)] mixed (by kernel_rfl) (fun C2 hC2 => ?_)
        have hp2 : ∀ o, isPin o = false → C2.pin o = none := by rw [hC2]; exact hpin
        simp (decide := true) only [e, h', w1, row1_get _ _ h', Int.natCast_nonneg, vB, vI, drop0, row1_length, rows_length, ofP_length, programW, programC, cI, cB, cS, roI, ro64, hp2, hpin, go_sem, Nat.reduceAdd, Nat.reduceMul]
        refine aCall_det (l01In' R[i] 0 (p.nodes.length - 1)) hp2 ?_
        cases hin : inI R[i] 0 (p.nodes.length - 1) with
        | false =>
          simp (decide := true) only [drop0, row1_length, rows_length, ofP_length, programW, programC, cI, cB, cS, roI, ro64, hp2, hpin, go_sem, Nat.reduceAdd, Nat.reduceMul]
          have hnx : ofP p.nodes.length (Q (i + 1)) = ofP p.nodes.length (Q i) := ofP_congr (fun m _ => by
            constructor
            · rintro ⟨a, ha, h1, h2⟩
              by_cases ea : a = i
              · subst ea
                exfalso
                have hz : deepOf p.nodes R[a] = 0 := by unfold deepOf; simp [hin]
                unfold underP at h2
                rw [hz] at h2
                simp at h2
              · exact ⟨a, ha, by omega, h2⟩
            · rintro ⟨a, ha, h1, h2⟩
              exact ⟨a, ha, by omega, h2⟩)
          refine ⟨i + 1, h', by omega, Ent.weak ?_ ?_ ?_ ?_⟩
          all_goals simp (decide := true) [subT, subB, hereT, hereV, hereL, St.get, look, vI, vB, vS, cI, cS, cB, nodeC, programC, roI, hnx, w64s (n := R.length) h' (by omega)]
        | true =>
          have hir := inI_true hin
          obtain ⟨n, hnR⟩ : ∃ n : Nat, R[i] = n := ⟨R[i].toNat, by omega⟩
          have hnl : n < p.nodes.length := by omega
          have hdn := hD.deep n hnl
          have hdd : ∀ k : Int, inI k 0 (p.nodes.length - 1) = true → ¬ (deepOf p.nodes k == 0) = true := fun k hk1 => by
            have hk2 := inI_true hk1
            have hk3 := hD.deep k.toNat (by omega)
            unfold deepOf
            rw [hk1]
            simpa using hk3
          have hun : ∀ a (ha : a < R.length) (m : Nat), (m : Int) ∈ underP p.nodes R[a] → ∀ q, Reach p.nodes m q → (q : Int) ∈ underP p.nodes R[a] := fun a ha m hm q hr => by
            have h1 := underP_mem hm
            have hna : ¬ (deepOf p.nodes R[a] == 0) = true := fun hz => by
              unfold underP at hm
              rw [if_pos hz] at hm
              simp at hm
            rw [underP_reach hna] at hm ⊢
            exact hm.trans hr
          have hmk := mark_sound p.nodes hn hk n hdn (Q i) (fun m _ ⟨a, ha, h1, h2⟩ q hr => ⟨a, ha, h1, hun a ha m h2 q hr⟩)
          have hnx : ofP p.nodes.length (fun m => Q i m ∨ Reach p.nodes n m) = ofP p.nodes.length (Q (i + 1)) := ofP_congr (fun m _ => by
            have hr := underP_reach (hdd R[i] hin) m
            rw [hnR, show (n : Int).toNat = n by omega] at hr
            constructor
            · rintro (⟨a, ha, h1, h2⟩ | h)
              · exact ⟨a, ha, by omega, h2⟩
              · exact ⟨i, h', by omega, by rw [hnR]; exact hr.2 h⟩
            · rintro ⟨a, ha, h1, h2⟩
              by_cases ea : a = i
              · subst ea; right; rw [hnR] at h2; exact hr.1 h2
              · exact Or.inl ⟨a, ha, by omega, h2⟩)
          rw [hnx] at hmk
          simp (decide := true) only [drop0, row1_length, rows_length, ofP_length, programW, programC, cI, cB, cS, roI, ro64, hp2, hpin, go_sem, Nat.reduceAdd, Nat.reduceMul]
          refine Tri.sched sized [(0, true), (2, true), (3, true), (4, true), (6, true), (1, true), (5, false), (7, false)] mixed (by kernel_rfl) (fun C3 hC3 => ?_)
          have hp3 : ∀ o, isPin o = false → C3.pin o = none := by rw [hC3]; exact hpin
          simp (decide := true) only [e, h', row1_get _ _ h', hnR, Int.natCast_nonneg, vB, vI, drop0, row1_length, rows_length, ofP_length, programW, programC, cI, cB, cS, roI, ro64, hp3, hp2, hpin, go_sem, Nat.reduceAdd, Nat.reduceMul]
          refine aCall_iod hmk hp3 [(2000, 10)] ⟨rfl, rfl, rfl⟩ (fun uf => ⟨rfl, rfl⟩) (fun uf => ?_) ?_
          · simp (decide := true) only [drop0, row1_length, rows_length, ofP_length, programW, programC, cI, cB, cS, roI, ro64, hp3, hp2, hpin, go_sem, Nat.reduceAdd, Nat.reduceMul]
          simp (decide := true) only [drop0, row1_length, rows_length, ofP_length, programW, programC, cI, cB, cS, roI, ro64, hp3, hp2, hpin, go_sem, Nat.reduceAdd, Nat.reduceMul]
          refine ⟨i + 1, h', by omega, Ent.weak ?_ ?_ ?_ ?_⟩
          all_goals simp (decide := true) [subT, subB, hereT, hereV, hereL, St.get, look, vI, vB, vS, cI, cS, cB, nodeC, programC, roI, w64s (n := R.length) h' (by omega)]
      · have hil : i = R.length := by omega
        subst hil
        have e : ((R.length : Int) < (R.length : Int)) = False := by simp
        simp (decide := true) only [e, vB, vI, drop0, row1_length, rows_length, ofP_length, programW, programC, cI, cB, cS, roI, ro64, hpin, go_sem, Nat.reduceAdd, Nat.reduceMul]
        refine Ent.weak ?_ ?_ ?_ ?_
        all_goals simp (decide := true) [subT, subB, hereT, hereV, hereL, St.get, look, vI, vB, vS, cI, cS, cB, nodeC, programC, roI]
  have hqe : Q R.length = inAny p R := by
    funext m
    apply propext
    constructor
    · rintro ⟨a, ha, _, h⟩; exact ⟨R[a], List.getElem_mem ha, h⟩
    · rintro ⟨k, hk1, h⟩
      obtain ⟨a, ha, rfl⟩ := List.getElem_of_mem hk1
      exact ⟨a, ha, ha, h⟩
  rw [hqe]
  have hfin : anyNs p R = ints (pick (inAny p R) p.nodes.length) := rfl
  rw [hfin]
  have htk : List.take p.nodes.length (row1 cB (ofP p.nodes.length (inAny p R))) = row1 cB (ofP p.nodes.length (inAny p R)) := by
    have := row1_takeL cB (ofP p.nodes.length (inAny p R))
    rwa [ofP_length] at this
  generalize inAny p R = P at htk ⊢
  refine Tri.ent ?_ (Ent.frz hfull 10)
  refine code_sound sized _ ?_
  simp (decide := true) only [htk, bools_sh, drop0, row1_length, rows_length, ofP_length, programW, programC, cI, cB, cS, roI, ro64, hpin, go_sem, Nat.reduceAdd, Nat.reduceMul]
  refine Tri.loop (ι := Nat) (fun i => i ≤ p.nodes.length) (fun i => ⟨107, [(3, .ip (programC true p) 0), (7, .ref 7 [] (effFold p.nodes l (ints (pick P i))).length), (8, .imm 107 (rows (varC true) l)), (10, .imm 4 (row1 cB (ofP p.nodes.length P))), (12, vI i)], [(7, .row 65 (rows (effectC false) (effFold p.nodes l (ints (pick P i)))))]⟩) (fun i => p.nodes.length - i) 0 (by simp) ?_ ?_
  · refine Ent.weak ?_ ?_ ?_ ?_ <;> simp (decide := true) [subT, subB, hereT, hereV, hereL, St.get, look, vI, vB, vS, cI, cS, cB, nodeC, programC, roI, pick, ints, effFold, rows, htk, bools_sh]
    all_goals rfl
  · rintro i hi
    refine code_sound sized _ ?_
    by_cases h' : i < p.nodes.length
    · have e : ((i : Int) < (p.nodes.length : Int)) = True := by simp [h']
      have hx : (rows (nodeC true) p.nodes).getD i [] = nodeC true p.nodes[i] := rows_get _ _ h'
      have hEl := effPick_length p.nodes l P i
      have hpt := fun hp : P i => effPick_true p.nodes l hp
      have hpf := fun hp : ¬ P i => effPick_false p.nodes l hp
      unfold effStep at hpt
      rw [nAt_nat h'] at hpt
      generalize p.nodes[i] = x at hx hpt
      generalize effFold p.nodes l (ints (pick P i)) = E at hEl hpt hpf
      obtain ⟨E2, hE2⟩ : ∃ E, E = effFold p.nodes l (ints (pick P (i + 1))) := ⟨_, rfl⟩
      rw [← hE2] at hpt hpf
      have hvt := varTyS_sound l x.name (by omega)
      have hef := effS_sound x.kind (varTy l x.name)
      have hat := l17At_sound E x.name (by omega)
      have hEt := rows_takeL (effectC false) E
      generalize varTy l x.name = tv at hvt hef hpt
      generalize effB x.kind tv = b at hef hpt
      simp (decide := true) only [e, h', hx, nodeC, Int.natCast_nonneg, vB, vI, drop0, row1_length, rows_length, ofP_length, programW, programC, cI, cB, cS, roI, ro64, hpin, go_sem, Nat.reduceAdd, Nat.reduceMul]
      refine Tri.ent ?_ (Ent.frb hfull 13)
      refine Tri.sched sized [(0, true), (2, true), (3, true), (1, true), (4, false), (5, false), (6, false), (7, false)] mixed (by kernel_rfl) (fun C2 hC2 => ?_)
      have hp2 : ∀ o, isPin o = false → C2.pin o = none := by rw [hC2]; exact hpin
      simp (decide := true) only [nodeC, Int.natCast_nonneg, drop0, row1_length, rows_length, ofP_length, programW, programC, cI, cB, cS, roI, ro64, hp2, hpin, go_sem, Nat.reduceAdd, Nat.reduceMul]
      refine aCall_det hvt hp2 ?_
      simp (decide := true) only [nodeC, drop0, row1_length, rows_length, ofP_length, programW, programC, cI, cB, cS, roI, ro64, hp2, hpin, go_sem, Nat.reduceAdd, Nat.reduceMul]
      refine aCall_det hef hp2 ?_
      by_cases hp : P i
      · have hp1 : decide (P i) = true := decide_eq_true hp
        have hnx := hpt hp
        cases hb0 : b == 0 with
        | true =>
          rw [hb0] at hnx
          simp only [if_true] at hnx
          simp (decide := true) only [hb0, e, h', hp1, ofP_get h', Int.natCast_nonneg, drop0, row1_length, rows_length, ofP_length, programW, programC, cI, cB, cS, roI, ro64, hp2, hpin, go_sem, Nat.reduceAdd, Nat.reduceMul]
          refine ⟨i + 1, h', by omega, Ent.weak ?_ ?_ ?_ ?_⟩
          all_goals simp (decide := true) [subT, subB, hereT, hereV, hereL, St.get, look, vI, vB, vS, cI, cS, cB, nodeC, programC, roI, ← hE2, hnx, w64s (n := p.nodes.length) h' (by omega)]
        | false =>
        rw [hb0] at hnx
        simp only [if_false, Bool.false_eq_true] at hnx
        simp (decide := true) only [hb0, e, h', hp1, ofP_get h', nodeC, Int.natCast_nonneg, drop0, row1_length, rows_length, ofP_length, programW, programC, cI, cB, cS, roI, ro64, hp2, hpin, go_sem, Nat.reduceAdd, Nat.reduceMul]
        refine aCall_det hat hpin ?_
        by_cases hj' : effAt E x.name < E.length
        · have hix : effIx E x.name = (effAt E x.name : Int) := by unfold effIx; rw [if_pos hj']
          rw [hix]
          have hput := effPut_old (b := b) (show effAt E x.name = effAt E x.name from rfl) hj'
          rw [← hnx] at hput
          generalize effAt E x.name = j at hj' hput
          have hge := rows_getq (effectC false) E hj'
          have hgd := rows_get (effectC false) E hj'
          have hst := eff_set E j ⟨E[j].name, bits .or .i64 E[j].bits b⟩
          rw [hput] at hst
          have e2 : ((j : Int) < (E.length : Int)) = True := by simp [hj']
          have e3 : ((j : Int) < 0) = False := by simp
          have hl2 : E2.length = E.length := by rw [← hput, List.length_set]
          simp only [effectC] at hge hgd
          simp only [cI, cS] at hst hge hgd
          simp (decide := true) only [e2, e3, hj', hge, hgd, hst, nodeC, Int.natCast_nonneg, vB, vI, drop0, row1_length, rows_length, ofP_length, programW, programC, cI, cB, cS, roI, ro64, hp2, hpin, go_sem, Nat.reduceAdd, Nat.reduceMul]
          refine ⟨i + 1, h', by omega, Ent.weak ?_ ?_ ?_ ?_⟩
          all_goals simp (decide := true) [subT, subB, hereT, hereV, hereL, St.get, look, vI, vB, vS, cI, cS, cB, nodeC, programC, roI, ← hE2, hl2, w64s (n := p.nodes.length) h' (by omega)]
        · have hix : effIx E x.name = -1 := by unfold effIx; rw [if_neg hj']
          rw [hix]
          have hput := effPut_new (b := b) (show effAt E x.name = E.length by have := effAt_le E x.name; omega)
          rw [← hnx] at hput
          have hsn := eff_snoc E x.name
          have hlt : E.length < (E ++ [(⟨x.name, 0⟩ : EffectD)]).length := by simp
          have hge := rows_getq (effectC false) (E ++ [(⟨x.name, 0⟩ : EffectD)]) hlt
          have hgd := rows_get (effectC false) (E ++ [(⟨x.name, 0⟩ : EffectD)]) hlt
          have hla : (E ++ [(⟨x.name, 0⟩ : EffectD)])[E.length] = ⟨x.name, 0⟩ := by simp
          rw [hla] at hge hgd
          have hst := eff_set (E ++ [(⟨x.name, 0⟩ : EffectD)]) E.length ⟨x.name, bits .or .i64 0 b⟩
          rw [hput] at hst
          have hl2 : E2.length = E.length + 1 := by rw [← hput, List.length_set]; simp
          have hb1 : E.length + 1 ≤ 140737488355328 := by omega
          have hb2 : (E.length + 1) * 24 ≤ 140737488355328 := by omega
          have e4 : ((E.length : Int) < ((E.length + 1 : Nat) : Int)) = True := eq_true (by omega)
          have e5 : (E.length < E.length + 1) = True := eq_true (by omega)
          have e6 : (rows (effectC false) E)[E.length]? = none := by simp [rows]
          have e7 : (rows (effectC false) E).getD E.length [] = [] := by simp [rows, List.getD]
          have w2 : IntKind.i64.wrap (((E.length + 1 : Nat) : Int) - 1) = (E.length : Int) := by rw [w64 (by omega) (by omega)]; omega
          simp only [effectC] at hge hgd
          simp only [cI, cS] at hst hge hgd hsn
          simp (decide := true) only [hb1, hb2, e4, e5, w2, hsn, hge, hgd, hst, nodeC, Int.natCast_nonneg, vB, vI, drop0, row1_length, rows_length, ofP_length, programW, programC, cI, cB, cS, roI, ro64, hp2, hpin, go_sem, Nat.reduceAdd, Nat.reduceMul]
          refine ⟨i + 1, h', by omega, Ent.weak ?_ ?_ ?_ ?_⟩
          all_goals simp (decide := true) [subT, subB, hereT, hereV, hereL, St.get, look, vI, vB, vS, cI, cS, cB, nodeC, programC, roI, ← hE2, hl2, w64s (n := p.nodes.length) h' (by omega)]
      · have hp1 : decide (P i) = false := decide_eq_false hp
        have hnx := hpf hp
        simp (decide := true) only [e, h', hp1, ofP_get h', Int.natCast_nonneg, drop0, row1_length, rows_length, ofP_length, programW, programC, cI, cB, cS, roI, ro64, hp2, hpin, go_sem, Nat.reduceAdd, Nat.reduceMul]
        refine ⟨i + 1, h', by omega, Ent.weak ?_ ?_ ?_ ?_⟩
        all_goals simp (decide := true) [subT, subB, hereT, hereV, hereL, St.get, look, vI, vB, vS, cI, cS, cB, nodeC, programC, roI, ← hE2, hnx, w64s (n := p.nodes.length) h' (by omega)]
    · have hil : i = p.nodes.length := by omega
      subst hil
      have e : ((p.nodes.length : Int) < (p.nodes.length : Int)) = False := by simp
      simp (decide := true) only [e, vB, vI, drop0, row1_length, rows_length, ofP_length, programW, programC, cI, cB, cS, roI, ro64, hpin, go_sem, Nat.reduceAdd, Nat.reduceMul]
end Go.Proofs.YtnbodmohnkohfaaGreatDoor.AW
