/- What each data type has: its size, a copy, whether two are alike. No condition beyond those named. -/
import Derived.Test.YtnbodmohnkohfaaGreatDoorTa
namespace Go.Proofs.YtnbodmohnkohfaaGreatDoor.AW
open Go.RowKit
set_option maxHeartbeats 4000000
set_option maxRecDepth 100000
set_option linter.unusedSimpArgs false
set_option linter.unusedVariables false
theorem szNode_sound (x : NodeD) (left : Int) (h0 : 0 ≤ left) (h1 : left < 1152921504606846976) (hs : nodeSmall x) : Sound Tryz.prog 73 [.ro (nodeV x), .ro (.sc (.int .i64 left))] (fun rs st => rs = [(false, [cI (sub left (nodeCost x))])]) := by
  refine sound_code (fn := Tryz.f73) (c := Tryz.f73.body.getD .skip) (res := [.tm 4]) (n := 19) sized (by kernel_rfl) (by rfl) (by kernel_rfl) (by rfl) (by rfl) (by simp [argsV]) (fun C hpin hfull => ?_)
  obtain ⟨s0, s1⟩ := hs
  have w0 : IntKind.i64.wrap (left - (x.name.size : Int)) = left - x.name.size := w64 (by omega) (by omega)
  simp (decide := true) only [Tryz.f73, nodeV, w0, row1_length, cI, cB, cS, roI, ro64, hpin, go_sem, Nat.reduceAdd, Nat.reduceMul]
  by_cases h0_ : left - ((x.name.size : Nat) : Int) < 0
  · have e : sub left (nodeCost x) = -1 := sub_neg (by unfold nodeCost; omega)
    rw [e]
    simp (decide := true) only [h0_, row1_length, cI, cB, cS, roI, ro64, hpin, go_sem, Nat.reduceAdd, Nat.reduceMul]
  have n0 : (left - ((x.name.size : Nat) : Int) < 0) = False := by simpa using h0_
  simp (decide := true) only [n0, row1_length, cI, cB, cS, roI, ro64, hpin, go_sem, Nat.reduceAdd, Nat.reduceMul]
  refine aCall_det (szI_sound x.kids (left - ((x.name.size : Nat) : Int)) (by omega) (by omega) s1) hpin ?_
  by_cases h1_ : left - ((x.name.size : Nat) : Int) - ((x.kids.length : Nat) : Int) < 0
  · have e : sub left (nodeCost x) = -1 := sub_neg (by unfold nodeCost; omega)
    rw [e]
    rw [sub_neg h1_]
    simp (decide := true) only [h1_, row1_length, cI, cB, cS, roI, ro64, hpin, go_sem, Nat.reduceAdd, Nat.reduceMul]
  rw [sub_pos h1_]
  have n1 : (left - ((x.name.size : Nat) : Int) - ((x.kids.length : Nat) : Int) < 0) = False := by simpa using h1_
  have e : sub left (nodeCost x) = left - ((x.name.size : Nat) : Int) - ((x.kids.length : Nat) : Int) := by rw [sub_pos (by unfold nodeCost; omega)]; unfold nodeCost; omega
  rw [e]
  simp (decide := true) only [n1, row1_length, cI, cB, cS, roI, ro64, hpin, go_sem, Nat.reduceAdd, Nat.reduceMul]
theorem szNodeS_sound (l : List NodeD) (left : Int) (h0 : 0 ≤ left) (h1 : left < 1152921504606846976) (hl : l.length < 1152921504606846976) (hs : ∀ y ∈ l, nodeSmall y) : Sound Tryz.prog 26 [.ro (.imm 100 (rows nodeL l)), .ro (.sc (.int .i64 left))] (fun rs st => rs = [(false, [cI (sub left (l.length + sumN nodeCost l))])]) := by
  refine sound_code (fn := Tryz.f26) (c := Tryz.f26.body.getD .skip) (res := [.tm 4]) (n := 27) sized (by kernel_rfl) (by rfl) (by kernel_rfl) (by rfl) (by rfl) (by simp [argsV]) (fun C hpin hfull => ?_)
  have w0 : IntKind.i64.wrap (left - (l.length : Int)) = left - l.length := w64 (by omega) (by omega)
  simp (decide := true) only [Tryz.f26, w0, row1_length, cI, cB, cS, roI, ro64, hpin, go_sem, Nat.reduceAdd, Nat.reduceMul]
  by_cases hn : left - (l.length : Int) < 0
  · have e : sub left (l.length + sumN nodeCost l) = -1 := sub_neg (by omega)
    rw [e]
    simp (decide := true) only [hn, row1_length, cI, cB, cS, roI, ro64, hpin, go_sem, Nat.reduceAdd, Nat.reduceMul]
  have nn : (left - (l.length : Int) < 0) = False := by simpa using hn
  simp (decide := true) only [nn, row1_length, cI, cB, cS, roI, ro64, hpin, go_sem, Nat.reduceAdd, Nat.reduceMul]
  refine Tri.loop (ι := Nat) (fun i => i ≤ l.length ∧ 0 ≤ left - l.length - (sumN nodeCost (l.take i) : Nat)) (fun i => ⟨27, [(0, .imm 100 (rows nodeL l)), (1, vI (left - l.length - (sumN nodeCost (l.take i) : Nat))), (5, vI i)], []⟩) (fun i => l.length - i) 0 ⟨Nat.zero_le _, by rw [sumN_nil]; omega⟩ ?_ ?_
  · refine Ent.weak ?_ ?_ ?_ ?_ <;> simp (decide := true) [subT, subB, hereT, hereV, hereL, St.get, look, vI, vB, vS, sumN]
  · rintro i ⟨hi, hp⟩
    refine code_sound sized _ ?_
    by_cases h : i < l.length
    · have e : ((i : Int) < (l.length : Int)) = True := by simp [h]
      simp (decide := true) only [e, rows_get _ _ h, Int.natCast_nonneg, vI, nodeL, row1_length, cI, cB, cS, roI, ro64, hpin, go_sem, Nat.reduceAdd, Nat.reduceMul]
      refine aCall_det (szNode_sound l[i] (left - l.length - (sumN nodeCost (l.take i) : Nat)) hp (by omega) (hs _ (List.getElem_mem h))) hpin ?_
      have hle := sumN_le nodeCost l (i + 1)
      have htk := sumN_take nodeCost l h
      by_cases h3 : left - l.length - (sumN nodeCost (l.take i) : Nat) - ((nodeCost l[i] : Nat) : Int) < 0
      · have e : sub left (l.length + sumN nodeCost l) = -1 := sub_neg (by omega)
        rw [e, sub_neg h3]
        simp (decide := true) only [nodeV, row1_length, cI, cB, cS, roI, ro64, hpin, go_sem, Nat.reduceAdd, Nat.reduceMul]
      · rw [sub_pos h3]
        have n3 : (left - l.length - (sumN nodeCost (l.take i) : Nat) - ((nodeCost l[i] : Nat) : Int) < 0) = False := by simpa using h3
        simp (decide := true) only [n3, nodeV, row1_length, cI, cB, cS, roI, ro64, hpin, go_sem, Nat.reduceAdd, Nat.reduceMul]
        have e4 : left - l.length - (sumN nodeCost (l.take i) : Nat) - ((nodeCost l[i] : Nat) : Int) = left - l.length - (sumN nodeCost (l.take (i + 1)) : Nat) := by omega
        rw [e4]
        exact ⟨i + 1, ⟨h, by omega⟩, by omega, Ent.weak (by simp (decide := true) [subT, St.get, look, w64s (n := l.length) h (by omega), vI]) (by simp [subB]) (by simp) (by simp [hereT, hereV, vI])⟩
    · have hil : i = l.length := by omega
      subst hil
      have e : ((l.length : Int) < (l.length : Int)) = False := by simp
      have e2 : sub left (l.length + sumN nodeCost l) = left - l.length - (sumN nodeCost l : Nat) := by
        rw [List.take_length] at hp
        rw [sub_pos (by omega)]; omega
      rw [e2]
      simp (decide := true) only [e, List.take_length, vI, row1_length, cI, cB, cS, roI, ro64, hpin, go_sem, Nat.reduceAdd, Nat.reduceMul]
theorem toNode_sound (x : NodeD) (h : nodeCost x ≤ 1048576) : Sound Tryz.prog 78 [.ro (nodeV x)] (fun rs st => rs = [(true, nodeC false x)]) := by
  unfold nodeCost at h
  refine sound_code (fn := Tryz.f78) (c := Tryz.f78.body.getD .skip) (res := [.ce 2 60]) (n := 18) sized (by kernel_rfl) (by rfl) (by kernel_rfl) (by rfl) (by rfl) (by simp [argsV]) (fun C hpin hfull => ?_)
  simp (decide := true) only [Tryz.f78, nodeV, row1_length, cI, cB, cS, roI, ro64, hpin, go_sem, Nat.reduceAdd, Nat.reduceMul]
  refine aCall_det (toI_sound x.kids (by omega)) hpin ?_
  simp (decide := true) only [nodeC, row1_length, cI, cB, cS, roI, ro64, hpin, go_sem, Nat.reduceAdd, Nat.reduceMul]
theorem toNodeS_sound (l : List NodeD) (h : l.length + sumN nodeCost l ≤ 1048576) : Sound Tryz.prog 34 [.ro (.imm 100 (rows nodeL l))] (fun rs st => rs = [(false, [.row false 60 (rows (nodeC false) l)])]) := by
  refine sound_code (fn := Tryz.f34) (c := Tryz.f34.body.getD .skip) (res := [.tm 2]) (n := 23) sized (by kernel_rfl) (by rfl) (by kernel_rfl) (by rfl) (by rfl) (by simp [argsV]) (fun C hpin hfull => ?_)
  have e1 : (56 : Nat) * (l.length : Int) ≤ 281474976710656 := by omega
  simp (decide := true) only [Tryz.f34, row1_length, cI, cB, cS, roI, ro64, hpin, go_sem, Nat.reduceAdd, Nat.reduceMul]
  refine ⟨by omega, by omega, by omega, ?_⟩
  let Z : List D := [.sc (.int .i64 0), .sc (.int .i64 0), .sc (.string ⟨#[]⟩), .sc (.slice none 0 0)]
  refine Tri.loop (ι := Nat) (fun i => i ≤ l.length) (fun i => ⟨23, [(0, .imm 100 (rows nodeL l)), (2, .ref 2 [] 0), (3, .ref 3 [] l.length), (4, vI i)], [(3, .row 60 (fillR (nodeC false) Z l i)), (2, .row 60 [])]⟩) (fun i => l.length - i) 0 (by simp) ?_ ?_
  · refine Ent.weak ?_ ?_ ?_ ?_ <;> simp (decide := true) [subT, subB, hereT, hereV, St.get, look, vI, vB, Z, fillR_zero]
  · rintro i hi
    refine code_sound sized _ ?_
    by_cases h' : i < l.length
    · have e : ((i : Int) < (l.length : Int)) = True := by simp [h']
      have hc := sumN_mem nodeCost h'
      simp (decide := true) only [e, h', rows_get _ _ h', Int.natCast_nonneg, vI, nodeL, row1_length, cI, cB, cS, roI, ro64, hpin, go_sem, Nat.reduceAdd, Nat.reduceMul]
      refine aCall_det (toNode_sound l[i] (by omega)) hpin ?_
      simp (decide := true) only [e, h', nodeV, nodeC, fillR_length (nodeC false) Z l hi, fillR_get (nodeC false) Z l h', Int.natCast_nonneg, Z, row1_length, cI, cB, cS, roI, ro64, hpin, go_sem, Nat.reduceAdd, Nat.reduceMul]
      have e4 := fillR_set (nodeC false) Z l h'
      simp only [nodeC, cI, cS, cB] at e4
      refine ⟨i + 1, h', by omega, Ent.weak ?_ ?_ ?_ ?_⟩
      · simp (decide := true) [subT, St.get, look, w64s (n := l.length) h' (by omega), vI, vB]
      · simp (decide := true) [subB, look, e4, cI, Z]
      all_goals simp (decide := true) [hereT, hereV, look, vI]
    · have hil : i = l.length := by omega
      subst hil
      have e : ((l.length : Int) < (l.length : Int)) = False := by simp
      simp (decide := true) only [e, fillR_length (nodeC false) Z l (Nat.le_refl _), fillR_end, vI, row1_length, cI, cB, cS, roI, ro64, hpin, go_sem, Nat.reduceAdd, Nat.reduceMul]
theorem eqNode_sound (x : NodeD) (h : nodeCost x ≤ 1048576) : Sound Tryz.prog 86 [.ro (nodeW x), .ro (nodeW x)] (fun rs st => rs = [(false, [cB true])]) := by
  unfold nodeCost at h
  refine sound_code (fn := Tryz.f86) (c := Tryz.f86.body.getD .skip) (res := [.tm 4]) (n := 26) sized (by kernel_rfl) (by rfl) (by kernel_rfl) (by rfl) (by rfl) (by simp [argsV]) (fun C hpin hfull => ?_)
  simp (decide := true) only [Tryz.f86, nodeW, bne_self_eq_false, row1_length, cI, cB, cS, roI, ro64, hpin, go_sem, Nat.reduceAdd, Nat.reduceMul]
  refine aCall_det (eqI_sound x.kids (by omega)) hpin ?_
  simp (decide := true) only [bne_self_eq_false, row1_length, cI, cB, cS, roI, ro64, hpin, go_sem, Nat.reduceAdd, Nat.reduceMul]
theorem eqNodeS_sound (l : List NodeD) (h : l.length + sumN nodeCost l ≤ 1048576) : Sound Tryz.prog 41 [.ro (.imm 60 (rows (nodeC true) l)), .ro (.imm 60 (rows (nodeC true) l))] (fun rs st => rs = [(false, [cB true])]) := by
  refine sound_code (fn := Tryz.f41) (c := Tryz.f41.body.getD .skip) (res := [.tm 4]) (n := 27) sized (by kernel_rfl) (by rfl) (by kernel_rfl) (by rfl) (by rfl) (by simp [argsV]) (fun C hpin hfull => ?_)
  simp (decide := true) only [Tryz.f41, bne_self_eq_false, row1_length, cI, cB, cS, roI, ro64, hpin, go_sem, Nat.reduceAdd, Nat.reduceMul]
  refine Tri.loop (ι := Nat) (fun i => i ≤ l.length) (fun i => ⟨27, [(0, .imm 60 (rows (nodeC true) l)), (1, .imm 60 (rows (nodeC true) l)), (5, vI i)], []⟩) (fun i => l.length - i) 0 (by simp) ?_ ?_
  · refine Ent.weak ?_ ?_ ?_ ?_ <;> simp (decide := true) [subT, subB, hereT, hereV, St.get, look, vI, vB]
  · rintro i hi
    refine code_sound sized _ ?_
    by_cases h' : i < l.length
    · have e : ((i : Int) < (l.length : Int)) = True := by simp [h']
      have hc := sumN_mem nodeCost h'
      simp (decide := true) only [e, vI, row1_length, cI, cB, cS, roI, ro64, hpin, go_sem, Nat.reduceAdd, Nat.reduceMul]
      refine Tri.sched sized [(0, true), (1, true), (4, true), (5, true), (2, true), (6, true), (3, true), (7, true), (8, false), (9, false)] mixed (by kernel_rfl) (fun C2 hC2 => ?_)
      have hp2 : ∀ o, isPin o = false → C2.pin o = none := by rw [hC2]; exact hpin
      simp (decide := true) only [e, h', rows_get _ _ h', Int.natCast_nonneg, vI, nodeC, hp2, row1_length, cI, cB, cS, roI, ro64, go_sem, Nat.reduceAdd, Nat.reduceMul]
      refine aCall_det (eqNode_sound l[i] (by omega)) hp2 ?_
      simp (decide := true) only [nodeW, row1_length, cI, cB, cS, roI, ro64, hp2, go_sem, Nat.reduceAdd, Nat.reduceMul]
      refine ⟨i + 1, h', by omega, Ent.weak ?_ ?_ ?_ ?_⟩ <;> simp (decide := true) [subT, subB, hereT, hereV, St.get, look, w64s (n := l.length) h' (by omega), vI, vB]
    · have hil : i = l.length := by omega
      subst hil
      have e : ((l.length : Int) < (l.length : Int)) = False := by simp
      simp (decide := true) only [e, vI, row1_length, cI, cB, cS, roI, ro64, hpin, go_sem, Nat.reduceAdd, Nat.reduceMul]
theorem szParam_sound (x : ParamD) (left : Int) (h0 : 0 ≤ left) (h1 : left < 1152921504606846976) (hs : paramSmall x) : Sound Tryz.prog 163 [.ro (paramV x), .ro (.sc (.int .i64 left))] (fun rs st => rs = [(false, [cI (sub left (paramCost x))])]) := by
  refine sound_code (fn := Tryz.f163) (c := Tryz.f163.body.getD .skip) (res := [.tm 4]) (n := 13) sized (by kernel_rfl) (by rfl) (by kernel_rfl) (by rfl) (by rfl) (by simp [argsV]) (fun C hpin hfull => ?_)
  have s0 := hs
  unfold paramSmall at s0
  have w0 : IntKind.i64.wrap (left - (x.name.size : Int)) = left - x.name.size := w64 (by omega) (by omega)
  simp (decide := true) only [Tryz.f163, paramV, w0, row1_length, cI, cB, cS, roI, ro64, hpin, go_sem, Nat.reduceAdd, Nat.reduceMul]
  by_cases h0_ : left - ((x.name.size : Nat) : Int) < 0
  · have e : sub left (paramCost x) = -1 := sub_neg (by unfold paramCost; omega)
    rw [e]
    simp (decide := true) only [h0_, row1_length, cI, cB, cS, roI, ro64, hpin, go_sem, Nat.reduceAdd, Nat.reduceMul]
  have n0 : (left - ((x.name.size : Nat) : Int) < 0) = False := by simpa using h0_
  have e : sub left (paramCost x) = left - ((x.name.size : Nat) : Int) := by rw [sub_pos (by unfold paramCost; omega)]; unfold paramCost; omega
  rw [e]
  simp (decide := true) only [n0, row1_length, cI, cB, cS, roI, ro64, hpin, go_sem, Nat.reduceAdd, Nat.reduceMul]
theorem szParamS_sound (l : List ParamD) (left : Int) (h0 : 0 ≤ left) (h1 : left < 1152921504606846976) (hl : l.length < 1152921504606846976) (hs : ∀ y ∈ l, paramSmall y) : Sound Tryz.prog 132 [.ro (.imm 164 (rows paramL l)), .ro (.sc (.int .i64 left))] (fun rs st => rs = [(false, [cI (sub left (l.length + sumN paramCost l))])]) := by
  refine sound_code (fn := Tryz.f132) (c := Tryz.f132.body.getD .skip) (res := [.tm 4]) (n := 27) sized (by kernel_rfl) (by rfl) (by kernel_rfl) (by rfl) (by rfl) (by simp [argsV]) (fun C hpin hfull => ?_)
  have w0 : IntKind.i64.wrap (left - (l.length : Int)) = left - l.length := w64 (by omega) (by omega)
  simp (decide := true) only [Tryz.f132, w0, row1_length, cI, cB, cS, roI, ro64, hpin, go_sem, Nat.reduceAdd, Nat.reduceMul]
  by_cases hn : left - (l.length : Int) < 0
  · have e : sub left (l.length + sumN paramCost l) = -1 := sub_neg (by omega)
    rw [e]
    simp (decide := true) only [hn, row1_length, cI, cB, cS, roI, ro64, hpin, go_sem, Nat.reduceAdd, Nat.reduceMul]
  have nn : (left - (l.length : Int) < 0) = False := by simpa using hn
  simp (decide := true) only [nn, row1_length, cI, cB, cS, roI, ro64, hpin, go_sem, Nat.reduceAdd, Nat.reduceMul]
  refine Tri.loop (ι := Nat) (fun i => i ≤ l.length ∧ 0 ≤ left - l.length - (sumN paramCost (l.take i) : Nat)) (fun i => ⟨27, [(0, .imm 164 (rows paramL l)), (1, vI (left - l.length - (sumN paramCost (l.take i) : Nat))), (5, vI i)], []⟩) (fun i => l.length - i) 0 ⟨Nat.zero_le _, by rw [sumN_nil]; omega⟩ ?_ ?_
  · refine Ent.weak ?_ ?_ ?_ ?_ <;> simp (decide := true) [subT, subB, hereT, hereV, hereL, St.get, look, vI, vB, vS, sumN]
  · rintro i ⟨hi, hp⟩
    refine code_sound sized _ ?_
    by_cases h : i < l.length
    · have e : ((i : Int) < (l.length : Int)) = True := by simp [h]
      simp (decide := true) only [e, rows_get _ _ h, Int.natCast_nonneg, vI, paramL, row1_length, cI, cB, cS, roI, ro64, hpin, go_sem, Nat.reduceAdd, Nat.reduceMul]
      refine aCall_det (szParam_sound l[i] (left - l.length - (sumN paramCost (l.take i) : Nat)) hp (by omega) (hs _ (List.getElem_mem h))) hpin ?_
      have hle := sumN_le paramCost l (i + 1)
      have htk := sumN_take paramCost l h
      by_cases h3 : left - l.length - (sumN paramCost (l.take i) : Nat) - ((paramCost l[i] : Nat) : Int) < 0
      · have e : sub left (l.length + sumN paramCost l) = -1 := sub_neg (by omega)
        rw [e, sub_neg h3]
        simp (decide := true) only [paramV, row1_length, cI, cB, cS, roI, ro64, hpin, go_sem, Nat.reduceAdd, Nat.reduceMul]
      · rw [sub_pos h3]
        have n3 : (left - l.length - (sumN paramCost (l.take i) : Nat) - ((paramCost l[i] : Nat) : Int) < 0) = False := by simpa using h3
        simp (decide := true) only [n3, paramV, row1_length, cI, cB, cS, roI, ro64, hpin, go_sem, Nat.reduceAdd, Nat.reduceMul]
        have e4 : left - l.length - (sumN paramCost (l.take i) : Nat) - ((paramCost l[i] : Nat) : Int) = left - l.length - (sumN paramCost (l.take (i + 1)) : Nat) := by omega
        rw [e4]
        exact ⟨i + 1, ⟨h, by omega⟩, by omega, Ent.weak (by simp (decide := true) [subT, St.get, look, w64s (n := l.length) h (by omega), vI]) (by simp [subB]) (by simp) (by simp [hereT, hereV, vI])⟩
    · have hil : i = l.length := by omega
      subst hil
      have e : ((l.length : Int) < (l.length : Int)) = False := by simp
      have e2 : sub left (l.length + sumN paramCost l) = left - l.length - (sumN paramCost l : Nat) := by
        rw [List.take_length] at hp
        rw [sub_pos (by omega)]; omega
      rw [e2]
      simp (decide := true) only [e, List.take_length, vI, row1_length, cI, cB, cS, roI, ro64, hpin, go_sem, Nat.reduceAdd, Nat.reduceMul]
theorem toParam_sound (x : ParamD) (h : paramCost x ≤ 1048576) : Sound Tryz.prog 166 [.ro (paramV x)] (fun rs st => rs = [(true, paramC false x)]) := by
  unfold paramCost at h
  refine sound_code (fn := Tryz.f166) (c := Tryz.f166.body.getD .skip) (res := [.ce 2 86]) (n := 11) sized (by kernel_rfl) (by rfl) (by kernel_rfl) (by rfl) (by rfl) (by simp [argsV]) (fun C hpin hfull => ?_)
  simp (decide := true) only [Tryz.f166, paramV, paramC, row1_length, cI, cB, cS, roI, ro64, hpin, go_sem, Nat.reduceAdd, Nat.reduceMul]
theorem toParamS_sound (l : List ParamD) (h : l.length + sumN paramCost l ≤ 1048576) : Sound Tryz.prog 135 [.ro (.imm 164 (rows paramL l))] (fun rs st => rs = [(false, [.row false 86 (rows (paramC false) l)])]) := by
  refine sound_code (fn := Tryz.f135) (c := Tryz.f135.body.getD .skip) (res := [.tm 2]) (n := 23) sized (by kernel_rfl) (by rfl) (by kernel_rfl) (by rfl) (by rfl) (by simp [argsV]) (fun C hpin hfull => ?_)
  have e1 : (24 : Nat) * (l.length : Int) ≤ 281474976710656 := by omega
  simp (decide := true) only [Tryz.f135, row1_length, cI, cB, cS, roI, ro64, hpin, go_sem, Nat.reduceAdd, Nat.reduceMul]
  refine ⟨by omega, by omega, by omega, ?_⟩
  let Z : List D := [.sc (.string ⟨#[]⟩), .sc (.int .i64 0)]
  refine Tri.loop (ι := Nat) (fun i => i ≤ l.length) (fun i => ⟨23, [(0, .imm 164 (rows paramL l)), (2, .ref 2 [] 0), (3, .ref 3 [] l.length), (4, vI i)], [(3, .row 86 (fillR (paramC false) Z l i)), (2, .row 86 [])]⟩) (fun i => l.length - i) 0 (by simp) ?_ ?_
  · refine Ent.weak ?_ ?_ ?_ ?_ <;> simp (decide := true) [subT, subB, hereT, hereV, St.get, look, vI, vB, Z, fillR_zero]
  · rintro i hi
    refine code_sound sized _ ?_
    by_cases h' : i < l.length
    · have e : ((i : Int) < (l.length : Int)) = True := by simp [h']
      have hc := sumN_mem paramCost h'
      simp (decide := true) only [e, h', rows_get _ _ h', Int.natCast_nonneg, vI, paramL, row1_length, cI, cB, cS, roI, ro64, hpin, go_sem, Nat.reduceAdd, Nat.reduceMul]
      refine aCall_det (toParam_sound l[i] (by omega)) hpin ?_
      simp (decide := true) only [e, h', paramV, paramC, fillR_length (paramC false) Z l hi, fillR_get (paramC false) Z l h', Int.natCast_nonneg, Z, row1_length, cI, cB, cS, roI, ro64, hpin, go_sem, Nat.reduceAdd, Nat.reduceMul]
      have e4 := fillR_set (paramC false) Z l h'
      simp only [paramC, cI, cS, cB] at e4
      refine ⟨i + 1, h', by omega, Ent.weak ?_ ?_ ?_ ?_⟩
      · simp (decide := true) [subT, St.get, look, w64s (n := l.length) h' (by omega), vI, vB]
      · simp (decide := true) [subB, look, e4, cI, Z]
      all_goals simp (decide := true) [hereT, hereV, look, vI]
    · have hil : i = l.length := by omega
      subst hil
      have e : ((l.length : Int) < (l.length : Int)) = False := by simp
      simp (decide := true) only [e, fillR_length (paramC false) Z l (Nat.le_refl _), fillR_end, vI, row1_length, cI, cB, cS, roI, ro64, hpin, go_sem, Nat.reduceAdd, Nat.reduceMul]
theorem eqParam_sound (x : ParamD) (h : paramCost x ≤ 1048576) : Sound Tryz.prog 171 [.ro (paramW x), .ro (paramW x)] (fun rs st => rs = [(false, [cB true])]) := by
  unfold paramCost at h
  refine sound_code (fn := Tryz.f171) (c := Tryz.f171.body.getD .skip) (res := [.tm 4]) (n := 15) sized (by kernel_rfl) (by rfl) (by kernel_rfl) (by rfl) (by rfl) (by simp [argsV]) (fun C hpin hfull => ?_)
  simp (decide := true) only [Tryz.f171, paramW, bne_self_eq_false, row1_length, cI, cB, cS, roI, ro64, hpin, go_sem, Nat.reduceAdd, Nat.reduceMul]
theorem eqParamS_sound (l : List ParamD) (h : l.length + sumN paramCost l ≤ 1048576) : Sound Tryz.prog 140 [.ro (.imm 86 (rows (paramC true) l)), .ro (.imm 86 (rows (paramC true) l))] (fun rs st => rs = [(false, [cB true])]) := by
  refine sound_code (fn := Tryz.f140) (c := Tryz.f140.body.getD .skip) (res := [.tm 4]) (n := 27) sized (by kernel_rfl) (by rfl) (by kernel_rfl) (by rfl) (by rfl) (by simp [argsV]) (fun C hpin hfull => ?_)
  simp (decide := true) only [Tryz.f140, bne_self_eq_false, row1_length, cI, cB, cS, roI, ro64, hpin, go_sem, Nat.reduceAdd, Nat.reduceMul]
  refine Tri.loop (ι := Nat) (fun i => i ≤ l.length) (fun i => ⟨27, [(0, .imm 86 (rows (paramC true) l)), (1, .imm 86 (rows (paramC true) l)), (5, vI i)], []⟩) (fun i => l.length - i) 0 (by simp) ?_ ?_
  · refine Ent.weak ?_ ?_ ?_ ?_ <;> simp (decide := true) [subT, subB, hereT, hereV, St.get, look, vI, vB]
  · rintro i hi
    refine code_sound sized _ ?_
    by_cases h' : i < l.length
    · have e : ((i : Int) < (l.length : Int)) = True := by simp [h']
      have hc := sumN_mem paramCost h'
      simp (decide := true) only [e, vI, row1_length, cI, cB, cS, roI, ro64, hpin, go_sem, Nat.reduceAdd, Nat.reduceMul]
      refine Tri.sched sized [(0, true), (1, true), (4, true), (5, true), (2, true), (6, true), (3, true), (7, true), (8, false), (9, false)] mixed (by kernel_rfl) (fun C2 hC2 => ?_)
      have hp2 : ∀ o, isPin o = false → C2.pin o = none := by rw [hC2]; exact hpin
      simp (decide := true) only [e, h', rows_get _ _ h', Int.natCast_nonneg, vI, paramC, hp2, row1_length, cI, cB, cS, roI, ro64, go_sem, Nat.reduceAdd, Nat.reduceMul]
      refine aCall_det (eqParam_sound l[i] (by omega)) hp2 ?_
      simp (decide := true) only [paramW, row1_length, cI, cB, cS, roI, ro64, hp2, go_sem, Nat.reduceAdd, Nat.reduceMul]
      refine ⟨i + 1, h', by omega, Ent.weak ?_ ?_ ?_ ?_⟩ <;> simp (decide := true) [subT, subB, hereT, hereV, St.get, look, w64s (n := l.length) h' (by omega), vI, vB]
    · have hil : i = l.length := by omega
      subst hil
      have e : ((l.length : Int) < (l.length : Int)) = False := by simp
      simp (decide := true) only [e, vI, row1_length, cI, cB, cS, roI, ro64, hpin, go_sem, Nat.reduceAdd, Nat.reduceMul]
theorem szFn_sound (x : FnD) (left : Int) (h0 : 0 ≤ left) (h1 : left < 1152921504606846976) (hs : fnSmall x) : Sound Tryz.prog 74 [.ro (fnV x), .ro (.sc (.int .i64 left))] (fun rs st => rs = [(false, [cI (sub left (fnCost x))])]) := by
  refine sound_code (fn := Tryz.f74) (c := Tryz.f74.body.getD .skip) (res := [.tm 4]) (n := 19) sized (by kernel_rfl) (by rfl) (by kernel_rfl) (by rfl) (by rfl) (by simp [argsV]) (fun C hpin hfull => ?_)
  obtain ⟨s0, s1, q1⟩ := hs
  have w0 : IntKind.i64.wrap (left - (x.name.size : Int)) = left - x.name.size := w64 (by omega) (by omega)
  simp (decide := true) only [Tryz.f74, fnV, w0, row1_length, cI, cB, cS, roI, ro64, hpin, go_sem, Nat.reduceAdd, Nat.reduceMul]
  by_cases h0_ : left - ((x.name.size : Nat) : Int) < 0
  · have e : sub left (fnCost x) = -1 := sub_neg (by unfold fnCost; omega)
    rw [e]
    simp (decide := true) only [h0_, row1_length, cI, cB, cS, roI, ro64, hpin, go_sem, Nat.reduceAdd, Nat.reduceMul]
  have n0 : (left - ((x.name.size : Nat) : Int) < 0) = False := by simpa using h0_
  simp (decide := true) only [n0, row1_length, cI, cB, cS, roI, ro64, hpin, go_sem, Nat.reduceAdd, Nat.reduceMul]
  refine aCall_det (szParamS_sound x.params (left - ((x.name.size : Nat) : Int)) (by omega) (by omega) s1 q1) hpin ?_
  by_cases h1_ : left - ((x.name.size : Nat) : Int) - (((x.params.length + sumN paramCost x.params) : Nat) : Int) < 0
  · have e : sub left (fnCost x) = -1 := sub_neg (by unfold fnCost; omega)
    rw [e]
    rw [sub_neg h1_]
    simp (decide := true) only [h1_, row1_length, cI, cB, cS, roI, ro64, hpin, go_sem, Nat.reduceAdd, Nat.reduceMul]
  rw [sub_pos h1_]
  have n1 : (left - ((x.name.size : Nat) : Int) - (((x.params.length + sumN paramCost x.params) : Nat) : Int) < 0) = False := by simpa using h1_
  have e : sub left (fnCost x) = left - ((x.name.size : Nat) : Int) - (((x.params.length + sumN paramCost x.params) : Nat) : Int) := by rw [sub_pos (by unfold fnCost; omega)]; unfold fnCost; omega
  rw [e]
  simp (decide := true) only [n1, row1_length, cI, cB, cS, roI, ro64, hpin, go_sem, Nat.reduceAdd, Nat.reduceMul]
theorem szFnS_sound (l : List FnD) (left : Int) (h0 : 0 ≤ left) (h1 : left < 1152921504606846976) (hl : l.length < 1152921504606846976) (hs : ∀ y ∈ l, fnSmall y) : Sound Tryz.prog 27 [.ro (.imm 104 (rows fnL l)), .ro (.sc (.int .i64 left))] (fun rs st => rs = [(false, [cI (sub left (l.length + sumN fnCost l))])]) := by
  refine sound_code (fn := Tryz.f27) (c := Tryz.f27.body.getD .skip) (res := [.tm 4]) (n := 27) sized (by kernel_rfl) (by rfl) (by kernel_rfl) (by rfl) (by rfl) (by simp [argsV]) (fun C hpin hfull => ?_)
  have w0 : IntKind.i64.wrap (left - (l.length : Int)) = left - l.length := w64 (by omega) (by omega)
  simp (decide := true) only [Tryz.f27, w0, row1_length, cI, cB, cS, roI, ro64, hpin, go_sem, Nat.reduceAdd, Nat.reduceMul]
  by_cases hn : left - (l.length : Int) < 0
  · have e : sub left (l.length + sumN fnCost l) = -1 := sub_neg (by omega)
    rw [e]
    simp (decide := true) only [hn, row1_length, cI, cB, cS, roI, ro64, hpin, go_sem, Nat.reduceAdd, Nat.reduceMul]
  have nn : (left - (l.length : Int) < 0) = False := by simpa using hn
  simp (decide := true) only [nn, row1_length, cI, cB, cS, roI, ro64, hpin, go_sem, Nat.reduceAdd, Nat.reduceMul]
  refine Tri.loop (ι := Nat) (fun i => i ≤ l.length ∧ 0 ≤ left - l.length - (sumN fnCost (l.take i) : Nat)) (fun i => ⟨27, [(0, .imm 104 (rows fnL l)), (1, vI (left - l.length - (sumN fnCost (l.take i) : Nat))), (5, vI i)], []⟩) (fun i => l.length - i) 0 ⟨Nat.zero_le _, by rw [sumN_nil]; omega⟩ ?_ ?_
  · refine Ent.weak ?_ ?_ ?_ ?_ <;> simp (decide := true) [subT, subB, hereT, hereV, hereL, St.get, look, vI, vB, vS, sumN]
  · rintro i ⟨hi, hp⟩
    refine code_sound sized _ ?_
    by_cases h : i < l.length
    · have e : ((i : Int) < (l.length : Int)) = True := by simp [h]
      simp (decide := true) only [e, rows_get _ _ h, Int.natCast_nonneg, vI, fnL, row1_length, cI, cB, cS, roI, ro64, hpin, go_sem, Nat.reduceAdd, Nat.reduceMul]
      refine aCall_det (szFn_sound l[i] (left - l.length - (sumN fnCost (l.take i) : Nat)) hp (by omega) (hs _ (List.getElem_mem h))) hpin ?_
      have hle := sumN_le fnCost l (i + 1)
      have htk := sumN_take fnCost l h
      by_cases h3 : left - l.length - (sumN fnCost (l.take i) : Nat) - ((fnCost l[i] : Nat) : Int) < 0
      · have e : sub left (l.length + sumN fnCost l) = -1 := sub_neg (by omega)
        rw [e, sub_neg h3]
        simp (decide := true) only [fnV, row1_length, cI, cB, cS, roI, ro64, hpin, go_sem, Nat.reduceAdd, Nat.reduceMul]
      · rw [sub_pos h3]
        have n3 : (left - l.length - (sumN fnCost (l.take i) : Nat) - ((fnCost l[i] : Nat) : Int) < 0) = False := by simpa using h3
        simp (decide := true) only [n3, fnV, row1_length, cI, cB, cS, roI, ro64, hpin, go_sem, Nat.reduceAdd, Nat.reduceMul]
        have e4 : left - l.length - (sumN fnCost (l.take i) : Nat) - ((fnCost l[i] : Nat) : Int) = left - l.length - (sumN fnCost (l.take (i + 1)) : Nat) := by omega
        rw [e4]
        exact ⟨i + 1, ⟨h, by omega⟩, by omega, Ent.weak (by simp (decide := true) [subT, St.get, look, w64s (n := l.length) h (by omega), vI]) (by simp [subB]) (by simp) (by simp [hereT, hereV, vI])⟩
    · have hil : i = l.length := by omega
      subst hil
      have e : ((l.length : Int) < (l.length : Int)) = False := by simp
      have e2 : sub left (l.length + sumN fnCost l) = left - l.length - (sumN fnCost l : Nat) := by
        rw [List.take_length] at hp
        rw [sub_pos (by omega)]; omega
      rw [e2]
      simp (decide := true) only [e, List.take_length, vI, row1_length, cI, cB, cS, roI, ro64, hpin, go_sem, Nat.reduceAdd, Nat.reduceMul]
theorem toFn_sound (x : FnD) (h : fnCost x ≤ 1048576) : Sound Tryz.prog 79 [.ro (fnV x)] (fun rs st => rs = [(true, fnC false x)]) := by
  unfold fnCost at h
  refine sound_code (fn := Tryz.f79) (c := Tryz.f79.body.getD .skip) (res := [.ce 2 80]) (n := 21) sized (by kernel_rfl) (by rfl) (by kernel_rfl) (by rfl) (by rfl) (by simp [argsV]) (fun C hpin hfull => ?_)
  simp (decide := true) only [Tryz.f79, fnV, row1_length, cI, cB, cS, roI, ro64, hpin, go_sem, Nat.reduceAdd, Nat.reduceMul]
  refine aCall_det (toParamS_sound x.params (by omega)) hpin ?_
  simp (decide := true) only [fnC, row1_length, cI, cB, cS, roI, ro64, hpin, go_sem, Nat.reduceAdd, Nat.reduceMul]
theorem toFnS_sound (l : List FnD) (h : l.length + sumN fnCost l ≤ 1048576) : Sound Tryz.prog 35 [.ro (.imm 104 (rows fnL l))] (fun rs st => rs = [(false, [.row false 80 (rows (fnC false) l)])]) := by
  refine sound_code (fn := Tryz.f35) (c := Tryz.f35.body.getD .skip) (res := [.tm 2]) (n := 23) sized (by kernel_rfl) (by rfl) (by kernel_rfl) (by rfl) (by rfl) (by simp [argsV]) (fun C hpin hfull => ?_)
  have e1 : (64 : Nat) * (l.length : Int) ≤ 281474976710656 := by omega
  simp (decide := true) only [Tryz.f35, row1_length, cI, cB, cS, roI, ro64, hpin, go_sem, Nat.reduceAdd, Nat.reduceMul]
  refine ⟨by omega, by omega, by omega, ?_⟩
  let Z : List D := [.sc (.string ⟨#[]⟩), .sc (.slice none 0 0), .sc (.int .i64 0), .sc (.int .i64 0), .sc (.int .i64 0)]
  refine Tri.loop (ι := Nat) (fun i => i ≤ l.length) (fun i => ⟨23, [(0, .imm 104 (rows fnL l)), (2, .ref 2 [] 0), (3, .ref 3 [] l.length), (4, vI i)], [(3, .row 80 (fillR (fnC false) Z l i)), (2, .row 80 [])]⟩) (fun i => l.length - i) 0 (by simp) ?_ ?_
  · refine Ent.weak ?_ ?_ ?_ ?_ <;> simp (decide := true) [subT, subB, hereT, hereV, St.get, look, vI, vB, Z, fillR_zero]
  · rintro i hi
    refine code_sound sized _ ?_
    by_cases h' : i < l.length
    · have e : ((i : Int) < (l.length : Int)) = True := by simp [h']
      have hc := sumN_mem fnCost h'
      simp (decide := true) only [e, h', rows_get _ _ h', Int.natCast_nonneg, vI, fnL, row1_length, cI, cB, cS, roI, ro64, hpin, go_sem, Nat.reduceAdd, Nat.reduceMul]
      refine aCall_det (toFn_sound l[i] (by omega)) hpin ?_
      simp (decide := true) only [e, h', fnV, fnC, fillR_length (fnC false) Z l hi, fillR_get (fnC false) Z l h', Int.natCast_nonneg, Z, row1_length, cI, cB, cS, roI, ro64, hpin, go_sem, Nat.reduceAdd, Nat.reduceMul]
      have e4 := fillR_set (fnC false) Z l h'
      simp only [fnC, cI, cS, cB] at e4
      refine ⟨i + 1, h', by omega, Ent.weak ?_ ?_ ?_ ?_⟩
      · simp (decide := true) [subT, St.get, look, w64s (n := l.length) h' (by omega), vI, vB]
      · simp (decide := true) [subB, look, e4, cI, Z]
      all_goals simp (decide := true) [hereT, hereV, look, vI]
    · have hil : i = l.length := by omega
      subst hil
      have e : ((l.length : Int) < (l.length : Int)) = False := by simp
      simp (decide := true) only [e, fillR_length (fnC false) Z l (Nat.le_refl _), fillR_end, vI, row1_length, cI, cB, cS, roI, ro64, hpin, go_sem, Nat.reduceAdd, Nat.reduceMul]
theorem eqFn_sound (x : FnD) (h : fnCost x ≤ 1048576) : Sound Tryz.prog 87 [.ro (fnW x), .ro (fnW x)] (fun rs st => rs = [(false, [cB true])]) := by
  unfold fnCost at h
  refine sound_code (fn := Tryz.f87) (c := Tryz.f87.body.getD .skip) (res := [.tm 4]) (n := 31) sized (by kernel_rfl) (by rfl) (by kernel_rfl) (by rfl) (by rfl) (by simp [argsV]) (fun C hpin hfull => ?_)
  simp (decide := true) only [Tryz.f87, fnW, bne_self_eq_false, row1_length, cI, cB, cS, roI, ro64, hpin, go_sem, Nat.reduceAdd, Nat.reduceMul]
  refine aCall_det (eqParamS_sound x.params (by omega)) hpin ?_
  simp (decide := true) only [bne_self_eq_false, row1_length, cI, cB, cS, roI, ro64, hpin, go_sem, Nat.reduceAdd, Nat.reduceMul]
theorem eqFnS_sound (l : List FnD) (h : l.length + sumN fnCost l ≤ 1048576) : Sound Tryz.prog 42 [.ro (.imm 80 (rows (fnC true) l)), .ro (.imm 80 (rows (fnC true) l))] (fun rs st => rs = [(false, [cB true])]) := by
  refine sound_code (fn := Tryz.f42) (c := Tryz.f42.body.getD .skip) (res := [.tm 4]) (n := 27) sized (by kernel_rfl) (by rfl) (by kernel_rfl) (by rfl) (by rfl) (by simp [argsV]) (fun C hpin hfull => ?_)
  simp (decide := true) only [Tryz.f42, bne_self_eq_false, row1_length, cI, cB, cS, roI, ro64, hpin, go_sem, Nat.reduceAdd, Nat.reduceMul]
  refine Tri.loop (ι := Nat) (fun i => i ≤ l.length) (fun i => ⟨27, [(0, .imm 80 (rows (fnC true) l)), (1, .imm 80 (rows (fnC true) l)), (5, vI i)], []⟩) (fun i => l.length - i) 0 (by simp) ?_ ?_
  · refine Ent.weak ?_ ?_ ?_ ?_ <;> simp (decide := true) [subT, subB, hereT, hereV, St.get, look, vI, vB]
  · rintro i hi
    refine code_sound sized _ ?_
    by_cases h' : i < l.length
    · have e : ((i : Int) < (l.length : Int)) = True := by simp [h']
      have hc := sumN_mem fnCost h'
      simp (decide := true) only [e, vI, row1_length, cI, cB, cS, roI, ro64, hpin, go_sem, Nat.reduceAdd, Nat.reduceMul]
      refine Tri.sched sized [(0, true), (1, true), (4, true), (5, true), (2, true), (6, true), (3, true), (7, true), (8, false), (9, false)] mixed (by kernel_rfl) (fun C2 hC2 => ?_)
      have hp2 : ∀ o, isPin o = false → C2.pin o = none := by rw [hC2]; exact hpin
      simp (decide := true) only [e, h', rows_get _ _ h', Int.natCast_nonneg, vI, fnC, hp2, row1_length, cI, cB, cS, roI, ro64, go_sem, Nat.reduceAdd, Nat.reduceMul]
      refine aCall_det (eqFn_sound l[i] (by omega)) hp2 ?_
      simp (decide := true) only [fnW, row1_length, cI, cB, cS, roI, ro64, hp2, go_sem, Nat.reduceAdd, Nat.reduceMul]
      refine ⟨i + 1, h', by omega, Ent.weak ?_ ?_ ?_ ?_⟩ <;> simp (decide := true) [subT, subB, hereT, hereV, St.get, look, w64s (n := l.length) h' (by omega), vI, vB]
    · have hil : i = l.length := by omega
      subst hil
      have e : ((l.length : Int) < (l.length : Int)) = False := by simp
      simp (decide := true) only [e, vI, row1_length, cI, cB, cS, roI, ro64, hpin, go_sem, Nat.reduceAdd, Nat.reduceMul]
theorem szProgram_sound (x : ProgramD) (left : Int) (h0 : 0 ≤ left) (h1 : left < 1152921504606846976) (hs : programSmall x) : Sound Tryz.prog 7 [.ro (programV x), .ro (.sc (.int .i64 left))] (fun rs st => rs = [(false, [cI (sub left (programCost x))])]) := by
  refine sound_code (fn := Tryz.f7) (c := Tryz.f7.body.getD .skip) (res := [.tm 4]) (n := 18) sized (by kernel_rfl) (by rfl) (by kernel_rfl) (by rfl) (by rfl) (by simp [argsV]) (fun C hpin hfull => ?_)
  obtain ⟨s0, q0, s1, q1⟩ := hs
  simp (decide := true) only [Tryz.f7, programV, row1_length, cI, cB, cS, roI, ro64, hpin, go_sem, Nat.reduceAdd, Nat.reduceMul]
  refine aCall_det (szNodeS_sound x.nodes (left) (by omega) (by omega) s0 q0) hpin ?_
  by_cases h0_ : left - (((x.nodes.length + sumN nodeCost x.nodes) : Nat) : Int) < 0
  · have e : sub left (programCost x) = -1 := sub_neg (by unfold programCost; omega)
    rw [e]
    rw [sub_neg h0_]
    simp (decide := true) only [h0_, row1_length, cI, cB, cS, roI, ro64, hpin, go_sem, Nat.reduceAdd, Nat.reduceMul]
  rw [sub_pos h0_]
  have n0 : (left - (((x.nodes.length + sumN nodeCost x.nodes) : Nat) : Int) < 0) = False := by simpa using h0_
  simp (decide := true) only [n0, row1_length, cI, cB, cS, roI, ro64, hpin, go_sem, Nat.reduceAdd, Nat.reduceMul]
  refine aCall_det (szFnS_sound x.fns (left - (((x.nodes.length + sumN nodeCost x.nodes) : Nat) : Int)) (by omega) (by omega) s1 q1) hpin ?_
  by_cases h1_ : left - (((x.nodes.length + sumN nodeCost x.nodes) : Nat) : Int) - (((x.fns.length + sumN fnCost x.fns) : Nat) : Int) < 0
  · have e : sub left (programCost x) = -1 := sub_neg (by unfold programCost; omega)
    rw [e]
    rw [sub_neg h1_]
    simp (decide := true) only [h1_, row1_length, cI, cB, cS, roI, ro64, hpin, go_sem, Nat.reduceAdd, Nat.reduceMul]
  rw [sub_pos h1_]
  have n1 : (left - (((x.nodes.length + sumN nodeCost x.nodes) : Nat) : Int) - (((x.fns.length + sumN fnCost x.fns) : Nat) : Int) < 0) = False := by simpa using h1_
  have e : sub left (programCost x) = left - (((x.nodes.length + sumN nodeCost x.nodes) : Nat) : Int) - (((x.fns.length + sumN fnCost x.fns) : Nat) : Int) := by rw [sub_pos (by unfold programCost; omega)]; unfold programCost; omega
  rw [e]
  simp (decide := true) only [n1, row1_length, cI, cB, cS, roI, ro64, hpin, go_sem, Nat.reduceAdd, Nat.reduceMul]
theorem toProgram_sound (x : ProgramD) (h : programCost x ≤ 1048576) : Sound Tryz.prog 9 [.ro (programV x)] (fun rs st => rs = [(true, programC false x)]) := by
  unfold programCost at h
  refine sound_code (fn := Tryz.f9) (c := Tryz.f9.body.getD .skip) (res := [.ce 2 33]) (n := 13) sized (by kernel_rfl) (by rfl) (by kernel_rfl) (by rfl) (by rfl) (by simp [argsV]) (fun C hpin hfull => ?_)
  simp (decide := true) only [Tryz.f9, programV, row1_length, cI, cB, cS, roI, ro64, hpin, go_sem, Nat.reduceAdd, Nat.reduceMul]
  refine aCall_det (toNodeS_sound x.nodes (by omega)) hpin ?_
  simp (decide := true) only [row1_length, cI, cB, cS, roI, ro64, hpin, go_sem, Nat.reduceAdd, Nat.reduceMul]
  refine aCall_det (toFnS_sound x.fns (by omega)) hpin ?_
  simp (decide := true) only [programC, row1_length, cI, cB, cS, roI, ro64, hpin, go_sem, Nat.reduceAdd, Nat.reduceMul]
theorem eqProgram_sound (x : ProgramD) (h : programCost x ≤ 1048576) : Sound Tryz.prog 13 [.ro (programW x), .ro (programW x)] (fun rs st => rs = [(false, [cB true])]) := by
  unfold programCost at h
  refine sound_code (fn := Tryz.f13) (c := Tryz.f13.body.getD .skip) (res := [.tm 4]) (n := 17) sized (by kernel_rfl) (by rfl) (by kernel_rfl) (by rfl) (by rfl) (by simp [argsV]) (fun C hpin hfull => ?_)
  simp (decide := true) only [Tryz.f13, programW, bne_self_eq_false, row1_length, cI, cB, cS, roI, ro64, hpin, go_sem, Nat.reduceAdd, Nat.reduceMul]
  refine aCall_det (eqNodeS_sound x.nodes (by omega)) hpin ?_
  simp (decide := true) only [bne_self_eq_false, row1_length, cI, cB, cS, roI, ro64, hpin, go_sem, Nat.reduceAdd, Nat.reduceMul]
  refine aCall_det (eqFnS_sound x.fns (by omega)) hpin ?_
  simp (decide := true) only [bne_self_eq_false, row1_length, cI, cB, cS, roI, ro64, hpin, go_sem, Nat.reduceAdd, Nat.reduceMul]
theorem eqEffect_sound (x : EffectD) (h : effectCost x ≤ 1048576) : Sound Tryz.prog 40 [.ro (effectW x), .ro (effectW x)] (fun rs st => rs = [(false, [cB true])]) := by
  unfold effectCost at h
  refine sound_code (fn := Tryz.f40) (c := Tryz.f40.body.getD .skip) (res := [.tm 4]) (n := 15) sized (by kernel_rfl) (by rfl) (by kernel_rfl) (by rfl) (by rfl) (by simp [argsV]) (fun C hpin hfull => ?_)
  simp (decide := true) only [Tryz.f40, effectW, bne_self_eq_false, row1_length, cI, cB, cS, roI, ro64, hpin, go_sem, Nat.reduceAdd, Nat.reduceMul]
theorem eqEffectS_sound (l : List EffectD) (h : l.length + sumN effectCost l ≤ 1048576) : Sound Tryz.prog 12 [.ro (.imm 65 (rows (effectC true) l)), .ro (.imm 65 (rows (effectC true) l))] (fun rs st => rs = [(false, [cB true])]) := by
  refine sound_code (fn := Tryz.f12) (c := Tryz.f12.body.getD .skip) (res := [.tm 4]) (n := 27) sized (by kernel_rfl) (by rfl) (by kernel_rfl) (by rfl) (by rfl) (by simp [argsV]) (fun C hpin hfull => ?_)
  simp (decide := true) only [Tryz.f12, bne_self_eq_false, row1_length, cI, cB, cS, roI, ro64, hpin, go_sem, Nat.reduceAdd, Nat.reduceMul]
  refine Tri.loop (ι := Nat) (fun i => i ≤ l.length) (fun i => ⟨27, [(0, .imm 65 (rows (effectC true) l)), (1, .imm 65 (rows (effectC true) l)), (5, vI i)], []⟩) (fun i => l.length - i) 0 (by simp) ?_ ?_
  · refine Ent.weak ?_ ?_ ?_ ?_ <;> simp (decide := true) [subT, subB, hereT, hereV, St.get, look, vI, vB]
  · rintro i hi
    refine code_sound sized _ ?_
    by_cases h' : i < l.length
    · have e : ((i : Int) < (l.length : Int)) = True := by simp [h']
      have hc := sumN_mem effectCost h'
      simp (decide := true) only [e, vI, row1_length, cI, cB, cS, roI, ro64, hpin, go_sem, Nat.reduceAdd, Nat.reduceMul]
      refine Tri.sched sized [(0, true), (1, true), (4, true), (5, true), (2, true), (6, true), (3, true), (7, true), (8, false), (9, false)] mixed (by kernel_rfl) (fun C2 hC2 => ?_)
      have hp2 : ∀ o, isPin o = false → C2.pin o = none := by rw [hC2]; exact hpin
      simp (decide := true) only [e, h', rows_get _ _ h', Int.natCast_nonneg, vI, effectC, hp2, row1_length, cI, cB, cS, roI, ro64, go_sem, Nat.reduceAdd, Nat.reduceMul]
      refine aCall_det (eqEffect_sound l[i] (by omega)) hp2 ?_
      simp (decide := true) only [effectW, row1_length, cI, cB, cS, roI, ro64, hp2, go_sem, Nat.reduceAdd, Nat.reduceMul]
      refine ⟨i + 1, h', by omega, Ent.weak ?_ ?_ ?_ ?_⟩ <;> simp (decide := true) [subT, subB, hereT, hereV, St.get, look, w64s (n := l.length) h' (by omega), vI, vB]
    · have hil : i = l.length := by omega
      subst hil
      have e : ((l.length : Int) < (l.length : Int)) = False := by simp
      simp (decide := true) only [e, vI, row1_length, cI, cB, cS, roI, ro64, hpin, go_sem, Nat.reduceAdd, Nat.reduceMul]
end Go.Proofs.YtnbodmohnkohfaaGreatDoor.AW
