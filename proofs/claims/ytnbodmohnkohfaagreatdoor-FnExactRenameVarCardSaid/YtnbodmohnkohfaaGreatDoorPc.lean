/- Whether a node is right, as the reference tells it. No condition beyond those named. -/
import Derived.Test.YtnbodmohnkohfaaGreatDoorPb
namespace Go.Proofs.YtnbodmohnkohfaaGreatDoor.AW
open Go.RowKit
set_option maxHeartbeats 8000000
set_option maxRecDepth 100000
set_option linter.unusedSimpArgs false
set_option linter.unusedVariables false

theorem nodeS_sound (nodes : List NodeD) (k : Int) (hn : nodes.length ≤ 1048576) (hk : ∀ x ∈ nodes, x.kids.length ≤ 1048576) : Sound Tryz.prog 154 [.ro (.imm 60 (rows (nodeC true) nodes)), .ro (.sc (.int .i64 k))] (fun rs st => rs = [(false, [cB (nodeB nodes k)])]) := by
  refine sound_tri (fn := Tryz.f154) (c := Tryz.f154.body.getD .skip) (res := [.tm 4]) (n := 124) sized (by kernel_rfl) (by rfl) (by kernel_rfl) (by rfl) (by rfl) (by simp [argsV]) (fun uf ub C hpin hpin2 hfull => ?_)
  simp only [Tryz.f154, Option.getD_some]
  have w1 : IntKind.i64.wrap ((nodes.length : Int) - 1) = (nodes.length : Int) - 1 := w64 (by omega) (by omega)
  refine Tri.step sized ?_
  simp (decide := true) only [drop0, row1_length, rows_length, cI, cB, cS, roI, ro64, hpin, go_sem, Nat.reduceAdd, Nat.reduceMul]
  refine Tri.step sized ?_
  simp (decide := true) only [w1, drop0, row1_length, rows_length, cI, cB, cS, roI, ro64, hpin, go_sem, Nat.reduceAdd, Nat.reduceMul]
  refine aCall_det (l01In' k 0 (nodes.length - 1)) hpin ?_
  simp (decide := true) only [drop0, row1_length, rows_length, cI, cB, cS, roI, ro64, hpin, go_sem, Nat.reduceAdd, Nat.reduceMul]
  unfold nodeB
  cases h0 : inI k 0 (nodes.length - 1) with
  | false => simp (decide := true) only [Bool.false_and, drop0, row1_length, rows_length, cI, cB, cS, roI, ro64, hpin, go_sem, Nat.reduceAdd, Nat.reduceMul]
  | true =>
  have hr := inI_true h0
  obtain ⟨n, rfl⟩ : ∃ n : Nat, k = n := ⟨k.toNat, by omega⟩
  have hnl : n < nodes.length := by omega
  rw [nAt_nat hnl, Bool.true_and]
  have hkx := hk nodes[n] (List.getElem_mem hnl)
  generalize hx : nodes[n] = x at hkx
  have hc1 : ((n : Int) < (nodes.length : Int)) = True := eq_true (by omega)
  simp (decide := true) only [hc1, rows_get _ _ hnl, hx, Int.natCast_nonneg, nodeC, drop0, row1_length, rows_length, cI, cB, cS, roI, ro64, hpin, go_sem, Nat.reduceAdd, Nat.reduceMul]
  refine aCall_det (l01In' x.kind 1 20) hpin ?_
  simp (decide := true) only [drop0, row1_length, rows_length, cI, cB, cS, roI, ro64, hpin, go_sem, Nat.reduceAdd, Nat.reduceMul]
  unfold nodeXB
  cases h1 : inI x.kind 1 20 with
  | false => simp (decide := true) only [Bool.false_and, drop0, row1_length, rows_length, cI, cB, cS, roI, ro64, hpin, go_sem, Nat.reduceAdd, Nat.reduceMul]
  | true =>
  simp (decide := true) only [Bool.true_and, drop0, row1_length, rows_length, cI, cB, cS, roI, ro64, hpin, go_sem, Nat.reduceAdd, Nat.reduceMul]
  refine Tri.step sized ?_
  simp (decide := true) only [hc1, rows_get _ _ hnl, hx, Int.natCast_nonneg, nodeC, drop0, row1_length, rows_length, cI, cB, cS, roI, ro64, hpin, go_sem, Nat.reduceAdd, Nat.reduceMul]
  refine Tri.ent ?_ (Ent.frb hfull 5)
  refine Tri.step sized ?_
  simp (decide := true) only [drop0, row1_length, rows_length, cI, cB, cS, roI, ro64, hpin, go_sem, Nat.reduceAdd, Nat.reduceMul]
  refine aCall_det (shapeS_sound x.kind) hpin ?_
  simp (decide := true) only [drop0, row1_length, rows_length, cI, cB, cS, roI, ro64, hpin, go_sem, Nat.reduceAdd, Nat.reduceMul]
  have hno := numOk_eq x
  cases h2 : inI x.kids.length (shapeI x.kind).1 (shapeI x.kind).2 with
  | false =>
    refine Tri.step sized ?_
    simp (decide := true) only [drop0, row1_length, rows_length, cI, cB, cS, roI, ro64, hpin, go_sem, Nat.reduceAdd, Nat.reduceMul]
    refine aCall_det (l01In' x.kids.length (shapeI x.kind).1 (shapeI x.kind).2) hpin ?_
    simp (decide := true) only [h2, Bool.false_and, drop0, row1_length, rows_length, cI, cB, cS, roI, ro64, hpin, go_sem, Nat.reduceAdd, Nat.reduceMul]
  | true =>
  rw [Bool.true_and]
  cases hq : numOkB x with
  | false =>
    rw [hq] at hno
    refine Tri.step sized ?_
    simp (decide := true) only [drop0, row1_length, rows_length, cI, cB, cS, roI, ro64, hpin, go_sem, Nat.reduceAdd, Nat.reduceMul]
    refine aCall_det (l01In' x.kids.length (shapeI x.kind).1 (shapeI x.kind).2) hpin ?_
    simp (decide := true) only [h2, Bool.false_and, drop0, row1_length, rows_length, cI, cB, cS, roI, ro64, hpin, go_sem, Nat.reduceAdd, Nat.reduceMul]
    refine aCall_det (l01In' x.num 0 1000000000) hpin ?_
    simp (decide := true) only [drop0, row1_length, rows_length, cI, cB, cS, roI, ro64, hpin, go_sem, Nat.reduceAdd, Nat.reduceMul]
    cases h3 : inI x.num 0 1000000000 with
    | false => simp (decide := true) only [drop0, row1_length, rows_length, cI, cB, cS, roI, ro64, hpin, go_sem, Nat.reduceAdd, Nat.reduceMul]
    | true =>
      rw [h3] at hno
      cases h4 : x.kind == 1 with
      | true => simp [bne, h4] at hno
      | false =>
        simp (decide := true) only [h4, bne, drop0, row1_length, rows_length, cI, cB, cS, roI, ro64, hpin, go_sem, Nat.reduceAdd, Nat.reduceMul]
        cases h5 : x.num == 0 with
        | true => simp [bne, h5] at hno
        | false => simp (decide := true) only [h5, drop0, row1_length, rows_length, cI, cB, cS, roI, ro64, hpin, go_sem, Nat.reduceAdd, Nat.reduceMul]
  | true =>
  rw [Bool.true_and]
  rw [hq] at hno
  refine Tri.stop sized ⟨124, [(0, .imm 60 (rows (nodeC true) nodes)), (1, vI n), (4, vB false), (5, .ip (nodeC true x) 0)], []⟩ ?_ ?_
  · simp (decide := true) only [drop0, row1_length, rows_length, cI, cB, cS, roI, ro64, hpin, go_sem, Nat.reduceAdd, Nat.reduceMul]
    refine aCall_det (l01In' x.kids.length (shapeI x.kind).1 (shapeI x.kind).2) hpin ?_
    simp (decide := true) only [h2, drop0, row1_length, rows_length, cI, cB, cS, roI, ro64, hpin, go_sem, Nat.reduceAdd, Nat.reduceMul]
    refine aCall_det (l01In' x.num 0 1000000000) hpin ?_
    simp (decide := true) only [drop0, row1_length, rows_length, cI, cB, cS, roI, ro64, hpin, go_sem, Nat.reduceAdd, Nat.reduceMul]
    cases h3 : inI x.num 0 1000000000 with
    | false => simp [h3] at hno
    | true =>
      rw [h3] at hno
      simp (decide := true) only [drop0, row1_length, rows_length, cI, cB, cS, roI, ro64, hpin, go_sem, Nat.reduceAdd, Nat.reduceMul]
      cases h4 : x.kind == 1 with
      | true =>
        simp (decide := true) only [h4, bne, drop0, row1_length, rows_length, cI, cB, cS, roI, ro64, hpin, go_sem, Nat.reduceAdd, Nat.reduceMul]
        refine Ent.weak ?_ ?_ ?_ ?_ <;> simp (decide := true) [subT, subB, hereT, hereV, hereL, St.get, look, vI, vB, vS, cI, cS, cB, nodeC, roI]
      | false =>
        simp (decide := true) only [h4, bne, drop0, row1_length, rows_length, cI, cB, cS, roI, ro64, hpin, go_sem, Nat.reduceAdd, Nat.reduceMul]
        cases h5 : x.num == 0 with
        | false => simp [bne, h4, h5] at hno
        | true =>
          simp (decide := true) only [h5, drop0, row1_length, rows_length, cI, cB, cS, roI, ro64, hpin, go_sem, Nat.reduceAdd, Nat.reduceMul]
          refine Ent.weak ?_ ?_ ?_ ?_ <;> simp (decide := true) [subT, subB, hereT, hereV, hereL, St.get, look, vI, vB, vS, cI, cS, cB, nodeC, roI]
  have hna := namOk_eq x
  cases hq2 : namOkB x with
  | false =>
    rw [hq2] at hna
    rw [Bool.false_and]
    refine Tri.step sized ?_
    simp (decide := true) only [vB, vI, nodeC, drop0, row1_length, rows_length, cI, cB, cS, roI, ro64, hpin, go_sem, Nat.reduceAdd, Nat.reduceMul]
    refine Tri.sched sized [(0, true), (3, true), (1, true), (4, true), (5, true), (2, false), (6, false), (7, false), (8, false), (9, false), (10, false), (11, false), (12, false), (13, false), (14, false), (15, false), (16, false), (17, false)] mixed (by kernel_rfl) (fun C2 hC2 => ?_)
    have hp2 : ∀ o, isPin o = false → C2.pin o = none := by rw [hC2]; exact hpin
    simp (decide := true) only [drop0, row1_length, rows_length, cI, cB, cS, roI, ro64, hp2, go_sem, Nat.reduceAdd, Nat.reduceMul]
    refine aCall_det (named_sound x.kind) hp2 ?_
    simp (decide := true) only [bne, drop0, row1_length, rows_length, cI, cB, cS, roI, ro64, hp2, go_sem, Nat.reduceAdd, Nat.reduceMul]
    cases h3 : hasNameB x.kind == !decide (x.name = ⟨#[]⟩) with
    | false => simp (decide := true) only [h3, drop0, row1_length, rows_length, cI, cB, cS, roI, ro64, hp2, go_sem, Nat.reduceAdd, Nat.reduceMul]
    | true =>
      rw [h3, Bool.true_and] at hna
      simp (decide := true) only [h3, drop0, row1_length, rows_length, cI, cB, cS, roI, ro64, hp2, go_sem, Nat.reduceAdd, Nat.reduceMul]
      by_cases h4 : x.name = ⟨#[]⟩
      · simp [h4] at hna
      · have h40 : decide (x.name = ⟨#[]⟩) = false := decide_eq_false h4
        rw [h40, Bool.false_or] at hna
        simp (decide := true) only [h40, drop0, row1_length, rows_length, cI, cB, cS, roI, ro64, hp2, go_sem, Nat.reduceAdd, Nat.reduceMul]
        refine aCall_det (nameS_sound x.name) hp2 ?_
        simp (decide := true) only [← hna, drop0, row1_length, rows_length, cI, cB, cS, roI, ro64, hp2, go_sem, Nat.reduceAdd, Nat.reduceMul]
  | true =>
  rw [hq2] at hna
  rw [Bool.true_and]
  refine Tri.stop sized ⟨124, [(0, .imm 60 (rows (nodeC true) nodes)), (1, vI n), (4, vB false), (5, .ip (nodeC true x) 0)], []⟩ ?_ ?_
  · simp (decide := true) only [vB, vI, nodeC, drop0, row1_length, rows_length, cI, cB, cS, roI, ro64, hpin, go_sem, Nat.reduceAdd, Nat.reduceMul]
    refine Tri.sched sized [(0, true), (3, true), (1, true), (4, true), (5, true), (2, false), (6, false), (7, false), (8, false), (9, false), (10, false), (11, false), (12, false), (13, false), (14, false), (15, false), (16, false), (17, false)] mixed (by kernel_rfl) (fun C2 hC2 => ?_)
    have hp2 : ∀ o, isPin o = false → C2.pin o = none := by rw [hC2]; exact hpin
    simp (decide := true) only [drop0, row1_length, rows_length, cI, cB, cS, roI, ro64, hp2, go_sem, Nat.reduceAdd, Nat.reduceMul]
    refine aCall_det (named_sound x.kind) hp2 ?_
    simp (decide := true) only [bne, drop0, row1_length, rows_length, cI, cB, cS, roI, ro64, hp2, go_sem, Nat.reduceAdd, Nat.reduceMul]
    cases h3 : hasNameB x.kind == !decide (x.name = ⟨#[]⟩) with
    | false => simp [h3] at hna
    | true =>
      rw [h3, Bool.true_and] at hna
      simp (decide := true) only [h3, drop0, row1_length, rows_length, cI, cB, cS, roI, ro64, hp2, go_sem, Nat.reduceAdd, Nat.reduceMul]
      by_cases h4 : x.name = ⟨#[]⟩
      · simp (decide := true) only [h4, drop0, row1_length, rows_length, cI, cB, cS, roI, ro64, hp2, go_sem, Nat.reduceAdd, Nat.reduceMul]
        refine Ent.weak ?_ ?_ ?_ ?_ <;> simp (decide := true) [subT, subB, hereT, hereV, hereL, St.get, look, vI, vB, vS, cI, cS, cB, nodeC, roI, h4]
      · have h40 : decide (x.name = ⟨#[]⟩) = false := decide_eq_false h4
        rw [h40, Bool.false_or] at hna
        simp (decide := true) only [h40, drop0, row1_length, rows_length, cI, cB, cS, roI, ro64, hp2, go_sem, Nat.reduceAdd, Nat.reduceMul]
        refine aCall_det (nameS_sound x.name) hp2 ?_
        simp (decide := true) only [← hna, drop0, row1_length, rows_length, cI, cB, cS, roI, ro64, hp2, go_sem, Nat.reduceAdd, Nat.reduceMul]
        refine Ent.weak ?_ ?_ ?_ ?_ <;> simp (decide := true) [subT, subB, hereT, hereV, hereL, St.get, look, vI, vB, vS, cI, cS, cB, nodeC, roI]
  refine code_sound sized _ ?_
  simp (decide := true) only [vB, vI, nodeC, drop0, row1_length, rows_length, cI, cB, cS, roI, ro64, hpin, go_sem, Nat.reduceAdd, Nat.reduceMul]
  refine Tri.loop (ι := Nat) (fun i => i ≤ x.kids.length ∧ rangeB (kidB nodes n x) i = true) (fun i => ⟨124, [(0, .imm 60 (rows (nodeC true) nodes)), (1, vI n), (4, vB false), (5, .ip (nodeC true x) 0), (8, vI i)], []⟩) (fun i => x.kids.length - i) 0 ⟨by simp, rfl⟩ ?_ ?_
  · refine Ent.weak ?_ ?_ ?_ ?_ <;> simp (decide := true) [subT, subB, hereT, hereV, hereL, St.get, look, vI, vB, vS, cI, cS, cB, nodeC, roI]
  · rintro i ⟨hi, hq⟩
    refine code_sound sized _ ?_
    by_cases h' : i < x.kids.length
    · have e : ((i : Int) < (x.kids.length : Int)) = True := by simp [h']
      have w2 : IntKind.i64.wrap ((n : Int) - 1) = (n : Int) - 1 := w64 (by omega) (by omega)
      have hg : x.kids.getD i 0 = x.kids[i] := by simp [List.getD, h']
      have hkb : kidB nodes n x i = (inI x.kids[i] 0 (n - 1) && (!(x.kids.take i).contains x.kids[i] && fitsB x.kind i (nAt nodes x.kids[i]).kind)) := by simp only [kidB, hg]
      simp (decide := true) only [e, row1_get _ _ h', Int.natCast_nonneg, vB, vI, nodeC, drop0, row1_length, rows_length, cI, cB, cS, roI, ro64, hpin, go_sem, Nat.reduceAdd, Nat.reduceMul]
      refine Tri.sched sized [(0, true), (2, true), (5, true), (6, true), (1, false), (3, false), (4, false), (7, false), (8, false), (9, false), (10, true), (12, true), (13, true), (14, true), (16, true), (11, true), (15, false), (17, false), (18, false), (19, false), (20, false), (21, false), (22, false), (23, false), (24, false)] mixed (by kernel_rfl) (fun C2 hC2 => ?_)
      have hp2 : ∀ o, isPin o = false → C2.pin o = none := by rw [hC2]; exact hpin
      simp (decide := true) only [e, row1_get _ _ h', Int.natCast_nonneg, w2, drop0, row1_length, rows_length, cI, cB, cS, roI, ro64, hp2, go_sem, Nat.reduceAdd, Nat.reduceMul]
      refine aCall_det (l01In' x.kids[i] 0 (n - 1)) hp2 ?_
      simp (decide := true) only [drop0, row1_length, rows_length, cI, cB, cS, roI, ro64, hp2, go_sem, Nat.reduceAdd, Nat.reduceMul]
      cases h3 : inI x.kids[i] 0 (n - 1) with
      | false =>
        have hf : rangeB (kidB nodes n x) x.kids.length = false := rangeB_false h' (by rw [hkb, h3]; rfl)
        simp (decide := true) only [hf, drop0, row1_length, rows_length, cI, cB, cS, roI, ro64, hp2, go_sem, Nat.reduceAdd, Nat.reduceMul]
      | true =>
      have hr3 := inI_true h3
      have hkn : x.kids[i].toNat < nodes.length := by omega
      have z0 : (0 ≤ x.kids[i]) = True := eq_true hr3.1
      have z1 : (x.kids[i] < (nodes.length : Int)) = True := eq_true (by omega)
      rw [h3, Bool.true_and, nAt_get hkn] at hkb
      simp (decide := true) only [e, row1_get _ _ h', z0, z1, h', rows_get _ _ hkn, nodeC, Int.natCast_nonneg, drop0, row1_length, rows_length, cI, cB, cS, roI, ro64, hp2, go_sem, Nat.reduceAdd, Nat.reduceMul]
      refine aCall_det (fitsS_sound x.kind i nodes[x.kids[i].toNat].kind) hp2 ?_
      simp (decide := true) only [drop0, row1_length, rows_length, cI, cB, cS, roI, ro64, hp2, go_sem, Nat.reduceAdd, Nat.reduceMul]
      cases h5 : fitsB x.kind i nodes[x.kids[i].toNat].kind with
      | false =>
        have hf : rangeB (kidB nodes n x) x.kids.length = false := rangeB_false h' (by rw [hkb, h5, Bool.and_false])
        simp (decide := true) only [hf, drop0, row1_length, rows_length, cI, cB, cS, roI, ro64, hp2, go_sem, Nat.reduceAdd, Nat.reduceMul]
      | true =>
      rw [h5, Bool.and_true, contains_range x.kids i h', Bool.not_not] at hkb
      simp (decide := true) only [drop0, row1_length, rows_length, cI, cB, cS, roI, ro64, hp2, go_sem, Nat.reduceAdd, Nat.reduceMul]
      refine Tri.loop (ι := Nat) (fun j => j ≤ i ∧ rangeB (fun j => !(x.kids.getD i 0 == x.kids.getD j 0)) j = true) (fun j => ⟨124, [(0, .imm 60 (rows (nodeC true) nodes)), (1, vI n), (4, vB false), (5, .ip (nodeC true x) 0), (8, vI i), (9, vI j)], []⟩) (fun j => i - j) 0 ⟨by simp, rfl⟩ ?_ ?_
      · refine Ent.weak ?_ ?_ ?_ ?_ <;> simp (decide := true) [subT, subB, hereT, hereV, hereL, St.get, look, vI, vB, vS, cI, cS, cB, nodeC, roI]
      · rintro j ⟨hj, hq2⟩
        refine code_sound sized _ ?_
        by_cases hj' : j < i
        · have e2 : ((j : Int) < (i : Int)) = True := by simp [hj']
          have hjl : j < x.kids.length := by omega
          have e3 : ((j : Int) < (x.kids.length : Int)) = True := by simp [hjl]
          have hgj : x.kids.getD j 0 = x.kids[j] := by simp [List.getD, hjl]
          simp (decide := true) only [e, e2, e3, row1_get _ _ h', row1_get _ _ hjl, Int.natCast_nonneg, vB, vI, nodeC, drop0, row1_length, rows_length, cI, cB, cS, roI, ro64, hpin, go_sem, Nat.reduceAdd, Nat.reduceMul]
          refine Tri.sched sized [(0, true), (2, true), (5, true), (7, true), (1, true), (3, true), (4, true), (6, false), (8, false), (9, false), (10, false)] mixed (by kernel_rfl) (fun C2 hC2 => ?_)
          have hp2 : ∀ o, isPin o = false → C2.pin o = none := by rw [hC2]; exact hpin
          simp (decide := true) only [e, e2, e3, row1_get _ _ h', row1_get _ _ hjl, Int.natCast_nonneg, drop0, row1_length, rows_length, cI, cB, cS, roI, ro64, hp2, go_sem, Nat.reduceAdd, Nat.reduceMul]
          cases h6 : x.kids[i] == x.kids[j] with
          | true =>
            have hf : rangeB (kidB nodes n x) x.kids.length = false := rangeB_false h' (by rw [hkb]; exact rangeB_false hj' (by simp only [hg, hgj, h6]; rfl))
            simp (decide := true) only [hf, drop0, row1_length, rows_length, cI, cB, cS, roI, ro64, hp2, go_sem, Nat.reduceAdd, Nat.reduceMul]
          | false =>
            simp (decide := true) only [drop0, row1_length, rows_length, cI, cB, cS, roI, ro64, hp2, go_sem, Nat.reduceAdd, Nat.reduceMul]
            refine ⟨j + 1, ⟨hj', by rw [rangeB_succ, hq2]; simp only [hg, hgj, h6]; rfl⟩, by omega, Ent.weak ?_ ?_ ?_ ?_⟩
            all_goals simp (decide := true) [subT, subB, hereT, hereV, hereL, St.get, look, vI, vB, vS, cI, cS, cB, nodeC, roI, w64s (n := x.kids.length) hjl (by omega)]
        · have hil : j = i := by omega
          subst hil
          have e2 : ((j : Int) < (j : Int)) = False := by simp
          simp (decide := true) only [e2, vB, vI, nodeC, drop0, row1_length, rows_length, cI, cB, cS, roI, ro64, hpin, go_sem, Nat.reduceAdd, Nat.reduceMul]
          refine ⟨j + 1, ⟨h', by rw [rangeB_succ, hq, hkb, hq2]; rfl⟩, by omega, Ent.weak ?_ ?_ ?_ ?_⟩
          all_goals simp (decide := true) [subT, subB, hereT, hereV, hereL, St.get, look, vI, vB, vS, cI, cS, cB, nodeC, roI, w64s (n := x.kids.length) h' (by omega)]
    · have hil : i = x.kids.length := by omega
      subst hil
      have e : ((x.kids.length : Int) < (x.kids.length : Int)) = False := by simp
      rw [hq]
      simp (decide := true) only [e, vB, vI, nodeC, drop0, row1_length, rows_length, cI, cB, cS, roI, ro64, hpin, go_sem, Nat.reduceAdd, Nat.reduceMul]
end Go.Proofs.YtnbodmohnkohfaaGreatDoor.AW
