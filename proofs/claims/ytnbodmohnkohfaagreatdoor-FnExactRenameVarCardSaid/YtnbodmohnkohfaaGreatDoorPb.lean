/- Whether a node is right, as the program tells it and as the reference does. No condition beyond those named. -/
import Derived.Test.YtnbodmohnkohfaaGreatDoorPa
namespace Go.Proofs.YtnbodmohnkohfaaGreatDoor.AW
open Go.RowKit
set_option maxHeartbeats 8000000
set_option maxRecDepth 100000
set_option linter.unusedSimpArgs false
set_option linter.unusedVariables false

def nd0 : NodeD := ⟨0, 0, ⟨#[]⟩, []⟩
def nAt (nodes : List NodeD) (j : Int) : NodeD := nodes.getD j.toNat nd0
theorem nAt_get {nodes : List NodeD} {j : Int} (h : j.toNat < nodes.length) : nAt nodes j = nodes[j.toNat] := by simp [nAt, List.getD, h]
theorem nAt_nat {nodes : List NodeD} {n : Nat} (h : n < nodes.length) : nAt nodes (n : Int) = nodes[n] := by simp [nAt, List.getD, h]
def kidB (nodes : List NodeD) (k : Int) (x : NodeD) (i : Nat) : Bool := inI (x.kids.getD i 0) 0 (k - 1) && (!(x.kids.take i).contains (x.kids.getD i 0) && fitsB x.kind i (nAt nodes (x.kids.getD i 0)).kind)
def numOkB (x : NodeD) : Bool := if x.kind == 1 then inI x.num 0 1000000000 else x.num == 0
def namOkB (x : NodeD) : Bool := if hasNameB x.kind then nameB x.name else decide (x.name = ⟨#[]⟩)
def rangeB (f : Nat → Bool) (n : Nat) : Bool := (List.range n).all f
theorem rangeB_zero (f : Nat → Bool) : rangeB f 0 = true := rfl
theorem rangeB_succ (f : Nat → Bool) (n : Nat) : rangeB f (n + 1) = (rangeB f n && f n) := by simp [rangeB, List.range_succ]
theorem rangeB_false {f : Nat → Bool} {n i : Nat} (h : i < n) (hf : f i = false) : rangeB f n = false := by
  unfold rangeB; rw [List.all_eq_false]; exact ⟨i, List.mem_range.2 h, by simp [hf]⟩
theorem rangeB_true {f : Nat → Bool} {n : Nat} : rangeB f n = true ↔ ∀ i, i < n → f i = true := by
  unfold rangeB; rw [List.all_eq_true]; exact ⟨fun h i hi => h i (List.mem_range.2 hi), fun h i hi => h i (List.mem_range.1 hi)⟩
def nodeXB (nodes : List NodeD) (k : Int) (x : NodeD) : Bool := inI x.kind 1 20 && (inI x.kids.length (shapeI x.kind).1 (shapeI x.kind).2 && (numOkB x && (namOkB x && rangeB (kidB nodes k x) x.kids.length)))
def nodeB (nodes : List NodeD) (k : Int) : Bool := inI k 0 (nodes.length - 1) && nodeXB nodes k (nAt nodes k)

theorem inI_true {n a b : Int} (h : inI n a b = true) : a ≤ n ∧ n ≤ b := by simpa [inI] using h
theorem inI_false {n a b : Int} (h : inI n a b = false) : ¬ (a ≤ n ∧ n ≤ b) := by
  intro hh; rw [show inI n a b = true by simpa [inI] using hh] at h; cases h

theorem drop0 {α : Type} (l : List α) : List.drop (Int.toNat 0) l = l := rfl
theorem takeI (l : List Int) {i : Nat} (h : i ≤ l.length) : (row1 cI l).take i = row1 cI (l.take i) := by simp [row1, List.map_take]

theorem nodeI_sound (nodes : List NodeD) (k : Int) (hn : nodes.length ≤ 1048576) (hk : ∀ x ∈ nodes, x.kids.length ≤ 1048576) : Sound Tryz.prog 183 [.ro (.imm 60 (rows (nodeC true) nodes)), .ro (.sc (.int .i64 k))] (fun rs st => rs = [(false, [cB (nodeB nodes k)])]) := by
  refine sound_tri (fn := Tryz.f183) (c := Tryz.f183.body.getD .skip) (res := [.tm 4]) (n := 101) sized (by kernel_rfl) (by rfl) (by kernel_rfl) (by rfl) (by rfl) (by simp [argsV]) (fun uf ub C hpin hpin2 hfull => ?_)
  simp only [Tryz.f183, Option.getD_some]
  have w1 : IntKind.i64.wrap ((nodes.length : Int) - 1) = (nodes.length : Int) - 1 := w64 (by omega) (by omega)
  refine Tri.step sized ?_
  simp (decide := true) only [drop0, row1_length, rows_length, cI, cB, cS, roI, ro64, hpin, go_sem, Nat.reduceAdd, Nat.reduceMul]
  refine Tri.step sized ?_
  simp (decide := true) only [w1, drop0, row1_length, rows_length, cI, cB, cS, roI, ro64, hpin, go_sem, Nat.reduceAdd, Nat.reduceMul]
  refine aCall_det (in' k 0 (nodes.length - 1)) hpin ?_
  simp (decide := true) only [drop0, row1_length, rows_length, cI, cB, cS, roI, ro64, hpin, go_sem, Nat.reduceAdd, Nat.reduceMul]
  unfold nodeB
  cases h0 : inI k 0 (nodes.length - 1) with
  | false => simp (decide := true) only [Bool.false_and, drop0, row1_length, rows_length, cI, cB, cS, roI, ro64, hpin, go_sem, Nat.reduceAdd, Nat.reduceMul]
  | true =>
  have hr := inI_true h0
  obtain ⟨n, rfl⟩ : ∃ n : Nat, k = n := ⟨k.toNat, by omega⟩
  have hnl : n < nodes.length := by omega
  rw [nAt_nat hnl, Bool.true_and]
  have hkx := hk nodes[n] (List.getElem_mem hnl)
  generalize hx : nodes[n] = x at hkx
  have hc1 : ((n : Int) < (nodes.length : Int)) = True := eq_true (by omega)
  simp (decide := true) only [drop0, row1_length, rows_length, cI, cB, cS, roI, ro64, hpin, go_sem, Nat.reduceAdd, Nat.reduceMul]
  refine Tri.step sized ?_
  simp (decide := true) only [hc1, rows_get _ _ hnl, hx, Int.natCast_nonneg, nodeC, drop0, row1_length, rows_length, cI, cB, cS, roI, ro64, hpin, go_sem, Nat.reduceAdd, Nat.reduceMul]
  refine Tri.ent ?_ (Ent.frb hfull 5)
  refine Tri.step sized ?_
  simp (decide := true) only [drop0, row1_length, rows_length, cI, cB, cS, roI, ro64, hpin, go_sem, Nat.reduceAdd, Nat.reduceMul]
  refine aCall_det (shapeI_sound x.kind) hpin ?_
  simp (decide := true) only [drop0, row1_length, rows_length, cI, cB, cS, roI, ro64, hpin, go_sem, Nat.reduceAdd, Nat.reduceMul]
  refine Tri.step sized ?_
  simp (decide := true) only [drop0, row1_length, rows_length, cI, cB, cS, roI, ro64, hpin, go_sem, Nat.reduceAdd, Nat.reduceMul]
  refine aCall_det (in' x.kind 1 20) hpin ?_
  simp (decide := true) only [drop0, row1_length, rows_length, cI, cB, cS, roI, ro64, hpin, go_sem, Nat.reduceAdd, Nat.reduceMul]
  unfold nodeXB
  cases h1 : inI x.kind 1 20 with
  | false => simp (decide := true) only [Bool.false_and, drop0, row1_length, rows_length, cI, cB, cS, roI, ro64, hpin, go_sem, Nat.reduceAdd, Nat.reduceMul]
  | true =>
  simp (decide := true) only [Bool.true_and, drop0, row1_length, rows_length, cI, cB, cS, roI, ro64, hpin, go_sem, Nat.reduceAdd, Nat.reduceMul]
  refine aCall_det (in' x.kids.length (shapeI x.kind).1 (shapeI x.kind).2) hpin ?_
  simp (decide := true) only [drop0, row1_length, rows_length, cI, cB, cS, roI, ro64, hpin, go_sem, Nat.reduceAdd, Nat.reduceMul]
  cases h2 : inI x.kids.length (shapeI x.kind).1 (shapeI x.kind).2 with
  | false => simp (decide := true) only [Bool.false_and, drop0, row1_length, rows_length, cI, cB, cS, roI, ro64, hpin, go_sem, Nat.reduceAdd, Nat.reduceMul]
  | true =>
  simp (decide := true) only [Bool.true_and, drop0, row1_length, rows_length, cI, cB, cS, roI, ro64, hpin, go_sem, Nat.reduceAdd, Nat.reduceMul]
  refine Tri.step sized ?_
  simp (decide := true) only [drop0, row1_length, rows_length, cI, cB, cS, roI, ro64, hpin, go_sem, Nat.reduceAdd, Nat.reduceMul]
  refine Tri.loop (ι := Nat) (fun i => i ≤ x.kids.length ∧ rangeB (kidB nodes n x) i = true) (fun i => ⟨101, [(0, .imm 60 (rows (nodeC true) nodes)), (1, vI n), (4, vB false), (5, .ip (nodeC true x) 0), (40, roI x.kids), (41, vI x.kids.length), (42, vI i)], []⟩) (fun i => x.kids.length - i) 0 ⟨by simp, rfl⟩ ?_ ?_
  · refine Ent.weak ?_ ?_ ?_ ?_ <;> simp (decide := true) [subT, subB, hereT, hereV, hereL, St.get, look, vI, vB, vS, cI, cS, cB, nodeC, roI]
  · rintro i ⟨hi, hq⟩
    refine code_sound sized _ ?_
    by_cases h' : i < x.kids.length
    · have e : ((i : Int) < (x.kids.length : Int)) = True := by simp [h']
      have w2 : IntKind.i64.wrap ((n : Int) - 1) = (n : Int) - 1 := w64 (by omega) (by omega)
      have hg : x.kids.getD i 0 = x.kids[i] := by simp [List.getD, h']
      simp (decide := true) only [e, row1_get _ _ h', Int.natCast_nonneg, vB, vI, nodeC, drop0, row1_length, rows_length, cI, cB, cS, roI, ro64, hpin, go_sem, Nat.reduceAdd, Nat.reduceMul]
      refine Tri.sched sized [(0, true), (1, false), (2, false), (3, false), (4, false), (5, false), (6, true), (8, true), (10, true), (7, false), (9, false), (11, false), (12, false), (13, false), (14, true), (16, true), (17, true), (18, true), (19, true), (20, true), (15, true), (21, false), (22, false), (23, false), (24, false)] mixed (by kernel_rfl) (fun C2 hC2 => ?_)
      have hp2 : ∀ o, isPin o = false → C2.pin o = none := by rw [hC2]; exact hpin
      simp (decide := true) only [w2, drop0, row1_length, rows_length, cI, cB, cS, roI, ro64, hp2, go_sem, Nat.reduceAdd, Nat.reduceMul]
      refine aCall_det (in' x.kids[i] 0 (n - 1)) hp2 ?_
      simp (decide := true) only [drop0, row1_length, rows_length, cI, cB, cS, roI, ro64, hp2, go_sem, Nat.reduceAdd, Nat.reduceMul]
      have hkb : kidB nodes n x i = (inI x.kids[i] 0 (n - 1) && (!(x.kids.take i).contains x.kids[i] && fitsB x.kind i (nAt nodes x.kids[i]).kind)) := by simp only [kidB, hg]
      cases h3 : inI x.kids[i] 0 (n - 1) with
      | false =>
        have hf : rangeB (kidB nodes n x) x.kids.length = false := rangeB_false h' (by rw [hkb, h3]; rfl)
        simp (decide := true) only [hf, Bool.and_false, drop0, row1_length, rows_length, cI, cB, cS, roI, ro64, hp2, go_sem, Nat.reduceAdd, Nat.reduceMul]
      | true =>
      have hr3 := inI_true h3
      have hkn : x.kids[i].toNat < nodes.length := by omega
      have z0 : (0 ≤ x.kids[i]) = True := eq_true hr3.1
      have z1 : (x.kids[i] < (nodes.length : Int)) = True := eq_true (by omega)
      have z2 : ((i : Int) ≤ (x.kids.length : Int)) = True := eq_true (by omega)
      rw [h3, Bool.true_and] at hkb
      simp (decide := true) only [z0, z1, z2, h', takeI x.kids (Nat.le_of_lt h'), Int.natCast_nonneg, drop0, row1_length, rows_length, cI, cB, cS, roI, ro64, hp2, go_sem, Nat.reduceAdd, Nat.reduceMul]
      refine aCall_det (hasInt_sound (x.kids.take i) x.kids[i] (by simp; omega)) hp2 ?_
      simp (decide := true) only [z0, z1, z2, h', Int.natCast_nonneg, drop0, row1_length, rows_length, cI, cB, cS, roI, ro64, hp2, go_sem, Nat.reduceAdd, Nat.reduceMul]
      cases h4 : (x.kids.take i).contains x.kids[i] with
      | true =>
        have hf : rangeB (kidB nodes n x) x.kids.length = false := rangeB_false h' (by rw [hkb, h4]; rfl)
        simp (decide := true) only [hf, Bool.and_false, drop0, row1_length, rows_length, cI, cB, cS, roI, ro64, hp2, go_sem, Nat.reduceAdd, Nat.reduceMul]
      | false =>
      rw [h4, nAt_get hkn] at hkb
      simp only [Bool.not_false, Bool.true_and] at hkb
      simp (decide := true) only [z0, z1, z2, h', rows_get _ _ hkn, nodeC, Int.natCast_nonneg, drop0, row1_length, rows_length, cI, cB, cS, roI, ro64, hp2, go_sem, Nat.reduceAdd, Nat.reduceMul]
      refine aCall_det (fitsI_sound x.kind i nodes[x.kids[i].toNat].kind) hp2 ?_
      simp (decide := true) only [drop0, row1_length, rows_length, cI, cB, cS, roI, ro64, hp2, go_sem, Nat.reduceAdd, Nat.reduceMul]
      cases h5 : fitsB x.kind i nodes[x.kids[i].toNat].kind with
      | false =>
        have hf : rangeB (kidB nodes n x) x.kids.length = false := rangeB_false h' (by rw [hkb, h5])
        simp (decide := true) only [hf, Bool.and_false, drop0, row1_length, rows_length, cI, cB, cS, roI, ro64, hp2, go_sem, Nat.reduceAdd, Nat.reduceMul]
      | true =>
      simp (decide := true) only [drop0, row1_length, rows_length, cI, cB, cS, roI, ro64, hp2, go_sem, Nat.reduceAdd, Nat.reduceMul]
      refine ⟨i + 1, ⟨h', by rw [rangeB_succ, hq, hkb, h5]; rfl⟩, by omega, Ent.weak ?_ ?_ ?_ ?_⟩
      all_goals simp (decide := true) [subT, subB, hereT, hereV, hereL, St.get, look, vI, vB, vS, cI, cS, cB, nodeC, roI, w64s (n := x.kids.length) h' (by omega)]
    · have hil : i = x.kids.length := by omega
      subst hil
      have e : ((x.kids.length : Int) < (x.kids.length : Int)) = False := by simp
      rw [hq, Bool.and_true]
      simp (decide := true) only [e, vB, vI, nodeC, drop0, row1_length, rows_length, cI, cB, cS, roI, ro64, hpin, go_sem, Nat.reduceAdd, Nat.reduceMul]
      refine Tri.step sized ?_
      simp (decide := true) only [drop0, row1_length, rows_length, cI, cB, cS, roI, ro64, hpin, go_sem, Nat.reduceAdd, Nat.reduceMul]
      unfold numOkB
      cases h6 : x.kind == 1 with
      | true =>
        simp (decide := true) only [h6, if_true, drop0, row1_length, rows_length, cI, cB, cS, roI, ro64, hpin, go_sem, Nat.reduceAdd, Nat.reduceMul]
        refine aCall_det (in' x.num 0 1000000000) hpin ?_
        simp (decide := true) only [drop0, row1_length, rows_length, cI, cB, cS, roI, ro64, hpin, go_sem, Nat.reduceAdd, Nat.reduceMul]
        cases h7 : inI x.num 0 1000000000 with
        | false => simp (decide := true) only [Bool.false_and, bne, h6, drop0, row1_length, rows_length, cI, cB, cS, roI, ro64, hpin, go_sem, Nat.reduceAdd, Nat.reduceMul]
        | true =>
          simp (decide := true) only [Bool.true_and, bne, h6, drop0, row1_length, rows_length, cI, cB, cS, roI, ro64, hpin, go_sem, Nat.reduceAdd, Nat.reduceMul]
          refine code_sound sized _ ?_
          simp (decide := true) only [drop0, row1_length, rows_length, cI, cB, cS, roI, ro64, hpin, go_sem, Nat.reduceAdd, Nat.reduceMul]
          refine aCall_det (hasNameI_sound x.kind) hpin ?_
          simp (decide := true) only [drop0, row1_length, rows_length, cI, cB, cS, roI, ro64, hpin, go_sem, Nat.reduceAdd, Nat.reduceMul]
          cases h8 : hasNameB x.kind with
          | true =>
            have hnm : namOkB x = nameB x.name := by simp [namOkB, h8]
            simp (decide := true) only [drop0, row1_length, rows_length, cI, cB, cS, roI, ro64, hpin, go_sem, Nat.reduceAdd, Nat.reduceMul]
            refine aCall_det (nameI_sound x.name) hpin ?_
            simp (decide := true) only [hnm, drop0, row1_length, rows_length, cI, cB, cS, roI, ro64, hpin, go_sem, Nat.reduceAdd, Nat.reduceMul]
          | false =>
            have hnm : namOkB x = decide (x.name = ⟨#[]⟩) := by simp [namOkB, h8]
            simp (decide := true) only [hnm, drop0, row1_length, rows_length, cI, cB, cS, roI, ro64, hpin, go_sem, Nat.reduceAdd, Nat.reduceMul]
      | false =>
        simp (decide := true) only [h6, bne, Bool.false_eq_true, if_false, drop0, row1_length, rows_length, cI, cB, cS, roI, ro64, hpin, go_sem, Nat.reduceAdd, Nat.reduceMul]
        cases h7 : x.num == 0 with
        | false => simp (decide := true) only [Bool.false_and, h7, drop0, row1_length, rows_length, cI, cB, cS, roI, ro64, hpin, go_sem, Nat.reduceAdd, Nat.reduceMul]
        | true =>
          simp (decide := true) only [Bool.true_and, h7, drop0, row1_length, rows_length, cI, cB, cS, roI, ro64, hpin, go_sem, Nat.reduceAdd, Nat.reduceMul]
          refine code_sound sized _ ?_
          simp (decide := true) only [drop0, row1_length, rows_length, cI, cB, cS, roI, ro64, hpin, go_sem, Nat.reduceAdd, Nat.reduceMul]
          refine aCall_det (hasNameI_sound x.kind) hpin ?_
          simp (decide := true) only [drop0, row1_length, rows_length, cI, cB, cS, roI, ro64, hpin, go_sem, Nat.reduceAdd, Nat.reduceMul]
          cases h8 : hasNameB x.kind with
          | true =>
            have hnm : namOkB x = nameB x.name := by simp [namOkB, h8]
            simp (decide := true) only [drop0, row1_length, rows_length, cI, cB, cS, roI, ro64, hpin, go_sem, Nat.reduceAdd, Nat.reduceMul]
            refine aCall_det (nameI_sound x.name) hpin ?_
            simp (decide := true) only [hnm, drop0, row1_length, rows_length, cI, cB, cS, roI, ro64, hpin, go_sem, Nat.reduceAdd, Nat.reduceMul]
          | false =>
            have hnm : namOkB x = decide (x.name = ⟨#[]⟩) := by simp [namOkB, h8]
            simp (decide := true) only [hnm, drop0, row1_length, rows_length, cI, cB, cS, roI, ro64, hpin, go_sem, Nat.reduceAdd, Nat.reduceMul]

theorem numOk_eq (x : NodeD) : (!inI x.num 0 1000000000 || (bne x.kind 1 && bne x.num 0)) = !numOkB x := by
  unfold numOkB
  cases h : x.kind == 1 with
  | true => simp [bne, h]
  | false =>
    simp only [bne, h, Bool.not_false, Bool.true_and, Bool.false_eq_true, if_false]
    cases h2 : x.num == 0 with
    | true => have : x.num = 0 := by simpa using h2
              rw [this]; decide
    | false => simp
theorem nameB_nil : nameB ⟨#[]⟩ = false := by decide
theorem namOk_eq (x : NodeD) : namOkB x = (hasNameB x.kind == !decide (x.name = ⟨#[]⟩) && (decide (x.name = ⟨#[]⟩) || nameB x.name)) := by
  unfold namOkB
  by_cases h : x.name = ⟨#[]⟩
  · rw [h]; cases hasNameB x.kind <;> simp [nameB_nil]
  · cases hasNameB x.kind <;> simp [h]

/-- None of the kids ahead is the same one. -/
theorem contains_range (l : List Int) (i : Nat) (hi : i < l.length) : (l.take i).contains l[i] = !rangeB (fun j => !(l.getD i 0 == l.getD j 0)) i := by
  rw [Bool.eq_iff_iff]
  simp only [List.contains_iff_mem, Bool.not_eq_true', List.mem_take_iff_getElem]
  constructor
  · rintro ⟨j, hj, he⟩
    have hj2 : j < i := by omega
    exact rangeB_false hj2 (by simp [List.getD, hi, show j < l.length by omega, he])
  · intro h
    unfold rangeB at h
    rw [List.all_eq_false] at h
    obtain ⟨j, hj, hb⟩ := h
    have hj2 := List.mem_range.1 hj
    refine ⟨j, by omega, ?_⟩
    simp [List.getD, hi, show j < l.length by omega] at hb
    exact hb.symm
end Go.Proofs.YtnbodmohnkohfaaGreatDoor.AW
