/- Whether types are right, as the program tells it. No condition beyond those named. -/
import Derived.Test.YtnbodmohnkohfaaGreatDoorQh
namespace Go.Proofs.YtnbodmohnkohfaaGreatDoor.AW
open Go.RowKit
set_option maxHeartbeats 8000000
set_option maxRecDepth 100000
set_option linter.unusedSimpArgs false
set_option linter.unusedVariables false

def headT (T : Int → Int) (x : NodeD) : Int := if 0 < x.kids.length then T (x.kids.getD 0 0) else 0
def stepRB (T : Int → Int) (p : ProgramD) (l : List VarD) (x : NodeD) : Bool :=
  if x.kind == 13 then !(headT T x == 0)
  else if x.kind == 14 then (headT T x == varTy l x.name && (headT T x == 1 || headT T x == 2))
  else if x.kind == 15 then (headT T x == 1 && (varTy l x.name == 2 || varTy l x.name == 4))
  else if x.kind == 16 || (x.kind == 17 || x.kind == 18) then headT T x == 1
  else if x.kind == 19 then callTB T p (nAt p.nodes (x.kids.getD 0 0))
  else true
def stB (p : ProgramD) (l : List VarD) (m : Nat) : Bool := stepRB (typeB p l) p l (nAt p.nodes m)
open Classical in
/-- All statements below are right. -/
noncomputable def downB (p : ProgramD) (l : List VarD) (n : Nat) : Bool := decide (∀ m, Reach p.nodes n m → stB p l m = true)
theorem downB_eq {p : ProgramD} (l : List VarD) {n : Nat} (hn : n < p.nodes.length) : downB p l n = (stB p l n && p.nodes[n].kids.all (fun kid => downB p l kid.toNat)) := by
  rw [Bool.eq_iff_iff, Bool.and_eq_true, List.all_eq_true]
  unfold downB
  simp only [decide_eq_true_eq]
  constructor
  · intro h
    exact ⟨h n (.refl n), fun kid hk m hm => h m ((Reach.step (.refl n) hn hk).trans hm)⟩
  · rintro ⟨h1, h2⟩ m hm
    rcases hm.head with rfl | ⟨_, kid, hk, hr⟩
    · exact h1
    · exact h2 kid hk m hr
theorem stB_val {p : ProgramD} (l : List VarD) {n : Nat} (hv : isValB (nAt p.nodes n).kind = true) : stB p l n = true := by
  obtain ⟨v20, v16, v17, v19, v14, v15, v13⟩ := val_ne hv
  have v18 : ((nAt p.nodes n).kind == 18) = false := by
    have := inI_true (show inI (nAt p.nodes n).kind 1 12 = true from hv)
    apply Bool.eq_false_iff.2; intro hh; have := eq_of_beq hh; omega
  unfold stB stepRB
  rw [v13, v14, v15, v16, v17, v18, v19]; rfl
theorem downB_val {p : ProgramD} (hD : Deep p.nodes) (l : List VarD) (n : Nat) : n < p.nodes.length → isValB (nAt p.nodes n).kind = true → downB p l n = true := by
  induction n using Nat.strongRecOn with
  | ind n ih =>
  intro hn hv
  rw [downB_eq l hn, stB_val l hv, Bool.true_and, List.all_eq_true]
  intro kid hk
  obtain ⟨i, hi, rfl⟩ := List.getElem_of_mem hk
  have hft := node_fits (hD.deep n hn) hn hi
  rw [nAt_nat hn] at hv
  obtain ⟨v20, v16, v17, v19, _⟩ := val_ne hv
  unfold fitsB at hft
  rw [v20, v16, v17, v19] at hft
  obtain ⟨q0, q1, q2⟩ := hD.kid hn _ hk
  have e : p.nodes[n].kids[i] = (p.nodes[n].kids[i].toNat : Int) := by omega
  refine ih _ q2 (by omega) ?_
  rw [← e]; exact hft

theorem stepRI_sound (p : ProgramD) (hD : Deep p.nodes) (l : List VarD) (hl : l.length ≤ 4194304) (hf : p.fns.length ≤ 1048576) (hn : p.nodes.length ≤ 1048576) (hk : ∀ x ∈ p.nodes, x.kids.length ≤ 300) (n : Nat) (hnl : n < p.nodes.length) :
    Sound Tryz.prog 96 [.ro (programW p), .ro (.imm 107 (rows (varC true) l)), .ro (.sc (.int .i64 n))] (fun rs st => rs = [(false, [cB (stB p l n)])]) := by
  have hkid := hD.kid hnl
  have hsh := inI_true (node_shape (hD.deep n hnl) hnl)
  have hx : (rows (nodeC true) p.nodes).getD n [] = nodeC true p.nodes[n] := rows_get _ _ hnl
  have hc1 : ((n : Int) < (p.nodes.length : Int)) = True := eq_true (by omega)
  unfold stB
  rw [nAt_nat hnl]
  generalize p.nodes[n] = x at hkid hsh hx
  have hvt := varTyI_sound l x.name hl
  obtain ⟨R, heq⟩ : ∃ R, R = stepRB (typeB p l) p l x := ⟨_, rfl⟩
  rw [← heq]
  unfold stepRB at heq
  generalize varTy l x.name = tv at hvt heq
  generalize hht : headT (typeB p l) x = t at heq
  refine sound_tri (fn := Tryz.f96) (c := Tryz.f96.body.getD .skip) (res := [.tm 6]) (n := 76) sized (by kernel_rfl) (by rfl) (by kernel_rfl) (by rfl) (by rfl) (by simp [argsV]) (fun uf ub C hpin hpin2 hfull => ?_)
  simp only [Tryz.f96, Option.getD_some]
  refine Tri.step sized ?_
  simp (decide := true) only [drop0, row1_length, rows_length, programW, programC, cI, cB, cS, roI, ro64, hpin, go_sem, Nat.reduceAdd, Nat.reduceMul]
  refine Tri.ent ?_ (Ent.frb hfull 3)
  refine Tri.step sized ?_
  simp (decide := true) only [hc1, hx, nodeC, Int.natCast_nonneg, drop0, row1_length, rows_length, programW, programC, cI, cB, cS, roI, ro64, hpin, go_sem, Nat.reduceAdd, Nat.reduceMul]
  refine Tri.ent ?_ (Ent.frb hfull 7)
  refine Tri.step sized ?_
  simp (decide := true) only [drop0, row1_length, rows_length, programW, programC, cI, cB, cS, roI, ro64, hpin, go_sem, Nat.reduceAdd, Nat.reduceMul]
  refine Tri.stop sized ⟨76, [(1, .imm 107 (rows (varC true) l)), (3, .ip (programC true p) 0), (7, .ip (nodeC true x) 0), (8, vI t)], []⟩ ?_ ?_
  · unfold headT at hht
    by_cases hpos : 0 < x.kids.length
    · rw [if_pos hpos] at hht
      have hg0 : (row1 cI x.kids).getD (Int.toNat 0) [] = [cI x.kids[0]] := row1_get cI x.kids hpos
      have hc0 : ((0 : Int) < (x.kids.length : Int)) = True := eq_true (by omega)
      have hk0 : x.kids.getD 0 0 = x.kids[0] := by simp [List.getD, hpos]
      obtain ⟨q0, q1, q2⟩ := hkid x.kids[0] (List.getElem_mem hpos)
      obtain ⟨m, hm⟩ : ∃ m : Nat, x.kids[0] = m := ⟨x.kids[0].toNat, by omega⟩
      have hty := typeI_sound p hD l hl hf hn hk m (by omega)
      rw [hk0, hm] at hht
      rw [hm] at hg0
      simp only [programW] at hty
      simp only [cI] at hg0
      simp (decide := true) only [hc0, gt_iff_lt, nodeC, drop0, row1_length, rows_length, programW, programC, cI, cB, cS, roI, ro64, hpin, go_sem, Nat.reduceAdd, Nat.reduceMul]
      refine Tri.sched sized [(1, true), (2, true), (0, true), (3, false), (4, false), (5, false), (6, false), (7, false)] mixed (by kernel_rfl) (fun C2 hC2 => ?_)
      have hp2 : ∀ o, isPin o = false → C2.pin o = none := by rw [hC2]; exact hpin
      simp (decide := true) only [hg0, hc0, hpos, drop0, row1_length, rows_length, programW, programC, cI, cB, cS, roI, ro64, hp2, go_sem, Nat.reduceAdd, Nat.reduceMul]
      refine aCall_det hty hp2 ?_
      simp (decide := true) only [hht, drop0, row1_length, rows_length, programW, programC, cI, cB, cS, roI, ro64, hp2, hpin, go_sem, Nat.reduceAdd, Nat.reduceMul]
      refine Ent.weak ?_ ?_ ?_ ?_ <;> simp (decide := true) [subT, subB, hereT, hereV, hereL, St.get, look, vI, vB, vS, cI, cS, cB, nodeC, programC, roI]
    · rw [if_neg hpos] at hht
      have hc0 : ((0 : Int) < (x.kids.length : Int)) = False := eq_false (by omega)
      simp (decide := true) only [hc0, gt_iff_lt, nodeC, drop0, row1_length, rows_length, programW, programC, cI, cB, cS, roI, ro64, hpin, go_sem, Nat.reduceAdd, Nat.reduceMul]
      refine Ent.weak ?_ ?_ ?_ ?_ <;> simp (decide := true) [subT, subB, hereT, hereV, hereL, St.get, look, vI, vB, vS, cI, cS, cB, nodeC, programC, roI, ← hht]
  refine Tri.step sized ?_
  simp (decide := true) only [nodeC, programC, vB, vI, drop0, row1_length, rows_length, programW, programC, cI, cB, cS, roI, ro64, hpin, go_sem, Nat.reduceAdd, Nat.reduceMul]
  refine aCall_det hvt hpin ?_
  simp (decide := true) only [drop0, row1_length, rows_length, programW, programC, cI, cB, cS, roI, ro64, hpin, go_sem, Nat.reduceAdd, Nat.reduceMul]
  refine Tri.step sized ?_
  cases h13 : x.kind == 13 with
  | true =>
    have ek := eq_of_beq h13
    rw [ek] at heq
    simp (decide := true) only [Bool.or_true, Bool.true_or, Bool.or_false, Bool.false_or, if_true, if_false, Int.reduceBEq, Bool.false_eq_true] at heq
    simp (decide := true) only [h13, heq, if_true, if_false, Bool.or_true, Bool.true_or, Bool.or_false, Bool.false_or, Bool.true_and, Bool.false_and, Bool.false_eq_true, bne, nodeC, drop0, row1_length, rows_length, programW, programC, cI, cB, cS, roI, ro64, hpin, go_sem, Nat.reduceAdd, Nat.reduceMul]
  | false =>
  cases h14 : x.kind == 14 with
  | true =>
    have ek := eq_of_beq h14
    rw [ek] at heq
    simp (decide := true) only [Bool.or_true, Bool.true_or, Bool.or_false, Bool.false_or, if_true, if_false, Int.reduceBEq, Bool.false_eq_true] at heq
    cases e1 : t == tv with
    | false =>
      simp only [e1, Bool.true_and, Bool.false_and, Bool.true_or, Bool.false_or, Bool.or_false] at heq
      simp (decide := true) only [h13, h14, e1, heq, if_true, if_false, Bool.or_true, Bool.true_or, Bool.or_false, Bool.false_or, Bool.true_and, Bool.false_and, Bool.false_eq_true, bne, nodeC, drop0, row1_length, rows_length, programW, programC, cI, cB, cS, roI, ro64, hpin, go_sem, Nat.reduceAdd, Nat.reduceMul]
    | true =>
    cases e2 : t == 1 with
    | true =>
      simp only [e1, e2, Bool.true_and, Bool.false_and, Bool.true_or, Bool.false_or, Bool.or_false] at heq
      simp (decide := true) only [h13, h14, e1, e2, heq, if_true, if_false, Bool.or_true, Bool.true_or, Bool.or_false, Bool.false_or, Bool.true_and, Bool.false_and, Bool.false_eq_true, bne, nodeC, drop0, row1_length, rows_length, programW, programC, cI, cB, cS, roI, ro64, hpin, go_sem, Nat.reduceAdd, Nat.reduceMul]
    | false =>
    cases e3 : t == 2 with
    | true =>
      simp only [e1, e2, e3, Bool.true_and, Bool.false_and, Bool.true_or, Bool.false_or, Bool.or_false] at heq
      simp (decide := true) only [h13, h14, e1, e2, e3, heq, if_true, if_false, Bool.or_true, Bool.true_or, Bool.or_false, Bool.false_or, Bool.true_and, Bool.false_and, Bool.false_eq_true, bne, nodeC, drop0, row1_length, rows_length, programW, programC, cI, cB, cS, roI, ro64, hpin, go_sem, Nat.reduceAdd, Nat.reduceMul]
    | false =>
      simp only [e1, e2, e3, Bool.true_and, Bool.false_and, Bool.true_or, Bool.false_or, Bool.or_false] at heq
      simp (decide := true) only [h13, h14, e1, e2, e3, heq, if_true, if_false, Bool.or_true, Bool.true_or, Bool.or_false, Bool.false_or, Bool.true_and, Bool.false_and, Bool.false_eq_true, bne, nodeC, drop0, row1_length, rows_length, programW, programC, cI, cB, cS, roI, ro64, hpin, go_sem, Nat.reduceAdd, Nat.reduceMul]
  | false =>
  cases h15 : x.kind == 15 with
  | true =>
    have ek := eq_of_beq h15
    rw [ek] at heq
    simp (decide := true) only [Bool.or_true, Bool.true_or, Bool.or_false, Bool.false_or, if_true, if_false, Int.reduceBEq, Bool.false_eq_true] at heq
    cases e1 : t == 1 with
    | false =>
      simp only [e1, Bool.true_and, Bool.false_and, Bool.true_or, Bool.false_or, Bool.or_false] at heq
      simp (decide := true) only [h13, h14, h15, e1, heq, if_true, if_false, Bool.or_true, Bool.true_or, Bool.or_false, Bool.false_or, Bool.true_and, Bool.false_and, Bool.false_eq_true, bne, nodeC, drop0, row1_length, rows_length, programW, programC, cI, cB, cS, roI, ro64, hpin, go_sem, Nat.reduceAdd, Nat.reduceMul]
    | true =>
    cases e2 : tv == 2 with
    | true =>
      simp only [e1, e2, Bool.true_and, Bool.false_and, Bool.true_or, Bool.false_or, Bool.or_false] at heq
      simp (decide := true) only [h13, h14, h15, e1, e2, heq, if_true, if_false, Bool.or_true, Bool.true_or, Bool.or_false, Bool.false_or, Bool.true_and, Bool.false_and, Bool.false_eq_true, bne, nodeC, drop0, row1_length, rows_length, programW, programC, cI, cB, cS, roI, ro64, hpin, go_sem, Nat.reduceAdd, Nat.reduceMul]
    | false =>
    cases e3 : tv == 4 with
    | true =>
      simp only [e1, e2, e3, Bool.true_and, Bool.false_and, Bool.true_or, Bool.false_or, Bool.or_false] at heq
      simp (decide := true) only [h13, h14, h15, e1, e2, e3, heq, if_true, if_false, Bool.or_true, Bool.true_or, Bool.or_false, Bool.false_or, Bool.true_and, Bool.false_and, Bool.false_eq_true, bne, nodeC, drop0, row1_length, rows_length, programW, programC, cI, cB, cS, roI, ro64, hpin, go_sem, Nat.reduceAdd, Nat.reduceMul]
    | false =>
      simp only [e1, e2, e3, Bool.true_and, Bool.false_and, Bool.true_or, Bool.false_or, Bool.or_false] at heq
      simp (decide := true) only [h13, h14, h15, e1, e2, e3, heq, if_true, if_false, Bool.or_true, Bool.true_or, Bool.or_false, Bool.false_or, Bool.true_and, Bool.false_and, Bool.false_eq_true, bne, nodeC, drop0, row1_length, rows_length, programW, programC, cI, cB, cS, roI, ro64, hpin, go_sem, Nat.reduceAdd, Nat.reduceMul]
  | false =>
  cases h16 : x.kind == 16 with
  | true =>
    have ek := eq_of_beq h16
    rw [ek] at heq
    simp (decide := true) only [Bool.or_true, Bool.true_or, Bool.or_false, Bool.false_or, if_true, if_false, Int.reduceBEq, Bool.false_eq_true] at heq
    simp (decide := true) only [h13, h14, h15, h16, heq, if_true, if_false, Bool.or_true, Bool.true_or, Bool.or_false, Bool.false_or, Bool.true_and, Bool.false_and, Bool.false_eq_true, bne, nodeC, drop0, row1_length, rows_length, programW, programC, cI, cB, cS, roI, ro64, hpin, go_sem, Nat.reduceAdd, Nat.reduceMul]
  | false =>
  cases h17 : x.kind == 17 with
  | true =>
    have ek := eq_of_beq h17
    rw [ek] at heq
    simp (decide := true) only [Bool.or_true, Bool.true_or, Bool.or_false, Bool.false_or, if_true, if_false, Int.reduceBEq, Bool.false_eq_true] at heq
    simp (decide := true) only [h13, h14, h15, h16, h17, heq, if_true, if_false, Bool.or_true, Bool.true_or, Bool.or_false, Bool.false_or, Bool.true_and, Bool.false_and, Bool.false_eq_true, bne, nodeC, drop0, row1_length, rows_length, programW, programC, cI, cB, cS, roI, ro64, hpin, go_sem, Nat.reduceAdd, Nat.reduceMul]
  | false =>
  cases h18 : x.kind == 18 with
  | true =>
    have ek := eq_of_beq h18
    rw [ek] at heq
    simp (decide := true) only [Bool.or_true, Bool.true_or, Bool.or_false, Bool.false_or, if_true, if_false, Int.reduceBEq, Bool.false_eq_true] at heq
    simp (decide := true) only [h13, h14, h15, h16, h17, h18, heq, if_true, if_false, Bool.or_true, Bool.true_or, Bool.or_false, Bool.false_or, Bool.true_and, Bool.false_and, Bool.false_eq_true, bne, nodeC, drop0, row1_length, rows_length, programW, programC, cI, cB, cS, roI, ro64, hpin, go_sem, Nat.reduceAdd, Nat.reduceMul]
  | false =>
  cases h19 : x.kind == 19 with
  | true =>
    have ek := eq_of_beq h19
    rw [ek] at heq
    simp (decide := true) only [Bool.or_true, Bool.true_or, Bool.or_false, Bool.false_or, if_true, if_false, Int.reduceBEq, Bool.false_eq_true] at heq
    have hpos : 0 < x.kids.length := by rw [ek] at hsh; have := hsh.1; simp [shapeI] at this; omega
    have hg0 : (row1 cI x.kids).getD (Int.toNat 0) [] = [cI x.kids[0]] := row1_get cI x.kids hpos
    have hc0 : ((0 : Int) < (x.kids.length : Int)) = True := eq_true (by omega)
    have hk0 : x.kids.getD 0 0 = x.kids[0] := by simp [List.getD, hpos]
    obtain ⟨q0, q1, q2⟩ := hkid x.kids[0] (List.getElem_mem hpos)
    obtain ⟨m, hm⟩ : ∃ m : Nat, x.kids[0] = m := ⟨x.kids[0].toNat, by omega⟩
    have hml : m < p.nodes.length := by omega
    have hcr := callRightI_of p l hl hf hn hk m hml (fun kid hkk => by
      obtain ⟨r0, r1, r2⟩ := hD.kid hml kid hkk
      have e : kid = (kid.toNat : Int) := by omega
      have := typeI_sound p hD l hl hf hn hk kid.toNat (by omega)
      rw [← e] at this
      exact this)
    rw [hk0, hm, nAt_nat hml] at heq
    rw [← heq] at hcr
    rw [hm] at hg0
    simp only [programW] at hcr
    simp only [cI] at hg0
    simp (decide := true) only [h13, h14, h15, h16, h17, h18, h19, if_true, if_false, Bool.or_true, Bool.true_or, Bool.or_false, Bool.false_or, Bool.true_and, Bool.false_and, Bool.false_eq_true, bne, nodeC, drop0, row1_length, rows_length, programW, programC, cI, cB, cS, roI, ro64, hpin, go_sem, Nat.reduceAdd, Nat.reduceMul]
    refine Tri.sched sized [(1, true), (2, true), (0, true), (3, false), (4, false), (5, false), (6, false), (7, false)] mixed (by kernel_rfl) (fun C2 hC2 => ?_)
    have hp2 : ∀ o, isPin o = false → C2.pin o = none := by rw [hC2]; exact hpin
    simp (decide := true) only [hg0, hc0, hpos, drop0, row1_length, rows_length, programW, programC, cI, cB, cS, roI, ro64, hp2, go_sem, Nat.reduceAdd, Nat.reduceMul]
    refine aCall_det hcr hp2 ?_
    simp (decide := true) only [drop0, row1_length, rows_length, programW, programC, cI, cB, cS, roI, ro64, hp2, hpin, go_sem, Nat.reduceAdd, Nat.reduceMul]
  | false =>
  simp (decide := true) only [h13, h14, h15, h16, h17, h18, h19, Bool.or_false, if_false, Bool.false_eq_true] at heq
  simp (decide := true) only [h13, h14, h15, h16, h17, h18, h19, if_true, if_false, Bool.or_true, Bool.true_or, Bool.or_false, Bool.false_or, Bool.true_and, Bool.false_and, Bool.false_eq_true, bne, nodeC, drop0, row1_length, rows_length, programW, programC, cI, cB, cS, roI, ro64, hpin, go_sem, Nat.reduceAdd, Nat.reduceMul]
  refine code_sound sized _ ?_
  simp (decide := true) only [heq, drop0, row1_length, rows_length, programW, programC, cI, cB, cS, roI, ro64, hpin, go_sem, Nat.reduceAdd, Nat.reduceMul]
end Go.Proofs.YtnbodmohnkohfaaGreatDoor.AW
