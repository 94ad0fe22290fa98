/- Whether statements have right types, as the reference tells it. No condition beyond those named. -/
import Derived.Test.YtnbodmohnkohfaaGreatDoorQj
namespace Go.Proofs.YtnbodmohnkohfaaGreatDoor.AW
open Go.RowKit
set_option maxHeartbeats 8000000
set_option maxRecDepth 100000
set_option linter.unusedSimpArgs false
set_option linter.unusedVariables false

theorem all_one {f : Int → Bool} : ∀ l : List Int, l.length = 1 → l.all f = f (l.getD 0 0)
  | [a], _ => by simp
theorem all_two {f : Int → Bool} : ∀ l : List Int, l.length = 2 → l.all f = (f (l.getD 0 0) && f (l.getD 1 0))
  | [a, b], _ => by simp
theorem all_three {f : Int → Bool} : ∀ l : List Int, l.length = 3 → l.all f = (f (l.getD 0 0) && (f (l.getD 1 0) && f (l.getD 2 0)))
  | [a, b, c], _ => by simp
def TStepAt (p : ProgramD) (l : List VarD) (n : Nat) : Prop := isStepB (nAt p.nodes n).kind = true →
    Sound Tryz.prog 141 [.ro (programW p), .ro (.imm 107 (rows (varC true) l)), .ro (.sc (.int .i64 n))] (fun rs st => rs = [(false, [cB (downB p l n)])])
def TBlockAt (p : ProgramD) (l : List VarD) (n : Nat) : Prop := (nAt p.nodes n).kind == 20 →
    Sound Tryz.prog 90 [.ro (programW p), .ro (.imm 107 (rows (varC true) l)), .ro (.sc (.int .i64 n))] (fun rs st => rs = [(false, [cB (downB p l n)])])

theorem tblock_of (p : ProgramD) (hD : Deep p.nodes) (l : List VarD) (hk : ∀ x ∈ p.nodes, x.kids.length ≤ 300) (n : Nat) (hnl : n < p.nodes.length) (ih : ∀ m, m < n → TStepAt p l m) : TBlockAt p l n := by
  intro h20
  have heq := downB_eq l hnl
  have hst : stB p l n = true := by
    unfold stB stepRB
    have ek := eq_of_beq h20
    rw [ek]; rfl
  rw [hst, Bool.true_and] at heq
  rw [nAt_nat hnl] at h20
  have hkid := hD.kid hnl
  have hkx := hk p.nodes[n] (List.getElem_mem hnl)
  have hx : (rows (nodeC true) p.nodes).getD n [] = nodeC true p.nodes[n] := rows_get _ _ hnl
  have hrec : ∀ i (hi : i < p.nodes[n].kids.length), Sound Tryz.prog 141 [.ro (programW p), .ro (.imm 107 (rows (varC true) l)), .ro (.sc (.int .i64 p.nodes[n].kids[i]))] (fun rs st => rs = [(false, [cB (downB p l p.nodes[n].kids[i].toNat)])]) := fun i hi => by
    have hft := node_fits (hD.deep n hnl) hnl hi
    unfold fitsB at hft
    rw [h20, if_pos rfl] at hft
    obtain ⟨q0, q1, q2⟩ := hkid p.nodes[n].kids[i] (List.getElem_mem hi)
    have e : p.nodes[n].kids[i] = (p.nodes[n].kids[i].toNat : Int) := by omega
    have := ih p.nodes[n].kids[i].toNat q2 (by rw [← e]; exact hft)
    rw [← e] at this
    exact this
  generalize downB p l n = R at heq ⊢
  have hc1 : ((n : Int) < (p.nodes.length : Int)) = True := eq_true (by omega)
  generalize p.nodes[n] = x at hkid hkx heq hx hrec
  simp only [programW] at hrec
  refine sound_tri (fn := Tryz.f90) (c := Tryz.f90.body.getD .skip) (res := [.tm 6]) (n := 32) sized (by kernel_rfl) (by rfl) (by kernel_rfl) (by rfl) (by rfl) (by simp [argsV]) (fun uf ub C hpin hpin2 hfull => ?_)
  simp only [Tryz.f90, Option.getD_some]
  refine Tri.step sized ?_
  simp (decide := true) only [drop0, row1_length, rows_length, programW, programC, cI, cB, cS, roI, ro64, hpin, go_sem, Nat.reduceAdd, Nat.reduceMul]
  refine Tri.ent ?_ (Ent.frb hfull 3)
  refine Tri.step sized ?_
  simp (decide := true) only [drop0, row1_length, rows_length, programW, programC, cI, cB, cS, roI, ro64, hpin, go_sem, Nat.reduceAdd, Nat.reduceMul]
  refine Tri.loop (ι := Nat) (fun i => i ≤ x.kids.length ∧ (x.kids.take i).all (fun kid => downB p l kid.toNat) = true) (fun i => ⟨32, [(1, .imm 107 (rows (varC true) l)), (2, vI n), (3, .ip (programC true p) 0), (6, vB false), (7, vI i)], []⟩) (fun i => x.kids.length - i) 0 ⟨by simp, by simp⟩ ?_ ?_
  · refine Ent.weak ?_ ?_ ?_ ?_ <;> simp (decide := true) [subT, subB, hereT, hereV, hereL, St.get, look, vI, vB, vS, cI, cS, cB, nodeC, programC, roI]
  · rintro i ⟨hi, hq⟩
    refine code_sound sized _ ?_
    by_cases h' : i < x.kids.length
    · have e : ((i : Int) < (x.kids.length : Int)) = True := by simp [h']
      have hs := hrec i h'
      simp (decide := true) only [e, hc1, hx, nodeC, Int.natCast_nonneg, vB, vI, drop0, row1_length, rows_length, programW, programC, cI, cB, cS, roI, ro64, hpin, go_sem, Nat.reduceAdd, Nat.reduceMul]
      refine Tri.sched sized [(1, true), (2, true), (4, true), (8, true), (0, true), (3, false), (5, false), (6, false), (7, false), (9, false), (10, false), (11, false), (12, false)] mixed (by kernel_rfl) (fun C2 hC2 => ?_)
      have hp2 : ∀ o, isPin o = false → C2.pin o = none := by rw [hC2]; exact hpin
      simp (decide := true) only [e, hc1, hx, h', row1_get _ _ h', nodeC, Int.natCast_nonneg, drop0, row1_length, rows_length, programW, programC, cI, cB, cS, roI, ro64, hp2, go_sem, Nat.reduceAdd, Nat.reduceMul]
      refine aCall_det hs hp2 ?_
      cases hc : downB p l x.kids[i].toNat with
      | false =>
        have hff : x.kids.all (fun kid => downB p l kid.toNat) = false := by rw [List.all_eq_false]; exact ⟨x.kids[i], List.getElem_mem h', by simp [hc]⟩
        rw [hff] at heq
        simp (decide := true) only [heq, drop0, row1_length, rows_length, programW, programC, cI, cB, cS, roI, ro64, hp2, hpin, go_sem, Nat.reduceAdd, Nat.reduceMul]
      | true =>
        simp (decide := true) only [drop0, row1_length, rows_length, programW, programC, cI, cB, cS, roI, ro64, hp2, hpin, go_sem, Nat.reduceAdd, Nat.reduceMul]
        refine ⟨i + 1, ⟨h', by rw [all_take h', hq, hc]; rfl⟩, by omega, Ent.weak ?_ ?_ ?_ ?_⟩
        all_goals simp (decide := true) [subT, subB, hereT, hereV, hereL, St.get, look, vI, vB, vS, cI, cS, cB, nodeC, programC, roI, w64s (n := x.kids.length) h' (by omega)]
    · have hil : i = x.kids.length := by omega
      subst hil
      have e : ((x.kids.length : Int) < (x.kids.length : Int)) = False := by simp
      rw [List.take_length] at hq
      rw [hq] at heq
      simp (decide := true) only [e, hc1, hx, nodeC, Int.natCast_nonneg, vB, vI, drop0, row1_length, rows_length, programW, programC, cI, cB, cS, roI, ro64, hpin, go_sem, Nat.reduceAdd, Nat.reduceMul]
      refine code_sound sized _ ?_
      simp (decide := true) only [heq, drop0, row1_length, rows_length, programW, programC, cI, cB, cS, roI, ro64, hpin, go_sem, Nat.reduceAdd, Nat.reduceMul]

theorem tstep_of (p : ProgramD) (hD : Deep p.nodes) (l : List VarD) (hl : l.length ≤ 4194304) (hf : p.fns.length ≤ 1048576) (hn : p.nodes.length ≤ 1048576) (hk : ∀ x ∈ p.nodes, x.kids.length ≤ 300) (n : Nat) (hnl : n < p.nodes.length) (ih : ∀ m, m < n → TBlockAt p l m) : TStepAt p l n := by
  intro hst
  have heq := downB_eq l hnl
  unfold stB at heq
  rw [nAt_nat hnl] at hst heq
  have hkid := hD.kid hnl
  have hx : (rows (nodeC true) p.nodes).getD n [] = nodeC true p.nodes[n] := rows_get _ _ hnl
  have hsr := inI_true (show inI p.nodes[n].kind 13 19 = true from hst)
  have v20 : (p.nodes[n].kind == 20) = false := by apply Bool.eq_false_iff.2; intro hh; have := eq_of_beq hh; omega
  have hsh := inI_true (node_shape (hD.deep n hnl) hnl)
  have hpos : 0 < p.nodes[n].kids.length := by
    have h1 : 1 ≤ (shapeI p.nodes[n].kind).1 := by
      rcases (show p.nodes[n].kind = 13 ∨ p.nodes[n].kind = 14 ∨ p.nodes[n].kind = 15 ∨ p.nodes[n].kind = 16 ∨ p.nodes[n].kind = 17 ∨ p.nodes[n].kind = 18 ∨ p.nodes[n].kind = 19 by omega) with h | h | h | h | h | h | h <;> rw [h] <;> decide
    omega
  have hv0 : downB p l p.nodes[n].kids[0].toNat = true := by
    have hft := node_fits (hD.deep n hnl) hnl hpos
    obtain ⟨q0, q1, q2⟩ := hkid p.nodes[n].kids[0] (List.getElem_mem hpos)
    have e : p.nodes[n].kids[0] = (p.nodes[n].kids[0].toNat : Int) := by omega
    refine downB_val hD l _ (by omega) ?_
    rw [← e]
    unfold fitsB at hft
    have h00 : decide ((0 : Int) < ((0 : Nat) : Int)) = false := by decide
    rw [v20, if_neg (by decide), h00, Bool.and_false, if_neg (by decide)] at hft
    split at hft
    · have := eq_of_beq hft; rw [this]; decide
    · exact hft
  have hblk : ∀ i (hi : i < p.nodes[n].kids.length), 0 < i → ((p.nodes[n].kind == 16) = true ∨ (p.nodes[n].kind == 17) = true) → Sound Tryz.prog 90 [.ro (programW p), .ro (.imm 107 (rows (varC true) l)), .ro (.sc (.int .i64 p.nodes[n].kids[i]))] (fun rs st => rs = [(false, [cB (downB p l p.nodes[n].kids[i].toNat)])]) := fun i hi hi0 h67 => by
    have hft := node_fits (hD.deep n hnl) hnl hi
    unfold fitsB at hft
    have h68 : (p.nodes[n].kind == 16 || p.nodes[n].kind == 17) = true := by rw [Bool.or_eq_true]; exact h67
    have hi1 : decide ((0 : Int) < (i : Int)) = true := decide_eq_true (by omega)
    rw [v20, if_neg (by decide), h68, hi1, Bool.true_and, if_pos rfl] at hft
    obtain ⟨q0, q1, q2⟩ := hkid p.nodes[n].kids[i] (List.getElem_mem hi)
    have e : p.nodes[n].kids[i] = (p.nodes[n].kids[i].toNat : Int) := by omega
    have := ih p.nodes[n].kids[i].toNat q2 (by rw [← e]; exact hft)
    rw [← e] at this
    exact this
  generalize downB p l n = R at heq ⊢
  have hc1 : ((n : Int) < (p.nodes.length : Int)) = True := eq_true (by omega)
  generalize p.nodes[n] = x at hkid hsh heq hx hsr hpos hv0 hblk
  have hvt := varTyS_sound l x.name hl
  have hg0 : (row1 cI x.kids).getD (Int.toNat 0) [] = [cI x.kids[0]] := row1_get cI x.kids hpos
  have hc0 : ((0 : Int) < (x.kids.length : Int)) = True := eq_true (by omega)
  have hk0 : x.kids.getD 0 0 = x.kids[0] := by simp [List.getD, hpos]
  obtain ⟨q0, q1, q2⟩ := hkid x.kids[0] (List.getElem_mem hpos)
  obtain ⟨m, hm⟩ : ∃ m : Nat, x.kids[0] = m := ⟨x.kids[0].toNat, by omega⟩
  have hml : m < p.nodes.length := by omega
  have hty := typeS_sound p hD l hl hf hn hk m hml
  have hsg := sig_of p l hf hk m hml (fun kid hkk => by
    obtain ⟨r0, r1, r2⟩ := hD.kid hml kid hkk
    have e : kid = (kid.toNat : Int) := by omega
    have := typeS_sound p hD l hl hf hn hk kid.toNat (by omega)
    rw [← e] at this
    exact this)
  have hone : x.kids.length = 1 → x.kids.all (fun kid => downB p l kid.toNat) = true := fun h1 => by rw [all_one _ h1, hk0]; exact hv0
  have hhead : headT (typeB p l) x = typeB p l m := by unfold headT; rw [if_pos hpos, hk0, hm]
  unfold stepRB at heq
  rw [hhead, hk0, hm, nAt_nat hml] at heq
  rw [hm] at hg0
  generalize varTy l x.name = tv at hvt heq
  generalize typeB p l m = t at hty heq
  simp only [programW] at hty hsg hblk
  simp only [cI] at hg0
  refine sound_tri (fn := Tryz.f141) (c := Tryz.f141.body.getD .skip) (res := [.tm 6]) (n := 110) sized (by kernel_rfl) (by rfl) (by kernel_rfl) (by rfl) (by rfl) (by simp [argsV]) (fun uf ub C hpin hpin2 hfull => ?_)
  simp only [Tryz.f141, Option.getD_some]
  refine Tri.step sized ?_
  simp (decide := true) only [drop0, row1_length, rows_length, programW, programC, cI, cB, cS, roI, ro64, hpin, go_sem, Nat.reduceAdd, Nat.reduceMul]
  refine Tri.ent ?_ (Ent.frb hfull 3)
  refine Tri.step sized ?_
  simp (decide := true) only [hc1, hx, nodeC, Int.natCast_nonneg, drop0, row1_length, rows_length, programW, programC, cI, cB, cS, roI, ro64, hpin, go_sem, Nat.reduceAdd, Nat.reduceMul]
  refine Tri.ent ?_ (Ent.frb hfull 7)
  refine Tri.step sized ?_
  simp (decide := true) only [drop0, row1_length, rows_length, programW, programC, cI, cB, cS, roI, ro64, hpin, go_sem, Nat.reduceAdd, Nat.reduceMul]
  refine Tri.step sized ?_
  cases h19 : x.kind == 19 with
  | true =>
    have ek := eq_of_beq h19
    rw [ek] at heq hsh
    have h1 : x.kids.length = 1 := by have h1 := hsh.1; have h2 := hsh.2; simp [shapeI] at h1 h2; omega
    rw [hone h1, Bool.and_true] at heq
    simp (decide := true) only [Bool.or_true, Bool.true_or, Bool.or_false, Bool.false_or, if_true, if_false, Int.reduceBEq, Bool.false_eq_true] at heq
    rw [← heq] at hsg
    simp (decide := true) only [h19, nodeC, drop0, row1_length, rows_length, programW, programC, cI, cB, cS, roI, ro64, hpin, go_sem, Nat.reduceAdd, Nat.reduceMul]
    refine Tri.fork sized (.one 1 true (.one 2 true (.one 0 true (.one 3 true (.one 4 true (.one 5 true (.two 6 (.one 7 true (.one 8 true (.one 9 true (.one 10 false (.one 11 false (.one 12 false .done)))))) 10 (.one 6 false (.one 7 false (.one 8 true (.one 9 true (.one 11 false (.one 12 false .done))))))))))))) mixed (by kernel_rfl) (fun C2 hC2 => ?_)
    have hp2 : ∀ o, isPin o = false → C2.pin o = none := by rw [hC2]; exact hpin
    simp (decide := true) only [hg0, hc0, hpos, drop0, row1_length, rows_length, programW, programC, cI, cB, cS, roI, ro64, hp2, go_sem, Nat.reduceAdd, Nat.reduceMul]
    refine ⟨?_, ?_⟩
    all_goals refine aCall_ex hsg hp2 ?_ ?_
    all_goals first | (simp (decide := true) only [drop0, row1_length, rows_length, programW, programC, cI, cB, cS, roI, ro64, hp2, go_sem, Nat.reduceAdd, Nat.reduceMul]; done) | skip
    all_goals rintro ⟨qa, qz, qr, qb, qc⟩ hq
    all_goals unfold sigR
    all_goals simp (decide := true) only [drop0, row1_length, rows_length, programW, programC, cI, cB, cS, roI, ro64, hp2, hpin, go_sem, Nat.reduceAdd, Nat.reduceMul]
  | false =>
  simp (decide := true) only [h19, nodeC, drop0, row1_length, rows_length, programW, programC, cI, cB, cS, roI, ro64, hpin, go_sem, Nat.reduceAdd, Nat.reduceMul]
  refine Tri.step sized ?_
  refine Tri.sched sized [(1, true), (2, true), (0, true), (3, false), (4, false), (5, false), (6, false), (7, false)] mixed (by kernel_rfl) (fun C2 hC2 => ?_)
  have hp2 : ∀ o, isPin o = false → C2.pin o = none := by rw [hC2]; exact hpin
  simp (decide := true) only [hg0, hc0, hpos, nodeC, drop0, row1_length, rows_length, programW, programC, cI, cB, cS, roI, ro64, hp2, go_sem, Nat.reduceAdd, Nat.reduceMul]
  refine aCall_det hty hp2 ?_
  simp (decide := true) only [drop0, row1_length, rows_length, programW, programC, cI, cB, cS, roI, ro64, hp2, hpin, go_sem, Nat.reduceAdd, Nat.reduceMul]
  refine Tri.step sized ?_
  simp (decide := true) only [drop0, row1_length, rows_length, programW, programC, cI, cB, cS, roI, ro64, hpin, go_sem, Nat.reduceAdd, Nat.reduceMul]
  refine aCall_det hvt hpin ?_
  simp (decide := true) only [drop0, row1_length, rows_length, programW, programC, cI, cB, cS, roI, ro64, hpin, go_sem, Nat.reduceAdd, Nat.reduceMul]
  refine Tri.step sized ?_
  cases h13 : x.kind == 13 with
  | true =>
    have ek := eq_of_beq h13
    rw [ek] at heq hsh
    have hln : x.kids.length = 1 := by have h1 := hsh.1; have h2 := hsh.2; simp [shapeI] at h1 h2; omega
    rw [hone hln, Bool.and_true] at heq
    simp (decide := true) only [Bool.or_true, Bool.true_or, Bool.or_false, Bool.false_or, if_true, if_false, Int.reduceBEq, Bool.false_eq_true] at heq
    simp (decide := true) only [h19, h13, heq, if_true, if_false, Bool.or_true, Bool.true_or, Bool.or_false, Bool.false_or, Bool.true_and, Bool.false_and, Bool.false_eq_true, bne, nodeC, drop0, row1_length, rows_length, programW, programC, cI, cB, cS, roI, ro64, hp2, hpin, go_sem, Nat.reduceAdd, Nat.reduceMul]
  | false =>
  cases h14 : x.kind == 14 with
  | true =>
    have ek := eq_of_beq h14
    rw [ek] at heq hsh
    have hln : x.kids.length = 1 := by have h1 := hsh.1; have h2 := hsh.2; simp [shapeI] at h1 h2; omega
    rw [hone hln, Bool.and_true] at heq
    simp (decide := true) only [Bool.or_true, Bool.true_or, Bool.or_false, Bool.false_or, if_true, if_false, Int.reduceBEq, Bool.false_eq_true] at heq
    cases e1 : t == tv with
    | false =>
      simp only [e1, Bool.true_and, Bool.false_and, Bool.true_or, Bool.false_or, Bool.or_false] at heq
      simp (decide := true) only [h19, h13, h14, e1, heq, if_true, if_false, Bool.or_true, Bool.true_or, Bool.or_false, Bool.false_or, Bool.true_and, Bool.false_and, Bool.false_eq_true, bne, nodeC, drop0, row1_length, rows_length, programW, programC, cI, cB, cS, roI, ro64, hp2, hpin, go_sem, Nat.reduceAdd, Nat.reduceMul]
    | true =>
    cases e2 : t == 1 with
    | true =>
      simp only [e1, e2, Bool.true_and, Bool.false_and, Bool.true_or, Bool.false_or, Bool.or_false] at heq
      simp (decide := true) only [h19, h13, h14, e1, e2, heq, if_true, if_false, Bool.or_true, Bool.true_or, Bool.or_false, Bool.false_or, Bool.true_and, Bool.false_and, Bool.false_eq_true, bne, nodeC, drop0, row1_length, rows_length, programW, programC, cI, cB, cS, roI, ro64, hp2, hpin, go_sem, Nat.reduceAdd, Nat.reduceMul]
    | false =>
    cases e3 : t == 2 with
    | true =>
      simp only [e1, e2, e3, Bool.true_and, Bool.false_and, Bool.true_or, Bool.false_or, Bool.or_false] at heq
      simp (decide := true) only [h19, h13, h14, e1, e2, e3, heq, if_true, if_false, Bool.or_true, Bool.true_or, Bool.or_false, Bool.false_or, Bool.true_and, Bool.false_and, Bool.false_eq_true, bne, nodeC, drop0, row1_length, rows_length, programW, programC, cI, cB, cS, roI, ro64, hp2, hpin, go_sem, Nat.reduceAdd, Nat.reduceMul]
    | false =>
      simp only [e1, e2, e3, Bool.true_and, Bool.false_and, Bool.true_or, Bool.false_or, Bool.or_false] at heq
      simp (decide := true) only [h19, h13, h14, e1, e2, e3, heq, if_true, if_false, Bool.or_true, Bool.true_or, Bool.or_false, Bool.false_or, Bool.true_and, Bool.false_and, Bool.false_eq_true, bne, nodeC, drop0, row1_length, rows_length, programW, programC, cI, cB, cS, roI, ro64, hp2, hpin, go_sem, Nat.reduceAdd, Nat.reduceMul]
  | false =>
  cases h15 : x.kind == 15 with
  | true =>
    have ek := eq_of_beq h15
    rw [ek] at heq hsh
    have hln : x.kids.length = 1 := by have h1 := hsh.1; have h2 := hsh.2; simp [shapeI] at h1 h2; omega
    rw [hone hln, Bool.and_true] at heq
    simp (decide := true) only [Bool.or_true, Bool.true_or, Bool.or_false, Bool.false_or, if_true, if_false, Int.reduceBEq, Bool.false_eq_true] at heq
    cases e1 : t == 1 with
    | false =>
      simp only [e1, Bool.true_and, Bool.false_and, Bool.true_or, Bool.false_or, Bool.or_false] at heq
      simp (decide := true) only [h19, h13, h14, h15, e1, heq, if_true, if_false, Bool.or_true, Bool.true_or, Bool.or_false, Bool.false_or, Bool.true_and, Bool.false_and, Bool.false_eq_true, bne, nodeC, drop0, row1_length, rows_length, programW, programC, cI, cB, cS, roI, ro64, hp2, hpin, go_sem, Nat.reduceAdd, Nat.reduceMul]
    | true =>
    cases e2 : tv == 2 with
    | true =>
      simp only [e1, e2, Bool.true_and, Bool.false_and, Bool.true_or, Bool.false_or, Bool.or_false] at heq
      simp (decide := true) only [h19, h13, h14, h15, e1, e2, heq, if_true, if_false, Bool.or_true, Bool.true_or, Bool.or_false, Bool.false_or, Bool.true_and, Bool.false_and, Bool.false_eq_true, bne, nodeC, drop0, row1_length, rows_length, programW, programC, cI, cB, cS, roI, ro64, hp2, hpin, go_sem, Nat.reduceAdd, Nat.reduceMul]
    | false =>
    cases e3 : tv == 4 with
    | true =>
      simp only [e1, e2, e3, Bool.true_and, Bool.false_and, Bool.true_or, Bool.false_or, Bool.or_false] at heq
      simp (decide := true) only [h19, h13, h14, h15, e1, e2, e3, heq, if_true, if_false, Bool.or_true, Bool.true_or, Bool.or_false, Bool.false_or, Bool.true_and, Bool.false_and, Bool.false_eq_true, bne, nodeC, drop0, row1_length, rows_length, programW, programC, cI, cB, cS, roI, ro64, hp2, hpin, go_sem, Nat.reduceAdd, Nat.reduceMul]
    | false =>
      simp only [e1, e2, e3, Bool.true_and, Bool.false_and, Bool.true_or, Bool.false_or, Bool.or_false] at heq
      simp (decide := true) only [h19, h13, h14, h15, e1, e2, e3, heq, if_true, if_false, Bool.or_true, Bool.true_or, Bool.or_false, Bool.false_or, Bool.true_and, Bool.false_and, Bool.false_eq_true, bne, nodeC, drop0, row1_length, rows_length, programW, programC, cI, cB, cS, roI, ro64, hp2, hpin, go_sem, Nat.reduceAdd, Nat.reduceMul]
  | false =>
  cases h16 : x.kind == 16 with
  | true =>
    have hb67 : (x.kind == 16) = true ∨ (x.kind == 17) = true := Or.inl h16
    have ek := eq_of_beq h16
    rw [ek] at heq hsh
    have hln : x.kids.length = 3 := by have h1 := hsh.1; have h2 := hsh.2; simp [shapeI] at h1 h2; omega
    simp (decide := true) only [Bool.or_true, Bool.true_or, Bool.or_false, Bool.false_or, if_true, if_false, Int.reduceBEq, Bool.false_eq_true] at heq
    have hg1 : (row1 cI x.kids).getD (Int.toNat 1) [] = [cI (x.kids[1]'(by omega))] := row1_get cI x.kids (by omega)
    have hc01 : ((1 : Int) < (x.kids.length : Int)) = True := eq_true (by omega)
    have hk1 : x.kids.getD 1 0 = x.kids[1]'(by omega) := by simp [List.getD, show 1 < x.kids.length by omega]
    have hb1 := hblk 1 (by omega) (by omega) hb67
    have hg2 : (row1 cI x.kids).getD (Int.toNat 2) [] = [cI (x.kids[2]'(by omega))] := row1_get cI x.kids (by omega)
    have hc02 : ((2 : Int) < (x.kids.length : Int)) = True := eq_true (by omega)
    have hk2 : x.kids.getD 2 0 = x.kids[2]'(by omega) := by simp [List.getD, show 2 < x.kids.length by omega]
    have hb2 := hblk 2 (by omega) (by omega) hb67
    rw [all_three _ hln, hk0, hk1, hk2, hv0, Bool.true_and] at heq
    simp only [cI] at hg1 hg2
    simp (decide := true) only [h19, h13, h14, h15, h16, if_true, if_false, Bool.or_true, Bool.true_or, Bool.or_false, Bool.false_or, Bool.true_and, Bool.false_and, Bool.false_eq_true, bne, nodeC, drop0, row1_length, rows_length, programW, programC, cI, cB, cS, roI, ro64, hp2, hpin, go_sem, Nat.reduceAdd, Nat.reduceMul]
    refine Tri.sched sized [(0, false), (1, false), (2, false), (4, true), (5, true), (3, true), (6, false), (7, false), (8, false), (9, false), (10, false), (11, false), (13, true), (14, true), (12, true), (15, false), (16, false), (17, false), (18, false), (19, false), (20, false)] mixed (by kernel_rfl) (fun C3 hC3 => ?_)
    have hp3 : ∀ o, isPin o = false → C3.pin o = none := by rw [hC3]; exact hpin
    cases e1 : t == 1 with
    | false =>
      rw [e1, Bool.false_and] at heq
      simp (decide := true) only [e1, heq, hg1, hg2, hc01, hc02, drop0, row1_length, rows_length, programW, programC, cI, cB, cS, roI, ro64, hp3, hpin, go_sem, Nat.reduceAdd, Nat.reduceMul]
      try (refine code_sound sized _ ?_; simp (decide := true) only [heq, drop0, row1_length, rows_length, programW, programC, cI, cB, cS, roI, ro64, hpin, go_sem, Nat.reduceAdd, Nat.reduceMul])
    | true =>
    rw [e1, Bool.true_and] at heq
    simp (decide := true) only [e1, hg1, hg2, hc01, hc02, show 1 < x.kids.length by omega, show 2 < x.kids.length by omega, drop0, row1_length, rows_length, programW, programC, cI, cB, cS, roI, ro64, hp3, go_sem, Nat.reduceAdd, Nat.reduceMul]
    refine aCall_det hb1 hp3 ?_
    cases e2 : downB p l (x.kids[1]'(by omega)).toNat with
    | false =>
      rw [e2, Bool.false_and] at heq
      simp (decide := true) only [e2, heq, hg1, hg2, hc01, hc02, drop0, row1_length, rows_length, programW, programC, cI, cB, cS, roI, ro64, hp3, hpin, go_sem, Nat.reduceAdd, Nat.reduceMul]
      try (refine code_sound sized _ ?_; simp (decide := true) only [heq, drop0, row1_length, rows_length, programW, programC, cI, cB, cS, roI, ro64, hpin, go_sem, Nat.reduceAdd, Nat.reduceMul])
    | true =>
    rw [e2, Bool.true_and] at heq
    simp (decide := true) only [e2, hg1, hg2, hc01, hc02, show 1 < x.kids.length by omega, show 2 < x.kids.length by omega, drop0, row1_length, rows_length, programW, programC, cI, cB, cS, roI, ro64, hp3, go_sem, Nat.reduceAdd, Nat.reduceMul]
    refine aCall_det hb2 hp3 ?_
    rw [← heq]
    simp (decide := true) only [drop0, row1_length, rows_length, programW, programC, cI, cB, cS, roI, ro64, hp3, hpin, go_sem, Nat.reduceAdd, Nat.reduceMul]
    try (refine code_sound sized _ ?_; simp (decide := true) only [drop0, row1_length, rows_length, programW, programC, cI, cB, cS, roI, ro64, hpin, go_sem, Nat.reduceAdd, Nat.reduceMul])
  | false =>
  cases h17 : x.kind == 17 with
  | true =>
    have hb67 : (x.kind == 16) = true ∨ (x.kind == 17) = true := Or.inr h17
    have ek := eq_of_beq h17
    rw [ek] at heq hsh
    have hln : x.kids.length = 2 := by have h1 := hsh.1; have h2 := hsh.2; simp [shapeI] at h1 h2; omega
    simp (decide := true) only [Bool.or_true, Bool.true_or, Bool.or_false, Bool.false_or, if_true, if_false, Int.reduceBEq, Bool.false_eq_true] at heq
    have hg1 : (row1 cI x.kids).getD (Int.toNat 1) [] = [cI (x.kids[1]'(by omega))] := row1_get cI x.kids (by omega)
    have hc01 : ((1 : Int) < (x.kids.length : Int)) = True := eq_true (by omega)
    have hk1 : x.kids.getD 1 0 = x.kids[1]'(by omega) := by simp [List.getD, show 1 < x.kids.length by omega]
    have hb1 := hblk 1 (by omega) (by omega) hb67
    rw [all_two _ hln, hk0, hk1, hv0, Bool.true_and] at heq
    simp only [cI] at hg1
    simp (decide := true) only [h19, h13, h14, h15, h16, h17, if_true, if_false, Bool.or_true, Bool.true_or, Bool.or_false, Bool.false_or, Bool.true_and, Bool.false_and, Bool.false_eq_true, bne, nodeC, drop0, row1_length, rows_length, programW, programC, cI, cB, cS, roI, ro64, hp2, hpin, go_sem, Nat.reduceAdd, Nat.reduceMul]
    refine Tri.sched sized [(0, false), (1, false), (2, false), (4, true), (5, true), (3, true), (6, false), (7, false), (8, false), (9, false), (10, false), (11, false)] mixed (by kernel_rfl) (fun C3 hC3 => ?_)
    have hp3 : ∀ o, isPin o = false → C3.pin o = none := by rw [hC3]; exact hpin
    cases e1 : t == 1 with
    | false =>
      rw [e1, Bool.false_and] at heq
      simp (decide := true) only [e1, heq, hg1, hc01, drop0, row1_length, rows_length, programW, programC, cI, cB, cS, roI, ro64, hp3, hpin, go_sem, Nat.reduceAdd, Nat.reduceMul]
      try (refine code_sound sized _ ?_; simp (decide := true) only [heq, drop0, row1_length, rows_length, programW, programC, cI, cB, cS, roI, ro64, hpin, go_sem, Nat.reduceAdd, Nat.reduceMul])
    | true =>
    rw [e1, Bool.true_and] at heq
    simp (decide := true) only [e1, hg1, hc01, show 1 < x.kids.length by omega, drop0, row1_length, rows_length, programW, programC, cI, cB, cS, roI, ro64, hp3, go_sem, Nat.reduceAdd, Nat.reduceMul]
    refine aCall_det hb1 hp3 ?_
    rw [← heq]
    simp (decide := true) only [drop0, row1_length, rows_length, programW, programC, cI, cB, cS, roI, ro64, hp3, hpin, go_sem, Nat.reduceAdd, Nat.reduceMul]
    try (refine code_sound sized _ ?_; simp (decide := true) only [drop0, row1_length, rows_length, programW, programC, cI, cB, cS, roI, ro64, hpin, go_sem, Nat.reduceAdd, Nat.reduceMul])
  | false =>
  have h18 : (x.kind == 18) = true := by
    have g13 : x.kind ≠ 13 := by simpa using h13
    have g14 : x.kind ≠ 14 := by simpa using h14
    have g15 : x.kind ≠ 15 := by simpa using h15
    have g16 : x.kind ≠ 16 := by simpa using h16
    have g17 : x.kind ≠ 17 := by simpa using h17
    have g19 : x.kind ≠ 19 := by simpa using h19
    have : x.kind = 18 := by omega
    rw [this]; rfl
  have ek := eq_of_beq h18
  rw [ek] at heq hsh
  have hln : x.kids.length = 1 := by have h1 := hsh.1; have h2 := hsh.2; simp [shapeI] at h1 h2; omega
  rw [hone hln, Bool.and_true] at heq
  simp (decide := true) only [Bool.or_true, Bool.true_or, Bool.or_false, Bool.false_or, if_true, if_false, Int.reduceBEq, Bool.false_eq_true] at heq
  simp (decide := true) only [h19, h13, h14, h15, h16, h17, if_true, if_false, Bool.or_true, Bool.true_or, Bool.or_false, Bool.false_or, Bool.true_and, Bool.false_and, Bool.false_eq_true, bne, nodeC, drop0, row1_length, rows_length, programW, programC, cI, cB, cS, roI, ro64, hp2, hpin, go_sem, Nat.reduceAdd, Nat.reduceMul]
  refine code_sound sized _ ?_
  simp (decide := true) only [heq, drop0, row1_length, rows_length, programW, programC, cI, cB, cS, roI, ro64, hp2, hpin, go_sem, Nat.reduceAdd, Nat.reduceMul]

theorem tlook_all (p : ProgramD) (hD : Deep p.nodes) (l : List VarD) (hl : l.length ≤ 4194304) (hf : p.fns.length ≤ 1048576) (hn : p.nodes.length ≤ 1048576) (hk : ∀ x ∈ p.nodes, x.kids.length ≤ 300) (n : Nat) : n < p.nodes.length → TStepAt p l n ∧ TBlockAt p l n := by
  induction n using Nat.strongRecOn with
  | ind n ih =>
  intro hnl
  exact ⟨tstep_of p hD l hl hf hn hk n hnl (fun m hm => (ih m hm (by omega)).2), tblock_of p hD l hk n hnl (fun m hm => (ih m hm (by omega)).1)⟩
end Go.Proofs.YtnbodmohnkohfaaGreatDoor.AW
