/- The types of values, as the reference tells them. No condition beyond those named. -/
import Derived.Test.YtnbodmohnkohfaaGreatDoorQf
namespace Go.Proofs.YtnbodmohnkohfaaGreatDoor.AW
open Go.RowKit
set_option maxHeartbeats 8000000
set_option maxRecDepth 100000
set_option linter.unusedSimpArgs false
set_option linter.unusedVariables false

theorem two_of (p : ProgramD) (l : List VarD) (n : Nat) (hnl : n < p.nodes.length) (hpos : 1 < p.nodes[n].kids.length)
    (ih : ∀ kid ∈ p.nodes[n].kids, Sound Tryz.prog 91 [.ro (programW p), .ro (.imm 107 (rows (varC true) l)), .ro (.sc (.int .i64 kid))] (fun rs st => rs = [(false, [cI (typeB p l kid)])])) :
    Sound Tryz.prog 142 [.ro (programW p), .ro (.imm 107 (rows (varC true) l)), .ro (.sc (.int .i64 n))] (fun rs st => rs = [(false, [cB (typeB p l (p.nodes[n].kids.getD 0 0) == 1 && typeB p l (p.nodes[n].kids.getD 1 0) == 1)])]) := by
  have hx : (rows (nodeC true) p.nodes).getD n [] = nodeC true p.nodes[n] := rows_get _ _ hnl
  have hc1 : ((n : Int) < (p.nodes.length : Int)) = True := eq_true (by omega)
  generalize p.nodes[n] = x at hx ih hpos ⊢
  have hk0 : x.kids.getD 0 0 = x.kids[0]'(by omega) := by simp [List.getD, show 0 < x.kids.length by omega]
  have hk1 : x.kids.getD 1 0 = x.kids[1] := by simp [List.getD, hpos]
  rw [hk0, hk1]
  have hg0 : (row1 cI x.kids).getD (Int.toNat 0) [] = [cI (x.kids[0]'(by omega))] := row1_get cI x.kids (by omega)
  have hg1 : (row1 cI x.kids).getD (Int.toNat 1) [] = [cI x.kids[1]] := row1_get cI x.kids hpos
  have hc0 : ((0 : Int) < (x.kids.length : Int)) = True := eq_true (by omega)
  have hc01 : ((1 : Int) < (x.kids.length : Int)) = True := eq_true (by omega)
  have hih := ih (x.kids[0]'(by omega)) (List.getElem_mem _)
  have hih1 := ih x.kids[1] (List.getElem_mem hpos)
  simp only [cI] at hg0 hg1
  simp only [programW] at hih hih1
  refine sound_tri (fn := Tryz.f142) (c := Tryz.f142.body.getD .skip) (res := [.tm 6]) (n := 31) sized (by kernel_rfl) (by rfl) (by kernel_rfl) (by rfl) (by rfl) (by simp [argsV]) (fun uf ub C hpin hpin2 hfull => ?_)
  simp only [Tryz.f142, Option.getD_some]
  refine Tri.step sized ?_
  simp (decide := true) only [drop0, row1_length, rows_length, programW, programC, cI, cB, cS, roI, ro64, hpin, go_sem, Nat.reduceAdd, Nat.reduceMul]
  refine Tri.ent ?_ (Ent.frb hfull 3)
  refine Tri.step sized ?_
  simp (decide := true) only [hc1, hx, nodeC, Int.natCast_nonneg, drop0, row1_length, rows_length, programW, programC, cI, cB, cS, roI, ro64, hpin, go_sem, Nat.reduceAdd, Nat.reduceMul]
  refine Tri.ent ?_ (Ent.frb hfull 7)
  refine Tri.step sized ?_
  simp (decide := true) only [drop0, row1_length, rows_length, programW, programC, cI, cB, cS, roI, ro64, hpin, go_sem, Nat.reduceAdd, Nat.reduceMul]
  refine Tri.sched sized [(1, true), (2, true), (0, true), (3, false), (4, false), (5, false), (6, false), (7, false), (8, false), (10, true), (11, true), (9, true), (12, false), (13, false), (14, false), (15, false), (16, false), (17, false), (18, false)] mixed (by kernel_rfl) (fun C2 hC2 => ?_)
  have hp2 : ∀ o, isPin o = false → C2.pin o = none := by rw [hC2]; exact hpin
  simp (decide := true) only [hg0, hc0, hpos, nodeC, drop0, row1_length, rows_length, programW, programC, cI, cB, cS, roI, ro64, hp2, go_sem, Nat.reduceAdd, Nat.reduceMul]
  refine aCall_det hih hp2 ?_
  cases hT : typeB p l (x.kids[0]'(by omega)) == 1 with
  | false =>
    simp (decide := true) only [hT, Bool.false_and, hg0, hg1, hc0, hc01, hpos, drop0, row1_length, rows_length, programW, programC, cI, cB, cS, roI, ro64, hp2, hpin, go_sem, Nat.reduceAdd, Nat.reduceMul]
    refine code_sound sized _ ?_
    simp (decide := true) only [drop0, row1_length, rows_length, programW, programC, cI, cB, cS, roI, ro64, hpin, go_sem, Nat.reduceAdd, Nat.reduceMul]
  | true =>
  simp (decide := true) only [hT, hg0, hg1, hc0, hc01, hpos, drop0, row1_length, rows_length, programW, programC, cI, cB, cS, roI, ro64, hp2, go_sem, Nat.reduceAdd, Nat.reduceMul]
  refine aCall_det hih1 hp2 ?_
  simp (decide := true) only [Bool.true_and, drop0, row1_length, rows_length, programW, programC, cI, cB, cS, roI, ro64, hp2, hpin, go_sem, Nat.reduceAdd, Nat.reduceMul]
  refine code_sound sized _ ?_
  simp (decide := true) only [drop0, row1_length, rows_length, programW, programC, cI, cB, cS, roI, ro64, hpin, go_sem, Nat.reduceAdd, Nat.reduceMul]

/-- The signature of a call, as far as it is used. -/
def sigR (ok : Bool) (q : ByteArray × Value × Int × Int × Int) : List RV := [(true, [cS q.1, .sc q.2.1, cI q.2.2.1, cI q.2.2.2.1, cI q.2.2.2.2]), (false, [cB ok])]
theorem sig_of (p : ProgramD) (l : List VarD) (hf : p.fns.length ≤ 1048576) (hk : ∀ x ∈ p.nodes, x.kids.length ≤ 300) (n : Nat) (hnl : n < p.nodes.length)
    (ih : ∀ kid ∈ p.nodes[n].kids, Sound Tryz.prog 91 [.ro (programW p), .ro (.imm 107 (rows (varC true) l)), .ro (.sc (.int .i64 kid))] (fun rs st => rs = [(false, [cI (typeB p l kid)])])) :
    Sound Tryz.prog 143 [.ro (programW p), .ro (.imm 107 (rows (varC true) l)), .ro (.sc (.int .i64 n))] (fun rs st => ∃ q, (callTB (typeB p l) p p.nodes[n] = true → q.2.2.1 = (fAt p.fns (fnAtP p.fns p.nodes[n].name)).res) ∧ rs = sigR (callTB (typeB p l) p p.nodes[n]) q) := by
  have hkx := hk p.nodes[n] (List.getElem_mem hnl)
  have hx : (rows (nodeC true) p.nodes).getD n [] = nodeC true p.nodes[n] := rows_get _ _ hnl
  have hc1 : ((n : Int) < (p.nodes.length : Int)) = True := eq_true (by omega)
  generalize p.nodes[n] = x at hkx hx ih
  have hfa := fnAtS_sound p x.name hf
  have hrg := findN_range x.name p.fns 0
  have hfe : fnAtP p.fns x.name = findN x.name p.fns 0 := rfl
  rw [← hfe] at hrg
  simp only [programW] at hfa ih
  unfold callTB
  refine sound_tri (fn := Tryz.f143) (c := Tryz.f143.body.getD .skip) (res := [.ce 6 80, .tm 7]) (n := 68) sized (by kernel_rfl) (by rfl) (by kernel_rfl) (by rfl) (by rfl) (by simp [argsV]) (fun uf ub C hpin hpin2 hfull => ?_)
  simp only [Tryz.f143, Option.getD_some]
  refine Tri.step sized ?_
  simp (decide := true) only [drop0, row1_length, rows_length, programW, programC, cI, cB, cS, roI, ro64, hpin, go_sem, Nat.reduceAdd, Nat.reduceMul]
  refine Tri.ent ?_ (Ent.frb hfull 3)
  refine Tri.step sized ?_
  simp (decide := true) only [hc1, hx, nodeC, Int.natCast_nonneg, drop0, row1_length, rows_length, programW, programC, cI, cB, cS, roI, ro64, hpin, go_sem, Nat.reduceAdd, Nat.reduceMul]
  refine Tri.ent ?_ (Ent.frb hfull 8)
  refine Tri.step sized ?_
  simp (decide := true) only [drop0, row1_length, rows_length, programW, programC, cI, cB, cS, roI, ro64, hpin, go_sem, Nat.reduceAdd, Nat.reduceMul]
  refine aCall_det hfa hpin ?_
  generalize fnAtP p.fns x.name = at_ at hrg ⊢
  simp (decide := true) only [drop0, row1_length, rows_length, programW, programC, cI, cB, cS, roI, ro64, hpin, go_sem, Nat.reduceAdd, Nat.reduceMul]
  refine Tri.step sized ?_
  refine code_sound sized _ ?_
  simp (decide := true) only [drop0, row1_length, rows_length, programW, programC, cI, cB, cS, roI, ro64, hpin, go_sem, Nat.reduceAdd, Nat.reduceMul]
  refine Tri.sched sized [(0, false), (1, false), (2, false), (3, true), (5, true), (10, true), (4, true), (6, true), (7, true), (8, true), (9, true), (11, false), (12, false), (13, false), (14, false)] mixed (by kernel_rfl) (fun C2 hC2 => ?_)
  have hp2 : ∀ o, isPin o = false → C2.pin o = none := by rw [hC2]; exact hpin
  by_cases ha : at_ < 0
  · have c1 : (at_ < 0) = True := eq_true ha
    have c2 : decide (0 ≤ at_) = false := decide_eq_false (by omega)
    rcases fns_any p.fns at_.toNat with ⟨y, hy⟩ | hy
    · simp (decide := true) only [c1, c2, hy, fnC, nodeC, Bool.false_and, drop0, row1_length, rows_length, programW, programC, cI, cB, cS, roI, ro64, hp2, hpin, go_sem, Nat.reduceAdd, Nat.reduceMul]
      exact ⟨(⟨#[]⟩, .slice none 0 0, 0, 0, 0), fun hh => absurd hh.1 (by omega), rfl⟩
    · simp (decide := true) only [c1, c2, hy, nodeC, Bool.false_and, List.getElem?_nil, Option.map_none, Option.getD_none, drop0, row1_length, rows_length, programW, programC, cI, cB, cS, roI, ro64, hp2, hpin, go_sem, Nat.reduceAdd, Nat.reduceMul]
      exact ⟨(⟨#[]⟩, .slice none 0 0, 0, 0, 0), fun hh => absurd hh.1 (by omega), rfl⟩
  have c1 : (at_ < 0) = False := eq_false ha
  have c2 : decide (0 ≤ at_) = true := decide_eq_true (by omega)
  obtain ⟨m, rfl⟩ : ∃ m : Nat, at_ = m := ⟨at_.toNat, by omega⟩
  have hml : m < p.fns.length := by rcases hrg with h | h <;> omega
  have hy : (rows (fnC true) p.fns).getD m [] = fnC true p.fns[m] := rows_get _ _ hml
  have hc2 : ((m : Int) < (p.fns.length : Int)) = True := eq_true (by omega)
  rw [fAt_nat hml]
  generalize p.fns[m] = y at hy
  cases hlen : (y.params.length : Int) == (x.kids.length : Int) with
  | false =>
    simp (decide := true) only [c1, c2, hy, hc2, hlen, fnC, nodeC, bne, Int.natCast_nonneg, Bool.false_and, Bool.and_false, drop0, row1_length, rows_length, programW, programC, cI, cB, cS, roI, ro64, hp2, hpin, go_sem, Nat.reduceAdd, Nat.reduceMul]
    exact ⟨(⟨#[]⟩, .slice none 0 0, 0, 0, 0), fun hh => absurd hh.1 (by simpa using hlen), rfl⟩
  | true =>
  have hle := eq_of_beq hlen
  simp (decide := true) only [c1, c2, hy, hc2, hlen, fnC, nodeC, bne, Int.natCast_nonneg, Bool.true_and, drop0, row1_length, rows_length, programW, programC, cI, cB, cS, roI, ro64, hp2, hpin, go_sem, Nat.reduceAdd, Nat.reduceMul]
  refine Tri.step sized ?_
  simp (decide := true) only [nodeC, drop0, row1_length, rows_length, programW, programC, cI, cB, cS, roI, ro64, hpin, go_sem, Nat.reduceAdd, Nat.reduceMul]
  refine Tri.loop (ι := Nat) (fun i => i ≤ x.kids.length ∧ rangeB (fun i => typeB p l (x.kids.getD i 0) == prTy y.params i) i = true) (fun i => ⟨68, [(1, .imm 107 (rows (varC true) l)), (3, .ip (programC true p) 0), (6, .bp 6 0), (7, vB false), (8, .ip (nodeC true x) 0), (9, vI m), (10, vI i)], [(6, .box [.sc (.string ⟨#[]⟩), .sc (.slice none 0 0), cI 0, cI 0, cI 0])]⟩) (fun i => x.kids.length - i) 0 ⟨by simp, rfl⟩ ?_ ?_
  · refine Ent.weak ?_ ?_ ?_ ?_ <;> simp (decide := true) [subT, subB, hereT, hereV, hereL, St.get, look, vI, vB, vS, cI, cS, cB, nodeC, programC, roI]
  · rintro i ⟨hi, hq⟩
    refine code_sound sized _ ?_
    by_cases h' : i < x.kids.length
    · have e : ((i : Int) < (x.kids.length : Int)) = True := by simp [h']
      have hip : i < y.params.length := by omega
      have e2 : ((i : Int) < (y.params.length : Int)) = True := eq_true (by omega)
      have hg : x.kids.getD i 0 = x.kids[i] := by simp [List.getD, h']
      have hpt := prTy_get hip
      have hz : (rows (paramC true) y.params).getD i [] = paramC true y.params[i] := rows_get _ _ hip
      have hih := ih x.kids[i] (List.getElem_mem h')
      simp (decide := true) only [e, nodeC, programC, vB, vI, drop0, row1_length, rows_length, programW, programC, cI, cB, cS, roI, ro64, hpin, go_sem, Nat.reduceAdd, Nat.reduceMul]
      refine Tri.sched sized [(1, true), (2, true), (4, true), (8, true), (10, true), (14, true), (0, true), (3, true), (5, true), (6, true), (9, true), (11, true), (12, true), (13, true), (15, true), (16, true), (17, true), (7, false), (18, false)] mixed (by kernel_rfl) (fun C3 hC3 => ?_)
      have hp3 : ∀ o, isPin o = false → C3.pin o = none := by rw [hC3]; exact hpin
      simp (decide := true) only [e, e2, h', row1_get _ _ h', hy, hc2, hz, fnC, paramC, Int.natCast_nonneg, drop0, row1_length, rows_length, programW, programC, cI, cB, cS, roI, ro64, hp3, go_sem, Nat.reduceAdd, Nat.reduceMul]
      refine aCall_det hih hp3 ?_
      cases hc : typeB p l x.kids[i] == y.params[i].ty with
      | false =>
        have hff : rangeB (fun i => typeB p l (x.kids.getD i 0) == prTy y.params i) x.kids.length = false := rangeB_false h' (by simp only [hg, hpt, hc])
        simp (decide := true) only [hc, hff, bne, drop0, row1_length, rows_length, programW, programC, cI, cB, cS, roI, ro64, hp3, hpin, go_sem, Nat.reduceAdd, Nat.reduceMul]
        exact ⟨(⟨#[]⟩, .slice none 0 0, 0, 0, 0), rfl⟩
      | true =>
        simp (decide := true) only [hc, bne, drop0, row1_length, rows_length, programW, programC, cI, cB, cS, roI, ro64, hp3, hpin, go_sem, Nat.reduceAdd, Nat.reduceMul]
        refine ⟨i + 1, ⟨h', by rw [rangeB_succ, hq, hg, hpt, hc]; rfl⟩, by omega, Ent.weak ?_ ?_ ?_ ?_⟩
        all_goals simp (decide := true) [subT, subB, hereT, hereV, hereL, St.get, look, vI, vB, vS, cI, cS, cB, nodeC, programC, roI, w64s (n := x.kids.length) h' (by omega)]
    · have hil : i = x.kids.length := by omega
      subst hil
      have e : ((x.kids.length : Int) < (x.kids.length : Int)) = False := by simp
      simp (decide := true) only [e, nodeC, vB, vI, drop0, row1_length, rows_length, programW, programC, cI, cB, cS, roI, ro64, hpin, go_sem, Nat.reduceAdd, Nat.reduceMul]
      refine Tri.step sized ?_
      simp (decide := true) only [hy, hc2, fnC, Int.natCast_nonneg, drop0, row1_length, rows_length, programW, programC, cI, cB, cS, roI, ro64, hpin, go_sem, Nat.reduceAdd, Nat.reduceMul]
      refine Tri.plain 6 1 (cs := fnC true y) rfl rfl (fun z => ?_)
      refine code_sound sized _ ?_
      simp (decide := true) only [hq, fnC, drop0, row1_length, rows_length, programW, programC, cI, cB, cS, roI, ro64, hpin, go_sem, Nat.reduceAdd, Nat.reduceMul]
      exact ⟨(y.name, z, y.res, y.body, y.ret), fun _ => rfl, rfl⟩

theorem typeS_sound (p : ProgramD) (hD : Deep p.nodes) (l : List VarD) (hl : l.length ≤ 4194304) (hf : p.fns.length ≤ 1048576) (hn : p.nodes.length ≤ 1048576) (hk : ∀ x ∈ p.nodes, x.kids.length ≤ 300) (n : Nat) : n < p.nodes.length →
    Sound Tryz.prog 91 [.ro (programW p), .ro (.imm 107 (rows (varC true) l)), .ro (.sc (.int .i64 n))] (fun rs st => rs = [(false, [cI (typeB p l n)])]) := by
  induction n using Nat.strongRecOn with
  | ind n ih =>
  intro hnl
  have hkid := hD.kid hnl
  have hkx := hk p.nodes[n] (List.getElem_mem hnl)
  have hsh := inI_true (node_shape (hD.deep n hnl) hnl)
  have hrec : ∀ kid ∈ p.nodes[n].kids, Sound Tryz.prog 91 [.ro (programW p), .ro (.imm 107 (rows (varC true) l)), .ro (.sc (.int .i64 kid))] (fun rs st => rs = [(false, [cI (typeB p l kid)])]) := fun kid hkk => by
    obtain ⟨q0, q1, q2⟩ := hkid kid hkk
    have e : kid = (kid.toNat : Int) := by omega
    have := ih kid.toNat q2 (by omega)
    rw [← e] at this
    exact this
  have hcr := sig_of p l hf hk n hnl hrec
  have htw := fun hpos => two_of p l n hnl hpos hrec
  have heq := typeB_eq hD l hnl
  have hx : (rows (nodeC true) p.nodes).getD n [] = nodeC true p.nodes[n] := rows_get _ _ hnl
  have hc1 : ((n : Int) < (p.nodes.length : Int)) = True := eq_true (by omega)
  generalize typeB p l n = R at heq ⊢
  generalize p.nodes[n] = x at hkid hkx hsh hrec hcr heq hx htw
  have hvt := varTyS_sound l x.name hl
  simp only [programW] at hrec hcr htw
  unfold typeK at heq
  generalize varTy l x.name = tv at heq hvt
  refine sound_tri (fn := Tryz.f91) (c := Tryz.f91.body.getD .skip) (res := [.tm 6]) (n := 83) sized (by kernel_rfl) (by rfl) (by kernel_rfl) (by rfl) (by rfl) (by simp [argsV]) (fun uf ub C hpin hpin2 hfull => ?_)
  simp only [Tryz.f91, Option.getD_some]
  refine Tri.step sized ?_
  simp (decide := true) only [drop0, row1_length, rows_length, programW, programC, cI, cB, cS, roI, ro64, hpin, go_sem, Nat.reduceAdd, Nat.reduceMul]
  refine Tri.ent ?_ (Ent.frb hfull 3)
  refine Tri.step sized ?_
  simp (decide := true) only [hc1, hx, nodeC, Int.natCast_nonneg, drop0, row1_length, rows_length, programW, programC, cI, cB, cS, roI, ro64, hpin, go_sem, Nat.reduceAdd, Nat.reduceMul]
  refine Tri.ent ?_ (Ent.frb hfull 7)
  refine Tri.step sized ?_
  simp (decide := true) only [drop0, row1_length, rows_length, programW, programC, cI, cB, cS, roI, ro64, hpin, go_sem, Nat.reduceAdd, Nat.reduceMul]
  refine aCall_det hvt hpin ?_
  simp (decide := true) only [drop0, row1_length, rows_length, programW, programC, cI, cB, cS, roI, ro64, hpin, go_sem, Nat.reduceAdd, Nat.reduceMul]
  refine Tri.stop sized ⟨83, [(1, .imm 107 (rows (varC true) l)), (2, vI n), (3, .ip (programC true p) 0), (7, .ip (nodeC true x) 0), (8, vI tv), (9, vB (heldB tv))], []⟩ ?_ ?_
  · unfold heldB
    cases t2 : tv == 2 with
    | true => simp (decide := true) only [t2, Bool.true_or, Bool.false_or, nodeC, drop0, row1_length, rows_length, programW, programC, cI, cB, cS, roI, ro64, hpin, go_sem, Nat.reduceAdd, Nat.reduceMul]; refine Ent.weak ?_ ?_ ?_ ?_ <;> simp (decide := true) [subT, subB, hereT, hereV, hereL, St.get, look, vI, vB, vS, cI, cS, cB, nodeC, programC, roI, t2]
    | false =>
    cases t3 : tv == 3 with
    | true => simp (decide := true) only [t2, t3, Bool.true_or, Bool.false_or, nodeC, drop0, row1_length, rows_length, programW, programC, cI, cB, cS, roI, ro64, hpin, go_sem, Nat.reduceAdd, Nat.reduceMul]; refine Ent.weak ?_ ?_ ?_ ?_ <;> simp (decide := true) [subT, subB, hereT, hereV, hereL, St.get, look, vI, vB, vS, cI, cS, cB, nodeC, programC, roI, t2, t3]
    | false =>
    cases t4 : tv == 4 with
    | true => simp (decide := true) only [t2, t3, t4, Bool.true_or, Bool.false_or, nodeC, drop0, row1_length, rows_length, programW, programC, cI, cB, cS, roI, ro64, hpin, go_sem, Nat.reduceAdd, Nat.reduceMul]; refine Ent.weak ?_ ?_ ?_ ?_ <;> simp (decide := true) [subT, subB, hereT, hereV, hereL, St.get, look, vI, vB, vS, cI, cS, cB, nodeC, programC, roI, t2, t3, t4]
    | false => simp (decide := true) only [t2, t3, t4, Bool.true_or, Bool.false_or, nodeC, drop0, row1_length, rows_length, programW, programC, cI, cB, cS, roI, ro64, hpin, go_sem, Nat.reduceAdd, Nat.reduceMul]; refine Ent.weak ?_ ?_ ?_ ?_ <;> simp (decide := true) [subT, subB, hereT, hereV, hereL, St.get, look, vI, vB, vS, cI, cS, cB, nodeC, programC, roI, t2, t3, t4]
  refine Tri.step sized ?_
  cases h1 : x.kind == 1 with
  | true =>
    have ek := eq_of_beq h1
    rw [ek] at heq
    simp (decide := true) only [Bool.or_true, Bool.true_or, Bool.or_false, Bool.false_or, if_true, if_false, Int.reduceBEq, Bool.false_eq_true] at heq
    simp (decide := true) only [h1, heq, programC, vB, vI, nodeC, drop0, row1_length, rows_length, programW, programC, cI, cB, cS, roI, ro64, hpin, go_sem, Nat.reduceAdd, Nat.reduceMul]
  | false =>
  cases h7 : x.kind == 7 with
  | true =>
    have ek := eq_of_beq h7
    rw [ek] at heq
    simp (decide := true) only [Bool.or_true, Bool.true_or, Bool.or_false, Bool.false_or, if_true, if_false, Int.reduceBEq, Bool.false_eq_true] at heq
    simp (decide := true) only [h1, h7, heq, programC, vB, vI, nodeC, drop0, row1_length, rows_length, programW, programC, cI, cB, cS, roI, ro64, hpin, go_sem, Nat.reduceAdd, Nat.reduceMul]
  | false =>
  cases h2 : x.kind == 2 with
  | true =>
    have ek := eq_of_beq h2
    rw [ek] at heq
    simp (decide := true) only [Bool.or_true, Bool.true_or, Bool.or_false, Bool.false_or, if_true, if_false, Int.reduceBEq, Bool.false_eq_true] at heq
    simp (decide := true) only [h1, h7, h2, heq, programC, vB, vI, nodeC, drop0, row1_length, rows_length, programW, programC, cI, cB, cS, roI, ro64, hpin, go_sem, Nat.reduceAdd, Nat.reduceMul]
  | false =>
  cases h3 : x.kind == 3 with
  | true =>
    have ek := eq_of_beq h3
    rw [ek] at heq
    simp (decide := true) only [Bool.or_true, Bool.true_or, Bool.or_false, Bool.false_or, if_true, if_false, Int.reduceBEq, Bool.false_eq_true] at heq
    cases hh : heldB tv with
    | true =>
      simp (decide := true) only [hh, if_true] at heq
      simp (decide := true) only [h1, h7, h2, h3, hh, heq, programC, vB, vI, nodeC, drop0, row1_length, rows_length, programW, programC, cI, cB, cS, roI, ro64, hpin, go_sem, Nat.reduceAdd, Nat.reduceMul]
    | false =>
    simp (decide := true) only [hh, if_false, Bool.false_eq_true] at heq
    simp (decide := true) only [h1, h7, h2, h3, hh, programC, vB, vI, nodeC, drop0, row1_length, rows_length, programW, programC, cI, cB, cS, roI, ro64, hpin, go_sem, Nat.reduceAdd, Nat.reduceMul]
    refine code_sound sized _ ?_
    simp (decide := true) only [heq, drop0, row1_length, rows_length, programW, programC, cI, cB, cS, roI, ro64, hpin, go_sem, Nat.reduceAdd, Nat.reduceMul]
  | false =>
  cases h4 : x.kind == 4 with
  | true =>
    have ek := eq_of_beq h4
    rw [ek] at heq
    simp (decide := true) only [Bool.or_true, Bool.true_or, Bool.or_false, Bool.false_or, if_true, if_false, Int.reduceBEq, Bool.false_eq_true] at heq
    cases hh : heldB tv with
    | true =>
      simp (decide := true) only [hh, if_true] at heq
      simp (decide := true) only [h1, h7, h2, h3, h4, hh, heq, programC, vB, vI, nodeC, drop0, row1_length, rows_length, programW, programC, cI, cB, cS, roI, ro64, hpin, go_sem, Nat.reduceAdd, Nat.reduceMul]
    | false =>
    simp (decide := true) only [hh, if_false, Bool.false_eq_true] at heq
    simp (decide := true) only [h1, h7, h2, h3, h4, hh, programC, vB, vI, nodeC, drop0, row1_length, rows_length, programW, programC, cI, cB, cS, roI, ro64, hpin, go_sem, Nat.reduceAdd, Nat.reduceMul]
    refine code_sound sized _ ?_
    simp (decide := true) only [heq, drop0, row1_length, rows_length, programW, programC, cI, cB, cS, roI, ro64, hpin, go_sem, Nat.reduceAdd, Nat.reduceMul]
  | false =>
  cases h5 : x.kind == 5 with
  | true =>
    have ek := eq_of_beq h5
    rw [ek] at heq
    simp (decide := true) only [Bool.or_true, Bool.true_or, Bool.or_false, Bool.false_or, if_true, if_false, Int.reduceBEq, Bool.false_eq_true] at heq
    cases t2 : tv == 2 with
    | true =>
      simp (decide := true) only [t2, if_true] at heq
      simp (decide := true) only [h1, h7, h2, h3, h4, h5, t2, heq, programC, vB, vI, nodeC, drop0, row1_length, rows_length, programW, programC, cI, cB, cS, roI, ro64, hpin, go_sem, Nat.reduceAdd, Nat.reduceMul]
    | false =>
    simp (decide := true) only [t2, if_false, Bool.false_eq_true] at heq
    simp (decide := true) only [h1, h7, h2, h3, h4, h5, t2, programC, vB, vI, nodeC, drop0, row1_length, rows_length, programW, programC, cI, cB, cS, roI, ro64, hpin, go_sem, Nat.reduceAdd, Nat.reduceMul]
    refine code_sound sized _ ?_
    simp (decide := true) only [heq, drop0, row1_length, rows_length, programW, programC, cI, cB, cS, roI, ro64, hpin, go_sem, Nat.reduceAdd, Nat.reduceMul]
  | false =>
  cases h6 : x.kind == 6 with
  | true =>
    have ek := eq_of_beq h6
    rw [ek] at heq
    simp (decide := true) only [Bool.or_true, Bool.true_or, Bool.or_false, Bool.false_or, if_true, if_false, Int.reduceBEq, Bool.false_eq_true] at heq
    cases t2 : tv == 2 with
    | true =>
      simp (decide := true) only [t2, if_true] at heq
      simp (decide := true) only [h1, h7, h2, h3, h4, h5, h6, t2, heq, programC, vB, vI, nodeC, drop0, row1_length, rows_length, programW, programC, cI, cB, cS, roI, ro64, hpin, go_sem, Nat.reduceAdd, Nat.reduceMul]
    | false =>
    simp (decide := true) only [t2, if_false, Bool.false_eq_true] at heq
    simp (decide := true) only [h1, h7, h2, h3, h4, h5, h6, t2, programC, vB, vI, nodeC, drop0, row1_length, rows_length, programW, programC, cI, cB, cS, roI, ro64, hpin, go_sem, Nat.reduceAdd, Nat.reduceMul]
    refine code_sound sized _ ?_
    simp (decide := true) only [heq, drop0, row1_length, rows_length, programW, programC, cI, cB, cS, roI, ro64, hpin, go_sem, Nat.reduceAdd, Nat.reduceMul]
  | false =>
  cases h8 : x.kind == 8 with
  | true =>
    have ek := eq_of_beq h8
    rw [ek] at heq
    simp (decide := true) only [Bool.or_true, Bool.true_or, Bool.or_false, Bool.false_or, if_true, if_false, Int.reduceBEq, Bool.false_eq_true] at heq
    have hpos : 0 < x.kids.length := by rw [ek] at hsh; have := hsh.1; simp [shapeI] at this; omega
    have hg0 : (row1 cI x.kids).getD (Int.toNat 0) [] = [cI x.kids[0]] := row1_get cI x.kids hpos
    have hc0 : ((0 : Int) < (x.kids.length : Int)) = True := eq_true (by omega)
    have hk0 : x.kids.getD 0 0 = x.kids[0] := by simp [List.getD, hpos]
    have hih := hrec x.kids[0] (List.getElem_mem hpos)
    rw [hk0] at heq
    simp only [cI] at hg0
    simp (decide := true) only [h1, h7, h2, h3, h4, h5, h6, h8, programC, vB, vI, nodeC, drop0, row1_length, rows_length, programW, programC, cI, cB, cS, roI, ro64, hpin, go_sem, Nat.reduceAdd, Nat.reduceMul]
    refine Tri.sched sized [(1, true), (2, true), (0, true), (3, false), (4, false), (5, false), (6, false), (7, false)] mixed (by kernel_rfl) (fun C2 hC2 => ?_)
    have hp2 : ∀ o, isPin o = false → C2.pin o = none := by rw [hC2]; exact hpin
    simp (decide := true) only [hg0, hc0, hpos, drop0, row1_length, rows_length, programW, programC, cI, cB, cS, roI, ro64, hp2, go_sem, Nat.reduceAdd, Nat.reduceMul]
    refine aCall_det hih hp2 ?_
    cases hT : typeB p l x.kids[0] == 1 with
    | true =>
      simp (decide := true) only [hT, if_true] at heq
      simp (decide := true) only [hT, heq, drop0, row1_length, rows_length, programW, programC, cI, cB, cS, roI, ro64, hp2, hpin, go_sem, Nat.reduceAdd, Nat.reduceMul]
    | false =>
    simp (decide := true) only [hT, if_false, Bool.false_eq_true] at heq
    simp (decide := true) only [hT, drop0, row1_length, rows_length, programW, programC, cI, cB, cS, roI, ro64, hp2, hpin, go_sem, Nat.reduceAdd, Nat.reduceMul]
    refine code_sound sized _ ?_
    simp (decide := true) only [heq, drop0, row1_length, rows_length, programW, programC, cI, cB, cS, roI, ro64, hpin, go_sem, Nat.reduceAdd, Nat.reduceMul]
  | false =>
  cases h9 : x.kind == 9 with
  | true =>
    have ek := eq_of_beq h9
    rw [ek] at heq
    simp (decide := true) only [Bool.or_true, Bool.true_or, Bool.or_false, Bool.false_or, if_true, if_false, Int.reduceBEq, Bool.false_eq_true] at heq
    have hpos : 1 < x.kids.length := by rw [ek] at hsh; have := hsh.1; simp [shapeI] at this; omega
    have htw2 := htw hpos
    simp (decide := true) only [h1, h7, h2, h3, h4, h5, h6, h8, h9, programC, vB, vI, nodeC, drop0, row1_length, rows_length, programW, programC, cI, cB, cS, roI, ro64, hpin, go_sem, Nat.reduceAdd, Nat.reduceMul]
    refine aCall_det htw2 hpin ?_
    cases hT : typeB p l (x.kids.getD 0 0) == 1 && typeB p l (x.kids.getD 1 0) == 1 with
    | true =>
      rw [hT, if_pos rfl] at heq
      simp (decide := true) only [heq, drop0, row1_length, rows_length, programW, programC, cI, cB, cS, roI, ro64, hpin, go_sem, Nat.reduceAdd, Nat.reduceMul]
    | false =>
    rw [hT, if_neg (by decide)] at heq
    simp (decide := true) only [drop0, row1_length, rows_length, programW, programC, cI, cB, cS, roI, ro64, hpin, go_sem, Nat.reduceAdd, Nat.reduceMul]
    refine code_sound sized _ ?_
    simp (decide := true) only [heq, drop0, row1_length, rows_length, programW, programC, cI, cB, cS, roI, ro64, hpin, go_sem, Nat.reduceAdd, Nat.reduceMul]
  | false =>
  cases h10 : x.kind == 10 with
  | true =>
    have ek := eq_of_beq h10
    rw [ek] at heq
    simp (decide := true) only [Bool.or_true, Bool.true_or, Bool.or_false, Bool.false_or, if_true, if_false, Int.reduceBEq, Bool.false_eq_true] at heq
    have hpos : 1 < x.kids.length := by rw [ek] at hsh; have := hsh.1; simp [shapeI] at this; omega
    have htw2 := htw hpos
    simp (decide := true) only [h1, h7, h2, h3, h4, h5, h6, h8, h9, h10, programC, vB, vI, nodeC, drop0, row1_length, rows_length, programW, programC, cI, cB, cS, roI, ro64, hpin, go_sem, Nat.reduceAdd, Nat.reduceMul]
    refine aCall_det htw2 hpin ?_
    cases hT : typeB p l (x.kids.getD 0 0) == 1 && typeB p l (x.kids.getD 1 0) == 1 with
    | true =>
      rw [hT, if_pos rfl] at heq
      simp (decide := true) only [heq, drop0, row1_length, rows_length, programW, programC, cI, cB, cS, roI, ro64, hpin, go_sem, Nat.reduceAdd, Nat.reduceMul]
    | false =>
    rw [hT, if_neg (by decide)] at heq
    simp (decide := true) only [drop0, row1_length, rows_length, programW, programC, cI, cB, cS, roI, ro64, hpin, go_sem, Nat.reduceAdd, Nat.reduceMul]
    refine code_sound sized _ ?_
    simp (decide := true) only [heq, drop0, row1_length, rows_length, programW, programC, cI, cB, cS, roI, ro64, hpin, go_sem, Nat.reduceAdd, Nat.reduceMul]
  | false =>
  cases h11 : x.kind == 11 with
  | true =>
    have ek := eq_of_beq h11
    rw [ek] at heq
    simp (decide := true) only [Bool.or_true, Bool.true_or, Bool.or_false, Bool.false_or, if_true, if_false, Int.reduceBEq, Bool.false_eq_true] at heq
    have hpos : 1 < x.kids.length := by rw [ek] at hsh; have := hsh.1; simp [shapeI] at this; omega
    have htw2 := htw hpos
    simp (decide := true) only [h1, h7, h2, h3, h4, h5, h6, h8, h9, h10, h11, programC, vB, vI, nodeC, drop0, row1_length, rows_length, programW, programC, cI, cB, cS, roI, ro64, hpin, go_sem, Nat.reduceAdd, Nat.reduceMul]
    refine aCall_det htw2 hpin ?_
    cases hT : typeB p l (x.kids.getD 0 0) == 1 && typeB p l (x.kids.getD 1 0) == 1 with
    | true =>
      rw [hT, if_pos rfl] at heq
      simp (decide := true) only [heq, drop0, row1_length, rows_length, programW, programC, cI, cB, cS, roI, ro64, hpin, go_sem, Nat.reduceAdd, Nat.reduceMul]
    | false =>
    rw [hT, if_neg (by decide)] at heq
    simp (decide := true) only [drop0, row1_length, rows_length, programW, programC, cI, cB, cS, roI, ro64, hpin, go_sem, Nat.reduceAdd, Nat.reduceMul]
    refine code_sound sized _ ?_
    simp (decide := true) only [heq, drop0, row1_length, rows_length, programW, programC, cI, cB, cS, roI, ro64, hpin, go_sem, Nat.reduceAdd, Nat.reduceMul]
  | false =>
  cases h12 : x.kind == 12 with
  | true =>
    have ek := eq_of_beq h12
    rw [ek] at heq
    simp (decide := true) only [Bool.or_true, Bool.true_or, Bool.or_false, Bool.false_or, if_true, if_false, Int.reduceBEq, Bool.false_eq_true] at heq
    simp (decide := true) only [h1, h7, h2, h3, h4, h5, h6, h8, h9, h10, h11, h12, programC, vB, vI, nodeC, drop0, row1_length, rows_length, programW, programC, cI, cB, cS, roI, ro64, hpin, go_sem, Nat.reduceAdd, Nat.reduceMul]
    refine aCall_ex hcr hpin ?_ ?_
    · simp (decide := true) only [drop0, row1_length, rows_length, programW, programC, cI, cB, cS, roI, ro64, hpin, go_sem, Nat.reduceAdd, Nat.reduceMul]
    rintro ⟨qa, qz, qr, qb, qc⟩ hq
    unfold sigR
    cases hc : callTB (typeB p l) p x with
    | false =>
      rw [hc, if_neg (by decide)] at heq
      simp (decide := true) only [drop0, row1_length, rows_length, programW, programC, cI, cB, cS, roI, ro64, hpin, go_sem, Nat.reduceAdd, Nat.reduceMul]
      refine code_sound sized _ ?_
      simp (decide := true) only [heq, drop0, row1_length, rows_length, programW, programC, cI, cB, cS, roI, ro64, hpin, go_sem, Nat.reduceAdd, Nat.reduceMul]
    | true =>
    have hqr : qr = (fAt p.fns (fnAtP p.fns x.name)).res := hq hc
    rw [hc, if_pos rfl, ← hqr] at heq
    simp (decide := true) only [heq, drop0, row1_length, rows_length, programW, programC, cI, cB, cS, roI, ro64, hpin, go_sem, Nat.reduceAdd, Nat.reduceMul]
  | false =>
  simp (decide := true) only [h1, h7, h2, h3, h4, h5, h6, h8, h9, h10, h11, h12, Bool.or_false, Bool.false_or, if_false, Bool.false_eq_true] at heq
  simp (decide := true) only [h1, h7, h2, h3, h4, h5, h6, h8, h9, h10, h11, h12, programC, vB, vI, nodeC, drop0, row1_length, rows_length, programW, programC, cI, cB, cS, roI, ro64, hpin, go_sem, Nat.reduceAdd, Nat.reduceMul]
  refine code_sound sized _ ?_
  simp (decide := true) only [heq, drop0, row1_length, rows_length, programW, programC, cI, cB, cS, roI, ro64, hpin, go_sem, Nat.reduceAdd, Nat.reduceMul]
end Go.Proofs.YtnbodmohnkohfaaGreatDoor.AW
