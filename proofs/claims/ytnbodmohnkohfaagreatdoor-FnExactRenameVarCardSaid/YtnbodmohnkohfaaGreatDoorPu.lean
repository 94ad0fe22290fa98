/- Whether a program is right, as the reference tells it. No condition beyond those named. -/
import Derived.Test.YtnbodmohnkohfaaGreatDoorPt
namespace Go.Proofs.YtnbodmohnkohfaaGreatDoor.AW
open Go.RowKit
set_option maxHeartbeats 8000000
set_option maxRecDepth 100000
set_option linter.unusedSimpArgs false
set_option linter.unusedVariables false

theorem used_sound (nodes : List NodeD) (hD : Deep nodes) (hn : nodes.length ≤ 1048576) (hk : ∀ x ∈ nodes, x.kids.length ≤ 1048576) : Sound Tryz.prog 117 [.ro (.imm 60 (rows (nodeC true) nodes))] (fun rs st => rs = [(false, [.row false 3 (row1 cI (tabI nodes.length fun m => (cntK nodes nodes.length m : Int)))])]) := by
  refine sound_tri (fn := Tryz.f117) (c := Tryz.f117.body.getD .skip) (res := [.tm 2]) (n := 39) sized (by kernel_rfl) (by rfl) (by kernel_rfl) (by rfl) (by rfl) (by simp [argsV]) (fun uf ub C hpin hpin2 hfull => ?_)
  simp only [Tryz.f117, Option.getD_some]
  have hz := tabI_zero nodes.length
  have hm1 : ((8 : Nat) : Int) * (nodes.length : Int) ≤ 281474976710656 := by omega
  have hm2 : (nodes.length : Int) ≤ 140737488355328 := by omega
  simp only [cI] at hz
  refine Tri.step sized ?_
  simp (decide := true) only [drop0, row1_length, rows_length, tabI_length, cI, cB, cS, roI, ro64, hpin, go_sem, Nat.reduceAdd, Nat.reduceMul]
  refine Tri.step sized ?_
  simp (decide := true) only [hm1, hm2, hz, Int.natCast_nonneg, drop0, row1_length, rows_length, tabI_length, cI, cB, cS, roI, ro64, hpin, go_sem, Nat.reduceAdd, Nat.reduceMul]
  refine Tri.step sized ?_
  simp (decide := true) only [drop0, row1_length, rows_length, tabI_length, cI, cB, cS, roI, ro64, hpin, go_sem, Nat.reduceAdd, Nat.reduceMul]
  refine Tri.loop (ι := Nat) (fun i => i ≤ nodes.length) (fun i => ⟨39, [(0, .imm 60 (rows (nodeC true) nodes)), (3, .ref 3 [] nodes.length), (4, vI i)], [(3, .row 3 (row1 cI (tabI nodes.length fun m => (cntK nodes i m : Int))))]⟩) (fun i => nodes.length - i) 0 (by simp) ?_ ?_
  · have e0 : tabI nodes.length (fun m => (cntK nodes 0 m : Int)) = tabI nodes.length (fun _ => 0) := tabI_congr (fun m _ => by simp [cntK, sumN])
    refine Ent.weak ?_ ?_ ?_ ?_ <;> simp (decide := true) [subT, subB, hereT, hereV, hereL, St.get, look, vI, vB, vS, cI, cS, cB, nodeC, roI, e0]
  · rintro i hi
    refine code_sound sized _ ?_
    by_cases h' : i < nodes.length
    · have e : ((i : Int) < (nodes.length : Int)) = True := by simp [h']
      have hkx := hk nodes[i] (List.getElem_mem h')
      have hkid := hD.kid h'
      have hnd := hD.nodup nodes[i] (List.getElem_mem h')
      have hlast := cntF_last h'
      generalize hx : nodes[i] = x at hkx hkid hnd hlast
      simp (decide := true) only [e, vB, vI, drop0, row1_length, rows_length, tabI_length, cI, cB, cS, roI, ro64, hpin, go_sem, Nat.reduceAdd, Nat.reduceMul]
      refine Tri.loop (ι := Nat) (fun j => j ≤ x.kids.length) (fun j => ⟨39, [(0, .imm 60 (rows (nodeC true) nodes)), (3, .ref 3 [] nodes.length), (4, vI i), (5, vI j)], [(3, .row 3 (row1 cI (tabI nodes.length (cntF nodes x i j))))]⟩) (fun j => x.kids.length - j) 0 (by simp) ?_ ?_
      · have e0 : tabI nodes.length (cntF nodes x i 0) = tabI nodes.length (fun m => (cntK nodes i m : Int)) := tabI_congr (fun m _ => cntF_zero nodes x i m)
        refine Ent.weak ?_ ?_ ?_ ?_ <;> simp (decide := true) [subT, subB, hereT, hereV, hereL, St.get, look, vI, vB, vS, cI, cS, cB, nodeC, roI, e0]
      · rintro j hj
        refine code_sound sized _ ?_
        by_cases hj' : j < x.kids.length
        · have e2 : ((j : Int) < (x.kids.length : Int)) = True := by simp [hj']
          obtain ⟨q0, q1, q2⟩ := hkid x.kids[j] (List.getElem_mem hj')
          have hkl : x.kids[j].toNat < nodes.length := by omega
          have z0 : (0 ≤ x.kids[j]) = True := eq_true q0
          have z1 : (x.kids[j] < (nodes.length : Int)) = True := eq_true (by omega)
          have hrg := cntF_range hD.nodup hnd (Nat.le_of_lt h') j x.kids[j].toNat
          have wv : IntKind.i64.wrap (cntF nodes x i j x.kids[j].toNat + 1) = cntF nodes x i j x.kids[j].toNat + 1 := w64 (by omega) (by omega)
          have hset := tabI_set (f := cntF nodes x i j) hkl (cntF nodes x i j x.kids[j].toNat + 1)
          have hgq := tabI_getq (f := cntF nodes x i j) hkl
          rw [cntF_next hj' q0] at hset
          simp only [cI] at hset hgq
          simp (decide := true) only [e, e2, z0, z1, wv, hset, hgq, hkl, rows_get _ _ h', hx, nodeC, row1_get _ _ hj', Int.natCast_nonneg, vB, vI, drop0, row1_length, rows_length, tabI_length, cI, cB, cS, roI, ro64, hpin, go_sem, Nat.reduceAdd, Nat.reduceMul]
          refine ⟨j + 1, hj', by omega, Ent.weak ?_ ?_ ?_ ?_⟩
          all_goals simp (decide := true) [subT, subB, hereT, hereV, hereL, St.get, look, vI, vB, vS, cI, cS, cB, nodeC, roI, hgq, hset, w64s (n := x.kids.length) hj' (by omega)]
        · have hjl : j = x.kids.length := by omega
          subst hjl
          have e2 : ((x.kids.length : Int) < (x.kids.length : Int)) = False := by simp
          have e9 : tabI nodes.length (cntF nodes x i x.kids.length) = tabI nodes.length (fun m => (cntK nodes (i + 1) m : Int)) := tabI_congr (fun m _ => hlast m)
          simp (decide := true) only [e, e2, rows_get _ _ h', hx, nodeC, Int.natCast_nonneg, vB, vI, drop0, row1_length, rows_length, tabI_length, cI, cB, cS, roI, ro64, hpin, go_sem, Nat.reduceAdd, Nat.reduceMul]
          refine ⟨i + 1, h', by omega, Ent.weak ?_ ?_ ?_ ?_⟩
          all_goals simp (decide := true) [subT, subB, hereT, hereV, hereL, St.get, look, vI, vB, vS, cI, cS, cB, nodeC, roI, e9, w64s (n := nodes.length) h' (by omega)]
    · have hil : i = nodes.length := by omega
      subst hil
      have e : ((nodes.length : Int) < (nodes.length : Int)) = False := by simp
      simp (decide := true) only [e, vB, vI, drop0, row1_length, rows_length, tabI_length, cI, cB, cS, roI, ro64, hpin, go_sem, Nat.reduceAdd, Nat.reduceMul]
      refine code_sound sized _ ?_
      simp (decide := true) only [drop0, row1_length, rows_length, tabI_length, cI, cB, cS, roI, ro64, hpin, go_sem, Nat.reduceAdd, Nat.reduceMul]

/-- How the sums stand after the first roots. -/
def useF (p : ProgramD) (R : List Int) : Nat → Int := fun m => (cntK p.nodes p.nodes.length m : Int) + 1000 * (R.count (m : Int) : Int)
theorem useF_nil (p : ProgramD) : (fun m => (cntK p.nodes p.nodes.length m : Int)) = useF p (allR (p.fns.take 0)) := by funext m; simp [useF, allR]
theorem useF_snoc (p : ProgramD) (R : List Int) {k : Int} (h0 : 0 ≤ k) : (fun m => if m = k.toNat then useF p R k.toNat + 1000 else useF p R m) = useF p (R ++ [k]) := by
  funext m
  unfold useF
  rw [List.count_append]
  by_cases e : m = k.toNat
  · subst e
    have e2 : ((k.toNat : Nat) : Int) = k := by omega
    rw [if_pos rfl, e2]
    simp; omega
  · rw [if_neg e]
    have e2 : (k == (m : Int)) = false := by apply Bool.eq_false_iff.2; intro hh; have := eq_of_beq hh; omega
    simp [List.count_cons, e2]
theorem useF_range {p : ProgramD} (hD : Deep p.nodes) (hl : p.nodes.length ≤ 300) (hf : p.fns.length ≤ 8) {R : List Int} (hs : R.Sublist (allR p.fns)) (m : Nat) : 0 ≤ useF p R m ∧ useF p R m ≤ 300 + 16000 := by
  have h1 := cntK_le hD.nodup m p.nodes.length (Nat.le_refl _)
  have h2 : R.count (m : Int) ≤ R.length := List.count_le_length
  have h3 := hs.length_le
  have h4 := allR_length p.fns
  unfold useF
  omega

theorem programS_sound (p : ProgramD) (hf : p.fns.length ≤ 1048576) (hn : p.nodes.length ≤ 1048576) (hk : ∀ x ∈ p.nodes, x.kids.length ≤ 1048576) (hpl : ∀ f ∈ p.fns, f.params.length ≤ 1048576) : Sound Tryz.prog 68 [.ro (programW p)] (fun rs st => rs = [(false, [cB (programB p)])]) := by
  refine sound_tri (fn := Tryz.f68) (c := Tryz.f68.body.getD .skip) (res := [.tm 2]) (n := 108) sized (by kernel_rfl) (by rfl) (by kernel_rfl) (by rfl) (by rfl) (by simp [argsV]) (fun uf ub C hpin hpin2 hfull => ?_)
  simp only [Tryz.f68, Option.getD_some]
  refine Tri.step sized ?_
  simp (decide := true) only [programW, programC, drop0, row1_length, rows_length, tabI_length, cI, cB, cS, roI, ro64, hpin, go_sem, Nat.reduceAdd, Nat.reduceMul]
  refine Tri.ent ?_ (Ent.frb hfull 1)
  refine Tri.step sized ?_
  simp (decide := true) only [programW, programC, drop0, row1_length, rows_length, tabI_length, cI, cB, cS, roI, ro64, hpin, go_sem, Nat.reduceAdd, Nat.reduceMul]
  refine aCall_det (l01In' p.nodes.length 1 300) hpin ?_
  unfold programB
  cases h0 : inI p.nodes.length 1 300 with
  | false => simp (decide := true) only [Bool.false_and, drop0, row1_length, rows_length, tabI_length, cI, cB, cS, roI, ro64, hpin, go_sem, Nat.reduceAdd, Nat.reduceMul]
  | true =>
  simp (decide := true) only [programW, programC, drop0, row1_length, rows_length, tabI_length, cI, cB, cS, roI, ro64, hpin, go_sem, Nat.reduceAdd, Nat.reduceMul]
  refine aCall_det (l01In' p.fns.length 1 8) hpin ?_
  cases h1 : inI p.fns.length 1 8 with
  | false => simp (decide := true) only [Bool.false_and, Bool.true_and, drop0, row1_length, rows_length, tabI_length, cI, cB, cS, roI, ro64, hpin, go_sem, Nat.reduceAdd, Nat.reduceMul]
  | true =>
  have hr0 := inI_true h0
  have hr1 := inI_true h1
  obtain ⟨n, hnn⟩ : ∃ n : Nat, p.nodes.length = n + 1 := ⟨p.nodes.length - 1, by omega⟩
  have e9 : (p.nodes.length : Int) - 1 = (n : Int) := by omega
  have w1 : IntKind.i64.wrap ((p.nodes.length : Int) - 1) = (n : Int) := by rw [w64 (by omega) (by omega)]; exact e9
  have hll := deeps_length p.nodes (n + 1)
  have hlt : n < (deeps p.nodes (n + 1)).length := by omega
  have hg : (deeps p.nodes (n + 1))[n] = deepOf p.nodes n := by
    have := deeps_get p.nodes (show n < n + 1 by omega)
    simp only [List.getD, hlt, List.getElem?_eq_getElem, Option.getD_some] at this
    have h9 : inI (n : Int) 0 (p.nodes.length - 1) = true := by simp [inI]; omega
    rw [this]; simp [deepOf, h9, dAt]
  have hc : ((n : Int) < ((n + 1 : Nat) : Int)) = True := eq_true (by omega)
  have w2 : IntKind.i64.wrap (((n + 1 : Nat) : Int) - 1) = (n : Int) := by rw [w64 (by omega) (by omega)]; omega
  simp (decide := true) only [Bool.true_and, drop0, row1_length, rows_length, tabI_length, cI, cB, cS, roI, ro64, hpin, go_sem, Nat.reduceAdd, Nat.reduceMul]
  refine Tri.step sized ?_
  simp (decide := true) only [w1, programC, drop0, row1_length, rows_length, tabI_length, cI, cB, cS, roI, ro64, hpin, go_sem, Nat.reduceAdd, Nat.reduceMul]
  refine aCall_det (deepsS_sound p.nodes n (by omega) hn hk) hpin ?_
  simp (decide := true) only [hll, drop0, row1_length, rows_length, tabI_length, cI, cB, cS, roI, ro64, hpin, go_sem, Nat.reduceAdd, Nat.reduceMul]
  refine Tri.step sized ?_
  simp (decide := true) only [hll, w2, hc, row1_getq' _ _ hlt, hg, Int.natCast_nonneg, drop0, row1_length, rows_length, tabI_length, cI, cB, cS, roI, ro64, hpin, go_sem, Nat.reduceAdd, Nat.reduceMul]
  rw [e9]
  cases h2 : deepOf p.nodes n == 0 with
  | true => simp (decide := true) only [h2, Bool.not_true, Bool.false_and, Bool.true_and, drop0, row1_length, rows_length, tabI_length, cI, cB, cS, roI, ro64, hpin, go_sem, Nat.reduceAdd, Nat.reduceMul]
  | false =>
  have hD := deep_of (nodes := p.nodes) (by rw [e9]; exact h2)
  simp (decide := true) only [h2, Bool.not_false, Bool.true_and, drop0, row1_length, rows_length, tabI_length, cI, cB, cS, roI, ro64, hpin, go_sem, Nat.reduceAdd, Nat.reduceMul]
  refine Tri.step sized ?_
  simp (decide := true) only [programC, drop0, row1_length, rows_length, tabI_length, cI, cB, cS, roI, ro64, hpin, go_sem, Nat.reduceAdd, Nat.reduceMul]
  refine aCall_det (used_sound p.nodes hD hn hk) hpin ?_
  rw [useF_nil p]
  simp (decide := true) only [programC, drop0, row1_length, rows_length, tabI_length, cI, cB, cS, roI, ro64, hpin, go_sem, Nat.reduceAdd, Nat.reduceMul]
  refine Tri.step sized ?_
  simp (decide := true) only [programC, drop0, row1_length, rows_length, tabI_length, cI, cB, cS, roI, ro64, hpin, go_sem, Nat.reduceAdd, Nat.reduceMul]
  refine Tri.loop (ι := Nat) (fun i => i ≤ p.fns.length ∧ rangeB (fnRightB p) i = true) (fun i => ⟨108, [(1, .ip (programC true p) 0), (2, vB false), (4, .ref 4 [] p.nodes.length), (5, vI i)], [(4, .row 3 (row1 cI (tabI p.nodes.length (useF p (allR (p.fns.take i))))))]⟩) (fun i => p.fns.length - i) 0 ⟨by simp, rfl⟩ ?_ ?_
  · refine Ent.weak ?_ ?_ ?_ ?_ <;> simp (decide := true) [subT, subB, hereT, hereV, hereL, St.get, look, vI, vB, vS, cI, cS, cB, nodeC, roI, programC]
  · rintro i ⟨hi, hB⟩
    refine code_sound sized _ ?_
    by_cases h' : i < p.fns.length
    · have e : ((i : Int) < (p.fns.length : Int)) = True := by simp [h']
      have hfn := fnOkS_sound p i h' hf hn hpl
      have hx : (rows (fnC true) p.fns).getD i [] = fnC true p.fns[i] := rows_get _ _ h'
      have hnext := allR_succ h'
      have hsub := fun b => allR_sub h' b
      have hfr : fnRightB p i = (fnOkB p p.fns[i] && fnAtP p.fns p.fns[i].name == (i : Int)) := by unfold fnRightB; rw [fAt_nat h']
      simp only [programW] at hfn
      generalize p.fns[i] = f at hfn hx hnext hsub hfr
      rw [← hfr] at hfn
      simp (decide := true) only [e, Int.natCast_nonneg, programC, vB, vI, drop0, row1_length, rows_length, tabI_length, cI, cB, cS, roI, ro64, hpin, go_sem, Nat.reduceAdd, Nat.reduceMul]
      refine aCall_det hfn hpin ?_
      cases g0 : fnRightB p i with
      | false =>
        have hff : rangeB (fnRightB p) p.fns.length = false := rangeB_false h' g0
        simp (decide := true) only [hff, Bool.false_and, drop0, row1_length, rows_length, tabI_length, cI, cB, cS, roI, ro64, hpin, go_sem, Nat.reduceAdd, Nat.reduceMul]
      | true =>
      have hB2 : rangeB (fnRightB p) (i + 1) = true := by rw [rangeB_succ, hB, g0]; rfl
      rw [g0] at hfr
      have hrt := fnOk_roots (Bool.and_eq_true_iff.1 hfr.symm).1
      simp (decide := true) only [e, Int.natCast_nonneg, programC, vB, vI, drop0, row1_length, rows_length, tabI_length, cI, cB, cS, roI, ro64, hpin, go_sem, Nat.reduceAdd, Nat.reduceMul]
      refine Tri.sched sized [(0, true), (1, true), (3, true), (7, true), (8, true), (10, true), (2, true), (4, true), (5, true), (6, true), (9, false), (11, false), (12, false), (13, false), (14, false), (15, false), (16, false), (17, false), (18, false)] mixed (by kernel_rfl) (fun C2 hC2 => ?_)
      have hp2 : ∀ o, isPin o = false → C2.pin o = none := by rw [hC2]; exact hpin
      have e0 : allR (p.fns.take i) ++ rtsP f 0 = allR (p.fns.take i) := by simp [rtsP]
      have r1 : rtsP f 1 = [f.body] := by simp [rtsP, rts, hrt.1.1]
      obtain ⟨⟨y0, y1⟩, hret⟩ := hrt
      have z0 : (0 ≤ f.body) = True := eq_true y0
      have z1 : (f.body < (p.nodes.length : Int)) = True := eq_true (by omega)
      have hs1 := hsub 1
      rw [r1] at hs1
      have hrg := useF_range hD (by omega) (by omega) ((List.sublist_append_left (allR (p.fns.take i)) _).trans hs1) f.body.toNat
      have hset := tabI_set (f := useF p (allR (p.fns.take i))) y1 (useF p (allR (p.fns.take i)) f.body.toNat + 1000)
      have hgq := tabI_getq (f := useF p (allR (p.fns.take i))) y1
      have hgd := tabI_get (f := useF p (allR (p.fns.take i))) y1
      rw [useF_snoc p _ y0, ← r1] at hset
      have wv : IntKind.i64.wrap (useF p (allR (p.fns.take i)) f.body.toNat + 1000) = useF p (allR (p.fns.take i)) f.body.toNat + 1000 := w64 (by omega) (by omega)
      simp only [cI] at hset hgq hgd
      simp (decide := true) only [e, h', hx, fnC, z0, z1, y1, wv, hgq, hgd, Option.getD_some, List.set_cons_zero, hset, Int.natCast_nonneg, programC, vB, vI, drop0, row1_length, rows_length, tabI_length, cI, cB, cS, roI, ro64, hp2, go_sem, Nat.reduceAdd, Nat.reduceMul]
      rcases hret with hneg | ⟨x0, x1⟩
      · have r2 : rtsP f 2 = rtsP f 1 := rtsP_skip f (b := 1) (by simp [rts]) hneg
        have z5 : (0 ≤ f.ret) = False := eq_false (by omega)
        rw [r2] at hnext
        simp (decide := true) only [z5, drop0, row1_length, rows_length, tabI_length, cI, cB, cS, roI, ro64, hpin, go_sem, Nat.reduceAdd, Nat.reduceMul]
        refine ⟨i + 1, ⟨h', hB2⟩, by omega, Ent.weak ?_ ?_ ?_ ?_⟩
        all_goals simp (decide := true) [subT, subB, hereT, hereV, hereL, St.get, look, vI, vB, vS, cI, cS, cB, nodeC, roI, programC, hnext, hgq, hset, w64s (n := p.fns.length) h' (by omega)]
      · have r2 : rtsP f 2 = rtsP f 1 ++ [f.ret] := rtsP_take f (b := 1) (by simp [rts]) x0
        have z5 : (0 ≤ f.ret) = True := eq_true x0
        have z6 : (f.ret < (p.nodes.length : Int)) = True := eq_true (by omega)
        rw [r2, ← List.append_assoc] at hnext
        have hs2 := hsub 1
        have hset2 := tabI_set (f := useF p (allR (p.fns.take i) ++ rtsP f 1)) x1 (useF p (allR (p.fns.take i) ++ rtsP f 1) f.ret.toNat + 1000)
        have hgq2 := tabI_getq (f := useF p (allR (p.fns.take i) ++ rtsP f 1)) x1
        have hgd2 := tabI_get (f := useF p (allR (p.fns.take i) ++ rtsP f 1)) x1
        rw [useF_snoc p _ x0, ← hnext] at hset2
        have hrg2 := useF_range hD (by omega) (by omega) hs2 f.ret.toNat
        have wv2 : IntKind.i64.wrap (useF p (allR (p.fns.take i) ++ rtsP f 1) f.ret.toNat + 1000) = useF p (allR (p.fns.take i) ++ rtsP f 1) f.ret.toNat + 1000 := w64 (by omega) (by omega)
        simp only [cI] at hset2 hgq2 hgd2
        simp (decide := true) only [z5, drop0, row1_length, rows_length, tabI_length, cI, cB, cS, roI, ro64, hpin, go_sem, Nat.reduceAdd, Nat.reduceMul]
        refine Tri.sched sized [(0, true), (1, true), (3, true), (7, true), (8, true), (10, true), (2, true), (4, true), (5, true), (6, true), (9, false), (11, false), (12, false), (13, false), (14, false), (15, false), (16, false), (17, false), (18, false)] mixed (by kernel_rfl) (fun C3 hC3 => ?_)
        have hp3 : ∀ o, isPin o = false → C3.pin o = none := by rw [hC3]; exact hpin
        simp (decide := true) only [e, h', hx, fnC, z5, z6, x1, wv2, hgq2, hgd2, Option.getD_some, List.set_cons_zero, hset2, Int.natCast_nonneg, programC, vB, vI, drop0, row1_length, rows_length, tabI_length, cI, cB, cS, roI, ro64, hp3, hpin, go_sem, Nat.reduceAdd, Nat.reduceMul]
        refine ⟨i + 1, ⟨h', hB2⟩, by omega, Ent.weak ?_ ?_ ?_ ?_⟩
        all_goals simp (decide := true) [subT, subB, hereT, hereV, hereL, St.get, look, vI, vB, vS, cI, cS, cB, nodeC, roI, programC, hgq2, hset2, w64s (n := p.fns.length) h' (by omega)]
    · have hil : i = p.fns.length := by omega
      subst hil
      have e : ((p.fns.length : Int) < (p.fns.length : Int)) = False := by simp
      simp (decide := true) only [e, List.take_length, programC, vB, vI, drop0, row1_length, rows_length, tabI_length, cI, cB, cS, roI, ro64, hpin, go_sem, Nat.reduceAdd, Nat.reduceMul]
      rw [hB]
      refine Tri.step sized ?_
      simp (decide := true) only [programC, drop0, row1_length, rows_length, tabI_length, cI, cB, cS, roI, ro64, hpin, go_sem, Nat.reduceAdd, Nat.reduceMul]
      refine Tri.loop (ι := Nat) (fun m => m ≤ p.nodes.length ∧ rangeB (onceB p) m = true) (fun m => ⟨108, [(2, vB false), (4, .ref 4 [] p.nodes.length), (6, vI m)], [(4, .row 3 (row1 cI (tabI p.nodes.length (useF p (allR p.fns)))))]⟩) (fun m => p.nodes.length - m) 0 ⟨by simp, rfl⟩ ?_ ?_
      · refine Ent.weak ?_ ?_ ?_ ?_ <;> simp (decide := true) [subT, subB, hereT, hereV, hereL, St.get, look, vI, vB, vS, cI, cS, cB, nodeC, roI, programC]
      · rintro m ⟨hm, hq⟩
        refine code_sound sized _ ?_
        by_cases h' : m < p.nodes.length
        · have e : ((m : Int) < (p.nodes.length : Int)) = True := by simp [h']
          have hgq := tabI_getq (f := useF p (allR p.fns)) h'
          have hl : (useF p (allR p.fns) m == 1 || useF p (allR p.fns) m == 1000) = onceB p m := rfl
          simp only [cI] at hgq
          generalize useF p (allR p.fns) m = z at hgq hl
          simp (decide := true) only [e, h', hgq, Int.natCast_nonneg, bne, vB, vI, drop0, row1_length, rows_length, tabI_length, cI, cB, cS, roI, ro64, hpin, go_sem, Nat.reduceAdd, Nat.reduceMul]
          cases z1 : z == 1 with
          | true =>
            rw [z1, Bool.true_or] at hl
            simp (decide := true) only [z1, drop0, row1_length, rows_length, tabI_length, cI, cB, cS, roI, ro64, hpin, go_sem, Nat.reduceAdd, Nat.reduceMul]
            refine ⟨m + 1, ⟨h', by rw [rangeB_succ, hq, ← hl]; rfl⟩, by omega, Ent.weak ?_ ?_ ?_ ?_⟩
            all_goals simp (decide := true) [subT, subB, hereT, hereV, hereL, St.get, look, vI, vB, vS, cI, cS, cB, nodeC, roI, w64s (n := p.nodes.length) h' (by omega)]
          | false =>
            rw [z1, Bool.false_or] at hl
            cases z2 : z == 1000 with
            | true =>
              rw [z2] at hl
              simp (decide := true) only [z1, z2, drop0, row1_length, rows_length, tabI_length, cI, cB, cS, roI, ro64, hpin, go_sem, Nat.reduceAdd, Nat.reduceMul]
              refine ⟨m + 1, ⟨h', by rw [rangeB_succ, hq, ← hl]; rfl⟩, by omega, Ent.weak ?_ ?_ ?_ ?_⟩
              all_goals simp (decide := true) [subT, subB, hereT, hereV, hereL, St.get, look, vI, vB, vS, cI, cS, cB, nodeC, roI, w64s (n := p.nodes.length) h' (by omega)]
            | false =>
              rw [z2] at hl
              have hf : rangeB (onceB p) p.nodes.length = false := rangeB_false h' hl.symm
              simp (decide := true) only [z1, z2, hf, Bool.and_false, drop0, row1_length, rows_length, tabI_length, cI, cB, cS, roI, ro64, hpin, go_sem, Nat.reduceAdd, Nat.reduceMul]
        · have hil : m = p.nodes.length := by omega
          subst hil
          have e : ((p.nodes.length : Int) < (p.nodes.length : Int)) = False := by simp
          rw [hq]
          simp (decide := true) only [e, vB, vI, drop0, row1_length, rows_length, tabI_length, cI, cB, cS, roI, ro64, hpin, go_sem, Nat.reduceAdd, Nat.reduceMul]
          refine code_sound sized _ ?_
          simp (decide := true) only [Bool.and_true, drop0, row1_length, rows_length, tabI_length, cI, cB, cS, roI, ro64, hpin, go_sem, Nat.reduceAdd, Nat.reduceMul]
end Go.Proofs.YtnbodmohnkohfaaGreatDoor.AW
