/- The statement under which a value stands, as the reference tells it. No condition beyond those named. -/
import Derived.Test.YtaodmogcjpainaaDoorPk
namespace Go.Proofs.YtaodmogcjpainaaDoor.AW
open Go.RowKit
set_option maxHeartbeats 8000000
set_option maxRecDepth 100000
set_option linter.unusedSimpArgs false
set_option linter.unusedVariables false

theorem stepS_sound (p : ProgramD) (fn k : Int) (hf : p.fns.length ≤ 1048576) (hn : p.nodes.length ≤ 1048576) (hk : ∀ x ∈ p.nodes, x.kids.length ≤ 1048576) : Sound Tryd.prog 10 [.ro (programW p), .ro (.sc (.int .i64 fn)), .ro (.sc (.int .i64 k))] (fun rs st => rs = rs3 (stepR p fn k)) := by
  classical
  refine sound_tri (fn := Tryd.f10) (c := Tryd.f10.body.getD .skip) (res := [.tm 6, .tm 7, .tm 8]) (n := 93) sized (by kernel_rfl) (by rfl) (by kernel_rfl) (by rfl) (by rfl) (by simp [argsV]) (fun uf ub C hpin hpin2 hfull => ?_)
  simp only [Tryd.f10, Option.getD_some]
  have w1 : IntKind.i64.wrap ((p.fns.length : Int) - 1) = (p.fns.length : Int) - 1 := w64 (by omega) (by omega)
  have hnone : rs3 none = [(false, [cI (-1)]), (false, [cI (-1)]), (false, [cI (-1)])] := rfl
  refine Tri.step sized ?_
  simp (decide := true) only [programW, programC, drop0, row1_length, rows_length, cI, cB, cS, roI, ro64, hpin, go_sem, Nat.reduceAdd, Nat.reduceMul]
  refine Tri.ent ?_ (Ent.frb hfull 3)
  refine Tri.step sized ?_
  simp (decide := true) only [w1, programW, programC, drop0, row1_length, rows_length, cI, cB, cS, roI, ro64, hpin, go_sem, Nat.reduceAdd, Nat.reduceMul]
  refine aCall_det (l01In' fn 0 (p.fns.length - 1)) hpin ?_
  cases h0 : inI fn 0 (p.fns.length - 1) with
  | false =>
    have hs : stepR p fn k = none := by simp [stepR, h0]
    simp (decide := true) only [hs, hnone, drop0, row1_length, rows_length, cI, cB, cS, roI, ro64, hpin, go_sem, Nat.reduceAdd, Nat.reduceMul]
  | true =>
  simp (decide := true) only [programW, programC, drop0, row1_length, rows_length, cI, cB, cS, roI, ro64, hpin, go_sem, Nat.reduceAdd, Nat.reduceMul]
  refine aCall_det (deepSS_sound p.nodes k hn hk) hpin ?_
  cases h1 : deepOf p.nodes k == 0 with
  | true =>
    have hs : stepR p fn k = none := by simp [stepR, h1]
    simp (decide := true) only [hs, hnone, h1, drop0, row1_length, rows_length, cI, cB, cS, roI, ro64, hpin, go_sem, Nat.reduceAdd, Nat.reduceMul]
  | false =>
  have hr0 := inI_true h0
  obtain ⟨n, rfl, hnl, hdn⟩ := deep_nat h1
  obtain ⟨f, rfl⟩ : ∃ f : Nat, fn = f := ⟨fn.toNat, by omega⟩
  have hfl : f < p.fns.length := by omega
  have c1 : ((f : Int) < (p.fns.length : Int)) = True := eq_true (by omega)
  have c2 : ((n : Int) < (p.nodes.length : Int)) = True := eq_true (by omega)
  simp (decide := true) only [h1, c2, rows_get _ _ hnl, nodeC, programW, programC, Int.natCast_nonneg, drop0, row1_length, rows_length, cI, cB, cS, roI, ro64, hpin, go_sem, Nat.reduceAdd, Nat.reduceMul]
  refine aCall_det (isValS_sound p.nodes[n].kind) hpin ?_
  cases h2 : isValB p.nodes[n].kind with
  | false =>
    have hs : stepR p f n = none := by simp [stepR, nAt_nat hnl, h2]
    simp (decide := true) only [h1, hs, hnone, drop0, row1_length, rows_length, cI, cB, cS, roI, ro64, hpin, go_sem, Nat.reduceAdd, Nat.reduceMul]
  | true =>
  have hse : stepR p f n = findB p.nodes n (underP p.nodes p.fns[f].body) := by
    unfold stepR
    rw [h0, h1, nAt_nat hnl, h2, fAt_nat hfl, Int.toNat_natCast]; rfl
  rw [hse]
  simp (decide := true) only [h1, drop0, row1_length, rows_length, cI, cB, cS, roI, ro64, hpin, go_sem, Nat.reduceAdd, Nat.reduceMul]
  refine Tri.step sized ?_
  simp (decide := true) only [programW, programC, drop0, row1_length, rows_length, cI, cB, cS, roI, ro64, hpin, go_sem, Nat.reduceAdd, Nat.reduceMul]
  refine Tri.sched sized [(1, true), (3, true), (0, true), (2, false), (4, false), (5, false), (6, false), (7, false), (8, false)] mixed (by kernel_rfl) (fun C2 hC2 => ?_)
  have hp2 : ∀ o, isPin o = false → C2.pin o = none := by rw [hC2]; exact hpin
  simp (decide := true) only [c1, rows_get _ _ hfl, fnC, programW, programC, Int.natCast_nonneg, drop0, row1_length, rows_length, cI, cB, cS, roI, ro64, hp2, go_sem, Nat.reduceAdd, Nat.reduceMul]
  refine aCall_det (underS_sound p p.fns[f].body hn hk) hp2 ?_
  simp (decide := true) only [programW, programC, drop0, row1_length, rows_length, cI, cB, cS, roI, ro64, hp2, go_sem, Nat.reduceAdd, Nat.reduceMul]
  have hul := underP_length p.nodes p.fns[f].body
  have hmem : ∀ i (hi : i < (underP p.nodes p.fns[f].body).length), 0 ≤ (underP p.nodes p.fns[f].body)[i] ∧ (underP p.nodes p.fns[f].body)[i].toNat < p.nodes.length ∧ dAt p.nodes (underP p.nodes p.fns[f].body)[i].toNat ≠ 0 := fun i hi => underP_deep (List.getElem_mem hi)
  generalize underP p.nodes p.fns[f].body = L at hul hmem ⊢
  refine Tri.ent ?_ (Ent.frz hfull 9)
  refine Tri.step sized ?_
  simp (decide := true) only [programW, programC, drop0, row1_length, rows_length, cI, cB, cS, roI, ro64, hpin, go_sem, Nat.reduceAdd, Nat.reduceMul]
  refine Tri.loop (ι := Nat) (fun i => i ≤ L.length ∧ findB p.nodes n L = findB p.nodes n (L.drop i)) (fun i => ⟨93, [(2, vI n), (3, .ip (programC true p) 0), (9, roI L), (10, vI i)], []⟩) (fun i => L.length - i) 0 ⟨by simp, rfl⟩ ?_ ?_
  · refine Ent.weak ?_ ?_ ?_ ?_ <;> simp (decide := true) [subT, subB, hereT, hereV, hereL, St.get, look, vI, vB, vS, cI, cS, cB, nodeC, roI, programC]
  · rintro i ⟨hi, hq⟩
    refine code_sound sized _ ?_
    by_cases h' : i < L.length
    · have e : ((i : Int) < (L.length : Int)) = True := by simp [h']
      obtain ⟨g0, g1, g2⟩ := hmem i h'
      have z0 : (0 ≤ L[i]) = True := eq_true g0
      have z1 : (L[i] < (p.nodes.length : Int)) = True := eq_true (by omega)
      have hat : nAt p.nodes L[i] = p.nodes[L[i].toNat] := nAt_get g1
      have hkx := hk p.nodes[L[i].toNat] (List.getElem_mem g1)
      obtain ⟨_, hkid⟩ := kids_lt g2
      have hkd : ∀ s ∈ p.nodes[L[i].toNat].kids, dAt p.nodes s.toNat ≠ 0 := fun s hs => (dAt_kid g2 g1 hs).2
      have hdr : L.drop i = L[i] :: L.drop (i + 1) := List.drop_eq_getElem_cons h'
      rw [hdr] at hq
      generalize hx : p.nodes[L[i].toNat] = x at hat hkx hkid hkd
      simp (decide := true) only [e, vB, vI, drop0, row1_length, rows_length, cI, cB, cS, roI, ro64, hpin, go_sem, Nat.reduceAdd, Nat.reduceMul]
      refine Tri.sched sized [(0, true), (2, true), (3, true), (4, true), (1, true), (5, false), (6, false), (7, false), (8, false), (9, false)] mixed (by kernel_rfl) (fun C2 hC2 => ?_)
      have hp2 : ∀ o, isPin o = false → C2.pin o = none := by rw [hC2]; exact hpin
      simp (decide := true) only [e, z0, z1, h', row1_get _ _ h', rows_get _ _ g1, hx, bne, nodeC, programC, Int.natCast_nonneg, vB, vI, drop0, row1_length, rows_length, cI, cB, cS, roI, ro64, hp2, go_sem, Nat.reduceAdd, Nat.reduceMul]
      cases hb : x.kind == 20 with
      | false =>
        have hq2 : findB p.nodes n L = findB p.nodes n (L.drop (i + 1)) := by rw [hq, findB, hat, hb]; simp
        simp (decide := true) only [programW, programC, drop0, row1_length, rows_length, cI, cB, cS, roI, ro64, hpin, go_sem, Nat.reduceAdd, Nat.reduceMul]
        refine ⟨i + 1, ⟨h', hq2⟩, by omega, Ent.weak ?_ ?_ ?_ ?_⟩
        all_goals simp (decide := true) [subT, subB, hereT, hereV, hereL, St.get, look, vI, vB, vS, cI, cS, cB, nodeC, roI, programC, w64s (n := L.length) h' (by omega)]
      | true =>
        have hq2 : findB p.nodes n L = orElse3 (findK p.nodes n L[i] x.kids 0) (findB p.nodes n (L.drop (i + 1))) := by rw [hq, findB, hat, hb]; simp
        simp (decide := true) only [drop0, row1_length, rows_length, cI, cB, cS, roI, ro64, hpin, go_sem, Nat.reduceAdd, Nat.reduceMul]
        refine Tri.sched sized [(0, true), (2, true), (3, true), (4, true), (1, true), (5, false), (6, false), (7, false), (8, false), (9, false)] mixed (by kernel_rfl) (fun C2 hC2 => ?_)
        have hp2 : ∀ o, isPin o = false → C2.pin o = none := by rw [hC2]; exact hpin
        simp (decide := true) only [e, z0, z1, h', row1_get _ _ h', rows_get _ _ g1, hx, bne, nodeC, programC, Int.natCast_nonneg, vB, vI, drop0, row1_length, rows_length, cI, cB, cS, roI, ro64, hp2, go_sem, Nat.reduceAdd, Nat.reduceMul]
        refine Tri.loop (ι := Nat) (fun j => j ≤ x.kids.length ∧ findB p.nodes n L = orElse3 (findK p.nodes n L[i] (x.kids.drop j) j) (findB p.nodes n (L.drop (i + 1)))) (fun j => ⟨93, [(2, vI n), (3, .ip (programC true p) 0), (9, roI L), (10, vI i), (11, roI x.kids), (12, vI j)], []⟩) (fun j => x.kids.length - j) 0 ⟨by simp, hq2⟩ ?_ ?_
        · refine Ent.weak ?_ ?_ ?_ ?_ <;> simp (decide := true) [subT, subB, hereT, hereV, hereL, St.get, look, vI, vB, vS, cI, cS, cB, nodeC, roI, programC]
        · rintro j ⟨hj, hq3⟩
          refine code_sound sized _ ?_
          by_cases hj' : j < x.kids.length
          · have e2 : ((j : Int) < (x.kids.length : Int)) = True := by simp [hj']
            have hsm := List.getElem_mem hj'
            obtain ⟨q0, q1, q2⟩ := hkid x.kids[j] hsm
            have hds := hkd x.kids[j] hsm
            have hdk : x.kids.drop j = x.kids[j] :: x.kids.drop (j + 1) := List.drop_eq_getElem_cons hj'
            rw [hdk] at hq3
            have hrs := hasB_sound p.nodes n hn hk x.kids[j].toNat hds
            rw [show ((x.kids[j].toNat : Nat) : Int) = x.kids[j] by omega] at hrs
            simp (decide := true) only [e2, vB, vI, drop0, row1_length, rows_length, cI, cB, cS, roI, ro64, hpin, go_sem, Nat.reduceAdd, Nat.reduceMul]
            refine Tri.sched sized [(0, true), (2, true), (3, true), (4, true), (6, true), (1, true), (5, false), (7, false)] mixed (by kernel_rfl) (fun C2 hC2 => ?_)
            have hp2 : ∀ o, isPin o = false → C2.pin o = none := by rw [hC2]; exact hpin
            simp (decide := true) only [e2, row1_get _ _ hj', programC, Int.natCast_nonneg, vB, vI, drop0, row1_length, rows_length, cI, cB, cS, roI, ro64, hp2, go_sem, Nat.reduceAdd, Nat.reduceMul]
            refine aCall_det hrs hp2 ?_
            simp (decide := true) only [programW, programC, drop0, row1_length, rows_length, cI, cB, cS, roI, ro64, hp2, go_sem, Nat.reduceAdd, Nat.reduceMul]
            by_cases hR : RB p.nodes x.kids[j].toNat n
            · have hc : decide (RB p.nodes x.kids[j].toNat n) = true := decide_eq_true hR
              rw [findK_yes hR] at hq3
              have hq4 : findB p.nodes n L = some (L[i], (j : Int), x.kids[j]) := hq3
              simp (decide := true) only [hc, drop0, row1_length, rows_length, cI, cB, cS, roI, ro64, hpin, go_sem, Nat.reduceAdd, Nat.reduceMul]
              refine Tri.sched sized [(0, true), (1, true), (2, true), (4, true), (5, true), (6, true), (7, true), (3, true), (9, true), (10, true), (8, false), (11, false)] mixed (by kernel_rfl) (fun C2 hC2 => ?_)
              have hp2 : ∀ o, isPin o = false → C2.pin o = none := by rw [hC2]; exact hpin
              simp (decide := true) only [e, e2, row1_get _ _ hj', row1_get _ _ h', hq4, rs3, out3, Int.natCast_nonneg, drop0, row1_length, rows_length, cI, cB, cS, roI, ro64, hp2, go_sem, Nat.reduceAdd, Nat.reduceMul]
            · have hc : decide (RB p.nodes x.kids[j].toNat n) = false := decide_eq_false hR
              rw [findK_no hR] at hq3
              simp (decide := true) only [hc, drop0, row1_length, rows_length, cI, cB, cS, roI, ro64, hpin, go_sem, Nat.reduceAdd, Nat.reduceMul]
              refine ⟨j + 1, ⟨hj', hq3⟩, by omega, Ent.weak ?_ ?_ ?_ ?_⟩
              all_goals simp (decide := true) [subT, subB, hereT, hereV, hereL, St.get, look, vI, vB, vS, cI, cS, cB, nodeC, roI, programC, w64s (n := x.kids.length) hj' (by omega)]
          · have hjl : j = x.kids.length := by omega
            subst hjl
            have e2 : ((x.kids.length : Int) < (x.kids.length : Int)) = False := by simp
            rw [List.drop_length] at hq3
            have hq4 : findB p.nodes n L = findB p.nodes n (L.drop (i + 1)) := hq3
            simp (decide := true) only [e2, vB, vI, drop0, row1_length, rows_length, cI, cB, cS, roI, ro64, hpin, go_sem, Nat.reduceAdd, Nat.reduceMul]
            refine ⟨i + 1, ⟨h', hq4⟩, by omega, Ent.weak ?_ ?_ ?_ ?_⟩
            all_goals simp (decide := true) [subT, subB, hereT, hereV, hereL, St.get, look, vI, vB, vS, cI, cS, cB, nodeC, roI, programC, w64s (n := L.length) h' (by omega)]
    · have hil : i = L.length := by omega
      subst hil
      have e : ((L.length : Int) < (L.length : Int)) = False := by simp
      rw [List.drop_length] at hq
      have hq4 : findB p.nodes n L = none := hq
      simp (decide := true) only [e, hq4, hnone, vB, vI, drop0, row1_length, rows_length, cI, cB, cS, roI, ro64, hpin, go_sem, Nat.reduceAdd, Nat.reduceMul]
      refine code_sound sized _ ?_
      simp (decide := true) only [hnone, drop0, row1_length, rows_length, cI, cB, cS, roI, ro64, hpin, go_sem, Nat.reduceAdd, Nat.reduceMul]
end Go.Proofs.YtaodmogcjpainaaDoor.AW
