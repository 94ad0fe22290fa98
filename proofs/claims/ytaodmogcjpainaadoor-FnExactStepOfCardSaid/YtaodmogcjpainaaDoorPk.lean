/- The statement under which a value stands, as the program tells it. No condition beyond those named. -/
import Derived.Test.YtaodmogcjpainaaDoorPj
namespace Go.Proofs.YtaodmogcjpainaaDoor.AW
open Go.RowKit
set_option maxHeartbeats 8000000
set_option maxRecDepth 100000
set_option linter.unusedSimpArgs false
set_option linter.unusedVariables false

def fd0 : FnD := ⟨⟨#[]⟩, [], 0, 0, 0⟩
def fAt (fns : List FnD) (j : Int) : FnD := fns.getD j.toNat fd0
theorem fAt_nat {fns : List FnD} {n : Nat} (h : n < fns.length) : fAt fns (n : Int) = fns[n] := by simp [fAt, List.getD, h]

open Classical in
noncomputable def findK (nodes : List NodeD) (k : Nat) (b : Int) : List Int → Nat → Option (Int × Int × Int)
  | [], _ => none
  | s :: r, i => if RB nodes s.toNat k then some (b, (i : Int), s) else findK nodes k b r (i + 1)
noncomputable def orElse3 (a b : Option (Int × Int × Int)) : Option (Int × Int × Int) := match a with
  | some x => some x
  | none => b
noncomputable def findB (nodes : List NodeD) (k : Nat) : List Int → Option (Int × Int × Int)
  | [] => none
  | b :: r => if (nAt nodes b).kind == 20 then orElse3 (findK nodes k b (nAt nodes b).kids 0) (findB nodes k r) else findB nodes k r
theorem findK_yes {nodes : List NodeD} {k : Nat} {b s : Int} {r : List Int} {i : Nat} (h : RB nodes s.toNat k) : findK nodes k b (s :: r) i = some (b, (i : Int), s) := by simp [findK, h]
theorem findK_no {nodes : List NodeD} {k : Nat} {b s : Int} {r : List Int} {i : Nat} (h : ¬ RB nodes s.toNat k) : findK nodes k b (s :: r) i = findK nodes k b r (i + 1) := by simp [findK, h]
theorem findK_none {nodes : List NodeD} {k : Nat} {b : Int} : ∀ (l : List Int) (i : Nat), (∀ s ∈ l, ¬ RB nodes s.toNat k) → findK nodes k b l i = none
  | [], _, _ => rfl
  | s :: r, i, h => by rw [findK_no (h s List.mem_cons_self)]; exact findK_none r (i + 1) (fun y hy => h y (List.mem_cons_of_mem _ hy))
theorem findB_none {nodes : List NodeD} {k : Nat} : ∀ (l : List Int), (∀ b ∈ l, ∀ s ∈ (nAt nodes b).kids, ¬ RB nodes s.toNat k) → findB nodes k l = none
  | [], _ => rfl
  | b :: r, h => by
    unfold findB
    rw [findK_none _ _ (h b List.mem_cons_self), findB_none r (fun y hy => h y (List.mem_cons_of_mem _ hy))]
    simp [orElse3]
noncomputable def stepR (p : ProgramD) (fn k : Int) : Option (Int × Int × Int) :=
  if inI fn 0 (p.fns.length - 1) && (!(deepOf p.nodes k == 0) && isValB (nAt p.nodes k).kind) then findB p.nodes k.toNat (underP p.nodes (fAt p.fns fn).body) else none
def out3 (o : Option (Int × Int × Int)) : Int × Int × Int := match o with
  | some x => x
  | none => (-1, -1, -1)
def rs3 (o : Option (Int × Int × Int)) : List RV := [(false, [cI (out3 o).1]), (false, [cI (out3 o).2.1]), (false, [cI (out3 o).2.2])]

theorem underP_deep {nodes : List NodeD} {k x : Int} (h : x ∈ underP nodes k) : 0 ≤ x ∧ x.toNat < nodes.length ∧ dAt nodes x.toNat ≠ 0 := by
  have h1 := underP_mem h
  refine ⟨h1.1, h1.2.1, ?_⟩
  unfold underP at h
  cases hd : deepOf nodes k == 0 with
  | true => simp [hd] at h
  | false =>
    obtain ⟨n, rfl, hn, hdn⟩ := deep_nat hd
    exact dAt_down nodes (h1.2.2.le hdn) hdn

theorem step_eq {p : ProgramD} {fn k : Int} (h0 : inI fn 0 (p.fns.length - 1) = true) (h1 : inI k 0 (p.nodes.length - 1) = true) (h2 : isValB (nAt p.nodes k).kind = true) : stepR p fn k = findB p.nodes k.toNat (underP p.nodes (fAt p.fns fn).body) := by
  unfold stepR
  rw [h0, h2, Bool.true_and, Bool.and_true]
  cases hd : deepOf p.nodes k == 0 with
  | false => simp
  | true =>
    symm
    simp only [Bool.not_true, Bool.false_eq_true, if_false]
    have hz : dAt p.nodes k.toNat = 0 := by
      have : deepOf p.nodes k = 0 := by simpa using hd
      unfold deepOf at this
      rw [h1, if_pos rfl] at this
      exact this
    refine findB_none _ (fun b hb s hs hr => ?_)
    obtain ⟨g0, g1, g2⟩ := underP_deep hb
    rw [nAt_get g1] at hs
    have h3 := (dAt_kid g2 g1 hs).2
    exact dAt_down p.nodes (hr.reach.le h3) h3 hz

theorem stepI_sound (p : ProgramD) (fn k : Int) (hf : p.fns.length ≤ 1048576) (hn : p.nodes.length ≤ 1048576) (hk : ∀ x ∈ p.nodes, x.kids.length ≤ 1048576) : Sound Tryd.prog 11 [.ro (programW p), .ro (.sc (.int .i64 fn)), .ro (.sc (.int .i64 k))] (fun rs st => rs = rs3 (stepR p fn k)) := by
  classical
  refine sound_tri (fn := Tryd.f11) (c := Tryd.f11.body.getD .skip) (res := [.tm 6, .tm 7, .tm 8]) (n := 81) sized (by kernel_rfl) (by rfl) (by kernel_rfl) (by rfl) (by rfl) (by simp [argsV]) (fun uf ub C hpin hpin2 hfull => ?_)
  simp only [Tryd.f11, Option.getD_some]
  have w1 : IntKind.i64.wrap ((p.fns.length : Int) - 1) = (p.fns.length : Int) - 1 := w64 (by omega) (by omega)
  have w2 : IntKind.i64.wrap ((p.nodes.length : Int) - 1) = (p.nodes.length : Int) - 1 := w64 (by omega) (by omega)
  have hnone : rs3 none = [(false, [cI (-1)]), (false, [cI (-1)]), (false, [cI (-1)])] := rfl
  refine Tri.step sized ?_
  simp (decide := true) only [programW, programC, drop0, row1_length, rows_length, cI, cB, cS, roI, ro64, hpin, go_sem, Nat.reduceAdd, Nat.reduceMul]
  refine Tri.ent ?_ (Ent.frb hfull 3)
  refine Tri.step sized ?_
  simp (decide := true) only [w1, programW, programC, drop0, row1_length, rows_length, cI, cB, cS, roI, ro64, hpin, go_sem, Nat.reduceAdd, Nat.reduceMul]
  refine aCall_det (in' fn 0 (p.fns.length - 1)) hpin ?_
  cases h0 : inI fn 0 (p.fns.length - 1) with
  | false =>
    have hs : stepR p fn k = none := by simp [stepR, h0]
    simp (decide := true) only [hs, hnone, drop0, row1_length, rows_length, cI, cB, cS, roI, ro64, hpin, go_sem, Nat.reduceAdd, Nat.reduceMul]
  | true =>
  simp (decide := true) only [w2, programW, programC, drop0, row1_length, rows_length, cI, cB, cS, roI, ro64, hpin, go_sem, Nat.reduceAdd, Nat.reduceMul]
  refine aCall_det (in' k 0 (p.nodes.length - 1)) hpin ?_
  cases h1 : inI k 0 (p.nodes.length - 1) with
  | false =>
    have hs : stepR p fn k = none := by simp [stepR, deepOf, h0, h1]
    simp (decide := true) only [hs, hnone, drop0, row1_length, rows_length, cI, cB, cS, roI, ro64, hpin, go_sem, Nat.reduceAdd, Nat.reduceMul]
  | true =>
  have hr0 := inI_true h0
  have hr1 := inI_true h1
  obtain ⟨f, rfl⟩ : ∃ f : Nat, fn = f := ⟨fn.toNat, by omega⟩
  obtain ⟨n, rfl⟩ : ∃ n : Nat, k = n := ⟨k.toNat, by omega⟩
  have hfl : f < p.fns.length := by omega
  have hnl : n < p.nodes.length := by omega
  have c1 : ((f : Int) < (p.fns.length : Int)) = True := eq_true (by omega)
  have c2 : ((n : Int) < (p.nodes.length : Int)) = True := eq_true (by omega)
  simp (decide := true) only [c2, rows_get _ _ hnl, nodeC, programW, programC, Int.natCast_nonneg, drop0, row1_length, rows_length, cI, cB, cS, roI, ro64, hpin, go_sem, Nat.reduceAdd, Nat.reduceMul]
  refine aCall_det (isValI_sound p.nodes[n].kind) hpin ?_
  cases h2 : isValB p.nodes[n].kind with
  | false =>
    have hs : stepR p f n = none := by simp [stepR, nAt_nat hnl, h2]
    simp (decide := true) only [hs, hnone, drop0, row1_length, rows_length, cI, cB, cS, roI, ro64, hpin, go_sem, Nat.reduceAdd, Nat.reduceMul]
  | true =>
  have hse := step_eq h0 h1 (by rw [nAt_nat hnl]; exact h2)
  rw [fAt_nat hfl, Int.toNat_natCast] at hse
  rw [hse]
  simp (decide := true) only [programW, programC, drop0, row1_length, rows_length, cI, cB, cS, roI, ro64, hpin, go_sem, Nat.reduceAdd, Nat.reduceMul]
  refine Tri.step sized ?_
  simp (decide := true) only [programW, programC, drop0, row1_length, rows_length, cI, cB, cS, roI, ro64, hpin, go_sem, Nat.reduceAdd, Nat.reduceMul]
  refine Tri.sched sized [(1, true), (3, true), (9, true), (0, true), (2, false), (4, false), (5, false), (6, false), (7, false), (8, false)] mixed (by kernel_rfl) (fun C2 hC2 => ?_)
  have hp2 : ∀ o, isPin o = false → C2.pin o = none := by rw [hC2]; exact hpin
  simp (decide := true) only [c1, rows_get _ _ hfl, fnC, programW, programC, Int.natCast_nonneg, drop0, row1_length, rows_length, cI, cB, cS, roI, ro64, hp2, go_sem, Nat.reduceAdd, Nat.reduceMul]
  refine aCall_det (underI_sound p p.fns[f].body hn hk) hp2 ?_
  simp (decide := true) only [programW, programC, drop0, row1_length, rows_length, cI, cB, cS, roI, ro64, hp2, go_sem, Nat.reduceAdd, Nat.reduceMul]
  have hul := underP_length p.nodes p.fns[f].body
  have hmem : ∀ i (hi : i < (underP p.nodes p.fns[f].body).length), 0 ≤ (underP p.nodes p.fns[f].body)[i] ∧ (underP p.nodes p.fns[f].body)[i].toNat < p.nodes.length ∧ dAt p.nodes (underP p.nodes p.fns[f].body)[i].toNat ≠ 0 := fun i hi => underP_deep (List.getElem_mem hi)
  generalize underP p.nodes p.fns[f].body = L at hul hmem ⊢
  refine Tri.loop (ι := Nat) (fun i => i ≤ L.length ∧ findB p.nodes n L = findB p.nodes n (L.drop i)) (fun i => ⟨81, [(2, vI n), (3, .ip (programC true p) 0), (46, .ref 3046 [] L.length), (47, vI L.length), (48, vI i)], [(3046, .row 3 (row1 cI L))]⟩) (fun i => L.length - i) 0 ⟨by simp, rfl⟩ ?_ ?_
  · refine Ent.weak ?_ ?_ ?_ ?_ <;> simp (decide := true) [subT, subB, hereT, hereV, hereL, St.get, look, vI, vB, vS, cI, cS, cB, nodeC, roI, programC]
  · rintro i ⟨hi, hq⟩
    refine code_sound sized _ ?_
    by_cases h' : i < L.length
    · have e : ((i : Int) < (L.length : Int)) = True := by simp [h']
      obtain ⟨g0, g1, g2⟩ := hmem i h'
      have z0 : (0 ≤ L[i]) = True := eq_true g0
      have z1 : (L[i] < (p.nodes.length : Int)) = True := eq_true (by omega)
      have hat : nAt p.nodes L[i] = p.nodes[L[i].toNat] := nAt_get g1
      have hkx := hk p.nodes[L[i].toNat] (List.getElem_mem g1)
      obtain ⟨_, hkid⟩ := kids_lt g2
      have hkd : ∀ s ∈ p.nodes[L[i].toNat].kids, dAt p.nodes s.toNat ≠ 0 := fun s hs => (dAt_kid g2 g1 hs).2
      have hdr : L.drop i = L[i] :: L.drop (i + 1) := List.drop_eq_getElem_cons h'
      rw [hdr] at hq
      generalize hx : p.nodes[L[i].toNat] = x at hat hkx hkid hkd
      simp (decide := true) only [e, z0, z1, h', row1_getq' _ _ h', rows_get _ _ g1, hx, bne, nodeC, programC, Int.natCast_nonneg, vB, vI, drop0, row1_length, rows_length, cI, cB, cS, roI, ro64, hpin, go_sem, Nat.reduceAdd, Nat.reduceMul]
      cases hb : x.kind == 20 with
      | false =>
        have hq2 : findB p.nodes n L = findB p.nodes n (L.drop (i + 1)) := by rw [hq, findB, hat, hb]; simp
        simp (decide := true) only [programW, programC, drop0, row1_length, rows_length, cI, cB, cS, roI, ro64, hpin, go_sem, Nat.reduceAdd, Nat.reduceMul]
        refine ⟨i + 1, ⟨h', hq2⟩, by omega, Ent.weak ?_ ?_ ?_ ?_⟩
        all_goals simp (decide := true) [subT, subB, hereT, hereV, hereL, St.get, look, vI, vB, vS, cI, cS, cB, nodeC, roI, programC, w64s (n := L.length) h' (by omega)]
      | true =>
        have hq2 : findB p.nodes n L = orElse3 (findK p.nodes n L[i] x.kids 0) (findB p.nodes n (L.drop (i + 1))) := by rw [hq, findB, hat, hb]; simp
        simp (decide := true) only [z0, z1, rows_get _ _ g1, hx, nodeC, programC, Int.natCast_nonneg, drop0, row1_length, rows_length, cI, cB, cS, roI, ro64, hpin, go_sem, Nat.reduceAdd, Nat.reduceMul]
        refine Tri.loop (ι := Nat) (fun j => j ≤ x.kids.length ∧ findB p.nodes n L = orElse3 (findK p.nodes n L[i] (x.kids.drop j) j) (findB p.nodes n (L.drop (i + 1)))) (fun j => ⟨81, [(2, vI n), (3, .ip (programC true p) 0), (10, vI L[i]), (46, .ref 3046 [] L.length), (47, vI L.length), (48, vI i), (64, roI x.kids), (65, vI x.kids.length), (66, vI j)], [(3046, .row 3 (row1 cI L))]⟩) (fun j => x.kids.length - j) 0 ⟨by simp, hq2⟩ ?_ ?_
        · refine Ent.weak ?_ ?_ ?_ ?_ <;> simp (decide := true) [subT, subB, hereT, hereV, hereL, St.get, look, vI, vB, vS, cI, cS, cB, nodeC, roI, programC]
        · rintro j ⟨hj, hq3⟩
          refine code_sound sized _ ?_
          by_cases hj' : j < x.kids.length
          · have e2 : ((j : Int) < (x.kids.length : Int)) = True := by simp [hj']
            have hsm := List.getElem_mem hj'
            obtain ⟨q0, q1, q2⟩ := hkid x.kids[j] hsm
            have hds := hkd x.kids[j] hsm
            have hdk : x.kids.drop j = x.kids[j] :: x.kids.drop (j + 1) := List.drop_eq_getElem_cons hj'
            rw [hdk] at hq3
            have hrs := reachI_sound p x.kids[j].toNat hds hn hk
            rw [show ((x.kids[j].toNat : Nat) : Int) = x.kids[j] by omega] at hrs
            simp (decide := true) only [e2, row1_get _ _ hj', programC, Int.natCast_nonneg, vB, vI, drop0, row1_length, rows_length, cI, cB, cS, roI, ro64, hpin, go_sem, Nat.reduceAdd, Nat.reduceMul]
            refine aCall_ex hrs hpin ?_ (fun l hl => ?_)
            · simp (decide := true) only [programW, programC, drop0, row1_length, rows_length, cI, cB, cS, roI, ro64, hpin, go_sem, Nat.reduceAdd, Nat.reduceMul]
            obtain ⟨hl1, hl2⟩ := hl
            refine ⟨by simp [noShR, noShL, noSh, ints_noSh], ?_⟩
            simp (decide := true) only [ints_length, ints_take, drop0, row1_length, rows_length, cI, cB, cS, roI, ro64, hpin, go_sem, Nat.reduceAdd, Nat.reduceMul]
            refine aCall_det (hasInt_sound (ints l) n (by rw [ints_length]; omega)) hpin ?_
            simp (decide := true) only [ints_length, ints_take, drop0, row1_length, rows_length, cI, cB, cS, roI, ro64, hpin, go_sem, Nat.reduceAdd, Nat.reduceMul]
            rw [ints_has (Int.natCast_nonneg n), Int.toNat_natCast]
            by_cases hR : RB p.nodes x.kids[j].toNat n
            · have hc : l.contains n = true := by simpa using (hl1 n).2 hR
              rw [findK_yes hR] at hq3
              have hq4 : findB p.nodes n L = some (L[i], (j : Int), x.kids[j]) := hq3
              simp (decide := true) only [hc, hq4, rs3, out3, drop0, row1_length, rows_length, cI, cB, cS, roI, ro64, hpin, go_sem, Nat.reduceAdd, Nat.reduceMul]
            · have hc : l.contains n = false := by
                cases h : l.contains n with
                | false => rfl
                | true => exact (hR ((hl1 n).1 (by simpa using h))).elim
              rw [findK_no hR] at hq3
              simp (decide := true) only [hc, drop0, row1_length, rows_length, cI, cB, cS, roI, ro64, hpin, go_sem, Nat.reduceAdd, Nat.reduceMul]
              refine ⟨j + 1, ⟨hj', hq3⟩, by omega, Ent.weak ?_ ?_ ?_ ?_⟩
              all_goals simp (decide := true) [subT, subB, hereT, hereV, hereL, St.get, look, vI, vB, vS, cI, cS, cB, nodeC, roI, programC, w64s (n := x.kids.length) hj' (by omega)]
          · have hjl : j = x.kids.length := by omega
            subst hjl
            have e2 : ((x.kids.length : Int) < (x.kids.length : Int)) = False := by simp
            rw [List.drop_length] at hq3
            have hq4 : findB p.nodes n L = findB p.nodes n (L.drop (i + 1)) := hq3
            simp (decide := true) only [e2, vB, vI, drop0, row1_length, rows_length, cI, cB, cS, roI, ro64, hpin, go_sem, Nat.reduceAdd, Nat.reduceMul]
            refine ⟨i + 1, ⟨h', hq4⟩, by omega, Ent.weak ?_ ?_ ?_ ?_⟩
            all_goals simp (decide := true) [subT, subB, hereT, hereV, hereL, St.get, look, vI, vB, vS, cI, cS, cB, nodeC, roI, programC, w64s (n := L.length) h' (by omega)]
    · have hil : i = L.length := by omega
      subst hil
      have e : ((L.length : Int) < (L.length : Int)) = False := by simp
      rw [List.drop_length] at hq
      have hq4 : findB p.nodes n L = none := hq
      simp (decide := true) only [e, hq4, hnone, vB, vI, drop0, row1_length, rows_length, cI, cB, cS, roI, ro64, hpin, go_sem, Nat.reduceAdd, Nat.reduceMul]
      refine code_sound sized _ ?_
      simp (decide := true) only [hnone, drop0, row1_length, rows_length, cI, cB, cS, roI, ro64, hpin, go_sem, Nat.reduceAdd, Nat.reduceMul]
end Go.Proofs.YtaodmogcjpainaaDoor.AW
