/- Whether names are right, as the reference tells it. No condition beyond those named. -/
import Derived.Test.YtnbodmohnkohfaaGreatDoorQn
namespace Go.Proofs.YtnbodmohnkohfaaGreatDoor.AW
open Go.RowKit
set_option maxHeartbeats 8000000
set_option maxRecDepth 100000
set_option linter.unusedSimpArgs false
set_option linter.unusedVariables false

/-- Names in sight behind a block are as many as there are statements, at most; all is looked at. -/
theorem namesRightS_sound (p : ProgramD) (hf : p.fns.length ≤ 1048576) (hn : p.nodes.length ≤ 1048576) (hk : ∀ x ∈ p.nodes, x.kids.length ≤ 1048576) (hpl : ∀ f ∈ p.fns, f.params.length ≤ 1048576) : Sound Tryz.prog 75 [.ro (programW p)] (fun rs st => rs = [(false, [cB (namesRightB p)])]) := by
  have hps := programS_sound p hf hn hk hpl
  have hvs := fun fn => varsS_sound p fn hf hn hk hpl
  have hvl := fun fn => varsL_length p fn hpl hn
  simp only [programW] at hps hvs
  unfold namesRightB
  refine sound_tri (fn := Tryz.f75) (c := Tryz.f75.body.getD .skip) (res := [.tm 2]) (n := 97) sized (by kernel_rfl) (by rfl) (by kernel_rfl) (by rfl) (by rfl) (by simp [argsV]) (fun uf ub C hpin hpin2 hfull => ?_)
  simp only [Tryz.f75, Option.getD_some]
  refine Tri.step sized ?_
  simp (decide := true) only [drop0, row1_length, rows_length, programW, programC, seenC, cI, cB, cS, roI, ro64, hpin, go_sem, Nat.reduceAdd, Nat.reduceMul]
  refine Tri.ent ?_ (Ent.frb hfull 1)
  refine Tri.step sized ?_
  simp (decide := true) only [drop0, row1_length, rows_length, programW, programC, seenC, cI, cB, cS, roI, ro64, hpin, go_sem, Nat.reduceAdd, Nat.reduceMul]
  refine aCall_det hps hpin ?_
  cases h0 : programB p with
  | false => simp (decide := true) only [Bool.false_and, drop0, row1_length, rows_length, programW, programC, seenC, cI, cB, cS, roI, ro64, hpin, go_sem, Nat.reduceAdd, Nat.reduceMul]
  | true =>
  have hG := programB_true h0
  simp (decide := true) only [Bool.true_and, drop0, row1_length, rows_length, programW, programC, seenC, cI, cB, cS, roI, ro64, hpin, go_sem, Nat.reduceAdd, Nat.reduceMul]
  refine Tri.step sized ?_
  simp (decide := true) only [drop0, row1_length, rows_length, programW, programC, seenC, cI, cB, cS, roI, ro64, hpin, go_sem, Nat.reduceAdd, Nat.reduceMul]
  refine Tri.loop (ι := Nat) (fun i => i ≤ p.fns.length ∧ rangeB (fnNamesB p) i = true) (fun i => ⟨97, [(1, .ip (programC true p) 0), (2, vB false), (3, vI i)], []⟩) (fun i => p.fns.length - i) 0 ⟨by simp, rfl⟩ ?_ ?_
  · refine Ent.weak ?_ ?_ ?_ ?_ <;> simp (decide := true) [subT, subB, hereT, hereV, hereL, St.get, look, vI, vB, vS, cI, cS, cB, nodeC, programC, seenC, roI]
  · rintro i ⟨hi, hq⟩
    refine code_sound sized _ ?_
    by_cases h' : i < p.fns.length
    · have e : ((i : Int) < (p.fns.length : Int)) = True := by simp [h']
      have hx : (rows (fnC true) p.fns).getD i [] = fnC true p.fns[i] := rows_get _ _ h'
      have hok := hG.fn i h'
      have hfe : fnNamesB p i = (namesB p i && (seenB p i p.fns[i].body (parN p.fns[i].params) && (decide (p.fns[i].ret < 0) || seenB p i p.fns[i].ret (growL p.nodes (parN p.fns[i].params) (nAt p.nodes p.fns[i].body).kids)))) := by unfold fnNamesB; rw [fAt_nat h']
      have hplx := hpl p.fns[i] (List.getElem_mem h')
      have hp3 := fnOk_params hok
      obtain ⟨⟨b0, b1⟩, hret⟩ := fnOk_roots hok
      have hbk : (nAt p.nodes p.fns[i].body).kind == 20 := by
        simp only [fnOkB, Bool.and_eq_true, fnBodyB] at hok
        exact hok.2.2.2.2.1.2
      have hrk : ¬ p.fns[i].ret < 0 → isValB (nAt p.nodes p.fns[i].ret).kind = true := fun hnr => by
        simp only [fnOkB, Bool.and_eq_true] at hok
        have hr := hok.2.2.2.2.2
        unfold fnRetB at hr
        split at hr
        · have := eq_of_beq hr; omega
        · exact (Bool.and_eq_true_iff.1 hr).2
      generalize p.fns[i] = g at hx hok hfe hplx hp3 b0 b1 hret hbk hrk
      have hvs1 := hvs i
      have hvl1 := hvl i
      unfold namesB at hfe
      simp (decide := true) only [e, Int.natCast_nonneg, programC, vB, vI, drop0, row1_length, rows_length, programW, programC, seenC, cI, cB, cS, roI, ro64, hpin, go_sem, Nat.reduceAdd, Nat.reduceMul]
      refine aCall_det hvs1 hpin ?_
      generalize varsL p i = l at hvl1 hfe ⊢
      have hva := fun s => varAtS_sound l s (by omega)
      have htl := rows_takeL (varC false) l
      have htl2 := rows_takeL (varC true) l
      simp (decide := true) only [drop0, row1_length, rows_length, programW, programC, seenC, cI, cB, cS, roI, ro64, hpin, go_sem, Nat.reduceAdd, Nat.reduceMul]
      refine Tri.loop (ι := Nat) (fun j => j ≤ l.length ∧ rangeB (onceV l) j = true) (fun j => ⟨97, [(1, .ip (programC true p) 0), (2, vB false), (3, vI i), (4, .ref 4 [] l.length), (5, vI j)], [(4, .row 107 (rows (varC false) l))]⟩) (fun j => l.length - j) 0 ⟨by simp, rfl⟩ ?_ ?_
      · refine Ent.weak ?_ ?_ ?_ ?_ <;> simp (decide := true) [subT, subB, hereT, hereV, hereL, St.get, look, vI, vB, vS, cI, cS, cB, nodeC, programC, seenC, roI]
      · rintro j ⟨hj, hq2⟩
        refine code_sound sized _ ?_
        by_cases hj' : j < l.length
        · have e2 : ((j : Int) < (l.length : Int)) = True := by simp [hj']
          have hov : onceV l j = (varAtP l l[j].name == (j : Int)) := by simp [onceV, List.getD, hj']
          simp (decide := true) only [e2, hj', rows_getq _ _ hj', rows_get _ _ hj', varC, htl, htl2, Int.natCast_nonneg, vB, vI, drop0, row1_length, rows_length, programW, programC, seenC, cI, cB, cS, roI, ro64, hpin, go_sem, Nat.reduceAdd, Nat.reduceMul]
          refine aCall_det (hva l[j].name) hpin ?_
          cases hz : varAtP l l[j].name == (j : Int) with
          | false =>
            have hff : rangeB (onceV l) l.length = false := rangeB_false hj' (by rw [hov, hz])
            rw [hff, Bool.false_and] at hfe
            have hff2 : rangeB (fnNamesB p) p.fns.length = false := rangeB_false h' hfe
            simp (decide := true) only [hz, hff2, bne, htl, htl2, drop0, row1_length, rows_length, programW, programC, seenC, cI, cB, cS, roI, ro64, hpin, go_sem, Nat.reduceAdd, Nat.reduceMul]
          | true =>
            simp (decide := true) only [hz, bne, htl, htl2, drop0, row1_length, rows_length, programW, programC, seenC, cI, cB, cS, roI, ro64, hpin, go_sem, Nat.reduceAdd, Nat.reduceMul]
            refine ⟨j + 1, ⟨hj', by rw [rangeB_succ, hq2, hov, hz]; rfl⟩, by omega, Ent.weak ?_ ?_ ?_ ?_⟩
            all_goals simp (decide := true) [subT, subB, hereT, hereV, hereL, St.get, look, vI, vB, vS, cI, cS, cB, nodeC, programC, seenC, roI, w64s (n := l.length) hj' (by omega)]
        · have hjl : j = l.length := by omega
          subst hjl
          have e2 : ((l.length : Int) < (l.length : Int)) = False := by simp
          rw [hq2, Bool.true_and] at hfe
          simp (decide := true) only [e2, vB, vI, drop0, row1_length, rows_length, programW, programC, seenC, cI, cB, cS, roI, ro64, hpin, go_sem, Nat.reduceAdd, Nat.reduceMul]
          refine Tri.ent ?_ (Ent.nilr 39 3 9)
          simp (decide := true) only [drop0, row1_length, rows_length, programW, programC, seenC, cI, cB, cS, roI, ro64, hpin, go_sem, Nat.reduceAdd, Nat.reduceMul]
          refine Tri.last (fun s => St.shb s 39) (fun s => Ent.shb hfull 39) ?_
          refine Tri.loop (ι := Nat) (fun j => j ≤ g.params.length) (fun j => ⟨97, [(1, .ip (programC true p) 0), (2, vB false), (3, vI i), (6, .bp 39 0), (7, vI j)], [(39, .box [.row true 60 (rows (nodeC true) p.nodes), .row true 80 (rows (fnC true) p.fns), cI i, .row false 9 (row1 cS (parN (g.params.take j))), cB false])]⟩) (fun j => g.params.length - j) 0 (by simp) ?_ ?_
          · refine Ent.weak ?_ ?_ ?_ ?_ <;> simp (decide := true) [subT, subB, hereT, hereV, hereL, St.get, look, vI, vB, vS, cI, cS, cB, nodeC, programC, seenC, roI, parN, row1]
          · rintro j hj
            refine code_sound sized _ ?_
            by_cases hj' : j < g.params.length
            · have e3 : ((j : Int) < (g.params.length : Int)) = True := by simp [hj']
              have hy : (rows (paramC true) g.params).getD j [] = paramC true g.params[j] := rows_get _ _ hj'
              have hsn := parN_next hj'
              have hll : (parN (g.params.take j)).length ≤ 3 := by rw [parN_length, List.length_take]; omega
              have hl2 : (parN (g.params.take (j + 1))).length = (parN (g.params.take j)).length + 1 := by rw [parN_length, parN_length, List.length_take, List.length_take]; omega
              have htk := row1_takeL cS (parN (g.params.take j))
              have hb1 : (parN (g.params.take j)).length + 1 ≤ 140737488355328 := by omega
              have hb2 : ((parN (g.params.take j)).length + 1) * 16 ≤ 140737488355328 := by omega
              simp only [cS] at hsn
              simp (decide := true) only [e, e3, hx, fnC, Int.natCast_nonneg, vB, vI, drop0, row1_length, rows_length, programW, programC, seenC, cI, cB, cS, roI, ro64, hpin, go_sem, Nat.reduceAdd, Nat.reduceMul]
              refine Tri.fork sized (.one 0 true (.one 1 true (.one 2 true (.one 3 true (.one 5 true (.one 7 true (.one 11 true (.one 6 true (.one 8 true (.one 9 true (.one 10 true (.one 12 true (.one 13 true (.one 14 true (.two 4 (.one 15 false (.one 16 false (.one 17 false (.one 18 false (.one 19 false .done))))) 15 (.one 4 false (.one 16 false (.one 17 false (.one 18 false (.one 19 false .done)))))))))))))))))))) mixed (by kernel_rfl) (fun C2 hC2 => ?_)
              have hp2 : ∀ o, isPin o = false → C2.pin o = none := by rw [hC2]; exact hpin
              simp (decide := true) only [e, e3, hx, hy, paramC, fnC, htk, hsn, hb1, hb2, hl2, Int.natCast_nonneg, vB, vI, drop0, row1_length, rows_length, programW, programC, seenC, cI, cB, cS, roI, ro64, hp2, hpin, go_sem, Nat.reduceAdd, Nat.reduceMul]
              refine ⟨?_, ?_⟩ <;> refine ⟨j + 1, hj', by omega, Ent.weak ?_ ?_ ?_ ?_⟩
              all_goals simp (decide := true) [subT, subB, hereT, hereV, hereL, St.get, look, vI, vB, vS, cI, cS, cB, nodeC, programC, seenC, roI, hl2, w64s (n := g.params.length) hj' (by omega)]
            · have hjl : j = g.params.length := by omega
              subst hjl
              have e3 : ((g.params.length : Int) < (g.params.length : Int)) = False := by simp
              have hnl : (parN g.params).length ≤ 3 := by rw [parN_length]; omega
              obtain ⟨b, hbb⟩ : ∃ b : Nat, g.body = b := ⟨g.body.toNat, by omega⟩
              have hbl : b < p.nodes.length := by omega
              have hk3 : ∀ x ∈ p.nodes, x.kids.length ≤ 300 := fun x hx => by have := hG.deep.few x hx; omega
              have hkf := hG.deep.few p.nodes[b] (List.getElem_mem hbl)
              have hfew := hG.few
              have hblk := (look_all p hG.deep i h' hf hn hk3 b hbl).2
              unfold BlockAt at hblk
              rw [hbb] at hbk hfe
              have hgl := growL_length p.nodes (nAt p.nodes b).kids (parN g.params)
              rw [nAt_nat hbl] at hgl
              have hs1 := hblk hbk (parN g.params) false (by omega)
              rw [nAt_nat hbl] at hs1 hfe
              generalize hnm : parN g.params = nm0 at hnl hfe hgl hs1 ⊢
              generalize growL p.nodes nm0 p.nodes[b].kids = L at hfe hgl hs1
              have hvs := fun r hr hv => value_sound p hG.deep i h' hf hn hk3 L (by omega) r hr hv (false || !seenB p i b nm0)
              generalize seenB p i b nm0 = B1 at hfe hs1 hvs
              simp only [seenC, cI, cB, Bool.false_or] at hs1 hvs
              simp (decide := true) only [e, e3, hx, fnC, hbb, hnm, List.take_length, Int.natCast_nonneg, vB, vI, drop0, row1_length, rows_length, programW, programC, seenC, cI, cB, cS, roI, ro64, hpin, go_sem, Nat.reduceAdd, Nat.reduceMul]
              refine aCall_bxd hs1 hpin hfull [(2000, 39)] [] [(2000, 39)] ⟨rfl, rfl, rfl, rfl⟩ (fun uf => ?_) ?_
              · simp (decide := true) only [drop0, row1_length, rows_length, programW, programC, seenC, cI, cB, cS, roI, ro64, hpin, go_sem, Nat.reduceAdd, Nat.reduceMul]
              rcases hret with hneg | ⟨x0, x1⟩
              · have y0 : (0 ≤ g.ret) = False := eq_false (by omega)
                have y1 : decide (g.ret < 0) = true := decide_eq_true hneg
                rw [y1, Bool.true_or, Bool.and_true] at hfe
                simp (decide := true) only [e, hx, fnC, y0, Int.natCast_nonneg, drop0, row1_length, rows_length, programW, programC, seenC, cI, cB, cS, roI, ro64, hpin, go_sem, Nat.reduceAdd, Nat.reduceMul]
                cases B1 with
                | false =>
                  have hff : rangeB (fnNamesB p) p.fns.length = false := rangeB_false h' hfe
                  simp (decide := true) only [hff, drop0, row1_length, rows_length, programW, programC, seenC, cI, cB, cS, roI, ro64, hpin, go_sem, Nat.reduceAdd, Nat.reduceMul]
                | true =>
                  simp (decide := true) only [drop0, row1_length, rows_length, programW, programC, seenC, cI, cB, cS, roI, ro64, hpin, go_sem, Nat.reduceAdd, Nat.reduceMul]
                  refine ⟨i + 1, ⟨h', by rw [rangeB_succ, hq, hfe]; rfl⟩, by omega, Ent.weak ?_ ?_ ?_ ?_⟩
                  all_goals simp (decide := true) [subT, subB, hereT, hereV, hereL, St.get, look, vI, vB, vS, cI, cS, cB, nodeC, programC, seenC, roI, w64s (n := p.fns.length) h' (by omega)]
              · have y0 : (0 ≤ g.ret) = True := eq_true x0
                have y1 : decide (g.ret < 0) = false := decide_eq_false (by omega)
                rw [y1, Bool.false_or] at hfe
                obtain ⟨r, hrr⟩ : ∃ r : Nat, g.ret = r := ⟨g.ret.toNat, by omega⟩
                have hrl : r < p.nodes.length := by omega
                have hrk2 := hrk (by omega)
                rw [hrr] at hfe hrk2
                have hs2 := hvs r hrl hrk2
                generalize seenB p i r L = B2 at hfe hs2
                simp (decide := true) only [e, hx, fnC, y0, hrr, Int.natCast_nonneg, drop0, row1_length, rows_length, programW, programC, seenC, cI, cB, cS, roI, ro64, hpin, go_sem, Nat.reduceAdd, Nat.reduceMul]
                refine aCall_bxd hs2 hpin hfull [(2000, 39)] [] [(2000, 39)] ⟨rfl, rfl, rfl, rfl⟩ (fun uf => ?_) ?_
                · simp (decide := true) only [drop0, row1_length, rows_length, programW, programC, seenC, cI, cB, cS, roI, ro64, hpin, go_sem, Nat.reduceAdd, Nat.reduceMul]
                have hB : (!B1 || !B2) = !(B1 && B2) := by cases B1 <;> cases B2 <;> rfl
                rw [hB]
                generalize (B1 && B2) = B3 at hfe ⊢
                cases B3 with
                | false =>
                  have hff : rangeB (fnNamesB p) p.fns.length = false := rangeB_false h' hfe
                  simp (decide := true) only [hff, drop0, row1_length, rows_length, programW, programC, seenC, cI, cB, cS, roI, ro64, hpin, go_sem, Nat.reduceAdd, Nat.reduceMul]
                | true =>
                  simp (decide := true) only [drop0, row1_length, rows_length, programW, programC, seenC, cI, cB, cS, roI, ro64, hpin, go_sem, Nat.reduceAdd, Nat.reduceMul]
                  refine ⟨i + 1, ⟨h', by rw [rangeB_succ, hq, hfe]; rfl⟩, by omega, Ent.weak ?_ ?_ ?_ ?_⟩
                  all_goals simp (decide := true) [subT, subB, hereT, hereV, hereL, St.get, look, vI, vB, vS, cI, cS, cB, nodeC, programC, seenC, roI, w64s (n := p.fns.length) h' (by omega)]
    · have hil : i = p.fns.length := by omega
      subst hil
      have e : ((p.fns.length : Int) < (p.fns.length : Int)) = False := by simp
      simp (decide := true) only [e, vB, vI, drop0, row1_length, rows_length, programW, programC, seenC, cI, cB, cS, roI, ro64, hpin, go_sem, Nat.reduceAdd, Nat.reduceMul]
      refine code_sound sized _ ?_
      simp (decide := true) only [hq, drop0, row1_length, rows_length, programW, programC, seenC, cI, cB, cS, roI, ro64, hpin, go_sem, Nat.reduceAdd, Nat.reduceMul]
end Go.Proofs.YtnbodmohnkohfaaGreatDoor.AW
