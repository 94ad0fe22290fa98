/- Whether types are right, as the program tells it. No condition beyond those named. -/
import Derived.Test.YtnbodmohnkohfaaGreatDoorQi
namespace Go.Proofs.YtnbodmohnkohfaaGreatDoor.AW
open Go.RowKit
set_option maxHeartbeats 8000000
set_option maxRecDepth 100000
set_option linter.unusedSimpArgs false
set_option linter.unusedVariables false

noncomputable def fnTypesB (p : ProgramD) (i : Nat) : Bool := typesB p i && (downB p (typesL p i) (fAt p.fns i).body.toNat && (decide ((fAt p.fns i).ret < 0) || typeB p (typesL p i) (fAt p.fns i).ret == (fAt p.fns i).res))
noncomputable def typesRightB (p : ProgramD) : Bool := namesRightB p && rangeB (fnTypesB p) p.fns.length
theorem under_down {p : ProgramD} (l : List VarD) {b : Nat} (hd : dAt p.nodes b ≠ 0) : (underL p.nodes b).all (fun x => stB p l x.toNat) = downB p l b := by
  rw [Bool.eq_iff_iff, List.all_eq_true]
  unfold downB
  simp only [decide_eq_true_eq]
  constructor
  · intro h m hm
    have := h (m : Int) (by unfold underL; exact List.mem_map.2 ⟨m, (underN_mem hd).2 hm, rfl⟩)
    exact this
  · intro h x hx
    unfold underL at hx
    obtain ⟨m, hm, rfl⟩ := List.mem_map.1 hx
    exact h m ((underN_mem hd).1 hm)
theorem typesL_length (p : ProgramD) (fn : Int) (hpl : ∀ f ∈ p.fns, f.params.length ≤ 1048576) (hn : p.nodes.length ≤ 1048576) : (typesL p fn).length ≤ 2097152 := by
  unfold typesL; rw [typesP_length]; exact varsL_length p fn hpl hn

theorem typesRightI_sound (p : ProgramD) (hf : p.fns.length ≤ 1048576) (hn : p.nodes.length ≤ 1048576) (hk : ∀ x ∈ p.nodes, x.kids.length ≤ 1048576) (hpl : ∀ f ∈ p.fns, f.params.length ≤ 1048576) : Sound Tryz.prog 50 [.ro (programW p)] (fun rs st => rs = [(false, [cB (typesRightB p)])]) := by
  have hps := namesRightI_sound p hf hn hk hpl
  simp only [programW] at hps
  unfold typesRightB
  refine sound_tri (fn := Tryz.f50) (c := Tryz.f50.body.getD .skip) (res := [.tm 2]) (n := 58) sized (by kernel_rfl) (by rfl) (by kernel_rfl) (by rfl) (by rfl) (by simp [argsV]) (fun uf ub C hpin hpin2 hfull => ?_)
  simp only [Tryz.f50, Option.getD_some]
  refine Tri.step sized ?_
  simp (decide := true) only [drop0, row1_length, rows_length, programW, programC, cI, cB, cS, roI, ro64, hpin, go_sem, Nat.reduceAdd, Nat.reduceMul]
  refine Tri.ent ?_ (Ent.frb hfull 1)
  refine Tri.step sized ?_
  simp (decide := true) only [drop0, row1_length, rows_length, programW, programC, cI, cB, cS, roI, ro64, hpin, go_sem, Nat.reduceAdd, Nat.reduceMul]
  refine aCall_det hps hpin ?_
  cases h0 : namesRightB p with
  | false => simp (decide := true) only [Bool.false_and, drop0, row1_length, rows_length, programW, programC, cI, cB, cS, roI, ro64, hpin, go_sem, Nat.reduceAdd, Nat.reduceMul]
  | true =>
  have hG := programB_true (Bool.and_eq_true_iff.1 h0).1
  have hk3 : ∀ x ∈ p.nodes, x.kids.length ≤ 300 := fun x hx => by have := hG.deep.few x hx; omega
  simp (decide := true) only [Bool.true_and, drop0, row1_length, rows_length, programW, programC, cI, cB, cS, roI, ro64, hpin, go_sem, Nat.reduceAdd, Nat.reduceMul]
  refine Tri.step sized ?_
  simp (decide := true) only [drop0, row1_length, rows_length, programW, programC, cI, cB, cS, roI, ro64, hpin, go_sem, Nat.reduceAdd, Nat.reduceMul]
  refine Tri.loop (ι := Nat) (fun i => i ≤ p.fns.length ∧ rangeB (fnTypesB p) i = true) (fun i => ⟨58, [(1, .ip (programC true p) 0), (2, vB false), (13, .imm 80 (rows (fnC true) p.fns)), (14, vI p.fns.length), (15, vI i)], []⟩) (fun i => p.fns.length - i) 0 ⟨by simp, rfl⟩ ?_ ?_
  · refine Ent.weak ?_ ?_ ?_ ?_ <;> simp (decide := true) [subT, subB, hereT, hereV, hereL, St.get, look, vI, vB, vS, cI, cS, cB, nodeC, programC, roI]
  · rintro i ⟨hi, hq⟩
    refine code_sound sized _ ?_
    by_cases h' : i < p.fns.length
    · have e : ((i : Int) < (p.fns.length : Int)) = True := by simp [h']
      have hx : (rows (fnC true) p.fns).getD i [] = fnC true p.fns[i] := rows_get _ _ h'
      have hok := hG.fn i h'
      have hfe : fnTypesB p i = (typesB p i && (downB p (typesL p i) p.fns[i].body.toNat && (decide (p.fns[i].ret < 0) || typeB p (typesL p i) p.fns[i].ret == p.fns[i].res))) := by unfold fnTypesB; rw [fAt_nat h']
      obtain ⟨⟨b0, b1⟩, hret⟩ := fnOk_roots hok
      generalize p.fns[i] = g at hx hok hfe b0 b1 hret
      have hts := typesI_sound p h0 i h' hf hn hk hpl
      have hll := typesL_length p i hpl hn
      simp only [programW] at hts
      simp (decide := true) only [e, h', hx, fnC, Int.natCast_nonneg, programC, vB, vI, drop0, row1_length, rows_length, programW, programC, cI, cB, cS, roI, ro64, hpin, go_sem, Nat.reduceAdd, Nat.reduceMul]
      cases hB : typesB p i with
      | false =>
        have hff : rangeB (fnTypesB p) p.fns.length = false := rangeB_false h' (by rw [hfe, hB]; rfl)
        rw [hB] at hts
        simp only [if_false, Bool.false_eq_true] at hts
        refine aCall_det hts hpin ?_
        simp (decide := true) only [hff, drop0, row1_length, rows_length, programW, programC, cI, cB, cS, roI, ro64, hpin, go_sem, Nat.reduceAdd, Nat.reduceMul]
      | true =>
      rw [hB] at hts
      rw [hB, Bool.true_and] at hfe
      simp only [if_true] at hts
      refine aCall_det hts hpin ?_
      generalize typesL p i = l at hll hfe ⊢
      obtain ⟨b, hbb⟩ : ∃ b : Nat, g.body = b := ⟨g.body.toNat, by omega⟩
      have hbl : b < p.nodes.length := by omega
      have hun := under_sound p.nodes b (hG.deep.deep b hbl) hn hk
      have hud := under_down l (hG.deep.deep b hbl)
      have hum : ∀ j (hj : j < (underL p.nodes b).length), 0 ≤ (underL p.nodes b)[j] ∧ (underL p.nodes b)[j].toNat < p.nodes.length := fun j hj => by
        have hm := List.getElem_mem hj
        unfold underL at hm
        obtain ⟨m, hm, he⟩ := List.mem_map.1 hm
        have hm2 := ((underN_mem (hG.deep.deep b hbl)).1 hm).le (hG.deep.deep b hbl)
        unfold underL at hj ⊢
        rw [← he]
        constructor
        · omega
        · simp; omega
      rw [hbb] at hfe
      rw [show (b : Int).toNat = b by omega] at hfe
      simp (decide := true) only [hbb, drop0, row1_length, rows_length, programW, programC, cI, cB, cS, roI, ro64, hpin, go_sem, Nat.reduceAdd, Nat.reduceMul]
      refine aCall_det hun hpin ?_
      simp (decide := true) only [drop0, row1_length, rows_length, programW, programC, cI, cB, cS, roI, ro64, hpin, go_sem, Nat.reduceAdd, Nat.reduceMul]
      have hul : (underL p.nodes b).length ≤ b + 1 := by have := underN_length p.nodes b; simpa [underL] using this
      generalize underL p.nodes b = U at hud hum hul ⊢
      refine Tri.ent ?_ (Ent.frz hfull 5)
      refine Tri.ent ?_ (Ent.frb hfull 4)
      simp (decide := true) only [drop0, row1_length, rows_length, programW, programC, cI, cB, cS, roI, ro64, hpin, go_sem, Nat.reduceAdd, Nat.reduceMul]
      refine Tri.loop (ι := Nat) (fun j => j ≤ U.length ∧ (U.take j).all (fun x => stB p l x.toNat) = true) (fun j => ⟨58, [(1, .ip (programC true p) 0), (2, vB false), (3, vI i), (4, .ip [cS g.name, .row true 86 (rows (paramC true) g.params), cI g.res, cI b, cI g.ret] 0), (5, .imm 107 (rows (varC true) l)), (13, .imm 80 (rows (fnC true) p.fns)), (14, vI p.fns.length), (15, vI i), (32, .ref 3032 [] U.length), (33, vI U.length), (34, vI j)], [(3032, .row 3 (row1 cI U))]⟩) (fun j => U.length - j) 0 ⟨by simp, by simp⟩ ?_ ?_
      · refine Ent.weak ?_ ?_ ?_ ?_ <;> simp (decide := true) [subT, subB, hereT, hereV, hereL, St.get, look, vI, vB, vS, cI, cS, cB, nodeC, programC, roI]
      · rintro j ⟨hj, hq2⟩
        refine code_sound sized _ ?_
        by_cases hj' : j < U.length
        · have e2 : ((j : Int) < (U.length : Int)) = True := by simp [hj']
          obtain ⟨g0, g1⟩ := hum j hj'
          obtain ⟨m, hm⟩ : ∃ m : Nat, U[j] = m := ⟨U[j].toNat, by omega⟩
          have hml : m < p.nodes.length := by omega
          have hsr := stepRI_sound p hG.deep l (by omega) hf hn hk3 m hml
          have hUj : stB p l U[j].toNat = stB p l m := by rw [hm]; rfl
          simp only [programW] at hsr
          simp (decide := true) only [e2, hj', row1_getq' _ _ hj', hm, Int.natCast_nonneg, programC, vB, vI, drop0, row1_length, rows_length, programW, programC, cI, cB, cS, roI, ro64, hpin, go_sem, Nat.reduceAdd, Nat.reduceMul]
          refine aCall_det hsr hpin ?_
          cases hc : stB p l m with
          | false =>
            have hff2 : U.all (fun x => stB p l x.toNat) = false := by rw [List.all_eq_false]; exact ⟨U[j], List.getElem_mem hj', by rw [hUj, hc]; decide⟩
            rw [hud] at hff2
            rw [hff2, Bool.false_and] at hfe
            have hff : rangeB (fnTypesB p) p.fns.length = false := rangeB_false h' hfe
            simp (decide := true) only [hff, drop0, row1_length, rows_length, programW, programC, cI, cB, cS, roI, ro64, hpin, go_sem, Nat.reduceAdd, Nat.reduceMul]
          | true =>
            simp (decide := true) only [drop0, row1_length, rows_length, programW, programC, cI, cB, cS, roI, ro64, hpin, go_sem, Nat.reduceAdd, Nat.reduceMul]
            refine ⟨j + 1, ⟨hj', by rw [all_take hj', hq2, hUj, hc]; rfl⟩, by omega, Ent.weak ?_ ?_ ?_ ?_⟩
            all_goals simp (decide := true) [subT, subB, hereT, hereV, hereL, St.get, look, vI, vB, vS, cI, cS, cB, nodeC, programC, roI, w64s (n := U.length) hj' (by omega)]
        · have hjl : j = U.length := by omega
          subst hjl
          have e2 : ((U.length : Int) < (U.length : Int)) = False := by simp
          rw [List.take_length, hud] at hq2
          rw [hq2, Bool.true_and] at hfe
          simp (decide := true) only [e2, programC, vB, vI, drop0, row1_length, rows_length, programW, programC, cI, cB, cS, roI, ro64, hpin, go_sem, Nat.reduceAdd, Nat.reduceMul]
          refine Tri.sched sized [(0, false), (1, false), (2, false), (3, false), (5, true), (6, true), (9, true), (4, true), (7, true), (10, true), (8, false), (11, false), (12, false)] mixed (by kernel_rfl) (fun C2 hC2 => ?_)
          have hp2 : ∀ o, isPin o = false → C2.pin o = none := by rw [hC2]; exact hpin
          rcases hret with hneg | ⟨x0, x1⟩
          · have y0 : (0 ≤ g.ret) = False := eq_false (by omega)
            have y1 : decide (g.ret < 0) = true := decide_eq_true hneg
            rw [y1, Bool.true_or] at hfe
            simp (decide := true) only [y0, ge_iff_le, drop0, row1_length, rows_length, programW, programC, cI, cB, cS, roI, ro64, hp2, hpin, go_sem, Nat.reduceAdd, Nat.reduceMul]
            refine ⟨i + 1, ⟨h', by rw [rangeB_succ, hq, hfe]; rfl⟩, by omega, Ent.weak ?_ ?_ ?_ ?_⟩
            all_goals simp (decide := true) [subT, subB, hereT, hereV, hereL, St.get, look, vI, vB, vS, cI, cS, cB, nodeC, programC, roI, w64s (n := p.fns.length) h' (by omega)]
          · have y0 : (0 ≤ g.ret) = True := eq_true x0
            have y1 : decide (g.ret < 0) = false := decide_eq_false (by omega)
            rw [y1, Bool.false_or] at hfe
            obtain ⟨r, hrr⟩ : ∃ r : Nat, g.ret = r := ⟨g.ret.toNat, by omega⟩
            have hrl : r < p.nodes.length := by omega
            have hty := typeI_sound p hG.deep l (by omega) hf hn hk3 r hrl
            rw [hrr] at hfe
            simp only [programW] at hty
            simp (decide := true) only [y0, hrr, ge_iff_le, Int.natCast_nonneg, drop0, row1_length, rows_length, programW, programC, cI, cB, cS, roI, ro64, hp2, go_sem, Nat.reduceAdd, Nat.reduceMul]
            refine aCall_det hty hp2 ?_
            cases g2 : typeB p l r == g.res with
            | false =>
              rw [g2] at hfe
              have hff : rangeB (fnTypesB p) p.fns.length = false := rangeB_false h' hfe
              simp (decide := true) only [g2, hff, bne, drop0, row1_length, rows_length, programW, programC, cI, cB, cS, roI, ro64, hp2, hpin, go_sem, Nat.reduceAdd, Nat.reduceMul]
            | true =>
              rw [g2] at hfe
              simp (decide := true) only [g2, bne, drop0, row1_length, rows_length, programW, programC, cI, cB, cS, roI, ro64, hp2, hpin, go_sem, Nat.reduceAdd, Nat.reduceMul]
              refine ⟨i + 1, ⟨h', by rw [rangeB_succ, hq, hfe]; rfl⟩, by omega, Ent.weak ?_ ?_ ?_ ?_⟩
              all_goals simp (decide := true) [subT, subB, hereT, hereV, hereL, St.get, look, vI, vB, vS, cI, cS, cB, nodeC, programC, roI, w64s (n := p.fns.length) h' (by omega)]
    · have hil : i = p.fns.length := by omega
      subst hil
      have e : ((p.fns.length : Int) < (p.fns.length : Int)) = False := by simp
      simp (decide := true) only [e, vB, vI, drop0, row1_length, rows_length, programW, programC, cI, cB, cS, roI, ro64, hpin, go_sem, Nat.reduceAdd, Nat.reduceMul]
      refine code_sound sized _ ?_
      simp (decide := true) only [hq, drop0, row1_length, rows_length, programW, programC, cI, cB, cS, roI, ro64, hpin, go_sem, Nat.reduceAdd, Nat.reduceMul]
end Go.Proofs.YtnbodmohnkohfaaGreatDoor.AW
