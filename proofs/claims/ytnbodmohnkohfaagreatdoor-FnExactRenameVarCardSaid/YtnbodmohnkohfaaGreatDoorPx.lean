/- Whether names are right, as the program tells it. No condition beyond those named. -/
import Derived.Test.YtnbodmohnkohfaaGreatDoorPw
namespace Go.Proofs.YtnbodmohnkohfaaGreatDoor.AW
open Go.RowKit
set_option maxHeartbeats 8000000
set_option maxRecDepth 100000
set_option linter.unusedSimpArgs false
set_option linter.unusedVariables false

def vr0 : VarD := ⟨⟨#[]⟩, 0, 0⟩
def onceV (l : List VarD) (i : Nat) : Bool := varAtP l (l.getD i vr0).name == (i : Int)
noncomputable def namesB (p : ProgramD) (fn : Int) : Bool := rangeB (onceV (varsL p fn)) (varsL p fn).length
def parN (l : List ParamD) : List ByteArray := l.map (fun x => x.name)
def growL (nodes : List NodeD) (nm : List ByteArray) (l : List Int) : List ByteArray := l.foldl (growN nodes true) nm
noncomputable def fnNamesB (p : ProgramD) (i : Nat) : Bool := namesB p i && (seenB p i (fAt p.fns i).body (parN (fAt p.fns i).params) && (decide ((fAt p.fns i).ret < 0) || seenB p i (fAt p.fns i).ret (growL p.nodes (parN (fAt p.fns i).params) (nAt p.nodes (fAt p.fns i).body).kids)))
noncomputable def namesRightB (p : ProgramD) : Bool := programB p && rangeB (fnNamesB p) p.fns.length
theorem varsL_length (p : ProgramD) (fn : Int) (hpl : ∀ f ∈ p.fns, f.params.length ≤ 1048576) (hn : p.nodes.length ≤ 1048576) : (varsL p fn).length ≤ 2097152 := by
  unfold varsL
  split
  · rename_i h0
    have hr := inI_true h0
    obtain ⟨f, rfl⟩ : ∃ f : Nat, fn = f := ⟨fn.toNat, by omega⟩
    have hfl : f < p.fns.length := by omega
    rw [fAt_nat hfl, List.length_append, pars_length]
    have h1 := hpl p.fns[f] (List.getElem_mem hfl)
    have h2 := lets_length p.nodes (underP p.nodes p.fns[f].body)
    have h3 := underP_length p.nodes p.fns[f].body
    omega
  · simp
theorem Deep.few {nodes : List NodeD} (h : Deep nodes) : ∀ x ∈ nodes, x.kids.length ≤ 12 := fun x hx => by
  obtain ⟨i, hi, rfl⟩ := List.getElem_of_mem hx
  have hb := dAt_node nodes i (h.deep i hi)
  simp only [nodeB, Bool.and_eq_true, nodeXB] at hb
  obtain ⟨_, _, hs, _⟩ := hb
  rw [nAt_nat hi] at hs
  have h1 := inI_true hs
  have h2 := shape_le nodes[i].kind
  omega
structure Right (p : ProgramD) : Prop where
  few : p.nodes.length ≤ 300
  fns : p.fns.length ≤ 8
  deep : Deep p.nodes
  fn : ∀ i (h : i < p.fns.length), fnOkB p p.fns[i] = true
theorem programB_true {p : ProgramD} (h : programB p = true) : Right p := by
  simp only [programB, Bool.and_eq_true] at h
  obtain ⟨h0, h1, h2, h3, h4⟩ := h
  have hr0 := inI_true h0
  have hr1 := inI_true h1
  refine ⟨by omega, by omega, deep_of (by simpa using h2), fun i hi => ?_⟩
  have := rangeB_true.1 h3 i hi
  unfold fnRightB at this
  rw [fAt_nat hi] at this
  exact (Bool.and_eq_true_iff.1 this).1
theorem fnOk_params {p : ProgramD} {f : FnD} (h : fnOkB p f = true) : f.params.length ≤ 3 := by
  simp only [fnOkB, Bool.and_eq_true] at h
  have := of_decide_eq_true h.2.1
  omega
theorem parN_next {l : List ParamD} {i : Nat} (h : i < l.length) : row1 cS (parN (l.take i)) ++ [[cS l[i].name]] = row1 cS (parN (l.take (i + 1))) := by
  unfold parN
  rw [List.take_succ_eq_append_getElem h, List.map_append, strs_snoc]; rfl
theorem parN_length (l : List ParamD) : (parN l).length = l.length := by simp [parN]
theorem growL_next (nodes : List NodeD) (nm : List ByteArray) {l : List Int} {i : Nat} (h : i < l.length) : growL nodes nm (l.take (i + 1)) = growN nodes true (growL nodes nm (l.take i)) l[i] := by
  unfold growL
  rw [List.take_succ_eq_append_getElem h, List.foldl_append]; rfl
theorem growL_length (nodes : List NodeD) : ∀ (l : List Int) (nm : List ByteArray), (growL nodes nm l).length ≤ nm.length + l.length
  | [], nm => by simp [growL]
  | k :: r, nm => by
    have h1 := growL_length nodes r (growN nodes true nm k)
    have h2 := growN_length nodes true nm k
    unfold growL at h1 ⊢
    rw [List.foldl_cons, List.length_cons]; omega

theorem namesOf_sound (p : ProgramD) (fn : Int) (hf : p.fns.length ≤ 1048576) (hn : p.nodes.length ≤ 1048576) (hk : ∀ x ∈ p.nodes, x.kids.length ≤ 1048576) (hpl : ∀ f ∈ p.fns, f.params.length ≤ 1048576) : Sound Tryz.prog 136 [.ro (programW p), .ro (.sc (.int .i64 fn))] (fun rs st => rs = [(false, [cB (namesB p fn)])]) := by
  have hvs := varsI_sound p fn hf hn hk hpl
  have hvl := varsL_length p fn hpl hn
  unfold namesB
  generalize varsL p fn = l at hvs hvl ⊢
  have hva := fun s => varAtI_sound l s (by omega)
  simp only [programW] at hvs
  refine sound_tri (fn := Tryz.f136) (c := Tryz.f136.body.getD .skip) (res := [.tm 4]) (n := 25) sized (by kernel_rfl) (by rfl) (by kernel_rfl) (by rfl) (by rfl) (by simp [argsV]) (fun uf ub C hpin hpin2 hfull => ?_)
  simp only [Tryz.f136, Option.getD_some]
  refine Tri.step sized ?_
  simp (decide := true) only [drop0, row1_length, rows_length, programW, programC, cI, cB, cS, roI, ro64, hpin, go_sem, Nat.reduceAdd, Nat.reduceMul]
  refine Tri.ent ?_ (Ent.frb hfull 2)
  refine Tri.step sized ?_
  simp (decide := true) only [drop0, row1_length, rows_length, programW, programC, cI, cB, cS, roI, ro64, hpin, go_sem, Nat.reduceAdd, Nat.reduceMul]
  refine aCall_det hvs hpin ?_
  simp (decide := true) only [drop0, row1_length, rows_length, programW, programC, cI, cB, cS, roI, ro64, hpin, go_sem, Nat.reduceAdd, Nat.reduceMul]
  refine Tri.ent ?_ (Ent.frz hfull 5)
  refine Tri.step sized ?_
  simp (decide := true) only [drop0, row1_length, rows_length, programW, programC, cI, cB, cS, roI, ro64, hpin, go_sem, Nat.reduceAdd, Nat.reduceMul]
  refine Tri.loop (ι := Nat) (fun i => i ≤ l.length ∧ rangeB (onceV l) i = true) (fun i => ⟨25, [(4, vB false), (5, .imm 107 (rows (varC true) l)), (11, .imm 107 (rows (varC true) l)), (12, vI l.length), (13, vI i)], []⟩) (fun i => l.length - i) 0 ⟨by simp, rfl⟩ ?_ ?_
  · refine Ent.weak ?_ ?_ ?_ ?_ <;> simp (decide := true) [subT, subB, hereT, hereV, hereL, St.get, look, vI, vB, vS, cI, cS, cB, nodeC, roI]
  · rintro i ⟨hi, hq⟩
    refine code_sound sized _ ?_
    by_cases h' : i < l.length
    · have e : ((i : Int) < (l.length : Int)) = True := by simp [h']
      have hov : onceV l i = (varAtP l l[i].name == (i : Int)) := by simp [onceV, List.getD, h']
      simp (decide := true) only [e, h', rows_get _ _ h', varC, Int.natCast_nonneg, vB, vI, drop0, row1_length, rows_length, programW, programC, cI, cB, cS, roI, ro64, hpin, go_sem, Nat.reduceAdd, Nat.reduceMul]
      refine aCall_det (hva l[i].name) hpin ?_
      cases hz : varAtP l l[i].name == (i : Int) with
      | false =>
        have hff : rangeB (onceV l) l.length = false := rangeB_false h' (by rw [hov, hz])
        simp (decide := true) only [hz, hff, bne, drop0, row1_length, rows_length, programW, programC, cI, cB, cS, roI, ro64, hpin, go_sem, Nat.reduceAdd, Nat.reduceMul]
      | true =>
        simp (decide := true) only [hz, bne, drop0, row1_length, rows_length, programW, programC, cI, cB, cS, roI, ro64, hpin, go_sem, Nat.reduceAdd, Nat.reduceMul]
        refine ⟨i + 1, ⟨h', by rw [rangeB_succ, hq, hov, hz]; rfl⟩, by omega, Ent.weak ?_ ?_ ?_ ?_⟩
        all_goals simp (decide := true) [subT, subB, hereT, hereV, hereL, St.get, look, vI, vB, vS, cI, cS, cB, nodeC, roI, w64s (n := l.length) h' (by omega)]
    · have hil : i = l.length := by omega
      subst hil
      have e : ((l.length : Int) < (l.length : Int)) = False := by simp
      simp (decide := true) only [e, vB, vI, drop0, row1_length, rows_length, programW, programC, cI, cB, cS, roI, ro64, hpin, go_sem, Nat.reduceAdd, Nat.reduceMul]
      refine code_sound sized _ ?_
      simp (decide := true) only [hq, drop0, row1_length, rows_length, programW, programC, cI, cB, cS, roI, ro64, hpin, go_sem, Nat.reduceAdd, Nat.reduceMul]
theorem namesRightI_sound (p : ProgramD) (hf : p.fns.length ≤ 1048576) (hn : p.nodes.length ≤ 1048576) (hk : ∀ x ∈ p.nodes, x.kids.length ≤ 1048576) (hpl : ∀ f ∈ p.fns, f.params.length ≤ 1048576) : Sound Tryz.prog 80 [.ro (programW p)] (fun rs st => rs = [(false, [cB (namesRightB p)])]) := by
  have hps := programI_sound p hf hn hk hpl
  have hns := fun fn => namesOf_sound p fn hf hn hk hpl
  simp only [programW] at hps hns
  unfold namesRightB
  refine sound_tri (fn := Tryz.f80) (c := Tryz.f80.body.getD .skip) (res := [.tm 2]) (n := 87) sized (by kernel_rfl) (by rfl) (by kernel_rfl) (by rfl) (by rfl) (by simp [argsV]) (fun uf ub C hpin hpin2 hfull => ?_)
  simp only [Tryz.f80, Option.getD_some]
  refine Tri.step sized ?_
  simp (decide := true) only [drop0, row1_length, rows_length, programW, programC, cI, cB, cS, roI, ro64, hpin, go_sem, Nat.reduceAdd, Nat.reduceMul]
  refine Tri.ent ?_ (Ent.frb hfull 1)
  refine Tri.step sized ?_
  simp (decide := true) only [drop0, row1_length, rows_length, programW, programC, cI, cB, cS, roI, ro64, hpin, go_sem, Nat.reduceAdd, Nat.reduceMul]
  refine aCall_det hps hpin ?_
  cases h0 : programB p with
  | false => simp (decide := true) only [Bool.false_and, drop0, row1_length, rows_length, programW, programC, cI, cB, cS, roI, ro64, hpin, go_sem, Nat.reduceAdd, Nat.reduceMul]
  | true =>
  have hG := programB_true h0
  simp (decide := true) only [Bool.true_and, drop0, row1_length, rows_length, programW, programC, cI, cB, cS, roI, ro64, hpin, go_sem, Nat.reduceAdd, Nat.reduceMul]
  refine Tri.step sized ?_
  simp (decide := true) only [drop0, row1_length, rows_length, programW, programC, cI, cB, cS, roI, ro64, hpin, go_sem, Nat.reduceAdd, Nat.reduceMul]
  refine Tri.loop (ι := Nat) (fun i => i ≤ p.fns.length ∧ rangeB (fnNamesB p) i = true) (fun i => ⟨87, [(1, .ip (programC true p) 0), (2, vB false), (14, .imm 80 (rows (fnC true) p.fns)), (15, vI p.fns.length), (16, vI i)], []⟩) (fun i => p.fns.length - i) 0 ⟨by simp, rfl⟩ ?_ ?_
  · refine Ent.weak ?_ ?_ ?_ ?_ <;> simp (decide := true) [subT, subB, hereT, hereV, hereL, St.get, look, vI, vB, vS, cI, cS, cB, nodeC, roI, programC]
  · rintro i ⟨hi, hq⟩
    refine code_sound sized _ ?_
    by_cases h' : i < p.fns.length
    · have e : ((i : Int) < (p.fns.length : Int)) = True := by simp [h']
      have hx : (rows (fnC true) p.fns).getD i [] = fnC true p.fns[i] := rows_get _ _ h'
      have hok := hG.fn i h'
      have hfe : fnNamesB p i = (namesB p i && (seenB p i p.fns[i].body (parN p.fns[i].params) && (decide (p.fns[i].ret < 0) || seenB p i p.fns[i].ret (growL p.nodes (parN p.fns[i].params) (nAt p.nodes p.fns[i].body).kids)))) := by unfold fnNamesB; rw [fAt_nat h']
      have hplx := hpl p.fns[i] (List.getElem_mem h')
      have hp3 := fnOk_params hok
      obtain ⟨⟨b0, b1⟩, hret⟩ := fnOk_roots hok
      generalize p.fns[i] = g at hx hok hfe hplx hp3 b0 b1 hret
      simp (decide := true) only [e, h', hx, fnC, Int.natCast_nonneg, programC, vB, vI, drop0, row1_length, rows_length, programW, programC, cI, cB, cS, roI, ro64, hpin, go_sem, Nat.reduceAdd, Nat.reduceMul]
      refine aCall_det (hns i) hpin ?_
      cases g0 : namesB p i with
      | false =>
        have hff : rangeB (fnNamesB p) p.fns.length = false := rangeB_false h' (by rw [hfe, g0]; rfl)
        simp (decide := true) only [hff, drop0, row1_length, rows_length, programW, programC, cI, cB, cS, roI, ro64, hpin, go_sem, Nat.reduceAdd, Nat.reduceMul]
      | true =>
      rw [g0, Bool.true_and] at hfe
      simp (decide := true) only [drop0, row1_length, rows_length, programW, programC, cI, cB, cS, roI, ro64, hpin, go_sem, Nat.reduceAdd, Nat.reduceMul]
      refine Tri.loop (ι := Nat) (fun j => j ≤ g.params.length) (fun j => ⟨87, [(1, .ip (programC true p) 0), (2, vB false), (3, vI i), (4, .bp 4 0), (14, .imm 80 (rows (fnC true) p.fns)), (15, vI p.fns.length), (16, vI i), (5, .ref 5 [] (parN (g.params.take j)).length), (26, .imm 86 (rows (paramC true) g.params)), (27, vI g.params.length), (28, vI j)], [(5, .row 9 (row1 cS (parN (g.params.take j)))), (4, .box (fnC true g))]⟩) (fun j => g.params.length - j) 0 (by simp) ?_ ?_
      · refine Ent.weak ?_ ?_ ?_ ?_ <;> simp (decide := true) [subT, subB, hereT, hereV, hereL, St.get, look, vI, vB, vS, cI, cS, cB, nodeC, roI, programC, fnC, parN, row1]
      · rintro j hj
        refine code_sound sized _ ?_
        by_cases hj' : j < g.params.length
        · have e2 : ((j : Int) < (g.params.length : Int)) = True := by simp [hj']
          have hy : (rows (paramC true) g.params).getD j [] = paramC true g.params[j] := rows_get _ _ hj'
          have hsn := parN_next hj'
          have hll : (parN (g.params.take j)).length ≤ 3 := by rw [parN_length, List.length_take]; omega
          have hl2 : (parN (g.params.take (j + 1))).length = (parN (g.params.take j)).length + 1 := by rw [parN_length, parN_length, List.length_take, List.length_take]; omega
          have htk := row1_takeL cS (parN (g.params.take j))
          have hb1 : (parN (g.params.take j)).length + 1 ≤ 140737488355328 := by omega
          have hb2 : ((parN (g.params.take j)).length + 1) * 16 ≤ 140737488355328 := by omega
          simp only [cS] at hsn
          simp (decide := true) only [e2, hy, paramC, hb1, hb2, htk, hsn, Int.natCast_nonneg, programC, fnC, vB, vI, drop0, row1_length, rows_length, programW, programC, cI, cB, cS, roI, ro64, hpin, go_sem, Nat.reduceAdd, Nat.reduceMul]
          refine ⟨j + 1, hj', by omega, Ent.weak ?_ ?_ ?_ ?_⟩
          all_goals simp (decide := true) [subT, subB, hereT, hereV, hereL, St.get, look, vI, vB, vS, cI, cS, cB, nodeC, roI, programC, fnC, hl2, w64s (n := g.params.length) hj' (by omega)]
        · have hjl : j = g.params.length := by omega
          subst hjl
          have e2 : ((g.params.length : Int) < (g.params.length : Int)) = False := by simp
          have hnl : (parN g.params).length ≤ 3 := by rw [parN_length]; omega
          obtain ⟨b, hbb⟩ : ∃ b : Nat, g.body = b := ⟨g.body.toNat, by omega⟩
          have hbl : b < p.nodes.length := by omega
          have hxb : (rows (nodeC true) p.nodes).getD b [] = nodeC true p.nodes[b] := rows_get _ _ hbl
          have hcb : ((b : Int) < (p.nodes.length : Int)) = True := eq_true (by omega)
          have hk3 : ∀ x ∈ p.nodes, x.kids.length ≤ 300 := fun x hx => by have := hG.deep.few x hx; omega
          have hkf := hG.deep.few p.nodes[b] (List.getElem_mem hbl)
          have hkid := hG.deep.kid hbl
          have hfew := hG.few
          have hsee : ∀ (n : Nat), n < p.nodes.length → ∀ nm : List ByteArray, nm.length ≤ 1000 → _ := fun n hnl nm hnm => seen_sound p hG.deep i h' hf hn hk3 n hnl nm (by omega)
          simp only [programW] at hsee
          rw [hbb, nAt_nat hbl] at hfe
          generalize hnm : parN g.params = nm0 at hnl hfe
          have htk := row1_takeL cS nm0
          have hs1 := hsee b hbl nm0 (by omega)
          simp (decide := true) only [e2, List.take_length, hnm, hbb, htk, programC, fnC, vB, vI, drop0, row1_length, rows_length, programW, programC, cI, cB, cS, roI, ro64, hpin, go_sem, Nat.reduceAdd, Nat.reduceMul]
          refine aCall_det hs1 hpin ?_
          cases g1 : seenB p i b nm0 with
          | false =>
            rw [g1, Bool.false_and] at hfe
            have hff : rangeB (fnNamesB p) p.fns.length = false := rangeB_false h' hfe
            simp (decide := true) only [hff, htk, drop0, row1_length, rows_length, programW, programC, cI, cB, cS, roI, ro64, hpin, go_sem, Nat.reduceAdd, Nat.reduceMul]
          | true =>
          rw [g1, Bool.true_and] at hfe
          generalize p.nodes[b] = x at hxb hkf hkid hfe
          simp (decide := true) only [hcb, hxb, nodeC, htk, Int.natCast_nonneg, drop0, row1_length, rows_length, programW, programC, cI, cB, cS, roI, ro64, hpin, go_sem, Nat.reduceAdd, Nat.reduceMul]
          refine Tri.loop (ι := Nat) (fun k => k ≤ x.kids.length) (fun k => ⟨87, [(1, .ip (programC true p) 0), (2, vB false), (3, vI i), (4, .bp 4 0), (14, .imm 80 (rows (fnC true) p.fns)), (15, vI p.fns.length), (16, vI i), (5, .ref 5 [] (growL p.nodes nm0 (x.kids.take k)).length), (51, roI x.kids), (52, vI x.kids.length), (53, vI k)], [(5, .row 9 (row1 cS (growL p.nodes nm0 (x.kids.take k)))), (4, .box (fnC true g))]⟩) (fun k => x.kids.length - k) 0 (by simp) ?_ ?_
          · have e9 : growL p.nodes nm0 [] = nm0 := rfl
            refine Ent.weak ?_ ?_ ?_ ?_ <;> simp (decide := true) [subT, subB, hereT, hereV, hereL, St.get, look, vI, vB, vS, cI, cS, cB, nodeC, roI, programC, fnC, e9, hbb]
          · rintro k hkk
            refine code_sound sized _ ?_
            have hgl := growL_length p.nodes (x.kids.take k) nm0
            rw [List.length_take] at hgl
            by_cases hk' : k < x.kids.length
            · have e3 : ((k : Int) < (x.kids.length : Int)) = True := by simp [hk']
              obtain ⟨q0, q1, q2⟩ := hkid x.kids[k] (List.getElem_mem hk')
              have hkl : x.kids[k].toNat < p.nodes.length := by omega
              have z0 : (0 ≤ x.kids[k]) = True := eq_true q0
              have z1 : (x.kids[k] < (p.nodes.length : Int)) = True := eq_true (by omega)
              have hy : (rows (nodeC true) p.nodes).getD x.kids[k].toNat [] = nodeC true p.nodes[x.kids[k].toNat] := rows_get _ _ hkl
              have hnx := growL_next p.nodes nm0 hk'
              unfold growN at hnx
              rw [nAt_get hkl, Bool.true_and] at hnx
              generalize p.nodes[x.kids[k].toNat] = y at hy hnx
              generalize hLL : growL p.nodes nm0 (x.kids.take k) = L at hnx hgl
              have htk2 := row1_takeL cS L
              have hsn := strs_snoc L y.name
              simp only [cS] at hsn
              have hb1 : L.length + 1 ≤ 140737488355328 := by omega
              have hb2 : (L.length + 1) * 16 ≤ 140737488355328 := by omega
              simp (decide := true) only [e3, z0, z1, hy, nodeC, row1_get _ _ hk', Int.natCast_nonneg, programC, fnC, vB, vI, drop0, row1_length, rows_length, programW, programC, cI, cB, cS, roI, ro64, hpin, go_sem, Nat.reduceAdd, Nat.reduceMul]
              cases h13 : y.kind == 13 with
              | false =>
                rw [h13, if_neg (by decide)] at hnx
                simp (decide := true) only [h13, drop0, row1_length, rows_length, programW, programC, cI, cB, cS, roI, ro64, hpin, go_sem, Nat.reduceAdd, Nat.reduceMul]
                refine ⟨k + 1, hk', by omega, Ent.weak ?_ ?_ ?_ ?_⟩
                all_goals simp (decide := true) only [hnx]
                all_goals simp (decide := true) [subT, subB, hereT, hereV, hereL, St.get, look, vI, vB, vS, cI, cS, cB, nodeC, roI, programC, fnC, w64s (n := x.kids.length) hk' (by omega)]
              | true =>
                rw [h13, if_pos rfl] at hnx
                simp (decide := true) only [h13, z0, z1, hy, nodeC, hb1, hb2, htk2, hsn, drop0, row1_length, rows_length, programW, programC, cI, cB, cS, roI, ro64, hpin, go_sem, Nat.reduceAdd, Nat.reduceMul]
                refine ⟨k + 1, hk', by omega, Ent.weak ?_ ?_ ?_ ?_⟩
                all_goals simp (decide := true) only [hnx]
                all_goals simp (decide := true) [subT, subB, hereT, hereV, hereL, St.get, look, vI, vB, vS, cI, cS, cB, nodeC, roI, programC, fnC, w64s (n := x.kids.length) hk' (by omega)]
            · have hkl : k = x.kids.length := by omega
              subst hkl
              have e3 : ((x.kids.length : Int) < (x.kids.length : Int)) = False := by simp
              rw [List.take_length] at *
              generalize growL p.nodes nm0 x.kids = L at hfe hgl ⊢
              have htk2 := row1_takeL cS L
              simp (decide := true) only [e3, List.take_length, htk2, programC, fnC, vB, vI, drop0, row1_length, rows_length, programW, programC, cI, cB, cS, roI, ro64, hpin, go_sem, Nat.reduceAdd, Nat.reduceMul]
              rcases hret with hneg | ⟨x0, x1⟩
              · have y0 : (0 ≤ g.ret) = False := eq_false (by omega)
                have y1 : decide (g.ret < 0) = true := decide_eq_true hneg
                rw [y1, Bool.true_or] at hfe
                simp (decide := true) only [y0, drop0, row1_length, rows_length, programW, programC, cI, cB, cS, roI, ro64, hpin, go_sem, Nat.reduceAdd, Nat.reduceMul]
                refine ⟨i + 1, ⟨h', by rw [rangeB_succ, hq, hfe]; rfl⟩, by omega, Ent.weak ?_ ?_ ?_ ?_⟩
                all_goals simp (decide := true) [subT, subB, hereT, hereV, hereL, St.get, look, vI, vB, vS, cI, cS, cB, nodeC, roI, programC, w64s (n := p.fns.length) h' (by omega)]
              · have y0 : (0 ≤ g.ret) = True := eq_true x0
                have y1 : decide (g.ret < 0) = false := decide_eq_false (by omega)
                rw [y1, Bool.false_or] at hfe
                obtain ⟨r, hrr⟩ : ∃ r : Nat, g.ret = r := ⟨g.ret.toNat, by omega⟩
                have hrl : r < p.nodes.length := by omega
                have hs2 := hsee r hrl L (by omega)
                rw [hrr] at hfe
                simp (decide := true) only [y0, hrr, htk2, Int.natCast_nonneg, drop0, row1_length, rows_length, programW, programC, cI, cB, cS, roI, ro64, hpin, go_sem, Nat.reduceAdd, Nat.reduceMul]
                refine aCall_det hs2 hpin ?_
                cases g2 : seenB p i r L with
                | false =>
                  rw [g2] at hfe
                  have hff : rangeB (fnNamesB p) p.fns.length = false := rangeB_false h' hfe
                  simp (decide := true) only [hff, htk2, drop0, row1_length, rows_length, programW, programC, cI, cB, cS, roI, ro64, hpin, go_sem, Nat.reduceAdd, Nat.reduceMul]
                | true =>
                  rw [g2] at hfe
                  simp (decide := true) only [htk2, drop0, row1_length, rows_length, programW, programC, cI, cB, cS, roI, ro64, hpin, go_sem, Nat.reduceAdd, Nat.reduceMul]
                  refine ⟨i + 1, ⟨h', by rw [rangeB_succ, hq, hfe]; rfl⟩, by omega, Ent.weak ?_ ?_ ?_ ?_⟩
                  all_goals simp (decide := true) [subT, subB, hereT, hereV, hereL, St.get, look, vI, vB, vS, cI, cS, cB, nodeC, roI, programC, w64s (n := p.fns.length) h' (by omega)]
    · have hil : i = p.fns.length := by omega
      subst hil
      have e : ((p.fns.length : Int) < (p.fns.length : Int)) = False := by simp
      simp (decide := true) only [e, vB, vI, drop0, row1_length, rows_length, programW, programC, cI, cB, cS, roI, ro64, hpin, go_sem, Nat.reduceAdd, Nat.reduceMul]
      refine code_sound sized _ ?_
      simp (decide := true) only [hq, drop0, row1_length, rows_length, programW, programC, cI, cB, cS, roI, ro64, hpin, go_sem, Nat.reduceAdd, Nat.reduceMul]
end Go.Proofs.YtnbodmohnkohfaaGreatDoor.AW
