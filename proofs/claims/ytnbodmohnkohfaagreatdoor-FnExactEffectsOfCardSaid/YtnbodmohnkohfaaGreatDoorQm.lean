/- The variables of a function with their types, both sides. No condition beyond those named. -/
import Derived.Test.YtnbodmohnkohfaaGreatDoorQl
namespace Go.Proofs.YtnbodmohnkohfaaGreatDoor.AW
open Go.RowKit
set_option maxHeartbeats 8000000
set_option maxRecDepth 100000
set_option linter.unusedSimpArgs false
set_option linter.unusedVariables false

noncomputable def tyGood (p : ProgramD) (fn : Int) : Bool := namesRightB p && (inI fn 0 (p.fns.length - 1) && typesB p fn)
noncomputable def tyList (p : ProgramD) (fn : Int) : List VarD := if tyGood p fn then typesL p fn else []
theorem three_marks {α : Type} {f : α → Nat} (h : ∀ x, f x = 3) : ∀ l : List α, sumN f l = 3 * l.length
  | [] => by simp [sumN]
  | x :: r => by
    have := three_marks h r
    simp only [sumN, List.map_cons, List.sum_cons, List.length_cons] at this ⊢
    rw [h x]; omega
theorem sumN_app {α : Type} (f : α → Nat) (l m : List α) : sumN f (l ++ m) = sumN f l + sumN f m := by simp [sumN]
theorem sumN_drop {α : Type} (f : α → Nat) (l : List α) (n : Nat) : sumN f (l.drop n) ≤ sumN f l := by
  have := sumN_app f (l.take n) (l.drop n)
  rw [List.take_append_drop] at this
  omega
theorem sumN_one {α : Type} (f : α → Nat) (x : α) (l : List α) : sumN f (x :: l) = f x + sumN f l := by simp [sumN]
theorem sum_idx (nodes : List NodeD) : ∀ (U : List Int) (a : Nat), U.Pairwise (· < ·) → (∀ k ∈ U, (a : Int) ≤ k ∧ k.toNat < nodes.length) → sumN (fun k => nodeCost (nAt nodes k)) U ≤ sumN nodeCost (nodes.drop a)
  | [], a, _, _ => by simp [sumN]
  | k :: r, a, hp, hk => by
    obtain ⟨hp1, hp2⟩ := List.pairwise_cons.1 hp
    obtain ⟨g1, g2⟩ := hk k List.mem_cons_self
    have h1 := sum_idx nodes r (k.toNat + 1) hp2 (fun q hq => ⟨by have := hp1 q hq; omega, (hk q (List.mem_cons_of_mem _ hq)).2⟩)
    have e : nodes.drop k.toNat = nodes[k.toNat] :: nodes.drop (k.toNat + 1) := List.drop_eq_getElem_cons g2
    have h2 : sumN nodeCost (nodes.drop k.toNat) ≤ sumN nodeCost (nodes.drop a) := by
      have e2 : nodes.drop k.toNat = (nodes.drop a).drop (k.toNat - a) := by rw [List.drop_drop]; congr 1; omega
      rw [e2]; exact sumN_drop _ _ _
    rw [e, sumN_one] at h2
    rw [sumN_one, nAt_get g2]
    omega
theorem lets_cost (nodes : List NodeD) : ∀ U : List Int, (∀ k ∈ U, (nAt nodes k).kind == 13 → 0 < (nAt nodes k).kids.length) → (letVars nodes U).length + sumN varCost (letVars nodes U) ≤ sumN (fun k => nodeCost (nAt nodes k)) U
  | [], _ => by simp [letVars, sumN]
  | k :: r, h => by
    have h1 := lets_cost nodes r (fun q hq => h q (List.mem_cons_of_mem _ hq))
    have e : letVars nodes (k :: r) = letV nodes k ++ letVars nodes r := by simp [letVars]
    rw [e, List.length_append, sumN_app, sumN_one]
    have h2 : (letV nodes k).length + sumN varCost (letV nodes k) ≤ nodeCost (nAt nodes k) := by
      unfold letV
      split
      · rename_i h13
        have := h k List.mem_cons_self h13
        simp [sumN, varCost, nodeCost]; omega
      · simp [sumN]
    omega
theorem pars_cost : ∀ l : List ParamD, sumN varCost (parVars l) = sumN paramCost l
  | [] => by simp [parVars, sumN]
  | x :: r => by
    have h := pars_cost r
    have e : parVars (x :: r) = parVar x :: parVars r := rfl
    rw [e, sumN_one, sumN_one, h]; rfl
theorem vars_cost {p : ProgramD} (hD : Deep p.nodes) (fn : Int) : (varsL p fn).length + sumN varCost (varsL p fn) ≤ programCost p := by
  unfold varsL
  split
  · rename_i h0
    have hr := inI_true h0
    obtain ⟨f, rfl⟩ : ∃ f : Nat, fn = f := ⟨fn.toNat, by omega⟩
    have hfl : f < p.fns.length := by omega
    rw [fAt_nat hfl, List.length_append, sumN_app, pars_length, pars_cost]
    have h1 := sumN_mem fnCost hfl
    have h2 := lets_cost p.nodes (underP p.nodes p.fns[f].body) (fun k hk h13 => by
      have hm := underP_mem hk
      have hsh := inI_true (node_shape (hD.deep _ hm.2.1) hm.2.1)
      rw [nAt_get hm.2.1] at h13 ⊢
      have ek := eq_of_beq h13
      rw [ek] at hsh
      have := hsh.1
      simp [shapeI] at this
      omega)
    have h3 := sum_idx p.nodes (underP p.nodes p.fns[f].body) 0 (underP_rising _ _) (fun k hk => by have := underP_mem hk; exact ⟨by omega, this.2.1⟩)
    rw [List.drop_zero] at h3
    have h4 : p.fns[f].params.length + sumN paramCost p.fns[f].params ≤ fnCost p.fns[f] := by unfold fnCost; omega
    unfold programCost
    omega
  · simp [sumN]
theorem tyStep_cost (p : ProgramD) (l : List VarD) (i : Nat) : sumN varCost (tyStep p l i) = sumN varCost l := by
  unfold sumN
  congr 1
  apply List.ext_getElem
  · simp [tyStep_length]
  · intro j h1 h2
    simp only [List.getElem_map]
    have hj : j < l.length := by simpa using h2
    unfold tyStep
    split
    · simp only [List.getElem_set]
      split
      · rename_i h; subst h; simp [List.getD, hj, varCost]
      · rfl
    · rfl
theorem typesP_cost (p : ProgramD) (l : List VarD) : ∀ i, sumN varCost (typesP p l i) = sumN varCost l
  | 0 => rfl
  | i + 1 => by unfold typesP; rw [tyStep_cost, typesP_cost p l i]
theorem tyList_cost {p : ProgramD} (fn : Int) (h : programCost p ≤ 1048576) : (tyList p fn).length + sumN varCost (tyList p fn) ≤ 1048576 := by
  unfold tyList
  split
  · rename_i hg
    have hG := programB_true (Bool.and_eq_true_iff.1 (Bool.and_eq_true_iff.1 hg).1).1
    have := vars_cost hG.deep fn
    unfold typesL
    rw [typesP_length, typesP_cost]
    omega
  · simp [sumN]

theorem typesAllI_sound (p : ProgramD) (fn : Int) (hf : p.fns.length ≤ 1048576) (hn : p.nodes.length ≤ 1048576) (hk : ∀ x ∈ p.nodes, x.kids.length ≤ 1048576) (hpl : ∀ f ∈ p.fns, f.params.length ≤ 1048576) :
    Sound Tryz.prog 36 [.ro (programW p), .ro (.sc (.int .i64 fn))] (fun rs st => rs = [(false, [.row false 107 (rows (varC false) (tyList p fn))]), (false, [cB (tyGood p fn)])]) := by
  have e0 : rows (varC false) ([] : List VarD) = [] := rfl
  have w1 : IntKind.i64.wrap ((p.fns.length : Int) - 1) = (p.fns.length : Int) - 1 := w64 (by omega) (by omega)
  have hnr := namesRightI_sound p hf hn hk hpl
  unfold tyList tyGood
  cases hR : namesRightB p with
  | true =>
    cases h0 : inI fn 0 (p.fns.length - 1) with
    | true =>
      have hr := inI_true h0
      obtain ⟨f, rfl⟩ : ∃ f : Nat, fn = f := ⟨fn.toNat, by omega⟩
      have := typesI_sound p hR f (by omega) hf hn hk hpl
      cases hB : typesB p f with
      | true => rw [hB] at this; simpa using this
      | false => rw [hB] at this; simpa [e0] using this
    | false =>
      rw [hR] at hnr
      simp only [programW] at hnr
      refine sound_tri (fn := Tryz.f36) (c := Tryz.f36.body.getD .skip) (res := [.tm 4, .tm 5]) (n := 35) sized (by kernel_rfl) (by rfl) (by kernel_rfl) (by rfl) (by rfl) (by simp [argsV]) (fun uf ub C hpin hpin2 hfull => ?_)
      simp only [Tryz.f36, Option.getD_some]
      refine Tri.step sized ?_
      simp (decide := true) only [drop0, row1_length, rows_length, programW, programC, cI, cB, cS, roI, ro64, hpin, go_sem, Nat.reduceAdd, Nat.reduceMul]
      refine Tri.ent ?_ (Ent.frb hfull 2)
      refine Tri.step sized ?_
      simp (decide := true) only [drop0, row1_length, rows_length, programW, programC, cI, cB, cS, roI, ro64, hpin, go_sem, Nat.reduceAdd, Nat.reduceMul]
      refine aCall_det hnr hpin ?_
      simp (decide := true) only [w1, drop0, row1_length, rows_length, programW, programC, cI, cB, cS, roI, ro64, hpin, go_sem, Nat.reduceAdd, Nat.reduceMul]
      refine aCall_det (in' fn 0 (p.fns.length - 1)) hpin ?_
      simp (decide := true) only [h0, e0, Bool.false_and, Bool.and_false, if_false, Bool.false_eq_true, drop0, row1_length, rows_length, programW, programC, cI, cB, cS, roI, ro64, hpin, go_sem, Nat.reduceAdd, Nat.reduceMul]
  | false =>
    rw [hR] at hnr
    simp only [programW] at hnr
    refine sound_tri (fn := Tryz.f36) (c := Tryz.f36.body.getD .skip) (res := [.tm 4, .tm 5]) (n := 35) sized (by kernel_rfl) (by rfl) (by kernel_rfl) (by rfl) (by rfl) (by simp [argsV]) (fun uf ub C hpin hpin2 hfull => ?_)
    simp only [Tryz.f36, Option.getD_some]
    refine Tri.step sized ?_
    simp (decide := true) only [drop0, row1_length, rows_length, programW, programC, cI, cB, cS, roI, ro64, hpin, go_sem, Nat.reduceAdd, Nat.reduceMul]
    refine Tri.ent ?_ (Ent.frb hfull 2)
    refine Tri.step sized ?_
    simp (decide := true) only [drop0, row1_length, rows_length, programW, programC, cI, cB, cS, roI, ro64, hpin, go_sem, Nat.reduceAdd, Nat.reduceMul]
    refine aCall_det hnr hpin ?_
    simp (decide := true) only [e0, Bool.false_and, if_false, Bool.false_eq_true, drop0, row1_length, rows_length, programW, programC, cI, cB, cS, roI, ro64, hpin, go_sem, Nat.reduceAdd, Nat.reduceMul]
theorem typesAllS_sound (p : ProgramD) (fn : Int) (hf : p.fns.length ≤ 1048576) (hn : p.nodes.length ≤ 1048576) (hk : ∀ x ∈ p.nodes, x.kids.length ≤ 1048576) (hpl : ∀ f ∈ p.fns, f.params.length ≤ 1048576) :
    Sound Tryz.prog 28 [.ro (programW p), .ro (.sc (.int .i64 fn))] (fun rs st => rs = [(false, [.row false 107 (rows (varC false) (tyList p fn))]), (false, [cB (tyGood p fn)])]) := by
  have e0 : rows (varC false) ([] : List VarD) = [] := rfl
  have w1 : IntKind.i64.wrap ((p.fns.length : Int) - 1) = (p.fns.length : Int) - 1 := w64 (by omega) (by omega)
  have hnr := namesRightS_sound p hf hn hk hpl
  simp only [programW] at hnr
  unfold tyList tyGood
  refine sound_tri (fn := Tryz.f28) (c := Tryz.f28.body.getD .skip) (res := [.tm 4, .tm 5]) (n := 24) sized (by kernel_rfl) (by rfl) (by kernel_rfl) (by rfl) (by rfl) (by simp [argsV]) (fun uf ub C hpin hpin2 hfull => ?_)
  simp only [Tryz.f28, Option.getD_some]
  refine Tri.step sized ?_
  simp (decide := true) only [drop0, row1_length, rows_length, programW, programC, cI, cB, cS, roI, ro64, hpin, go_sem, Nat.reduceAdd, Nat.reduceMul]
  refine Tri.ent ?_ (Ent.frb hfull 2)
  refine Tri.step sized ?_
  simp (decide := true) only [drop0, row1_length, rows_length, programW, programC, cI, cB, cS, roI, ro64, hpin, go_sem, Nat.reduceAdd, Nat.reduceMul]
  refine aCall_det hnr hpin ?_
  cases hR : namesRightB p with
  | false => simp (decide := true) only [e0, Bool.false_and, if_false, Bool.false_eq_true, drop0, row1_length, rows_length, programW, programC, cI, cB, cS, roI, ro64, hpin, go_sem, Nat.reduceAdd, Nat.reduceMul]
  | true =>
  have hG := programB_true (Bool.and_eq_true_iff.1 hR).1
  have hk3 : ∀ x ∈ p.nodes, x.kids.length ≤ 300 := fun x hx => by have := hG.deep.few x hx; omega
  simp (decide := true) only [w1, drop0, row1_length, rows_length, programW, programC, cI, cB, cS, roI, ro64, hpin, go_sem, Nat.reduceAdd, Nat.reduceMul]
  refine aCall_det (l01In' fn 0 (p.fns.length - 1)) hpin ?_
  cases h0 : inI fn 0 (p.fns.length - 1) with
  | false => simp (decide := true) only [e0, Bool.false_and, Bool.and_false, if_false, Bool.false_eq_true, drop0, row1_length, rows_length, programW, programC, cI, cB, cS, roI, ro64, hpin, go_sem, Nat.reduceAdd, Nat.reduceMul]
  | true =>
  have hts := varsTS_sound p hG.deep fn hf hn hk3 hpl
  simp only [programW] at hts
  simp (decide := true) only [drop0, row1_length, rows_length, programW, programC, cI, cB, cS, roI, ro64, hpin, go_sem, Nat.reduceAdd, Nat.reduceMul]
  refine code_sound sized _ ?_
  simp (decide := true) only [drop0, row1_length, rows_length, programW, programC, cI, cB, cS, roI, ro64, hpin, go_sem, Nat.reduceAdd, Nat.reduceMul]
  have htk := rows_takeL (varC false) (typesL p fn)
  cases hB : typesB p fn with
  | true =>
    rw [hB] at hts
    simp only [if_true] at hts
    refine aCall_det hts hpin ?_
    simp (decide := true) only [htk, Bool.true_and, if_true, drop0, row1_length, rows_length, programW, programC, cI, cB, cS, roI, ro64, hpin, go_sem, Nat.reduceAdd, Nat.reduceMul]
  | false =>
    rw [hB] at hts
    simp only [if_false, Bool.false_eq_true] at hts
    refine aCall_det hts hpin ?_
    simp (decide := true) only [e0, Bool.true_and, Bool.and_false, if_false, Bool.false_eq_true, drop0, row1_length, rows_length, programW, programC, cI, cB, cS, roI, ro64, hpin, go_sem, Nat.reduceAdd, Nat.reduceMul]
end Go.Proofs.YtnbodmohnkohfaaGreatDoor.AW
