/- Whether a program is right, as the program tells it. No condition beyond those named. -/
import Derived.Test.YtnbodmohnkohfaaGreatDoorPr
namespace Go.Proofs.YtnbodmohnkohfaaGreatDoor.AW
open Go.RowKit
set_option maxHeartbeats 8000000
set_option maxRecDepth 100000
set_option linter.unusedSimpArgs false
set_option linter.unusedVariables false

/-- How the flags stand after the first roots: what is a root is marked. -/
def metF (p : ProgramD) (R : List Int) : Nat → Int := fun m => if (m : Int) ∈ R then -1 else (cntK p.nodes p.nodes.length m : Int)
theorem metF_nil (p : ProgramD) (m : Nat) : metF p [] m = (cntK p.nodes p.nodes.length m : Int) := by simp [metF]
theorem metF_snoc (p : ProgramD) (R : List Int) {k : Int} (h0 : 0 ≤ k) : (fun m => if m = k.toNat then -1 else metF p R m) = metF p (R ++ [k]) := by
  funext m
  unfold metF
  by_cases e : m = k.toNat
  · subst e
    have e2 : ((k.toNat : Nat) : Int) = k := by omega
    rw [if_pos rfl, e2]; simp
  · rw [if_neg e]
    have e2 : ¬ (m : Int) = k := by omega
    simp [e2]
/-- So far each root stands once, and is nobody's kid. -/
def Met (p : ProgramD) (R : List Int) : Prop := R.Nodup ∧ ∀ k ∈ R, cntK p.nodes p.nodes.length k.toNat = 0
theorem Met.snoc {p : ProgramD} {R : List Int} (h : Met p R) {k : Int} (h0 : 0 ≤ k) (hm : metF p R k.toNat = 0) : Met p (R ++ [k]) := by
  have e2 : ((k.toNat : Nat) : Int) = k := by omega
  unfold metF at hm
  rw [e2] at hm
  split at hm
  · omega
  · rename_i hn
    refine ⟨?_, fun q hq => ?_⟩
    · rw [List.nodup_append]
      exact ⟨h.1, by simp, fun a ha b hb => by simp at hb; subst hb; exact fun e => hn (e ▸ ha)⟩
    · rcases List.mem_append.1 hq with hq | hq
      · exact h.2 q hq
      · simp at hq; subst hq; omega
theorem metF_bad {p : ProgramD} {R : List Int} {k : Int} (h0 : 0 ≤ k) (hl : k.toNat < p.nodes.length) (hs : (R ++ [k]).Sublist (allR p.fns)) (hm : metF p R k.toNat ≠ 0) : rangeB (onceB p) p.nodes.length = false := by
  refine rangeB_false hl ?_
  have e2 : ((k.toNat : Nat) : Int) = k := by omega
  have hc := hs.count_le k
  rw [List.count_append] at hc
  have h1 : [k].count k = 1 := by simp
  unfold metF at hm
  unfold onceB
  rw [e2] at hm ⊢
  have h2 : 0 < R.count k ∨ 0 < cntK p.nodes p.nodes.length k.toNat := by
    split at hm
    · rename_i hmem; exact Or.inl (List.count_pos_iff.2 hmem)
    · right; omega
  generalize cntK p.nodes p.nodes.length k.toNat = c at h2 ⊢
  generalize (allR p.fns).count k = d at hc ⊢
  rw [Bool.or_eq_false_iff]
  constructor
  · apply Bool.eq_false_iff.2; intro hh; have := eq_of_beq hh; omega
  · apply Bool.eq_false_iff.2; intro hh; have := eq_of_beq hh; omega
theorem met_last {p : ProgramD} (h : Met p (allR p.fns)) (hD : Deep p.nodes) (hl : p.nodes.length ≤ 300) (m : Nat) : (metF p (allR p.fns) m == 1 || metF p (allR p.fns) m == -1) = onceB p m := by
  have hle := cntK_le hD.nodup m p.nodes.length (Nat.le_refl _)
  unfold onceB metF
  by_cases hm : (m : Int) ∈ allR p.fns
  · have h1 : (allR p.fns).count (m : Int) = 1 := by
      rw [h.1.count, if_pos hm]
    have h2 := h.2 _ hm
    have e2 : (m : Int).toNat = m := by omega
    rw [e2] at h2
    rw [if_pos hm, h1, h2]; rfl
  · have h1 : (allR p.fns).count (m : Int) = 0 := List.count_eq_zero.2 hm
    rw [if_neg hm, h1]
    generalize cntK p.nodes p.nodes.length m = c at hle
    have e3 : ((c : Int) == -1) = false := by apply Bool.eq_false_iff.2; intro hh; have := eq_of_beq hh; omega
    have e4 : ((c : Int) + 1000 * ((0 : Nat) : Int) == 1000) = false := by apply Bool.eq_false_iff.2; intro hh; have := eq_of_beq hh; omega
    have e5 : ((c : Int) + 1000 * ((0 : Nat) : Int)) = c := by omega
    rw [e3, e4, e5]

theorem programI_sound (p : ProgramD) (hf : p.fns.length ≤ 1048576) (hn : p.nodes.length ≤ 1048576) (hk : ∀ x ∈ p.nodes, x.kids.length ≤ 1048576) (hpl : ∀ f ∈ p.fns, f.params.length ≤ 1048576) : Sound Tryz.prog 72 [.ro (programW p)] (fun rs st => rs = [(false, [cB (programB p)])]) := by
  refine sound_tri (fn := Tryz.f72) (c := Tryz.f72.body.getD .skip) (res := [.tm 2]) (n := 115) sized (by kernel_rfl) (by rfl) (by kernel_rfl) (by rfl) (by rfl) (by simp [argsV]) (fun uf ub C hpin hpin2 hfull => ?_)
  simp only [Tryz.f72, Option.getD_some]
  have w1 : IntKind.i64.wrap ((p.nodes.length : Int) - 1) = (p.nodes.length : Int) - 1 := w64 (by omega) (by omega)
  refine Tri.step sized ?_
  simp (decide := true) only [programW, programC, drop0, row1_length, rows_length, tabI_length, cI, cB, cS, roI, ro64, hpin, go_sem, Nat.reduceAdd, Nat.reduceMul]
  refine Tri.ent ?_ (Ent.frb hfull 1)
  refine Tri.step sized ?_
  simp (decide := true) only [programW, programC, drop0, row1_length, rows_length, tabI_length, cI, cB, cS, roI, ro64, hpin, go_sem, Nat.reduceAdd, Nat.reduceMul]
  refine Tri.step sized ?_
  simp (decide := true) only [programW, programC, drop0, row1_length, rows_length, tabI_length, cI, cB, cS, roI, ro64, hpin, go_sem, Nat.reduceAdd, Nat.reduceMul]
  refine aCall_det (in' p.nodes.length 1 300) hpin ?_
  unfold programB
  cases h0 : inI p.nodes.length 1 300 with
  | false => simp (decide := true) only [Bool.false_and, drop0, row1_length, rows_length, tabI_length, cI, cB, cS, roI, ro64, hpin, go_sem, Nat.reduceAdd, Nat.reduceMul]
  | true =>
  simp (decide := true) only [programW, programC, drop0, row1_length, rows_length, tabI_length, cI, cB, cS, roI, ro64, hpin, go_sem, Nat.reduceAdd, Nat.reduceMul]
  refine aCall_det (in' p.fns.length 1 8) hpin ?_
  cases h1 : inI p.fns.length 1 8 with
  | false => simp (decide := true) only [Bool.false_and, Bool.true_and, drop0, row1_length, rows_length, tabI_length, cI, cB, cS, roI, ro64, hpin, go_sem, Nat.reduceAdd, Nat.reduceMul]
  | true =>
  simp (decide := true) only [w1, programW, programC, drop0, row1_length, rows_length, tabI_length, cI, cB, cS, roI, ro64, hpin, go_sem, Nat.reduceAdd, Nat.reduceMul]
  refine aCall_det (deepI_sound p.nodes (p.nodes.length - 1) hn hk) hpin ?_
  cases h2 : deepOf p.nodes (p.nodes.length - 1) == 0 with
  | true => simp (decide := true) only [h2, Bool.not_true, Bool.false_and, Bool.true_and, drop0, row1_length, rows_length, tabI_length, cI, cB, cS, roI, ro64, hpin, go_sem, Nat.reduceAdd, Nat.reduceMul]
  | false =>
  have hD := deep_of h2
  have hr0 := inI_true h0
  have hr1 := inI_true h1
  have hz := tabI_zero p.nodes.length
  have hm1 : ((8 : Nat) : Int) * (p.nodes.length : Int) ≤ 281474976710656 := by omega
  have hm2 : (p.nodes.length : Int) ≤ 140737488355328 := by omega
  simp only [cI] at hz
  simp (decide := true) only [h2, Bool.not_false, Bool.true_and, drop0, row1_length, rows_length, tabI_length, cI, cB, cS, roI, ro64, hpin, go_sem, Nat.reduceAdd, Nat.reduceMul]
  refine Tri.step sized ?_
  simp (decide := true) only [hm1, hm2, hz, Int.natCast_nonneg, programC, drop0, row1_length, rows_length, tabI_length, cI, cB, cS, roI, ro64, hpin, go_sem, Nat.reduceAdd, Nat.reduceMul]
  refine Tri.step sized ?_
  simp (decide := true) only [programC, drop0, row1_length, rows_length, tabI_length, cI, cB, cS, roI, ro64, hpin, go_sem, Nat.reduceAdd, Nat.reduceMul]
  refine Tri.loop (ι := Nat) (fun i => i ≤ p.nodes.length) (fun i => ⟨115, [(1, .ip (programC true p) 0), (2, vB false), (4, .ref 4 [] p.nodes.length), (39, .imm 60 (rows (nodeC true) p.nodes)), (40, vI p.nodes.length), (41, vI i)], [(4, .row 3 (row1 cI (tabI p.nodes.length fun m => (cntK p.nodes i m : Int))))]⟩) (fun i => p.nodes.length - i) 0 (by simp) ?_ ?_
  · have e0 : tabI p.nodes.length (fun m => (cntK p.nodes 0 m : Int)) = tabI p.nodes.length (fun _ => 0) := tabI_congr (fun m _ => by simp [cntK, sumN])
    refine Ent.weak ?_ ?_ ?_ ?_ <;> simp (decide := true) [subT, subB, hereT, hereV, hereL, St.get, look, vI, vB, vS, cI, cS, cB, nodeC, roI, programC, e0]
  · rintro i hi
    refine code_sound sized _ ?_
    by_cases h' : i < p.nodes.length
    · have e : ((i : Int) < (p.nodes.length : Int)) = True := by simp [h']
      have hkx := hk p.nodes[i] (List.getElem_mem h')
      have hkid := hD.kid h'
      have hnd := hD.nodup p.nodes[i] (List.getElem_mem h')
      have hlast := cntF_last h'
      have hx : (rows (nodeC true) p.nodes).getD i [] = nodeC true p.nodes[i] := rows_get _ _ h'
      generalize p.nodes[i] = x at hx hkx hkid hnd hlast
      simp (decide := true) only [e, h', hx, nodeC, Int.natCast_nonneg, programC, vB, vI, drop0, row1_length, rows_length, tabI_length, cI, cB, cS, roI, ro64, hpin, go_sem, Nat.reduceAdd, Nat.reduceMul]
      refine Tri.loop (ι := Nat) (fun j => j ≤ x.kids.length) (fun j => ⟨115, [(1, .ip (programC true p) 0), (2, vB false), (4, .ref 4 [] p.nodes.length), (39, .imm 60 (rows (nodeC true) p.nodes)), (40, vI p.nodes.length), (41, vI i), (46, roI x.kids), (47, vI x.kids.length), (48, vI j)], [(4, .row 3 (row1 cI (tabI p.nodes.length (cntF p.nodes x i j))))]⟩) (fun j => x.kids.length - j) 0 (by simp) ?_ ?_
      · have e0 : tabI p.nodes.length (cntF p.nodes x i 0) = tabI p.nodes.length (fun m => (cntK p.nodes i m : Int)) := tabI_congr (fun m _ => cntF_zero p.nodes x i m)
        refine Ent.weak ?_ ?_ ?_ ?_ <;> simp (decide := true) [subT, subB, hereT, hereV, hereL, St.get, look, vI, vB, vS, cI, cS, cB, nodeC, roI, programC, e0]
      · rintro j hj
        refine code_sound sized _ ?_
        by_cases hj' : j < x.kids.length
        · have e2 : ((j : Int) < (x.kids.length : Int)) = True := by simp [hj']
          obtain ⟨q0, q1, q2⟩ := hkid x.kids[j] (List.getElem_mem hj')
          have hkl : x.kids[j].toNat < p.nodes.length := by omega
          have z0 : (0 ≤ x.kids[j]) = True := eq_true q0
          have z1 : (x.kids[j] < (p.nodes.length : Int)) = True := eq_true (by omega)
          have hrg := cntF_range hD.nodup hnd (Nat.le_of_lt h') j x.kids[j].toNat
          have wv : IntKind.i64.wrap (cntF p.nodes x i j x.kids[j].toNat + 1) = cntF p.nodes x i j x.kids[j].toNat + 1 := w64 (by omega) (by omega)
          have hset := tabI_set (f := cntF p.nodes x i j) hkl (cntF p.nodes x i j x.kids[j].toNat + 1)
          have hgq := tabI_getq (f := cntF p.nodes x i j) hkl
          rw [cntF_next hj' q0] at hset
          simp only [cI] at hset hgq
          simp (decide := true) only [e2, z0, z1, wv, hset, hgq, hkl, row1_get _ _ hj', Int.natCast_nonneg, programC, vB, vI, drop0, row1_length, rows_length, tabI_length, cI, cB, cS, roI, ro64, hpin, go_sem, Nat.reduceAdd, Nat.reduceMul]
          refine ⟨j + 1, hj', by omega, Ent.weak ?_ ?_ ?_ ?_⟩
          all_goals simp (decide := true) [subT, subB, hereT, hereV, hereL, St.get, look, vI, vB, vS, cI, cS, cB, nodeC, roI, programC, hgq, hset, w64s (n := x.kids.length) hj' (by omega)]
        · have hjl : j = x.kids.length := by omega
          subst hjl
          have e2 : ((x.kids.length : Int) < (x.kids.length : Int)) = False := by simp
          have e9 : tabI p.nodes.length (cntF p.nodes x i x.kids.length) = tabI p.nodes.length (fun m => (cntK p.nodes (i + 1) m : Int)) := tabI_congr (fun m _ => hlast m)
          simp (decide := true) only [e2, programC, vB, vI, drop0, row1_length, rows_length, tabI_length, cI, cB, cS, roI, ro64, hpin, go_sem, Nat.reduceAdd, Nat.reduceMul]
          refine ⟨i + 1, h', by omega, Ent.weak ?_ ?_ ?_ ?_⟩
          all_goals simp (decide := true) [subT, subB, hereT, hereV, hereL, St.get, look, vI, vB, vS, cI, cS, cB, nodeC, roI, programC, e9, w64s (n := p.nodes.length) h' (by omega)]
    · have hil : i = p.nodes.length := by omega
      subst hil
      have e : ((p.nodes.length : Int) < (p.nodes.length : Int)) = False := by simp
      have e1 : (fun m => (cntK p.nodes p.nodes.length m : Int)) = metF p (allR (p.fns.take 0)) := by funext m; simp [allR, metF]
      simp (decide := true) only [e, programC, vB, vI, drop0, row1_length, rows_length, tabI_length, cI, cB, cS, roI, ro64, hpin, go_sem, Nat.reduceAdd, Nat.reduceMul]
      rw [e1]
      refine Tri.step sized ?_
      simp (decide := true) only [programC, drop0, row1_length, rows_length, tabI_length, cI, cB, cS, roI, ro64, hpin, go_sem, Nat.reduceAdd, Nat.reduceMul]
      refine Tri.loop (ι := Nat) (fun i => i ≤ p.fns.length ∧ Met p (allR (p.fns.take i)) ∧ rangeB (fnRightB p) i = true) (fun i => ⟨115, [(1, .ip (programC true p) 0), (2, vB false), (4, .ref 4 [] p.nodes.length), (61, .imm 80 (rows (fnC true) p.fns)), (62, vI p.fns.length), (63, vI i)], [(4, .row 3 (row1 cI (tabI p.nodes.length (metF p (allR (p.fns.take i))))))]⟩) (fun i => p.fns.length - i) 0 ⟨by simp, ⟨by simp [allR], by simp [allR]⟩, rfl⟩ ?_ ?_
      · refine Ent.weak ?_ ?_ ?_ ?_ <;> simp (decide := true) [subT, subB, hereT, hereV, hereL, St.get, look, vI, vB, vS, cI, cS, cB, nodeC, roI, programC]
      · rintro i ⟨hi, hM, hB⟩
        refine code_sound sized _ ?_
        by_cases h' : i < p.fns.length
        · have e : ((i : Int) < (p.fns.length : Int)) = True := by simp [h']
          have hplx := hpl p.fns[i] (List.getElem_mem h')
          have hx : (rows (fnC true) p.fns).getD i [] = fnC true p.fns[i] := rows_get _ _ h'
          have hnext := allR_succ h'
          have hsub := fun b => allR_sub h' b
          have hfr : fnRightB p i = (fnOkB p p.fns[i] && fnAtP p.fns p.fns[i].name == (i : Int)) := by unfold fnRightB; rw [fAt_nat h']
          generalize p.fns[i] = f at hx hplx hnext hsub hfr
          have hf2 := fnOkI_sound p f hn hplx
          have ha2 := fnAtI_sound p f.name hf
          simp only [fnW, programW] at hf2 ha2
          simp (decide := true) only [e, h', hx, fnC, Int.natCast_nonneg, programC, vB, vI, drop0, row1_length, rows_length, tabI_length, cI, cB, cS, roI, ro64, hpin, go_sem, Nat.reduceAdd, Nat.reduceMul]
          refine aCall_det hf2 hpin ?_
          cases g0 : fnOkB p f with
          | false =>
            have hff : rangeB (fnRightB p) p.fns.length = false := rangeB_false h' (by rw [hfr, g0]; rfl)
            simp (decide := true) only [hff, Bool.false_and, drop0, row1_length, rows_length, tabI_length, cI, cB, cS, roI, ro64, hpin, go_sem, Nat.reduceAdd, Nat.reduceMul]
          | true =>
          simp (decide := true) only [drop0, row1_length, rows_length, tabI_length, cI, cB, cS, roI, ro64, hpin, go_sem, Nat.reduceAdd, Nat.reduceMul]
          refine aCall_det ha2 hpin ?_
          cases g1 : fnAtP p.fns f.name == (i : Int) with
          | false =>
            have hff : rangeB (fnRightB p) p.fns.length = false := rangeB_false h' (by rw [hfr, g0, g1]; rfl)
            simp (decide := true) only [hff, g1, bne, Bool.false_and, drop0, row1_length, rows_length, tabI_length, cI, cB, cS, roI, ro64, hpin, go_sem, Nat.reduceAdd, Nat.reduceMul]
          | true =>
          have hB2 : rangeB (fnRightB p) (i + 1) = true := by rw [rangeB_succ, hB, hfr, g0, g1]; rfl
          have hrt := fnOk_roots g0
          simp (decide := true) only [g1, bne, drop0, row1_length, rows_length, tabI_length, cI, cB, cS, roI, ro64, hpin, go_sem, Nat.reduceAdd, Nat.reduceMul]
          have hR : ∀ b (hb : b < (rts f).length), (rts f)[b] < 0 ∨ (0 ≤ (rts f)[b] ∧ (rts f)[b].toNat < p.nodes.length) := fun b hb => by
            match b, hb with
            | 0, _ => exact Or.inr hrt.1
            | 1, _ => exact hrt.2
          have hRl : (rts f).length = 2 := rfl
          have er : [[D.sc (Value.int IntKind.i64 f.body)], [D.sc (Value.int IntKind.i64 f.ret)]] = row1 cI (rts f) := rfl
          have e0 : allR (p.fns.take i) ++ rtsP f 0 = allR (p.fns.take i) := by simp [rtsP]
          have hskip := fun b (hb : b < (rts f).length) (hk : (rts f)[b] < 0) => rtsP_skip f hb hk
          have htake := fun b (hb : b < (rts f).length) (hk : 0 ≤ (rts f)[b]) => rtsP_take f hb hk
          rw [er]
          generalize allR (p.fns.take i) = A at hM hnext hsub e0 ⊢
          generalize hB4 : rts f = L at hR hRl hskip htake
          refine Tri.loop (ι := Nat) (fun b => b ≤ 2 ∧ Met p (A ++ rtsP f b)) (fun b => ⟨115, [(1, .ip (programC true p) 0), (2, vB false), (4, .ref 4 [] p.nodes.length), (61, .imm 80 (rows (fnC true) p.fns)), (62, vI p.fns.length), (63, vI i), (84, .ref 3084 [] 2), (85, vI (2 : Nat)), (86, vI b)], [(3084, .row 3 (row1 cI L)), (4, .row 3 (row1 cI (tabI p.nodes.length (metF p (A ++ rtsP f b)))))]⟩) (fun b => 2 - b) 0 ⟨by simp, by rw [e0]; exact hM⟩ ?_ ?_
          · refine Ent.weak ?_ ?_ ?_ ?_ <;> simp (decide := true) [subT, subB, hereT, hereV, hereL, St.get, look, vI, vB, vS, cI, cS, cB, nodeC, roI, programC, e0]
          · rintro b ⟨hb, hM2⟩
            refine code_sound sized _ ?_
            by_cases hb' : b < 2
            · have e3 : ((b : Int) < ((2 : Nat) : Int)) = True := by simp; omega
              have hbl : b < L.length := by omega
              simp (decide := true) only [e3, hb', row1_getq' _ _ hbl, Int.natCast_nonneg, programC, vB, vI, drop0, row1_length, rows_length, tabI_length, cI, cB, cS, roI, ro64, hpin, go_sem, Nat.reduceAdd, Nat.reduceMul]
              rcases hR b hbl with hneg | ⟨y0, y1⟩
              · have y2 : (L[b] < 0) = True := eq_true hneg
                have e4 := hskip b hbl hneg
                simp (decide := true) only [y2, drop0, row1_length, rows_length, tabI_length, cI, cB, cS, roI, ro64, hpin, go_sem, Nat.reduceAdd, Nat.reduceMul]
                refine ⟨b + 1, ⟨hb', by rw [e4]; exact hM2⟩, by omega, Ent.weak ?_ ?_ ?_ ?_⟩
                all_goals simp (decide := true) [subT, subB, hereT, hereV, hereL, St.get, look, vI, vB, vS, cI, cS, cB, nodeC, roI, programC, e4, w64s (n := 2) hb' (by omega)]
              · have y2 : (L[b] < 0) = False := eq_false (by omega)
                have y3 : (0 ≤ L[b]) = True := eq_true y0
                have y4 : (L[b] < (p.nodes.length : Int)) = True := eq_true (by omega)
                have e4 := htake b hbl y0
                have hset := tabI_set (f := metF p (A ++ rtsP f b)) y1 (-1)
                have hgq := tabI_getq (f := metF p (A ++ rtsP f b)) y1
                rw [metF_snoc p _ y0] at hset
                simp only [cI, List.append_assoc] at hset hgq
                rw [← e4] at hset
                simp (decide := true) only [y2, y3, y4, y1, hgq, Int.natCast_nonneg, bne, drop0, row1_length, rows_length, tabI_length, cI, cB, cS, roI, ro64, hpin, go_sem, Nat.reduceAdd, Nat.reduceMul]
                cases hm : metF p (A ++ rtsP f b) L[b].toNat == 0 with
                | false =>
                  have hbad := metF_bad y0 y1 (by rw [List.append_assoc, ← e4]; exact hsub (b + 1)) (by simpa using hm)
                  simp (decide := true) only [hm, hbad, Bool.and_false, drop0, row1_length, rows_length, tabI_length, cI, cB, cS, roI, ro64, hpin, go_sem, Nat.reduceAdd, Nat.reduceMul]
                | true =>
                  have hM3 := hM2.snoc y0 (by simpa using hm)
                  rw [List.append_assoc, ← e4] at hM3
                  simp (decide := true) only [hm, hset, hgq, y1, y3, y4, drop0, row1_length, rows_length, tabI_length, cI, cB, cS, roI, ro64, hpin, go_sem, Nat.reduceAdd, Nat.reduceMul]
                  refine ⟨b + 1, ⟨hb', hM3⟩, by omega, Ent.weak ?_ ?_ ?_ ?_⟩
                  all_goals simp (decide := true) [subT, subB, hereT, hereV, hereL, St.get, look, vI, vB, vS, cI, cS, cB, nodeC, roI, programC, hgq, hset, w64s (n := 2) hb' (by omega)]
            · have hb2 : b = 2 := by omega
              subst hb2
              have e3 : (((2 : Nat) : Int) < ((2 : Nat) : Int)) = False := by simp
              rw [← hnext] at hM2
              simp (decide := true) only [e3, programC, vB, vI, drop0, row1_length, rows_length, tabI_length, cI, cB, cS, roI, ro64, hpin, go_sem, Nat.reduceAdd, Nat.reduceMul]
              refine ⟨i + 1, ⟨h', hM2, hB2⟩, by omega, Ent.weak ?_ ?_ ?_ ?_⟩
              all_goals simp (decide := true) [subT, subB, hereT, hereV, hereL, St.get, look, vI, vB, vS, cI, cS, cB, nodeC, roI, programC, hnext, w64s (n := p.fns.length) h' (by omega)]
        · have hil : i = p.fns.length := by omega
          subst hil
          have e : ((p.fns.length : Int) < (p.fns.length : Int)) = False := by simp
          rw [List.take_length] at hM
          have hlast := met_last hM hD (by omega)
          simp (decide := true) only [e, List.take_length, programC, vB, vI, drop0, row1_length, rows_length, tabI_length, cI, cB, cS, roI, ro64, hpin, go_sem, Nat.reduceAdd, Nat.reduceMul]
          rw [hB]
          refine Tri.step sized ?_
          simp (decide := true) only [programC, drop0, row1_length, rows_length, tabI_length, cI, cB, cS, roI, ro64, hpin, go_sem, Nat.reduceAdd, Nat.reduceMul]
          refine Tri.loop (ι := Nat) (fun m => m ≤ p.nodes.length ∧ rangeB (onceB p) m = true) (fun m => ⟨115, [(2, vB false), (102, .ref 4 [] p.nodes.length), (103, vI p.nodes.length), (104, vI m)], [(4, .row 3 (row1 cI (tabI p.nodes.length (metF p (allR p.fns)))))]⟩) (fun m => p.nodes.length - m) 0 ⟨by simp, rfl⟩ ?_ ?_
          · refine Ent.weak ?_ ?_ ?_ ?_ <;> simp (decide := true) [subT, subB, hereT, hereV, hereL, St.get, look, vI, vB, vS, cI, cS, cB, nodeC, roI, programC]
          · rintro m ⟨hm, hq⟩
            refine code_sound sized _ ?_
            by_cases h' : m < p.nodes.length
            · have e : ((m : Int) < (p.nodes.length : Int)) = True := by simp [h']
              have hgq := tabI_getq (f := metF p (allR p.fns)) h'
              have hl := hlast m
              simp only [cI] at hgq
              generalize metF p (allR p.fns) m = z at hgq hl
              simp (decide := true) only [e, h', hgq, Int.natCast_nonneg, bne, vB, vI, drop0, row1_length, rows_length, tabI_length, cI, cB, cS, roI, ro64, hpin, go_sem, Nat.reduceAdd, Nat.reduceMul]
              cases z1 : z == 1 with
              | true =>
                rw [z1, Bool.true_or] at hl
                simp (decide := true) only [z1, drop0, row1_length, rows_length, tabI_length, cI, cB, cS, roI, ro64, hpin, go_sem, Nat.reduceAdd, Nat.reduceMul]
                refine ⟨m + 1, ⟨h', by rw [rangeB_succ, hq, ← hl]; rfl⟩, by omega, Ent.weak ?_ ?_ ?_ ?_⟩
                all_goals simp (decide := true) [subT, subB, hereT, hereV, hereL, St.get, look, vI, vB, vS, cI, cS, cB, nodeC, roI, w64s (n := p.nodes.length) h' (by omega)]
              | false =>
                rw [z1, Bool.false_or] at hl
                cases z2 : z == -1 with
                | true =>
                  rw [z2] at hl
                  simp (decide := true) only [z1, z2, drop0, row1_length, rows_length, tabI_length, cI, cB, cS, roI, ro64, hpin, go_sem, Nat.reduceAdd, Nat.reduceMul]
                  refine ⟨m + 1, ⟨h', by rw [rangeB_succ, hq, ← hl]; rfl⟩, by omega, Ent.weak ?_ ?_ ?_ ?_⟩
                  all_goals simp (decide := true) [subT, subB, hereT, hereV, hereL, St.get, look, vI, vB, vS, cI, cS, cB, nodeC, roI, w64s (n := p.nodes.length) h' (by omega)]
                | false =>
                  rw [z2] at hl
                  have hf : rangeB (onceB p) p.nodes.length = false := rangeB_false h' hl.symm
                  simp (decide := true) only [z1, z2, hf, Bool.and_false, drop0, row1_length, rows_length, tabI_length, cI, cB, cS, roI, ro64, hpin, go_sem, Nat.reduceAdd, Nat.reduceMul]
            · have hil : m = p.nodes.length := by omega
              subst hil
              have e : ((p.nodes.length : Int) < (p.nodes.length : Int)) = False := by simp
              rw [hq]
              simp (decide := true) only [e, vB, vI, drop0, row1_length, rows_length, tabI_length, cI, cB, cS, roI, ro64, hpin, go_sem, Nat.reduceAdd, Nat.reduceMul]
              refine code_sound sized _ ?_
              simp (decide := true) only [Bool.and_true, drop0, row1_length, rows_length, tabI_length, cI, cB, cS, roI, ro64, hpin, go_sem, Nat.reduceAdd, Nat.reduceMul]
end Go.Proofs.YtnbodmohnkohfaaGreatDoor.AW
