/- Names in sight, as the reference looks at them: values. No condition beyond those named. -/
import Derived.Test.YtnbodmohnkohfaaGreatDoorPy
namespace Go.Proofs.YtnbodmohnkohfaaGreatDoor.AW
open Go.RowKit
set_option maxHeartbeats 8000000
set_option maxRecDepth 100000
set_option linter.unusedSimpArgs false
set_option linter.unusedVariables false

theorem fSeen0 : fo Tryz.prog 147 0 = some 0 := by kernel_rfl
theorem fSeen1 : fo Tryz.prog 147 1 = some 2 := by kernel_rfl
theorem fSeen2 : fo Tryz.prog 147 2 = some 3 := by kernel_rfl
theorem fSeen3 : fo Tryz.prog 147 3 = some 4 := by kernel_rfl
theorem rSeen : isR Tryz.prog 147 = some true := by kernel_rfl
theorem sSeen : szT Tryz.prog 147 = 5 := by kernel_rfl
theorem zSeen : zeroCells Tryz.prog 147 = some [.slice none 0 0, .slice none 0 0, .int .i64 0, .slice none 0 0, .bool false] := by kernel_rfl
theorem plSeen : placesT Tryz.prog 147 = some [(0, 2), (2, 1), (3, 1), (4, 1)] := by kernel_rfl
attribute [go_sem] fSeen0 fSeen1 fSeen2 fSeen3 rSeen sSeen zSeen plSeen
/-- Who looks: at which program and function, what is in sight, whether something is not. -/
def seenC (p : ProgramD) (f : Nat) (nm : List ByteArray) (bad : Bool) : List D := [.row true 60 (rows (nodeC true) p.nodes), .row true 80 (rows (fnC true) p.fns), cI f, .row true 9 (row1 cS nm), cB bad]

theorem kidsF_false (S : Int → List ByteArray → Bool) (nodes : List NodeD) (nm : List ByteArray) : ∀ l : List Int, kidsF S nodes false nm l = l.all (fun kid => S kid nm)
  | [] => rfl
  | k :: r => by
    unfold kidsF growN
    rw [Bool.false_and, if_neg (by decide), kidsF_false S nodes nm r]; rfl
theorem node_fits {nodes : List NodeD} {n : Nat} (hd : dAt nodes n ≠ 0) (hn : n < nodes.length) {i : Nat} (hi : i < nodes[n].kids.length) : fitsB nodes[n].kind i (nAt nodes nodes[n].kids[i]).kind = true := by
  have hb := dAt_node nodes n hd
  simp only [nodeB, Bool.and_eq_true, nodeXB] at hb
  obtain ⟨_, _, _, _, _, hr⟩ := hb
  rw [nAt_nat hn, rangeB_true] at hr
  have := hr i hi
  simp only [kidB, Bool.and_eq_true] at this
  have hg : nodes[n].kids.getD i 0 = nodes[n].kids[i] := by simp [List.getD, hi]
  rw [hg] at this
  exact this.2.2
theorem val_ne {k : Int} (h : isValB k = true) : (k == 20) = false ∧ (k == 16) = false ∧ (k == 17) = false ∧ (k == 19) = false ∧ (k == 14) = false ∧ (k == 15) = false ∧ (k == 13) = false := by
  have := inI_true (show inI k 1 12 = true from h)
  refine ⟨?_, ?_, ?_, ?_, ?_, ?_, ?_⟩ <;> (apply Bool.eq_false_iff.2; intro hh; have := eq_of_beq hh; omega)
theorem all_take {f : Int → Bool} {l : List Int} {i : Nat} (h : i < l.length) : (l.take (i + 1)).all f = ((l.take i).all f && f l[i]) := by
  rw [List.take_succ_eq_append_getElem h, List.all_append]; simp
theorem value_sound (p : ProgramD) (hD : Deep p.nodes) (f : Nat) (hfl : f < p.fns.length) (hf : p.fns.length ≤ 1048576) (hn : p.nodes.length ≤ 1048576) (hk : ∀ x ∈ p.nodes, x.kids.length ≤ 300) (nm : List ByteArray) (hnm : nm.length ≤ 4194304) (n : Nat) : n < p.nodes.length → isValB (nAt p.nodes n).kind = true → ∀ bad : Bool,
    SoundAt Tryz.prog 134 (fun uf => argsV 0 [.ro (.bp 2000 0), .ro (.sc (.int .i64 n))]) [(2000, .box (seenC p f nm bad))]
      (fun rs st => rs = [] ∧ nowIs st.ob [(2000, .box (seenC p f nm (bad || !seenB p f n nm)))]) := by
  induction n using Nat.strongRecOn with
  | ind n ih =>
  intro hnl hval bad
  rw [nAt_nat hnl] at hval
  have hkid := hD.kid hnl
  have hkx := hk p.nodes[n] (List.getElem_mem hnl)
  have heq := seenB_eq hD f hnl nm
  have hx : (rows (nodeC true) p.nodes).getD n [] = nodeC true p.nodes[n] := rows_get _ _ hnl
  obtain ⟨v20, v16, v17, v19, v14, v15, v13⟩ := val_ne hval
  have hrec : ∀ i (hi : i < p.nodes[n].kids.length), ∀ b : Bool, SoundAt Tryz.prog 134 (fun uf => argsV 0 [.ro (.bp 2000 0), .ro (.sc (.int .i64 p.nodes[n].kids[i]))]) [(2000, .box (seenC p f nm b))]
      (fun rs st => rs = [] ∧ nowIs st.ob [(2000, .box (seenC p f nm (b || !seenB p f p.nodes[n].kids[i] nm)))]) := fun i hi b => by
    have hft := node_fits (hD.deep n hnl) hnl hi
    unfold fitsB at hft
    rw [v20, v16, v17, v19] at hft
    have hv2 : isValB (nAt p.nodes p.nodes[n].kids[i]).kind = true := hft
    obtain ⟨q0, q1, q2⟩ := hkid p.nodes[n].kids[i] (List.getElem_mem hi)
    have e : p.nodes[n].kids[i] = (p.nodes[n].kids[i].toNat : Int) := by omega
    have := ih p.nodes[n].kids[i].toNat q2 (by omega) (by rw [← e]; exact hv2) b
    rw [← e] at this
    exact this
  rw [v20, kidsF_false] at heq
  generalize seenB p f n nm = R at heq ⊢
  have hc1 : ((n : Int) < (p.nodes.length : Int)) = True := eq_true (by omega)
  generalize p.nodes[n] = x at hkid hkx heq hx hval v20 v16 v17 v19 v14 v15 v13 hrec
  have hhas := l07Has_sound nm x.name hnm
  have hfa := fnAtS_sound p x.name hf
  simp only [programW] at hfa
  refine sound_tri (fn := Tryz.f134) (c := Tryz.f134.body.getD .skip) (res := []) (n := 98) sized (by kernel_rfl) (by rfl) (by kernel_rfl) (by rfl) (by rfl) (by simp [argsV]) (fun uf ub C hpin hpin2 hfull => ?_)
  simp only [Tryz.f134, Option.getD_some]
  refine Tri.step sized ?_
  simp (decide := true) only [hc1, hx, nodeC, Int.natCast_nonneg, drop0, row1_length, rows_length, programW, programC, seenC, cI, cB, cS, roI, ro64, hpin, hpin2, go_sem, Nat.reduceAdd, Nat.reduceMul]
  refine Tri.ent ?_ (Ent.frb hfull 4)
  refine Tri.step sized ?_
  simp (decide := true) only [drop0, row1_length, rows_length, programW, programC, seenC, cI, cB, cS, roI, ro64, hpin, hpin2, go_sem, Nat.reduceAdd, Nat.reduceMul]
  refine Tri.loop (ι := Nat) (fun i => i ≤ x.kids.length) (fun i => ⟨98, [(0, .bp 2000 0), (1, vI n), (4, .ip (nodeC true x) 0), (5, vI i)], [(2000, .box (seenC p f nm (bad || !(x.kids.take i).all (fun kid => seenB p f kid nm))))]⟩) (fun i => x.kids.length - i) 0 (by simp) ?_ ?_
  · refine Ent.weak ?_ ?_ ?_ ?_ <;> simp (decide := true) [subT, subB, hereT, hereV, hereL, St.get, look, vI, vB, vS, cI, cS, cB, nodeC, programC, seenC, roI]
  · rintro i hi
    refine code_sound sized _ ?_
    by_cases h' : i < x.kids.length
    · have e : ((i : Int) < (x.kids.length : Int)) = True := by simp [h']
      have hs := hrec i h' (bad || !(x.kids.take i).all (fun kid => seenB p f kid nm))
      have hnx : ((bad || !(x.kids.take i).all (fun kid => seenB p f kid nm)) || !seenB p f x.kids[i] nm) = (bad || !(x.kids.take (i + 1)).all (fun kid => seenB p f kid nm)) := by
        rw [all_take h']
        generalize (x.kids.take i).all (fun kid => seenB p f kid nm) = A
        cases bad <;> cases A <;> rfl
      rw [hnx] at hs
      simp only [seenC, cI, cB] at hs
      simp (decide := true) only [e, h', row1_get _ _ h', nodeC, Int.natCast_nonneg, vB, vI, drop0, row1_length, rows_length, programW, programC, seenC, cI, cB, cS, roI, ro64, hpin, hpin2, go_sem, Nat.reduceAdd, Nat.reduceMul]
      refine aCall_bxd hs hpin hfull [(2000, 2000)] [] [(2000, 2000)] ⟨rfl, rfl, rfl, rfl⟩ (fun uf => ?_) ?_
      · simp (decide := true) only [drop0, row1_length, rows_length, programW, programC, seenC, cI, cB, cS, roI, ro64, hpin, hpin2, go_sem, Nat.reduceAdd, Nat.reduceMul]
      simp (decide := true) only [drop0, row1_length, rows_length, programW, programC, seenC, cI, cB, cS, roI, ro64, hpin, hpin2, go_sem, Nat.reduceAdd, Nat.reduceMul]
      refine ⟨i + 1, h', by omega, Ent.weak ?_ ?_ ?_ ?_⟩
      all_goals simp (decide := true) [subT, subB, hereT, hereV, hereL, St.get, look, vI, vB, vS, cI, cS, cB, nodeC, programC, seenC, roI, w64s (n := x.kids.length) h' (by omega)]
    have hil : i = x.kids.length := by omega
    subst hil
    have e : ((x.kids.length : Int) < (x.kids.length : Int)) = False := by simp
    simp (decide := true) only [e, List.take_length, nodeC, vB, vI, drop0, row1_length, rows_length, programW, programC, seenC, cI, cB, cS, roI, ro64, hpin, hpin2, go_sem, Nat.reduceAdd, Nat.reduceMul]
    refine Tri.step sized ?_
    simp (decide := true) only [nodeC, drop0, row1_length, rows_length, programW, programC, seenC, cI, cB, cS, roI, ro64, hpin, hpin2, go_sem, Nat.reduceAdd, Nat.reduceMul]
    refine code_sound sized _ ?_
    cases h2 : x.kind == 2 with
    | true =>
      have heq2 : R = (ownB p f nm x && x.kids.all (fun kid => seenB p f kid nm)) := heq
      have hown : ownB p f nm x = anyEq nm x.name := by
        have hk := eq_of_beq h2
        unfold ownB usesB; rw [hk]; simp [inI]
      simp (decide := true) only [h2, drop0, row1_length, rows_length, programW, programC, seenC, cI, cB, cS, roI, ro64, hpin, hpin2, go_sem, Nat.reduceAdd, Nat.reduceMul]
      cases hb : bad || !x.kids.all (fun kid => seenB p f kid nm) with
      | true =>
        refine Tri.sched sized [(0, true), (1, false), (2, false), (3, false), (4, false), (5, false), (6, true), (7, true), (8, true), (10, true), (11, true), (9, false), (12, false), (13, false), (14, false), (15, false), (16, false), (17, false)] mixed (by kernel_rfl) (fun C2 hC2 => ?_)
        have hp2 : ∀ o, isPin o = false → C2.pin o = none := by rw [hC2]; exact hpin
        have hfin : (bad || !R) = true := by rw [heq2]; rw [Bool.or_eq_true] at hb ⊢; rcases hb with hb | hb; exact Or.inl hb; right; simp only [Bool.not_eq_true'] at hb ⊢; rw [hb, Bool.and_false]
        simp (decide := true) only [hb, hfin, drop0, row1_length, rows_length, programW, programC, seenC, cI, cB, cS, roI, ro64, hp2, hpin, hpin2, go_sem, Nat.reduceAdd, Nat.reduceMul]
      | false =>
        refine Tri.sched sized [(0, true), (1, false), (2, false), (3, false), (4, false), (5, false), (6, true), (7, true), (8, true), (10, true), (11, true), (9, false), (12, false), (13, false), (14, false), (15, false), (16, false), (17, false)] mixed (by kernel_rfl) (fun C2 hC2 => ?_)
        have hp2 : ∀ o, isPin o = false → C2.pin o = none := by rw [hC2]; exact hpin
        obtain ⟨hb1, hb2⟩ := Bool.or_eq_false_iff.1 hb
        have hfin : (bad || !R) = !anyEq nm x.name := by
          rw [heq2, hb1, Bool.false_or]
          simp only [Bool.not_eq_false'] at hb2
          rw [hb2, Bool.and_true, hown]
        simp (decide := true) only [hb, drop0, row1_length, rows_length, programW, programC, seenC, cI, cB, cS, roI, ro64, hp2, hpin, hpin2, go_sem, Nat.reduceAdd, Nat.reduceMul]
        refine aCall_det hhas hp2 ?_
        simp (decide := true) only [hfin, drop0, row1_length, rows_length, programW, programC, seenC, cI, cB, cS, roI, ro64, hp2, hpin, hpin2, go_sem, Nat.reduceAdd, Nat.reduceMul]
    | false =>
    cases h3 : x.kind == 3 with
    | true =>
      have heq2 : R = (ownB p f nm x && x.kids.all (fun kid => seenB p f kid nm)) := heq
      have hown : ownB p f nm x = anyEq nm x.name := by
        have hk := eq_of_beq h3
        unfold ownB usesB; rw [hk]; simp [inI]
      simp (decide := true) only [h2, h3, drop0, row1_length, rows_length, programW, programC, seenC, cI, cB, cS, roI, ro64, hpin, hpin2, go_sem, Nat.reduceAdd, Nat.reduceMul]
      cases hb : bad || !x.kids.all (fun kid => seenB p f kid nm) with
      | true =>
        refine Tri.sched sized [(0, true), (1, false), (2, false), (3, false), (4, false), (5, false), (6, true), (7, true), (8, true), (10, true), (11, true), (9, false), (12, false), (13, false), (14, false), (15, false), (16, false), (17, false)] mixed (by kernel_rfl) (fun C2 hC2 => ?_)
        have hp2 : ∀ o, isPin o = false → C2.pin o = none := by rw [hC2]; exact hpin
        have hfin : (bad || !R) = true := by rw [heq2]; rw [Bool.or_eq_true] at hb ⊢; rcases hb with hb | hb; exact Or.inl hb; right; simp only [Bool.not_eq_true'] at hb ⊢; rw [hb, Bool.and_false]
        simp (decide := true) only [hb, hfin, drop0, row1_length, rows_length, programW, programC, seenC, cI, cB, cS, roI, ro64, hp2, hpin, hpin2, go_sem, Nat.reduceAdd, Nat.reduceMul]
      | false =>
        refine Tri.sched sized [(0, true), (1, false), (2, false), (3, false), (4, false), (5, false), (6, true), (7, true), (8, true), (10, true), (11, true), (9, false), (12, false), (13, false), (14, false), (15, false), (16, false), (17, false)] mixed (by kernel_rfl) (fun C2 hC2 => ?_)
        have hp2 : ∀ o, isPin o = false → C2.pin o = none := by rw [hC2]; exact hpin
        obtain ⟨hb1, hb2⟩ := Bool.or_eq_false_iff.1 hb
        have hfin : (bad || !R) = !anyEq nm x.name := by
          rw [heq2, hb1, Bool.false_or]
          simp only [Bool.not_eq_false'] at hb2
          rw [hb2, Bool.and_true, hown]
        simp (decide := true) only [hb, drop0, row1_length, rows_length, programW, programC, seenC, cI, cB, cS, roI, ro64, hp2, hpin, hpin2, go_sem, Nat.reduceAdd, Nat.reduceMul]
        refine aCall_det hhas hp2 ?_
        simp (decide := true) only [hfin, drop0, row1_length, rows_length, programW, programC, seenC, cI, cB, cS, roI, ro64, hp2, hpin, hpin2, go_sem, Nat.reduceAdd, Nat.reduceMul]
    | false =>
    cases h4 : x.kind == 4 with
    | true =>
      have heq2 : R = (ownB p f nm x && x.kids.all (fun kid => seenB p f kid nm)) := heq
      have hown : ownB p f nm x = anyEq nm x.name := by
        have hk := eq_of_beq h4
        unfold ownB usesB; rw [hk]; simp [inI]
      simp (decide := true) only [h2, h3, h4, drop0, row1_length, rows_length, programW, programC, seenC, cI, cB, cS, roI, ro64, hpin, hpin2, go_sem, Nat.reduceAdd, Nat.reduceMul]
      cases hb : bad || !x.kids.all (fun kid => seenB p f kid nm) with
      | true =>
        refine Tri.sched sized [(0, true), (1, false), (2, false), (3, false), (4, false), (5, false), (6, true), (7, true), (8, true), (10, true), (11, true), (9, false), (12, false), (13, false), (14, false), (15, false), (16, false), (17, false)] mixed (by kernel_rfl) (fun C2 hC2 => ?_)
        have hp2 : ∀ o, isPin o = false → C2.pin o = none := by rw [hC2]; exact hpin
        have hfin : (bad || !R) = true := by rw [heq2]; rw [Bool.or_eq_true] at hb ⊢; rcases hb with hb | hb; exact Or.inl hb; right; simp only [Bool.not_eq_true'] at hb ⊢; rw [hb, Bool.and_false]
        simp (decide := true) only [hb, hfin, drop0, row1_length, rows_length, programW, programC, seenC, cI, cB, cS, roI, ro64, hp2, hpin, hpin2, go_sem, Nat.reduceAdd, Nat.reduceMul]
      | false =>
        refine Tri.sched sized [(0, true), (1, false), (2, false), (3, false), (4, false), (5, false), (6, true), (7, true), (8, true), (10, true), (11, true), (9, false), (12, false), (13, false), (14, false), (15, false), (16, false), (17, false)] mixed (by kernel_rfl) (fun C2 hC2 => ?_)
        have hp2 : ∀ o, isPin o = false → C2.pin o = none := by rw [hC2]; exact hpin
        obtain ⟨hb1, hb2⟩ := Bool.or_eq_false_iff.1 hb
        have hfin : (bad || !R) = !anyEq nm x.name := by
          rw [heq2, hb1, Bool.false_or]
          simp only [Bool.not_eq_false'] at hb2
          rw [hb2, Bool.and_true, hown]
        simp (decide := true) only [hb, drop0, row1_length, rows_length, programW, programC, seenC, cI, cB, cS, roI, ro64, hp2, hpin, hpin2, go_sem, Nat.reduceAdd, Nat.reduceMul]
        refine aCall_det hhas hp2 ?_
        simp (decide := true) only [hfin, drop0, row1_length, rows_length, programW, programC, seenC, cI, cB, cS, roI, ro64, hp2, hpin, hpin2, go_sem, Nat.reduceAdd, Nat.reduceMul]
    | false =>
    cases h5 : x.kind == 5 with
    | true =>
      have heq2 : R = (ownB p f nm x && x.kids.all (fun kid => seenB p f kid nm)) := heq
      have hown : ownB p f nm x = anyEq nm x.name := by
        have hk := eq_of_beq h5
        unfold ownB usesB; rw [hk]; simp [inI]
      simp (decide := true) only [h2, h3, h4, h5, drop0, row1_length, rows_length, programW, programC, seenC, cI, cB, cS, roI, ro64, hpin, hpin2, go_sem, Nat.reduceAdd, Nat.reduceMul]
      cases hb : bad || !x.kids.all (fun kid => seenB p f kid nm) with
      | true =>
        refine Tri.sched sized [(0, true), (1, false), (2, false), (3, false), (4, false), (5, false), (6, true), (7, true), (8, true), (10, true), (11, true), (9, false), (12, false), (13, false), (14, false), (15, false), (16, false), (17, false)] mixed (by kernel_rfl) (fun C2 hC2 => ?_)
        have hp2 : ∀ o, isPin o = false → C2.pin o = none := by rw [hC2]; exact hpin
        have hfin : (bad || !R) = true := by rw [heq2]; rw [Bool.or_eq_true] at hb ⊢; rcases hb with hb | hb; exact Or.inl hb; right; simp only [Bool.not_eq_true'] at hb ⊢; rw [hb, Bool.and_false]
        simp (decide := true) only [hb, hfin, drop0, row1_length, rows_length, programW, programC, seenC, cI, cB, cS, roI, ro64, hp2, hpin, hpin2, go_sem, Nat.reduceAdd, Nat.reduceMul]
      | false =>
        refine Tri.sched sized [(0, true), (1, false), (2, false), (3, false), (4, false), (5, false), (6, true), (7, true), (8, true), (10, true), (11, true), (9, false), (12, false), (13, false), (14, false), (15, false), (16, false), (17, false)] mixed (by kernel_rfl) (fun C2 hC2 => ?_)
        have hp2 : ∀ o, isPin o = false → C2.pin o = none := by rw [hC2]; exact hpin
        obtain ⟨hb1, hb2⟩ := Bool.or_eq_false_iff.1 hb
        have hfin : (bad || !R) = !anyEq nm x.name := by
          rw [heq2, hb1, Bool.false_or]
          simp only [Bool.not_eq_false'] at hb2
          rw [hb2, Bool.and_true, hown]
        simp (decide := true) only [hb, drop0, row1_length, rows_length, programW, programC, seenC, cI, cB, cS, roI, ro64, hp2, hpin, hpin2, go_sem, Nat.reduceAdd, Nat.reduceMul]
        refine aCall_det hhas hp2 ?_
        simp (decide := true) only [hfin, drop0, row1_length, rows_length, programW, programC, seenC, cI, cB, cS, roI, ro64, hp2, hpin, hpin2, go_sem, Nat.reduceAdd, Nat.reduceMul]
    | false =>
    cases h6 : x.kind == 6 with
    | true =>
      have heq2 : R = (ownB p f nm x && x.kids.all (fun kid => seenB p f kid nm)) := heq
      have hown : ownB p f nm x = anyEq nm x.name := by
        have hk := eq_of_beq h6
        unfold ownB usesB; rw [hk]; simp [inI]
      simp (decide := true) only [h2, h3, h4, h5, h6, drop0, row1_length, rows_length, programW, programC, seenC, cI, cB, cS, roI, ro64, hpin, hpin2, go_sem, Nat.reduceAdd, Nat.reduceMul]
      cases hb : bad || !x.kids.all (fun kid => seenB p f kid nm) with
      | true =>
        refine Tri.sched sized [(0, true), (1, false), (2, false), (3, false), (4, false), (5, false), (6, true), (7, true), (8, true), (10, true), (11, true), (9, false), (12, false), (13, false), (14, false), (15, false), (16, false), (17, false)] mixed (by kernel_rfl) (fun C2 hC2 => ?_)
        have hp2 : ∀ o, isPin o = false → C2.pin o = none := by rw [hC2]; exact hpin
        have hfin : (bad || !R) = true := by rw [heq2]; rw [Bool.or_eq_true] at hb ⊢; rcases hb with hb | hb; exact Or.inl hb; right; simp only [Bool.not_eq_true'] at hb ⊢; rw [hb, Bool.and_false]
        simp (decide := true) only [hb, hfin, drop0, row1_length, rows_length, programW, programC, seenC, cI, cB, cS, roI, ro64, hp2, hpin, hpin2, go_sem, Nat.reduceAdd, Nat.reduceMul]
      | false =>
        refine Tri.sched sized [(0, true), (1, false), (2, false), (3, false), (4, false), (5, false), (6, true), (7, true), (8, true), (10, true), (11, true), (9, false), (12, false), (13, false), (14, false), (15, false), (16, false), (17, false)] mixed (by kernel_rfl) (fun C2 hC2 => ?_)
        have hp2 : ∀ o, isPin o = false → C2.pin o = none := by rw [hC2]; exact hpin
        obtain ⟨hb1, hb2⟩ := Bool.or_eq_false_iff.1 hb
        have hfin : (bad || !R) = !anyEq nm x.name := by
          rw [heq2, hb1, Bool.false_or]
          simp only [Bool.not_eq_false'] at hb2
          rw [hb2, Bool.and_true, hown]
        simp (decide := true) only [hb, drop0, row1_length, rows_length, programW, programC, seenC, cI, cB, cS, roI, ro64, hp2, hpin, hpin2, go_sem, Nat.reduceAdd, Nat.reduceMul]
        refine aCall_det hhas hp2 ?_
        simp (decide := true) only [hfin, drop0, row1_length, rows_length, programW, programC, seenC, cI, cB, cS, roI, ro64, hp2, hpin, hpin2, go_sem, Nat.reduceAdd, Nat.reduceMul]
    | false =>
    have hu : usesB x.kind = false := by
      unfold usesB
      rw [v14, v15]
      have i2 : inI x.kind 2 6 = false := by
        apply Bool.eq_false_iff.2; intro hh
        have := inI_true hh
        have g2 : x.kind ≠ 2 := by simpa using h2
        have g3 : x.kind ≠ 3 := by simpa using h3
        have g4 : x.kind ≠ 4 := by simpa using h4
        have g5 : x.kind ≠ 5 := by simpa using h5
        have g6 : x.kind ≠ 6 := by simpa using h6
        omega
      rw [i2]; rfl
    unfold ownB at heq
    rw [hu, Bool.not_false, Bool.true_or, Bool.true_and] at heq
    cases h12 : x.kind == 12 with
    | false =>
      rw [h12, Bool.not_false, Bool.true_or, Bool.true_and] at heq
      simp (decide := true) only [h2, h3, h4, h5, h6, h12, heq, drop0, row1_length, rows_length, programW, programC, seenC, cI, cB, cS, roI, ro64, hpin, hpin2, go_sem, Nat.reduceAdd, Nat.reduceMul]
    | true =>
    rw [h12, Bool.not_true, Bool.false_or] at heq
    simp (decide := true) only [h2, h3, h4, h5, h6, h12, drop0, row1_length, rows_length, programW, programC, seenC, cI, cB, cS, roI, ro64, hpin, hpin2, go_sem, Nat.reduceAdd, Nat.reduceMul]
    refine Tri.sched sized [(0, true), (1, true), (2, true), (4, true), (5, true), (3, false), (6, false), (7, false)] mixed (by kernel_rfl) (fun C2 hC2 => ?_)
    have hp2 : ∀ o, isPin o = false → C2.pin o = none := by rw [hC2]; exact hpin
    simp (decide := true) only [drop0, row1_length, rows_length, programW, programC, seenC, cI, cB, cS, roI, ro64, hp2, hpin, hpin2, go_sem, Nat.reduceAdd, Nat.reduceMul]
    refine aCall_det hfa hp2 ?_
    unfold callB at heq
    have hrg := findN_range x.name p.fns 0
    have hfe : fnAtP p.fns x.name = findN x.name p.fns 0 := rfl
    rw [← hfe] at hrg
    generalize fnAtP p.fns x.name = at_ at heq hrg ⊢
    simp (decide := true) only [drop0, row1_length, rows_length, programW, programC, seenC, cI, cB, cS, roI, ro64, hp2, hpin, hpin2, go_sem, Nat.reduceAdd, Nat.reduceMul]
    refine Tri.sched sized [(0, true), (1, false), (2, false), (3, false), (4, false), (5, false), (6, false), (7, false), (8, false), (9, false), (10, true), (11, false), (12, false), (13, false), (14, false), (15, false), (16, false), (17, false), (18, true), (19, true), (20, true), (21, true), (23, true), (28, true), (29, true), (30, true), (22, false), (24, false), (25, false), (26, false), (27, false), (31, false), (32, false), (33, false), (34, false), (35, false)] mixed (by kernel_rfl) (fun C3 hC3 => ?_)
    have hp3 : ∀ o, isPin o = false → C3.pin o = none := by rw [hC3]; exact hpin
    cases hb : bad || !x.kids.all (fun kid => seenB p f kid nm) with
    | true =>
      have hfin : (bad || !R) = true := by rw [heq]; rw [Bool.or_eq_true] at hb ⊢; rcases hb with hb | hb; exact Or.inl hb; right; simp only [Bool.not_eq_true'] at hb ⊢; rw [hb, Bool.and_false]
      rcases fns_any p.fns at_.toNat with ⟨y, hy⟩ | hy
      · simp (decide := true) only [hb, hfin, hy, fnC, drop0, row1_length, rows_length, programW, programC, seenC, cI, cB, cS, roI, ro64, hp3, hpin, hpin2, go_sem, Nat.reduceAdd, Nat.reduceMul]
      · simp (decide := true) only [hb, hfin, hy, List.getElem?_nil, Option.map_none, Option.getD_none, drop0, row1_length, rows_length, programW, programC, seenC, cI, cB, cS, roI, ro64, hp3, hpin, hpin2, go_sem, Nat.reduceAdd, Nat.reduceMul]
    | false =>
      obtain ⟨hb1, hb2⟩ := Bool.or_eq_false_iff.1 hb
      simp only [Bool.not_eq_false'] at hb2
      rw [hb2, Bool.and_true] at heq
      rw [hb1, Bool.false_or]
      by_cases ha : at_ < 0
      · have c1 : (at_ < 0) = True := eq_true ha
        have g0 : inI at_ 0 ((f : Int) - 1) = false := by apply Bool.eq_false_iff.2; intro hh; have := inI_true hh; omega
        rw [g0, Bool.false_and] at heq
        rcases fns_any p.fns at_.toNat with ⟨y, hy⟩ | hy
        · simp (decide := true) only [hb, c1, heq, hy, fnC, drop0, row1_length, rows_length, programW, programC, seenC, cI, cB, cS, roI, ro64, hp3, hpin, hpin2, go_sem, Nat.reduceAdd, Nat.reduceMul]
        · simp (decide := true) only [hb, c1, heq, hy, List.getElem?_nil, Option.map_none, Option.getD_none, drop0, row1_length, rows_length, programW, programC, seenC, cI, cB, cS, roI, ro64, hp3, hpin, hpin2, go_sem, Nat.reduceAdd, Nat.reduceMul]
      · have c1 : (at_ < 0) = False := eq_false ha
        obtain ⟨m, rfl⟩ : ∃ m : Nat, at_ = m := ⟨at_.toNat, by omega⟩
        have hml : m < p.fns.length := by rcases hrg with h | h <;> omega
        have hy : (rows (fnC true) p.fns).getD m [] = fnC true p.fns[m] := rows_get _ _ hml
        have hc2 : ((m : Int) < (p.fns.length : Int)) = True := eq_true (by omega)
        rw [fAt_nat hml] at heq
        generalize p.fns[m] = y at hy heq
        by_cases hge : (f : Int) ≤ (m : Int)
        · have c2 : ((f : Int) ≤ (m : Int)) = True := eq_true hge
          have g0 : inI (m : Int) 0 ((f : Int) - 1) = false := by apply Bool.eq_false_iff.2; intro hh; have := inI_true hh; omega
          rw [g0, Bool.false_and] at heq
          simp (decide := true) only [hb, c1, c2, heq, hy, hc2, fnC, Int.natCast_nonneg, ge_iff_le, drop0, row1_length, rows_length, programW, programC, seenC, cI, cB, cS, roI, ro64, hp3, hpin, hpin2, go_sem, Nat.reduceAdd, Nat.reduceMul]
        · have c2 : ((f : Int) ≤ (m : Int)) = False := eq_false hge
          have g0 : inI (m : Int) 0 ((f : Int) - 1) = true := by simp only [inI, Bool.and_eq_true, decide_eq_true_eq]; omega
          rw [g0, Bool.true_and] at heq
          simp (decide := true) only [hb, c1, c2, heq, hy, hc2, fnC, bne, Int.natCast_nonneg, ge_iff_le, drop0, row1_length, rows_length, programW, programC, seenC, cI, cB, cS, roI, ro64, hp3, hpin, hpin2, go_sem, Nat.reduceAdd, Nat.reduceMul]
end Go.Proofs.YtnbodmohnkohfaaGreatDoor.AW
