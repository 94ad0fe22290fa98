/- Names in sight, as the reference looks at them: statements and blocks. No condition beyond those named. -/
import Derived.Test.YtnbodmohnkohfaaGreatDoorPz
namespace Go.Proofs.YtnbodmohnkohfaaGreatDoor.AW
open Go.RowKit
set_option maxHeartbeats 8000000
set_option maxRecDepth 100000
set_option linter.unusedSimpArgs false
set_option linter.unusedVariables false

theorem kidsF_snoc (S : Int → List ByteArray → Bool) (nodes : List NodeD) : ∀ (l : List Int) (k : Int) (nm : List ByteArray), kidsF S nodes true nm (l ++ [k]) = (kidsF S nodes true nm l && S k (growL nodes nm l))
  | [], k, nm => by simp [kidsF, growL]
  | a :: r, k, nm => by
    simp only [List.cons_append, kidsF]
    rw [kidsF_snoc S nodes r k, Bool.and_assoc]
    rfl
theorem kidsF_next (S : Int → List ByteArray → Bool) (nodes : List NodeD) (nm : List ByteArray) {l : List Int} {i : Nat} (h : i < l.length) : kidsF S nodes true nm (l.take (i + 1)) = (kidsF S nodes true nm (l.take i) && S l[i] (growL nodes nm (l.take i))) := by
  rw [List.take_succ_eq_append_getElem h, kidsF_snoc]
theorem node_shape {nodes : List NodeD} {n : Nat} (hd : dAt nodes n ≠ 0) (hn : n < nodes.length) : inI nodes[n].kids.length (shapeI nodes[n].kind).1 (shapeI nodes[n].kind).2 = true := by
  have hb := dAt_node nodes n hd
  simp only [nodeB, Bool.and_eq_true, nodeXB] at hb
  obtain ⟨_, _, hs, _⟩ := hb
  rwa [nAt_nat hn] at hs
/-- What a statement brings into sight. -/
def stepN (nm : List ByteArray) (x : NodeD) : List ByteArray := if x.kind == 13 then nm ++ [x.name] else nm
theorem strs_app (l m : List ByteArray) : row1 cS l ++ row1 cS m = row1 cS (l ++ m) := by simp [row1]

def StepAt (p : ProgramD) (f n : Nat) : Prop := isStepB (nAt p.nodes n).kind = true → ∀ (nm : List ByteArray) (bad : Bool), nm.length + 300 * n ≤ 4194304 →
    SoundAt Tryz.prog 164 (fun uf => argsV 0 [.ro (.bp 2000 0), .ro (.sc (.int .i64 n))]) [(2000, .box (seenC p f nm bad))]
      (fun rs st => rs = [] ∧ nowIs st.ob [(2000, .box (seenC p f (stepN nm (nAt p.nodes n)) (bad || !seenB p f n nm)))])
def BlockAt (p : ProgramD) (f n : Nat) : Prop := (nAt p.nodes n).kind == 20 → ∀ (nm : List ByteArray) (bad : Bool), nm.length + 300 * n ≤ 4194304 →
    SoundAt Tryz.prog 133 (fun uf => argsV 0 [.ro (.bp 2000 0), .ro (.sc (.int .i64 n))]) [(2000, .box (seenC p f nm bad))]
      (fun rs st => rs = [] ∧ nowIs st.ob [(2000, .box (seenC p f (growL p.nodes nm (nAt p.nodes n).kids) (bad || !seenB p f n nm)))])

theorem block_of (p : ProgramD) (hD : Deep p.nodes) (f : Nat) (hk : ∀ x ∈ p.nodes, x.kids.length ≤ 300) (n : Nat) (hnl : n < p.nodes.length) (ih : ∀ m, m < n → StepAt p f m) : BlockAt p f n := by
  intro h20 nm bad hnm
  rw [nAt_nat hnl] at h20 ⊢
  have hkid := hD.kid hnl
  have hkx := hk p.nodes[n] (List.getElem_mem hnl)
  have heq := seenB_eq hD f hnl nm
  have hx : (rows (nodeC true) p.nodes).getD n [] = nodeC true p.nodes[n] := rows_get _ _ hnl
  have hrec : ∀ i (hi : i < p.nodes[n].kids.length), ∀ (L : List ByteArray) (b : Bool), L.length + 300 * p.nodes[n].kids[i].toNat ≤ 4194304 → SoundAt Tryz.prog 164 (fun uf => argsV 0 [.ro (.bp 2000 0), .ro (.sc (.int .i64 p.nodes[n].kids[i]))]) [(2000, .box (seenC p f L b))]
      (fun rs st => rs = [] ∧ nowIs st.ob [(2000, .box (seenC p f (growN p.nodes true L p.nodes[n].kids[i]) (b || !seenB p f p.nodes[n].kids[i] L)))]) := fun i hi L b hL => by
    have hft := node_fits (hD.deep n hnl) hnl hi
    unfold fitsB at hft
    rw [h20, if_pos rfl] at hft
    obtain ⟨q0, q1, q2⟩ := hkid p.nodes[n].kids[i] (List.getElem_mem hi)
    have e : p.nodes[n].kids[i] = (p.nodes[n].kids[i].toNat : Int) := by omega
    have := ih p.nodes[n].kids[i].toNat q2 (by rw [← e]; exact hft) L b hL
    rw [← e] at this
    exact this
  have hown : ownB p f nm p.nodes[n] = true := by
    have hk := eq_of_beq h20
    unfold ownB usesB; rw [hk]; simp [inI]
  rw [hown, Bool.true_and, h20] at heq
  generalize seenB p f n nm = R at heq ⊢
  have hc1 : ((n : Int) < (p.nodes.length : Int)) = True := eq_true (by omega)
  generalize p.nodes[n] = x at hkid hkx heq hx hrec
  refine sound_tri (fn := Tryz.f133) (c := Tryz.f133.body.getD .skip) (res := []) (n := 33) sized (by kernel_rfl) (by rfl) (by kernel_rfl) (by rfl) (by rfl) (by simp [argsV]) (fun uf ub C hpin hpin2 hfull => ?_)
  simp only [Tryz.f133, Option.getD_some]
  refine Tri.step sized ?_
  simp (decide := true) only [drop0, row1_length, rows_length, programW, programC, seenC, cI, cB, cS, roI, ro64, hpin, hpin2, go_sem, Nat.reduceAdd, Nat.reduceMul]
  refine code_sound sized _ ?_
  simp (decide := true) only [drop0, row1_length, rows_length, programW, programC, seenC, cI, cB, cS, roI, ro64, hpin, hpin2, go_sem, Nat.reduceAdd, Nat.reduceMul]
  refine Tri.loop (ι := Nat) (fun i => i ≤ x.kids.length) (fun i => ⟨33, [(0, .bp 2000 0), (1, vI n), (4, vI i)], [(2000, .box (seenC p f (growL p.nodes nm (x.kids.take i)) (bad || !kidsF (seenB p f) p.nodes true nm (x.kids.take i))))]⟩) (fun i => x.kids.length - i) 0 (by simp) ?_ ?_
  · have e1 : growL p.nodes nm [] = nm := rfl
    have e2 : (bad || !kidsF (seenB p f) p.nodes true nm []) = bad := by simp [kidsF]
    refine Ent.weak ?_ ?_ ?_ ?_ <;> simp (decide := true) [subT, subB, hereT, hereV, hereL, St.get, look, vI, vB, vS, cI, cS, cB, nodeC, programC, seenC, roI, e1, e2]
    all_goals simp [kidsF]
  · rintro i hi
    refine code_sound sized _ ?_
    by_cases h' : i < x.kids.length
    · have e : ((i : Int) < (x.kids.length : Int)) = True := by simp [h']
      have hgl := growL_length p.nodes (x.kids.take i) nm
      rw [List.length_take] at hgl
      obtain ⟨q0, q1, q2⟩ := hkid x.kids[i] (List.getElem_mem h')
      have hs := hrec i h' (growL p.nodes nm (x.kids.take i)) (bad || !kidsF (seenB p f) p.nodes true nm (x.kids.take i)) (by omega)
      have hnx : ((bad || !kidsF (seenB p f) p.nodes true nm (x.kids.take i)) || !seenB p f x.kids[i] (growL p.nodes nm (x.kids.take i))) = (bad || !kidsF (seenB p f) p.nodes true nm (x.kids.take (i + 1))) := by
        rw [kidsF_next _ _ _ h']
        generalize kidsF (seenB p f) p.nodes true nm (x.kids.take i) = A
        cases bad <;> cases A <;> rfl
      rw [hnx, ← growL_next p.nodes nm h'] at hs
      simp only [seenC, cI, cB] at hs
      simp (decide := true) only [e, h', hc1, hx, row1_get _ _ h', nodeC, Int.natCast_nonneg, vB, vI, drop0, row1_length, rows_length, programW, programC, seenC, cI, cB, cS, roI, ro64, hpin, hpin2, go_sem, Nat.reduceAdd, Nat.reduceMul]
      refine aCall_bxd hs hpin hfull [(2000, 2000)] [] [(2000, 2000)] ⟨rfl, rfl, rfl, rfl⟩ (fun uf => ?_) ?_
      · simp (decide := true) only [drop0, row1_length, rows_length, programW, programC, seenC, cI, cB, cS, roI, ro64, hpin, hpin2, go_sem, Nat.reduceAdd, Nat.reduceMul]
      simp (decide := true) only [drop0, row1_length, rows_length, programW, programC, seenC, cI, cB, cS, roI, ro64, hpin, hpin2, go_sem, Nat.reduceAdd, Nat.reduceMul]
      refine ⟨i + 1, h', by omega, Ent.weak ?_ ?_ ?_ ?_⟩
      all_goals simp (decide := true) [subT, subB, hereT, hereV, hereL, St.get, look, vI, vB, vS, cI, cS, cB, nodeC, programC, seenC, roI, w64s (n := x.kids.length) h' (by omega)]
    · have hil : i = x.kids.length := by omega
      subst hil
      have e : ((x.kids.length : Int) < (x.kids.length : Int)) = False := by simp
      simp (decide := true) only [e, List.take_length, hc1, hx, heq, nodeC, Int.natCast_nonneg, vB, vI, drop0, row1_length, rows_length, programW, programC, seenC, cI, cB, cS, roI, ro64, hpin, hpin2, go_sem, Nat.reduceAdd, Nat.reduceMul]

theorem step_of (p : ProgramD) (hD : Deep p.nodes) (f : Nat) (hfl : f < p.fns.length) (hf : p.fns.length ≤ 1048576) (hn : p.nodes.length ≤ 1048576) (hk : ∀ x ∈ p.nodes, x.kids.length ≤ 300) (n : Nat) (hnl : n < p.nodes.length) (ih : ∀ m, m < n → BlockAt p f m) : StepAt p f n := by
  intro hst nm bad hnm
  rw [nAt_nat hnl] at hst ⊢
  have hkid := hD.kid hnl
  have hkx := hk p.nodes[n] (List.getElem_mem hnl)
  have heq := seenB_eq hD f hnl nm
  have hx : (rows (nodeC true) p.nodes).getD n [] = nodeC true p.nodes[n] := rows_get _ _ hnl
  have hsr := inI_true (show inI p.nodes[n].kind 13 19 = true from hst)
  have v20 : (p.nodes[n].kind == 20) = false := by apply Bool.eq_false_iff.2; intro hh; have := eq_of_beq hh; omega
  have v12 : (p.nodes[n].kind == 12) = false := by apply Bool.eq_false_iff.2; intro hh; have := eq_of_beq hh; omega
  have hsh := node_shape (hD.deep n hnl) hnl
  have hpos : 0 < p.nodes[n].kids.length := by
    have := inI_true hsh
    have h1 : 1 ≤ (shapeI p.nodes[n].kind).1 := by
      rcases (show p.nodes[n].kind = 13 ∨ p.nodes[n].kind = 14 ∨ p.nodes[n].kind = 15 ∨ p.nodes[n].kind = 16 ∨ p.nodes[n].kind = 17 ∨ p.nodes[n].kind = 18 ∨ p.nodes[n].kind = 19 by omega) with h | h | h | h | h | h | h <;> rw [h] <;> decide
    omega
  have hone : (p.nodes[n].kind == 16) = false → (p.nodes[n].kind == 17) = false → p.nodes[n].kids.length = 1 := fun h16 h17 => by
    have := inI_true hsh
    have g16 : p.nodes[n].kind ≠ 16 := by simpa using h16
    have g17 : p.nodes[n].kind ≠ 17 := by simpa using h17
    have h1 : (shapeI p.nodes[n].kind).2 = 1 := by
      rcases (show p.nodes[n].kind = 13 ∨ p.nodes[n].kind = 14 ∨ p.nodes[n].kind = 15 ∨ p.nodes[n].kind = 18 ∨ p.nodes[n].kind = 19 by omega) with h | h | h | h | h <;> rw [h] <;> decide
    omega
  have hval : ∀ b : Bool, SoundAt Tryz.prog 134 (fun uf => argsV 0 [.ro (.bp 2000 0), .ro (.sc (.int .i64 p.nodes[n].kids[0]))]) [(2000, .box (seenC p f nm b))]
      (fun rs st => rs = [] ∧ nowIs st.ob [(2000, .box (seenC p f nm (b || !seenB p f p.nodes[n].kids[0] nm)))]) := fun b => by
    have hft := node_fits (hD.deep n hnl) hnl hpos
    have hv2 : isValB (nAt p.nodes p.nodes[n].kids[0]).kind = true := by
      unfold fitsB at hft
      have h00 : decide ((0 : Int) < ((0 : Nat) : Int)) = false := by decide
      rw [v20, if_neg (by decide), h00, Bool.and_false, if_neg (by decide)] at hft
      split at hft
      · have := eq_of_beq hft; rw [this]; decide
      · exact hft
    obtain ⟨q0, q1, q2⟩ := hkid p.nodes[n].kids[0] (List.getElem_mem hpos)
    have e : p.nodes[n].kids[0] = (p.nodes[n].kids[0].toNat : Int) := by omega
    have := value_sound p hD f hfl hf hn hk nm (by omega) p.nodes[n].kids[0].toNat (by omega) (by rw [← e]; exact hv2) b
    rw [← e] at this
    exact this
  have hblk : ∀ i (hi : i < p.nodes[n].kids.length), 0 < i → ((p.nodes[n].kind == 16) = true ∨ (p.nodes[n].kind == 17) = true) → ∀ b : Bool, SoundAt Tryz.prog 133 (fun uf => argsV 0 [.ro (.bp 2000 0), .ro (.sc (.int .i64 p.nodes[n].kids[i]))]) [(2000, .box (seenC p f nm b))]
      (fun rs st => rs = [] ∧ nowIs st.ob [(2000, .box (seenC p f (growL p.nodes nm (nAt p.nodes p.nodes[n].kids[i]).kids) (b || !seenB p f p.nodes[n].kids[i] nm)))]) := fun i hi hi0 h67 b => by
    have hft := node_fits (hD.deep n hnl) hnl hi
    unfold fitsB at hft
    have h68 : (p.nodes[n].kind == 16 || p.nodes[n].kind == 17) = true := by rw [Bool.or_eq_true]; exact h67
    have hi1 : decide ((0 : Int) < (i : Int)) = true := decide_eq_true (by omega)
    rw [v20, if_neg (by decide), h68, hi1, Bool.true_and, if_pos rfl] at hft
    obtain ⟨q0, q1, q2⟩ := hkid p.nodes[n].kids[i] (List.getElem_mem hi)
    have e : p.nodes[n].kids[i] = (p.nodes[n].kids[i].toNat : Int) := by omega
    have := ih p.nodes[n].kids[i].toNat q2 (by rw [← e]; exact hft) nm b (by omega)
    rw [← e] at this
    exact this
  rw [v20, kidsF_false] at heq
  unfold ownB at heq
  rw [v12, Bool.not_false, Bool.true_or, Bool.and_true] at heq
  generalize seenB p f n nm = R at heq ⊢
  have hc1 : ((n : Int) < (p.nodes.length : Int)) = True := eq_true (by omega)
  have hc0 : ((0 : Int) < (p.nodes[n].kids.length : Int)) = True := eq_true (by omega)
  generalize p.nodes[n] = x at hkid hkx heq hx hsr v20 v12 hpos hone hval hblk hc0
  have hhas := l07Has_sound nm x.name (by omega)
  have hv1 := hval bad
  have ht1 : (x.kids.take 1).all (fun kid => seenB p f kid nm) = seenB p f x.kids[0] nm := by
    have := all_take (f := fun kid => seenB p f kid nm) hpos
    simpa using this
  have hone2 : (x.kind == 16) = false → (x.kind == 17) = false → x.kids.all (fun kid => seenB p f kid nm) = seenB p f x.kids[0] nm := fun h16 h17 => by
    have h1 := hone h16 h17
    rw [← ht1, List.take_of_length_le (by omega)]
  have hg0 : (row1 cI x.kids).getD (Int.toNat 0) [] = [cI x.kids[0]] := row1_get cI x.kids hpos
  simp only [seenC, cI, cB] at hv1
  simp only [cI] at hg0
  refine sound_tri (fn := Tryz.f164) (c := Tryz.f164.body.getD .skip) (res := []) (n := 83) sized (by kernel_rfl) (by rfl) (by kernel_rfl) (by rfl) (by rfl) (by simp [argsV]) (fun uf ub C hpin hpin2 hfull => ?_)
  simp only [Tryz.f164, Option.getD_some]
  refine Tri.last (fun s => St.shb s 2000) (fun s => Ent.shb hfull 2000) ?_
  refine Tri.step sized ?_
  simp (decide := true) only [hc1, hx, nodeC, Int.natCast_nonneg, drop0, row1_length, rows_length, programW, programC, seenC, cI, cB, cS, roI, ro64, hpin, hpin2, go_sem, Nat.reduceAdd, Nat.reduceMul]
  refine Tri.ent ?_ (Ent.frb hfull 4)
  refine Tri.step sized ?_
  simp (decide := true) only [hc0, hpos, hg0, nodeC, Int.natCast_nonneg, drop0, row1_length, rows_length, programW, programC, seenC, cI, cB, cS, roI, ro64, hpin, hpin2, go_sem, Nat.reduceAdd, Nat.reduceMul]
  refine aCall_bxd hv1 hpin hfull [(2000, 2000)] [] [(2000, 2000)] ⟨rfl, rfl, rfl, rfl⟩ (fun uf => ?_) ?_
  · simp (decide := true) only [drop0, row1_length, rows_length, programW, programC, seenC, cI, cB, cS, roI, ro64, hpin, hpin2, go_sem, Nat.reduceAdd, Nat.reduceMul]
  simp (decide := true) only [nodeC, drop0, row1_length, rows_length, programW, programC, seenC, cI, cB, cS, roI, ro64, hpin, hpin2, go_sem, Nat.reduceAdd, Nat.reduceMul]
  refine Tri.step sized ?_
  simp (decide := true) only [nodeC, drop0, row1_length, rows_length, programW, programC, seenC, cI, cB, cS, roI, ro64, hpin, hpin2, go_sem, Nat.reduceAdd, Nat.reduceMul]
  refine code_sound sized _ ?_
  unfold stepN
  cases h13 : x.kind == 13 with
  | true =>
    have hk := eq_of_beq h13
    have heq2 : R = seenB p f x.kids[0] nm := by
      rw [heq, hone2 (by rw [hk]; rfl) (by rw [hk]; rfl)]
      unfold usesB; rw [hk]; simp [inI]
    rw [heq2]
    simp (decide := true) only [h13, drop0, row1_length, rows_length, programW, programC, seenC, cI, cB, cS, roI, ro64, hpin, hpin2, go_sem, Nat.reduceAdd, Nat.reduceMul]
    have hfr := strs_free nm
    have hb1 : nm.length ≤ 140737488355328 := by omega
    have hb2 : nm.length * 16 ≤ 140737488355328 := by omega
    have hb3 : nm.length + 1 ≤ 140737488355328 := by omega
    have hb4 : (nm.length + 1) * 16 ≤ 140737488355328 := by omega
    have htk := row1_takeL cS nm
    have hsn := strs_snoc nm x.name
    simp only [cS] at hsn
    refine Tri.fork sized (.one 0 true (.one 2 true (.one 3 true (.one 4 true (.one 7 true (.one 8 true (.three 1 (.two 5 (.two 6 (.one 9 false (.one 10 false (.one 11 false (.one 12 false (.one 13 false .done))))) 9 (.one 6 false (.one 10 false (.one 11 false (.one 12 false (.one 13 false .done)))))) 9 (.one 5 false (.one 6 false (.one 10 false (.one 11 false (.one 12 false (.one 13 false .done))))))) 5 (.two 1 (.two 6 (.one 9 false (.one 10 false (.one 11 false (.one 12 false (.one 13 false .done))))) 9 (.one 6 false (.one 10 false (.one 11 false (.one 12 false (.one 13 false .done)))))) 9 (.one 1 false (.one 6 false (.one 10 false (.one 11 false (.one 12 false (.one 13 false .done))))))) 9 (.two 1 (.one 5 false (.one 6 false (.one 10 false (.one 11 false (.one 12 false (.one 13 false .done)))))) 5 (.one 1 false (.one 6 false (.one 10 false (.one 11 false (.one 12 false (.one 13 false .done)))))))))))))) mixed (by kernel_rfl) (fun C2 hC2 => ?_)
    have hp2 : ∀ o, isPin o = false → C2.pin o = none := by rw [hC2]; exact hpin
    simp (decide := true) only [hfr, hb1, hb2, hb3, hb4, htk, hsn, drop0, row1_length, rows_length, programW, programC, seenC, cI, cB, cS, roI, ro64, hp2, hpin, hpin2, go_sem, Nat.reduceAdd, Nat.reduceMul]
  | false =>
  cases h14 : x.kind == 14 with
  | true =>
    have heq2 : R = (anyEq nm x.name && seenB p f x.kids[0] nm) := by
      have hk := eq_of_beq h14
      rw [heq, hone2 (by rw [hk]; rfl) (by rw [hk]; rfl)]
      unfold usesB; rw [hk]; simp [inI]
    simp (decide := true) only [h13, h14, drop0, row1_length, rows_length, programW, programC, seenC, cI, cB, cS, roI, ro64, hpin, hpin2, go_sem, Nat.reduceAdd, Nat.reduceMul]
    focus
      cases hb : bad || !seenB p f x.kids[0] nm with
      | true =>
        refine Tri.sched sized [(0, true), (1, false), (2, false), (3, false), (4, false), (5, false), (6, true), (7, true), (8, true), (10, true), (11, true), (9, false), (12, false), (13, false), (14, false), (15, false), (16, false), (17, false)] mixed (by kernel_rfl) (fun C2 hC2 => ?_)
        have hp2 : ∀ o, isPin o = false → C2.pin o = none := by rw [hC2]; exact hpin
        have hfin : (bad || !R) = true := by rw [heq2]; rw [Bool.or_eq_true] at hb ⊢; rcases hb with hb | hb; exact Or.inl hb; right; simp only [Bool.not_eq_true'] at hb ⊢; rw [hb, Bool.and_false]
        simp (decide := true) only [hb, hfin, drop0, row1_length, rows_length, programW, programC, seenC, cI, cB, cS, roI, ro64, hp2, hpin, hpin2, go_sem, Nat.reduceAdd, Nat.reduceMul]
      | false =>
        refine Tri.sched sized [(0, true), (1, false), (2, false), (3, false), (4, false), (5, false), (6, true), (7, true), (8, true), (10, true), (11, true), (9, false), (12, false), (13, false), (14, false), (15, false), (16, false), (17, false)] mixed (by kernel_rfl) (fun C2 hC2 => ?_)
        have hp2 : ∀ o, isPin o = false → C2.pin o = none := by rw [hC2]; exact hpin
        obtain ⟨hb1, hb2⟩ := Bool.or_eq_false_iff.1 hb
        have hfin : (bad || !R) = !anyEq nm x.name := by
          rw [heq2, hb1, Bool.false_or]
          simp only [Bool.not_eq_false'] at hb2
          rw [hb2, Bool.and_true]
        simp (decide := true) only [hb, drop0, row1_length, rows_length, programW, programC, seenC, cI, cB, cS, roI, ro64, hp2, hpin, hpin2, go_sem, Nat.reduceAdd, Nat.reduceMul]
        refine aCall_det hhas hp2 ?_
        simp (decide := true) only [hfin, drop0, row1_length, rows_length, programW, programC, seenC, cI, cB, cS, roI, ro64, hp2, hpin, hpin2, go_sem, Nat.reduceAdd, Nat.reduceMul]
  | false =>
  cases h15 : x.kind == 15 with
  | true =>
    have heq2 : R = (anyEq nm x.name && seenB p f x.kids[0] nm) := by
      have hk := eq_of_beq h15
      rw [heq, hone2 (by rw [hk]; rfl) (by rw [hk]; rfl)]
      unfold usesB; rw [hk]; simp [inI]
    simp (decide := true) only [h13, h14, h15, drop0, row1_length, rows_length, programW, programC, seenC, cI, cB, cS, roI, ro64, hpin, hpin2, go_sem, Nat.reduceAdd, Nat.reduceMul]
    focus
      cases hb : bad || !seenB p f x.kids[0] nm with
      | true =>
        refine Tri.sched sized [(0, true), (1, false), (2, false), (3, false), (4, false), (5, false), (6, true), (7, true), (8, true), (10, true), (11, true), (9, false), (12, false), (13, false), (14, false), (15, false), (16, false), (17, false)] mixed (by kernel_rfl) (fun C2 hC2 => ?_)
        have hp2 : ∀ o, isPin o = false → C2.pin o = none := by rw [hC2]; exact hpin
        have hfin : (bad || !R) = true := by rw [heq2]; rw [Bool.or_eq_true] at hb ⊢; rcases hb with hb | hb; exact Or.inl hb; right; simp only [Bool.not_eq_true'] at hb ⊢; rw [hb, Bool.and_false]
        simp (decide := true) only [hb, hfin, drop0, row1_length, rows_length, programW, programC, seenC, cI, cB, cS, roI, ro64, hp2, hpin, hpin2, go_sem, Nat.reduceAdd, Nat.reduceMul]
      | false =>
        refine Tri.sched sized [(0, true), (1, false), (2, false), (3, false), (4, false), (5, false), (6, true), (7, true), (8, true), (10, true), (11, true), (9, false), (12, false), (13, false), (14, false), (15, false), (16, false), (17, false)] mixed (by kernel_rfl) (fun C2 hC2 => ?_)
        have hp2 : ∀ o, isPin o = false → C2.pin o = none := by rw [hC2]; exact hpin
        obtain ⟨hb1, hb2⟩ := Bool.or_eq_false_iff.1 hb
        have hfin : (bad || !R) = !anyEq nm x.name := by
          rw [heq2, hb1, Bool.false_or]
          simp only [Bool.not_eq_false'] at hb2
          rw [hb2, Bool.and_true]
        simp (decide := true) only [hb, drop0, row1_length, rows_length, programW, programC, seenC, cI, cB, cS, roI, ro64, hp2, hpin, hpin2, go_sem, Nat.reduceAdd, Nat.reduceMul]
        refine aCall_det hhas hp2 ?_
        simp (decide := true) only [hfin, drop0, row1_length, rows_length, programW, programC, seenC, cI, cB, cS, roI, ro64, hp2, hpin, hpin2, go_sem, Nat.reduceAdd, Nat.reduceMul]
  | false =>
  have hu : usesB x.kind = false := by
    unfold usesB
    rw [h14, h15]
    have i2 : inI x.kind 2 6 = false := by
      apply Bool.eq_false_iff.2; intro hh
      have := inI_true hh
      omega
    rw [i2]; rfl
  rw [hu, Bool.not_false, Bool.true_or, Bool.true_and] at heq
  have hloop : ((x.kind == 16) = true ∨ (x.kind == 17) = true) → ∀ i (hi : i < x.kids.length), 0 < i → SoundAt Tryz.prog 133 (fun uf => argsV 0 [.ro (.bp 2000 0), .ro (.sc (.int .i64 x.kids[i]))]) [(2000, .box (seenC p f nm (bad || !(x.kids.take i).all (fun kid => seenB p f kid nm))))]
      (fun rs st => rs = [] ∧ nowIs st.ob [(2000, .box (seenC p f (growL p.nodes nm (nAt p.nodes x.kids[i]).kids) (bad || !(x.kids.take (i + 1)).all (fun kid => seenB p f kid nm))))]) := fun h67 i hi hi0 => by
    have hs := hblk i hi hi0 h67 (bad || !(x.kids.take i).all (fun kid => seenB p f kid nm))
    have hnx : ((bad || !(x.kids.take i).all (fun kid => seenB p f kid nm)) || !seenB p f x.kids[i] nm) = (bad || !(x.kids.take (i + 1)).all (fun kid => seenB p f kid nm)) := by
      rw [all_take hi]
      generalize (x.kids.take i).all (fun kid => seenB p f kid nm) = A
      cases bad <;> cases A <;> rfl
    rw [hnx] at hs
    exact hs
  simp only [seenC, cI, cB] at hloop
  cases h16 : x.kind == 16 with
  | true =>
    have h67 : (x.kind == 16) = true ∨ (x.kind == 17) = true := by simp [h16]
    simp (decide := true) only [h13, h14, h15, h16, drop0, row1_length, rows_length, programW, programC, seenC, cI, cB, cS, roI, ro64, hpin, hpin2, go_sem, Nat.reduceAdd, Nat.reduceMul]
    refine Tri.loop (ι := Nat) (fun i => 0 < i ∧ i ≤ x.kids.length) (fun i => ⟨83, [(0, .bp 2000 0), (4, .ip (nodeC true x) 0), (5, vI i)], [(2000, .box (seenC p f nm (bad || !(x.kids.take i).all (fun kid => seenB p f kid nm))))]⟩) (fun i => x.kids.length - i) 1 ⟨by omega, by omega⟩ ?_ ?_
    · refine Ent.weak ?_ ?_ ?_ ?_ <;> simp (decide := true) [ht1, subT, subB, hereT, hereV, hereL, St.get, look, vI, vB, vS, cI, cS, cB, nodeC, programC, seenC, roI]
    · rintro i ⟨hi0, hi⟩
      refine code_sound sized _ ?_
      by_cases h' : i < x.kids.length
      · have e : ((i : Int) < (x.kids.length : Int)) = True := by simp [h']
        have hs := hloop h67 i h' hi0
        simp (decide := true) only [e, h', row1_get _ _ h', nodeC, Int.natCast_nonneg, vB, vI, drop0, row1_length, rows_length, programW, programC, seenC, cI, cB, cS, roI, ro64, hpin, hpin2, go_sem, Nat.reduceAdd, Nat.reduceMul]
        refine aCall_bxd hs hpin hfull [(2000, 2000)] [] [(2000, 2000)] ⟨rfl, rfl, rfl, rfl⟩ (fun uf => ?_) ?_
        · simp (decide := true) only [drop0, row1_length, rows_length, programW, programC, seenC, cI, cB, cS, roI, ro64, hpin, hpin2, go_sem, Nat.reduceAdd, Nat.reduceMul]
        simp (decide := true) only [drop0, row1_length, rows_length, programW, programC, seenC, cI, cB, cS, roI, ro64, hpin, hpin2, go_sem, Nat.reduceAdd, Nat.reduceMul]
        refine ⟨i + 1, ⟨by omega, h'⟩, by omega, Ent.weak ?_ ?_ ?_ ?_⟩
        all_goals simp (decide := true) [subT, subB, hereT, hereV, hereL, St.get, look, vI, vB, vS, cI, cS, cB, nodeC, programC, seenC, roI, w64s (n := x.kids.length) h' (by omega)]
      · have hil : i = x.kids.length := by omega
        subst hil
        have e : ((x.kids.length : Int) < (x.kids.length : Int)) = False := by simp
        simp (decide := true) only [e, List.take_length, heq, nodeC, Int.natCast_nonneg, vB, vI, drop0, row1_length, rows_length, programW, programC, seenC, cI, cB, cS, roI, ro64, hpin, hpin2, go_sem, Nat.reduceAdd, Nat.reduceMul]
  | false =>
  cases h17 : x.kind == 17 with
  | true =>
    have h67 : (x.kind == 16) = true ∨ (x.kind == 17) = true := by simp [h17]
    simp (decide := true) only [h13, h14, h15, h16, h17, drop0, row1_length, rows_length, programW, programC, seenC, cI, cB, cS, roI, ro64, hpin, hpin2, go_sem, Nat.reduceAdd, Nat.reduceMul]
    refine Tri.loop (ι := Nat) (fun i => 0 < i ∧ i ≤ x.kids.length) (fun i => ⟨83, [(0, .bp 2000 0), (4, .ip (nodeC true x) 0), (5, vI i)], [(2000, .box (seenC p f nm (bad || !(x.kids.take i).all (fun kid => seenB p f kid nm))))]⟩) (fun i => x.kids.length - i) 1 ⟨by omega, by omega⟩ ?_ ?_
    · refine Ent.weak ?_ ?_ ?_ ?_ <;> simp (decide := true) [ht1, subT, subB, hereT, hereV, hereL, St.get, look, vI, vB, vS, cI, cS, cB, nodeC, programC, seenC, roI]
    · rintro i ⟨hi0, hi⟩
      refine code_sound sized _ ?_
      by_cases h' : i < x.kids.length
      · have e : ((i : Int) < (x.kids.length : Int)) = True := by simp [h']
        have hs := hloop h67 i h' hi0
        simp (decide := true) only [e, h', row1_get _ _ h', nodeC, Int.natCast_nonneg, vB, vI, drop0, row1_length, rows_length, programW, programC, seenC, cI, cB, cS, roI, ro64, hpin, hpin2, go_sem, Nat.reduceAdd, Nat.reduceMul]
        refine aCall_bxd hs hpin hfull [(2000, 2000)] [] [(2000, 2000)] ⟨rfl, rfl, rfl, rfl⟩ (fun uf => ?_) ?_
        · simp (decide := true) only [drop0, row1_length, rows_length, programW, programC, seenC, cI, cB, cS, roI, ro64, hpin, hpin2, go_sem, Nat.reduceAdd, Nat.reduceMul]
        simp (decide := true) only [drop0, row1_length, rows_length, programW, programC, seenC, cI, cB, cS, roI, ro64, hpin, hpin2, go_sem, Nat.reduceAdd, Nat.reduceMul]
        refine ⟨i + 1, ⟨by omega, h'⟩, by omega, Ent.weak ?_ ?_ ?_ ?_⟩
        all_goals simp (decide := true) [subT, subB, hereT, hereV, hereL, St.get, look, vI, vB, vS, cI, cS, cB, nodeC, programC, seenC, roI, w64s (n := x.kids.length) h' (by omega)]
      · have hil : i = x.kids.length := by omega
        subst hil
        have e : ((x.kids.length : Int) < (x.kids.length : Int)) = False := by simp
        simp (decide := true) only [e, List.take_length, heq, nodeC, Int.natCast_nonneg, vB, vI, drop0, row1_length, rows_length, programW, programC, seenC, cI, cB, cS, roI, ro64, hpin, hpin2, go_sem, Nat.reduceAdd, Nat.reduceMul]
  | false =>
  have hfin := hone2 h16 h17
  rw [hfin] at heq
  simp (decide := true) only [h13, h14, h15, h16, h17, heq, drop0, row1_length, rows_length, programW, programC, seenC, cI, cB, cS, roI, ro64, hpin, hpin2, go_sem, Nat.reduceAdd, Nat.reduceMul]

/-- Statements and blocks, all of them. -/
theorem look_all (p : ProgramD) (hD : Deep p.nodes) (f : Nat) (hfl : f < p.fns.length) (hf : p.fns.length ≤ 1048576) (hn : p.nodes.length ≤ 1048576) (hk : ∀ x ∈ p.nodes, x.kids.length ≤ 300) (n : Nat) : n < p.nodes.length → StepAt p f n ∧ BlockAt p f n := by
  induction n using Nat.strongRecOn with
  | ind n ih =>
  intro hnl
  exact ⟨step_of p hD f hfl hf hn hk n hnl (fun m hm => (ih m hm (by omega)).2), block_of p hD f hk n hnl (fun m hm => (ih m hm (by omega)).1)⟩
end Go.Proofs.YtnbodmohnkohfaaGreatDoor.AW
