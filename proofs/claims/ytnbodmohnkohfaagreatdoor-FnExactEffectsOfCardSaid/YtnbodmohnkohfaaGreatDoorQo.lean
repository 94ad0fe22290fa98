/- What a node does with its name; nodes with all below them. No condition beyond those named. -/
import Derived.Test.YtnbodmohnkohfaaGreatDoorQm
namespace Go.Proofs.YtnbodmohnkohfaaGreatDoor.AW
open Go.RowKit
set_option maxHeartbeats 8000000
set_option maxRecDepth 100000
set_option linter.unusedSimpArgs false
set_option linter.unusedVariables false

def copyB (t : Int) : Bool := t == 1 || t == 3
def effB (k t : Int) : Int :=
  if k == 2 then (if copyB t then 1 else 4)
  else if k == 3 || k == 4 then 1
  else if k == 5 then 8
  else if k == 6 then 16
  else if k == 14 then 2
  else if k == 15 then 32
  else if k == 13 then 64
  else 0
/-- The place of the effect of a name, or as many as there are. -/
def effAt : List EffectD → ByteArray → Nat
  | [], _ => 0
  | x :: r, s => if x.name = s then 0 else effAt r s + 1
theorem effAt_le : ∀ (l : List EffectD) (s : ByteArray), effAt l s ≤ l.length
  | [], _ => Nat.le_refl _
  | x :: r, s => by
    unfold effAt
    have := effAt_le r s
    split <;> simp <;> omega
def ef0 : EffectD := ⟨⟨#[]⟩, 0⟩
def effPut (l : List EffectD) (s : ByteArray) (b : Int) : List EffectD :=
  if effAt l s < l.length then l.set (effAt l s) ⟨(l.getD (effAt l s) ef0).name, bits .or .i64 (l.getD (effAt l s) ef0).bits b⟩ else l ++ [⟨s, bits .or .i64 0 b⟩]
theorem effPut_length (l : List EffectD) (s : ByteArray) (b : Int) : (effPut l s b).length ≤ l.length + 1 := by unfold effPut; split <;> simp
def effStep (nodes : List NodeD) (vars : List VarD) (l : List EffectD) (k : Int) : List EffectD :=
  if effB (nAt nodes k).kind (varTy vars (nAt nodes k).name) == 0 then l else effPut l (nAt nodes k).name (effB (nAt nodes k).kind (varTy vars (nAt nodes k).name))
def effFold (nodes : List NodeD) (vars : List VarD) (U : List Int) : List EffectD := U.foldl (effStep nodes vars) []
theorem effFold_next (nodes : List NodeD) (vars : List VarD) {U : List Int} {i : Nat} (h : i < U.length) : effFold nodes vars (U.take (i + 1)) = effStep nodes vars (effFold nodes vars (U.take i)) U[i] := by
  unfold effFold; rw [List.take_succ_eq_append_getElem h, List.foldl_append]; rfl
theorem effStep_length (nodes : List NodeD) (vars : List VarD) (l : List EffectD) (k : Int) : (effStep nodes vars l k).length ≤ l.length + 1 := by
  unfold effStep; split
  · omega
  · exact effPut_length _ _ _
theorem effFold_length (nodes : List NodeD) (vars : List VarD) (U : List Int) : (effFold nodes vars U).length ≤ U.length := by
  unfold effFold
  suffices h : ∀ (U : List Int) (l : List EffectD), (U.foldl (effStep nodes vars) l).length ≤ l.length + U.length by simpa using h U []
  intro U
  induction U with
  | nil => intro l; simp
  | cons k r ih =>
    intro l
    have h1 := ih (effStep nodes vars l k)
    have h2 := effStep_length nodes vars l k
    simp only [List.foldl_cons, List.length_cons]
    omega

/-- Whether a node stands under one of some. -/
def inAny (p : ProgramD) (R : List Int) (m : Nat) : Prop := ∃ k ∈ R, (m : Int) ∈ underP p.nodes k
noncomputable def anyNs (p : ProgramD) (R : List Int) : List Int := ints (pick (inAny p R) p.nodes.length)
theorem anyNs_mem (p : ProgramD) (R : List Int) (x : Int) : x ∈ anyNs p R ↔ ∃ k ∈ R, x ∈ underP p.nodes k := by
  unfold anyNs
  rw [ints_memI, pick_mem]
  constructor
  · rintro ⟨h0, _, k, hk, h⟩
    exact ⟨k, hk, by rw [show x = (x.toNat : Int) by omega]; exact h⟩
  · rintro ⟨k, hk, h⟩
    have h1 := underP_mem h
    exact ⟨h1.1, h1.2.1, k, hk, by rw [show ((x.toNat : Nat) : Int) = x by omega]; exact h⟩
theorem anyNs_length (p : ProgramD) (R : List Int) : (anyNs p R).length ≤ p.nodes.length := by
  unfold anyNs; rw [ints_length]; exact pick_length _ _
theorem copyI_sound (t : Int) : Sound Tryz.prog 85 [.ro (.sc (.int .i64 t))] (fun rs st => rs = [(false, [cB (copyB t)])]) := by
  refine sound_code (fn := Tryz.f85) (c := Tryz.f85.body.getD .skip) (res := [.tm 2]) (n := 9) sized (by kernel_rfl) (by rfl) (by kernel_rfl) (by rfl) (by rfl) (by simp [argsV]) (fun C hpin hfull => ?_)
  simp (decide := true) only [Tryz.f85, drop0, row1_length, rows_length, programW, programC, cI, cB, cS, roI, ro64, hpin, go_sem, Nat.reduceAdd, Nat.reduceMul]
  unfold copyB
  cases h1 : t == 1 with
  | true => simp (decide := true) only [h1, Bool.true_or, Bool.false_or, drop0, row1_length, rows_length, programW, programC, cI, cB, cS, roI, ro64, hpin, go_sem, Nat.reduceAdd, Nat.reduceMul]
  | false => simp (decide := true) only [h1, Bool.false_or, drop0, row1_length, rows_length, programW, programC, cI, cB, cS, roI, ro64, hpin, go_sem, Nat.reduceAdd, Nat.reduceMul]
theorem copyS_sound (t : Int) : Sound Tryz.prog 77 [.ro (.sc (.int .i64 t))] (fun rs st => rs = [(false, [cB (copyB t)])]) := by
  refine sound_code (fn := Tryz.f77) (c := Tryz.f77.body.getD .skip) (res := [.tm 2]) (n := 9) sized (by kernel_rfl) (by rfl) (by kernel_rfl) (by rfl) (by rfl) (by simp [argsV]) (fun C hpin hfull => ?_)
  simp (decide := true) only [Tryz.f77, drop0, row1_length, rows_length, programW, programC, cI, cB, cS, roI, ro64, hpin, go_sem, Nat.reduceAdd, Nat.reduceMul]
  unfold copyB
  cases h1 : t == 1 with
  | true => simp (decide := true) only [h1, Bool.true_or, Bool.false_or, drop0, row1_length, rows_length, programW, programC, cI, cB, cS, roI, ro64, hpin, go_sem, Nat.reduceAdd, Nat.reduceMul]
  | false => simp (decide := true) only [h1, Bool.false_or, drop0, row1_length, rows_length, programW, programC, cI, cB, cS, roI, ro64, hpin, go_sem, Nat.reduceAdd, Nat.reduceMul]
theorem effI_sound (k t : Int) : Sound Tryz.prog 38 [.ro (.sc (.int .i64 k)), .ro (.sc (.int .i64 t))] (fun rs st => rs = [(false, [cI (effB k t)])]) := by
  refine sound_code (fn := Tryz.f38) (c := Tryz.f38.body.getD .skip) (res := [.tm 4]) (n := 23) sized (by kernel_rfl) (by rfl) (by kernel_rfl) (by rfl) (by rfl) (by simp [argsV]) (fun C hpin hfull => ?_)
  obtain ⟨e, he⟩ : ∃ e, effB k t = e := ⟨_, rfl⟩
  rw [he]
  unfold effB at he
  cases h2 : k == 2 with
  | true =>
    have ek := eq_of_beq h2
    rw [ek] at he
    subst ek
    cases hc : copyB t with
    | true =>
      simp (decide := true) only [hc, if_true, if_false, Int.reduceBEq, Bool.false_eq_true] at he
      subst he
      simp (decide := true) only [Tryz.f38, Int.reduceBEq, drop0, row1_length, rows_length, programW, programC, cI, cB, cS, roI, ro64, hpin, go_sem, Nat.reduceAdd, Nat.reduceMul]
      refine aCall_det (copyI_sound t) hpin ?_
      simp (decide := true) only [hc, drop0, row1_length, rows_length, programW, programC, cI, cB, cS, roI, ro64, hpin, go_sem, Nat.reduceAdd, Nat.reduceMul]
    | false =>
      simp (decide := true) only [hc, if_true, if_false, Int.reduceBEq, Bool.false_eq_true] at he
      subst he
      simp (decide := true) only [Tryz.f38, Int.reduceBEq, drop0, row1_length, rows_length, programW, programC, cI, cB, cS, roI, ro64, hpin, go_sem, Nat.reduceAdd, Nat.reduceMul]
      refine aCall_det (copyI_sound t) hpin ?_
      simp (decide := true) only [hc, drop0, row1_length, rows_length, programW, programC, cI, cB, cS, roI, ro64, hpin, go_sem, Nat.reduceAdd, Nat.reduceMul]
  | false =>
  cases h3 : k == 3 with
  | true =>
    have ek := eq_of_beq h3
    rw [ek] at he
    simp (decide := true) only [Bool.or_true, Bool.true_or, Bool.or_false, Bool.false_or, if_true, if_false, Int.reduceBEq, Bool.false_eq_true] at he
    subst he
    simp (decide := true) only [Tryz.f38, h2, h3, drop0, row1_length, rows_length, programW, programC, cI, cB, cS, roI, ro64, hpin, go_sem, Nat.reduceAdd, Nat.reduceMul]
  | false =>
  cases h4 : k == 4 with
  | true =>
    have ek := eq_of_beq h4
    rw [ek] at he
    simp (decide := true) only [Bool.or_true, Bool.true_or, Bool.or_false, Bool.false_or, if_true, if_false, Int.reduceBEq, Bool.false_eq_true] at he
    subst he
    simp (decide := true) only [Tryz.f38, h2, h3, h4, drop0, row1_length, rows_length, programW, programC, cI, cB, cS, roI, ro64, hpin, go_sem, Nat.reduceAdd, Nat.reduceMul]
  | false =>
  cases h5 : k == 5 with
  | true =>
    have ek := eq_of_beq h5
    rw [ek] at he
    simp (decide := true) only [Bool.or_true, Bool.true_or, Bool.or_false, Bool.false_or, if_true, if_false, Int.reduceBEq, Bool.false_eq_true] at he
    subst he
    simp (decide := true) only [Tryz.f38, h2, h3, h4, h5, drop0, row1_length, rows_length, programW, programC, cI, cB, cS, roI, ro64, hpin, go_sem, Nat.reduceAdd, Nat.reduceMul]
  | false =>
  cases h6 : k == 6 with
  | true =>
    have ek := eq_of_beq h6
    rw [ek] at he
    simp (decide := true) only [Bool.or_true, Bool.true_or, Bool.or_false, Bool.false_or, if_true, if_false, Int.reduceBEq, Bool.false_eq_true] at he
    subst he
    simp (decide := true) only [Tryz.f38, h2, h3, h4, h5, h6, drop0, row1_length, rows_length, programW, programC, cI, cB, cS, roI, ro64, hpin, go_sem, Nat.reduceAdd, Nat.reduceMul]
  | false =>
  cases h14 : k == 14 with
  | true =>
    have ek := eq_of_beq h14
    rw [ek] at he
    simp (decide := true) only [Bool.or_true, Bool.true_or, Bool.or_false, Bool.false_or, if_true, if_false, Int.reduceBEq, Bool.false_eq_true] at he
    subst he
    simp (decide := true) only [Tryz.f38, h2, h3, h4, h5, h6, h14, drop0, row1_length, rows_length, programW, programC, cI, cB, cS, roI, ro64, hpin, go_sem, Nat.reduceAdd, Nat.reduceMul]
  | false =>
  cases h15 : k == 15 with
  | true =>
    have ek := eq_of_beq h15
    rw [ek] at he
    simp (decide := true) only [Bool.or_true, Bool.true_or, Bool.or_false, Bool.false_or, if_true, if_false, Int.reduceBEq, Bool.false_eq_true] at he
    subst he
    simp (decide := true) only [Tryz.f38, h2, h3, h4, h5, h6, h14, h15, drop0, row1_length, rows_length, programW, programC, cI, cB, cS, roI, ro64, hpin, go_sem, Nat.reduceAdd, Nat.reduceMul]
  | false =>
  cases h13 : k == 13 with
  | true =>
    have ek := eq_of_beq h13
    rw [ek] at he
    simp (decide := true) only [Bool.or_true, Bool.true_or, Bool.or_false, Bool.false_or, if_true, if_false, Int.reduceBEq, Bool.false_eq_true] at he
    subst he
    simp (decide := true) only [Tryz.f38, h2, h3, h4, h5, h6, h14, h15, h13, drop0, row1_length, rows_length, programW, programC, cI, cB, cS, roI, ro64, hpin, go_sem, Nat.reduceAdd, Nat.reduceMul]
  | false =>
  simp (decide := true) only [h2, h3, h4, h5, h6, h14, h15, h13, Bool.or_false, Bool.false_or, if_false, Bool.false_eq_true] at he
  subst he
  simp (decide := true) only [Tryz.f38, h2, h3, h4, h5, h6, h14, h15, h13, drop0, row1_length, rows_length, programW, programC, cI, cB, cS, roI, ro64, hpin, go_sem, Nat.reduceAdd, Nat.reduceMul]
theorem effS_sound (k t : Int) : Sound Tryz.prog 31 [.ro (.sc (.int .i64 k)), .ro (.sc (.int .i64 t))] (fun rs st => rs = [(false, [cI (effB k t)])]) := by
  refine sound_code (fn := Tryz.f31) (c := Tryz.f31.body.getD .skip) (res := [.tm 4]) (n := 23) sized (by kernel_rfl) (by rfl) (by kernel_rfl) (by rfl) (by rfl) (by simp [argsV]) (fun C hpin hfull => ?_)
  obtain ⟨e, he⟩ : ∃ e, effB k t = e := ⟨_, rfl⟩
  rw [he]
  unfold effB at he
  cases h2 : k == 2 with
  | true =>
    have ek := eq_of_beq h2
    rw [ek] at he
    subst ek
    cases hc : copyB t with
    | true =>
      simp (decide := true) only [hc, if_true, if_false, Int.reduceBEq, Bool.false_eq_true] at he
      subst he
      simp (decide := true) only [Tryz.f31, Int.reduceBEq, drop0, row1_length, rows_length, programW, programC, cI, cB, cS, roI, ro64, hpin, go_sem, Nat.reduceAdd, Nat.reduceMul]
      refine aCall_det (copyS_sound t) hpin ?_
      simp (decide := true) only [hc, drop0, row1_length, rows_length, programW, programC, cI, cB, cS, roI, ro64, hpin, go_sem, Nat.reduceAdd, Nat.reduceMul]
    | false =>
      simp (decide := true) only [hc, if_true, if_false, Int.reduceBEq, Bool.false_eq_true] at he
      subst he
      simp (decide := true) only [Tryz.f31, Int.reduceBEq, drop0, row1_length, rows_length, programW, programC, cI, cB, cS, roI, ro64, hpin, go_sem, Nat.reduceAdd, Nat.reduceMul]
      refine aCall_det (copyS_sound t) hpin ?_
      simp (decide := true) only [hc, drop0, row1_length, rows_length, programW, programC, cI, cB, cS, roI, ro64, hpin, go_sem, Nat.reduceAdd, Nat.reduceMul]
  | false =>
  cases h3 : k == 3 with
  | true =>
    have ek := eq_of_beq h3
    rw [ek] at he
    simp (decide := true) only [Bool.or_true, Bool.true_or, Bool.or_false, Bool.false_or, if_true, if_false, Int.reduceBEq, Bool.false_eq_true] at he
    subst he
    simp (decide := true) only [Tryz.f31, h2, h3, drop0, row1_length, rows_length, programW, programC, cI, cB, cS, roI, ro64, hpin, go_sem, Nat.reduceAdd, Nat.reduceMul]
  | false =>
  cases h4 : k == 4 with
  | true =>
    have ek := eq_of_beq h4
    rw [ek] at he
    simp (decide := true) only [Bool.or_true, Bool.true_or, Bool.or_false, Bool.false_or, if_true, if_false, Int.reduceBEq, Bool.false_eq_true] at he
    subst he
    simp (decide := true) only [Tryz.f31, h2, h3, h4, drop0, row1_length, rows_length, programW, programC, cI, cB, cS, roI, ro64, hpin, go_sem, Nat.reduceAdd, Nat.reduceMul]
  | false =>
  cases h5 : k == 5 with
  | true =>
    have ek := eq_of_beq h5
    rw [ek] at he
    simp (decide := true) only [Bool.or_true, Bool.true_or, Bool.or_false, Bool.false_or, if_true, if_false, Int.reduceBEq, Bool.false_eq_true] at he
    subst he
    simp (decide := true) only [Tryz.f31, h2, h3, h4, h5, drop0, row1_length, rows_length, programW, programC, cI, cB, cS, roI, ro64, hpin, go_sem, Nat.reduceAdd, Nat.reduceMul]
  | false =>
  cases h6 : k == 6 with
  | true =>
    have ek := eq_of_beq h6
    rw [ek] at he
    simp (decide := true) only [Bool.or_true, Bool.true_or, Bool.or_false, Bool.false_or, if_true, if_false, Int.reduceBEq, Bool.false_eq_true] at he
    subst he
    simp (decide := true) only [Tryz.f31, h2, h3, h4, h5, h6, drop0, row1_length, rows_length, programW, programC, cI, cB, cS, roI, ro64, hpin, go_sem, Nat.reduceAdd, Nat.reduceMul]
  | false =>
  cases h14 : k == 14 with
  | true =>
    have ek := eq_of_beq h14
    rw [ek] at he
    simp (decide := true) only [Bool.or_true, Bool.true_or, Bool.or_false, Bool.false_or, if_true, if_false, Int.reduceBEq, Bool.false_eq_true] at he
    subst he
    simp (decide := true) only [Tryz.f31, h2, h3, h4, h5, h6, h14, drop0, row1_length, rows_length, programW, programC, cI, cB, cS, roI, ro64, hpin, go_sem, Nat.reduceAdd, Nat.reduceMul]
  | false =>
  cases h15 : k == 15 with
  | true =>
    have ek := eq_of_beq h15
    rw [ek] at he
    simp (decide := true) only [Bool.or_true, Bool.true_or, Bool.or_false, Bool.false_or, if_true, if_false, Int.reduceBEq, Bool.false_eq_true] at he
    subst he
    simp (decide := true) only [Tryz.f31, h2, h3, h4, h5, h6, h14, h15, drop0, row1_length, rows_length, programW, programC, cI, cB, cS, roI, ro64, hpin, go_sem, Nat.reduceAdd, Nat.reduceMul]
  | false =>
  cases h13 : k == 13 with
  | true =>
    have ek := eq_of_beq h13
    rw [ek] at he
    simp (decide := true) only [Bool.or_true, Bool.true_or, Bool.or_false, Bool.false_or, if_true, if_false, Int.reduceBEq, Bool.false_eq_true] at he
    subst he
    simp (decide := true) only [Tryz.f31, h2, h3, h4, h5, h6, h14, h15, h13, drop0, row1_length, rows_length, programW, programC, cI, cB, cS, roI, ro64, hpin, go_sem, Nat.reduceAdd, Nat.reduceMul]
  | false =>
  simp (decide := true) only [h2, h3, h4, h5, h6, h14, h15, h13, Bool.or_false, Bool.false_or, if_false, Bool.false_eq_true] at he
  subst he
  simp (decide := true) only [Tryz.f31, h2, h3, h4, h5, h6, h14, h15, h13, drop0, row1_length, rows_length, programW, programC, cI, cB, cS, roI, ro64, hpin, go_sem, Nat.reduceAdd, Nat.reduceMul]
theorem underAll_sound (p : ProgramD) (R : List Int) (hR : R.length ≤ 1048576) (hn : p.nodes.length ≤ 1048576) (hk : ∀ x ∈ p.nodes, x.kids.length ≤ 1048576) : Sound Tryz.prog 37 [.ro (programW p), .ro (roI R)] (fun rs st => rs = [(false, [.row false 3 (row1 cI (anyNs p R))])]) := by
  refine sound_tri (fn := Tryz.f37) (c := Tryz.f37.body.getD .skip) (res := [.tm 4]) (n := 37) sized (by kernel_rfl) (by rfl) (by kernel_rfl) (by rfl) (by rfl) (by simp [argsV]) (fun uf ub C hpin hpin2 hfull => ?_)
  simp only [Tryz.f37, Option.getD_some]
  refine Tri.step sized ?_
  simp (decide := true) only [drop0, row1_length, rows_length, programW, programC, cI, cB, cS, roI, ro64, hpin, go_sem, Nat.reduceAdd, Nat.reduceMul]
  refine Tri.ent ?_ (Ent.frb hfull 2)
  refine Tri.step sized ?_
  simp (decide := true) only [drop0, row1_length, rows_length, programW, programC, cI, cB, cS, roI, ro64, hpin, go_sem, Nat.reduceAdd, Nat.reduceMul]
  refine Tri.step sized ?_
  simp (decide := true) only [drop0, row1_length, rows_length, programW, programC, cI, cB, cS, roI, ro64, hpin, go_sem, Nat.reduceAdd, Nat.reduceMul]
  have hmem := anyNs_mem p R
  have hris : (anyNs p R).Pairwise (· < ·) := pick_rising _ _
  generalize anyNs p R = Z at hmem hris ⊢
  refine Tri.loop (ι := Nat × List Nat) (fun q => q.1 ≤ R.length ∧ q.2.Nodup ∧ ∀ m, m ∈ q.2 ↔ ∃ a, ∃ (ha : a < R.length), a < q.1 ∧ (m : Int) ∈ underP p.nodes R[a]) (fun q => ⟨37, [(2, .ip (programC true p) 0), (5, .ref 5 [] q.2.length), (10, roI R), (11, vI R.length), (12, vI q.1)], [(5, .row 3 (row1 cI (ints q.2)))]⟩) (fun q => R.length - q.1) (0, []) ⟨by simp, by simp, fun m => ⟨fun h => by simp at h, fun ⟨a, ha, h0, _⟩ => by omega⟩⟩ ?_ ?_
  · refine Ent.weak ?_ ?_ ?_ ?_ <;> simp (decide := true) [subT, subB, hereT, hereV, hereL, St.get, look, vI, vB, vS, cI, cS, cB, nodeC, programC, roI, ints, row1]
  · rintro ⟨i, l⟩ ⟨hi, hnd, hq⟩
    simp only at hi hnd hq ⊢
    have hll : l.length ≤ p.nodes.length := nodup_lt hnd (fun x hx => by
      obtain ⟨a, ha, _, h⟩ := (hq x).1 hx
      exact underP_lt h)
    refine code_sound sized _ ?_
    by_cases h' : i < R.length
    · have e : ((i : Int) < (R.length : Int)) = True := by simp [h']
      simp (decide := true) only [e, h', row1_get _ _ h', Int.natCast_nonneg, vB, vI, drop0, row1_length, rows_length, programW, programC, cI, cB, cS, roI, ro64, hpin, go_sem, Nat.reduceAdd, Nat.reduceMul]
      refine aCall_det (underI_sound p R[i] hn hk) hpin ?_
      simp (decide := true) only [drop0, row1_length, rows_length, programW, programC, cI, cB, cS, roI, ro64, hpin, go_sem, Nat.reduceAdd, Nat.reduceMul]
      have hul := underP_length p.nodes R[i]
      have hum : ∀ b (hb : b < (underP p.nodes R[i]).length), 0 ≤ (underP p.nodes R[i])[b] := fun b hb => (underP_mem (List.getElem_mem hb)).1
      have hulm : ∀ m : Nat, (m : Int) ∈ underP p.nodes R[i] → m < p.nodes.length := fun m h => underP_lt h
      have hnext : ∀ L : List Nat, (∀ m, m ∈ L ↔ (∃ a, ∃ (ha : a < R.length), a < i ∧ (m : Int) ∈ underP p.nodes R[a]) ∨ (m : Int) ∈ underP p.nodes R[i]) → ∀ m, m ∈ L ↔ ∃ a, ∃ (ha : a < R.length), a < i + 1 ∧ (m : Int) ∈ underP p.nodes R[a] := fun L hL m => by
        rw [hL m]
        constructor
        · rintro (⟨a, ha, h1, h2⟩ | h)
          · exact ⟨a, ha, by omega, h2⟩
          · exact ⟨i, h', by omega, h⟩
        · rintro ⟨a, ha, h1, h2⟩
          by_cases ea : a = i
          · subst ea; exact Or.inr h2
          · exact Or.inl ⟨a, ha, by omega, h2⟩
      generalize underP p.nodes R[i] = U at hul hum hulm hnext ⊢
      refine Tri.loop (ι := Nat × List Nat) (fun q => q.1 ≤ U.length ∧ q.2.Nodup ∧ ∀ m, m ∈ q.2 ↔ (∃ a, ∃ (ha : a < R.length), a < i ∧ (m : Int) ∈ underP p.nodes R[a]) ∨ (m : Int) ∈ U.take q.1) (fun q => ⟨37, [(2, .ip (programC true p) 0), (5, .ref 5 [] q.2.length), (10, roI R), (11, vI R.length), (12, vI i), (18, .ref 3018 [] U.length), (19, vI U.length), (20, vI q.1)], [(3018, .row 3 (row1 cI U)), (5, .row 3 (row1 cI (ints q.2)))]⟩) (fun q => U.length - q.1) (0, l) ⟨by simp, hnd, fun m => by rw [hq m]; simp⟩ ?_ ?_
      · refine Ent.weak ?_ ?_ ?_ ?_ <;> simp (decide := true) [subT, subB, hereT, hereV, hereL, St.get, look, vI, vB, vS, cI, cS, cB, nodeC, programC, roI]
      · rintro ⟨j, L⟩ ⟨hj, hLn, hL⟩
        simp only at hj hLn hL ⊢
        have hLl : L.length ≤ p.nodes.length := nodup_lt hLn (fun x hx => by
          rcases (hL x).1 hx with ⟨a, ha, _, h⟩ | h
          · exact underP_lt h
          · exact hulm x (List.mem_of_mem_take h))
        refine code_sound sized _ ?_
        by_cases hj' : j < U.length
        · have e2 : ((j : Int) < (U.length : Int)) = True := by simp [hj']
          have q0 := hum j hj'
          have hcast : ((U[j].toNat : Nat) : Int) = U[j] := by omega
          have htk : ∀ m : Nat, (m : Int) ∈ U.take (j + 1) ↔ (m : Int) ∈ U.take j ∨ m = U[j].toNat := fun m => by
            rw [List.take_succ_eq_append_getElem hj', List.mem_append, List.mem_singleton]
            constructor
            · rintro (h | h)
              · exact Or.inl h
              · right; omega
            · rintro (h | h)
              · exact Or.inl h
              · right; omega
          simp (decide := true) only [e2, hj', row1_getq' _ _ hj', ints_length, Int.natCast_nonneg, vB, vI, drop0, row1_length, rows_length, programW, programC, cI, cB, cS, roI, ro64, hpin, go_sem, Nat.reduceAdd, Nat.reduceMul]
          refine aCall_det (hasInt_sound (ints L) U[j] (by rw [ints_length]; omega)) hpin ?_
          simp (decide := true) only [ints_length, ints_take, drop0, row1_length, rows_length, programW, programC, cI, cB, cS, roI, ro64, hpin, go_sem, Nat.reduceAdd, Nat.reduceMul]
          rw [ints_has q0]
          cases hc : L.contains U[j].toNat with
          | true =>
            have hmm : U[j].toNat ∈ L := by simpa using hc
            simp (decide := true) only [hc, drop0, row1_length, rows_length, programW, programC, cI, cB, cS, roI, ro64, hpin, go_sem, Nat.reduceAdd, Nat.reduceMul]
            refine ⟨(j + 1, L), ⟨hj', hLn, fun m => ?_⟩, by simp only; omega, Ent.weak ?_ ?_ ?_ ?_⟩
            · rw [hL m, htk m]
              constructor
              · rintro (h | h)
                · exact Or.inl h
                · exact Or.inr (Or.inl h)
              · rintro (h | h | h)
                · exact Or.inl h
                · exact Or.inr h
                · subst h; exact (hL _).1 hmm
            all_goals simp (decide := true) [subT, subB, hereT, hereV, hereL, St.get, look, vI, vB, vS, cI, cS, cB, nodeC, programC, roI, w64s (n := U.length) hj' (by omega)]
          | false =>
            have hnm : U[j].toNat ∉ L := by simpa using hc
            have hb1 : L.length + 1 ≤ 140737488355328 := by omega
            have hb2 : (L.length + 1) * 8 ≤ 140737488355328 := by omega
            have hsn := ints_snoc L q0
            simp (decide := true) only [hc, ints_length, hb1, hb2, drop0, row1_length, rows_length, programW, programC, cI, cB, cS, roI, ro64, hpin, go_sem, Nat.reduceAdd, Nat.reduceMul]
            refine ⟨(j + 1, L ++ [U[j].toNat]), ⟨hj', ?_, fun m => ?_⟩, by simp only; omega, Ent.weak ?_ ?_ ?_ ?_⟩
            · rw [List.nodup_append]
              exact ⟨hLn, by simp, fun a ha b hb => by simp at hb; subst hb; exact fun e => hnm (e ▸ ha)⟩
            · rw [List.mem_append, List.mem_singleton, hL m, htk m, or_assoc]
            all_goals simp (decide := true) [subT, subB, hereT, hereV, hereL, St.get, look, vI, vB, vS, cI, cS, cB, nodeC, programC, roI, w64s (n := U.length) hj' (by omega), ← hsn, row1, ints, Int.max_eq_left q0]
        · have hjl : j = U.length := by omega
          subst hjl
          have e2 : ((U.length : Int) < (U.length : Int)) = False := by simp
          rw [List.take_length] at hL
          simp (decide := true) only [e2, vB, vI, drop0, row1_length, rows_length, programW, programC, cI, cB, cS, roI, ro64, hpin, go_sem, Nat.reduceAdd, Nat.reduceMul]
          refine ⟨(i + 1, L), ⟨h', hLn, hnext L hL⟩, by simp only; omega, Ent.weak ?_ ?_ ?_ ?_⟩
          all_goals simp (decide := true) [subT, subB, hereT, hereV, hereL, St.get, look, vI, vB, vS, cI, cS, cB, nodeC, programC, roI, w64s (n := R.length) h' (by omega)]
    · have hil : i = R.length := by omega
      subst hil
      have e : ((R.length : Int) < (R.length : Int)) = False := by simp
      have hs : sorted (ints l) = Z := by
        refine sorted_eq ?_ hris (fun z => ?_)
        · unfold ints
          exact List.Pairwise.map _ (fun a b hab h => hab (by omega)) hnd
        · rw [ints_memI, hmem z]
          constructor
          · rintro ⟨h0, h⟩
            obtain ⟨a, ha, _, h2⟩ := (hq _).1 h
            exact ⟨R[a], List.getElem_mem ha, by rw [show ((z.toNat : Nat) : Int) = z by omega] at h2; exact h2⟩
          · rintro ⟨k, hkk, h⟩
            obtain ⟨a, ha, rfl⟩ := List.getElem_of_mem hkk
            have h0 := (underP_mem h).1
            exact ⟨h0, (hq _).2 ⟨a, ha, ha, by rw [show ((z.toNat : Nat) : Int) = z by omega]; exact h⟩⟩
      have hzl : Z.length = l.length := by rw [← hs, sorted_length, ints_length]
      simp (decide := true) only [e, vB, vI, drop0, row1_length, rows_length, programW, programC, cI, cB, cS, roI, ro64, hpin, go_sem, Nat.reduceAdd, Nat.reduceMul]
      refine Tri.step sized ?_
      simp (decide := true) only [ints_length, drop0, row1_length, rows_length, programW, programC, cI, cB, cS, roI, ro64, hpin, go_sem, Nat.reduceAdd, Nat.reduceMul]
      refine aCall_iod (sortInts_sound (ints l) (by rw [ints_length]; omega)) hpin [(2000, 5)] ⟨rfl, rfl, rfl⟩ (fun uf => ⟨rfl, rfl⟩) (fun uf => ?_) ?_
      · simp (decide := true) only [ints_length, drop0, row1_length, rows_length, programW, programC, cI, cB, cS, roI, ro64, go_sem, Nat.reduceAdd, Nat.reduceMul]
      simp (decide := true) only [ints_length, sorted_length, hs, hzl, drop0, row1_length, rows_length, programW, programC, cI, cB, cS, roI, ro64, hpin, go_sem, Nat.reduceAdd, Nat.reduceMul]
      refine code_sound sized _ ?_
      simp (decide := true) only [ints_length, hzl, drop0, row1_length, rows_length, programW, programC, cI, cB, cS, roI, ro64, hpin, go_sem, Nat.reduceAdd, Nat.reduceMul]
end Go.Proofs.YtnbodmohnkohfaaGreatDoor.AW
