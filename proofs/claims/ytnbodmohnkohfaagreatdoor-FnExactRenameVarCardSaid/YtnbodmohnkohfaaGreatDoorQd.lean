/- The types of values, as the program tells them. No condition beyond those named. -/
import Derived.Test.YtnbodmohnkohfaaGreatDoorQc
namespace Go.Proofs.YtnbodmohnkohfaaGreatDoor.AW
open Go.RowKit
set_option maxHeartbeats 8000000
set_option maxRecDepth 100000
set_option linter.unusedSimpArgs false
set_option linter.unusedVariables false

def vAt (l : List VarD) (j : Int) : VarD := l.getD j.toNat vr0
/-- The type of a variable; 0 when there is none. -/
def varTy (l : List VarD) (s : ByteArray) : Int := if varAtP l s < 0 then 0 else (vAt l (varAtP l s)).ty
def heldB (t : Int) : Bool := t == 2 || (t == 3 || t == 4)
def prTy (ps : List ParamD) (i : Nat) : Int := (ps.map (fun x => x.ty)).getD i 0
def callTB (T : Int → Int) (p : ProgramD) (x : NodeD) : Bool :=
  decide (0 ≤ fnAtP p.fns x.name) && (((fAt p.fns (fnAtP p.fns x.name)).params.length : Int) == (x.kids.length : Int) && rangeB (fun i => T (x.kids.getD i 0) == prTy (fAt p.fns (fnAtP p.fns x.name)).params i) x.kids.length)
def typeK (T : Int → Int) (p : ProgramD) (l : List VarD) (x : NodeD) : Int :=
  if x.kind == 1 || x.kind == 7 then 1
  else if x.kind == 2 then varTy l x.name
  else if x.kind == 3 then (if heldB (varTy l x.name) then 1 else 0)
  else if x.kind == 4 then (if heldB (varTy l x.name) then 2 else 0)
  else if x.kind == 5 then (if varTy l x.name == 2 then 3 else 0)
  else if x.kind == 6 then (if varTy l x.name == 2 then 4 else 0)
  else if x.kind == 8 then (if T (x.kids.getD 0 0) == 1 then 2 else 0)
  else if x.kind == 9 || (x.kind == 10 || x.kind == 11) then (if T (x.kids.getD 0 0) == 1 && T (x.kids.getD 1 0) == 1 then 1 else 0)
  else if x.kind == 12 then (if callTB T p x then (fAt p.fns (fnAtP p.fns x.name)).res else 0)
  else 0
def typeF (p : ProgramD) (l : List VarD) : Nat → Int → Int
  | 0, _ => 0
  | d + 1, k => typeK (typeF p l d) p l (nAt p.nodes k)
def typeB (p : ProgramD) (l : List VarD) (k : Int) : Int := typeF p l (k.toNat + 1) k
theorem rangeB_congr {f g : Nat → Bool} {n : Nat} (h : ∀ i, i < n → f i = g i) : rangeB f n = rangeB g n := by
  rw [Bool.eq_iff_iff, rangeB_true, rangeB_true]
  exact ⟨fun hh i hi => by rw [← h i hi]; exact hh i hi, fun hh i hi => by rw [h i hi]; exact hh i hi⟩
theorem callTB_congr {T U : Int → Int} (p : ProgramD) (x : NodeD) (h : ∀ kid ∈ x.kids, T kid = U kid) : callTB T p x = callTB U p x := by
  unfold callTB
  congr 2
  apply rangeB_congr
  intro i hi
  have hg : x.kids.getD i 0 = x.kids[i] := by simp [List.getD, hi]
  rw [hg, h x.kids[i] (List.getElem_mem hi)]
theorem typeK_congr {T U : Int → Int} (p : ProgramD) (l : List VarD) (x : NodeD) (hs : inI x.kids.length (shapeI x.kind).1 (shapeI x.kind).2 = true) (h : ∀ kid ∈ x.kids, T kid = U kid) : typeK T p l x = typeK U p l x := by
  have hsr := inI_true hs
  have get : ∀ i, i < x.kids.length → T (x.kids.getD i 0) = U (x.kids.getD i 0) := fun i hi => by
    have hg : x.kids.getD i 0 = x.kids[i] := by simp [List.getD, hi]
    rw [hg, h x.kids[i] (List.getElem_mem hi)]
  unfold typeK
  rw [callTB_congr p x h]
  by_cases h8 : x.kind = 8
  · rw [h8] at hsr
    have h0 : 0 < x.kids.length := by have := hsr.1; simp [shapeI] at this; omega
    rw [get 0 h0]
    simp [h8]
  · by_cases h9 : x.kind = 9 ∨ x.kind = 10 ∨ x.kind = 11
    · have h0 : 1 < x.kids.length := by
        rcases h9 with h9 | h9 | h9 <;> rw [h9] at hsr <;> have := hsr.1 <;> simp [shapeI] at this <;> omega
      rw [get 0 (by omega), get 1 h0]
    · have e8 : (x.kind == 8) = false := by simpa using h8
      have e9 : (x.kind == 9 || (x.kind == 10 || x.kind == 11)) = false := by
        simp only [Bool.or_eq_false_iff, beq_eq_false_iff_ne]
        exact ⟨fun e => h9 (Or.inl e), fun e => h9 (Or.inr (Or.inl e)), fun e => h9 (Or.inr (Or.inr e))⟩
      rw [e8, e9]
      rfl
theorem typeF_fuel {p : ProgramD} (hD : Deep p.nodes) (l : List VarD) : ∀ (d n : Nat), n < p.nodes.length → n < d → typeF p l d n = typeB p l n := by
  intro d
  induction d using Nat.strongRecOn with
  | ind d ih =>
  intro n hn hd
  obtain ⟨e, rfl⟩ : ∃ e, d = e + 1 := ⟨d - 1, by omega⟩
  unfold typeB
  have e2 : ((n : Int).toNat + 1) = n + 1 := by omega
  rw [e2]
  unfold typeF
  rw [nAt_nat hn]
  apply typeK_congr p l _ (node_shape (hD.deep n hn) hn)
  intro kid hk
  obtain ⟨q0, q1, q2⟩ := hD.kid hn kid hk
  obtain ⟨m, rfl⟩ : ∃ m : Nat, kid = m := ⟨kid.toNat, by omega⟩
  have h1 := ih e (by omega) m (by omega) (by omega)
  by_cases hne : n = e
  · subst hne; rfl
  · have h2 := ih n (by omega) m (by omega) (by omega)
    rw [h1, h2]
theorem typeB_eq {p : ProgramD} (hD : Deep p.nodes) (l : List VarD) {n : Nat} (hn : n < p.nodes.length) : typeB p l n = typeK (typeB p l) p l p.nodes[n] := by
  have e2 : ((n : Int).toNat + 1) = n + 1 := by omega
  unfold typeB
  rw [e2]
  conv => lhs; unfold typeF
  rw [nAt_nat hn]
  apply typeK_congr p l _ (node_shape (hD.deep n hn) hn)
  intro kid hk
  obtain ⟨q0, q1, q2⟩ := hD.kid hn kid hk
  obtain ⟨m, rfl⟩ : ∃ m : Nat, kid = m := ⟨kid.toNat, by omega⟩
  exact typeF_fuel hD l n m (by omega) (by omega)

theorem varTyI_sound (l : List VarD) (s : ByteArray) (hl : l.length ≤ 4194304) : Sound Tryz.prog 39 [.ro (.imm 107 (rows (varC true) l)), .ro (.sc (.string s))] (fun rs st => rs = [(false, [cI (varTy l s)])]) := by
  refine sound_tri (fn := Tryz.f39) (c := Tryz.f39.body.getD .skip) (res := [.tm 4]) (n := 16) sized (by kernel_rfl) (by rfl) (by kernel_rfl) (by rfl) (by rfl) (by simp [argsV]) (fun uf ub C hpin hpin2 hfull => ?_)
  simp only [Tryz.f39, Option.getD_some]
  have hva := varAtI_sound l s hl
  have hrg := findV_range s l 0
  have hfe : varAtP l s = findV s l 0 := rfl
  rw [← hfe] at hrg
  unfold varTy
  refine Tri.step sized ?_
  simp (decide := true) only [drop0, row1_length, rows_length, programW, programC, cI, cB, cS, roI, ro64, hpin, go_sem, Nat.reduceAdd, Nat.reduceMul]
  refine Tri.step sized ?_
  simp (decide := true) only [drop0, row1_length, rows_length, programW, programC, cI, cB, cS, roI, ro64, hpin, go_sem, Nat.reduceAdd, Nat.reduceMul]
  refine aCall_det hva hpin ?_
  generalize varAtP l s = at_ at hrg ⊢
  simp (decide := true) only [drop0, row1_length, rows_length, programW, programC, cI, cB, cS, roI, ro64, hpin, go_sem, Nat.reduceAdd, Nat.reduceMul]
  refine Tri.step sized ?_
  by_cases ha : at_ < 0
  · have c1 : (at_ < 0) = True := eq_true ha
    simp (decide := true) only [c1, drop0, row1_length, rows_length, programW, programC, cI, cB, cS, roI, ro64, hpin, go_sem, Nat.reduceAdd, Nat.reduceMul]
  · have c1 : (at_ < 0) = False := eq_false ha
    obtain ⟨m, rfl⟩ : ∃ m : Nat, at_ = m := ⟨at_.toNat, by omega⟩
    have hml : m < l.length := by rcases hrg with h | h <;> omega
    have c2 : ((m : Int) < (l.length : Int)) = True := eq_true (by omega)
    have hv : vAt l (m : Int) = l[m] := by simp [vAt, List.getD, hml]
    simp (decide := true) only [c1, drop0, row1_length, rows_length, programW, programC, cI, cB, cS, roI, ro64, hpin, go_sem, Nat.reduceAdd, Nat.reduceMul]
    refine code_sound sized _ ?_
    simp (decide := true) only [c2, hv, rows_get _ _ hml, varC, Int.natCast_nonneg, drop0, row1_length, rows_length, programW, programC, cI, cB, cS, roI, ro64, hpin, go_sem, Nat.reduceAdd, Nat.reduceMul]
theorem varTyS_sound (l : List VarD) (s : ByteArray) (hl : l.length ≤ 4194304) : Sound Tryz.prog 32 [.ro (.imm 107 (rows (varC true) l)), .ro (.sc (.string s))] (fun rs st => rs = [(false, [cI (varTy l s)])]) := by
  refine sound_tri (fn := Tryz.f32) (c := Tryz.f32.body.getD .skip) (res := [.tm 4]) (n := 16) sized (by kernel_rfl) (by rfl) (by kernel_rfl) (by rfl) (by rfl) (by simp [argsV]) (fun uf ub C hpin hpin2 hfull => ?_)
  simp only [Tryz.f32, Option.getD_some]
  have hva := varAtS_sound l s hl
  have hrg := findV_range s l 0
  have hfe : varAtP l s = findV s l 0 := rfl
  rw [← hfe] at hrg
  unfold varTy
  refine Tri.step sized ?_
  simp (decide := true) only [drop0, row1_length, rows_length, programW, programC, cI, cB, cS, roI, ro64, hpin, go_sem, Nat.reduceAdd, Nat.reduceMul]
  refine Tri.step sized ?_
  simp (decide := true) only [drop0, row1_length, rows_length, programW, programC, cI, cB, cS, roI, ro64, hpin, go_sem, Nat.reduceAdd, Nat.reduceMul]
  refine aCall_det hva hpin ?_
  generalize varAtP l s = at_ at hrg ⊢
  simp (decide := true) only [drop0, row1_length, rows_length, programW, programC, cI, cB, cS, roI, ro64, hpin, go_sem, Nat.reduceAdd, Nat.reduceMul]
  refine Tri.step sized ?_
  by_cases ha : at_ < 0
  · have c1 : (at_ < 0) = True := eq_true ha
    simp (decide := true) only [c1, drop0, row1_length, rows_length, programW, programC, cI, cB, cS, roI, ro64, hpin, go_sem, Nat.reduceAdd, Nat.reduceMul]
  · have c1 : (at_ < 0) = False := eq_false ha
    obtain ⟨m, rfl⟩ : ∃ m : Nat, at_ = m := ⟨at_.toNat, by omega⟩
    have hml : m < l.length := by rcases hrg with h | h <;> omega
    have c2 : ((m : Int) < (l.length : Int)) = True := eq_true (by omega)
    have hv : vAt l (m : Int) = l[m] := by simp [vAt, List.getD, hml]
    simp (decide := true) only [c1, drop0, row1_length, rows_length, programW, programC, cI, cB, cS, roI, ro64, hpin, go_sem, Nat.reduceAdd, Nat.reduceMul]
    refine code_sound sized _ ?_
    simp (decide := true) only [c2, hv, rows_get _ _ hml, varC, Int.natCast_nonneg, drop0, row1_length, rows_length, programW, programC, cI, cB, cS, roI, ro64, hpin, go_sem, Nat.reduceAdd, Nat.reduceMul]
end Go.Proofs.YtnbodmohnkohfaaGreatDoor.AW
