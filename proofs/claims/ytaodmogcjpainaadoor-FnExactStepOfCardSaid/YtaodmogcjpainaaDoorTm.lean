/- What is marked, and how it is found again. No condition beyond those named. -/
import Derived.Test.YtaodmogcjpainaaDoorTc
namespace Go.Proofs.YtaodmogcjpainaaDoor.AW
open Go.RowKit
set_option maxHeartbeats 4000000
set_option maxRecDepth 100000
set_option linter.unusedSimpArgs false
set_option linter.unusedVariables false

theorem mid_get {EA EB : List (List D)} {x : List D} {i : Nat} (hA : EA.length = i) : (EA ++ x :: EB).getD i [] = x := by
  subst hA; simp [List.getD]
theorem mid_getq {EA EB : List (List D)} {x : List D} {i : Nat} (hA : EA.length = i) : (EA ++ x :: EB)[i]? = some x := by
  subst hA; simp
theorem mid_set {EA EB : List (List D)} {x y : List D} {i : Nat} (hA : EA.length = i) : (EA ++ x :: EB).set i y = EA ++ y :: EB := by
  subst hA; simp
theorem mid_cell {EA EB : List (List D)} {x : List D} {i j : Nat} (hA : EA.length = i) : cellAt (EA ++ x :: EB) i j = x[j]? := by
  unfold cellAt; rw [mid_getq hA]; rfl
theorem mid_setc {EA EB : List (List D)} {x : List D} {i j : Nat} {d : D} (hA : EA.length = i) : setCellAt (EA ++ x :: EB) i j d = EA ++ x.set j d :: EB := by
  unfold setCellAt; rw [mid_get hA, mid_set hA]
theorem marks_self2 (k : Int) (n : Nat) : (if marks k n = marks k (marks k n).length then k + ((marks k n).length : Nat) else -1) = k + n := by simp [marks_length]
def mbool (q : Int) : Bool := q.tmod 3 == 0

def digB (k : Int) : ByteArray := strOfNums [IntKind.u8.wrap (IntKind.i64.wrap (48 + k.tmod 10))]
def digs (k : Int) (s : ByteArray) : ByteArray := if h : 0 < k then digs (k.tdiv 10) (digB k ++ s) else s
termination_by k.toNat
decreasing_by rw [Int.tdiv_eq_ediv_of_nonneg (by omega)]; omega
/-- The text of a mark. -/
def mtext (k : Int) : ByteArray := if k ≤ 0 then ⟨#[109, 48]⟩ else ⟨#[109]⟩ ++ digs k ⟨#[]⟩
theorem digs_size (n : Nat) : ∀ (k : Int) (s : ByteArray), k.toNat ≤ n → (digs k s).size ≤ s.size + k.toNat := by
  induction n with
  | zero => intro k s hk; rw [digs, dif_neg (by omega)]; omega
  | succ n ih =>
    intro k s hk
    rw [digs]
    by_cases h : 0 < k
    · rw [dif_pos h]
      have e : k.tdiv 10 = k / 10 := Int.tdiv_eq_ediv_of_nonneg (by omega)
      have := ih (k.tdiv 10) (digB k ++ s) (by rw [e]; omega)
      have e2 : (digB k ++ s).size = 1 + s.size := by rw [ByteArray.size_append]; simp [digB, strOfNums_size]
      rw [e] at this ⊢
      omega
    · rw [dif_neg h]; omega
def nodeN (x : NodeD) : Nat := 3 + x.kids.length
def nodeM (q : Int) (x : NodeD) : NodeD := ⟨q, (q + 1), mtext ((q + 1) + 1), marks (((q + 1) + 1) + 1) x.kids.length⟩
def nodeML : Int → List NodeD → List NodeD
  | _, [] => []
  | q, x :: r => nodeM q x :: nodeML (q + (nodeN x : Nat)) r
theorem nodeML_length : ∀ (q : Int) (l : List NodeD), (nodeML q l).length = l.length
  | _, [] => rfl
  | q, x :: r => by simp [nodeML, nodeML_length]
theorem nodeML_append : ∀ (q : Int) (l l2 : List NodeD), nodeML q (l ++ l2) = nodeML q l ++ nodeML (q + (sumN nodeN l : Nat)) l2
  | q, [], l2 => by simp [nodeML, sumN]
  | q, x :: r, l2 => by
    have e : q + (nodeN x : Nat) + (sumN nodeN r : Nat) = q + (sumN nodeN (x :: r) : Nat) := by simp only [sumN, List.map_cons, List.sum_cons]; omega
    simp only [nodeML, List.cons_append, nodeML_append, e]
theorem nodeML_take (q : Int) (l : List NodeD) {i : Nat} (h : i < l.length) : nodeML q (l.take (i + 1)) = nodeML q (l.take i) ++ [nodeM (q + (sumN nodeN (l.take i) : Nat)) l[i]] := by
  rw [List.take_succ_eq_append_getElem h, nodeML_append]; rfl
theorem nodeML_get (q : Int) (l : List NodeD) {i : Nat} (h : i < l.length) (h2 : i < (nodeML q l).length) : (nodeML q l)[i] = nodeM (q + (sumN nodeN (l.take i) : Nat)) l[i] := by
  have e : l = l.take (i + 1) ++ l.drop (i + 1) := (List.take_append_drop _ _).symm
  have hl : (nodeML q (l.take i)).length = i := by rw [nodeML_length]; simp; omega
  have e2 : (nodeML q l)[i]? = some (nodeM (q + (sumN nodeN (l.take i) : Nat)) l[i]) := by
    conv => lhs; rw [e, nodeML_append, nodeML_take q l h, List.append_assoc]
    rw [List.getElem?_append_right (by omega), hl, Nat.sub_self]; rfl
  exact (List.getElem?_eq_some_iff.1 e2).2
attribute [go_sem] nodeML_length
def paramN (x : ParamD) : Nat := 2
def paramM (q : Int) (x : ParamD) : ParamD := ⟨mtext q, (q + 1)⟩
def paramML : Int → List ParamD → List ParamD
  | _, [] => []
  | q, x :: r => paramM q x :: paramML (q + (paramN x : Nat)) r
theorem paramML_length : ∀ (q : Int) (l : List ParamD), (paramML q l).length = l.length
  | _, [] => rfl
  | q, x :: r => by simp [paramML, paramML_length]
theorem paramML_append : ∀ (q : Int) (l l2 : List ParamD), paramML q (l ++ l2) = paramML q l ++ paramML (q + (sumN paramN l : Nat)) l2
  | q, [], l2 => by simp [paramML, sumN]
  | q, x :: r, l2 => by
    have e : q + (paramN x : Nat) + (sumN paramN r : Nat) = q + (sumN paramN (x :: r) : Nat) := by simp only [sumN, List.map_cons, List.sum_cons]; omega
    simp only [paramML, List.cons_append, paramML_append, e]
theorem paramML_take (q : Int) (l : List ParamD) {i : Nat} (h : i < l.length) : paramML q (l.take (i + 1)) = paramML q (l.take i) ++ [paramM (q + (sumN paramN (l.take i) : Nat)) l[i]] := by
  rw [List.take_succ_eq_append_getElem h, paramML_append]; rfl
theorem paramML_get (q : Int) (l : List ParamD) {i : Nat} (h : i < l.length) (h2 : i < (paramML q l).length) : (paramML q l)[i] = paramM (q + (sumN paramN (l.take i) : Nat)) l[i] := by
  have e : l = l.take (i + 1) ++ l.drop (i + 1) := (List.take_append_drop _ _).symm
  have hl : (paramML q (l.take i)).length = i := by rw [paramML_length]; simp; omega
  have e2 : (paramML q l)[i]? = some (paramM (q + (sumN paramN (l.take i) : Nat)) l[i]) := by
    conv => lhs; rw [e, paramML_append, paramML_take q l h, List.append_assoc]
    rw [List.getElem?_append_right (by omega), hl, Nat.sub_self]; rfl
  exact (List.getElem?_eq_some_iff.1 e2).2
attribute [go_sem] paramML_length
def fnN (x : FnD) : Nat := 4 + sumN paramN x.params
def fnM (q : Int) (x : FnD) : FnD := ⟨mtext q, paramML (q + 1) x.params, ((q + 1) + (sumN paramN x.params : Nat)), (((q + 1) + (sumN paramN x.params : Nat)) + 1), ((((q + 1) + (sumN paramN x.params : Nat)) + 1) + 1)⟩
def fnML : Int → List FnD → List FnD
  | _, [] => []
  | q, x :: r => fnM q x :: fnML (q + (fnN x : Nat)) r
theorem fnML_length : ∀ (q : Int) (l : List FnD), (fnML q l).length = l.length
  | _, [] => rfl
  | q, x :: r => by simp [fnML, fnML_length]
theorem fnML_append : ∀ (q : Int) (l l2 : List FnD), fnML q (l ++ l2) = fnML q l ++ fnML (q + (sumN fnN l : Nat)) l2
  | q, [], l2 => by simp [fnML, sumN]
  | q, x :: r, l2 => by
    have e : q + (fnN x : Nat) + (sumN fnN r : Nat) = q + (sumN fnN (x :: r) : Nat) := by simp only [sumN, List.map_cons, List.sum_cons]; omega
    simp only [fnML, List.cons_append, fnML_append, e]
theorem fnML_take (q : Int) (l : List FnD) {i : Nat} (h : i < l.length) : fnML q (l.take (i + 1)) = fnML q (l.take i) ++ [fnM (q + (sumN fnN (l.take i) : Nat)) l[i]] := by
  rw [List.take_succ_eq_append_getElem h, fnML_append]; rfl
theorem fnML_get (q : Int) (l : List FnD) {i : Nat} (h : i < l.length) (h2 : i < (fnML q l).length) : (fnML q l)[i] = fnM (q + (sumN fnN (l.take i) : Nat)) l[i] := by
  have e : l = l.take (i + 1) ++ l.drop (i + 1) := (List.take_append_drop _ _).symm
  have hl : (fnML q (l.take i)).length = i := by rw [fnML_length]; simp; omega
  have e2 : (fnML q l)[i]? = some (fnM (q + (sumN fnN (l.take i) : Nat)) l[i]) := by
    conv => lhs; rw [e, fnML_append, fnML_take q l h, List.append_assoc]
    rw [List.getElem?_append_right (by omega), hl, Nat.sub_self]; rfl
  exact (List.getElem?_eq_some_iff.1 e2).2
attribute [go_sem] fnML_length
def programN (x : ProgramD) : Nat := 0 + sumN nodeN x.nodes + sumN fnN x.fns
def programM (q : Int) (x : ProgramD) : ProgramD := ⟨nodeML q x.nodes, fnML (q + (sumN nodeN x.nodes : Nat)) x.fns⟩
def programML : Int → List ProgramD → List ProgramD
  | _, [] => []
  | q, x :: r => programM q x :: programML (q + (programN x : Nat)) r
theorem programML_length : ∀ (q : Int) (l : List ProgramD), (programML q l).length = l.length
  | _, [] => rfl
  | q, x :: r => by simp [programML, programML_length]
theorem programML_append : ∀ (q : Int) (l l2 : List ProgramD), programML q (l ++ l2) = programML q l ++ programML (q + (sumN programN l : Nat)) l2
  | q, [], l2 => by simp [programML, sumN]
  | q, x :: r, l2 => by
    have e : q + (programN x : Nat) + (sumN programN r : Nat) = q + (sumN programN (x :: r) : Nat) := by simp only [sumN, List.map_cons, List.sum_cons]; omega
    simp only [programML, List.cons_append, programML_append, e]
theorem programML_take (q : Int) (l : List ProgramD) {i : Nat} (h : i < l.length) : programML q (l.take (i + 1)) = programML q (l.take i) ++ [programM (q + (sumN programN (l.take i) : Nat)) l[i]] := by
  rw [List.take_succ_eq_append_getElem h, programML_append]; rfl
theorem programML_get (q : Int) (l : List ProgramD) {i : Nat} (h : i < l.length) (h2 : i < (programML q l).length) : (programML q l)[i] = programM (q + (sumN programN (l.take i) : Nat)) l[i] := by
  have e : l = l.take (i + 1) ++ l.drop (i + 1) := (List.take_append_drop _ _).symm
  have hl : (programML q (l.take i)).length = i := by rw [programML_length]; simp; omega
  have e2 : (programML q l)[i]? = some (programM (q + (sumN programN (l.take i) : Nat)) l[i]) := by
    conv => lhs; rw [e, programML_append, programML_take q l h, List.append_assoc]
    rw [List.getElem?_append_right (by omega), hl, Nat.sub_self]; rfl
  exact (List.getElem?_eq_some_iff.1 e2).2
attribute [go_sem] programML_length
end Go.Proofs.YtaodmogcjpainaaDoor.AW
