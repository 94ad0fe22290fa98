/- Whom a function calls, both sides. No condition beyond those named. -/
import Derived.Test.YtnbodmohnkohfaaGreatDoorPn
namespace Go.Proofs.YtnbodmohnkohfaaGreatDoor.AW
open Go.RowKit
set_option maxHeartbeats 8000000
set_option maxRecDepth 100000
set_option linter.unusedSimpArgs false
set_option linter.unusedVariables false

def callStep (p : ProgramD) (out : List Int) (k : Int) : List Int :=
  if (nAt p.nodes k).kind == 12 then (if 0 ≤ fnAtP p.fns (nAt p.nodes k).name then addI out (fnAtP p.fns (nAt p.nodes k).name) else out) else out
noncomputable def callsL (p : ProgramD) (fn : Int) : List Int := (fnNs p fn).foldl (callStep p) []
theorem callStep_length (p : ProgramD) (out : List Int) (k : Int) : (callStep p out k).length ≤ out.length + 1 := by
  unfold callStep
  split
  · split
    · exact addI_length _ _
    · omega
  · omega
theorem calls_length (p : ProgramD) : ∀ (l : List Int) (out : List Int), (l.foldl (callStep p) out).length ≤ out.length + l.length
  | [], out => by simp
  | k :: r, out => by
    have h1 := calls_length p r (callStep p out k)
    have h2 := callStep_length p out k
    simp only [List.foldl_cons, List.length_cons]; omega
theorem calls_take (p : ProgramD) (l : List Int) {i : Nat} (h : i < l.length) : (l.take (i + 1)).foldl (callStep p) [] = callStep p ((l.take i).foldl (callStep p) []) l[i] := by
  rw [List.take_succ_eq_append_getElem h, List.foldl_append]; rfl
theorem fnNs_node (p : ProgramD) (fn : Int) {i : Nat} (h : i < (fnNs p fn).length) : 0 ≤ (fnNs p fn)[i] ∧ (fnNs p fn)[i].toNat < p.nodes.length := by
  obtain ⟨k, _, hk⟩ := (fnNs_mem p fn _).1 (List.getElem_mem h)
  have := underP_mem hk
  exact ⟨this.1, this.2.1⟩

theorem callsL_length (p : ProgramD) (fn : Int) : (callsL p fn).length ≤ p.nodes.length := by
  have h1 := calls_length p (fnNs p fn) []
  have h2 := fnNs_length p fn
  unfold callsL
  simp only [List.length_nil] at h1
  omega
theorem node_marks : ∀ l : List NodeD, sumN nodeN l ≤ 3 * l.length + sumN nodeCost l
  | [] => by simp [sumN]
  | x :: r => by
    have := node_marks r
    simp only [sumN, List.map_cons, List.sum_cons, List.length_cons] at this ⊢
    have e : nodeN x ≤ 3 + nodeCost x := by unfold nodeN nodeCost; omega
    omega
theorem two_marks {α : Type} {f : α → Nat} (h : ∀ x, f x = 2) : ∀ l : List α, sumN f l = 2 * l.length
  | [] => by simp [sumN]
  | x :: r => by
    have := two_marks h r
    simp only [sumN, List.map_cons, List.sum_cons, List.length_cons] at this ⊢
    rw [h x]; omega
theorem fn_marks : ∀ l : List FnD, sumN fnN l ≤ 4 * l.length + 2 * sumN fnCost l
  | [] => by simp [sumN]
  | x :: r => by
    have := fn_marks r
    simp only [sumN, List.map_cons, List.sum_cons, List.length_cons] at this ⊢
    have e : fnN x ≤ 4 + 2 * fnCost x := by
      have h := two_marks (f := paramN) (fun _ => rfl) x.params
      unfold fnN fnCost; omega
    omega
end Go.Proofs.YtnbodmohnkohfaaGreatDoor.AW
