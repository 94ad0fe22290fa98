/- Arguments open into data. No condition beyond those named. -/
import Derived.Test.YtnbodmohnkohfaaGreatDoorTb
namespace Go.Proofs.YtnbodmohnkohfaaGreatDoor.AW
open Go.RowKit
set_option maxHeartbeats 4000000
set_option maxRecDepth 100000
set_option linter.unusedSimpArgs false
set_option linter.unusedVariables false
theorem oInt : Opens Tryz.prog 3 (fun n : Int => [cI n]) (fun n => (Lit.int .i64 n).wf = true) := opens_int (k := .i64) Tryz.underlying3 (by kernel_rfl)
theorem oBool : Opens Tryz.prog 4 (fun b : Bool => [cB b]) (fun _ => True) := opens_bool Tryz.underlying4 (by kernel_rfl)
theorem oStr : Opens Tryz.prog 9 (fun n : ByteArray => [cS n]) (fun s => s.size ≤ 140737488351232) := opens_string Tryz.underlying9 (by kernel_rfl)
theorem oInts : Opens Tryz.prog 26 (fun l : List Int => [D.row true 3 (row1 cI l)]) (fun l => l.length * 8 ≤ 140737488351232 ∧ ∀ x ∈ l, (Lit.int .i64 x).wf = true) := by
  have h := opens_slice (t := 26) (e := 3) Tryz.underlying26 (by kernel_rfl) (of_decide_eq_true (by kernel_rfl)) (opens_int (k := .i64) Tryz.underlying3 (by kernel_rfl))
  have hb : Tryz.prog.bytesOf 3 = 8 := by kernel_rfl
  rw [hb] at h
  exact h
def nodeOk (x : NodeD) : Prop := (Lit.int .i64 x.kind).wf = true ∧ (Lit.int .i64 x.num).wf = true ∧ x.name.size ≤ 140737488351232 ∧ (x.kids.length * 8 ≤ 140737488351232 ∧ ∀ y ∈ x.kids, (Lit.int .i64 y).wf = true)
theorem oNode : Opens Tryz.prog 100 nodeL nodeOk := by
  have h := opens_struct (t := 100) Tryz.underlying100 (by kernel_rfl) (opensF_cons rfl oInt (opensF_cons rfl oInt (opensF_cons rfl oStr (opensF_one rfl oInts))))
  exact opens_iso (fun x : NodeD => (x.kind, x.num, x.name, x.kids)) (fun a => ⟨a.1, a.2.1, a.2.2.1, a.2.2.2⟩) (fun _ => rfl) (fun _ => rfl) h
theorem oNodeS : Opens Tryz.prog 22 (fun l : List NodeD => [D.row true 100 (rows nodeL l)]) (fun l => l.length * 56 ≤ 140737488351232 ∧ ∀ y ∈ l, nodeOk y) := by
  have h := opens_slice (t := 22) (e := 100) Tryz.underlying22 (by kernel_rfl) (of_decide_eq_true (by kernel_rfl)) oNode
  have hb : Tryz.prog.bytesOf 100 = 56 := by kernel_rfl
  rw [hb] at h
  exact h
theorem nodeOk_small (x : NodeD) (h : nodeOk x) : nodeSmall x := by
  unfold nodeOk at h
  unfold nodeSmall
  obtain ⟨p0, p1, p2, ⟨p3, q3⟩⟩ := h
  exact ⟨by omega, by omega⟩
theorem nodeL_mem (x : NodeD) : ∀ d ∈ nodeL x, shD d = d := by
  have h : shL (nodeL x) = nodeL x := congrFun nodeL_sh x
  intro d hd
  rw [shL_map] at h
  obtain ⟨i, hi, rfl⟩ := List.getElem_of_mem hd
  have := List.getElem_of_eq h (by simpa using hi)
  simpa using this
def paramOk (x : ParamD) : Prop := x.name.size ≤ 140737488351232 ∧ (Lit.int .i64 x.ty).wf = true
theorem oParam : Opens Tryz.prog 164 paramL paramOk := by
  have h := opens_struct (t := 164) Tryz.underlying164 (by kernel_rfl) (opensF_cons rfl oStr (opensF_one rfl oInt))
  exact opens_iso (fun x : ParamD => (x.name, x.ty)) (fun a => ⟨a.1, a.2⟩) (fun _ => rfl) (fun _ => rfl) h
theorem oParamS : Opens Tryz.prog 102 (fun l : List ParamD => [D.row true 164 (rows paramL l)]) (fun l => l.length * 24 ≤ 140737488351232 ∧ ∀ y ∈ l, paramOk y) := by
  have h := opens_slice (t := 102) (e := 164) Tryz.underlying102 (by kernel_rfl) (of_decide_eq_true (by kernel_rfl)) oParam
  have hb : Tryz.prog.bytesOf 164 = 24 := by kernel_rfl
  rw [hb] at h
  exact h
theorem paramOk_small (x : ParamD) (h : paramOk x) : paramSmall x := by
  unfold paramOk at h
  unfold paramSmall
  obtain ⟨p0, p1⟩ := h
  omega
theorem paramL_mem (x : ParamD) : ∀ d ∈ paramL x, shD d = d := by
  have h : shL (paramL x) = paramL x := congrFun paramL_sh x
  intro d hd
  rw [shL_map] at h
  obtain ⟨i, hi, rfl⟩ := List.getElem_of_mem hd
  have := List.getElem_of_eq h (by simpa using hi)
  simpa using this
def fnOk (x : FnD) : Prop := x.name.size ≤ 140737488351232 ∧ (x.params.length * 24 ≤ 140737488351232 ∧ ∀ y ∈ x.params, paramOk y) ∧ (Lit.int .i64 x.res).wf = true ∧ (Lit.int .i64 x.body).wf = true ∧ (Lit.int .i64 x.ret).wf = true
theorem oFn : Opens Tryz.prog 104 fnL fnOk := by
  have h := opens_struct (t := 104) Tryz.underlying104 (by kernel_rfl) (opensF_cons rfl oStr (opensF_cons rfl oParamS (opensF_cons rfl oInt (opensF_cons rfl oInt (opensF_one rfl oInt)))))
  exact opens_iso (fun x : FnD => (x.name, x.params, x.res, x.body, x.ret)) (fun a => ⟨a.1, a.2.1, a.2.2.1, a.2.2.2.1, a.2.2.2.2⟩) (fun _ => rfl) (fun _ => rfl) h
theorem oFnS : Opens Tryz.prog 23 (fun l : List FnD => [D.row true 104 (rows fnL l)]) (fun l => l.length * 64 ≤ 140737488351232 ∧ ∀ y ∈ l, fnOk y) := by
  have h := opens_slice (t := 23) (e := 104) Tryz.underlying23 (by kernel_rfl) (of_decide_eq_true (by kernel_rfl)) oFn
  have hb : Tryz.prog.bytesOf 104 = 64 := by kernel_rfl
  rw [hb] at h
  exact h
theorem fnOk_small (x : FnD) (h : fnOk x) : fnSmall x := by
  unfold fnOk at h
  unfold fnSmall
  obtain ⟨p0, ⟨p1, q1⟩, p2, p3, p4⟩ := h
  exact ⟨by omega, by omega, fun y hy => paramOk_small y (q1 y hy)⟩
theorem fnL_mem (x : FnD) : ∀ d ∈ fnL x, shD d = d := by
  have h : shL (fnL x) = fnL x := congrFun fnL_sh x
  intro d hd
  rw [shL_map] at h
  obtain ⟨i, hi, rfl⟩ := List.getElem_of_mem hd
  have := List.getElem_of_eq h (by simpa using hi)
  simpa using this
def programOk (x : ProgramD) : Prop := (x.nodes.length * 56 ≤ 140737488351232 ∧ ∀ y ∈ x.nodes, nodeOk y) ∧ (x.fns.length * 64 ≤ 140737488351232 ∧ ∀ y ∈ x.fns, fnOk y)
theorem oProgram : Opens Tryz.prog 25 programL programOk := by
  have h := opens_struct (t := 25) Tryz.underlying25 (by kernel_rfl) (opensF_cons rfl oNodeS (opensF_one rfl oFnS))
  exact opens_iso (fun x : ProgramD => (x.nodes, x.fns)) (fun a => ⟨a.1, a.2⟩) (fun _ => rfl) (fun _ => rfl) h
theorem programOk_small (x : ProgramD) (h : programOk x) : programSmall x := by
  unfold programOk at h
  unfold programSmall
  obtain ⟨⟨p0, q0⟩, ⟨p1, q1⟩⟩ := h
  exact ⟨by omega, fun y hy => nodeOk_small y (q0 y hy), by omega, fun y hy => fnOk_small y (q1 y hy)⟩
theorem programL_mem (x : ProgramD) : ∀ d ∈ programL x, shD d = d := by
  have h : shL (programL x) = programL x := congrFun programL_sh x
  intro d hd
  rw [shL_map] at h
  obtain ⟨i, hi, rfl⟩ := List.getElem_of_mem hd
  have := List.getElem_of_eq h (by simpa using hi)
  simpa using this
end Go.Proofs.YtnbodmohnkohfaaGreatDoor.AW
