/- Arguments open into data. No condition beyond those named. -/
import Derived.Test.YtnbodmohnkohfaaDoorTb
namespace Go.Proofs.YtnbodmohnkohfaaDoor.AW
open Go.RowKit
set_option maxHeartbeats 4000000
set_option maxRecDepth 100000
set_option linter.unusedSimpArgs false
set_option linter.unusedVariables false
theorem oInt : Opens Tryd.prog 3 (fun n : Int => [cI n]) (fun n => (Lit.int .i64 n).wf = true) := opens_int (k := .i64) Tryd.underlying3 (by kernel_rfl)
theorem oBool : Opens Tryd.prog 4 (fun b : Bool => [cB b]) (fun _ => True) := opens_bool Tryd.underlying4 (by kernel_rfl)
theorem oStr : Opens Tryd.prog 9 (fun n : ByteArray => [cS n]) (fun s => s.size ≤ 140737488351232) := opens_string Tryd.underlying9 (by kernel_rfl)
theorem oInts : Opens Tryd.prog 22 (fun l : List Int => [D.row true 3 (row1 cI l)]) (fun l => l.length * 8 ≤ 140737488351232 ∧ ∀ x ∈ l, (Lit.int .i64 x).wf = true) := by
  have h := opens_slice (t := 22) (e := 3) Tryd.underlying22 (by kernel_rfl) (of_decide_eq_true (by kernel_rfl)) (opens_int (k := .i64) Tryd.underlying3 (by kernel_rfl))
  have hb : Tryd.prog.bytesOf 3 = 8 := by kernel_rfl
  rw [hb] at h
  exact h
def insOk (x : InsD) : Prop := (Lit.int .i64 x.op).wf = true ∧ (Lit.int .i64 x.a).wf = true ∧ (Lit.int .i64 x.b).wf = true ∧ (Lit.int .i64 x.c).wf = true ∧ (Lit.int .i64 x.num).wf = true ∧ x.name.size ≤ 140737488351232 ∧ (x.args.length * 8 ≤ 140737488351232 ∧ ∀ y ∈ x.args, (Lit.int .i64 y).wf = true)
theorem oIns : Opens Tryd.prog 57 insL insOk := by
  have h := opens_struct (t := 57) Tryd.underlying57 (by kernel_rfl) (opensF_cons rfl oInt (opensF_cons rfl oInt (opensF_cons rfl oInt (opensF_cons rfl oInt (opensF_cons rfl oInt (opensF_cons rfl oStr (opensF_one rfl oInts)))))))
  exact opens_iso (fun x : InsD => (x.op, x.a, x.b, x.c, x.num, x.name, x.args)) (fun a => ⟨a.1, a.2.1, a.2.2.1, a.2.2.2.1, a.2.2.2.2.1, a.2.2.2.2.2.1, a.2.2.2.2.2.2⟩) (fun _ => rfl) (fun _ => rfl) h
theorem oInsS : Opens Tryd.prog 23 (fun l : List InsD => [D.row true 57 (rows insL l)]) (fun l => l.length * 80 ≤ 140737488351232 ∧ ∀ y ∈ l, insOk y) := by
  have h := opens_slice (t := 23) (e := 57) Tryd.underlying23 (by kernel_rfl) (of_decide_eq_true (by kernel_rfl)) oIns
  have hb : Tryd.prog.bytesOf 57 = 80 := by kernel_rfl
  rw [hb] at h
  exact h
theorem insOk_small (x : InsD) (h : insOk x) : insSmall x := by
  unfold insOk at h
  unfold insSmall
  obtain ⟨p0, p1, p2, p3, p4, p5, ⟨p6, q6⟩⟩ := h
  exact ⟨by omega, by omega⟩
theorem insL_mem (x : InsD) : ∀ d ∈ insL x, shD d = d := by
  have h : shL (insL x) = insL x := congrFun insL_sh x
  intro d hd
  rw [shL_map] at h
  obtain ⟨i, hi, rfl⟩ := List.getElem_of_mem hd
  have := List.getElem_of_eq h (by simpa using hi)
  simpa using this
def codeOk (x : CodeD) : Prop := x.name.size ≤ 140737488351232 ∧ (Lit.int .i64 x.params).wf = true ∧ (x.locals.length * 8 ≤ 140737488351232 ∧ ∀ y ∈ x.locals, (Lit.int .i64 y).wf = true) ∧ (x.words.length * 80 ≤ 140737488351232 ∧ ∀ y ∈ x.words, insOk y)
theorem oCode : Opens Tryd.prog 25 codeL codeOk := by
  have h := opens_struct (t := 25) Tryd.underlying25 (by kernel_rfl) (opensF_cons rfl oStr (opensF_cons rfl oInt (opensF_cons rfl oInts (opensF_one rfl oInsS))))
  exact opens_iso (fun x : CodeD => (x.name, x.params, x.locals, x.words)) (fun a => ⟨a.1, a.2.1, a.2.2.1, a.2.2.2⟩) (fun _ => rfl) (fun _ => rfl) h
theorem codeOk_small (x : CodeD) (h : codeOk x) : codeSmall x := by
  unfold codeOk at h
  unfold codeSmall
  obtain ⟨p0, p1, ⟨p2, q2⟩, ⟨p3, q3⟩⟩ := h
  exact ⟨by omega, by omega, by omega, fun y hy => insOk_small y (q3 y hy)⟩
theorem codeL_mem (x : CodeD) : ∀ d ∈ codeL x, shD d = d := by
  have h : shL (codeL x) = codeL x := congrFun codeL_sh x
  intro d hd
  rw [shL_map] at h
  obtain ⟨i, hi, rfl⟩ := List.getElem_of_mem hd
  have := List.getElem_of_eq h (by simpa using hi)
  simpa using this
end Go.Proofs.YtnbodmohnkohfaaDoor.AW
