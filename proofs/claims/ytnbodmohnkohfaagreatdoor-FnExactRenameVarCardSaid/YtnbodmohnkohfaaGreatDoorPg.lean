/- Quiet and Still, as the program tells them and as the reference does. No condition beyond those named. -/
import Derived.Test.YtnbodmohnkohfaaGreatDoorPf
namespace Go.Proofs.YtnbodmohnkohfaaGreatDoor.AW
open Go.RowKit
set_option maxHeartbeats 8000000
set_option maxRecDepth 100000
set_option linter.unusedSimpArgs false
set_option linter.unusedVariables false

theorem program_kids {p : ProgramD} (h : programCost p ≤ 1048576) : p.nodes.length ≤ 1048576 ∧ ∀ x ∈ p.nodes, x.kids.length ≤ 1048576 := by
  unfold programCost at h
  refine ⟨by omega, fun y hy => ?_⟩
  obtain ⟨i, hi, rfl⟩ := List.getElem_of_mem hy
  have h1 := sumN_mem nodeCost hi
  have h3 : p.nodes[i].kids.length ≤ nodeCost p.nodes[i] := by unfold nodeCost; omega
  omega
end Go.Proofs.YtnbodmohnkohfaaGreatDoor.AW
