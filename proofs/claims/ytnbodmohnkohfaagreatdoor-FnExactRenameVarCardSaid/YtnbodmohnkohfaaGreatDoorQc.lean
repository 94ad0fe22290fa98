/- How many parameters there are. No condition beyond those named. -/
import Derived.Test.YtnbodmohnkohfaaGreatDoorQb
namespace Go.Proofs.YtnbodmohnkohfaaGreatDoor.AW
open Go.RowKit
theorem program_params {p : ProgramD} (h : programCost p ≤ 1048576) : ∀ f ∈ p.fns, f.params.length ≤ 1048576 := by
  unfold programCost at h
  intro f hf
  obtain ⟨i, hi, rfl⟩ := List.getElem_of_mem hf
  have h1 := sumN_mem fnCost hi
  have h3 : p.fns[i].params.length ≤ fnCost p.fns[i] := by unfold fnCost; omega
  omega
end Go.Proofs.YtnbodmohnkohfaaGreatDoor.AW
