/- Arguments of a code's words are few. No condition beyond those named. -/
import Derived.Test.YtngpjfajoajnjaaDoorSl
namespace Go.Proofs.YtngpjfajoajnjaaDoor.AW
open Go.RowKit
set_option maxHeartbeats 8000000
set_option maxRecDepth 100000
set_option linter.unusedSimpArgs false
set_option linter.unusedVariables false

theorem code_args {c : CodeD} (h : codeCost c ≤ 1048576) : ∀ y ∈ c.words, y.args.length ≤ 1048576 := by
  intro y hy
  obtain ⟨i, hi, rfl⟩ := List.getElem_of_mem hy
  have h1 := sumN_mem insCost hi
  have h2 : sumN insCost c.words ≤ 1048576 := by unfold codeCost at h; omega
  have h3 : c.words[i].args.length ≤ insCost c.words[i] := by unfold insCost; omega
  omega

end Go.Proofs.YtngpjfajoajnjaaDoor.AW
