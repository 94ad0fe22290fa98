/- FnExactCallCount answers true for every input, and its arguments read behind the call as they read before. No condition beyond the row's own. -/
import Derived.Test.YtpjdaocneldnnacRows
import Derived.Test.YtpjdaocneldnnacGcc
import Derived.WalkKit
import Derived.ProofKit
import Derived.ShutString
import Derived.Carry
namespace Go.Proofs.Ytpjdaocneldnnac.fnExactCallCount
open Go.ChangeShapes Go.WideShapes Go.ChangeAt Go.RowKit
open Go.Proofs.Ytpjdaocneldnnac.AW
open Go.ChangeMaps (open_string shut_string)
set_option linter.unusedVariables false
set_option maxRecDepth 100000
theorem own : ownKnob Try.prog.godebug = none := by kernel_rfl
theorem laid : laidOutB Try.prog = true := by kernel_rfl
theorem lifted (os : Os) (started : os.Started) (H : Type) (enc : TypeId × Value → H) :
    ReturnsInHanded {} Try.checked os 3 .any (Rows.fnExactCallCountSpec.pre6 enc Try.prog Try.f3 Rows.fnExactCallCountRow.domain false) (Rows.fnExactCallCountSpec.post enc Try.prog Try.f3 false true false false) := by
  refine returnsInHanded_of_change_sized (C := Try.checked) own started (by kernel_rfl) Try.func3
    (ChangeSpec.witness6 (enc := enc) (C := Try.checked) false ⟨#[], #[.agg #[.slice none 0 0, .slice none 0 0], .string ⟨#[]⟩], []⟩ 8 (by kernel_rfl) (by kernel_rfl) (by kernel_rfl) (by kernel_rfl)) ?_
  intro W base args ds gs before hval0 hW hcnd hsz0 _
  have hsz : (DataW.weightsEach Try.prog (Try.f3.params.toList ++ Rows.fnExactCallCountSpec.plain.varTypes Try.prog) (ds ++ gs)).all (· ≤ reachBytes) = true := hsz0
  have hval : ∀ (j : Nat) t v, Try.f3.params[j]? = some t → args[j]? = some v → Value.okWide Try.prog W .any base t v := hval0
  have hW' := hW
  obtain ⟨p, q, hA0, hV, rfl, hfz, hnd⟩ := hW
  have hA : DataW.TrodAll enc Try.prog W 0 (fun _ => true) true Try.f3.params.toList args.toList ds p := hA0
  rw [Try.params3] at hA hval hsz
  obtain ⟨v0, vs0, d0, ds0, p0, q0, hargs, rfl, rfl, h0, r0⟩ := trodAll_cons hA
  obtain ⟨v1, vs1, d1, ds1, p1, q1, rfl, rfl, rfl, h1, r1⟩ := trodAll_cons r0
  obtain ⟨rfl, rfl, rfl⟩ := trodAll_nil r1
  obtain rfl : args = #[v0, v1] := by cases args; simp_all
  obtain ⟨rfl, rfl⟩ := trodVars_none hV
  have hlt0 : ∀ x ∈ p0, x.block < W.heap.size := fun x hx => by have := hW'.lt x (by simp only [List.mem_append]; exact Or.inl (Or.inl hx)); simpa using this
  have hlt1 : ∀ x ∈ p1, x.block < W.heap.size := fun x hx => by have := hW'.lt x (by simp only [List.mem_append]; exact Or.inl (Or.inr (Or.inl hx))); simpa using this
  obtain ⟨y0, hk0, ok0⟩ := opens_arg oProgram h0 (weights_of_each hsz (j := 0) rfl rfl)
  have hv0 := arg_agg Try.underlying25 (hval 0 25 v0 rfl rfl) hk0 (programL_mem y0)
  obtain ⟨y1, hk1, ok1⟩ := opens_arg oStr h1 (weights_of_each hsz (j := 1) rfl rfl)
  have hv1 := arg_one hk1 (not_agg Try.underlying9 (Or.inl rfl) (hval 1 9 v1 rfl rfl)) rfl
  clear hA0 hval0 hsz0 hsz
  refine (calls_of_sound (ts := [programV y0, .sc (.string y1)]) (law_sound y0 y1 (by omega) (programOk_small y0 ok0)) rfl (fun i t hi => ?_)).mono fun e W' ⟨he, bel⟩ => ?_
  · match i, hi with
    | 0, hi => cases hi; exact hv0
    | 1, hi => cases hi; exact hv1
  subst he
  exact ⟨_, rfl, _, _, _, _, _, [], hW', trodAll_mk1 (shut_bool Try.underlying4 _), (trodAll_cons_mk (kept_trod laid (by kernel_rfl) (of_decide_eq_true (by kernel_rfl)) h0 bel hlt0) (trodAll_cons_mk (kept_trod laid (by kernel_rfl) (of_decide_eq_true (by kernel_rfl)) h1 bel hlt1) trodAll_mk0)), rfl, kept_any bel _, fun h => by cases h⟩
theorem over : Rows.fnExactCallCountRow.holds Try.pinned (OpenSpec.ofChange Rows.fnExactCallCountSpec) :=
  OpenClaim.holds_of_wide 3 Try.f3 rfl rfl rfl rfl rfl rfl rfl ⟨rfl, rfl, rfl, rfl, rfl⟩ rfl rfl rfl rfl rfl (by kernel_rfl) Try.func3 (by kernel_rfl)
    (of_decide_eq_true (by kernel_rfl)) (by unfold Func.isWrapper; first | (rw [if_pos (by decide +kernel)]; kernel_rfl) | (rw [if_neg (by decide +kernel)]; exact ⟨rfl, rfl⟩))
    (fun os started H enc _ => lifted os started H enc)
end Go.Proofs.Ytpjdaocneldnnac.fnExactCallCount
namespace Go.Proofs.Ytpjdaocneldnnac
/-- The row, under a short name, for the claim. -/
theorem fnExactCallCount_holds : Rows.FnExactCallCountSaid := fnExactCallCount.over
end Go.Proofs.Ytpjdaocneldnnac
#print axioms Go.Proofs.Ytpjdaocneldnnac.fnExactCallCount_holds
