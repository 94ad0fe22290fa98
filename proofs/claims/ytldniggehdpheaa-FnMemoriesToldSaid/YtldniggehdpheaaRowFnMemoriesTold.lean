/- FnMemoriesTold answers true for every input, and its arguments read behind the call as they read before. No condition beyond the row's own. -/
import Derived.Test.YtldniggehdpheaaRows
import Derived.Test.YtldniggehdpheaaLawFnMemoriesTold
import Derived.WalkKit
import Derived.ProofKit
import Derived.ShutString
import Derived.Carry
namespace Go.Proofs.Ytldniggehdpheaa.fnMemoriesTold
open Go.ChangeShapes Go.WideShapes Go.ChangeAt Go.RowKit
open Go.Proofs.Ytldniggehdpheaa.AW
open Go.ChangeMaps (open_string shut_string)
set_option linter.unusedVariables false
set_option maxRecDepth 100000

theorem oBys : Opens Try.prog 22 (fun l : List Int => [D.row true 5 (row1 cU l)]) (fun l => l.length * 1 ≤ 140737488351232 ∧ ∀ x ∈ l, (Lit.int .u8 x).wf = true) := by
  have h := opens_slice (t := 22) (e := 5) Try.underlying22 (by kernel_rfl) (of_decide_eq_true (by kernel_rfl)) (opens_int (k := .u8) Try.underlying5 (by kernel_rfl))
  have hb : Try.prog.bytesOf 5 = 1 := by kernel_rfl
  rw [hb] at h
  exact h

theorem own : ownKnob Try.prog.godebug = none := by kernel_rfl
theorem laid : laidOutB Try.prog = true := by kernel_rfl
theorem lifted (os : Os) (started : os.Started) (H : Type) (enc : TypeId × Value → H) :
    ReturnsInHanded {} Try.checked os 3 .any (Rows.fnMemoriesToldSpec.pre6 enc Try.prog Try.f3 Rows.fnMemoriesToldRow.domain false) (Rows.fnMemoriesToldSpec.post enc Try.prog Try.f3 false true false false) := by
  refine returnsInHanded_of_change_sized (C := Try.checked) own started (by kernel_rfl) Try.func3
    (ChangeSpec.witness6 (enc := enc) (C := Try.checked) false ⟨#[], #[.slice none 0 0], []⟩ 8 (by kernel_rfl) (by kernel_rfl) (by kernel_rfl) (by kernel_rfl)) ?_
  intro W base args ds gs before hval0 hW hcnd hsz0 _
  have hsz : (DataW.weightsEach Try.prog (Try.f3.params.toList ++ Rows.fnMemoriesToldSpec.plain.varTypes Try.prog) (ds ++ gs)).all (· ≤ reachBytes) = true := hsz0
  have hval : ∀ (j : Nat) t v, Try.f3.params[j]? = some t → args[j]? = some v → Value.okWide Try.prog W .any base t v := hval0
  have hW' := hW
  obtain ⟨p, q, hA0, hV, rfl, hfz, hnd⟩ := hW
  have hA : DataW.TrodAll enc Try.prog W 0 (fun _ => true) true Try.f3.params.toList args.toList ds p := hA0
  rw [Try.params3] at hA hval hsz
  obtain ⟨v0, vs0, d0, ds0, p0, q0, hargs, rfl, rfl, h0, r0⟩ := trodAll_cons hA
  obtain ⟨rfl, rfl, rfl⟩ := trodAll_nil r0
  obtain rfl : args = #[v0] := by cases args; simp_all
  obtain ⟨rfl, rfl⟩ := trodVars_none hV
  have hlt0 : ∀ x ∈ p0, x.block < W.heap.size := fun x hx => by have := hW'.lt x (by simp only [List.mem_append]; exact Or.inl (Or.inl hx)); simpa using this
  obtain ⟨y0, hk0, ok0⟩ := opens_arg oBys h0 (weights_of_each hsz (j := 0) rfl rfl)
  have hv0 := arg_one hk0 (not_agg Try.underlying22 (Or.inr (Or.inr (Or.inr ⟨_, rfl⟩))) (hval 0 22 v0 rfl rfl)) (by simp [shD, bytes_sh])
  clear hA0 hval0 hsz0 hsz
  refine (calls_of_sound (ts := [.imm 5 (row1 cU y0)]) (law_sound y0) rfl (fun i t hi => ?_)).mono fun e W' ⟨he, bel⟩ => ?_
  · match i, hi with
    | 0, hi => cases hi; exact hv0
  subst he
  exact ⟨_, rfl, _, _, _, _, _, [], hW', trodAll_mk1 (shut_bool Try.underlying4 _), (trodAll_cons_mk (kept_trod laid (by kernel_rfl) (of_decide_eq_true (by kernel_rfl)) h0 bel hlt0) trodAll_mk0), rfl, kept_any bel _, fun h => by cases h⟩
theorem over : Rows.fnMemoriesToldRow.holds Try.pinned (OpenSpec.ofChange Rows.fnMemoriesToldSpec) :=
  OpenClaim.holds_of_wide 3 Try.f3 rfl rfl rfl rfl rfl rfl rfl ⟨rfl, rfl, rfl, rfl, rfl⟩ rfl rfl rfl rfl rfl (by kernel_rfl) Try.func3 (by kernel_rfl)
    (of_decide_eq_true (by kernel_rfl)) (by unfold Func.isWrapper; first | (rw [if_pos (by decide +kernel)]; kernel_rfl) | (rw [if_neg (by decide +kernel)]; exact ⟨rfl, rfl⟩))
    (fun os started H enc _ => lifted os started H enc)
end Go.Proofs.Ytldniggehdpheaa.fnMemoriesTold
namespace Go.Proofs.Ytldniggehdpheaa
/-- The row, under a short name, for the claim. -/
theorem fnMemoriesTold_holds : Rows.FnMemoriesToldSaid := fnMemoriesTold.over
end Go.Proofs.Ytldniggehdpheaa
#print axioms Go.Proofs.Ytldniggehdpheaa.fnMemoriesTold_holds
