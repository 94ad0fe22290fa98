/- Rows within a variable that stand by themselves, one after another. No condition. -/
import Derived.Test.YtaodmogcjpainaaDoorA32
namespace Go.Proofs.YtaodmogcjpainaaDoor.AW
open Go.RowKit
section
variable {P : Program} {C : Cx} {st : St}

def isPinK (ks : List Nat) (o : Nat) : Bool := isPin o || ks.contains o

/-- A row within an object stands by itself from here on; others did before. -/
theorem Tri.outN (ks : List Nat) {c : Code} {Q : Exit → St → Prop} (o : Nat) (p : List (Nat × Nat)) (o' : Nat) {x : Ob} {e : TypeId} {es : List (List D)} (ho : look st.ob o = some x) (hsub : subO x p = some (.row false e es)) (hp : p ≠ []) (ho' : look st.ob o' = none) (hb : isPinK ks o' = false) (hb2 : o' < 3000) (hpin : ∀ o, isPinK ks o = false → C.pin o = none) (hp3 : ∀ n, 3000 ≤ n → C.pin n = none) (hz : C.full)
    (h : ∀ z C', C'.pin o' = some (z, 0, 0) → (∀ k, k ≠ o' → C'.pin k = C.pin k) → (∀ o, isPinK (o' :: ks) o = false → C'.pin o = none) → (∀ o, 3000 ≤ o → C'.pin o = none) → C'.full → Tri P C' (st.out o p o' z) c Q) : Tri P C st c Q := fun a w gh hR => by
  have hpo := hpin o' hb
  obtain ⟨z, gh1, hr1, _⟩ := hR.out ho hsub hp ho' hpo
  exact Code.wp_mono (fun e a' w' ⟨s, g, hk, hr⟩ => ⟨s, g, hk, hr.unpinned hpo⟩) (h z (C.pinned o' z) (by simp [Cx.pinned]) (fun k hk => by simp only [Cx.pinned, if_neg hk]) (fun q hq => by
    simp only [isPinK, Bool.or_eq_false_iff, List.contains_cons] at hq
    have hne : q ≠ o' := by simpa using hq.2.1
    simp only [Cx.pinned, if_neg hne]; exact hpin q (by simp only [isPinK, hq.1, hq.2.2, Bool.or_self])) (pinned3 hp3 hb2) (pinnedz hz) a w gh1 hr1)

theorem pinK0 (hpin : ∀ o, isPin o = false → C.pin o = none) : ∀ o, isPinK [] o = false → C.pin o = none := fun o ho => hpin o (by simpa [isPinK] using ho)
end
attribute [go_sem] isPinK
end Go.Proofs.YtaodmogcjpainaaDoor.AW
