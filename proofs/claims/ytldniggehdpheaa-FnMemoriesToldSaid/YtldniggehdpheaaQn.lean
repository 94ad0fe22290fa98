/- A row that is not there yet, in a variable. No condition. -/
import Derived.Test.YtldniggehdpheaaPy
namespace Go.Proofs.Ytldniggehdpheaa.AW
open Go.RowKit
set_option linter.unusedSimpArgs false
set_option linter.unusedVariables false

/-- A row of none, where nothing is yet. -/
def St.nilr (st : St) (o j : Nat) (e : TypeId) : St := match look st.ob o with
  | some (.box cs) => (match cs[j]? with
    | some (.sc (.slice none 0 0)) => st.swap o (.box (cs.set j (.row false e [])))
    | _ => st)
  | _ => st

section
variable {P : Program} {w w1 : World} {C : Cx} {X : Nat → Prop} {gh gh1 : Gh} {st : St} {a : Act} {v : V} {u : Value} {ob : List (Nat × Ob)} {S : Nat → Prop} {K : St → Prop}

theorem Ow.nilr {e : TypeId} {F : Nat → Prop} (h : Ow P w S (.sc (.slice none 0 0)) u F) : Ow P w S (.row false e []) u F := by
  cases h with
  | sc h =>
    have h1 : Ow P w S (.row false e []) (.slice none 0 0) (fun k => (Value.slice none 0 0).ownBlock = some k ∨ ∃ i j d, cellAt ([] : List (List D)) i j = some d ∧ (fun _ _ _ => False : Nat → Nat → Nat → Prop) i j k) :=
      Ow.row [] (fun _ _ _ => False) (World.ownsRow_nil w _ e _) (fun l hl => by simp at hl) (fun u hu => by simp at hu) (fun i j d hd => by simp [cellAt] at hd) (fun _ _ _ _ _ _ _ _ _ hh => hh.elim) (fun _ _ _ _ _ hh => hh.elim)
    refine h1.congr (fun k => ?_)
    constructor
    · rintro (hh | ⟨i, j, d, hd, hh⟩)
      · simp [Value.ownBlock] at hh
      · exact hh
    · exact fun hh => hh.elim

theorem Ent.nilr (o j : Nat) (e : TypeId) : Ent P C st (st.nilr o j e) := fun a w gh h => by
  unfold St.nilr
  split
  case h_2 => exact ⟨gh, h⟩
  rename_i cs ho
  split
  case h_2 => exact ⟨gh, h⟩
  rename_i hj
  have hbF : gh.F o (gh.bb o) := by cases h.obs o _ ho with | box xs G hb hl h1 hc hx dis nb hF => exact (hF _).2 (Or.inl rfl)
  refine ⟨_, h.swap (F := gh.F o) ho (by simp [Ob.like]) (Nat.le_refl _) (fun _ _ _ _ _ _ => rfl) (fun _ _ => rfl) (World.keptBut_refl w _) ?_ (fun k hk => Or.inl hk) (fun k hk => ⟨Or.inr hk, h.xF o _ k ho hk⟩) (fun cs' k _ hk he => h.xF o _ k ho hk (he ▸ hbF))⟩
  have hob := h.obs o _ ho
  have g1 : (gh.upd o (gh.hv o) (gh.bb o) (gh.bo o) (gh.F o)).F o = gh.F o := by simp [Gh.upd]
  have g2 : (gh.upd o (gh.hv o) (gh.bb o) (gh.bo o) (gh.F o)).bb o = gh.bb o := by simp [Gh.upd]
  have g3 : (gh.upd o (gh.hv o) (gh.bb o) (gh.bo o) (gh.F o)).bo o = gh.bo o := by simp [Gh.upd]
  cases hob with
  | box xs G hb hl h1 hc hx dis nb hF =>
    have back : ∀ q d, (cs.set j (.row false e []))[q]? = some d → ∃ d0, cs[q]? = some d0 := fun q d hd => by
      rw [List.getElem?_set] at hd
      split at hd
      · rename_i ejq; subst ejq; exact ⟨_, hj⟩
      · exact ⟨d, hd⟩
    refine ObR.box xs G (by rw [g2]; exact hb) (by rw [List.length_set]; exact hl) h1 (by rw [g2, g3]; exact hc) (fun q d hd => ?_) (fun q q' d d' k hd hd' => ?_) (fun q d k hd hk => ?_) (fun k => ?_)
    · rw [List.getElem?_set] at hd
      split at hd
      · rename_i ejq
        subst ejq
        split at hd
        · cases hd; exact (hx j _ hj).nilr
        · cases hd
      · exact hx q d hd
    · obtain ⟨d0, h0⟩ := back _ _ hd
      obtain ⟨d1, h2⟩ := back _ _ hd'
      exact dis q q' d0 d1 k h0 h2
    · obtain ⟨d0, h0⟩ := back _ _ hd
      rw [g2]; exact nb q d0 k h0 hk
    · rw [g1, g2, hF k]
      constructor
      · rintro (hh | ⟨q, d, hd, hk⟩)
        · exact Or.inl hh
        · right
          by_cases eq : j = q
          · subst eq
            exact ⟨j, .row false e [], by rw [List.getElem?_set_self (List.getElem?_eq_some_iff.1 hd).1], hk⟩
          · exact ⟨q, d, by rw [List.getElem?_set_ne eq]; exact hd, hk⟩
      · rintro (hh | ⟨q, d, hd, hk⟩)
        · exact Or.inl hh
        · obtain ⟨d0, h0⟩ := back _ _ hd
          exact Or.inr ⟨q, d0, h0, hk⟩
end
attribute [go_sem] St.nilr
end Go.Proofs.Ytldniggehdpheaa.AW
