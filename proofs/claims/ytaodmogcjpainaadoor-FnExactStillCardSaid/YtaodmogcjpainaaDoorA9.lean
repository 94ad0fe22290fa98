/- Values are laid into memory: what is one's own goes in with them. No condition. -/
import Derived.Test.YtaodmogcjpainaaDoorA8
import Derived.Great.FillDense
import Derived.Great.BuildSlice
namespace Go.Proofs.YtaodmogcjpainaaDoor.AW
open Go.RowKit
set_option linter.unusedSimpArgs false
set_option linter.unusedVariables false

/-- A slot's value as data: what is one's own is taken from where it was. -/
def toD (st : St) : V → Prop × St × D
  | .sc x => (True, st, .sc x)
  | .nil _ => (True, st, .sc (.slice none 0 0))
  | .imm e es => (True, st, .row true e es)
  | .ref o [] n => match look st.ob o with
    | some (.row e es) => (n = es.length, st.kill o, .row false e es)
    | _ => (False, st, .dead)
  | .ref o [(i, j)] n => match look st.ob o with
    | some (.box cs) => match cs[j]? with
      | some (.row false e es) => (n = es.length ∧ i = 0, st.swap o (.box (cs.set j .dead)), .row false e es)
      | _ => (False, st, .dead)
    | _ => (False, st, .dead)
  | _ => (False, st, .dead)

def toDs (st : St) : List V → Prop × St × List D
  | [] => (True, st, [])
  | v :: r => ((toD st v).1 ∧ (toDs (toD st v).2.1 r).1, (toDs (toD st v).2.1 r).2.1, (toD st v).2.2 :: (toDs (toD st v).2.1 r).2.2)

def toDss (st : St) : List (List V) → Prop × St × List (List D)
  | [] => (True, st, [])
  | v :: r => ((toDs st v).1 ∧ (toDss (toDs st v).2.1 r).1, (toDss (toDs st v).2.1 r).2.1, (toDs st v).2.2 :: (toDss (toDs st v).2.1 r).2.2)

/-- A value's cells. -/
def flatV : V → Option (List V)
  | .agg vs => some vs
  | .sc v => some [.sc v]
  | .nil e => some [.nil e]
  | .imm e es => some [.imm e es]
  | .ref o p n => some [.ref o p n]
  | _ => none

section
variable {P : Program} {w w1 : World} {C : Cx} {X : Nat → Prop} {gh : Gh} {st : St} {a : Act} {v : V} {u : Value} {ob : List (Nat × Ob)}

theorem agetD (us : Array Value) (i : Nat) : us.toList.getD i undef = us.getD i undef := by
  simp only [List.getD, Array.getD, Array.getElem?_toList]
  by_cases h : i < us.size
  · rw [dif_pos h, Array.getElem?_eq_getElem h]; rfl
  · rw [dif_neg h, Array.getElem?_eq_none (by omega)]; rfl

theorem cells_one {u : Value} (h : u.oneCell' = true) : u.cells = #[u] := by
  cases u <;> first | rfl | (simp [Value.oneCell'] at h)

theorem VR.one_sc {x : Value} (h : VR P w gh ob (.sc x) u) : u.oneCell' = true := by cases h; assumption

theorem flat_sound {vs : List V} (h : VR P w gh ob v u) (hf : flatV v = some vs) :
    u.cells.size = vs.length ∧ (∀ x ∈ u.cells, x.oneCell' = true) ∧ ∀ i x, vs[i]? = some x → VR P w gh ob x (u.cells.toList.getD i undef) := by
  have one : ∀ {y : V}, u.oneCell' = true → VR P w gh ob y u → vs = [y] → u.cells.size = vs.length ∧ (∀ x ∈ u.cells, x.oneCell' = true) ∧ ∀ i x, vs[i]? = some x → VR P w gh ob x (u.cells.toList.getD i undef) := by
    intro y h1 hy hv
    rw [cells_one h1, hv]
    refine ⟨rfl, by simp [h1], fun i x hx => ?_⟩
    cases i with
    | zero => simp at hx; subst hx; simpa using hy
    | succ i => simp at hx
  cases h with
  | dead => simp [flatV] at hf
  | und => simp [flatV] at hf
  | sc h => simp only [flatV, Option.some.injEq] at hf; exact one h (.sc h) hf.symm
  | nil => simp only [flatV, Option.some.injEq] at hf; exact one rfl .nil hf.symm
  | imm h => simp only [flatV, Option.some.injEq] at hf; exact one h.one (.imm h) hf.symm
  | ref hx hn hle => simp only [flatV, Option.some.injEq] at hf; exact one rfl (.ref hx hn hle) hf.symm
  | bp => simp [flatV] at hf
  | rp => simp [flatV] at hf
  | ip => simp [flatV] at hf
  | tup => simp [flatV] at hf
  | cond => simp [flatV] at hf
  | @agg vs' us hl h1 h =>
    simp only [flatV, Option.some.injEq] at hf
    subst hf
    exact ⟨hl, h1, fun i x hx => by have := h i x hx; rw [← agetD] at this; exact this⟩

theorem look_kill (st : St) (o o' : Nat) : look (st.kill o).ob o' = if o = o' then none else look st.ob o' := by
  unfold St.kill; exact look_drop _ _ _

/-- What a later one needs stands when an earlier one has gone in. -/
def Stands (P : Program) (w : World) (gh gh1 : Gh) (st st1 : St) : Prop := ∀ v u, VR P w gh st.ob v u → (toD st1 v).1 → VR P w gh1 st1.ob v u

theorem toD_sound (h : Rep P C X st a w gh) (hv : VR P w gh st.ob v u) (hs : (toD st v).1) :
    ∃ (gh1 : Gh) (F : Nat → Prop), Rep P C (fun k => X k ∨ F k) (toD st v).2.1 a w gh1 ∧ gh1.S = gh.S ∧ (gh1.hv = gh.hv ∧ gh1.bb = gh.bb ∧ gh1.bo = gh.bo) ∧ Ow P w gh.S (toD st v).2.2 u F ∧ (∀ k, F k → ¬ X k) ∧ Stands P w gh gh1 st (toD st v).2.1 := by
  have triv : ∀ {d : D}, Ow P w gh.S d u (fun _ => False) → ∃ (gh1 : Gh) (F : Nat → Prop), Rep P C (fun k => X k ∨ F k) st a w gh1 ∧ gh1.S = gh.S ∧ (gh1.hv = gh.hv ∧ gh1.bb = gh.bb ∧ gh1.bo = gh.bo) ∧ Ow P w gh.S d u F ∧ (∀ k, F k → ¬ X k) ∧ Stands P w gh gh1 st st :=
    fun ho => ⟨gh, _, h.less (fun k hk => hk.elim id False.elim), rfl, ⟨rfl, rfl, rfl⟩, ho, fun _ hk => hk.elim, fun v u hv _ => hv⟩
  cases hv with
  | dead => exact hs.elim
  | und => exact hs.elim
  | bp => exact hs.elim
  | rp => exact hs.elim
  | ip => exact hs.elim
  | agg => exact hs.elim
  | tup => exact hs.elim
  | cond => exact hs.elim
  | sc h1 => exact triv (.sc h1)
  | nil => exact triv (.sc rfl)
  | imm hr => exact triv (.shared hr)
  | @ref o n p x e es A c hx hn hle =>
    cases p with
    | nil =>
      simp only [toD, hx] at hs ⊢
      cases x with
      | box cs => exact hs.elim
      | row e0 es0 =>
        simp only at hs ⊢
        have hob := h.obs o _ hx
        cases hob with
        | row how =>
          have hh : D.row false e0 es0 = .row false e es ∧ gh.hv o = .slice A es.length c := by
            generalize hd : D.row false e0 es0 = d at hn
            generalize hv : gh.hv o = y at hn
            simp only [NavO] at hn
            rw [hd, hv] at hn
            cases hn; exact ⟨rfl, rfl⟩
          obtain ⟨hd, hv⟩ := hh
          cases hd
          subst hs
          rw [← hv]
          refine ⟨gh, gh.F o, h.take hx, rfl, ⟨rfl, rfl, rfl⟩, how, fun k hk hX => h.xF o _ k hx hX hk, ?_⟩
          intro v' u' hv' hs'
          cases hv' with
          | dead => exact hs'.elim
          | und => exact hs'.elim
          | bp => exact hs'.elim
          | rp => exact hs'.elim
          | ip => exact hs'.elim
          | agg => exact hs'.elim
          | tup => exact hs'.elim
          | cond => exact hs'.elim
          | sc h1 => exact .sc h1
          | nil => exact .nil
          | imm hr => exact .imm hr
          | @ref o' n' p' x' e' es' A' c' hx' hn' hle' =>
            have hne : o ≠ o' := by
              intro e; subst e
              have hl : look (st.kill o).ob o = none := by rw [look_kill, if_pos rfl]
              match p', hs' with
              | [], hs' => simp [toD, hl] at hs'
              | [(i, j)], hs' => simp [toD, hl] at hs'
              | _ :: _ :: _, hs' => exact hs'.elim
            exact .ref (by rw [look_kill, if_neg hne]; exact hx') hn' hle'
    | cons ij p =>
      obtain ⟨i, j⟩ := ij
      cases p with
      | cons _ _ => exact hs.elim
      | nil =>
        simp only [toD, hx] at hs ⊢
        cases x with
        | row => exact hs.elim
        | box cs =>
          simp only at hs ⊢
          obtain ⟨d1, v1, hd1, hc1, hnv⟩ := hn
          cases hnv
          simp only [hd1] at hs ⊢
          obtain ⟨rfl, rfl⟩ := hs
          obtain ⟨gh1, F, y, hr, how, g0, g1, g2, g3, hd, hy⟩ := h.hole hx hd1
          rw [hc1] at hy; cases hy
          refine ⟨gh1, F, hr, g0, ⟨g1, g2, g3⟩, how, hd, ?_⟩
          intro v' u' hv' hs'
          cases hv' with
          | dead => exact hs'.elim
          | und => exact hs'.elim
          | bp => exact hs'.elim
          | rp => exact hs'.elim
          | ip => exact hs'.elim
          | agg => exact hs'.elim
          | tup => exact hs'.elim
          | cond => exact hs'.elim
          | sc h1 => exact .sc h1
          | nil => exact .nil
          | imm hr => exact .imm (g0 ▸ hr)
          | @ref o' n' p' x' e' es' A' c' hx' hn' hle' =>
            by_cases hne : o' = o
            · subst hne
              rw [hx] at hx'; cases hx'
              have hl : look (st.swap o' (.box (cs.set j .dead))).ob o' = some (.box (cs.set j .dead)) := by rw [look_swap, if_pos rfl]
              match p', hs', hn' with
              | [], hs', hn' => exact hn'.elim
              | [(i', j')], hs', hn' =>
                simp only [toD, hl] at hs'
                have hjj : j ≠ j' := by
                  intro e; subst e
                  obtain ⟨d2, v2, hd2, _⟩ := hn'
                  have hjl := (List.getElem?_eq_some_iff.1 hd2).1
                  rw [List.getElem?_set_self hjl] at hs'
                  exact hs'.elim
                obtain ⟨d2, v2, hd2, hc2, hn2⟩ := hn'
                exact .ref hl ⟨d2, v2, by rw [List.getElem?_set_ne hjj]; exact hd2, by rw [g2, g3]; exact hc2, hn2⟩ hle'
              | _ :: _ :: _, hs', hn' => exact hs'.elim
            · exact .ref (by rw [look_swap, if_neg hne]; exact hx') (hn'.ghc g1 g2 g3) hle'

theorem toD_back_kill {v' : V} (o : Nat) (h : (toD (st.kill o) v').1) : (toD st v').1 := by
  unfold toD at h ⊢
  split at h <;> try exact h
  · rename_i o' n
    simp only [look_kill] at h
    by_cases e : o = o'
    · rw [if_pos e] at h; exact h.elim
    · rw [if_neg e] at h
      split at h
      · rename_i e' es' hl; simp only [hl]; exact h
      · exact h.elim
  · rename_i o' i j n
    simp only [look_kill] at h
    by_cases e : o = o'
    · rw [if_pos e] at h; exact h.elim
    · rw [if_neg e] at h
      split at h
      · rename_i cs hl
        try simp only [hl]
        split at h
        · rename_i hc; simp only [hl, hc] at h ⊢; exact h
        · exact h.elim
      · exact h.elim

theorem toD_back_swap {v' : V} (o j : Nat) (cs : List D) (ho : look st.ob o = some (.box cs)) (h : (toD (st.swap o (.box (cs.set j .dead))) v').1) : (toD st v').1 := by
  unfold toD at h ⊢
  split at h <;> try exact h
  · rename_i o' n
    simp only [look_swap] at h
    by_cases e : o' = o
    · rw [if_pos e] at h; exact h.elim
    · rw [if_neg e] at h
      split at h
      · rename_i e' es' hl; simp only [hl]; exact h
      · exact h.elim
  · rename_i o' i' j' n
    simp only [look_swap] at h
    by_cases e : o' = o
    · rw [if_pos e] at h
      subst e
      simp only [ho] at h ⊢
      by_cases ej : j = j'
      · subst ej
        by_cases hj : j < cs.length
        · rw [List.getElem?_set_self hj] at h; exact h.elim
        · rw [List.set_eq_of_length_le (by omega)] at h
          split at h
          · rename_i hc; simp only [hc]; exact h
          · exact h.elim
      · rw [List.getElem?_set_ne ej] at h
        split at h
        · rename_i hc; simp only [hc]; exact h
        · exact h.elim
    · rw [if_neg e] at h
      split at h
      · rename_i cs' hl
        try simp only [hl]
        split at h
        · rename_i hc; simp only [hl, hc] at h ⊢; exact h
        · exact h.elim
      · exact h.elim

theorem toD_back {v v' : V} (h : (toD (toD st v).2.1 v').1) : (toD st v').1 := by
  generalize hx : toD st v = x at h
  unfold toD at hx
  split at hx <;> try (subst hx; exact h)
  · split at hx
    · subst hx; exact toD_back_kill _ h
    · subst hx; exact h
  · split at hx
    · rename_i cs hl
      split at hx
      · subst hx; exact toD_back_swap _ _ _ hl h
      · subst hx; exact h
    · subst hx; exact h

theorem toDs_back {v' : V} : ∀ {vs : List V} {st : St}, (toD (toDs st vs).2.1 v').1 → (toD st v').1
  | [], st, h => h
  | v :: vs, st, h => toD_back (toDs_back (vs := vs) h)

theorem toDs_live : ∀ {vs : List V} {st : St}, (toDs st vs).1 → ∀ (i : Nat) (x : V), vs[i]? = some x → (toD st x).1
  | [], st, _, i, x, hx => by simp at hx
  | v :: vs, st, h, i, x, hx => by
    cases i with
    | zero => simp at hx; subst hx; exact h.1
    | succ i => exact toD_back (toDs_live h.2 i x (by simpa using hx))

theorem toDs_sound : ∀ {vs : List V} {us : List Value} {X : Nat → Prop} {st : St} {gh : Gh}, Rep P C X st a w gh → (∀ i v, vs[i]? = some v → VR P w gh st.ob v (us.getD i undef)) → (toDs st vs).1 →
    ∃ (gh1 : Gh) (G : Nat → Nat → Prop), Rep P C (fun k => X k ∨ ∃ i, i < vs.length ∧ G i k) (toDs st vs).2.1 a w gh1 ∧ gh1.S = gh.S ∧ (gh1.hv = gh.hv ∧ gh1.bb = gh.bb ∧ gh1.bo = gh.bo) ∧ (toDs st vs).2.2.length = vs.length ∧
      (∀ i d, (toDs st vs).2.2[i]? = some d → Ow P w gh.S d (us.getD i undef) (G i)) ∧ (∀ i k, i < vs.length → G i k → ¬ X k) ∧ (∀ i j k, i < vs.length → j < vs.length → G i k → G j k → i = j) ∧
      Stands P w gh gh1 st (toDs st vs).2.1
  | [], us, X, st, gh, h, hv, hs => ⟨gh, fun _ _ => False, h.less (fun k hk => hk.elim id (fun ⟨_, _, hk⟩ => hk.elim)), rfl, ⟨rfl, rfl, rfl⟩, rfl, fun i d hd => by simp [toDs] at hd, fun _ _ _ hk => hk.elim, fun _ _ _ _ _ hk => hk.elim, fun v u hv _ => hv⟩
  | v :: vs, us, X, st, gh, h, hv, hs => by
    obtain ⟨hs1, hs2⟩ := hs
    obtain ⟨gh1, F, hr, hS, hq1, how, hF, hst⟩ := toD_sound h (hv 0 v rfl) hs1
    obtain ⟨gh2, G, hr2, hS2, hq2, hl, how2, hG, hd, hst2⟩ := toDs_sound (us := us.tail) hr (fun i x hx => by
      have h0 := hst x _ (hv (i + 1) x (by simpa using hx)) (toDs_live hs2 i x hx)
      have e : us.tail.getD i undef = us.getD (i + 1) undef := by simp [List.getD]
      rw [e]; exact h0) hs2
    refine ⟨gh2, fun i k => match i with | 0 => F k | i + 1 => G i k, hr2.less ?_, hS2.trans hS, ⟨hq2.1.trans hq1.1, hq2.2.1.trans hq1.2.1, hq2.2.2.trans hq1.2.2⟩, by simp [toDs, hl], ?_, ?_, ?_, ?_⟩
    · rintro k (hk | ⟨i, hi, hk⟩)
      · exact Or.inl (Or.inl hk)
      · cases i with
        | zero => exact Or.inl (Or.inr hk)
        | succ i => exact Or.inr ⟨i, by simpa using hi, hk⟩
    · intro i d hd'
      cases i with
      | zero => simp only [toDs, List.getElem?_cons_zero, Option.some.injEq] at hd'; subst hd'; exact how
      | succ i =>
        simp only [toDs, List.getElem?_cons_succ] at hd'
        have h0 := how2 i d hd'
        have e : us.tail.getD i undef = us.getD (i + 1) undef := by simp [List.getD]
        rw [e, hS] at h0; exact h0
    · intro i k hi hk
      cases i with
      | zero => exact hF k hk
      | succ i => exact fun hX => hG i k (by simpa using hi) hk (Or.inl hX)
    · intro i j k hi hj hk1 hk2
      cases i with
      | zero =>
        cases j with
        | zero => rfl
        | succ j => exact absurd (Or.inr hk1) (hG j k (by simpa using hj) hk2)
      | succ i =>
        cases j with
        | zero => exact absurd (Or.inr hk2) (hG i k (by simpa using hi) hk1)
        | succ j => rw [hd i j k (by simpa using hi) (by simpa using hj) hk1 hk2]
    · intro v' u' hv' hlive
      exact hst2 v' u' (hst v' u' hv' (toDs_back hlive)) hlive

theorem toDss_sound : ∀ {vss : List (List V)} {uss : List (List Value)} {X : Nat → Prop} {st : St} {gh : Gh}, Rep P C X st a w gh →
    (∀ i vs, vss[i]? = some vs → ∀ j v, vs[j]? = some v → VR P w gh st.ob v ((uss.getD i []).getD j undef)) → (toDss st vss).1 →
    ∃ (gh1 : Gh) (G : Nat → Nat → Nat → Prop), Rep P C (fun k => X k ∨ ∃ i j d, cellAt (toDss st vss).2.2 i j = some d ∧ G i j k) (toDss st vss).2.1 a w gh1 ∧ gh1.S = gh.S ∧ (gh1.hv = gh.hv ∧ gh1.bb = gh.bb ∧ gh1.bo = gh.bo) ∧
      (toDss st vss).2.2.length = vss.length ∧ (∀ (i : Nat) (vs : List V), vss[i]? = some vs → ∃ ds, (toDss st vss).2.2[i]? = some ds ∧ ds.length = vs.length) ∧
      (∀ i j d, cellAt (toDss st vss).2.2 i j = some d → Ow P w gh.S d ((uss.getD i []).getD j undef) (G i j)) ∧ (∀ i j d k, cellAt (toDss st vss).2.2 i j = some d → G i j k → ¬ X k) ∧
      (∀ i j i' j' d d' k, cellAt (toDss st vss).2.2 i j = some d → cellAt (toDss st vss).2.2 i' j' = some d' → G i j k → G i' j' k → i = i' ∧ j = j') ∧ Stands P w gh gh1 st (toDss st vss).2.1
  | [], uss, X, st, gh, h, hv, hs => ⟨gh, fun _ _ _ => False, h.less (fun k hk => hk.elim id (fun ⟨_, _, _, _, hk⟩ => hk.elim)), rfl, ⟨rfl, rfl, rfl⟩, rfl, fun i vs hi => by simp at hi, fun i j d hd => by simp [toDss, cellAt] at hd, fun _ _ _ _ _ hk => hk.elim, fun _ _ _ _ _ _ _ _ _ hk => hk.elim, fun v u hv _ => hv⟩
  | vs :: vss, uss, X, st, gh, h, hv, hs => by
    obtain ⟨hs1, hs2⟩ := hs
    obtain ⟨gh1, F, hr, hS, hq1, hl1, how, hF, hd1, hst⟩ := toDs_sound (us := uss.getD 0 []) h (fun j v hj => hv 0 vs rfl j v hj) hs1
    have hlive : ∀ (vss : List (List V)) (st1 : St), (toDss st1 vss).1 → ∀ (i : Nat) (ws : List V), vss[i]? = some ws → ∀ (j : Nat) (x : V), ws[j]? = some x → (toD st1 x).1 := by
      intro vss
      induction vss with
      | nil => intro st1 _ i ws hi; simp at hi
      | cons y ys ih =>
        intro st1 h1 i ws hi j x hx
        cases i with
        | zero => simp at hi; subst hi; exact toDs_live h1.1 j x hx
        | succ i => exact toDs_back (ih _ h1.2 i ws (by simpa using hi) j x hx)
    have hback : ∀ (vss : List (List V)) (st1 : St) (v' : V), (toD (toDss st1 vss).2.1 v').1 → (toD st1 v').1 := by
      intro vss
      induction vss with
      | nil => intro st1 v' h; exact h
      | cons y ys ih => intro st1 v' h; exact toDs_back (ih _ v' h)
    have eu : ∀ i, uss.tail.getD i [] = uss.getD (i + 1) [] := fun i => by simp [List.getD]
    obtain ⟨gh2, G, hr2, hS2, hq2, hl, hlen, how2, hG, hd, hst2⟩ := toDss_sound (uss := uss.tail) hr (fun i ws hi j x hx => by
      have h0 := hst x _ (hv (i + 1) ws (by simpa using hi) j x hx) (hlive vss _ hs2 i ws hi j x hx)
      rw [eu]; exact h0) hs2
    have c0 : ∀ j, cellAt ((toDs st vs).2.2 :: (toDss (toDs st vs).2.1 vss).2.2) 0 j = (toDs st vs).2.2[j]? := fun j => by simp [cellAt]
    have cs : ∀ i j, cellAt ((toDs st vs).2.2 :: (toDss (toDs st vs).2.1 vss).2.2) (i + 1) j = cellAt (toDss (toDs st vs).2.1 vss).2.2 i j := fun i j => by simp [cellAt]
    refine ⟨gh2, fun i j k => match i with | 0 => F j k | i + 1 => G i j k, hr2.less ?_, hS2.trans hS, ⟨hq2.1.trans hq1.1, hq2.2.1.trans hq1.2.1, hq2.2.2.trans hq1.2.2⟩, by simp [toDss, hl], ?_, ?_, ?_, ?_, ?_⟩
    · rintro k (hk | ⟨i, j, d, hd', hk⟩)
      · exact Or.inl (Or.inl hk)
      · simp only [toDss] at hd'
        cases i with
        | zero =>
          rw [c0] at hd'
          exact Or.inl (Or.inr ⟨j, by rw [← hl1]; exact (List.getElem?_eq_some_iff.1 hd').1, hk⟩)
        | succ i => rw [cs] at hd'; exact Or.inr ⟨i, j, d, hd', hk⟩
    · intro i ws hi
      cases i with
      | zero => simp at hi; subst hi; exact ⟨_, rfl, hl1⟩
      | succ i => simp only [toDss, List.getElem?_cons_succ]; exact hlen i ws (by simpa using hi)
    · intro i j d hd'
      simp only [toDss] at hd'
      cases i with
      | zero => rw [c0] at hd'; exact how j d hd'
      | succ i =>
        rw [cs] at hd'
        have h0 := how2 i j d hd'
        rw [eu, hS] at h0; exact h0
    · intro i j d k hd' hk
      simp only [toDss] at hd'
      cases i with
      | zero => rw [c0] at hd'; exact hF j k (by rw [← hl1]; exact (List.getElem?_eq_some_iff.1 hd').1) hk
      | succ i => rw [cs] at hd'; exact fun hX => hG i j d k hd' hk (Or.inl hX)
    · intro i j i' j' d d' k hd' hd'' hk hk'
      simp only [toDss] at hd' hd''
      cases i with
      | zero =>
        rw [c0] at hd'
        have hj : j < vs.length := by rw [← hl1]; exact (List.getElem?_eq_some_iff.1 hd').1
        cases i' with
        | zero =>
          rw [c0] at hd''
          have hj' : j' < vs.length := by rw [← hl1]; exact (List.getElem?_eq_some_iff.1 hd'').1
          exact ⟨rfl, hd1 j j' k hj hj' hk hk'⟩
        | succ i' => rw [cs] at hd''; exact absurd (Or.inr ⟨j, hj, hk⟩) (hG i' j' d' k hd'' hk')
      | succ i =>
        rw [cs] at hd'
        cases i' with
        | zero =>
          rw [c0] at hd''
          have hj' : j' < vs.length := by rw [← hl1]; exact (List.getElem?_eq_some_iff.1 hd'').1
          exact absurd (Or.inr ⟨j', hj', hk'⟩) (hG i j d k hd' hk)
        | succ i' =>
          rw [cs] at hd''
          obtain ⟨e1, e2⟩ := hd i j i' j' d d' k hd' hd'' hk hk'
          exact ⟨by omega, e2⟩
    · intro v' u' hv' hl'
      exact hst2 v' u' (hst v' u' hv' (hback vss _ v' hl')) hl'
end
end Go.Proofs.YtaodmogcjpainaaDoor.AW
