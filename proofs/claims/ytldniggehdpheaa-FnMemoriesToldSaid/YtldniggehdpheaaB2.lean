/- The engine, part 2: what memory holds, told as data; operations, code and calls reckoned upon it. No condition. -/
import Derived.Test.YtldniggehdpheaaB1
import Derived.Great.FillDense
import Derived.Great.BuildSlice
import Derived.Laws.MakeOwn
namespace Go.Proofs.Ytldniggehdpheaa.AW
open Go.RowKit
set_option linter.unusedSimpArgs false
set_option linter.unusedVariables false

/-- A slot's value as data: what is one's own is taken from where it was. -/
def toD (st : St) : V → Prop × St × D
  | .sc x => (True, st, .sc x)
  | .nil _ => (True, st, .sc (.slice none 0 0))
  | .imm e es => (True, st, .row true e es)
  | .ref o [] n => match look st.ob o with
    | some (.row e es) => (n = es.length, st.kill o, .row false e es)
    | _ => (False, st, .dead)
  | .ref o [(i, j)] n => match look st.ob o with
    | some (.box cs) => match cs[j]? with
      | some (.row false e es) => (n = es.length ∧ i = 0, st.swap o (.box (cs.set j .dead)), .row false e es)
      | _ => (False, st, .dead)
    | _ => (False, st, .dead)
  | _ => (False, st, .dead)

def toDs (st : St) : List V → Prop × St × List D
  | [] => (True, st, [])
  | v :: r => ((toD st v).1 ∧ (toDs (toD st v).2.1 r).1, (toDs (toD st v).2.1 r).2.1, (toD st v).2.2 :: (toDs (toD st v).2.1 r).2.2)

def toDss (st : St) : List (List V) → Prop × St × List (List D)
  | [] => (True, st, [])
  | v :: r => ((toDs st v).1 ∧ (toDss (toDs st v).2.1 r).1, (toDss (toDs st v).2.1 r).2.1, (toDs st v).2.2 :: (toDss (toDs st v).2.1 r).2.2)

/-- A value's cells. -/
def flatV : V → Option (List V)
  | .agg vs => some vs
  | .sc v => some [.sc v]
  | .nil e => some [.nil e]
  | .imm e es => some [.imm e es]
  | .ref o p n => some [.ref o p n]
  | _ => none

section
variable {P : Program} {w w1 : World} {C : Cx} {X : Nat → Prop} {gh : Gh} {st : St} {a : Act} {v : V} {u : Value} {ob : List (Nat × Ob)}

theorem agetD (us : Array Value) (i : Nat) : us.toList.getD i undef = us.getD i undef := by
  simp only [List.getD, Array.getD, Array.getElem?_toList]
  by_cases h : i < us.size
  · rw [dif_pos h, Array.getElem?_eq_getElem h]; rfl
  · rw [dif_neg h, Array.getElem?_eq_none (by omega)]; rfl

theorem cells_one {u : Value} (h : u.oneCell' = true) : u.cells = #[u] := by
  cases u <;> first | rfl | (simp [Value.oneCell'] at h)

theorem VR.one_sc {x : Value} (h : VR P w gh ob (.sc x) u) : u.oneCell' = true := by cases h; assumption

theorem flat_sound {vs : List V} (h : VR P w gh ob v u) (hf : flatV v = some vs) :
    u.cells.size = vs.length ∧ (∀ x ∈ u.cells, x.oneCell' = true) ∧ ∀ i x, vs[i]? = some x → VR P w gh ob x (u.cells.toList.getD i undef) := by
  have one : ∀ {y : V}, u.oneCell' = true → VR P w gh ob y u → vs = [y] → u.cells.size = vs.length ∧ (∀ x ∈ u.cells, x.oneCell' = true) ∧ ∀ i x, vs[i]? = some x → VR P w gh ob x (u.cells.toList.getD i undef) := by
    intro y h1 hy hv
    rw [cells_one h1, hv]
    refine ⟨rfl, by simp [h1], fun i x hx => ?_⟩
    cases i with
    | zero => simp at hx; subst hx; simpa using hy
    | succ i => simp at hx
  cases h with
  | dead => simp [flatV] at hf
  | und => simp [flatV] at hf
  | sc h => simp only [flatV, Option.some.injEq] at hf; exact one h (.sc h) hf.symm
  | nil => simp only [flatV, Option.some.injEq] at hf; exact one rfl .nil hf.symm
  | imm h => simp only [flatV, Option.some.injEq] at hf; exact one h.one (.imm h) hf.symm
  | ref hx hn hle => simp only [flatV, Option.some.injEq] at hf; exact one rfl (.ref hx hn hle) hf.symm
  | bp => simp [flatV] at hf
  | rp => simp [flatV] at hf
  | ip => simp [flatV] at hf
  | clo => simp [flatV] at hf
  | tup => simp [flatV] at hf
  | cond => simp [flatV] at hf
  | @agg vs' us hl h1 h =>
    simp only [flatV, Option.some.injEq] at hf
    subst hf
    exact ⟨hl, h1, fun i x hx => by have := h i x hx; rw [← agetD] at this; exact this⟩

theorem look_kill (st : St) (o o' : Nat) : look (st.kill o).ob o' = if o = o' then none else look st.ob o' := by
  unfold St.kill; exact look_drop _ _ _

/-- What a later one needs stands when an earlier one has gone in. -/
def Stands (P : Program) (w : World) (gh gh1 : Gh) (st st1 : St) : Prop := ∀ v u, VR P w gh st.ob v u → (toD st1 v).1 → VR P w gh1 st1.ob v u

theorem toD_sound (h : Rep P C X st a w gh) (hv : VR P w gh st.ob v u) (hs : (toD st v).1) :
    ∃ (gh1 : Gh) (F : Nat → Prop), Rep P C (fun k => X k ∨ F k) (toD st v).2.1 a w gh1 ∧ gh1.S = gh.S ∧ (gh1.hv = gh.hv ∧ gh1.bb = gh.bb ∧ gh1.bo = gh.bo) ∧ Ow P w gh.S (toD st v).2.2 u F ∧ (∀ k, F k → ¬ X k) ∧ Stands P w gh gh1 st (toD st v).2.1 := by
  have triv : ∀ {d : D}, Ow P w gh.S d u (fun _ => False) → ∃ (gh1 : Gh) (F : Nat → Prop), Rep P C (fun k => X k ∨ F k) st a w gh1 ∧ gh1.S = gh.S ∧ (gh1.hv = gh.hv ∧ gh1.bb = gh.bb ∧ gh1.bo = gh.bo) ∧ Ow P w gh.S d u F ∧ (∀ k, F k → ¬ X k) ∧ Stands P w gh gh1 st st :=
    fun ho => ⟨gh, _, h.less (fun k hk => hk.elim id False.elim), rfl, ⟨rfl, rfl, rfl⟩, ho, fun _ hk => hk.elim, fun v u hv _ => hv⟩
  cases hv with
  | dead => exact hs.elim
  | und => exact hs.elim
  | bp => exact hs.elim
  | rp => exact hs.elim
  | ip => exact hs.elim
  | clo => exact hs.elim
  | agg => exact hs.elim
  | tup => exact hs.elim
  | cond => exact hs.elim
  | sc h1 => exact triv (.sc h1)
  | nil => exact triv (.sc rfl)
  | imm hr => exact triv (.shared hr)
  | @ref o n p x e es A c hx hn hle =>
    cases p with
    | nil =>
      simp only [toD, hx] at hs ⊢
      cases x with
      | box cs => exact hs.elim
      | row e0 es0 =>
        simp only at hs ⊢
        have hob := h.obs o _ hx
        cases hob with
        | row how =>
          have hh : D.row false e0 es0 = .row false e es ∧ gh.hv o = .slice A es.length c := by
            generalize hd : D.row false e0 es0 = d at hn
            generalize hv : gh.hv o = y at hn
            simp only [NavO] at hn
            rw [hd, hv] at hn
            cases hn; exact ⟨rfl, rfl⟩
          obtain ⟨hd, hv⟩ := hh
          cases hd
          subst hs
          rw [← hv]
          refine ⟨gh, gh.F o, h.take hx, rfl, ⟨rfl, rfl, rfl⟩, how, fun k hk hX => h.xF o _ k hx hX hk, ?_⟩
          intro v' u' hv' hs'
          cases hv' with
          | dead => exact hs'.elim
          | und => exact hs'.elim
          | bp => exact hs'.elim
          | rp => exact hs'.elim
          | ip => exact hs'.elim
          | clo => exact hs'.elim
          | agg => exact hs'.elim
          | tup => exact hs'.elim
          | cond => exact hs'.elim
          | sc h1 => exact .sc h1
          | nil => exact .nil
          | imm hr => exact .imm hr
          | @ref o' n' p' x' e' es' A' c' hx' hn' hle' =>
            have hne : o ≠ o' := by
              intro e; subst e
              have hl : look (st.kill o).ob o = none := by rw [look_kill, if_pos rfl]
              match p', hs' with
              | [], hs' => simp [toD, hl] at hs'
              | [(i, j)], hs' => simp [toD, hl] at hs'
              | _ :: _ :: _, hs' => exact hs'.elim
            exact .ref (by rw [look_kill, if_neg hne]; exact hx') hn' hle'
    | cons ij p =>
      obtain ⟨i, j⟩ := ij
      cases p with
      | cons _ _ => exact hs.elim
      | nil =>
        simp only [toD, hx] at hs ⊢
        cases x with
        | row => exact hs.elim
        | box cs =>
          simp only at hs ⊢
          obtain ⟨d1, v1, hd1, hc1, hnv⟩ := hn
          cases hnv
          simp only [hd1] at hs ⊢
          obtain ⟨rfl, rfl⟩ := hs
          obtain ⟨gh1, F, y, hr, how, g0, g1, g2, g3, hd, hy⟩ := h.hole hx hd1
          rw [hc1] at hy; cases hy
          refine ⟨gh1, F, hr, g0, ⟨g1, g2, g3⟩, how, hd, ?_⟩
          intro v' u' hv' hs'
          cases hv' with
          | dead => exact hs'.elim
          | und => exact hs'.elim
          | bp => exact hs'.elim
          | rp => exact hs'.elim
          | ip => exact hs'.elim
          | clo => exact hs'.elim
          | agg => exact hs'.elim
          | tup => exact hs'.elim
          | cond => exact hs'.elim
          | sc h1 => exact .sc h1
          | nil => exact .nil
          | imm hr => exact .imm (g0 ▸ hr)
          | @ref o' n' p' x' e' es' A' c' hx' hn' hle' =>
            by_cases hne : o' = o
            · subst hne
              rw [hx] at hx'; cases hx'
              have hl : look (st.swap o' (.box (cs.set j .dead))).ob o' = some (.box (cs.set j .dead)) := by rw [look_swap, if_pos rfl]
              match p', hs', hn' with
              | [], hs', hn' => exact hn'.elim
              | [(i', j')], hs', hn' =>
                simp only [toD, hl] at hs'
                have hjj : j ≠ j' := by
                  intro e; subst e
                  obtain ⟨d2, v2, hd2, _⟩ := hn'
                  have hjl := (List.getElem?_eq_some_iff.1 hd2).1
                  rw [List.getElem?_set_self hjl] at hs'
                  exact hs'.elim
                obtain ⟨d2, v2, hd2, hc2, hn2⟩ := hn'
                exact .ref hl ⟨d2, v2, by rw [List.getElem?_set_ne hjj]; exact hd2, by rw [g2, g3]; exact hc2, hn2⟩ hle'
              | _ :: _ :: _, hs', hn' => exact hs'.elim
            · exact .ref (by rw [look_swap, if_neg hne]; exact hx') (hn'.ghc g1 g2 g3) hle'

theorem toD_back_kill {v' : V} (o : Nat) (h : (toD (st.kill o) v').1) : (toD st v').1 := by
  unfold toD at h ⊢
  split at h <;> try exact h
  · rename_i o' n
    simp only [look_kill] at h
    by_cases e : o = o'
    · rw [if_pos e] at h; exact h.elim
    · rw [if_neg e] at h
      split at h
      · rename_i e' es' hl; simp only [hl]; exact h
      · exact h.elim
  · rename_i o' i j n
    simp only [look_kill] at h
    by_cases e : o = o'
    · rw [if_pos e] at h; exact h.elim
    · rw [if_neg e] at h
      split at h
      · rename_i cs hl
        try simp only [hl]
        split at h
        · rename_i hc; simp only [hl, hc] at h ⊢; exact h
        · exact h.elim
      · exact h.elim

theorem toD_back_swap {v' : V} (o j : Nat) (cs : List D) (ho : look st.ob o = some (.box cs)) (h : (toD (st.swap o (.box (cs.set j .dead))) v').1) : (toD st v').1 := by
  unfold toD at h ⊢
  split at h <;> try exact h
  · rename_i o' n
    simp only [look_swap] at h
    by_cases e : o' = o
    · rw [if_pos e] at h; exact h.elim
    · rw [if_neg e] at h
      split at h
      · rename_i e' es' hl; simp only [hl]; exact h
      · exact h.elim
  · rename_i o' i' j' n
    simp only [look_swap] at h
    by_cases e : o' = o
    · rw [if_pos e] at h
      subst e
      simp only [ho] at h ⊢
      by_cases ej : j = j'
      · subst ej
        by_cases hj : j < cs.length
        · rw [List.getElem?_set_self hj] at h; exact h.elim
        · rw [List.set_eq_of_length_le (by omega)] at h
          split at h
          · rename_i hc; simp only [hc]; exact h
          · exact h.elim
      · rw [List.getElem?_set_ne ej] at h
        split at h
        · rename_i hc; simp only [hc]; exact h
        · exact h.elim
    · rw [if_neg e] at h
      split at h
      · rename_i cs' hl
        try simp only [hl]
        split at h
        · rename_i hc; simp only [hl, hc] at h ⊢; exact h
        · exact h.elim
      · exact h.elim

theorem toD_back {v v' : V} (h : (toD (toD st v).2.1 v').1) : (toD st v').1 := by
  generalize hx : toD st v = x at h
  unfold toD at hx
  split at hx <;> try (subst hx; exact h)
  · split at hx
    · subst hx; exact toD_back_kill _ h
    · subst hx; exact h
  · split at hx
    · rename_i cs hl
      split at hx
      · subst hx; exact toD_back_swap _ _ _ hl h
      · subst hx; exact h
    · subst hx; exact h

theorem toDs_back {v' : V} : ∀ {vs : List V} {st : St}, (toD (toDs st vs).2.1 v').1 → (toD st v').1
  | [], st, h => h
  | v :: vs, st, h => toD_back (toDs_back (vs := vs) h)

theorem toDs_live : ∀ {vs : List V} {st : St}, (toDs st vs).1 → ∀ (i : Nat) (x : V), vs[i]? = some x → (toD st x).1
  | [], st, _, i, x, hx => by simp at hx
  | v :: vs, st, h, i, x, hx => by
    cases i with
    | zero => simp at hx; subst hx; exact h.1
    | succ i => exact toD_back (toDs_live h.2 i x (by simpa using hx))

theorem toDs_sound : ∀ {vs : List V} {us : List Value} {X : Nat → Prop} {st : St} {gh : Gh}, Rep P C X st a w gh → (∀ i v, vs[i]? = some v → VR P w gh st.ob v (us.getD i undef)) → (toDs st vs).1 →
    ∃ (gh1 : Gh) (G : Nat → Nat → Prop), Rep P C (fun k => X k ∨ ∃ i, i < vs.length ∧ G i k) (toDs st vs).2.1 a w gh1 ∧ gh1.S = gh.S ∧ (gh1.hv = gh.hv ∧ gh1.bb = gh.bb ∧ gh1.bo = gh.bo) ∧ (toDs st vs).2.2.length = vs.length ∧
      (∀ i d, (toDs st vs).2.2[i]? = some d → Ow P w gh.S d (us.getD i undef) (G i)) ∧ (∀ i k, i < vs.length → G i k → ¬ X k) ∧ (∀ i j k, i < vs.length → j < vs.length → G i k → G j k → i = j) ∧
      Stands P w gh gh1 st (toDs st vs).2.1
  | [], us, X, st, gh, h, hv, hs => ⟨gh, fun _ _ => False, h.less (fun k hk => hk.elim id (fun ⟨_, _, hk⟩ => hk.elim)), rfl, ⟨rfl, rfl, rfl⟩, rfl, fun i d hd => by simp [toDs] at hd, fun _ _ _ hk => hk.elim, fun _ _ _ _ _ hk => hk.elim, fun v u hv _ => hv⟩
  | v :: vs, us, X, st, gh, h, hv, hs => by
    obtain ⟨hs1, hs2⟩ := hs
    obtain ⟨gh1, F, hr, hS, hq1, how, hF, hst⟩ := toD_sound h (hv 0 v rfl) hs1
    obtain ⟨gh2, G, hr2, hS2, hq2, hl, how2, hG, hd, hst2⟩ := toDs_sound (us := us.tail) hr (fun i x hx => by
      have h0 := hst x _ (hv (i + 1) x (by simpa using hx)) (toDs_live hs2 i x hx)
      have e : us.tail.getD i undef = us.getD (i + 1) undef := by simp [List.getD]
      rw [e]; exact h0) hs2
    refine ⟨gh2, fun i k => match i with | 0 => F k | i + 1 => G i k, hr2.less ?_, hS2.trans hS, ⟨hq2.1.trans hq1.1, hq2.2.1.trans hq1.2.1, hq2.2.2.trans hq1.2.2⟩, by simp [toDs, hl], ?_, ?_, ?_, ?_⟩
    · rintro k (hk | ⟨i, hi, hk⟩)
      · exact Or.inl (Or.inl hk)
      · cases i with
        | zero => exact Or.inl (Or.inr hk)
        | succ i => exact Or.inr ⟨i, by simpa using hi, hk⟩
    · intro i d hd'
      cases i with
      | zero => simp only [toDs, List.getElem?_cons_zero, Option.some.injEq] at hd'; subst hd'; exact how
      | succ i =>
        simp only [toDs, List.getElem?_cons_succ] at hd'
        have h0 := how2 i d hd'
        have e : us.tail.getD i undef = us.getD (i + 1) undef := by simp [List.getD]
        rw [e, hS] at h0; exact h0
    · intro i k hi hk
      cases i with
      | zero => exact hF k hk
      | succ i => exact fun hX => hG i k (by simpa using hi) hk (Or.inl hX)
    · intro i j k hi hj hk1 hk2
      cases i with
      | zero =>
        cases j with
        | zero => rfl
        | succ j => exact absurd (Or.inr hk1) (hG j k (by simpa using hj) hk2)
      | succ i =>
        cases j with
        | zero => exact absurd (Or.inr hk2) (hG i k (by simpa using hi) hk1)
        | succ j => rw [hd i j k (by simpa using hi) (by simpa using hj) hk1 hk2]
    · intro v' u' hv' hlive
      exact hst2 v' u' (hst v' u' hv' (toDs_back hlive)) hlive

theorem toDss_sound : ∀ {vss : List (List V)} {uss : List (List Value)} {X : Nat → Prop} {st : St} {gh : Gh}, Rep P C X st a w gh →
    (∀ i vs, vss[i]? = some vs → ∀ j v, vs[j]? = some v → VR P w gh st.ob v ((uss.getD i []).getD j undef)) → (toDss st vss).1 →
    ∃ (gh1 : Gh) (G : Nat → Nat → Nat → Prop), Rep P C (fun k => X k ∨ ∃ i j d, cellAt (toDss st vss).2.2 i j = some d ∧ G i j k) (toDss st vss).2.1 a w gh1 ∧ gh1.S = gh.S ∧ (gh1.hv = gh.hv ∧ gh1.bb = gh.bb ∧ gh1.bo = gh.bo) ∧
      (toDss st vss).2.2.length = vss.length ∧ (∀ (i : Nat) (vs : List V), vss[i]? = some vs → ∃ ds, (toDss st vss).2.2[i]? = some ds ∧ ds.length = vs.length) ∧
      (∀ i j d, cellAt (toDss st vss).2.2 i j = some d → Ow P w gh.S d ((uss.getD i []).getD j undef) (G i j)) ∧ (∀ i j d k, cellAt (toDss st vss).2.2 i j = some d → G i j k → ¬ X k) ∧
      (∀ i j i' j' d d' k, cellAt (toDss st vss).2.2 i j = some d → cellAt (toDss st vss).2.2 i' j' = some d' → G i j k → G i' j' k → i = i' ∧ j = j') ∧ Stands P w gh gh1 st (toDss st vss).2.1
  | [], uss, X, st, gh, h, hv, hs => ⟨gh, fun _ _ _ => False, h.less (fun k hk => hk.elim id (fun ⟨_, _, _, _, hk⟩ => hk.elim)), rfl, ⟨rfl, rfl, rfl⟩, rfl, fun i vs hi => by simp at hi, fun i j d hd => by simp [toDss, cellAt] at hd, fun _ _ _ _ _ hk => hk.elim, fun _ _ _ _ _ _ _ _ _ hk => hk.elim, fun v u hv _ => hv⟩
  | vs :: vss, uss, X, st, gh, h, hv, hs => by
    obtain ⟨hs1, hs2⟩ := hs
    obtain ⟨gh1, F, hr, hS, hq1, hl1, how, hF, hd1, hst⟩ := toDs_sound (us := uss.getD 0 []) h (fun j v hj => hv 0 vs rfl j v hj) hs1
    have hlive : ∀ (vss : List (List V)) (st1 : St), (toDss st1 vss).1 → ∀ (i : Nat) (ws : List V), vss[i]? = some ws → ∀ (j : Nat) (x : V), ws[j]? = some x → (toD st1 x).1 := by
      intro vss
      induction vss with
      | nil => intro st1 _ i ws hi; simp at hi
      | cons y ys ih =>
        intro st1 h1 i ws hi j x hx
        cases i with
        | zero => simp at hi; subst hi; exact toDs_live h1.1 j x hx
        | succ i => exact toDs_back (ih _ h1.2 i ws (by simpa using hi) j x hx)
    have hback : ∀ (vss : List (List V)) (st1 : St) (v' : V), (toD (toDss st1 vss).2.1 v').1 → (toD st1 v').1 := by
      intro vss
      induction vss with
      | nil => intro st1 v' h; exact h
      | cons y ys ih => intro st1 v' h; exact toDs_back (ih _ v' h)
    have eu : ∀ i, uss.tail.getD i [] = uss.getD (i + 1) [] := fun i => by simp [List.getD]
    obtain ⟨gh2, G, hr2, hS2, hq2, hl, hlen, how2, hG, hd, hst2⟩ := toDss_sound (uss := uss.tail) hr (fun i ws hi j x hx => by
      have h0 := hst x _ (hv (i + 1) ws (by simpa using hi) j x hx) (hlive vss _ hs2 i ws hi j x hx)
      rw [eu]; exact h0) hs2
    have c0 : ∀ j, cellAt ((toDs st vs).2.2 :: (toDss (toDs st vs).2.1 vss).2.2) 0 j = (toDs st vs).2.2[j]? := fun j => by simp [cellAt]
    have cs : ∀ i j, cellAt ((toDs st vs).2.2 :: (toDss (toDs st vs).2.1 vss).2.2) (i + 1) j = cellAt (toDss (toDs st vs).2.1 vss).2.2 i j := fun i j => by simp [cellAt]
    refine ⟨gh2, fun i j k => match i with | 0 => F j k | i + 1 => G i j k, hr2.less ?_, hS2.trans hS, ⟨hq2.1.trans hq1.1, hq2.2.1.trans hq1.2.1, hq2.2.2.trans hq1.2.2⟩, by simp [toDss, hl], ?_, ?_, ?_, ?_, ?_⟩
    · rintro k (hk | ⟨i, j, d, hd', hk⟩)
      · exact Or.inl (Or.inl hk)
      · simp only [toDss] at hd'
        cases i with
        | zero =>
          rw [c0] at hd'
          exact Or.inl (Or.inr ⟨j, by rw [← hl1]; exact (List.getElem?_eq_some_iff.1 hd').1, hk⟩)
        | succ i => rw [cs] at hd'; exact Or.inr ⟨i, j, d, hd', hk⟩
    · intro i ws hi
      cases i with
      | zero => simp at hi; subst hi; exact ⟨_, rfl, hl1⟩
      | succ i => simp only [toDss, List.getElem?_cons_succ]; exact hlen i ws (by simpa using hi)
    · intro i j d hd'
      simp only [toDss] at hd'
      cases i with
      | zero => rw [c0] at hd'; exact how j d hd'
      | succ i =>
        rw [cs] at hd'
        have h0 := how2 i j d hd'
        rw [eu, hS] at h0; exact h0
    · intro i j d k hd' hk
      simp only [toDss] at hd'
      cases i with
      | zero => rw [c0] at hd'; exact hF j k (by rw [← hl1]; exact (List.getElem?_eq_some_iff.1 hd').1) hk
      | succ i => rw [cs] at hd'; exact fun hX => hG i j d k hd' hk (Or.inl hX)
    · intro i j i' j' d d' k hd' hd'' hk hk'
      simp only [toDss] at hd' hd''
      cases i with
      | zero =>
        rw [c0] at hd'
        have hj : j < vs.length := by rw [← hl1]; exact (List.getElem?_eq_some_iff.1 hd').1
        cases i' with
        | zero =>
          rw [c0] at hd''
          have hj' : j' < vs.length := by rw [← hl1]; exact (List.getElem?_eq_some_iff.1 hd'').1
          exact ⟨rfl, hd1 j j' k hj hj' hk hk'⟩
        | succ i' => rw [cs] at hd''; exact absurd (Or.inr ⟨j, hj, hk⟩) (hG i' j' d' k hd'' hk')
      | succ i =>
        rw [cs] at hd'
        cases i' with
        | zero =>
          rw [c0] at hd''
          have hj' : j' < vs.length := by rw [← hl1]; exact (List.getElem?_eq_some_iff.1 hd'').1
          exact absurd (Or.inr ⟨j', hj', hk'⟩) (hG i j d k hd' hk)
        | succ i' =>
          rw [cs] at hd''
          obtain ⟨e1, e2⟩ := hd i j i' j' d d' k hd' hd'' hk hk'
          exact ⟨by omega, e2⟩
    · intro v' u' hv' hl'
      exact hst2 v' u' (hst v' u' hv' (hback vss _ v' hl')) hl'
end
end Go.Proofs.Ytldniggehdpheaa.AW

namespace Go.Proofs.Ytldniggehdpheaa.AW
open Go.RowKit
set_option linter.unusedSimpArgs false
set_option linter.unusedVariables false
section
variable {P : Program} {w w1 : World} {C : Cx} {X : Nat → Prop} {gh : Gh} {st : St} {a : Act} {v : V} {u : Value} {ob : List (Nat × Ob)}

theorem keptBut_other {w w' : World} {g : Nat} {may : MemPlace → Prop} (h1 : w'.os = w.os) (h2 : w'.output = w.output) (hb : ∀ k, k < w.heap.size → k ≠ g → w'.heap[k]? = w.heap[k]?)
    (hg : ∀ c t fr, w.heap[g]? = some (.cells c t fr) → ∃ c', w'.heap[g]? = some (.cells c' t fr) ∧ c'.size = c.size) (hc : ∃ c t fr, w.heap[g]? = some (.cells c t fr)) (hm : ∀ f, may (.cell g f)) : w.keptBut w' may := by
  refine ⟨h1, h2, fun i hi => ?_⟩
  by_cases e : i = g
  · subst e
    obtain ⟨c, t, fr, hc⟩ := hc
    obtain ⟨c', hc', hs⟩ := hg c t fr hc
    rw [hc, hc']
    exact ⟨rfl, rfl, hs, fun j hj => absurd (hm j) hj⟩
  · rw [hb i hi e]
    split <;> simp_all

/-- An append onto a row of one's own. -/
theorem append_law (w : World) {t ty e : TypeId} {i : TypeInfo} {z : Value} {size bytes : Nat} (ht : P.underlying t = some (.slice e)) (hi : P.info? e = some i) (hz : i.zero = some z)
    (hsize : i.size = size) (hby : i.bytes = bytes) (hzs : z.cells.size = size) (hsz : 0 < size)
    {v : Value} {n : Nat} {xs : List Value} (hown : w.ownsRow 0 e size v n xs)
    {a : Addr} {m c : Nat} {news : List Value} (hl : news.length = m * size) (hnews : ∀ j u, news[j]? = some u → w.cell? (a.add j) = some u) (h1 : ∀ u ∈ news, u.oneCell' = true)
    (h63 : n + m ≤ maxLen) (hbytes : (n + m) * bytes ≤ 140737488355328) :
    ∃ v' w', (Builtin.append_ #[t, t] ty #[v, .slice (some a) m c]).run P w = .ok v' w' ∧ w'.ownsRow 0 e size v' (n + m) (xs ++ news) ∧ w.heap.size ≤ w'.heap.size ∧ w'.os = w.os ∧ w'.output = w.output ∧
      (∀ k, k < w.heap.size → v.ownBlock ≠ some k → w'.heap[k]? = w.heap[k]?) ∧ (∀ k, v'.ownBlock = some k → v.ownBlock = some k ∨ w.heap.size ≤ k) ∧
      (∀ may : MemPlace → Prop, (∀ g, v.ownBlock = some g → ∀ f, may (.cell g f)) → w.keptBut w' may) := by
  subst hsize
  subst hby
  have hsmall : n + m ≤ 9223372036854775807 := by simp only [maxLen] at h63; omega
  have hlen : (xs ++ news).length = (n + m) * i.size := by rw [List.length_append, hown.1, hl, Nat.add_mul]
  have grown : ∀ (old : Nat), old < n + m →
      (w.drew.alloc (.cells (xs.toArray ++ news.toArray ++ Builtin.zeroCells z.cells (grownCap w (n + m) old e - (n + m))) e)).ownsRow 0 e i.size
        (.slice (some ⟨w.heap.size, 0, none⟩) (n + m) (grownCap w (n + m) old e)) (n + m) (xs ++ news) := by
    intro old ho
    have hge := grownCap_ge w (n + m) old e
    have hcm : grownCap w (n + m) old e ≤ maxLen := grownCap_le_maxLen w (n + m) old e h63
    refine ⟨hlen, .inr ⟨w.heap.size, _, _, rfl, Nat.zero_le _, heap_alloc_new w.drew _, hge, hcm, ?_, ?_⟩⟩
    · simp only [Array.size_append, List.size_toArray, size_zeroCells, hzs, hown.1, hl, ← Nat.add_mul]
      congr 1
      omega
    · simp only [Array.toList_append, List.append_assoc]
      rw [← List.append_assoc, ← hlen]
      exact List.take_left
  have fresh : ∀ (cs : Array Value), w.heap.size ≤ (w.drew.alloc (.cells cs e)).heap.size ∧ (w.drew.alloc (.cells cs e)).os = w.os ∧ (w.drew.alloc (.cells cs e)).output = w.output ∧
      (∀ k, k < w.heap.size → (w.drew.alloc (.cells cs e)).heap[k]? = w.heap[k]?) ∧ (∀ may : MemPlace → Prop, w.keptBut (w.drew.alloc (.cells cs e)) may) := fun cs =>
    ⟨by simp, rfl, rfl, fun k hk => heap_alloc_old w.drew _ k hk, fun may => (World.keptBut_alloc w (.cells cs e) may).congr rfl rfl (fun i hi => by rw [heap_alloc_old w.drew _ i hi, heap_alloc_old w _ i hi]; rfl)⟩
  rcases hown.2 with ⟨rfl, rfl⟩ | ⟨g, cap, cur, rfl, hbg, hg, hnc, hcm, hcs, htake⟩
  · have hx : xs = [] := List.eq_nil_of_length_eq_zero (by simpa using hown.1)
    subst hx
    by_cases hm : m = 0
    · subst hm
      have hn : news = [] := List.eq_nil_of_length_eq_zero (by simpa using hl)
      subst hn
      refine ⟨.slice none 0 0, w, ?_, World.ownsRow_nil w 0 e i.size, Nat.le_refl _, rfl, rfl, fun _ _ _ => rfl, fun k hk => by simp [Value.ownBlock] at hk, fun may _ => World.keptBut_refl w may⟩
      simp [Builtin.append_, run_underlying ht, sizeOf, typeInfo, hi, Builtin.lenOf, Builtin.firstCells, loadCells, loadCellsFrom]
    · have hr := run_append_nil (P := P) w t ty e i z ht hi hz a m c news hl hnews (by omega) (by omega) (by have hb := hbytes; simp only [Nat.zero_add] at hb; omega)
      have hgr := grown 0 (by omega)
      simp only [Nat.zero_add, List.nil_append, Array.empty_append] at hgr ⊢
      obtain ⟨f1, f2, f3, f4, f5⟩ := fresh (news.toArray ++ Builtin.zeroCells z.cells (grownCap w m 0 e - m))
      exact ⟨_, _, hr, hgr, f1, f2, f3, fun k hk _ => f4 k hk, fun k hk => by simp only [Value.ownBlock, Option.some.injEq] at hk; exact Or.inr (by omega), fun may _ => f5 may⟩
  · by_cases hroom : n + m ≤ cap
    · have hfit : n * i.size + news.length ≤ cur.size := by rw [hl, hcs, ← Nat.add_mul]; exact Nat.mul_le_mul_right _ hroom
      have hr := run_append_room (P := P) w t ty e i ht hi g n cap cur hg a m c news hl hnews h1 hroom hfit
      have hsz' : (cur.toList.take (n * i.size) ++ news ++ cur.toList.drop (n * i.size + news.length)).toArray.size = cur.size := by
        simp only [List.size_toArray, List.length_append, List.length_take, List.length_drop, Array.length_toList]
        omega
      refine ⟨_, _, hr, ⟨hlen, .inr ⟨g, cap, _, rfl, hbg, setRow_heap w g cur _ e _ hg, hroom, hcm, by rw [hsz', hcs], ?_⟩⟩, by simp [World.setRow], rfl, rfl, fun k _ hk => setRow_other w g k _ (fun e => hk (by simp [Value.ownBlock, e])), fun k hk => Or.inl hk, fun may hmay => ?_⟩
      · rw [htake, ← hlen]
        exact List.take_left
      · refine keptBut_other (g := g) rfl rfl (fun k _ hk => setRow_other w g k _ hk) (fun c' t' fr' hc' => ?_) ⟨_, _, _, hg⟩ (hmay g rfl)
        rw [hg] at hc'; cases hc'
        exact ⟨_, setRow_heap w g cur _ e _ hg, hsz'⟩
    · have holds : ∀ j u, xs[j]? = some u → w.cell? ((⟨g, 0, none⟩ : Addr).add j) = some u := hown.cells (g := g) rfl
      have hr := run_append_grow (P := P) w t ty e i z ht hi hz ⟨g, 0, none⟩ n cap xs hown.1 holds a m c news hl hnews (by omega) (by omega) (growslice_fits (by omega) hbytes)
      have hgr := grown cap (by omega)
      obtain ⟨f1, f2, f3, f4, f5⟩ := fresh (xs.toArray ++ news.toArray ++ Builtin.zeroCells z.cells (grownCap w (n + m) cap e - (n + m)))
      exact ⟨_, _, hr, hgr, f1, f2, f3, fun k hk _ => f4 k hk, fun k hk => by simp only [Value.ownBlock, Option.some.injEq] at hk; exact Or.inr (by omega), fun may _ => f5 may⟩

/-! ### Cells written -/
def setL {α : Type} : List α → Nat → List α → List α
  | xs, _, [] => xs
  | xs, o, u :: us => setL (xs.set o u) (o + 1) us

theorem setL_length {α : Type} (us : List α) : ∀ (xs : List α) (o : Nat), (setL xs o us).length = xs.length := by
  induction us with
  | nil => intro xs o; rfl
  | cons u us ih => intro xs o; simp [setL, ih]

theorem setL_get {α : Type} (us : List α) : ∀ (xs : List α) (o k : Nat), (setL xs o us)[k]? = if o ≤ k ∧ k < o + us.length ∧ k < xs.length then us[k - o]? else xs[k]? := by
  induction us with
  | nil => intro xs o k; simp only [setL, List.length_nil]; rw [if_neg (by omega)]
  | cons u us ih =>
    intro xs o k
    simp only [setL, List.length_cons]
    rw [ih, List.length_set]
    by_cases h1 : o + 1 ≤ k ∧ k < o + 1 + us.length ∧ k < xs.length
    · rw [if_pos h1, if_pos (by omega)]
      have : k - o = (k - (o + 1)) + 1 := by omega
      rw [this, List.getElem?_cons_succ]
    · rw [if_neg h1]
      by_cases h2 : k = o
      · subst h2
        by_cases h3 : k < xs.length
        · rw [List.getElem?_set_self h3, if_pos (by omega), Nat.sub_self]; rfl
        · rw [if_neg (by omega), List.set_eq_of_length_le (by omega)]
      · rw [List.getElem?_set_ne (fun e => h2 e.symm), if_neg (by omega)]

theorem ownsRow_setCells {e : TypeId} {size g n cap : Nat} : ∀ (us : List Value) (o : Nat) (w : World) (xs : List Value), w.ownsRow 0 e size (.slice (some ⟨g, 0, none⟩) n cap) n xs →
    (w.setCells g o us).ownsRow 0 e size (.slice (some ⟨g, 0, none⟩) n cap) n (setL xs o us)
  | [], o, w, xs, h => h
  | u :: us, o, w, xs, h => ownsRow_setCells us (o + 1) _ _ (h.stored o u).1

theorem setCells_heap (g : Nat) : ∀ (us : List Value) (o : Nat) (w : World) (k : Nat), k ≠ g → (w.setCells g o us).heap[k]? = w.heap[k]?
  | [], o, w, k, hk => rfl
  | u :: us, o, w, k, hk => (setCells_heap g us (o + 1) _ k hk).trans (Below.heap_setCell w ⟨g, o, none⟩ u k hk)

theorem setCells_size (g : Nat) : ∀ (us : List Value) (o : Nat) (w : World), (w.setCells g o us).heap.size = w.heap.size
  | [], o, w => rfl
  | u :: us, o, w => by rw [World.setCells, setCells_size g us]; simp [World.setCell]

theorem toArr_getD (xs : List Value) (k : Nat) : xs.getD k undef = (xs[k]?).getD undef := by simp [List.getD]

/-- Cells of a row within are written. -/
theorem Ow.store {S : Nat → Prop} {e : TypeId} {es : List (List D)} {F : Nat → Prop} {g l c i j : Nat} {ds : List D} {us : List Value} {G : Nat → Nat → Prop} {ad : Addr}
    (h : Ow P w S (.row false e es) (.slice (some ad) l c) F) (hi : i < es.length) (hj : j + ds.length ≤ szT P e) (hl : us.length = ds.length) (h1u : ∀ u ∈ us, u.oneCell' = true)
    (hd : ∀ q d, ds[q]? = some d → Ow P w S d (us.getD q undef) (G q)) (hG : ∀ q q' k, q < ds.length → q' < ds.length → G q k → G q' k → q = q') (hGF : ∀ q k, q < ds.length → G q k → ¬ F k) (hSF : ∀ k, F k → ¬ S k) :
    ∃ F1, Ow P (w.setCells ad.block (ad.off + (i * szT P e + j)) us) S (.row false e (es.set i (setL (es.getD i []) j ds))) (.slice (some ad) l c) F1 ∧ (∀ k, F1 k → F k ∨ ∃ q, q < ds.length ∧ G q k) ∧ F ad.block ∧ F1 ad.block ∧
      (∀ q, q < ds.length → w.there ad.block (ad.off + (i * szT P e + j)) us.length) := by
  cases h with
  | row xs H own hsz h1 hx dis nb =>
    obtain ⟨g, cap, he, hcc, hm, hcell, hfz⟩ := ownsRow_cell own (by omega)
    cases he
    simp only [Nat.zero_add]
    have hown := ownsRow_setCells us (i * szT P e + j) w xs own
    have hxl := own.1
    have hle : (i + 1) * szT P e ≤ es.length * szT P e := Nat.mul_le_mul_right _ hi
    rw [Nat.add_mul, Nat.one_mul] at hle
    have hrow : (es.getD i []).length = szT P e := by
      simp only [List.getD, List.getElem?_eq_getElem hi, Option.getD_some]; exact hsz _ (List.getElem_mem hi)
    have hchunk : ∀ q, (es.getD i [])[q]? = cellAt es i q := fun q => by
      unfold cellAt; simp [List.getD, List.getElem?_eq_getElem hi]
    have ca : ∀ i' j', cellAt (es.set i (setL (es.getD i []) j ds)) i' j' = if i' = i ∧ j ≤ j' ∧ j' < j + ds.length then ds[j' - j]? else cellAt es i' j' := by
      intro i' j'
      unfold cellAt
      by_cases e1 : i' = i
      · subst e1
        rw [List.getElem?_set_self hi, Option.bind_some, setL_get, hrow, hchunk]
        by_cases h2 : j ≤ j' ∧ j' < j + ds.length
        · rw [if_pos ⟨h2.1, h2.2, by omega⟩, if_pos ⟨rfl, h2⟩]
        · rw [if_neg (by omega), if_neg (by omega)]; rfl
      · rw [List.getElem?_set_ne (fun e => e1 e.symm), if_neg (by omega)]
    let H1 : Nat → Nat → Nat → Prop := fun i' j' k => if i' = i ∧ j ≤ j' ∧ j' < j + ds.length then G (j' - j) k else H i' j' k
    have hF : ∀ i' j' d k, cellAt es i' j' = some d → H i' j' k → Value.ownBlock (.slice (some ⟨g, 0, none⟩) es.length c) = some k ∨ ∃ i' j' d, cellAt es i' j' = some d ∧ H i' j' k := fun i' j' d k hd hk => Or.inr ⟨i', j', d, hd, hk⟩
    refine ⟨_, .row (setL xs (i * szT P e + j) us) H1 (by rw [List.length_set]; exact hown) ?_ ?_ ?_ ?_ ?_, ?_, Or.inl rfl, Or.inl rfl, ?_⟩
    · intro l' hl'
      rcases List.mem_or_eq_of_mem_set hl' with h' | h'
      · exact hsz l' h'
      · rw [h', setL_length, hrow]
    · intro u hu
      obtain ⟨k, hk, rfl⟩ := List.getElem_of_mem hu
      have := setL_get us xs (i * szT P e + j) k
      rw [List.getElem?_eq_getElem hk] at this
      split at this
      · exact h1u _ (List.mem_of_getElem? this.symm)
      · exact h1 _ (List.mem_of_getElem? this.symm)
    · intro i' j' d hd'
      have hd0 := hd'
      rw [ca] at hd'
      simp only [H1]
      have hjs : j' < szT P e := by
        split at hd'
        · rename_i hh; omega
        · exact cellAt_len hd' hsz
      have hil : i' < es.length := by
        split at hd'
        · rename_i hh; omega
        · exact cellAt_lt hd'
      have hlt := off_lt hil hjs
      rw [toArr_getD, setL_get]
      by_cases hc' : i' = i ∧ j ≤ j' ∧ j' < j + ds.length
      · rw [if_pos hc'] at hd'
        have e2 : i * szT P e + j ≤ i' * szT P e + j' ∧ i' * szT P e + j' < i * szT P e + j + us.length ∧ i' * szT P e + j' < xs.length := by
          obtain ⟨rfl, h2, h3⟩ := hc'
          rw [hxl, hl]; omega
        rw [if_pos e2]
        refine Ow.congr (F := G (j' - j)) ?_ (fun k => by rw [if_pos hc'])
        obtain ⟨rfl, h2, h3⟩ := hc'
        have e3 : i' * szT P e + j' - (i' * szT P e + j) = j' - j := by omega
        rw [e3, ← toArr_getD]
        refine (hd _ d hd').move (fun k hk => setCells_heap g us _ w k ?_) (fun k hk => setCells_heap g us _ w k ?_)
        · rintro rfl; exact hGF _ _ (by omega) hk (Or.inl rfl)
        · rintro rfl; exact hSF _ (Or.inl rfl) hk
      · rw [if_neg hc'] at hd'
        have e2 : ¬ (i * szT P e + j ≤ i' * szT P e + j' ∧ i' * szT P e + j' < i * szT P e + j + us.length ∧ i' * szT P e + j' < xs.length) := by
          rintro ⟨h2, h3, _⟩
          have hb : i' * szT P e + j' < i * szT P e + szT P e := by omega
          have hi' : i' = i := by
            rcases Nat.lt_trichotomy i' i with h4 | h4 | h4
            · have : (i' + 1) * szT P e ≤ i * szT P e := Nat.mul_le_mul_right _ h4
              rw [Nat.add_mul, Nat.one_mul] at this; omega
            · exact h4
            · have : (i + 1) * szT P e ≤ i' * szT P e := Nat.mul_le_mul_right _ h4
              rw [Nat.add_mul, Nat.one_mul] at this; omega
          subst hi'
          exact hc' ⟨rfl, by omega, by omega⟩
        rw [if_neg e2, ← toArr_getD]
        refine Ow.congr (F := H i' j') ?_ (fun k => by rw [if_neg hc'])
        refine (hx i' j' d hd').move (fun k hk => setCells_heap g us _ w k ?_) (fun k hk => setCells_heap g us _ w k ?_)
        · rintro rfl; exact nb i' j' d _ hd' hk rfl
        · rintro rfl; exact hSF _ (Or.inl rfl) hk
    · intro i1 j1 i2 j2 d1 d2 k hd1 hd2 hk1 hk2
      rw [ca] at hd1 hd2
      simp only [H1] at hk1 hk2
      by_cases c1 : i1 = i ∧ j ≤ j1 ∧ j1 < j + ds.length <;> by_cases c2 : i2 = i ∧ j ≤ j2 ∧ j2 < j + ds.length
      · rw [if_pos c1] at hk1; rw [if_pos c2] at hk2
        have := hG _ _ k (by omega) (by omega) hk1 hk2
        exact ⟨by omega, by omega⟩
      · rw [if_pos c1] at hk1; rw [if_neg c2] at hk2 hd2
        exact absurd (hF i2 j2 d2 k hd2 hk2) (hGF _ k (by omega) hk1)
      · rw [if_neg c1] at hk1 hd1; rw [if_pos c2] at hk2
        exact absurd (hF i1 j1 d1 k hd1 hk1) (hGF _ k (by omega) hk2)
      · rw [if_neg c1] at hk1 hd1; rw [if_neg c2] at hk2 hd2
        exact dis i1 j1 i2 j2 d1 d2 k hd1 hd2 hk1 hk2
    · intro i' j' d k hd' hk
      rw [ca] at hd'
      simp only [H1] at hk
      by_cases c1 : i' = i ∧ j ≤ j' ∧ j' < j + ds.length
      · rw [if_pos c1] at hk
        exact fun hg => hGF _ k (by omega) hk (Or.inl hg)
      · rw [if_neg c1] at hk hd'
        exact nb i' j' d k hd' hk
    · rintro k (hk | ⟨i', j', d, hd', hk⟩)
      · exact Or.inl (Or.inl hk)
      · rw [ca] at hd'
        simp only [H1] at hk
        by_cases c1 : i' = i ∧ j ≤ j' ∧ j' < j + ds.length
        · rw [if_pos c1] at hk; exact Or.inr ⟨_, by omega, hk⟩
        · rw [if_neg c1] at hk hd'; exact Or.inl (Or.inr ⟨i', j', d, hd', hk⟩)
    · intro q hq k hk
      refine ⟨?_, hfz _⟩
      rw [hcell _ (by omega), List.getElem?_eq_getElem (by omega)]; rfl
end
end Go.Proofs.Ytldniggehdpheaa.AW

namespace Go.Proofs.Ytldniggehdpheaa.AW
open Go.RowKit
set_option linter.unusedSimpArgs false
set_option linter.unusedVariables false

/-- An object takes the place of what bore its number. -/
def St.fresh (st : St) (d : Nat) (b : Ob) : St := (st.kill d).put d b

def No : Nat → Prop := fun _ => False

section
variable {P : Program} {w w1 : World} {C : Cx} {X : Nat → Prop} {gh : Gh} {st : St} {a : Act} {v : V} {u : Value} {ob : List (Nat × Ob)}

theorem Rep.forget (h : Rep P C X st a w gh) (o : Nat) : Rep P C X (st.kill o) a w gh where
  obs := fun o' b hb => by
    rw [look_kill] at hb
    split at hb
    · cases hb
    · exact h.obs o' b hb
  dis := fun o1 o2 b1 b2 k h1 h2 hk1 hk2 => by
    rw [look_kill] at h1 h2
    split at h1; · cases h1
    split at h2; · cases h2
    exact h.dis o1 o2 b1 b2 k h1 h2 hk1 hk2
  sS := h.sS
  nS := fun o' b k hb hk => by
    rw [look_kill] at hb
    split at hb; · cases hb
    exact h.nS o' b k hb hk
  wrR := fun o' e' es' k hb hk => by
    rw [look_kill] at hb
    split at hb; · cases hb
    exact h.wrR o' e' es' k hb hk
  wrB := fun o' cs k hb hk => by
    rw [look_kill] at hb
    split at hb; · cases hb
    exact h.wrB o' cs k hb hk
  wrC := fun o' cs j hb hj => by
    rw [look_kill] at hb
    split at hb; · cases hb
    exact h.wrC o' cs j hb hj
  kept := h.kept
  pins := fun o' x hx hn => by
    rw [look_kill] at hn
    split at hn; · exact absurd rfl hn
    exact h.pins o' x hx hn
  tms := fun t => by rw [St.get_kill]; exact (h.tms t).kill o
  nt := h.nt
  dfs := h.dfs
  xl := h.xl
  xS := h.xS
  xF := fun o' b k hb hk => by
    rw [look_kill] at hb
    split at hb
    · cases hb
    · exact h.xF o' b k hb hk
  xW := h.xW
  s0S := h.s0S
  sZ := h.sZ

/-- What is in hand becomes an object numbered d. -/
theorem Rep.fresh (h : Rep P C X st a w gh) {d : Nat} {x : Ob} {v' : Value} {b f : Nat} {F : Nat → Prop} (hp : C.pin d = none) (hx : ObR P w (gh.upd d v' b f F) d x) (hF : ∀ k, F k → X k) :
    Rep P C (fun k => X k ∧ ¬ F k) (st.fresh d x) a w (gh.upd d v' b f F) :=
  (h.forget d).lay (by rw [look_kill, if_pos rfl]) hp hx hF

theorem fresh_look (st : St) (d : Nat) (x : Ob) : look (st.fresh d x).ob d = some x := by
  unfold St.fresh St.put; rw [look_cons_self]

/-- A row in hand is laid down. -/
theorem Rep.freshRow (h : Rep P C X st a w gh) {d : Nat} {e : TypeId} {es : List (List D)} {v' : Value} {F : Nat → Prop} (hp : C.pin d = none) (how : Ow P w gh.S (.row false e es) v' F) (hF : ∀ k, F k → X k) :
    ∃ gh', Rep P C (fun k => X k ∧ ¬ F k) (st.fresh d (.row e es)) a w gh' ∧ gh'.S = gh.S ∧ gh'.hv d = v' ∧ gh'.F d = F := by
  refine ⟨gh.upd d v' 0 0 F, h.fresh hp (.row ?_) hF, rfl, by simp [Gh.upd], by simp [Gh.upd]⟩
  simpa [Gh.upd] using how

/-- A new variable. -/
theorem Rep.freshBox (h : Rep P C X st a w gh) {d : Nat} {us : Array Value} {t : TypeId} {ds : List D} {G : Nat → Nat → Prop} (hp : C.pin d = none) (hl : us.size = ds.length) (h1 : ∀ x ∈ us, x.oneCell' = true)
    (how : ∀ j c, ds[j]? = some c → Ow P w gh.S c (us.toList.getD j undef) (G j)) (hGX : ∀ j k, j < ds.length → G j k → X k) (dis : ∀ j j' k, j < ds.length → j' < ds.length → G j k → G j' k → j = j') :
    ∃ gh', Rep P C (fun k => X k ∧ ¬ ∃ j, j < ds.length ∧ G j k) (st.fresh d (.box ds)) a (w.alloc (.cells us t)) gh' ∧ gh'.S = gh.S ∧ gh'.bb d = w.heap.size ∧ gh'.bo d = 0 := by
  have hm := h.made (.cells us t)
  have hnew := heap_alloc_new w (.cells us t)
  let F : Nat → Prop := fun k => k = w.heap.size ∨ ∃ j c, ds[j]? = some c ∧ G j k
  have hlt : ∀ j k, j < ds.length → G j k → k < w.heap.size := fun j k hj hk => h.xl k (hGX j k hj hk)
  have hob : ObR P (w.alloc (.cells us t)) (gh.upd d undef w.heap.size 0 F) d (.box ds) := by
    refine .box us.toList G ⟨us, t, by simpa [Gh.upd] using hnew⟩ (by simpa using hl) (fun u hu => h1 u (by simpa using hu)) (fun j hj => ?_) (fun j c hc => ?_) (fun j j' c c' k hc hc' hk hk' => ?_) (fun j c k hc hk => ?_) (fun k => ?_)
    · simp only [Gh.upd, if_true, Nat.zero_add]
      rw [cell_of_row _ _ _ us t (0, 0) hnew]; simp
    · have hj := (List.getElem?_eq_some_iff.1 hc).1
      exact (how j c hc).move (fun k hk => heap_alloc_lt w _ (hlt j k hj hk)) (fun k hk => heap_alloc_lt w _ (h.sS k hk))
    · exact dis j j' k (List.getElem?_eq_some_iff.1 hc).1 (List.getElem?_eq_some_iff.1 hc').1 hk hk'
    · have := hlt j k (List.getElem?_eq_some_iff.1 hc).1 hk
      simp only [Gh.upd, if_true]; omega
    · simp [Gh.upd, F]
  refine ⟨gh.upd d undef w.heap.size 0 F, (hm.fresh hp hob (fun k hk => ?_)).less (fun k hk => ⟨Or.inl hk.1, ?_⟩), rfl, by simp [Gh.upd], by simp [Gh.upd]⟩
  · rcases hk with hk | ⟨j, c, hc, hk⟩
    · exact Or.inr hk
    · exact Or.inl (hGX j k (List.getElem?_eq_some_iff.1 hc).1 hk)
  · rintro (hk' | ⟨j, c, hc, hk'⟩)
    · have := h.xl k hk.1; omega
    · exact hk.2 ⟨j, (List.getElem?_eq_some_iff.1 hc).1, hk'⟩

/-- A new row, its elements out of what is in hand. -/
theorem Rep.madeRow (h : Rep P C X st a w gh) {d : Nat} {cells : Array Value} {e : TypeId} {es : List (List D)} {G : Nat → Nat → Nat → Prop} (hp : C.pin d = none) (hl : cells.size = es.length * szT P e) (hm : es.length ≤ maxLen)
    (hsz : ∀ l ∈ es, l.length = szT P e) (h1 : ∀ x ∈ cells.toList, x.oneCell' = true) (how : ∀ i j c, cellAt es i j = some c → Ow P w gh.S c (cells.toList.getD (i * szT P e + j) undef) (G i j))
    (hGX : ∀ i j c k, cellAt es i j = some c → G i j k → X k) (dis : ∀ i j i' j' c c' k, cellAt es i j = some c → cellAt es i' j' = some c' → G i j k → G i' j' k → i = i' ∧ j = j') :
    ∃ gh', Rep P C (fun k => X k ∧ ¬ ∃ i j c, cellAt es i j = some c ∧ G i j k) (st.fresh d (.row e es)) a (w.alloc (.cells cells e)) gh' ∧ gh'.S = gh.S ∧ gh'.hv d = .slice (some ⟨w.heap.size, 0, none⟩) es.length es.length := by
  have hmd := h.made (.cells cells e)
  have hlt : ∀ i j c k, cellAt es i j = some c → G i j k → k < w.heap.size := fun i j c k hc hk => h.xl k (hGX i j c k hc hk)
  have how' : Ow P (w.alloc (.cells cells e)) gh.S (.row false e es) (.slice (some ⟨w.heap.size, 0, none⟩) es.length es.length) (fun k => Value.ownBlock (.slice (some ⟨w.heap.size, 0, none⟩) es.length es.length) = some k ∨ ∃ i j c, cellAt es i j = some c ∧ G i j k) := by
    refine .row cells.toList G (World.ownsRow_lit w cells es.length (Nat.zero_le _) hm hl) hsz h1 (fun i j c hc => ?_) dis (fun i j c k hc hk => ?_)
    · exact (how i j c hc).move (fun k hk => heap_alloc_lt w _ (hlt i j c k hc hk)) (fun k hk => heap_alloc_lt w _ (h.sS k hk))
    · have := hlt i j c k hc hk
      simp only [Value.ownBlock, ne_eq, Option.some.injEq]; omega
  obtain ⟨gh', hr, hS, hv, hF⟩ := hmd.freshRow hp how' (fun k hk => by
    rcases hk with hk | ⟨i, j, c, hc, hk⟩
    · simp only [Value.ownBlock, Option.some.injEq] at hk; exact Or.inr hk.symm
    · exact Or.inl (hGX i j c k hc hk))
  refine ⟨gh', hr.less (fun k hk => ⟨Or.inl hk.1, ?_⟩), hS, hv⟩
  rintro (hk' | ⟨i, j, c, hc, hk'⟩)
  · simp only [Value.ownBlock, Option.some.injEq] at hk'
    have := h.xl k hk.1; omega
  · exact hk.2 ⟨i, j, c, hc, hk'⟩

theorem VR.whole {d : Nat} {e : TypeId} {es : List (List D)} {n : Nat} {A : Option Addr} {c : Nat} (hx : look ob d = some (.row e es)) (hv : gh.hv d = .slice A es.length c) (hn : n ≤ es.length) : VR P w gh ob (.ref d [] n) (.slice A n c) :=
  .ref hx (by simp only [NavO, hv]; exact .nil) hn

/-- A row bears another number. -/
theorem Rep.rename (h : Rep P C X st a w gh) {o d : Nat} {e : TypeId} {es : List (List D)} (ho : look st.ob o = some (.row e es)) (hp : C.pin d = none) :
    ∃ gh', Rep P C X ((st.kill o).fresh d (.row e es)) a w gh' ∧ gh'.S = gh.S ∧ gh'.hv d = gh.hv o := by
  have hob := h.obs o _ ho
  cases hob with
  | row how =>
    obtain ⟨gh', hr, hS, hv, hF⟩ := (h.take ho).freshRow hp how (fun k hk => Or.inr hk)
    exact ⟨gh', hr.less (fun k hk => ⟨Or.inl hk, fun hk' => h.xF o _ k ho hk hk'⟩), hS, hv⟩

/-- An empty row that is nil. -/
theorem Rep.nilRow (h : Rep P C X st a w gh) {d : Nat} (e : TypeId) (hp : C.pin d = none) : ∃ gh', Rep P C X (st.fresh d (.row e [])) a w gh' ∧ gh'.S = gh.S ∧ gh'.hv d = .slice none 0 0 := by
  have how : Ow P w gh.S (.row false e []) (.slice none 0 0) (fun k => Value.ownBlock (.slice none 0 0) = some k ∨ ∃ i j c, cellAt ([] : List (List D)) i j = some c ∧ No k) :=
    .row [] (fun _ _ => No) (World.ownsRow_nil w 0 e (szT P e)) (by simp) (by simp) (fun i j c hc => by simp [cellAt] at hc) (fun i j i' j' c c' k hc => by simp [cellAt] at hc) (fun i j c k hc => by simp [cellAt] at hc)
  obtain ⟨gh', hr, hS, hv, hF⟩ := h.freshRow hp how (fun k hk => by
    rcases hk with hk | ⟨i, j, c, hc, hk⟩
    · simp [Value.ownBlock] at hk
    · simp [cellAt] at hc)
  exact ⟨gh', hr.less (fun k hk => ⟨hk, fun hk' => by
    rcases hk' with hk' | ⟨i, j, c, hc, hk'⟩
    · simp [Value.ownBlock] at hk'
    · simp [cellAt] at hc⟩), hS, hv⟩
end
end Go.Proofs.Ytldniggehdpheaa.AW

namespace Go.Proofs.Ytldniggehdpheaa.AW
open Go.RowKit
set_option linter.unusedSimpArgs false
set_option linter.unusedVariables false

def zeroCells (P : Program) (t : TypeId) : Option (List Value) := ((P.info? t).bind (·.zero)).map (·.cells.toList)
def bytesT (P : Program) (e : TypeId) : Nat := ((P.info? e).map (·.bytes)).getD 0

/-- Numbers of rows that nobody has named yet. -/
def anon (d : Nat) : Nat := 3000 + d
def isAnon (o : Nat) : Bool := decide (3000 ≤ o)

def setDst (st : St) (d : Option Nat) (v : V) : St := match d with
  | none => st
  | some d => st.set d v

def okP (st : St) : List (Nat × Operand) → Prop
  | [] => True
  | p :: r => (st.ev p.2).ok ∧ okP st r
def okX (st : St) : List Operand → Prop
  | [] => True
  | p :: r => (st.ev p).ok ∧ okX st r
def lensAre (n : Nat) : List (List V) → Prop
  | [] => True
  | l :: r => l.length = n ∧ lensAre n r
theorem okP_mem {st : St} : ∀ {l : List (Nat × Operand)}, okP st l → ∀ p ∈ l, (st.ev p.2).ok
  | [], _, p, h => by simp at h
  | x :: r, h, p, hp => (List.mem_cons.1 hp).elim (fun e => e ▸ h.1) (okP_mem h.2 p)
theorem okX_mem {st : St} : ∀ {l : List Operand}, okX st l → ∀ p ∈ l, (st.ev p).ok
  | [], _, p, h => by simp at h
  | x :: r, h, p, hp => (List.mem_cons.1 hp).elim (fun e => e ▸ h.1) (okX_mem h.2 p)
theorem lensAre_mem {n : Nat} : ∀ {l : List (List V)}, lensAre n l → ∀ p ∈ l, p.length = n
  | [], _, p, h => by simp at h
  | x :: r, h, p, hp => (List.mem_cons.1 hp).elim (fun e => e ▸ h.1) (lensAre_mem h.2 p)

/-- What is not to be looked into before its time. -/
class KB where
  k : St → Prop
class PB where
  p : Prop
  q : Prop
/-- A state is reckoned before one goes on with it. -/
def ev (s : St) [b : KB] : Prop := b.k s
theorem ev_eq (K : St → Prop) (s : St) : @ev s ⟨K⟩ = K s := rfl

def aAssign (P : Program) (C : Cx) (st : St) (ty : TypeId) (d : Nat) (v : V) (K : St → Prop) : Prop := match v with
  | .sc (.slice none 0 0) => match elT P ty with
    | some e => C.pin d = none ∧ ev (b := ⟨K⟩) ((st.fresh d (.row e [])).set d (.ref d [] 0))
    | none => False
  | .ref o [] n => if isAnon o then (match look st.ob o with
      | some (.row e es) => C.pin d = none ∧ ev (b := ⟨K⟩) (((st.kill o).fresh d (.row e es)).set d (.ref d [] n))
      | _ => False) else ev (b := ⟨K⟩) (st.set d v)
  | v => ev (b := ⟨K⟩) (st.set d v)

def aAlloc (P : Program) (C : Cx) (st : St) (t : TypeId) (d : Nat) (K : St → Prop) : Prop := match zeroCells P t with
  | some cs => (cs.all (·.oneCell') = true) ∧ C.pin d = none ∧ ev (b := ⟨K⟩) ((st.fresh d (.box (cs.map .sc))).set d (.bp d 0))
  | none => False

def aBox (C : Cx) (st : St) (d : Nat) (v : V) (K : St → Prop) : Prop := match flatV v with
  | some vs => (toDs st vs).1 ∧ C.pin d = none ∧ ev (b := ⟨K⟩) (((toDs st vs).2.1.fresh d (.box (toDs st vs).2.2)).set d (.bp d 0))
  | none => False

def flats : List V → Option (List (List V))
  | [] => some []
  | v :: r => (flatV v).bind fun x => (flats r).map (x :: ·)

def aBuildSlice (P : Program) (C : Cx) (st : St) (t : TypeId) (len d : Nat) (ix : List Nat) (vs : List V) (K : St → Prop) : Prop := match elT P t, flats vs with
  | some e, some fs => ix = List.range len ∧ lensAre (szT P e) fs ∧ (0 < len → (zeroCells P e).isSome = true) ∧ len * szT P e ≤ 16777216 ∧ (toDss st fs).1 ∧ C.pin (anon d) = none ∧
      ev (b := ⟨K⟩) (((toDss st fs).2.1.fresh (anon d) (.row e (toDss st fs).2.2)).set d (.ref (anon d) [] len))
  | _, _ => False

def aMake (P : Program) (C : Cx) (st : St) (t : TypeId) (d : Nat) (l c : V) (K : St → Prop) : Prop := match l, c with
  | .sc (.int _ n), .sc (.int _ m) => match elT P t with
    | some e => match zeroCells P e with
      | some z => n = m ∧ 0 ≤ n ∧ bytesT P e * n ≤ 281474976710656 ∧ n ≤ 140737488355328 ∧ z.all (·.oneCell') = true ∧ z.length = szT P e ∧ C.pin (anon d) = none ∧
        ev (b := ⟨K⟩) ((st.fresh (anon d) (.row e (List.replicate n.toNat (z.map .sc)))).set d (.ref (anon d) [] n.toNat))
      | none => False
    | none => False
  | _, _ => False

section
variable {P : Program} {w w1 : World} {C : Cx} {X : Nat → Prop} {gh : Gh} {st : St} {a : Act} {v : V} {u : Value} {ob : List (Nat × Ob)}

/-- What an operation comes to. -/
def Comes1 (P : Program) (C : Cx) (o : Oper) (a : Act) (w : World) (K : St → Prop) : Prop :=
  ∃ nx w', (execOp a.eval o).run P w = .ok nx w' ∧ ((∃ y, nx = .value y ∧ ∃ st' gh', K st' ∧ Rep P C No st' (a.put o.dst y) w' gh') ∨ (nx = .skip ∧ ∃ st' gh', K st' ∧ Rep P C No st' (a.put o.dst undef) w' gh'))

theorem getD_eq {vs : List Value} {i : Nat} {d : Value} (h : i < vs.length) : vs.getD i d = vs[i] := by simp [List.getD, List.getElem?_eq_getElem h]

theorem zero_info {t : TypeId} {cs : List Value} (h : zeroCells P t = some cs) : ∃ i z, P.info? t = some i ∧ i.zero = some z ∧ z.cells.toList = cs := by
  unfold zeroCells at h
  simp only [Option.map_eq_some_iff, Option.bind_eq_some_iff] at h
  obtain ⟨z, ⟨i, hi, hz⟩, rfl⟩ := h
  exact ⟨i, z, hi, hz, rfl⟩

theorem alloc_sound (h : Rep P C No st a w gh) {o : Oper} {t : TypeId} {d : Nat} {K : St → Prop} (ho : o.op = .alloc t) (hd : o.dst = some d) (hlt : d < st.nt) (hk : aAlloc P C st t d K) : Comes1 P C o a w K := by
  unfold aAlloc at hk
  split at hk
  case h_2 => exact hk.elim
  rename_i cs hz
  obtain ⟨h1, hp, hk⟩ := hk
  obtain ⟨i, z, hi, hzz, rfl⟩ := zero_info hz
  obtain ⟨gh', hr, hS, hbb, hbo⟩ := h.freshBox (us := z.cells) (t := t) (ds := z.cells.toList.map .sc) (G := fun _ => No) hp (by simp) (fun x hx => by simpa using List.all_eq_true.1 h1 x (by simpa using hx)) (fun j c hc => by
    simp only [List.getElem?_map, Option.map_eq_some_iff] at hc
    obtain ⟨x, hx, rfl⟩ := hc
    have : z.cells.toList.getD j undef = x := by simp [List.getD, hx]
    rw [this]
    exact .sc (by simpa using List.all_eq_true.1 h1 x (List.mem_of_getElem? hx))) (fun _ _ _ hk => hk.elim) (fun _ _ _ _ _ hk => hk.elim)
  refine ⟨.value (.pointer (some ⟨w.heap.size, 0, none⟩)), w.alloc (.cells z.cells t), ?_, Or.inl ⟨_, rfl, _, gh', hk, ?_⟩⟩
  · simp [execOp, ho, Instr.alloc, zeroValue, typeInfo, hi, hzz, newVar, newRow]
  · rw [hd]
    have hr' := hr.less (X' := No) (fun k hk => hk.elim)
    have hv := VR.bp (P := P) (w := w.alloc (.cells z.cells t)) (gh := gh') (j := 0) (fresh_look st d (.box (z.cells.toList.map .sc)))
    rw [hbb, hbo] at hv
    exact hr'.set hlt hv

theorem box_sound (h : Rep P C No st a w gh) {o : Oper} {t : TypeId} {x : Operand} {d : Nat} {K : St → Prop} (ho : o.op = .box t x) (hd : o.dst = some d) (hlt : d < st.nt) (hok : (st.ev x).ok) (hk : aBox C st d (st.ev x).str K)
    (hnt : ∀ vs, flatV (st.ev x).str = some vs → (toDs st vs).2.1.nt = st.nt) : Comes1 P C o a w K := by
  unfold aBox at hk
  split at hk
  case h_2 => exact hk.elim
  rename_i vs hf
  obtain ⟨hs, hp, hk⟩ := hk
  obtain ⟨hsz, h1, hv⟩ := flat_sound (h.use x hok) hf
  obtain ⟨gh1, G, hr, hS, hq, hl, how, hG, hd1, _⟩ := toDs_sound h hv hs
  obtain ⟨gh', hr', hS', hbb, hbo⟩ := hr.freshBox (us := (a.eval x).cells) (t := t) (ds := (toDs st vs).2.2) (G := G) hp (by rw [hsz, hl]) h1 (fun j c hc => hS ▸ how j c hc) (fun j k hj hk => Or.inr ⟨j, by omega, hk⟩) (fun j j' k hj hj' hk hk' => hd1 j j' k (by omega) (by omega) hk hk')
  refine ⟨.value (.pointer (some ⟨w.heap.size, 0, none⟩)), w.alloc (.cells (a.eval x).cells t), ?_, Or.inl ⟨_, rfl, _, gh', hk, ?_⟩⟩
  · simp [execOp, ho, Instr.box, newVar, newRow]
  · rw [hd]
    have hr2 := hr'.less (X' := No) (fun k hk => hk.elim)
    have hv := VR.bp (P := P) (w := w.alloc (.cells (a.eval x).cells t)) (gh := gh') (j := 0) (fresh_look (toDs st vs).2.1 d (.box (toDs st vs).2.2))
    rw [hbb, hbo] at hv
    exact hr2.set (by have := hnt vs hf; simp only [St.fresh, St.put, St.kill]; omega) hv

theorem navO_nil {o : Nat} {e e' : TypeId} {es es' : List (List D)} {v : Value} (hn : NavO P w gh o (.row e es) [] (.row false e' es') v) : e = e' ∧ es = es' ∧ gh.hv o = v := by
  generalize hd' : D.row false e' es' = dd at hn
  generalize hv' : v = y at hn
  simp only [NavO] at hn
  generalize h1 : D.row false e es = d1 at hn
  generalize h2 : gh.hv o = v1 at hn
  cases hn
  subst h1
  cases hd'
  exact ⟨rfl, rfl, rfl⟩

theorem nil_of_VR {x : Value} (h : VR P w gh ob (.sc x) u) : u = x := h.sc_inv

theorem assign_sound (h : Rep P C No st a w gh) {o : Oper} {x : Operand} {d : Nat} {K : St → Prop} (ho : o.op = .assign x) (hd : o.dst = some d) (hlt : d < st.nt) (hk : aAssign P C st o.type d (st.ev x) K) : Comes1 P C o a w K := by
  have hrun : (execOp a.eval o).run P w = .ok (.value (a.eval x)) w := by simp [execOp, ho]
  have hv := h.ev x
  unfold aAssign at hk
  split at hk
  · rename_i he
    rw [he] at hv
    have hu := hv.sc_inv
    split at hk
    case h_2 => exact hk.elim
    rename_i e hel
    obtain ⟨hp, hk⟩ := hk
    obtain ⟨gh', hr, hS, hhv⟩ := h.nilRow (d := d) e hp
    refine ⟨_, _, hrun, Or.inl ⟨_, rfl, _, gh', hk, ?_⟩⟩
    rw [hd, hu]
    exact hr.set hlt (VR.whole (fresh_look st d _) (by rw [hhv]; rfl) (Nat.le_refl 0))
  · rename_i o' n he
    rw [he] at hv
    split at hk
    · split at hk
      case h_2 => exact hk.elim
      rename_i e es hl
      obtain ⟨hp, hk⟩ := hk
      obtain ⟨gh', hr, hS, hhv⟩ := h.rename hl hp
      refine ⟨_, _, hrun, Or.inl ⟨_, rfl, _, gh', hk, ?_⟩⟩
      rw [hd]
      refine hr.set hlt ?_
      generalize hu : a.eval x = u at hv
      cases hv with
      | ref hx hn hle =>
        rw [hl] at hx; cases hx
        obtain ⟨rfl, rfl, hv'⟩ := navO_nil hn
        exact VR.whole (fresh_look _ d _) (by rw [hhv, hv']) hle
    · exact ⟨_, _, hrun, Or.inl ⟨_, rfl, _, gh, hk, by rw [hd]; exact h.set hlt (he ▸ hv)⟩⟩
  · exact ⟨_, _, hrun, Or.inl ⟨_, rfl, _, gh, hk, by rw [hd]; exact h.set hlt hv⟩⟩

theorem make_sound (h : Rep P C No st a w gh) {o : Oper} {t : TypeId} {x y : Operand} {d : Nat} {K : St → Prop} (ho : o.op = .makeSlice t x y) (hd : o.dst = some d) (hlt : d < st.nt) (hox : (st.ev x).ok) (hoy : (st.ev y).ok)
    (hk : aMake P C st t d (st.ev x).str (st.ev y).str K) (hpos : Sized P) : Comes1 P C o a w K := by
  unfold aMake at hk
  split at hk
  case h_2 => exact hk.elim
  rename_i k1 n k2 m e1 e2
  have hx := (e1 ▸ h.use x hox).sc_inv
  have hy := (e2 ▸ h.use y hoy).sc_inv
  split at hk
  case h_2 => exact hk.elim
  rename_i e hel
  split at hk
  case h_2 => exact hk.elim
  rename_i z hz
  obtain ⟨rfl, h0, hby, hn, hz1, hzl, hp, hk⟩ := hk
  obtain ⟨i, zv, hi, hzz, rfl⟩ := zero_info hz
  have hu := elT_some hel
  have hsp := hpos t e hel
  have hsi : i.size = szT P e := by unfold szT; simp [hi]
  have hbi : i.bytes = bytesT P e := by unfold bytesT; simp [hi]
  have hr := run_make (P := P) w t e i zv hu hi hzz k1 k2 n n h0 (Int.le_refl _) (by rw [hbi]; exact hby) (by omega)
  have hzs : zv.cells.size = szT P e := by simpa using hzl
  have hml : (madeCells zv.cells (n.toNat * i.size)).size = n.toNat * szT P e := by rw [size_madeCells, hsi]
  have ca : ∀ i' j' c, cellAt (List.replicate n.toNat (zv.cells.toList.map D.sc)) i' j' = some c → ∃ x, zv.cells[j']? = some x ∧ c = .sc x ∧ i' < n.toNat ∧ j' < szT P e := by
    intro i' j' c hc
    have h1 := cellAt_lt hc
    rw [List.length_replicate] at h1
    unfold cellAt at hc
    rw [List.getElem?_replicate, if_pos h1] at hc
    simp only [Option.bind_some, List.getElem?_map, Option.map_eq_some_iff, Array.getElem?_toList] at hc
    obtain ⟨x, hx, rfl⟩ := hc
    exact ⟨x, hx, rfl, h1, by rw [← hzs]; exact (Array.getElem?_eq_some_iff.1 hx).1⟩
  obtain ⟨gh', hrep, hS, hhv⟩ := h.madeRow (d := anon d) (cells := madeCells zv.cells (n.toNat * i.size)) (e := e) (es := List.replicate n.toNat (zv.cells.toList.map D.sc)) (G := fun _ _ => No) hp
    (by rw [hml, List.length_replicate]) (by rw [List.length_replicate]; unfold maxLen; omega) (fun l hl => by rw [List.eq_of_mem_replicate hl]; simpa using hzs)
    (fun x hx => by
      obtain ⟨k, hk, rfl⟩ := List.getElem_of_mem hx
      simp only [madeCells, Array.toList_map, List.getElem_map]
      have hmod : ∀ q, q % zv.cells.size < zv.cells.size := fun q => Nat.mod_lt _ (by omega)
      rw [getElem!_pos zv.cells _ (hmod _)]
      simpa using List.all_eq_true.1 hz1 _ (by simp))
    (fun i' j' c hc => by
      obtain ⟨x, hx, rfl, hil, hjl⟩ := ca i' j' c hc
      have hlt' := off_lt hil hjl
      have : (madeCells zv.cells (n.toNat * i.size)).toList.getD (i' * szT P e + j') undef = x := by
        have hj2 : (i' * szT P e + j') % zv.cells.size = j' := by rw [hzs, Nat.mul_comm, Nat.mul_add_mod]; exact Nat.mod_eq_of_lt hjl
        rw [getD_eq (by simpa [size_madeCells, hsi] using hlt')]
        simp only [madeCells, Array.toList_map, List.getElem_map, Array.toList_range, List.getElem_range, hj2]
        rw [getElem!_pos zv.cells j' (by omega)]
        exact Option.some.inj ((Array.getElem?_eq_getElem (by omega)).symm.trans hx)
      rw [this]
      exact .sc (by simpa using List.all_eq_true.1 hz1 x (by simpa using Array.mem_of_getElem? hx)))
    (fun _ _ _ _ _ hk => hk.elim) (fun _ _ _ _ _ _ _ _ _ hk => hk.elim)
  refine ⟨.value (.slice (some ⟨w.heap.size, 0, none⟩) n.toNat n.toNat), w.alloc (.cells (madeCells zv.cells (n.toNat * i.size)) e), ?_, Or.inl ⟨_, rfl, _, gh', hk, ?_⟩⟩
  · simp [execOp, ho, hx, hy, Sem.run_bind, hr]
  · rw [hd]
    refine (hrep.less (X' := No) (fun k hk => hk.elim)).set hlt ?_
    exact VR.whole (fresh_look st (anon d) _) (by rw [hhv]; simp) (by simp)
end
end Go.Proofs.Ytldniggehdpheaa.AW

namespace Go.Proofs.Ytldniggehdpheaa.AW
open Go.RowKit
set_option linter.unusedSimpArgs false
set_option linter.unusedVariables false
section
variable {P : Program} {w w1 : World} {C : Cx} {X : Nat → Prop} {gh : Gh} {st : St} {a : Act} {v : V} {u : Value} {ob : List (Nat × Ob)}

theorem toD_nt (v : V) : (toD st v).2.1.nt = st.nt := by
  unfold toD
  split <;> try rfl
  · split <;> rfl
  · split
    · split <;> rfl
    · rfl
theorem toDs_nt : ∀ (vs : List V) (st : St), (toDs st vs).2.1.nt = st.nt
  | [], st => rfl
  | v :: vs, st => (toDs_nt vs _).trans (toD_nt v)
theorem toDss_nt : ∀ (vs : List (List V)) (st : St), (toDss st vs).2.1.nt = st.nt
  | [], st => rfl
  | v :: vs, st => (toDss_nt vs _).trans (toDs_nt v st)

theorem flats_get : ∀ {vs : List V} {fs : List (List V)}, flats vs = some fs → fs.length = vs.length ∧ ∀ (i : Nat) (v : V), vs[i]? = some v → ∃ f, fs[i]? = some f ∧ flatV v = some f
  | [], fs, h => by
    simp only [flats, Option.some.injEq] at h
    subst h
    exact ⟨rfl, fun i v hv => by simp at hv⟩
  | v :: vs, fs, h => by
    simp only [flats, Option.bind_eq_some_iff, Option.map_eq_some_iff] at h
    obtain ⟨x, hx, r, hr, rfl⟩ := h
    obtain ⟨h1, h2⟩ := flats_get hr
    refine ⟨by simp [h1], fun i y hy => ?_⟩
    cases i with
    | zero => simp at hy; subst hy; exact ⟨x, rfl, hx⟩
    | succ i => exact h2 i y (by simpa using hy)

theorem pairs_range : ∀ (l : List (Nat × Value)) (k : Nat), l.map (·.1) = List.range' k l.length → l = ((l.map (·.2)).zipIdx k).map fun x => (x.2, x.1)
  | [], k, _ => rfl
  | (i, v) :: l, k, h => by
    simp only [List.map_cons, List.length_cons, List.range'_succ, List.cons.injEq] at h
    obtain ⟨rfl, h⟩ := h
    have := pairs_range l (i + 1) h
    simp only [List.map_cons, List.zipIdx_cons]
    rw [← this]

theorem buildSlice_sound (h : Rep P C No st a w gh) {o : Oper} {t : TypeId} {len d : Nat} {parts : Array (Nat × Operand)} {K : St → Prop} (ho : o.op = .buildSlice t len parts) (hd : o.dst = some d) (hlt : d < st.nt)
    (hok : ∀ p ∈ parts.toList, (st.ev p.2).ok) (hk : aBuildSlice P C st t len d (parts.toList.map (·.1)) (parts.toList.map fun p => (st.ev p.2).str) K) (hpos : Sized P) : Comes1 P C o a w K := by
  unfold aBuildSlice at hk
  split at hk
  case h_2 => exact hk.elim
  rename_i e fs hel hfl
  obtain ⟨hix, hsz, hz, hsmall, hs, hp, hk⟩ := hk
  replace hsz := lensAre_mem hsz
  have hu := elT_some hel
  have hsp := hpos t e hel
  obtain ⟨i, hi⟩ : ∃ i, P.info? e = some i := by
    cases hq : P.info? e with
    | some i => exact ⟨i, rfl⟩
    | none => unfold szT at hsp; simp [hq] at hsp
  have hsi : i.size = szT P e := by unfold szT; simp [hi]
  obtain ⟨hfl1, hfl2⟩ := flats_get hfl
  have hplen : parts.toList.length = len := by
    have := congrArg List.length hix
    simpa using this
  -- the values
  let vals := parts.toList.map fun p => a.eval p.2
  have hval : ∀ (i : Nat) (p : Nat × Operand), parts.toList[i]? = some p → ∃ f, fs[i]? = some f ∧ (a.eval p.2).cells.size = szT P e ∧ (∀ x ∈ (a.eval p.2).cells, x.oneCell' = true) ∧ ∀ j x, f[j]? = some x → VR P w gh st.ob x ((a.eval p.2).cells.toList.getD j undef) := by
    intro i p hip
    obtain ⟨f, hf, hff⟩ := hfl2 i (st.ev p.2).str (by simp [hip])
    obtain ⟨g1, g2, g3⟩ := flat_sound (h.use p.2 (hok p (List.mem_of_getElem? hip))) hff
    exact ⟨f, hf, by rw [g1]; exact hsz f (List.mem_of_getElem? hf), g2, g3⟩
  have hvs : ∀ v ∈ vals, v.cells.size = szT P e := by
    intro v hv
    obtain ⟨p, hp', rfl⟩ := List.mem_map.1 hv
    obtain ⟨i, hi', rfl⟩ := List.getElem_of_mem hp'
    obtain ⟨f, _, h2, _⟩ := hval i _ (List.getElem?_eq_getElem hi')
    exact h2
  have hvl : vals.length = len := by simp [vals, hplen]
  have hpairs : (parts.map fun (p : Nat × Operand) => (p.1, a.eval p.2)).toList = (vals.zipIdx 0).map fun x => (x.2, x.1) := by
    have := pairs_range (parts.toList.map fun p => (p.1, a.eval p.2)) 0 (by
      rw [List.map_map, List.length_map, hplen, ← List.range_eq_range']
      exact hix)
    rw [List.map_map] at this
    rw [Array.toList_map]
    exact this
  have hrun : (Instr.buildSlice t len (parts.map fun (p : Nat × Operand) => (p.1, a.eval p.2))).run P w = .ok (.slice (some ⟨w.heap.size, 0, none⟩) len len) (w.alloc (.cells (vals.flatMap fun v => v.cells.toList).toArray e)) := by
    by_cases hlen : 0 < len
    · obtain ⟨zc, hz⟩ := Option.isSome_iff_exists.1 (hz hlen)
      obtain ⟨i', z, hi', hzz, _⟩ := zero_info hz
      rw [hi] at hi'; cases hi'
      have hfill := Great.fill_whole hsp vals ((Array.range (len * i.size)).map (z.cells[· % z.cells.size]!)) hvs (by simp [hvl, hsi])
      exact run_buildSlice (P := P) w t e len (parts.map fun (p : Nat × Operand) => (p.1, a.eval p.2)) _ i z hu hi hzz (by rw [hsi]; omega) (by rw [hsi]; exact Nat.mul_ne_zero (by omega) (by omega)) (by rw [hpairs, hsi]; rw [hsi] at hfill; exact hfill)
    · have h0 : len = 0 := by omega
      subst h0
      have hv0 : vals = [] := List.eq_nil_of_length_eq_zero hvl
      have hp0 : (parts.map fun (p : Nat × Operand) => (p.1, a.eval p.2)).toList = [] := by rw [hpairs, hv0]; rfl
      rw [hv0]
      have hp1 : (parts.map fun (p : Nat × Operand) => (p.1, a.eval p.2)) = #[] := Array.toList_inj.1 hp0
      rw [hp1]
      simp [Instr.buildSlice, run_underlying hu, sizeOf, typeInfo, hi, newRow, Instr.fill, show Array.range 0 = #[] from rfl]
  -- what goes in
  obtain ⟨gh1, G, hr, hS, hq, hdl, hdlen, how, hGX, hdis, _⟩ := toDss_sound (uss := vals.map fun v => v.cells.toList) h (fun i' f hf j x hx => by
    have hil : i' < parts.toList.length := by
      have := (List.getElem?_eq_some_iff.1 hf).1
      rw [hfl1, List.length_map] at this; exact this
    obtain ⟨f', hf', _, _, h3⟩ := hval i' _ (List.getElem?_eq_getElem hil)
    rw [hf] at hf'; cases hf'
    have e1 : (vals.map fun v => v.cells.toList).getD i' [] = (a.eval (parts.toList[i'].2)).cells.toList := by
      simp [vals, List.getD, List.getElem?_eq_getElem hil]
    rw [e1]; exact h3 j x hx) hs
  have hfsl : fs.length = len := by rw [hfl1, List.length_map, hplen]
  have hesl : (toDss st fs).2.2.length = len := by rw [hdl, hfsl]
  have hchunk : ∀ l ∈ (toDss st fs).2.2, l.length = szT P e := by
    intro l hl
    obtain ⟨i', hi', rfl⟩ := List.getElem_of_mem hl
    have hif : i' < fs.length := by omega
    obtain ⟨ds, h1, h2⟩ := hdlen i' _ (List.getElem?_eq_getElem hif)
    rw [List.getElem?_eq_getElem hi'] at h1; cases h1
    rw [h2]; exact hsz _ (List.getElem_mem hif)
  have hcl : (vals.flatMap fun v => v.cells.toList).toArray.size = len * szT P e := by
    have := Great.flat_get hsp vals hvs
    have key : ∀ (vs : List Value), (∀ v ∈ vs, v.cells.size = szT P e) → (vs.flatMap fun v => v.cells.toList).length = vs.length * szT P e := by
      intro vs
      induction vs with
      | nil => intro _; simp
      | cons v vs ih =>
        intro hv
        simp only [List.flatMap_cons, List.length_append, List.length_cons, Nat.add_mul, Nat.one_mul, Array.length_toList]
        rw [ih (fun x hx => hv x (List.mem_cons_of_mem _ hx)), hv v List.mem_cons_self]; omega
    simp only [List.size_toArray]
    rw [key vals hvs, hvl]
  have hcell : ∀ i' j, i' < len → j < szT P e → (vals.flatMap fun v => v.cells.toList).getD (i' * szT P e + j) undef = ((vals.map fun v => v.cells.toList).getD i' []).getD j undef := by
    intro i' j hi' hj
    have h0 := Great.flat_get hsp vals hvs (i' * szT P e + j)
    have e1 : (i' * szT P e + j) / szT P e = i' := by rw [Nat.mul_comm, Nat.mul_add_div hsp]; simp [Nat.div_eq_of_lt hj]
    have e2 : (i' * szT P e + j) % szT P e = j := by rw [Nat.mul_comm, Nat.mul_add_mod]; exact Nat.mod_eq_of_lt hj
    rw [e1, e2] at h0
    simp only [List.getD, h0, List.getElem?_map]
    rw [List.getElem?_eq_getElem (by omega)]
    simp
  obtain ⟨gh', hrep, hS', hhv⟩ := hr.madeRow (d := anon d) (cells := (vals.flatMap fun v => v.cells.toList).toArray) (e := e) (es := (toDss st fs).2.2) (G := G) hp (by rw [hcl, hesl]) (by rw [hesl]; unfold maxLen; have := Nat.le_mul_of_pos_right len hsp; omega) hchunk
    (fun x hx => by
      simp only [List.mem_flatMap] at hx
      obtain ⟨v, hv, hx⟩ := hx
      obtain ⟨p, hp', rfl⟩ := List.mem_map.1 hv
      obtain ⟨i', hi', rfl⟩ := List.getElem_of_mem hp'
      obtain ⟨f, _, _, h3, _⟩ := hval i' _ (List.getElem?_eq_getElem hi')
      exact h3 x (by simpa using hx))
    (fun i' j c hc => by
      have hil := cellAt_lt hc
      have hjl := cellAt_len hc hchunk
      rw [hesl] at hil
      have h0 := how i' j c hc
      rw [hS]
      simp only [hcell i' j hil hjl]
      exact h0)
    (fun i' j c k hc hk => Or.inr ⟨i', j, c, hc, hk⟩) hdis
  refine ⟨.value (.slice (some ⟨w.heap.size, 0, none⟩) len len), w.alloc (.cells (vals.flatMap fun v => v.cells.toList).toArray e), ?_, Or.inl ⟨_, rfl, _, gh', hk, ?_⟩⟩
  · simp only [execOp, ho, Sem.run_bind]
    rw [hrun]; rfl
  · rw [hd]
    refine (hrep.less (X' := No) (fun k hk => hk.elim)).set (by simp only [St.fresh, St.put, St.kill]; rw [toDss_nt]; exact hlt) ?_
    exact VR.whole (fresh_look _ (anon d) _) (by rw [hhv, hesl]) (by rw [hesl]; exact Nat.le_refl _)
end
end Go.Proofs.Ytldniggehdpheaa.AW

namespace Go.Proofs.Ytldniggehdpheaa.AW
open Go.RowKit
set_option linter.unusedSimpArgs false
set_option linter.unusedVariables false

def aStore (P : Program) (st : St) (t : TypeId) (pv vv : V) (d : Option Nat) (K : St → Prop) : Prop := match flatV vv with
  | none => False
  | some vs => (toDs st vs).1 ∧ vs.length = szT P t ∧ 0 < szT P t ∧ (match pv with
    | .bp o j => match look (toDs st vs).2.1.ob o with
      | some (.box cs) => j + vs.length ≤ cs.length ∧ ev (b := ⟨K⟩) (setDst ((toDs st vs).2.1.swap o (.box (setL cs j (toDs st vs).2.2))) d .und)
      | _ => False
    | .rp o p i j => match look (toDs st vs).2.1.ob o with
      | some x => match subO x p with
        | some (.row false e es) => look st.ob o = some x ∧ i < es.length ∧ j + vs.length ≤ szT P e ∧ ev (b := ⟨K⟩) (setDst ((toDs st vs).2.1.swap o (setO x p (.row false e (es.set i (setL (es.getD i []) j (toDs st vs).2.2))))) d .und)
        | _ => False
      | none => False
    | _ => False)

section
variable {P : Program} {w w1 : World} {C : Cx} {X : Nat → Prop} {gh : Gh} {st : St} {a : Act} {v : V} {u : Value} {ob : List (Nat × Ob)}

theorem run_storeAt (w : World) (b f : Nat) (t : TypeId) (y : Value) (ht : w.there b f y.cells.size) (hi : szT P t = y.cells.size) (hpos : 0 < szT P t) (h1 : ∀ x ∈ y.cells, x.oneCell' = true) :
    (Instr.storeAt t (.pointer (some ⟨b, f, none⟩)) y).run P w = .ok () (w.setCells b f y.cells.toList) := by
  have := run_storeCells_cells (P := P) b f y.cells.toList 0 w (fun j hj => by simpa using (ht j (by simpa using hj)).1) (fun j hj => by simpa using (ht j (by simpa using hj)).2)
    (fun v hv => h1 v (by simpa using hv))
  simp only [Nat.add_zero] at this
  have hs := run_sizeOf (P := P) hpos w
  rw [hi] at hs
  simp [Instr.storeAt, Instr.sureAddr, storeVar, Sem.run_bind, hs, this]

theorem ObR.up {o : Nat} {x : Ob} {p : List (Nat × Nat)} {e : TypeId} {es : List (List D)} (h : ObR P w gh o x) (hs : subO x p = some (.row false e es)) :
    ∃ v' F', NavO P w gh o x p (.row false e es) v' ∧ Ow P w gh.S (.row false e es) v' F' ∧ (∀ k, F' k → gh.F o k) ∧ (∀ cs k, x = .box cs → F' k → k ≠ gh.bb o) ∧
      ∀ w1 e1 es1 F1, (∀ k, gh.S k → w1.heap[k]? = w.heap[k]?) → (∀ k, gh.F o k → ¬ F' k → w1.heap[k]? = w.heap[k]?) → Ow P w1 gh.S (.row false e1 es1) v' F1 → (∀ k, F1 k → gh.F o k → F' k) →
        ObR P w1 (gh.upd o (gh.hv o) (gh.bb o) (gh.bo o) (fun k => (gh.F o k ∧ ¬ F' k) ∨ F1 k)) o (setO x p (.row false e1 es1)) ∧ (e = e1 → es.length = es1.length → x.like (setO x p (.row false e1 es1))) := by
  cases h with
  | @row e0 es0 h =>
    obtain ⟨v', F', h1, h2, h3, h4⟩ := h.focus (p := p) hs
    refine ⟨v', F', h1, h2, h3, (fun cs k hc => by cases hc), fun w1 e1 es1 F1 hS hF ho hF1 => ?_⟩
    have h5 := h4 w1 (.row false e1 es1) F1 hS hF ho hF1
    cases p with
    | nil =>
      simp only [setD] at h5
      simp only [subO, subD, Option.some.injEq] at hs
      cases hs
      refine ⟨.row (by simpa [Gh.upd, setD] using h5), fun e2 e3 => by simp only [setO, setD, Ob.like]; exact ⟨e2, e3⟩⟩
    | cons ij p =>
      obtain ⟨i, j⟩ := ij
      simp only [setD] at h5
      refine ⟨.row (by simpa [Gh.upd] using h5), fun _ _ => by simp only [setO, setD, Ob.like, length_setCellAt]; exact ⟨trivial, trivial⟩⟩
  | @box cs xs G hb hl h1 hc hx dis nb hF =>
    cases p with
    | nil => simp [subO] at hs
    | cons ij p =>
      obtain ⟨i, j⟩ := ij
      simp only [subO, Option.bind_eq_some_iff] at hs
      obtain ⟨d, hd, hs⟩ := hs
      obtain ⟨v', F', h1', h2', h3', h4'⟩ := (hx j d hd).focus hs
      have hjl := (List.getElem?_eq_some_iff.1 hd).1
      have hj : j < xs.length := by omega
      obtain ⟨g1, g2, g3⟩ : True ∧ True ∧ True := ⟨trivial, trivial, trivial⟩
      refine ⟨v', F', ⟨d, _, hd, (hc j hj).trans (getD_of_lt hj), h1'⟩, h2', fun k hk => (hF k).2 (Or.inr ⟨j, d, hd, h3' k hk⟩), fun _ k _ hk => nb j d k hd (h3' k hk), fun w1 e1 es1 F1 hS hFF ho hF1 => ⟨?_, fun _ _ => by simp [setO, Ob.like]⟩⟩
      have hbF : ¬ F' (gh.bb o) := fun hk => nb j d _ hd (h3' _ hk) rfl
      have hbF1 : ¬ F1 (gh.bb o) := fun hk => hbF (hF1 _ hk ((hF _).2 (Or.inl rfl)))
      have hblk : w1.heap[gh.bb o]? = w.heap[gh.bb o]? := hFF _ ((hF _).2 (Or.inl rfl)) hbF
      have hin := h4' w1 (.row false e1 es1) F1 hS (fun k hk hk' => hFF k ((hF k).2 (Or.inr ⟨j, d, hd, hk⟩)) hk') ho (fun k hk hk' => hF1 k hk ((hF k).2 (Or.inr ⟨j, d, hd, hk'⟩)))
      have e0 : cs.getD j .dead = d := by simp [List.getD, hd]
      simp only [setO, e0]
      let G1 : Nat → Nat → Prop := fun j' k => if j' = j then ((G j k ∧ ¬ F' k) ∨ F1 k) else G j' k
      have far : ∀ j' c k, j' ≠ j → cs[j']? = some c → G j' k → ¬ F' k := fun j' c k hne hc' hk hk' => hne (dis j' j c d k hc' hd hk (h3' k hk'))
      refine .box xs G1 ?_ (by simpa using hl) h1 (fun j' hj' => ?_) (fun j' c hc' => ?_) (fun j1 j2 c1 c2 k hc1 hc2 hk1 hk2 => ?_) (fun j' c k hc' hk => ?_) (fun k => ?_)
      · obtain ⟨cur, ty, hb⟩ := hb
        exact ⟨cur, ty, by simp only [Gh.upd, if_true]; rw [hblk]; exact hb⟩
      · simp only [Gh.upd, if_true]
        exact (cell_same (x := ⟨gh.bb o, _, none⟩) hblk).trans (hc j' hj')
      · by_cases e' : j' = j
        · subst e'
          rw [List.getElem?_set_self hjl] at hc'; cases hc'
          exact hin.congr fun k => by simp only [G1]; rw [if_pos trivial]
        · rw [List.getElem?_set_ne (fun e => e' e.symm)] at hc'
          refine ((hx j' c hc').move (fun k hk => hFF k ((hF k).2 (Or.inr ⟨j', c, hc', hk⟩)) (far j' c k e' hc' hk)) hS).congr fun k => by simp only [G1]; rw [if_neg e']
      · simp only [G1] at hk1 hk2
        have clash : ∀ j' c, j' ≠ j → cs[j']? = some c → G j' k → ((G j k ∧ ¬ F' k) ∨ F1 k) → False := fun j' c hne hc' hk hor => by
          rcases hor with ⟨h, _⟩ | h
          · exact hne (dis j' j c d k hc' hd hk h)
          · exact far j' c k hne hc' hk (hF1 k h ((hF k).2 (Or.inr ⟨j', c, hc', hk⟩)))
        by_cases e1' : j1 = j <;> by_cases e2' : j2 = j
        · omega
        · rw [if_pos e1'] at hk1; rw [if_neg e2'] at hk2
          rw [List.getElem?_set_ne (fun e => e2' e.symm)] at hc2
          exact (clash j2 c2 e2' hc2 hk2 hk1).elim
        · rw [if_neg e1'] at hk1; rw [if_pos e2'] at hk2
          rw [List.getElem?_set_ne (fun e => e1' e.symm)] at hc1
          exact (clash j1 c1 e1' hc1 hk1 hk2).elim
        · rw [if_neg e1'] at hk1; rw [if_neg e2'] at hk2
          rw [List.getElem?_set_ne (fun e => e1' e.symm)] at hc1
          rw [List.getElem?_set_ne (fun e => e2' e.symm)] at hc2
          exact dis j1 j2 c1 c2 k hc1 hc2 hk1 hk2
      · simp only [G1] at hk
        simp only [Gh.upd, if_true]
        by_cases e' : j' = j
        · rw [if_pos e'] at hk
          rcases hk with ⟨hk, _⟩ | hk
          · exact nb j d k hd hk
          · rintro rfl; exact hbF1 hk
        · rw [if_neg e'] at hk
          rw [List.getElem?_set_ne (fun e => e' e.symm)] at hc'
          exact nb j' c k hc' hk
      · simp only [Gh.upd, if_true]
        constructor
        · rintro (⟨hk, hn⟩ | hk)
          · rcases (hF k).1 hk with hk | ⟨j', c, hc', hk⟩
            · exact Or.inl hk
            · by_cases e' : j' = j
              · subst e'
                exact Or.inr ⟨j', _, List.getElem?_set_self hjl, by simp only [G1]; rw [if_pos trivial]; exact Or.inl ⟨hk, hn⟩⟩
              · exact Or.inr ⟨j', c, by rw [List.getElem?_set_ne (fun e => e' e.symm)]; exact hc', by simp only [G1]; rw [if_neg e']; exact hk⟩
          · exact Or.inr ⟨j, _, List.getElem?_set_self hjl, by simp only [G1]; rw [if_pos trivial]; exact Or.inr hk⟩
        · rintro (rfl | ⟨j', c, hc', hk⟩)
          · exact Or.inl ⟨(hF _).2 (Or.inl rfl), hbF⟩
          · simp only [G1] at hk
            by_cases e' : j' = j
            · rw [if_pos e'] at hk
              rcases hk with ⟨hk, hn⟩ | hk
              · exact Or.inl ⟨(hF k).2 (Or.inr ⟨j, d, hd, hk⟩), hn⟩
              · exact Or.inr hk
            · rw [if_neg e'] at hk
              rw [List.getElem?_set_ne (fun e => e' e.symm)] at hc'
              exact Or.inl ⟨(hF k).2 (Or.inr ⟨j', c, hc', hk⟩), far j' c k e' hc' hk⟩

theorem frozen_of_cells {b f : Nat} {cs : Array Value} {T : TypeId} (hb : w.heap[b]? = some (.cells cs T (0, 0))) : w.frozen? ⟨b, f, none⟩ = false := by
  simp [World.frozen?, hb]

theorem setCells_cells (g : Nat) {t : TypeId} : ∀ (us : List Value) (o : Nat) (w : World), (∃ cur, w.heap[g]? = some (.cells cur t (0, 0))) → ∃ cur, (w.setCells g o us).heap[g]? = some (.cells cur t (0, 0))
  | [], o, w, h => h
  | u :: us, o, w, ⟨cur, h⟩ => setCells_cells g us (o + 1) _ ⟨cur.setIfInBounds o u, by simp [World.setCell, Array.getElem?_modify, h]⟩

theorem ObR.storeBox {o j : Nat} {cs : List D} {ds : List D} {us : List Value} {G : Nat → Nat → Prop} (h : ObR P w gh o (.box cs)) (hj : j + ds.length ≤ cs.length) (hl : us.length = ds.length) (h1u : ∀ u ∈ us, u.oneCell' = true)
    (hd : ∀ q d, ds[q]? = some d → Ow P w gh.S d (us.getD q undef) (G q)) (hG : ∀ q q' k, q < ds.length → q' < ds.length → G q k → G q' k → q = q') (hGF : ∀ q k, q < ds.length → G q k → ¬ gh.F o k) (hSF : ∀ k, gh.F o k → ¬ gh.S k) :
    ∃ F1, ObR P (w.setCells (gh.bb o) (gh.bo o + j) us) (gh.upd o (gh.hv o) (gh.bb o) (gh.bo o) F1) o (.box (setL cs j ds)) ∧ (∀ k, F1 k → gh.F o k ∨ ∃ q, q < ds.length ∧ G q k) ∧ gh.F o (gh.bb o) ∧ w.there (gh.bb o) (gh.bo o + j) us.length := by
  cases h with
  | box xs H hb hl' h1 hc hx dis nb hF =>
    have hbF : gh.F o (gh.bb o) := (hF _).2 (Or.inl rfl)
    obtain ⟨cur, ty, hb⟩ := hb
    have hfz : ∀ f, w.frozen? ⟨gh.bb o, f, none⟩ = false := fun f => frozen_of_cells hb
    have hth : w.there (gh.bb o) (gh.bo o + j) us.length := fun q hq => by
      refine ⟨?_, hfz _⟩
      rw [Nat.add_assoc, hc _ (by omega), List.getElem?_eq_getElem (by omega)]; rfl
    let H1 : Nat → Nat → Prop := fun j' k => if j ≤ j' ∧ j' < j + ds.length then G (j' - j) k else H j' k
    have far : ∀ j' d k, cs[j']? = some d → H j' k → gh.F o k := fun j' d k hd' hk => (hF k).2 (Or.inr ⟨j', d, hd', hk⟩)
    refine ⟨fun k => k = gh.bb o ∨ ∃ j' d, (setL cs j ds)[j']? = some d ∧ H1 j' k, ?_, ?_, hbF, hth⟩
    · refine .box (setL xs j us) H1 ?_ (by rw [setL_length, setL_length, hl']) ?_ ?_ ?_ ?_ ?_ ?_
      · simp only [Gh.upd, if_true]
        obtain ⟨cur', hcur⟩ := setCells_cells (gh.bb o) us (gh.bo o + j) w ⟨cur, hb⟩
        exact ⟨cur', ty, hcur⟩
      · intro u hu
        obtain ⟨k, hk, rfl⟩ := List.getElem_of_mem hu
        have := setL_get us xs j k
        rw [List.getElem?_eq_getElem hk] at this
        split at this
        · exact h1u _ (List.mem_of_getElem? this.symm)
        · exact h1 _ (List.mem_of_getElem? this.symm)
      · intro j' hj'
        simp only [Gh.upd, if_true]
        rw [setL_length] at hj'
        rw [setL_get]
        by_cases e : j ≤ j' ∧ j' < j + us.length
        · rw [if_pos ⟨e.1, e.2, hj'⟩]
          have := World.cell?_setCells_in (gh.bb o) us (gh.bo o + j) w (fun q hq => (hth q hq).1) (j' - j) (by omega)
          rw [show gh.bo o + j + (j' - j) = gh.bo o + j' by omega] at this
          rw [this, List.getElem?_eq_getElem (by omega)]
        · rw [if_neg (by omega), ← hc j' hj']
          exact World.cell?_setCells_out (gh.bb o) us (gh.bo o + j) w _ (fun _ _ => by simp only; omega)
      · intro j' d hd'
        rw [setL_get] at hd'
        rw [toArr_getD, setL_get]
        have hjl : j' < cs.length := by
          split at hd'
          · rename_i hh; omega
          · exact (List.getElem?_eq_some_iff.1 hd').1
        by_cases e : j ≤ j' ∧ j' < j + ds.length
        · rw [if_pos ⟨e.1, e.2, hjl⟩] at hd'
          rw [if_pos ⟨e.1, by omega, by omega⟩, ← toArr_getD]
          refine Ow.congr (F := G (j' - j)) ?_ (fun k => by simp only [H1]; rw [if_pos e])
          refine (hd _ d hd').move (fun k hk => setCells_heap (gh.bb o) us _ w k ?_) (fun k hk => setCells_heap (gh.bb o) us _ w k ?_)
          · rintro rfl; exact hGF _ _ (by omega) hk hbF
          · rintro rfl; exact hSF _ hbF hk
        · rw [if_neg (by omega)] at hd'
          rw [if_neg (by omega), ← toArr_getD]
          refine Ow.congr (F := H j') ?_ (fun k => by simp only [H1]; rw [if_neg e])
          refine (hx j' d hd').move (fun k hk => setCells_heap (gh.bb o) us _ w k ?_) (fun k hk => setCells_heap (gh.bb o) us _ w k ?_)
          · rintro rfl; exact nb _ _ _ hd' hk rfl
          · rintro rfl; exact hSF _ hbF hk
      · intro j1 j2 d1 d2 k hd1 hd2 hk1 hk2
        rw [setL_get] at hd1 hd2
        simp only [H1] at hk1 hk2
        by_cases c1 : j ≤ j1 ∧ j1 < j + ds.length <;> by_cases c2 : j ≤ j2 ∧ j2 < j + ds.length
        · rw [if_pos c1] at hk1; rw [if_pos c2] at hk2
          have := hG _ _ k (by omega) (by omega) hk1 hk2
          omega
        · rw [if_pos c1] at hk1; rw [if_neg c2] at hk2; rw [if_neg (by omega)] at hd2
          exact absurd (far j2 d2 k hd2 hk2) (hGF _ k (by omega) hk1)
        · rw [if_neg c1] at hk1; rw [if_neg (by omega)] at hd1; rw [if_pos c2] at hk2
          exact absurd (far j1 d1 k hd1 hk1) (hGF _ k (by omega) hk2)
        · rw [if_neg c1] at hk1; rw [if_neg (by omega)] at hd1; rw [if_neg c2] at hk2; rw [if_neg (by omega)] at hd2
          exact dis j1 j2 d1 d2 k hd1 hd2 hk1 hk2
      · intro j' d k hd' hk
        simp only [Gh.upd, if_true]
        rw [setL_get] at hd'
        simp only [H1] at hk
        by_cases c1 : j ≤ j' ∧ j' < j + ds.length
        · rw [if_pos c1] at hk; rintro rfl; exact hGF _ _ (by omega) hk hbF
        · rw [if_neg c1] at hk; rw [if_neg (by omega)] at hd'; exact nb _ _ _ hd' hk
      · intro k; simp only [Gh.upd, if_true]
    · rintro k (rfl | ⟨j', d, hd', hk⟩)
      · exact Or.inl hbF
      · rw [setL_get] at hd'
        simp only [H1] at hk
        by_cases c1 : j ≤ j' ∧ j' < j + ds.length
        · rw [if_pos c1] at hk; exact Or.inr ⟨_, by omega, hk⟩
        · rw [if_neg c1] at hk; rw [if_neg (by omega)] at hd'; exact Or.inl (far _ _ _ hd' hk)
end
end Go.Proofs.Ytldniggehdpheaa.AW

namespace Go.Proofs.Ytldniggehdpheaa.AW
open Go.RowKit
set_option linter.unusedSimpArgs false
set_option linter.unusedVariables false

section
variable {P : Program} {w w1 : World} {C : Cx} {X : Nat → Prop} {gh : Gh} {st : St} {a : Act} {v : V} {u : Value} {ob : List (Nat × Ob)}

theorem Rep.dst (h : Rep P C X st a w gh) {d : Option Nat} (hlt : ∀ k, d = some k → k < st.nt) (hv : VR P w gh st.ob v u) : Rep P C X (setDst st d v) (a.put d u) w gh := by
  cases d with
  | none => exact h
  | some d => exact h.set (hlt d rfl) hv

theorem setL_nil {α : Type} (xs : List α) (o : Nat) : setL xs o [] = xs := rfl

theorem store_sound (h : Rep P C No st a w gh) {o : Oper} {t : TypeId} {x y : Operand} {K : St → Prop} (ho : o.op = .store t x y) (hlt : ∀ k, o.dst = some k → k < st.nt) (hox : (st.ev x).ok) (hoy : (st.ev y).ok)
    (hk : aStore P st t (st.ev x).str (st.ev y).str o.dst K) : Comes1 P C o a w K := by
  unfold aStore at hk
  split at hk
  case h_1 => exact hk.elim
  rename_i vs hf
  obtain ⟨hs, hlen, hpos, hk⟩ := hk
  obtain ⟨hsz, h1, hv⟩ := flat_sound (h.use y hoy) hf
  obtain ⟨gh1, G, hr, hS, hq, hl, how, hG, hd1, _⟩ := toDs_sound h hv hs
  have hp := h.use x hox
  have hcl : (a.eval y).cells.toList.length = (toDs st vs).2.2.length := by rw [hl]; simpa using hsz
  have h1' : ∀ u ∈ (a.eval y).cells.toList, u.oneCell' = true := fun u hu => h1 u (by simpa using hu)
  have hGn : ∀ q k o' b', q < (toDs st vs).2.2.length → G q k → look (toDs st vs).2.1.ob o' = some b' → ¬ gh1.F o' k := fun q k o' b' hq hk hb hF => hr.xF o' b' k hb (Or.inr ⟨q, by omega, hk⟩) hF
  have how' : ∀ q d, (toDs st vs).2.2[q]? = some d → Ow P w gh1.S d ((a.eval y).cells.toList.getD q undef) (G q) := fun q d hd => by rw [hS]; exact how q d hd
  have hGG : ∀ q q' k, q < (toDs st vs).2.2.length → q' < (toDs st vs).2.2.length → G q k → G q' k → q = q' := fun q q' k h1 h2 => hd1 q q' k (by omega) (by omega)
  have fin : ∀ (ob' : Nat) (x x' : Ob) (b f : Nat) (F1 : Nat → Prop), look (toDs st vs).2.1.ob ob' = some x → x.like x' → gh1.F ob' b → w.there b f (a.eval y).cells.size →
      (∀ q, q < (a.eval y).cells.size → C.w0.heap.size ≤ b ∨ C.may b (f + q)) →
      ObR P (w.setCells b f (a.eval y).cells.toList) (gh1.upd ob' (gh1.hv ob') (gh1.bb ob') (gh1.bo ob') F1) ob' x' → (∀ k, F1 k → gh1.F ob' k ∨ ∃ q, q < (toDs st vs).2.2.length ∧ G q k) →
      (∃ z, z = Value.pointer (some ⟨b, f, none⟩) ∧ z = a.eval (match o.op with | .store _ p _ => p | _ => .const undef)) → K (setDst ((toDs st vs).2.1.swap ob' x') o.dst .und) → Comes1 P C o a w K := by
    intro ob' x0 x' b f F1 hx0 hlk hbF hth hmay hobr hF1 hz hK
    obtain ⟨z, rfl, hz⟩ := hz
    rw [ho] at hz
    simp only at hz
    have hne : ∀ k, k ≠ b → (w.setCells b f (a.eval y).cells.toList).heap[k]? = w.heap[k]? := fun k hk => setCells_heap b _ _ w k hk
    have hr2 := hr.swap (w1 := w.setCells b f (a.eval y).cells.toList) (F := F1) (X' := No) hx0 hlk (by rw [setCells_size]; exact Nat.le_refl _) (fun o' y' k hne' hy hk => hne k (fun e => by
      subst e; exact hne' (hr.dis o' ob' y' x0 _ hy hx0 hk hbF)))
      (fun k hk => hne k (fun e => by subst e; exact hr.nS ob' x0 _ hx0 hbF hk))
      (World.keptBut_setCells b _ _ w (fun q hq => ⟨b, f + q, rfl, hmay q (by simpa using hq)⟩)) hobr (fun k hk => (hF1 k hk).imp id (fun ⟨q, hq, hk⟩ => Or.inr ⟨q, by omega, hk⟩)) (fun k hk => hk.elim) (fun _ _ _ hk => hk.elim)
    refine ⟨.skip, w.setCells b f (a.eval y).cells.toList, ?_, Or.inr ⟨rfl, _, _, hK, hr2.dst (fun k hk => ?_) .und⟩⟩
    · simp only [execOp, ho, ← hz]
      have := run_storeAt (P := P) w b f t (a.eval y) hth (by rw [hsz, hlen]) hpos h1
      simp [Sem.run_bind, this]
    · have := hlt k hk
      simp only [St.swap]; rw [toDs_nt]; exact this
  split at hk
  · rename_i o1 j hpv
    split at hk
    case h_2 => exact hk.elim
    rename_i cs hcs
    obtain ⟨hj, hk⟩ := hk
    have hpv' : a.eval x = .pointer (some ⟨gh1.bb o1, gh1.bo o1 + j, none⟩) := by
      rw [hpv] at hp
      generalize a.eval x = z at hp
      cases hp with
      | bp hx => rw [hq.2.1, hq.2.2]
    obtain ⟨F1, g1, g2, g3, g4⟩ := (hr.obs o1 _ hcs).storeBox (ds := (toDs st vs).2.2) (j := j) (G := G) (by omega) hcl h1' how' hGG (fun q k hq hk => hGn q k o1 _ hq hk hcs) (fun k hk => hr.nS o1 _ k hcs hk)
    refine fin o1 _ _ _ _ F1 hcs (by simp [Ob.like, setL_length]) g3 (by simpa using g4) (fun q hq => ?_) g1 g2 ⟨_, rfl, by rw [ho]; exact hpv'.symm⟩ hk
    rw [Nat.add_assoc]
    exact hr.wrC o1 cs (j + q) hcs (by omega)
  · rename_i o1 p i j hpv
    split at hk
    case h_2 => exact hk.elim
    rename_i x1 hx1
    split at hk
    case h_2 => exact hk.elim
    rename_i e es hsub
    obtain ⟨hst, hi, hj, hk⟩ := hk
    obtain ⟨v', F', n1, n2, n3, n4, n5⟩ := (hr.obs o1 _ hx1).up hsub
    have hpv' : ∃ ad c, v' = .slice (some ad) es.length c ∧ a.eval x = .pointer (some ⟨ad.block, ad.off + (i * szT P e + j), none⟩) := by
      rw [hpv] at hp
      generalize a.eval x = z at hp
      cases hp with
      | rp hx hn =>
        rw [hst] at hx; cases hx
        obtain ⟨e1, e2⟩ := (hn.ghc hq.1 hq.2.1 hq.2.2).fn n1
        cases e1
        exact ⟨_, _, e2.symm, rfl⟩
    obtain ⟨ad, c, rfl, hpv'⟩ := hpv'
    obtain ⟨F1, s1, s2, s3, s4, s5⟩ := n2.store (g := 0) (ds := (toDs st vs).2.2) (j := j) (G := G) hi (by omega) hcl h1' how' hGG (fun q k hq hk hF => hGn q k o1 _ hq hk hx1 (n3 k hF)) (fun k hk => hr.nS o1 _ k hx1 (n3 k hk))
    have hu := n5 (w.setCells ad.block (ad.off + (i * szT P e + j)) (a.eval y).cells.toList) e _ F1 (fun k hk => setCells_heap _ _ _ w k (fun e' => by subst e'; exact hr.nS o1 _ _ hx1 (n3 _ s3) hk))
      (fun k hk hk' => setCells_heap _ _ _ w k (fun e' => by subst e'; exact hk' s3)) s1 (fun k hk hF => (s2 k hk).elim id (fun ⟨q, hq, hG'⟩ => (hGn q k o1 _ hq hG' hx1 hF).elim))
    refine fin o1 _ _ _ _ _ hx1 (hu.2 rfl (by simp)) (n3 _ s3) (by simpa using s5 0 (by omega)) (fun q hq => ?_) hu.1 (fun k hk => ?_) ⟨_, rfl, by rw [ho]; exact hpv'.symm⟩ hk
    · have : C.w0.heap.size ≤ ad.block ∨ ∀ f, C.may ad.block f := by
        cases x1 with
        | row e' es' => exact hr.wrR o1 e' es' _ hx1 (n3 _ s3)
        | box cs' => exact hr.wrB o1 cs' _ hx1 (n3 _ s3) (n4 cs' _ rfl s3)
      exact this.imp id (fun hh => hh _)
    · rcases hk with ⟨hk, _⟩ | hk
      · exact Or.inl hk
      · exact (s2 k hk).imp (n3 k) id
  · exact hk.elim
end
end Go.Proofs.Ytldniggehdpheaa.AW

namespace Go.Proofs.Ytldniggehdpheaa.AW
open Go.RowKit
set_option linter.unusedSimpArgs false
set_option linter.unusedVariables false

/-- A row's elements; a nil row has none. -/
def rowsD : D → Option (Option TypeId × List (List D))
  | .row _ e es => some (some e, es)
  | .sc (.slice none 0 0) => some (none, [])
  | _ => none

def ownD : D → Bool
  | .row false _ _ => true
  | .sc (.slice none 0 0) => true
  | _ => false

/-- What holds nothing of its own. -/
def freeD : D → Bool
  | .sc _ => true
  | .row true _ _ => true
  | .dead => true
  | _ => false

/-- What is added stays where it is. -/
def stays (v : V) (fs : List (List D)) : Bool := match v with
  | .ref o _ _ => !isAnon o && fs.all (·.all freeD)
  | .imm .. => true
  | _ => false

def aAppend (P : Program) (C : Cx) (st : St) (t : TypeId) (d : Nat) (x y : V) (K : St → Prop) : Prop :=
  (toD st x).1 ∧ (toD (toD st x).2.1 y).1 ∧ ownD (toD st x).2.2 = true ∧ match elT P t, rowsD (toD st x).2.2, rowsD (toD (toD st x).2.1 y).2.2 with
    | some e, some (e1, es), some (e2, fs) => (∀ z, e1 = some z → z = e) ∧ (∀ z, e2 = some z → z = e) ∧ (match y with | .imm .. => fs.all (·.all freeD) = true | _ => True) ∧ (zeroCells P e).map (·.length) = some (szT P e) ∧ es.length + fs.length ≤ 140737488355328 ∧ (es.length + fs.length) * bytesT P e ≤ 140737488355328 ∧ C.pin (anon d) = none ∧
      ev (b := ⟨K⟩) (((bif stays y fs then (toD st x).2.1 else (toD (toD st x).2.1 y).2.1).fresh (anon d) (.row e (es ++ fs))).set d (.ref (anon d) [] (es.length + fs.length)))
    | _, _, _ => False

section
variable {P : Program} {w w1 : World} {C : Cx} {X : Nat → Prop} {gh : Gh} {st : St} {a : Act} {v : V} {u : Value} {ob : List (Nat × Ob)} {S : Nat → Prop}

theorem append_none (w : World) {t ty e : TypeId} {i : TypeInfo} (ht : P.underlying t = some (.slice e)) (hi : P.info? e = some i) {A : Option Addr} {n cap c : Nat} (hle : n ≤ cap) :
    (Builtin.append_ #[t, t] ty #[.slice A n cap, .slice none 0 c]).run P w = .ok (.slice A n cap) w := by
  cases A with
  | none => simp [Builtin.append_, run_underlying ht, sizeOf, typeInfo, hi, Builtin.lenOf, Builtin.firstCells, hle]
  | some ad => simp [Builtin.append_, run_underlying ht, sizeOf, typeInfo, hi, Builtin.lenOf, Builtin.firstCells, hle, storeCells]

theorem free_none {d : D} {F : Nat → Prop} (hf : freeD d = true) (h : Ow P w S d u F) : ∀ k, ¬ F k := by
  cases h with
  | dead => exact fun _ h => h
  | sc => exact fun _ h => h
  | shared => exact fun _ h => h
  | row => simp [freeD] at hf

/-- A row that is one's own, whole, or none. -/
theorem own_row {d : D} {F : Nat → Prop} {e : TypeId} {e1 : Option TypeId} {es : List (List D)} (hpos : 0 < szT P e) (h : Ow P w S d u F) (ho : ownD d = true) (hr : rowsD d = some (e1, es)) (he : ∀ z, e1 = some z → z = e) :
    ∃ (xs : List Value) (H : Nat → Nat → Nat → Prop), w.ownsRow 0 e (szT P e) u es.length xs ∧ (∀ l ∈ es, l.length = szT P e) ∧ (∀ u ∈ xs, u.oneCell' = true) ∧ (∀ i j d, cellAt es i j = some d → Ow P w S d (xs.getD (i * szT P e + j) undef) (H i j)) ∧
      (∀ i j i' j' d d' k, cellAt es i j = some d → cellAt es i' j' = some d' → H i j k → H i' j' k → i = i' ∧ j = j') ∧ (∀ i j d k, cellAt es i j = some d → H i j k → u.ownBlock ≠ some k) ∧ (∀ k, F k ↔ (u.ownBlock = some k ∨ ∃ i j d, cellAt es i j = some d ∧ H i j k)) := by
  cases h with
  | dead => simp [ownD] at ho
  | @sc u h =>
    have e0 : u = .slice none 0 0 ∧ es = [] := by
      unfold rowsD at hr
      split at hr
      · rename_i heq; cases heq
      · rename_i heq; cases heq; simp at hr; exact ⟨rfl, hr.2⟩
      · cases hr
    obtain ⟨rfl, rfl⟩ := e0
    exact ⟨[], fun _ _ _ => False, World.ownsRow_nil w 0 e (szT P e), by simp, by simp, fun i j d hd => by simp [cellAt] at hd, fun i j i' j' d d' k hd => by simp [cellAt] at hd, fun i j d k hd => by simp [cellAt] at hd, fun k => by simp [Value.ownBlock, cellAt]⟩
  | shared => simp [ownD] at ho
  | row xs H own hsz h1 hx dis nb =>
    simp only [rowsD, Option.some.injEq, Prod.mk.injEq] at hr
    obtain ⟨rfl, rfl⟩ := hr
    cases he _ rfl
    exact ⟨xs, H, own, hsz, h1, hx, dis, nb, fun k => Iff.rfl⟩

/-- The elements of a row, be it one's own or not. -/
theorem elems_row {d : D} {F : Nat → Prop} {e : TypeId} {e1 : Option TypeId} {es : List (List D)} (hpos : 0 < szT P e) (h : Ow P w S d u F) (hr : rowsD d = some (e1, es)) (he : ∀ z, e1 = some z → z = e) (hf : (∃ e', d = .row true e' es) → es.all (·.all freeD) = true) :
    ∃ (A : Option Addr) (c : Nat) (xs : List Value) (H : Nat → Nat → Nat → Prop), u = .slice A es.length c ∧ xs.length = es.length * szT P e ∧ (0 < es.length → ∃ ad, A = some ad ∧ ∀ j y, xs[j]? = some y → w.cell? (ad.add j) = some y) ∧ (∀ l ∈ es, l.length = szT P e) ∧ (∀ u ∈ xs, u.oneCell' = true) ∧
      (∀ i j d, cellAt es i j = some d → Ow P w S d (xs.getD (i * szT P e + j) undef) (H i j)) ∧
      (∀ i j i' j' d d' k, cellAt es i j = some d → cellAt es i' j' = some d' → H i j k → H i' j' k → i = i' ∧ j = j') ∧ (∀ i j d k, cellAt es i j = some d → H i j k → F k) := by
  have hnil : es = [] → ∀ c, u = .slice none 0 c → ∃ (A : Option Addr) (c : Nat) (xs : List Value) (H : Nat → Nat → Nat → Prop), u = .slice A es.length c ∧ xs.length = es.length * szT P e ∧ (0 < es.length → ∃ ad, A = some ad ∧ ∀ j y, xs[j]? = some y → w.cell? (ad.add j) = some y) ∧ (∀ l ∈ es, l.length = szT P e) ∧ (∀ u ∈ xs, u.oneCell' = true) ∧
      (∀ i j d, cellAt es i j = some d → Ow P w S d (xs.getD (i * szT P e + j) undef) (H i j)) ∧
      (∀ i j i' j' d d' k, cellAt es i j = some d → cellAt es i' j' = some d' → H i j k → H i' j' k → i = i' ∧ j = j') ∧ (∀ i j d k, cellAt es i j = some d → H i j k → F k) := by
    rintro rfl c rfl
    exact ⟨none, c, [], fun _ _ _ => False, rfl, by simp, by simp, by simp, by simp, fun i j d hd => by simp [cellAt] at hd, fun i j i' j' d d' k hd => by simp [cellAt] at hd, fun i j d k hd => by simp [cellAt] at hd⟩
  cases h with
  | dead => simp [rowsD] at hr
  | @sc u h =>
    unfold rowsD at hr
    split at hr
    · rename_i heq; cases heq
    · rename_i heq; cases heq; simp at hr; exact hnil hr.2 0 rfl
    · cases hr
  | @shared e' es' _ h =>
    simp only [rowsD, Option.some.injEq, Prod.mk.injEq] at hr
    obtain ⟨rfl, rfl⟩ := hr
    cases he _ rfl
    have hall := hf ⟨_, rfl⟩
    cases h with
    | @row _ _ _ A c U hl hm hsz hA hU =>
      by_cases h0 : 0 < es'.length
      · obtain ⟨ad, rfl, hsp, hS, hc⟩ := hA h0
        have hce : ∀ k, k < es'.length * szT P e → ∃ d, cellAt es' (k / szT P e) (k % szT P e) = some d := fun k hk => by
          have h1 : k / szT P e < es'.length := (Nat.div_lt_iff_lt_mul hpos).2 hk
          have h2 := Nat.mod_lt k hpos
          have h3 := hsz _ (List.getElem_mem h1)
          exact ⟨(es'[k / szT P e])[k % szT P e], by unfold cellAt; rw [List.getElem?_eq_getElem h1, Option.bind_some, List.getElem?_eq_getElem (by omega)]⟩
        let xs := (List.range (es'.length * szT P e)).map fun k => U (k / szT P e) (k % szT P e)
        have hxs : ∀ k, k < es'.length * szT P e → xs[k]? = some (U (k / szT P e) (k % szT P e)) := fun k hk => by simp [xs, hk]
        have hxl : xs.length = es'.length * szT P e := by simp [xs]
        have hco : ∀ i j d, cellAt es' i j = some d → xs.getD (i * szT P e + j) undef = U i j := fun i j d hd => by
          have hlt := off_lt (cellAt_lt hd) (cellAt_len hd hsz)
          have hj := cellAt_len hd hsz
          have e1 : (i * szT P e + j) / szT P e = i := by rw [Nat.mul_comm, Nat.mul_add_div hpos]; simp [Nat.div_eq_of_lt hj]
          have e2 : (i * szT P e + j) % szT P e = j := by rw [Nat.mul_comm, Nat.mul_add_mod]; exact Nat.mod_eq_of_lt hj
          rw [toArr_getD, hxs _ hlt, e1, e2]; rfl
        refine ⟨some ad, c, xs, fun _ _ _ => False, rfl, hxl, fun _ => ⟨ad, rfl, fun j y hy => ?_⟩, hsz, fun y hy => ?_, fun i j d hd => ?_, fun _ _ _ _ _ _ _ _ _ hk => hk.elim, fun _ _ _ _ _ hk => hk.elim⟩
        · have hj : j < es'.length * szT P e := by rw [← hxl]; exact (List.getElem?_eq_some_iff.1 hy).1
          rw [hxs j hj] at hy; cases hy
          obtain ⟨d, hd⟩ := hce j hj
          have := hc _ _ d hd
          have e1 : j / szT P e * szT P e + j % szT P e = j := by rw [Nat.mul_comm]; exact Nat.div_add_mod j _
          rw [e1] at this
          obtain ⟨b, f, s⟩ := ad
          simp only at hsp; subst hsp
          by_cases hj0 : j = 0
          · subst hj0; simpa [Addr.add] using this
          · simpa [Addr.add, hj0] using this
        · obtain ⟨j, hj, rfl⟩ := List.getElem_of_mem hy
          rw [hxl] at hj
          obtain ⟨d, hd⟩ := hce j hj
          have := (hU _ _ d hd).one
          simpa [xs] using this
        · rw [hco i j d hd]
          have hfr : freeD d = true := by
            have hi := cellAt_lt hd
            unfold cellAt at hd
            rw [List.getElem?_eq_getElem hi, Option.bind_some] at hd
            exact List.all_eq_true.1 (List.all_eq_true.1 hall _ (List.getElem_mem hi)) _ (List.mem_of_getElem? hd)
          have hro := hU i j d hd
          revert hro
          generalize U i j = uu
          intro hro
          cases hro with
          | dead h => exact .dead h
          | sc h => exact .sc h
          | row U hl hm hsz hA hU =>
            rename_i sh _ _ _ _
            cases sh with
            | true => exact .shared (.row U hl hm hsz hA hU)
            | false => simp [freeD] at hfr
      · have : es' = [] := List.eq_nil_of_length_eq_zero (by omega)
        subst this
        exact ⟨A, c, [], fun _ _ _ => False, rfl, by simp, by simp, by simp, by simp, fun i j d hd => by simp [cellAt] at hd, fun i j i' j' d d' k hd => by simp [cellAt] at hd, fun i j d k hd => by simp [cellAt] at hd⟩
  | row xs H own hsz h1 hx dis nb =>
    simp only [rowsD, Option.some.injEq, Prod.mk.injEq] at hr
    obtain ⟨rfl, rfl⟩ := hr
    cases he _ rfl
    rcases own.2 with ⟨hv, hn⟩ | ⟨g, cap, cur, rfl, _⟩
    · exact hnil (List.eq_nil_of_length_eq_zero hn) 0 hv
    · exact ⟨some ⟨g, 0, none⟩, cap, xs, H, rfl, own.1, fun _ => ⟨_, rfl, fun j y hy => own.cells (g := g) rfl j y hy⟩, hsz, h1, hx, dis, fun i j d k hd hk => Or.inr ⟨i, j, d, hd, hk⟩⟩

theorem elT_some' {P : Program} {t e : TypeId} (h : elT P t = some e) : P.underlying t = some (.slice e) := by
  exact elT_some h

theorem cellAt_append {es fs : List (List D)} {i j : Nat} : cellAt (es ++ fs) i j = if i < es.length then cellAt es i j else cellAt fs (i - es.length) j := by
  unfold cellAt
  by_cases h : i < es.length
  · rw [if_pos h, List.getElem?_append_left h]
  · rw [if_neg h, List.getElem?_append_right (by omega)]

theorem Ow.append {e : TypeId} {es fs : List (List D)} {v' : Value} {xs ys : List Value} {H1 H2 : Nat → Nat → Nat → Prop} (own : w.ownsRow 0 e (szT P e) v' (es.length + fs.length) (xs ++ ys)) (hl : xs.length = es.length * szT P e)
    (hz1 : ∀ l ∈ es, l.length = szT P e) (hz2 : ∀ l ∈ fs, l.length = szT P e) (o1 : ∀ u ∈ xs, u.oneCell' = true) (o2 : ∀ u ∈ ys, u.oneCell' = true)
    (x1 : ∀ i j d, cellAt es i j = some d → Ow P w S d (xs.getD (i * szT P e + j) undef) (H1 i j)) (x2 : ∀ i j d, cellAt fs i j = some d → Ow P w S d (ys.getD (i * szT P e + j) undef) (H2 i j))
    (d1 : ∀ i j i' j' d d' k, cellAt es i j = some d → cellAt es i' j' = some d' → H1 i j k → H1 i' j' k → i = i' ∧ j = j') (d2 : ∀ i j i' j' d d' k, cellAt fs i j = some d → cellAt fs i' j' = some d' → H2 i j k → H2 i' j' k → i = i' ∧ j = j')
    (d3 : ∀ i j i' j' d d' k, cellAt es i j = some d → cellAt fs i' j' = some d' → H1 i j k → ¬ H2 i' j' k)
    (n1 : ∀ i j d k, cellAt es i j = some d → H1 i j k → v'.ownBlock ≠ some k) (n2 : ∀ i j d k, cellAt fs i j = some d → H2 i j k → v'.ownBlock ≠ some k) :
    ∃ F, Ow P w S (.row false e (es ++ fs)) v' F ∧ ∀ k, F k → v'.ownBlock = some k ∨ (∃ i j d, cellAt es i j = some d ∧ H1 i j k) ∨ ∃ i j d, cellAt fs i j = some d ∧ H2 i j k := by
  refine ⟨_, .row (xs ++ ys) (fun i j k => if i < es.length then H1 i j k else H2 (i - es.length) j k) (by rw [List.length_append]; exact own) (fun l hl => (List.mem_append.1 hl).elim (hz1 l) (hz2 l)) (fun u hu => (List.mem_append.1 hu).elim (o1 u) (o2 u)) ?_ ?_ ?_, ?_⟩
  · intro i j d hd
    rw [cellAt_append] at hd
    by_cases hi : i < es.length
    · rw [if_pos hi] at hd
      have hlt := off_lt hi (cellAt_len hd hz1)
      rw [toArr_getD, List.getElem?_append_left (by omega), ← toArr_getD]
      exact (x1 i j d hd).congr fun k => by rw [if_pos hi]
    · rw [if_neg hi] at hd
      have hle : es.length * szT P e ≤ i * szT P e := Nat.mul_le_mul_right _ (by omega)
      rw [toArr_getD, List.getElem?_append_right (by omega), ← toArr_getD]
      have e1 : i * szT P e + j - xs.length = (i - es.length) * szT P e + j := by rw [hl, Nat.sub_mul]; omega
      rw [e1]
      exact (x2 _ j d hd).congr fun k => by rw [if_neg hi]
  · intro i j i' j' d d' k hd hd' hk hk'
    rw [cellAt_append] at hd hd'
    by_cases hi : i < es.length <;> by_cases hi' : i' < es.length
    · rw [if_pos hi] at hd hk; rw [if_pos hi'] at hd' hk'; exact d1 i j i' j' d d' k hd hd' hk hk'
    · rw [if_pos hi] at hd hk; rw [if_neg hi'] at hd' hk'; exact (d3 i j _ j' d d' k hd hd' hk hk').elim
    · rw [if_neg hi] at hd hk; rw [if_pos hi'] at hd' hk'; exact (d3 i' j' _ j d' d k hd' hd hk' hk).elim
    · rw [if_neg hi] at hd hk; rw [if_neg hi'] at hd' hk'
      have := d2 _ j _ j' d d' k hd hd' hk hk'
      exact ⟨by omega, this.2⟩
  · intro i j d k hd hk
    rw [cellAt_append] at hd
    by_cases hi : i < es.length
    · rw [if_pos hi] at hd hk; exact n1 i j d k hd hk
    · rw [if_neg hi] at hd hk; exact n2 _ j d k hd hk
  · rintro k (hk | ⟨i, j, d, hd, hk⟩)
    · exact Or.inl hk
    · rw [cellAt_append] at hd
      by_cases hi : i < es.length
      · rw [if_pos hi] at hd hk; exact Or.inr (Or.inl ⟨i, j, d, hd, hk⟩)
      · rw [if_neg hi] at hd hk; exact Or.inr (Or.inr ⟨_, j, d, hd, hk⟩)

theorem append_all (w : World) {t ty e : TypeId} {i : TypeInfo} {z : Value} {size bytes : Nat} (ht : P.underlying t = some (.slice e)) (hi : P.info? e = some i) (hz : i.zero = some z)
    (hsize : i.size = size) (hby : i.bytes = bytes) (hzs : z.cells.size = size) (hsz : 0 < size) {v : Value} {n : Nat} {xs : List Value} (hown : w.ownsRow 0 e size v n xs)
    {A : Option Addr} {m c : Nat} {news : List Value} (hl : news.length = m * size) (hA : 0 < m → ∃ ad, A = some ad ∧ ∀ j u, news[j]? = some u → w.cell? (ad.add j) = some u) (h1 : ∀ u ∈ news, u.oneCell' = true)
    (h63 : n + m ≤ maxLen) (hbytes : (n + m) * bytes ≤ 140737488355328) :
    ∃ v' w', (Builtin.append_ #[t, t] ty #[v, .slice A m c]).run P w = .ok v' w' ∧ w'.ownsRow 0 e size v' (n + m) (xs ++ news) ∧ w.heap.size ≤ w'.heap.size ∧ w'.os = w.os ∧ w'.output = w.output ∧
      (∀ k, k < w.heap.size → v.ownBlock ≠ some k → w'.heap[k]? = w.heap[k]?) ∧ (∀ k, v'.ownBlock = some k → v.ownBlock = some k ∨ w.heap.size ≤ k) ∧
      (∀ may : MemPlace → Prop, (∀ g, v.ownBlock = some g → ∀ f, may (.cell g f)) → w.keptBut w' may) := by
  cases A with
  | some ad =>
    refine append_law w ht hi hz hsize hby hzs hsz hown hl (fun j u hj => ?_) h1 h63 hbytes
    have hm : 0 < m := by
      apply Nat.pos_of_ne_zero
      rintro rfl
      have := (List.getElem?_eq_some_iff.1 hj).1
      omega
    obtain ⟨ad', e', hc⟩ := hA hm
    cases e'
    exact hc j u hj
  | none =>
    have hm : m = 0 := Nat.eq_zero_of_not_pos fun h => by obtain ⟨_, h, _⟩ := hA h; cases h
    subst hm
    have hn : news = [] := List.eq_nil_of_length_eq_zero (by simpa using hl)
    subst hn
    rw [List.append_nil]
    refine ⟨v, w, ?_, hown, Nat.le_refl _, rfl, rfl, fun _ _ _ => rfl, fun k hk => Or.inl hk, fun may _ => World.keptBut_refl w may⟩
    rcases hown.2 with ⟨rfl, rfl⟩ | ⟨g, cap, cur, rfl, _, _, hnc, _⟩
    · exact append_none w ht hi (Nat.le_refl _)
    · exact append_none w ht hi hnc

theorem append_sound (h : Rep P C No st a w gh) {o : Oper} {t : TypeId} {x y : Operand} {d : Nat} {c : Call} {K : St → Prop} (ho : o.op = .call c) (hc : c.callee = .builtin .append) (hca : c.args.toList = [x, y]) (hct : c.argTypes.toList = [t, t]) (hd : o.dst = some d) (hlt : d < st.nt)
    (hox : (st.ev x).ok) (hoy : (st.ev y).ok) (hz : Sized P) (hk : aAppend P C st t d (st.ev x).str (st.ev y).str K) : Comes1 P C o a w K := by
  obtain ⟨hs1, hs2, hown, hk⟩ := hk
  split at hk
  case h_2 => exact hk.elim
  rename_i e e1 es e2 fs hel hr1 hr2
  obtain ⟨he1, he2, hall, hzc, hb1, hb2, hp, hk⟩ := hk
  have hpos := hz t e hel
  have hu := elT_some' hel
  obtain ⟨zc, hzc, hzl⟩ := Option.map_eq_some_iff.1 hzc
  obtain ⟨i, z, hi, hzz, hzce⟩ := zero_info hzc
  have hsi : i.size = szT P e := by unfold szT; simp [hi]
  have hzsz : z.cells.size = szT P e := by rw [← hzl, ← hzce]; simp
  have hby : i.bytes = bytesT P e := by unfold bytesT; simp [hi]
  obtain ⟨gh1, F1, hrp1, hS1, hq1, how1, hF1, hst1⟩ := toD_sound h (h.use x hox) hs1
  have hy := hst1 _ _ (h.use y hoy) hs2
  obtain ⟨gh2, F2, hrp2, hS2, hq2, how2, hF2, hst2⟩ := toD_sound hrp1 hy hs2
  obtain ⟨xs, H1, own, sz1, o1, x1, dd1, nb1, hF1e⟩ := own_row hpos how1 hown hr1 he1
  have hfree : (∃ e', (toD (toD st (st.ev x).str).2.1 (st.ev y).str).2.2 = .row true e' fs) → fs.all (·.all freeD) = true := by
    rintro ⟨e', he⟩
    generalize (st.ev y).str = vy at he hall hs2
    cases vy with
    | imm => exact hall
    | ref oy p n => 
      match p with
      | [] => simp only [toD] at he; split at he <;> cases he
      | [(_, _)] => simp only [toD] at he; split at he <;> (try split at he) <;> cases he
      | _ :: _ :: _ => simp [toD] at hs2
    | sc => simp [toD] at he
    | nil => simp [toD] at he
    | _ => simp [toD] at hs2
  obtain ⟨A, cc, ys, H2, hyv, hyl, hyA, sz2, o2, x2, dd2, hH2⟩ := elems_row hpos how2 hr2 he2 hfree
  obtain ⟨stB, hstB, ghB, XB, hB, hSB, hnB, hF1B, hH2B⟩ : ∃ stB, stB = (bif stays (st.ev y).str fs then (toD st (st.ev x).str).2.1 else (toD (toD st (st.ev x).str).2.1 (st.ev y).str).2.1) ∧
      ∃ (ghB : Gh) (XB : Nat → Prop), Rep P C XB stB a w ghB ∧ ghB.S = gh.S ∧ stB.nt = st.nt ∧ (∀ k, F1 k → XB k) ∧ (∀ i j d k, cellAt fs i j = some d → H2 i j k → XB k ∧ ¬ F1 k) := by
    refine ⟨_, rfl, ?_⟩
    cases hst : stays (st.ev y).str fs with
    | true =>
      refine ⟨gh1, _, hrp1, hS1, toD_nt _, fun k hk => Or.inr hk, fun i j d k hd hk => ?_⟩
      have hfa : fs.all (·.all freeD) = true := by
        generalize (st.ev y).str = vy at hst hall hs2
        cases vy <;> simp only [stays, Bool.and_eq_true] at hst <;> first | exact hst.2 | exact hall | cases hst
      have hfr : freeD d = true := by
        have hi := cellAt_lt hd
        unfold cellAt at hd
        rw [List.getElem?_eq_getElem hi, Option.bind_some] at hd
        exact List.all_eq_true.1 (List.all_eq_true.1 hfa _ (List.getElem_mem hi)) _ (List.mem_of_getElem? hd)
      exact (free_none hfr (x2 i j d hd) k hk).elim
    | false =>
      exact ⟨gh2, _, hrp2, hS2.trans hS1, (toD_nt _).trans (toD_nt _), fun k hk => Or.inl (Or.inr hk), fun i j d k hd hk => ⟨Or.inr (hH2 i j d k hd hk), fun hk' => hF2 k (hH2 i j d k hd hk) (Or.inr hk')⟩⟩
  rw [← hstB] at hk
  obtain ⟨v', w', hrun, own', hszw, hos, hout, hkeep, hob, hmay⟩ := append_all (P := P) (ty := o.type) w hu hi hzz hsi hby hzsz hpos own hyl hyA o2 (by unfold maxLen; omega) hb2
  have hF1b : ∀ k, (a.eval x).ownBlock = some k → F1 k := fun k hk => (hF1e k).2 (Or.inl hk)
  have hB' := hB.world hszw (fun o' x' k hx hk => hkeep k ((hB.obs o' x' hx).lt k hk) (fun hk' => hB.xF o' x' k hx (hF1B k (hF1b k hk')) hk)) (fun k hk => hkeep k (hB.sS k hk) (fun hk' => hB.xS k (hF1B k (hF1b k hk')) hk))
    (hmay _ (fun g hg f => ⟨g, f, rfl, (hB.xW g (hF1B g (hF1b g hg))).imp id (fun hh => hh f)⟩))
  obtain ⟨Fn, hown', hFn⟩ := Ow.append (P := P) (S := ghB.S) own' own.1 sz1 sz2 o1 o2
    (fun i j d hd => by
      rw [hSB]
      refine (x1 i j d hd).move (fun k hk => hkeep k ?_ (nb1 i j d k hd hk)) (fun k hk => hkeep k (by rw [← hSB] at hk; exact hB.sS k hk) (fun hk' => by rw [← hSB] at hk; exact hB.xS k (hF1B k (hF1b k hk')) hk))
      exact hB.xl k (hF1B k ((hF1e k).2 (Or.inr ⟨i, j, d, hd, hk⟩))))
    (fun i j d hd => by
      rw [hSB]
      have := x2 i j d hd
      rw [hS1] at this
      refine this.move (fun k hk => hkeep k (hB.xl k (hH2B i j d k hd hk).1) (fun hk' => (hH2B i j d k hd hk).2 (hF1b k hk'))) (fun k hk => hkeep k (by rw [← hSB] at hk; exact hB.sS k hk) (fun hk' => by rw [← hSB] at hk; exact hB.xS k (hF1B k (hF1b k hk')) hk)))
    dd1 dd2 (fun i j i' j' d d' k hd hd' hk hk' => (hH2B i' j' d' k hd' hk').2 ((hF1e k).2 (Or.inr ⟨i, j, d, hd, hk⟩)))
    (fun i j d k hd hk hk' => (hob k hk').elim (nb1 i j d k hd hk) (fun hle => by have := hB.xl k (hF1B k ((hF1e k).2 (Or.inr ⟨i, j, d, hd, hk⟩))); omega))
    (fun i j d k hd hk hk' => (hob k hk').elim (fun hk'' => (hH2B i j d k hd hk).2 (hF1b k hk'')) (fun hle => by have := hB.xl k (hH2B i j d k hd hk).1; omega))
  -- the new block is taken in hand
  have hhold : ∃ X', Rep P C X' stB a w' ghB ∧ (∀ k, XB k → X' k) ∧ ∀ k, v'.ownBlock = some k → X' k := by
    by_cases hn : ∃ k, v'.ownBlock = some k ∧ w.heap.size ≤ k
    · obtain ⟨k, hk, hle⟩ := hn
      refine ⟨_, hB'.hold (b := k) ?_ (fun hk' => by have := hB.sS k hk'; omega) (fun o' x' hx hk' => by have := (hB.obs o' x' hx).lt k hk'; omega) (Or.inl (by have := hB.size; omega)), fun k hk => Or.inl hk, fun k' hk' => Or.inr (by rw [hk] at hk'; cases hk'; rfl)⟩
      exact (own'.lt k hk).2
    · refine ⟨XB, hB', fun k hk => hk, fun k hk => ?_⟩
      rcases hob k hk with hk' | hk'
      · exact hF1B k (hF1b k hk')
      · exact (hn ⟨k, hk, hk'⟩).elim
  obtain ⟨X', hX', hXX, hXn⟩ := hhold
  obtain ⟨gh', hrep, hS', hhv, _⟩ := hX'.freshRow hp hown' (fun k hk => by
    rcases hFn k hk with hk | ⟨i, j, d, hd, hk⟩ | ⟨i, j, d, hd, hk⟩
    · exact hXn k hk
    · exact hXX k (hF1B k ((hF1e k).2 (Or.inr ⟨i, j, d, hd, hk⟩)))
    · exact hXX k (hH2B i j d k hd hk).1)
  have hv' : ∃ A' c', v' = .slice A' (es ++ fs).length c' := by
    rw [List.length_append]
    rcases own'.2 with ⟨rfl, h0⟩ | ⟨g, cap, cur, rfl, _⟩
    · rw [h0]; exact ⟨_, _, rfl⟩
    · exact ⟨_, _, rfl⟩
  obtain ⟨A', c', rfl⟩ := hv'
  refine ⟨.value (.slice A' (es ++ fs).length c'), w', ?_, Or.inl ⟨_, rfl, _, gh', hk, ?_⟩⟩
  · have e1 : (c.args.map a.eval) = #[a.eval x, a.eval y] := by
      apply Array.ext'; rw [Array.toList_map, hca]; rfl
    have e2 : c.argTypes = #[t, t] := by apply Array.ext'; rw [hct]
    have e3 : a.eval y = .slice A fs.length cc := hyv
    simp only [execOp, ho, resolve, hc, invoke, builtin, Sem.run_bind, Sem.run_pure, Result.andThen_ok, e1, e2, e3]
    rw [hrun]; rfl
  · rw [hd]
    refine (hrep.less (X' := No) (fun k hk => hk.elim)).set (by simp only [St.fresh, St.put, St.kill]; rw [hnB]; exact hlt) ?_
    have hvw := VR.whole (P := P) (w := w') (gh := gh') (n := es.length + fs.length) (fresh_look stB (anon d) (.row e (es ++ fs))) hhv (by rw [List.length_append]; exact Nat.le_refl _)
    rw [List.length_append]; exact hvw
end
end Go.Proofs.Ytldniggehdpheaa.AW
