/- A call does what its function is known to do: what it hands back. No condition. -/
import Derived.Test.YtaodmogcjpainaaDoorA21
namespace Go.Proofs.YtaodmogcjpainaaDoor.AW
open Go.RowKit
set_option linter.unusedSimpArgs false
set_option linter.unusedVariables false

section
variable {P : Program} {w w1 : World} {C : Cx} {X : Nat → Prop} {gh gh' : Gh} {st st' st'' : St} {a : Act} {v : V} {u : Value} {ob ob' : List (Nat × Ob)} {S S' : Nat → Prop} {K : St → Prop} {d : D} {F : Nat → Prop}

theorem dVn_keep {n : Nat} (h : VR P w gh ob (dVn n d) u) (hS : gh'.S = gh.S) (hk : ∀ x, look ob n = some x → look ob' n = some x ∧ gh'.hv n = gh.hv n) : VR P w gh' ob' (dVn n d) u := by
  cases d with
  | dead => exact .dead
  | sc v => cases h with | sc h => exact .sc h
  | row sh e es =>
    cases sh with
    | true => cases h with | imm h => exact .imm (by rw [hS]; exact h)
    | false =>
      simp only [dVn] at h ⊢
      cases h with
      | @ref _ _ _ x e' es' A c hx hn hle =>
        obtain ⟨h1, h2⟩ := hk x hx
        suffices hs : NavO P w gh' n x [] (.row false e' es') (.slice A es'.length c) from .ref h1 hs hle
        cases x with
        | box cs => exact hn.elim
        | row e0 es0 =>
          obtain ⟨rfl, rfl, hv⟩ := navO_nil hn
          have hn' : NavO P w gh' n (.row e0 es0) [] (.row false e0 es0) (.slice A es0.length c) := by simp only [NavO, h2, hv]; exact .nil
          exact hn'

theorem numD_get (d : Nat) : ∀ (ds : List D) (k i : Nat), (numD d k ds)[i]? = (ds[i]?).map fun x => (objNo d (k + i), x)
  | [], k, i => by simp [numD]
  | x :: r, k, i => by
    cases i with
    | zero => simp [numD]
    | succ i => simp only [numD, List.getElem?_cons_succ]; rw [numD_get d r (k + 1) i, show k + 1 + i = k + (i + 1) by omega]
theorem vsD_get (d : Nat) : ∀ (ds : List D) (k i : Nat), (vsD d k ds)[i]? = (ds[i]?).map fun x => dVn (objNo d (k + i)) x
  | [], k, i => by simp [vsD]
  | x :: r, k, i => by
    cases i with
    | zero => simp [vsD]
    | succ i => simp only [vsD, List.getElem?_cons_succ]; rw [vsD_get d r (k + 1) i, show k + 1 + i = k + (i + 1) by omega]
theorem vsD_length (d : Nat) : ∀ (ds : List D) (k : Nat), (vsD d k ds).length = ds.length
  | [], k => rfl
  | x :: r, k => by simp [vsD, vsD_length]
theorem layL_append (st : St) : ∀ (A B : List (Nat × D)) (st : St), layL st (A ++ B) = layL (layL st A) B
  | [], B, st => rfl
  | (n, d) :: A, B, st => by simp only [List.cons_append, layL]; exact layL_append st A B _
theorem objNo_inj {d k k' : Nat} (h : objNo d k = objNo d k') : k = k' := by unfold objNo at h; omega

theorem fresh_other {o n : Nat} {x : Ob} (h : o ≠ n) : look (st.fresh n x).ob o = look st.ob o := by
  unfold St.fresh St.put
  rw [look_cons_ne _ _ h]
  rw [look_kill, if_neg (fun e => h e.symm)]

/-- The cells of one result are laid down. -/
theorem layD_sound (dn : Nat) : ∀ (ds : List D) (us : List Value) (G : Nat → Nat → Prop) (k : Nat) {st : St} {X : Nat → Prop} {gh : Gh}, Rep P C X st a w gh → (∀ n, 3000 ≤ n → C.pin n = none) → (∀ j c, ds[j]? = some c → Ow P w gh.S c (us.getD j undef) (G j)) →
    (∀ j c b, ds[j]? = some c → G j b → X b) → (∀ i j c c' b, ds[i]? = some c → ds[j]? = some c' → G i b → G j b → i = j) →
    ∃ gh', Rep P C (fun b => X b ∧ ¬ ∃ j c, ds[j]? = some c ∧ G j b) (layL st (numD dn k ds)) a w gh' ∧ (layL st (numD dn k ds)).nt = st.nt ∧ (∀ j c, ds[j]? = some c → VR P w gh' (layL st (numD dn k ds)).ob (dVn (objNo dn (k + j)) c) (us.getD j undef)) ∧
      (∀ o, (∀ q, k ≤ q → q < k + ds.length → o ≠ objNo dn q) → look (layL st (numD dn k ds)).ob o = look st.ob o ∧ gh'.hv o = gh.hv o) ∧ gh'.S = gh.S
  | [], us, G, k, st, X, gh, h, hp, how, hX, hd => ⟨gh, h.less (fun b hb => hb.1), rfl, fun j c hc => by simp at hc, fun o _ => ⟨rfl, rfl⟩, rfl⟩
  | c :: ds, us, G, k, st, X, gh, h, hp, how, hX, hd => by
    have how0 := how 0 c rfl
    -- the first one
    have first : ∃ gh1, Rep P C (fun b => X b ∧ ¬ G 0 b) (layD st (objNo dn k) c) a w gh1 ∧ (layD st (objNo dn k) c).nt = st.nt ∧ VR P w gh1 (layD st (objNo dn k) c).ob (dVn (objNo dn k) c) (us.getD 0 undef) ∧
        (∀ o, o ≠ objNo dn k → look (layD st (objNo dn k) c).ob o = look st.ob o ∧ gh1.hv o = gh.hv o) ∧ gh1.S = gh.S := by
      generalize us.getD 0 undef = u0 at how0
      generalize hG0 : G 0 = G0 at how0
      cases c with
      | dead => exact ⟨gh, h.less (fun b hb => hb.1), rfl, .dead, fun o _ => ⟨rfl, rfl⟩, rfl⟩
      | sc v => exact ⟨gh, h.less (fun b hb => hb.1), rfl, by cases how0 with | sc h => exact .sc h, fun o _ => ⟨rfl, rfl⟩, rfl⟩
      | row sh e es =>
        cases sh with
        | true => exact ⟨gh, h.less (fun b hb => hb.1), rfl, by cases how0 with | shared h => exact .imm h, fun o _ => ⟨rfl, rfl⟩, rfl⟩
        | false =>
          have hob : ObR P w (gh.upd (objNo dn k) u0 0 0 G0) (objNo dn k) (.row e es) := .row (by simpa [Gh.upd] using how0)
          have hr := h.fresh (d := objNo dn k) (hp _ (by unfold objNo; omega)) hob (fun b hb => hX 0 _ b rfl (hG0 ▸ hb))
          refine ⟨_, hr.less (fun b hb => ⟨hb.1, hb.2⟩), rfl, ?_, fun o ho => ⟨fresh_other ho, by simp [Gh.upd, ho]⟩, rfl⟩
          have hsl : ∃ A cap, u0 = .slice A es.length cap := by
            cases how0 with
            | row xs H own =>
              rcases own.2 with ⟨h1, h2⟩ | ⟨g, cap, cur, h1, _⟩
              · rw [h1, h2]; exact ⟨_, _, rfl⟩
              · exact ⟨_, _, h1⟩
          obtain ⟨A, cap, rfl⟩ := hsl
          exact VR.whole (fresh_look st (objNo dn k) (.row e es)) (by simp [Gh.upd]) (Nat.le_refl _)
    obtain ⟨gh1, hr1, hn1, hv1, hk1, hS1⟩ := first
    obtain ⟨gh2, hr2, hn2, hv2, hk2, hS2⟩ := layD_sound dn ds us.tail (fun j => G (j + 1)) (k + 1) hr1 hp (fun j x hx => by
        have := how (j + 1) x (by simpa using hx)
        rw [hS1]
        have e : us.tail.getD j undef = us.getD (j + 1) undef := by simp [List.getD]
        rw [e]; exact this)
      (fun j x b hx hb => ⟨hX (j + 1) x b (by simpa using hx) hb, fun hb' => by have := hd (j + 1) 0 x c b (by simpa using hx) rfl hb hb'; omega⟩)
      (fun i j x x' b hx hx' hb hb' => by have := hd (i + 1) (j + 1) x x' b (by simpa using hx) (by simpa using hx') hb hb'; omega)
    refine ⟨gh2, hr2.less ?_, hn2.trans hn1, ?_, ?_, hS2.trans hS1⟩
    · rintro b ⟨h1, h2⟩
      refine ⟨⟨h1, fun hb => h2 ⟨0, c, rfl, hb⟩⟩, ?_⟩
      rintro ⟨j, x, hx, hb⟩
      exact h2 ⟨j + 1, x, by simpa using hx, hb⟩
    · intro j x hx
      cases j with
      | zero =>
        simp only [List.getElem?_cons_zero, Option.some.injEq] at hx
        subst hx
        obtain ⟨g1, g2⟩ := hk2 (objNo dn k) (fun q hq _ e => by have := objNo_inj e; omega)
        exact dVn_keep hv1 hS2 (fun x hx => ⟨by rw [show k = k + 0 by omega] at g1; exact g1.trans hx, g2⟩)
      | succ j =>
        have := hv2 j x (by simpa using hx)
        have e : us.tail.getD j undef = us.getD (j + 1) undef := by simp [List.getD]
        rw [e, show k + 1 + j = k + (j + 1) by omega] at this
        exact this
    · intro o ho
      obtain ⟨g1, g2⟩ := hk2 o (fun q hq hq' => ho q (by omega) (by simp only [List.length_cons]; omega))
      obtain ⟨g3, g4⟩ := hk1 o (ho k (Nat.le_refl _) (by simp only [List.length_cons]; omega))
      exact ⟨g1.trans g3, g2.trans g4⟩

/-- What a V of a result keeps. -/
theorem rV_keep {dn k : Nat} {r : RV} (h : VR P w gh ob (rV dn k r) u) (hS : gh'.S = gh.S) (hl : r.1 = false → r.2.length = 1) (hk : ∀ q, k ≤ q → q < k + r.2.length → ∀ x, look ob (objNo dn q) = some x → look ob' (objNo dn q) = some x ∧ gh'.hv (objNo dn q) = gh.hv (objNo dn q)) : VR P w gh' ob' (rV dn k r) u := by
  obtain ⟨b, ds⟩ := r
  cases b with
  | false =>
    simp only [rV] at h ⊢
    exact dVn_keep h hS (hk k (Nat.le_refl _) (by have := hl rfl; simp only at this ⊢; omega))
  | true =>
    simp only [rV] at h ⊢
    cases h with
    | agg hl' h1 hh =>
      refine .agg hl' h1 (fun i v hv => ?_)
      have := hh i v hv
      rw [vsD_get] at hv
      obtain ⟨x, hx, rfl⟩ := Option.map_eq_some_iff.1 hv
      exact dVn_keep this hS (hk (k + i) (by omega) (by have := (List.getElem?_eq_some_iff.1 hx).1; simp only; omega))

/-- All results are laid down. -/
theorem layR_sound (dn : Nat) : ∀ (rs : List RV) (vs : List Value) (G : Nat → Nat → Nat → Prop) (k : Nat) {st : St} {X : Nat → Prop} {gh : Gh}, Rep P C X st a w gh → (∀ n, 3000 ≤ n → C.pin n = none) → Res P w gh.S rs vs G → (∀ b, inHand rs G b → X b) →
    ∃ gh', Rep P C (fun b => X b ∧ ¬ inHand rs G b) (layL st (numR dn k rs)) a w gh' ∧ (layL st (numR dn k rs)).nt = st.nt ∧ ((vsR dn k rs).length = vs.length) ∧ (∀ (i : Nat) (x : V) (u : Value), (vsR dn k rs)[i]? = some x → vs[i]? = some u → VR P w gh' (layL st (numR dn k rs)).ob x u) ∧
      (∀ o, (∀ q, k ≤ q → o ≠ objNo dn q) → look (layL st (numR dn k rs)).ob o = look st.ob o ∧ gh'.hv o = gh.hv o) ∧ gh'.S = gh.S
  | [], vs, G, k, st, X, gh, h, hp, hr, hX => ⟨gh, h.less (fun b hb => hb.1), rfl, by simpa [vsR] using hr.len, fun i x u hx => by simp [vsR] at hx, fun o _ => ⟨rfl, rfl⟩, rfl⟩
  | r :: rs, [], G, k, st, X, gh, h, hp, hr, hX => by have := hr.len; simp at this
  | r :: rs, v :: vs, G, k, st, X, gh, h, hp, hr, hX => by
    have hl1 : r.1 = false → r.2.length = 1 := fun hf => by
      have h1 := hr.one 0 r v rfl rfl hf
      have h2 := hr.sz 0 r v rfl rfl
      rw [cells_one h1] at h2; simpa using h2.symm
    obtain ⟨gh1, hr1, hn1, hv1, hk1, hS1⟩ := layD_sound dn r.2 v.cells.toList (G 0) k h hp (fun j c hc => hr.ow 0 r v j c rfl rfl hc) (fun j c b hc hb => hX b ⟨0, j, r, c, rfl, hc, hb⟩)
      (fun i j c c' b hc hc' hb hb' => (hr.dis 0 i 0 j r r c c' b rfl hc rfl hc' hb hb').2)
    have hres : Res P w gh1.S rs vs (fun i => G (i + 1)) := by
      refine ⟨by have := hr.len; simpa using this, fun i r' v' h1 h2 => hr.one (i + 1) r' v' (by simpa using h1) (by simpa using h2), fun i r' v' h1 h2 => hr.agg (i + 1) r' v' (by simpa using h1) (by simpa using h2),
        fun i r' v' h1 h2 => hr.sz (i + 1) r' v' (by simpa using h1) (by simpa using h2), fun i v' h2 => hr.c1 (i + 1) v' (by simpa using h2), fun i r' v' j c h1 h2 hc => by rw [hS1]; exact hr.ow (i + 1) r' v' j c (by simpa using h1) (by simpa using h2) hc, ?_⟩
      intro i j i' j' r1 r2 c c' b h1 hc h2 hc' hb hb'
      have := hr.dis (i + 1) j (i' + 1) j' r1 r2 c c' b (by simpa using h1) hc (by simpa using h2) hc' hb hb'
      exact ⟨by omega, this.2⟩
    obtain ⟨gh2, hr2, hn2, hl2, hv2, hk2, hS2⟩ := layR_sound dn rs vs (fun i => G (i + 1)) (k + r.2.length) hr1 hp hres (fun b ⟨i, j, r', c, h1, hc, hb⟩ => ⟨hX b ⟨i + 1, j, r', c, by simpa using h1, hc, hb⟩, fun ⟨j0, c0, hc0, hb0⟩ => by
      have := hr.dis (i + 1) j 0 j0 r' r c c0 b (by simpa using h1) hc rfl hc0 hb hb0; omega⟩)
    simp only [numR]
    rw [layL_append st]
    refine ⟨gh2, hr2.less ?_, hn2.trans hn1, by simp [vsR, hl2], ?_, ?_, hS2.trans hS1⟩
    · rintro b ⟨h1, h2⟩
      refine ⟨⟨h1, ?_⟩, ?_⟩
      · rintro ⟨j, c, hc, hb⟩; exact h2 ⟨0, j, r, c, rfl, hc, hb⟩
      · rintro ⟨i, j, r', c, h3, hc, hb⟩; exact h2 ⟨i + 1, j, r', c, by simpa using h3, hc, hb⟩
    · intro i x u hx hu
      cases i with
      | zero =>
        simp only [vsR, List.getElem?_cons_zero, Option.some.injEq] at hx hu
        subst hx; subst hu
        have hfirst : VR P w gh1 (layL st (numD dn k r.2)).ob (rV dn k r) v := by
          obtain ⟨b, ds⟩ := r
          cases b with
          | false =>
            simp only [rV]
            have h1 := hr.one 0 _ v rfl rfl rfl
            have hlen := hl1 rfl
            simp only at hlen hv1
            have h0 := hv1 0 (ds.getD 0 .dead) (by simp [List.getD, List.getElem?_eq_getElem (show 0 < ds.length by omega)])
            rw [cells_one h1] at h0
            simpa using h0
          | true =>
            simp only [rV]
            obtain ⟨cs, rfl⟩ := hr.agg 0 _ _ rfl rfl rfl
            refine .agg (by rw [vsD_length]; exact hr.sz 0 _ _ rfl rfl) (hr.c1 0 _ rfl) (fun i x hx => ?_)
            rw [vsD_get] at hx
            obtain ⟨c, hc, rfl⟩ := Option.map_eq_some_iff.1 hx
            have := hv1 i c hc
            rw [agetD] at this
            exact this
        refine rV_keep hfirst hS2 hl1 (fun q hq hq' x hx => ?_)
        obtain ⟨g1, g2⟩ := hk2 (objNo dn q) (fun q' hq2 e => by have := objNo_inj e; omega)
        exact ⟨g1.trans hx, g2⟩
      | succ i => exact hv2 i x u (by simpa [vsR] using hx) (by simpa using hu)
    · intro o ho
      obtain ⟨g1, g2⟩ := hk2 o (fun q hq => ho q (by omega))
      obtain ⟨g3, g4⟩ := hk1 o (fun q hq _ => ho q hq)
      exact ⟨g1.trans g3, g2.trans g4⟩

theorem aCall_of_sound {f : FuncId} {as : List Arg} {post : List RV → St → Prop} (hs : Sound P f as post) (hpin : ∀ n, 3000 ≤ n → C.pin n = none) {vs : List V} {d : Option Nat} (ht : (takeM st vs as).1) (hl : lendAll ⟨[], fun _ => undef, pvOf C, (takeM st vs as).2.ob, argsOb 0 as⟩ vs as)
    (hns : ∀ rs st', post rs st' → noShR rs = true) (hK : ∀ rs st', post rs st' → ev (b := ⟨K⟩) (after (takeM st vs as).2 d rs)) : aCall P C st f vs d K := by
  refine Or.inl ⟨hs.1, fun a w gh us h hus hv hd => ?_⟩
  obtain ⟨O, h1, hlen, hnt, h3, h4, h5, h6⟩ := take_sound 0 h ht
  generalize hst1 : (takeM st vs as).2 = st1 at *
  let gh0 : Gh := { S := fun k => gh.S k ∨ ∃ o x, look st1.ob o = some x ∧ gh.F o k, hv := fun i => us.getD i undef, bb := fun _ => 0, bo := fun _ => 0, F := fun i k => ∃ o, O i = some o ∧ gh.F o k }
  let C0 : Cx := { w0 := w, s0 := gh0.S, may := fun b _ => ∃ i o, O i = some o ∧ gh.F o b, pin := fun k => if isPin k = true then some (gh0.hv k, gh0.bb k, gh0.bo k) else none, z := fun _ => True }
  have hasl : us.size = as.length := by omega
  have hmv : ∀ (i : Nat) (e : TypeId) (es : List (List D)), as[i]? = some (.mv e es) → (∃ A c, us.getD i undef = .slice A es.length c) ∧ Ow P w gh.S (.row false e es) (us.getD i undef) (gh0.F i) := by
    intro i e es hi
    rcases h3 i e es hi with ⟨o, g1, g2, g3⟩ | ⟨g1, rfl, g2⟩
    · rw [Nat.zero_add] at g1
      have hvi := hv i _ g2
      generalize us.getD i undef = u at hvi
      cases hvi with
      | @ref _ _ _ x e' es' A c hx hn hle =>
        rw [g3] at hx; cases hx
        obtain ⟨rfl, rfl, hv'⟩ := navO_nil hn
        refine ⟨⟨A, c, rfl⟩, ?_⟩
        have := h.obs o _ g3
        cases this with
        | row how =>
          rw [hv'] at how
          refine how.congr (fun k => ⟨fun hk => ⟨o, g1, hk⟩, fun ⟨o', ho', hk⟩ => ?_⟩)
          rw [g1] at ho'; cases ho'; exact hk
    · rw [Nat.zero_add] at g1
      have e0 : us.getD i undef = .slice none 0 0 := by
        rcases g2 with g2 | ⟨t, g2⟩
        · exact (hv i _ g2).sc_inv
        · have := hv i _ g2
          generalize us.getD i undef = u at this
          cases this; rfl
      rw [e0]
      refine ⟨⟨none, 0, rfl⟩, ?_⟩
      have how : Ow P w gh.S (.row false e []) (.slice none 0 0) (fun k => Value.ownBlock (.slice none 0 0) = some k ∨ ∃ i j c, cellAt ([] : List (List D)) i j = some c ∧ No k) :=
        .row [] (fun _ _ => No) (World.ownsRow_nil w 0 e (szT P e)) (by simp) (by simp) (fun i j c hc => by simp [cellAt] at hc) (fun i j i' j' c c' k hc => by simp [cellAt] at hc) (fun i j c k hc => by simp [cellAt] at hc)
      refine how.congr (fun k => ⟨fun hk => ?_, fun ⟨o', ho', hk⟩ => by rw [g1] at ho'; cases ho'⟩)
      rcases hk with hk | ⟨i, j, c, hc, hk⟩
      · simp [Value.ownBlock] at hk
      · simp [cellAt] at hc
  have hFx : ∀ i k, gh0.F i k → ∃ o x, O i = some o ∧ look st.ob o = some x ∧ gh.F o k := fun i k ⟨o, ho, hk⟩ => by
    obtain ⟨_, _, x, hx⟩ := h5 i o ho
    exact ⟨o, x, ho, hx, hk⟩
  have hS0 : ∀ i k, gh0.F i k → ¬ gh0.S k := fun i k hk hS => by
    obtain ⟨o, x, ho, hx, hk⟩ := hFx i k hk
    rcases hS with hS | ⟨o', x', hx', hk'⟩
    · exact h.nS o x k hx hk hS
    · obtain ⟨g1, g2⟩ := h6 o' x' hx'
      have := h.dis o o' x x' k hx g1 hk hk'
      exact g2 i (this ▸ ho)
  have hrep : Rep P C0 No ⟨us.size, zipT 0 (argsV 0 as), argsOb 0 as⟩ ⟨us, []⟩ w gh0 := {
    obs := fun o b hb => by
      obtain ⟨e, es, rfl, _, hi⟩ := (argsOb_get 0 o b).1 hb
      exact .row ((hmv o e es hi).2.mono (fun k hk => Or.inl hk))
    dis := fun o o' b b' k hb hb' hk hk' => by
      obtain ⟨o1, x1, g1, g2, g3⟩ := hFx o k hk
      obtain ⟨o2, x2, g4, g5, g6⟩ := hFx o' k hk'
      have := h.dis o1 o2 x1 x2 k g2 g5 g3 g6
      subst this
      exact h4 o o' o1 g1 g4
    sS := fun k hk => by
      rcases hk with hk | ⟨o, x, hx, hk⟩
      · exact h.sS k hk
      · exact (h.obs o x (h6 o x hx).1).lt k hk
    nS := fun o b k hb hk => hS0 o k hk
    wrR := fun o e es k hb hk => Or.inr (fun f => by obtain ⟨o1, ho1, hk1⟩ := hk; exact ⟨o, o1, ho1, hk1⟩)
    wrB := fun o cs k hb => by obtain ⟨e, es, he, _⟩ := (argsOb_get 0 o _).1 hb; cases he
    wrC := fun o cs j hb => by obtain ⟨e, es, he, _⟩ := (argsOb_get 0 o _).1 hb; cases he
    kept := World.keptBut_refl w _
    pins := fun o x hp hn => by
      simp only [C0] at hp
      split at hp
      · cases hp; rfl
      · cases hp
    tms := fun t => by
      have e1 : St.get ⟨us.size, zipT 0 (argsV 0 as), argsOb 0 as⟩ t = ((argsV 0 as)[t]?).getD .dead := by
        unfold St.get; simp only [look_zipT, Nat.zero_le, if_true, Nat.sub_zero]
      rw [e1, argsV_get]
      cases hi : as[t]? with
      | none => exact .dead
      | some x =>
        cases x with
        | ro v0 =>
          have hlt := (List.getElem?_eq_some_iff.1 hi).1
          have hvt : vs[t]? = some vs[t] := List.getElem?_eq_getElem (by omega)
          exact lend_sound (L := ⟨[], fun _ => undef, pvOf C, st1.ob, argsOb 0 as⟩) (fun k o hk => by simp at hk) (fun o v hv hso => by
            obtain ⟨x, hx, rfl⟩ := Option.map_eq_some_iff.1 hv
            have := h.pins o x hx (fun e => by rw [e] at hso; cases hso)
            rw [← this]) h.obs (fun k hk => Or.inl hk) (fun o x k hx hk => Or.inr ⟨o, x, hx, hk⟩) (fun o x hx => (h6 o x hx).1) (hv t _ hvt) (lendAll_get hl t _ _ hvt hi)
        | mv e es =>
          obtain ⟨⟨A, c, e2⟩, _⟩ := hmv t e es hi
          simp only [Option.map_some, Option.getD_some, Nat.zero_add]
          have hx : look (argsOb 0 as) t = some (.row e es) := (argsOb_get 0 t _).2 ⟨e, es, rfl, Nat.zero_le _, by simpa using hi⟩
          have hh := VR.whole (P := P) (w := w) (gh := gh0) (n := es.length) hx e2 (Nat.le_refl _)
          show VR P w gh0 _ _ (us.getD t undef)
          rw [e2]; exact hh
    nt := Nat.le_refl _
    dfs := rfl
    xl := fun k hk => hk.elim
    xS := fun k hk => hk.elim
    xF := fun o b k hb hk => hk.elim
    xW := fun k hk => hk.elim
    s0S := fun k hk => hk
    sZ := fun k _ => trivial }
  refine (hs.2 gh0.hv (fun o => (gh0.bb o, gh0.bo o)) C0 w gh0 us rfl (fun o ho => by simp only [C0, ho]; rfl) (fun o ho => by simp only [C0, ho]; rfl) (fun _ _ => trivial) (by simp only [argsV_length]; exact hasl) hrep).mono (fun e w' he => ?_)
  obtain ⟨vs', rs, st', a', gh', G, rfl, hpost, hres, hR⟩ := he
  refine ⟨tupV vs', rfl, ?_⟩
  -- the caller's, as it stands behind the call
  have hk := hR.kept
  have hX1 : ∀ k, (∃ i o, O i = some o ∧ gh.F o k) → (No k ∨ ∃ i o, O i = some o ∧ gh.F o k) := fun k hk => Or.inr hk
  have heap : ∀ k, k < w.heap.size → ¬ (∃ i o, O i = some o ∧ gh.F o k) → w'.heap[k]? = w.heap[k]? := fun k hk' hn =>
    keptBut_heap hk hk' (fun f ⟨b, f', e, hm⟩ => by cases e; exact hn hm) (fun ⟨b, f', e, _⟩ => by cases e)
  have hRc := h1.world hk.size (fun o x k hx hk' => heap k ((h1.obs o x hx).lt k hk') (fun hm => h1.xF o x k hx (hX1 k hm) hk')) (fun k hk' => heap k (h1.sS k hk') (fun hm => h1.xS k (hX1 k hm) hk'))
    (World.keptBut_mono (fun p ⟨b, f, e, hm⟩ => ⟨b, f, e, (h1.xW b (hX1 b hm)).imp id (fun hh => hh f)⟩) hk)
  have hw0 := h1.size
  have hin := hRc.inhand (X' := inHand rs G) (fun k hk' => hR.xl k hk') (fun k hk' hS => by
      rcases hR.xW k hk' with hw | hw
      · have := h1.sS k hS; simp only [C0] at hw; omega
      · exact h1.xS k (hX1 k (hw 0)) hS)
    (fun o b k hb hk' hF => by
      rcases hR.xW k hk' with hw | hw
      · have := (h1.obs o b hb).lt k hF; simp only [C0] at hw; omega
      · exact h1.xF o b k hb (hX1 k (hw 0)) hF)
    (fun k hk' => by
      rcases hR.xW k hk' with hw | hw
      · exact Or.inl (Nat.le_trans hw0 hw)
      · exact h1.xW k (hX1 k (hw 0)))
  have hres' : Res P w' gh.S rs vs' G := ⟨hres.len, hres.one, hres.agg, hres.sz, hres.c1, fun i r v j c hr' hv' hc => (hres.ow i r v j c hr' hv' hc).noSh (noShL_get (noShR_get (hns rs st' hpost) i r hr') j c hc), hres.dis⟩
  cases d with
  | none => exact ⟨_, gh, hK rs st' hpost, hin.less (fun k hk => hk.elim)⟩
  | some d =>
    obtain ⟨gh2, hr2, hn2, hl2, hv2, _, _⟩ := layR_sound d rs vs' G 0 hin hpin hres' (fun b hb => hb)
    refine ⟨_, gh2, hK rs st' hpost, ?_⟩
    simp only [after]
    refine (hr2.less (X' := No) (fun k hk => hk.elim)).set (by rw [hn2, hnt]; exact hd d rfl) ?_
    match rs, vs', hl2, hv2 with
    | [], [], _, hv2 => exact .tup rfl (fun i v hi => by simp [vsR] at hi)
    | [r], [v], _, hv2 => exact hv2 0 _ _ rfl rfl
    | r :: r2 :: rs, v :: v2 :: vs, hl2, hv2 =>
      refine .tup (by simp [← hl2]) (fun i x hi => ?_)
      have hil := (List.getElem?_eq_some_iff.1 hi).1
      have hvi : (v :: v2 :: vs)[i]? = some (v :: v2 :: vs)[i] := List.getElem?_eq_getElem (by omega)
      have := hv2 i x _ hi hvi
      simpa [Array.getD_eq_getD_getElem?, hvi] using this
    | [], v :: vs, hl2, _ => simp [vsR] at hl2
    | r :: rs, [], hl2, _ => simp [vsR] at hl2
    | [r], v :: v2 :: vs, hl2, _ => simp [vsR] at hl2
    | r :: r2 :: rs, [v], hl2, _ => simp [vsR] at hl2
end
end Go.Proofs.YtaodmogcjpainaaDoor.AW
