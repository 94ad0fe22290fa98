/- What follows of what is known; loops; rows that are written no more. No condition. -/
import Derived.Test.YtaodmogcjpainaaDoorA18
namespace Go.Proofs.YtaodmogcjpainaaDoor.AW
open Go.RowKit
set_option linter.unusedSimpArgs false
set_option linter.unusedVariables false

theorem wp_loop2 {P : Program} {Q : Exit → Act → World → Prop} {a : Act} {w : World} {c : Code} (I : Nat → Act → World → Prop) (n₀ : Nat) (h₀ : I n₀ a w)
    (round : ∀ n a w, I n a w → c.wp P (Exit.then (fun a' w' => ∃ m, m < n ∧ I m a' w') Q) a w) : (Code.loop c).wp P Q a w := by
  intro b k cs
  have key : ∀ n a w, I n a w →
      ∃ e a' w', Q e a' w' ∧ Arrives P (lone (b.at a (.code c :: .inLoop c :: k)) cs w) b k cs e a' w' := by
    intro n
    induction n using Nat.strongRecOn with
    | _ n ih =>
      intro a w hI
      obtain ⟨e, a₁, w₁, hq, harr⟩ := round n a w hI b (.inLoop c :: k) cs
      cases e with
      | normal =>
        obtain ⟨m, hlt, hI₁⟩ := hq
        obtain ⟨e₂, a₂, w₂, hq₂, harr₂⟩ := ih m hlt a₁ w₁ hI₁
        exact ⟨e₂, a₂, w₂, hq₂, .of_steps (Steps.trans harr (.one step_inLoop)) harr₂⟩
      | exit id => exact ⟨_, a₁, w₁, hq, .pass (x := .inLoop c) rfl (fun _ _ => .inl (by simp)) harr⟩
      | goto l => exact ⟨_, a₁, w₁, hq, .pass (x := .inLoop c) rfl (fun _ _ => .inl (by simp)) harr⟩
      | ret => exact ⟨_, a₁, w₁, hq, .pass (x := .inLoop c) rfl (fun _ _ => .inl (by simp)) harr⟩
      | panic ch => exact ⟨_, a₁, w₁, hq, .pass (x := .inLoop c) rfl (fun _ _ => .inl (by simp)) harr⟩
      | outgrown => exact ⟨_, a₁, w₁, hq, .pass (x := .inLoop c) rfl (fun _ _ => .inl (by simp)) harr⟩
  obtain ⟨e, a', w', hq, harr⟩ := key n₀ a w h₀
  exact ⟨e, a', w', hq, .of_steps (.one step_loop) harr⟩

/-- Where the one is known, the other is. -/
def Ent (P : Program) (C : Cx) (st st' : St) : Prop := ∀ (a : Act) (w : World) (gh : Gh), Rep P C No st a w gh → ∃ gh', Rep P C No st' a w gh'

def subT (st : St) : List (Nat × V) → Prop
  | [] => True
  | (t, v) :: r => st.get t = v ∧ subT st r
def subB (st : St) : List (Nat × Ob) → Prop
  | [] => True
  | (o, x) :: r => look st.ob o = some x ∧ subB st r

mutual
/-- All objects that are spoken of are there. -/
def hereV (ob : List (Nat × Ob)) : V → Prop
  | .ref o _ _ => (look ob o).isSome = true
  | .bp o _ => (look ob o).isSome = true
  | .rp o _ _ _ => (look ob o).isSome = true
  | .agg vs => hereL ob vs
  | .tup vs => hereL ob vs
  | .cond _ v => hereV ob v
  | _ => True
def hereL (ob : List (Nat × Ob)) : List V → Prop
  | [] => True
  | v :: r => hereV ob v ∧ hereL ob r
end
def hereT (ob : List (Nat × Ob)) : List (Nat × V) → Prop
  | [] => True
  | (_, v) :: r => hereV ob v ∧ hereT ob r

section
variable {P : Program} {w w1 : World} {C : Cx} {X : Nat → Prop} {gh : Gh} {st st' st'' : St} {a : Act} {v : V} {u : Value} {ob ob' : List (Nat × Ob)} {S : Nat → Prop} {K : St → Prop}

theorem Ent.refl : Ent P C st st := fun a w gh h => ⟨gh, h⟩
theorem Ent.trans (h : Ent P C st st') (h' : Ent P C st' st'') : Ent P C st st'' := fun a w gh hr => by
  obtain ⟨g, h1⟩ := h a w gh hr
  exact h' a w g h1

theorem hereL_get {ob : List (Nat × Ob)} : ∀ {vs : List V}, hereL ob vs → ∀ (i : Nat) (v : V), vs[i]? = some v → hereV ob v
  | [], _, i, v, h => by simp at h
  | x :: r, h, 0, v, hv => by simp at hv; subst hv; exact h.1
  | x :: r, h, i + 1, v, hv => hereL_get h.2 i v (by simpa using hv)

theorem VR.part (h : VR P w gh ob v u) (hh : hereV ob' v) (hs : ∀ o x, look ob' o = some x → look ob o = some x) : VR P w gh ob' v u := by
  induction h with
  | dead => exact .dead
  | und => exact .und
  | sc h => exact .sc h
  | nil => exact .nil
  | imm h => exact .imm h
  | ref hx hn hle =>
    obtain ⟨y, hy⟩ := Option.isSome_iff_exists.1 hh
    have := hs _ _ hy; rw [hx] at this; cases this
    exact .ref hy hn hle
  | bp hx =>
    obtain ⟨y, hy⟩ := Option.isSome_iff_exists.1 hh
    have := hs _ _ hy; rw [hx] at this; cases this
    exact .bp hy
  | rp hx hn =>
    obtain ⟨y, hy⟩ := Option.isSome_iff_exists.1 hh
    have := hs _ _ hy; rw [hx] at this; cases this
    exact .rp hy hn
  | ip U hs' h => exact .ip U hs' h
  | agg hl h1 h ih => exact .agg hl h1 fun i v hv => ih i v hv (hereL_get hh i v hv)
  | tup hl h ih => exact .tup hl fun i v hv => ih i v hv (hereL_get hh i v hv)
  | cond ht hf ih => exact .cond (fun hc => ih hc hh) hf

theorem subT_get : ∀ {l : List (Nat × V)}, subT st l → ∀ t v, look l t = some v → st.get t = v
  | [], _, t, v, h => by simp [look] at h
  | (k, x) :: r, h, t, v, hv => by
    simp only [look] at hv
    by_cases e : t = k
    · rw [if_pos e] at hv; cases hv; rw [e]; exact h.1
    · rw [if_neg e] at hv; exact subT_get h.2 t v hv
theorem subB_get : ∀ {l : List (Nat × Ob)}, subB st l → ∀ o x, look l o = some x → look st.ob o = some x
  | [], _, t, v, h => by simp [look] at h
  | (k, x) :: r, h, t, v, hv => by
    simp only [look] at hv
    by_cases e : t = k
    · rw [if_pos e] at hv; cases hv; rw [e]; exact h.1
    · rw [if_neg e] at hv; exact subB_get h.2 t v hv
theorem hereT_get {ob : List (Nat × Ob)} : ∀ {l : List (Nat × V)}, hereT ob l → ∀ t v, look l t = some v → hereV ob v
  | [], _, t, v, h => by simp [look] at h
  | (k, x) :: r, h, t, v, hv => by
    simp only [look] at hv
    by_cases e : t = k
    · rw [if_pos e] at hv; cases hv; exact h.1
    · rw [if_neg e] at hv; exact hereT_get h.2 t v hv

theorem Rep.part (h : Rep P C X st a w gh) (hb : ∀ o x, look st'.ob o = some x → look st.ob o = some x) (ht : ∀ t, VR P w gh st'.ob (st'.get t) (a.tmps.getD t undef)) (hn : st'.nt ≤ st.nt) : Rep P C X st' a w gh where
  obs := fun o b ho => h.obs o b (hb o b ho)
  dis := fun o o' b b' k ho ho' => h.dis o o' b b' k (hb _ _ ho) (hb _ _ ho')
  sS := h.sS
  nS := fun o b k ho => h.nS o b k (hb _ _ ho)
  wrR := fun o e es k ho => h.wrR o e es k (hb _ _ ho)
  wrB := fun o cs k ho => h.wrB o cs k (hb _ _ ho)
  wrC := fun o cs j ho => h.wrC o cs j (hb _ _ ho)
  kept := h.kept
  pins := fun o x hp hn => h.pins o x hp (fun e => by
    cases hq : look st'.ob o with
    | none => exact hn hq
    | some y => have := hb _ _ hq; rw [e] at this; cases this)
  tms := ht
  nt := Nat.le_trans hn h.nt
  dfs := h.dfs
  xl := h.xl
  xS := h.xS
  xF := fun o b k ho => h.xF o b k (hb _ _ ho)
  xW := h.xW
  s0S := h.s0S
  sZ := h.sZ

/-- Less is known. -/
theorem Ent.weak (h1 : subT st st'.tm) (h2 : subB st st'.ob) (h3 : st'.nt ≤ st.nt) (h4 : hereT st'.ob st'.tm) : Ent P C st st' := fun a w gh h => by
  refine ⟨gh, h.part (subB_get h2) (fun t => ?_) h3⟩
  unfold St.get
  cases hq : look st'.tm t with
  | none => exact .dead
  | some v =>
    have e := subT_get h1 t v hq
    have := h.tms t
    rw [e] at this
    exact this.part (hereT_get h4 t v hq) (subB_get h2)

theorem Tri.ent {c : Code} {Q : Exit → St → Prop} (h : Tri P C st' c Q) (he : Ent P C st st') : Tri P C st c Q := fun a w gh hR => by
  obtain ⟨gh', hR'⟩ := he a w gh hR
  exact h a w gh' hR'

theorem Tri.mono {c : Code} {Q Q' : Exit → St → Prop} (h : Tri P C st c Q) (hq : ∀ e st, Q e st → Q' e st) : Tri P C st c Q' := fun a w gh hR =>
  Code.wp_mono (fun e a' w' ⟨s, g, hk, hr⟩ => ⟨s, g, hq _ _ hk, hr⟩) (h a w gh hR)

/-- .. also behind it. -/
theorem Tri.post {c : Code} {Q Q' : Exit → St → Prop} (h : Tri P C st c Q) (hq : ∀ e st, Q e st → ∃ st', Ent P C st st' ∧ Q' e st') : Tri P C st c Q' := fun a w gh hR =>
  Code.wp_mono (fun e a' w' ⟨s, g, hk, hr⟩ => by
    obtain ⟨s', he, hk'⟩ := hq _ _ hk
    obtain ⟨g', hr'⟩ := he _ _ _ hr
    exact ⟨s', g', hk', hr'⟩) (h a w gh hR)

theorem Tri.loop {c : Code} {Q : Exit → St → Prop} {ι : Type} (Inv : ι → Prop) (f : ι → St) (m : ι → Nat) (i0 : ι) (hi : Inv i0) (h0 : Ent P C st (f i0))
    (round : ∀ i, Inv i → Tri P C (f i) c (Exit.seq (fun st' => ∃ j, Inv j ∧ m j < m i ∧ Ent P C st' (f j)) Q)) : Tri P C st (.loop c) Q := fun a w gh hR => by
  obtain ⟨gh0, hR0⟩ := h0 a w gh hR
  refine wp_loop2 (fun n a w => ∃ i gh, Inv i ∧ m i = n ∧ Rep P C No (f i) a w gh) (m i0) ⟨i0, gh0, hi, rfl, hR0⟩ (fun n a w ⟨i, gh, hI, hm, hr⟩ => ?_)
  refine Code.wp_mono (fun e a' w' hq => ?_) (round i hI a w gh hr)
  cases e with
  | normal =>
    obtain ⟨s, g, ⟨j, hj, hlt, he⟩, hr'⟩ := hq
    obtain ⟨g', hr''⟩ := he _ _ _ hr'
    exact ⟨m j, hm ▸ hlt, j, g', hj, rfl, hr''⟩
  | _ => exact hq

/-- A sequence with a stop in between. -/
theorem aSeq {x y : Code} {Q : Exit → St → Prop} {ι : Type} (f : ι → St) (h1 : Tri P C st x (Exit.seq (fun st' => ∃ i, Ent P C st' (f i)) Q)) (h2 : ∀ i, Tri P C (f i) y Q) : Tri P C st (.seq x y) Q :=
  Tri.seq (h1.mono fun e s hs => by
    cases e with
    | normal => obtain ⟨i, he⟩ := hs; exact (h2 i).ent he
    | _ => exact hs)
end

/-! ### Rows that are written no more -/
mutual
def shD : D → D
  | .row _ e es => .row true e (shLL es)
  | .sc v => .sc v
  | .dead => .dead
def shLL : List (List D) → List (List D)
  | [] => []
  | l :: r => shL l :: shLL r
def shL : List D → List D
  | [] => []
  | d :: r => shD d :: shL r
end

theorem shL_map : ∀ l : List D, shL l = l.map shD
  | [] => rfl
  | d :: r => by simp [shL, shL_map r]
theorem shLL_map : ∀ l : List (List D), shLL l = l.map shL
  | [] => rfl
  | d :: r => by simp [shLL, shLL_map r]

theorem cellAt_sh {es : List (List D)} {i j : Nat} : cellAt (shLL es) i j = (cellAt es i j).map shD := by
  unfold cellAt
  rw [shLL_map, List.getElem?_map]
  cases es[i]? with
  | none => rfl
  | some l => simp only [Option.map_some, Option.bind_some]; rw [shL_map, List.getElem?_map]

section
variable {P : Program} {w w1 : World} {C : Cx} {X : Nat → Prop} {gh : Gh} {st st' st'' : St} {a : Act} {v : V} {u : Value} {ob ob' : List (Nat × Ob)} {S S' : Nat → Prop} {K : St → Prop} {d : D} {F : Nat → Prop}

theorem Ro.sh (h : Ro P w S d u) : Ro P w S (shD d) u := by
  induction h with
  | dead h => exact .dead h
  | sc h => exact .sc h
  | @row sh e es A c U hl hm hsz hA hU ih =>
    have hlen : (shLL es).length = es.length := by rw [shLL_map, List.length_map]
    simp only [shD]
    rw [← hlen]
    refine .row U (by omega) hm (fun l hl => ?_) (fun h0 => ?_) (fun i j d hd => ?_)
    · rw [shLL_map] at hl
      obtain ⟨l', hl', rfl⟩ := List.mem_map.1 hl
      rw [shL_map, List.length_map]; exact hsz l' hl'
    · obtain ⟨ad, h1, h2, h3, h4⟩ := hA (by omega)
      refine ⟨ad, h1, h2, h3, fun i j d hd => ?_⟩
      rw [cellAt_sh] at hd
      obtain ⟨d', hd', rfl⟩ := Option.map_eq_some_iff.1 hd
      exact h4 i j d' hd'
    · rw [cellAt_sh] at hd
      obtain ⟨d', hd', rfl⟩ := Option.map_eq_some_iff.1 hd
      exact ih i j d' hd'

end
end Go.Proofs.YtaodmogcjpainaaDoor.AW
