/- Calls that write into variables of the caller's. No condition. -/
import Derived.Test.YtaodmogcjpainaaDoorA31
namespace Go.Proofs.YtaodmogcjpainaaDoor.AW
open Go.RowKit
set_option linter.unusedSimpArgs false
set_option linter.unusedVariables false

/-- What is handed over to be looked at, or a variable that is handed over to be written. -/
def lendsX (L : Lend) (Mb : List (Nat × Nat)) (v t : V) : Prop := match v with
  | .bp o j => match t with
    | .bp k j' => look Mb k = some o ∧ j = j'
    | _ => False
  | .ip ch j => match t with
    | .ip ch' j' => ch = ch' ∧ j = j'
    | _ => False
  | v => lendsTo L v t
def lendAllX (L : Lend) (Mb : List (Nat × Nat)) : List V → List V → Prop
  | v :: vs, t :: ts => lendsX L Mb v t ∧ lendAllX L Mb vs ts
  | [], [] => True
  | _, _ => False

/-- The objects that are written are the caller's, whole. -/
def ioIs (st : St) (iob : List (Nat × Ob)) : List (Nat × Nat) → Prop
  | [] => True
  | (k, o) :: r => (match look st.ob o with
    | some (.box []) => False
    | some x => look iob k = some x
    | _ => False) ∧ isPin k = true ∧ ioIs st iob r
def rowsAre (st : St) : List (Nat × Nat) → Prop
  | [] => True
  | (k, o) :: r => (match look st.ob o with
    | some (.row _ _) => True
    | _ => False) ∧ rowsAre st r
/-- They are of the same make as before. -/
def ioLike (iob ob' : List (Nat × Ob)) : List (Nat × Nat) → Prop
  | [] => True
  | (k, _) :: r => (match look iob k, look ob' k with
    | some x, some y => x.like y
    | _, _ => False) ∧ ioLike iob ob' r

section
variable {P : Program} {w w1 : World} {C : Cx} {X : Nat → Prop} {gh gh' : Gh} {st st' st'' : St} {a : Act} {v : V} {u : Value} {ob ob' : List (Nat × Ob)} {S S' : Nat → Prop} {K : St → Prop} {d : D} {F : Nat → Prop}

theorem lendAllX_get {L : Lend} {Mb : List (Nat × Nat)} : ∀ {vs ts : List V}, lendAllX L Mb vs ts → vs.length = ts.length ∧ ∀ (i : Nat) (v t : V), vs[i]? = some v → ts[i]? = some t → lendsX L Mb v t
  | [], [], _ => ⟨rfl, fun i v t h => by simp at h⟩
  | v :: vs, t :: ts, h => by
    obtain ⟨h1, h2⟩ := lendAllX_get h.2
    refine ⟨by simp [h1], fun i v' t' hv ht => ?_⟩
    cases i with
    | zero => simp at hv ht; subst hv; subst ht; exact h.1
    | succ i => exact h2 i v' t' (by simpa using hv) (by simpa using ht)
  | [], _ :: _, h => h.elim
  | _ :: _, [], h => h.elim

theorem ioIs_mem {iob : List (Nat × Ob)} : ∀ {M : List (Nat × Nat)}, ioIs st iob M → ∀ k o, (k, o) ∈ M → isPin k = true ∧ ∃ x, look st.ob o = some x ∧ look iob k = some x ∧ x ≠ .box []
  | [], _, k, o, h => by simp at h
  | (k', o') :: r, h, k, o, hm => by
    obtain ⟨h1, h2, h3⟩ := h
    rcases List.mem_cons.1 hm with he | hm
    · cases he
      refine ⟨h2, ?_⟩
      split at h1
      · exact h1.elim
      · rename_i x hne hl; exact ⟨x, hl, h1, hne⟩
      · exact h1.elim
    · exact ioIs_mem h3 k o hm

theorem rowsAre_mem : ∀ {M : List (Nat × Nat)}, rowsAre st M → ∀ k o, (k, o) ∈ M → ∃ e es, look st.ob o = some (.row e es)
  | [], _, k, o, h => by simp at h
  | (k', o') :: r, h, k, o, hm => by
    obtain ⟨h1, h3⟩ := h
    rcases List.mem_cons.1 hm with he | hm
    · cases he
      split at h1
      · rename_i e es hl; exact ⟨e, es, hl⟩
      · exact h1.elim
    · exact rowsAre_mem h3 k o hm

theorem ioLike_mem {iob ob' : List (Nat × Ob)} : ∀ {M : List (Nat × Nat)}, ioLike iob ob' M → ∀ k o, (k, o) ∈ M → ∃ x y, look iob k = some x ∧ look ob' k = some y ∧ x.like y
  | [], _, k, o, h => by simp at h
  | (k', o') :: r, h, k, o, hm => by
    obtain ⟨h1, h3⟩ := h
    rcases List.mem_cons.1 hm with he | hm
    · cases he
      split at h1
      · rename_i x y hl hl'
        exact ⟨x, y, hl, hl', h1⟩
      · exact h1.elim
    · exact ioLike_mem h3 k o hm

theorem newObs_nowX {ob N : List (Nat × Ob)} (hN : ∀ k x, look N k = some x → look ob k = some x) : ∀ (M : List (Nat × Nat)) {iob : List (Nat × Ob)}, ioLike iob N M → newObs ob M = newObs N M ∧ ioLike iob ob M
  | [], _, _ => ⟨rfl, trivial⟩
  | (k, o) :: r, iob, h => by
    obtain ⟨h1, h2⟩ := h
    obtain ⟨g1, g2⟩ := newObs_nowX hN r h2
    split at h1
    · rename_i x y hi hn
      have := hN _ _ hn
      refine ⟨by simp only [newObs, this, hn, g1], ?_, g2⟩
      simp only [hi, this]; exact h1
    · exact h1.elim

/-- What a slot holds, when some objects were written and more stands still. -/
theorem VR.multiX {os : List Nat} (h : VR P w gh ob v u) (hob : ∀ o x, look ob o = some x → ObR P w gh o x) (h1 : ∀ o x, o ∉ os → look ob o = some x → look ob' o = some x ∧ ∀ k, gh.F o k → w1.heap[k]? = w.heap[k]?)
    (h2 : ∀ o x, o ∈ os → look ob o = some x → ∃ y, look ob' o = some y ∧ x.like y) (hg : gh'.hv = gh.hv ∧ gh'.bb = gh.bb ∧ gh'.bo = gh.bo) (hSS : ∀ k, gh.S k → gh'.S k) (hS : ∀ k, gh.S k → w1.heap[k]? = w.heap[k]?) :
    VR P w1 gh' ob' (killI os v) u := by
  induction h with
  | dead => exact .dead
  | und => exact .und
  | sc h => exact .sc h
  | nil => exact .nil
  | imm h => exact .imm ((h.move hS).mono hSS)
  | @ref o n p x e es A c hx hn hle =>
    by_cases ho : o ∈ os
    · cases p with
      | cons q p =>
        have : os.contains o = true := by simpa using ho
        simp only [killI, this, if_true]; exact .dead
      | nil =>
        simp only [killI]
        obtain ⟨y, g2, g3⟩ := h2 o x ho hx
        cases x with
        | box cs => simp [NavO] at hn
        | row e0 es0 =>
          obtain ⟨rfl, rfl, hv⟩ := navO_nil hn
          cases y with
          | box cs => simp [Ob.like] at g3
          | row e1 es1 =>
            simp only [Ob.like] at g3
            obtain ⟨g4, g5⟩ := g3
            rw [g5] at hv hle
            exact VR.whole g2 (by rw [hg.1, hv]) hle
    · obtain ⟨g1, g2⟩ := h1 o x ho hx
      have : os.contains o = false := by simpa using ho
      have hn' : NavO P w1 gh' o x p (.row false e es) (.slice A es.length c) := ((hob o x hx).navO hn g2).ghc hg.1 hg.2.1 hg.2.2
      cases p with
      | nil => simp only [killI]; exact .ref g1 hn' hle
      | cons q p => simp only [killI, this, Bool.false_eq_true, if_false]; exact .ref g1 hn' hle
  | @bp o j cs hx =>
    simp only [killI]
    have hbx : ∃ cs', look ob' o = some (.box cs') := by
      by_cases ho : o ∈ os
      · obtain ⟨y, g1, g2⟩ := h2 o _ ho hx
        cases y with
        | box cs' => exact ⟨cs', g1⟩
        | row e es => simp [Ob.like] at g2
      · exact ⟨cs, (h1 o _ ho hx).1⟩
    obtain ⟨cs', hx'⟩ := hbx
    have := VR.bp (P := P) (w := w1) (gh := gh') (j := j) hx'
    rw [hg.2.1, hg.2.2] at this; exact this
  | @rp o i j p x e es ad c hx hn =>
    by_cases ho : o ∈ os
    · cases p with
      | cons q p =>
        have : os.contains o = true := by simpa using ho
        simp only [killI, this, if_true]; exact .dead
      | nil =>
        simp only [killI]
        obtain ⟨y, g2, g3⟩ := h2 o x ho hx
        cases x with
        | box cs => simp [NavO] at hn
        | row e0 es0 =>
          obtain ⟨rfl, rfl, hv⟩ := navO_nil hn
          cases y with
          | box cs => simp [Ob.like] at g3
          | row e1 es1 =>
            simp only [Ob.like] at g3
            obtain ⟨g4, g5⟩ := g3
            subst g4
            rw [g5] at hv
            have hn' : NavO P w1 gh' o (.row e0 es1) [] (.row false e0 es1) (.slice (some ad) es1.length c) := by
              simp only [NavO, hg.1, hv]; exact .nil
            exact .rp g2 hn'
    · obtain ⟨g1, g2⟩ := h1 o x ho hx
      have : os.contains o = false := by simpa using ho
      have hn' : NavO P w1 gh' o x p (.row false e es) (.slice (some ad) es.length c) := ((hob o x hx).navO hn g2).ghc hg.1 hg.2.1 hg.2.2
      cases p with
      | nil => simp only [killI]; exact .rp g1 hn'
      | cons q p => simp only [killI, this, Bool.false_eq_true, if_false]; exact .rp g1 hn'
  | ip U hs h => exact .ip U (hSS _ hs) (fun q d hd => ⟨(World.cell?_of_block (a := ⟨_, _, none⟩) (hS _ hs)).trans (h q d hd).1, ((h q d hd).2.move hS).mono hSS⟩)
  | agg hl h1' h ih =>
    simp only [killI]
    refine .agg (by rw [killIL_length]; exact hl) h1' (fun i v hv => ?_)
    rw [killIL_get] at hv
    obtain ⟨v0, hv0, rfl⟩ := Option.map_eq_some_iff.1 hv
    exact ih i v0 hv0
  | tup hl h ih =>
    simp only [killI]
    refine .tup (by rw [killIL_length]; exact hl) (fun i v hv => ?_)
    rw [killIL_get] at hv
    obtain ⟨v0, hv0, rfl⟩ := Option.map_eq_some_iff.1 hv
    exact ih i v0 hv0
  | cond ht hf ih => simp only [killI]; exact .cond ih hf

theorem Rep.multiX (h : Rep P C X st a w gh) (os : List Nat) (gh' : Gh) (X' : Nat → Prop)
    (hlk2 : ∀ o, o ∉ os → look st'.ob o = look st.ob o) (htm : ∀ t, st'.get t = killI os (st.get t)) (hnt : st'.nt = st.nt)
    (hos : ∀ o, o ∈ os → ∃ x y, look st.ob o = some x ∧ look st'.ob o = some y ∧ x.like y)
    (hg : gh'.hv = gh.hv ∧ gh'.bb = gh.bb ∧ gh'.bo = gh.bo) (hout : ∀ o, o ∉ os → gh'.F o = gh.F o)
    (hsz : w.heap.size ≤ w1.heap.size) (hFo : ∀ o x k, o ∉ os → look st.ob o = some x → gh.F o k → w1.heap[k]? = w.heap[k]?) (hS : ∀ k, gh.S k → w1.heap[k]? = w.heap[k]?)
    (hk : w.keptBut w1 (fun p => ∃ b f, p = .cell b f ∧ (C.w0.heap.size ≤ b ∨ C.may b f))) (hSS : ∀ k, gh.S k → gh'.S k)
    (hS1 : ∀ k, gh'.S k → k < w1.heap.size ∧ C.z k ∧ (gh.S k ∨ (∃ o', o' ∈ os ∧ gh.F o' k) ∨ X k ∨ w.heap.size ≤ k))
    (hobs : ∀ o, o ∈ os → ∀ y, look st'.ob o = some y → ObR P w1 gh' o y)
    (hF1 : ∀ o, o ∈ os → ∀ k, gh'.F o k → (∃ o', o' ∈ os ∧ gh.F o' k) ∨ X k ∨ w.heap.size ≤ k) (hd1 : ∀ o o' k, o ∈ os → o' ∈ os → gh'.F o k → gh'.F o' k → o = o')
    (hnS : ∀ o k, o ∈ os → gh'.F o k → ¬ gh'.S k)
    (hwr : ∀ o k y, o ∈ os → look st'.ob o = some y → gh'.F o k → (∀ cs, y = .box cs → k ≠ gh.bb o) → C.w0.heap.size ≤ k ∨ ∀ f, C.may k f)
    (hX' : ∀ k, X' k → k < w1.heap.size ∧ ¬ gh'.S k ∧ (C.w0.heap.size ≤ k ∨ ∀ f, C.may k f) ∧ ((∃ o', o' ∈ os ∧ gh.F o' k) ∨ X k ∨ w.heap.size ≤ k)) (hXF : ∀ o k, o ∈ os → gh'.F o k → ¬ X' k) :
    Rep P C X' st' a w1 gh' := by
  have cls : ∀ o', o' ∉ os → ∀ x k, look st.ob o' = some x → gh.F o' k → ¬ ((∃ o, o ∈ os ∧ gh.F o k) ∨ X k ∨ w.heap.size ≤ k) := by
    intro o' ho' x k hx hk' hh
    rcases hh with ⟨o, ho, hF⟩ | hh | hh
    · obtain ⟨y, _, hl, _⟩ := hos o ho
      have := h.dis o' o x _ k hx hl hk' hF
      subst this; exact ho' ho
    · exact h.xF o' x k hx hh hk'
    · have := (h.obs o' x hx).lt k hk'; omega
  exact {
    obs := fun o x hx => by
      by_cases ho : o ∈ os
      · exact hobs o ho x hx
      · rw [hlk2 o ho] at hx
        have := (h.obs o x hx).world (fun k hk => hFo o x k ho hx hk) hS
        cases this with
        | row h => refine .row ?_; rw [hout o ho, hg.1]; exact h.mono hSS
        | box xs G hb hl h1 hc hxx dis nb hF => exact .box xs G (by rw [hg.2.1]; exact hb) hl h1 (by rw [hg.2.1, hg.2.2]; exact hc) (fun j d hd => (hxx j d hd).mono hSS) dis (by rw [hg.2.1]; exact nb) (fun k => by rw [hout o ho, hg.2.1]; exact hF k)
    dis := fun o1 o2 b1 b2 k hb1 hb2 hk1 hk2 => by
      by_cases e1 : o1 ∈ os <;> by_cases e2 : o2 ∈ os
      · exact hd1 o1 o2 k e1 e2 hk1 hk2
      · rw [hout _ e2] at hk2; rw [hlk2 _ e2] at hb2; exact (cls o2 e2 b2 k hb2 hk2 (hF1 o1 e1 k hk1)).elim
      · rw [hout _ e1] at hk1; rw [hlk2 _ e1] at hb1; exact (cls o1 e1 b1 k hb1 hk1 (hF1 o2 e2 k hk2)).elim
      · rw [hout _ e1] at hk1; rw [hout _ e2] at hk2; rw [hlk2 _ e1] at hb1; rw [hlk2 _ e2] at hb2; exact h.dis o1 o2 b1 b2 k hb1 hb2 hk1 hk2
    sS := fun k hk => (hS1 k hk).1
    nS := fun o b k hb hk hs => by
      by_cases e1 : o ∈ os
      · exact hnS o k e1 hk hs
      · rw [hout _ e1] at hk; rw [hlk2 _ e1] at hb
        rcases (hS1 k hs).2.2 with hs' | hs'
        · exact h.nS o b k hb hk hs'
        · exact cls o e1 b k hb hk hs'
    wrR := fun o e es k hb hk => by
      by_cases e1 : o ∈ os
      · exact hwr o k _ e1 hb hk (fun cs hc => by cases hc)
      · rw [hout _ e1] at hk; rw [hlk2 _ e1] at hb; exact h.wrR o e es k hb hk
    wrB := fun o cs k hb hk hne => by
      rw [hg.2.1] at hne
      by_cases e1 : o ∈ os
      · exact hwr o k _ e1 hb hk (fun _ _ => hne)
      · rw [hout _ e1] at hk; rw [hlk2 _ e1] at hb; exact h.wrB o cs k hb hk hne
    wrC := fun o cs j hb hj => by
      rw [hg.2.1, hg.2.2]
      by_cases e1 : o ∈ os
      · obtain ⟨x, y, hx, hy, hl⟩ := hos o e1
        rw [hb] at hy; cases hy
        cases x with
        | row e es => simp [Ob.like] at hl
        | box cs0 => simp only [Ob.like] at hl; exact h.wrC o cs0 j hx (by omega)
      · rw [hlk2 _ e1] at hb; exact h.wrC o cs j hb hj
    kept := keptBut_old (World.keptBut_trans (World.keptBut_mono (fun p hp => Or.inl hp) h.kept) (World.keptBut_mono (fun p hp => by
      obtain ⟨b, f, rfl, hb | hb⟩ := hp
      · exact Or.inr hb
      · exact Or.inl ⟨b, f, rfl, hb⟩) hk))
    pins := fun o x hp hn => by
      rw [hg.1, hg.2.1, hg.2.2]
      exact h.pins o x hp (fun e0 => by
        by_cases e1 : o ∈ os
        · obtain ⟨_, _, hl, _⟩ := hos o e1; rw [e0] at hl; cases hl
        · rw [hlk2 _ e1] at hn; exact hn e0)
    tms := fun t => by
      rw [htm]
      refine (h.tms t).multiX h.obs (fun o x ho hx => ⟨by rw [hlk2 _ ho]; exact hx, fun k hk => hFo o x k ho hx hk⟩) (fun o x ho hx => ?_) hg hSS hS
      obtain ⟨x', y, h1, h2, h3⟩ := hos o ho
      rw [hx] at h1; cases h1
      exact ⟨y, h2, h3⟩
    nt := by rw [hnt]; exact h.nt
    dfs := h.dfs
    xl := fun k hk => (hX' k hk).1
    xS := fun k hk => (hX' k hk).2.1
    xF := fun o b k hb hk hF => by
      by_cases e1 : o ∈ os
      · exact hXF o k e1 hF hk
      · rw [hout _ e1] at hF; rw [hlk2 _ e1] at hb; exact cls o e1 b k hb hF (hX' k hk).2.2.2
    xW := fun k hk => (hX' k hk).2.2.1
    s0S := fun k hk => hSS k (h.s0S k hk)
    sZ := fun k hk => (hS1 k hk).2.1 }

theorem aCall_bx {f : FuncId} {ts : (Nat → Value) → List V} {iob : List (Nat × Ob)} {post : List RV → St → Prop} (hs : SoundAt P f ts iob post) (hpin : ∀ n, 3000 ≤ n → C.pin n = none) (hfull : C.full) (M Mr Mb : List (Nat × Nat)) (hMM : M = Mr ++ Mb) {vs : List V} {d : Option Nat}
    (hM : ioIs st iob M) (hMr : rowsAre st Mr) (hMk : (M.map (·.1)).Nodup) (hMo : (M.map (·.2)).Nodup) (hiob : iob.map (·.1) = M.map (·.1)) (hl : ∀ uf, lendAllX ⟨Mr, uf, pvOf C, [], iob⟩ Mb vs (ts uf))
    (hns : ∀ rs st', post rs st' → ioLike iob st'.ob M) (hK : ∀ rs st', post rs st' → ev (b := ⟨K⟩) (after (st.wrote M st'.ob) d rs)) : aCall P C st f vs d K := by
  refine Or.inl ⟨hs.1, fun a w gh us h hus hv hd => ?_⟩
  classical
  let os := M.map (·.2)
  let gh0 : Gh := { S := gh.S, hv := fun k => match look M k with | some o => gh.hv o | none => undef, bb := fun k => match look M k with | some o => gh.bb o | none => 0, bo := fun k => match look M k with | some o => gh.bo o | none => 0, F := fun k b => ∃ o, look M k = some o ∧ gh.F o b }
  let may : Nat → Nat → Prop := fun b f => ∃ k o x, look M k = some o ∧ look st.ob o = some x ∧ gh.F o b ∧ (∀ cs, x = .box cs → b = gh.bb o → gh.bo o ≤ f ∧ f < gh.bo o + cs.length)
  let C0 : Cx := { w0 := w, s0 := gh0.S, may := may, pin := fun k => if isPin k = true then some (gh0.hv k, gh0.bb k, gh0.bo k) else none, z := fun k => gh.S k ∨ w.heap.size ≤ k ∨ ∃ f, may k f }
  obtain ⟨hlen, hl⟩ := lendAllX_get (hl gh0.hv)
  have hosm : ∀ k o, look M k = some o → o ∈ os ∧ isPin k = true ∧ ∃ x, look st.ob o = some x ∧ look iob k = some x := fun k o hk => by
    have hm := look_mem hk
    obtain ⟨g1, x, g2, g3, _⟩ := ioIs_mem hM k o hm
    exact ⟨List.mem_map.2 ⟨(k, o), hm, rfl⟩, g1, x, g2, g3⟩
  have hiobM : ∀ k x, look iob k = some x → ∃ o, look M k = some o ∧ look st.ob o = some x := fun k x hx => by
    have h1 : k ∈ iob.map (·.1) := List.mem_map.2 ⟨(k, x), look_mem hx, rfl⟩
    rw [hiob] at h1
    obtain ⟨⟨k', o⟩, hm, rfl⟩ := List.mem_map.1 h1
    have hk := mem_look hMk hm
    obtain ⟨_, _, x', g1, g2⟩ := hosm _ _ hk
    rw [hx] at g2; cases g2
    exact ⟨o, hk, g1⟩
  have hF0 : ∀ k o, look M k = some o → gh0.F k = gh.F o := fun k o hk => by
    funext b; exact propext ⟨fun ⟨o', ho', hb⟩ => by rw [hk] at ho'; cases ho'; exact hb, fun hb => ⟨o, hk, hb⟩⟩
  have hv0 : ∀ k o, look M k = some o → gh0.hv k = gh.hv o ∧ gh0.bb k = gh.bb o ∧ gh0.bo k = gh.bo o := fun k o hk => by simp only [gh0, hk, and_self]
  have hrep : Rep P C0 No ⟨us.size, zipT 0 (ts gh0.hv), iob⟩ ⟨us, []⟩ w gh0 := {
    obs := fun k b hb => by
      obtain ⟨o, hk, ho⟩ := hiobM k b hb
      obtain ⟨g1, g2, g3⟩ := hv0 k o hk
      exact (h.obs o b ho).at (gh' := gh0) rfl g1 g2 g3 (hF0 k o hk)
    dis := fun k k' b b' q hb hb' ⟨o, ho, hq⟩ ⟨o', ho', hq'⟩ => by
      obtain ⟨_, _, x, g1, _⟩ := hosm k o ho
      obtain ⟨_, _, x', g1', _⟩ := hosm k' o' ho'
      have := h.dis o o' _ _ q g1 g1' hq hq'
      subst this
      exact nodup_snd hMo (look_mem ho) (look_mem ho')
    sS := h.sS
    nS := fun k b q hb ⟨o, ho, hq⟩ hS => by
      obtain ⟨g0, _, x, g1, _⟩ := hosm k o ho
      exact h.nS o _ q g1 hq hS
    wrR := fun k e es q hb ⟨o, ho, hq⟩ => Or.inr (fun f => by
      obtain ⟨_, _, x, g1, g2⟩ := hosm k o ho
      have hb : look iob k = some (.row e es) := hb
      rw [g2] at hb; cases hb
      exact ⟨k, o, _, ho, g1, hq, fun cs hc => by cases hc⟩)
    wrB := fun k cs q hb ⟨o, ho, hq⟩ hne => Or.inr (fun f => by
      obtain ⟨_, _, x, g1, g2⟩ := hosm k o ho
      exact ⟨k, o, _, ho, g1, hq, fun cs' _ he => (hne (by rw [(hv0 k o ho).2.1]; exact he)).elim⟩)
    wrC := fun k cs j hb hj => Or.inr (by
      obtain ⟨o, hk, ho⟩ := hiobM k _ hb
      obtain ⟨g1, g2, g3⟩ := hv0 k o hk
      rw [g2, g3]
      refine ⟨k, o, _, hk, ho, ?_, fun cs' hc _ => by cases hc; exact ⟨by omega, by omega⟩⟩
      have := h.obs o _ ho
      cases this with
      | box xs G hb hl h1 hc hxx dis nb hF => exact (hF _).2 (Or.inl rfl))
    kept := World.keptBut_refl w _
    pins := fun k x hp hn => by
      simp only [C0] at hp
      split at hp
      · cases hp; rfl
      · cases hp
    tms := fun t => by
      have e1 : St.get ⟨us.size, zipT 0 (ts gh0.hv), iob⟩ t = ((ts gh0.hv)[t]?).getD .dead := by
        unfold St.get; simp only [look_zipT, Nat.zero_le, if_true, Nat.sub_zero]
      rw [e1]
      cases hi : (ts gh0.hv)[t]? with
      | none => exact .dead
      | some x =>
        have hlt := (List.getElem?_eq_some_iff.1 hi).1
        have hvt : vs[t]? = some vs[t] := List.getElem?_eq_getElem (by omega)
        have hle := hl t _ x hvt hi
        have hvr := hv t _ hvt
        simp only [Option.getD_some]
        have low : lendsTo ⟨Mr, gh0.hv, pvOf C, [], iob⟩ vs[t] x → VR P w gh0 iob x (us.getD t undef) := fun hle => by
          refine lend_sound (gh0 := gh0) (L := ⟨Mr, gh0.hv, pvOf C, [], iob⟩) (fun k o hk => ?_) (fun o v hv hso => ?_) h.obs (fun k hk => hk) (fun o x k hx hk => by simp [look] at hx) (fun o x hx => by simp [look] at hx) hvr hle
          · have hmm : (k, o) ∈ M := by rw [hMM]; exact List.mem_append_left _ hk
            have hk' := mem_look hMk hmm
            obtain ⟨_, _, x', g1, g2⟩ := hosm k o hk'
            obtain ⟨e, es, g3⟩ := rowsAre_mem hMr k o hk
            rw [g3] at g1; cases g1
            exact ⟨e, es, g3, g2, (hv0 k o hk').1, rfl⟩
          · obtain ⟨x, hx, rfl⟩ := Option.map_eq_some_iff.1 hv
            have := h.pins o x hx (fun e => by rw [e] at hso; cases hso)
            rw [← this]
        unfold lendsX at hle
        split at hle
        · rename_i o j heq
          rw [heq] at hvr
          split at hle
          · rename_i k j'
            obtain ⟨hk0, rfl⟩ := hle
            have hmm : (k, o) ∈ M := by rw [hMM]; exact List.mem_append_right _ (look_mem hk0)
            have hk' := mem_look hMk hmm
            obtain ⟨g1, g2, g3⟩ := hv0 k o hk'
            obtain ⟨_, _, x', g4, g5⟩ := hosm k o hk'
            generalize us.getD t undef = u0 at hvr
            cases hvr with
            | bp hx =>
              rw [hx] at g4; cases g4
              have := VR.bp (P := P) (w := w) (gh := gh0) (j := j) g5
              rw [g2, g3] at this; exact this
          · exact hle.elim
        · rename_i ch j heq
          rw [heq] at hvr
          split at hle
          · obtain ⟨rfl, rfl⟩ := hle
            generalize us.getD t undef = u0 at hvr
            cases hvr with
            | ip U hs' h' => exact .ip U hs' h'
          · exact hle.elim
        · exact low hle
    nt := Nat.le_refl _
    dfs := rfl
    xl := fun k hk => hk.elim
    xS := fun k hk => hk.elim
    xF := fun o b k hb hk => hk.elim
    xW := fun k hk => hk.elim
    s0S := fun k hk => hk
    sZ := fun k hk => Or.inl hk }
  refine (hs.2 gh0.hv (fun o => (gh0.bb o, gh0.bo o)) C0 w gh0 us rfl (fun o ho => by simp only [C0, ho]; rfl) (fun o ho => by simp only [C0, ho]; rfl) (fun k hk => Or.inr hk) (by omega) hrep).mono (fun e w' he => ?_)
  obtain ⟨vs', rs, st', a', gc, G, rfl, hpost, hres, hR⟩ := he
  refine ⟨tupV vs', rfl, ?_⟩
  have hlike := hns rs st' hpost
  have hk := hR.kept
  have mayos : ∀ b f, may b f → ∃ o x, o ∈ os ∧ look st.ob o = some x ∧ gh.F o b := fun b f ⟨k, o, x, hk, hx, hb, _⟩ => ⟨o, x, (hosm k o hk).1, hx, hb⟩
  have allmay : ∀ b, (∀ f, may b f) → ∃ o x, o ∈ os ∧ look st.ob o = some x ∧ gh.F o b ∧ ∀ cs, x = .box cs → b ≠ gh.bb o := fun b hb => by
    obtain ⟨k, o, x, hk, hx, hF, _⟩ := hb 0
    refine ⟨o, x, (hosm k o hk).1, hx, hF, fun cs hc he => ?_⟩
    obtain ⟨k2, o2, x2, hk2, hx2, hF2, h2⟩ := hb (gh.bo o + cs.length)
    have := h.dis o o2 _ _ b hx hx2 hF hF2
    subst this
    rw [hx] at hx2; cases hx2
    have := h2 cs hc he
    omega
  have wr0 : ∀ o x b, look st.ob o = some x → gh.F o b → (∀ cs, x = .box cs → b ≠ gh.bb o) → C.w0.heap.size ≤ b ∨ ∀ f, C.may b f := fun o x b hx hb hc => by
    cases x with
    | row e es => exact h.wrR o e es b hx hb
    | box cs => exact h.wrB o cs b hx hb (hc cs rfl)
  have wrA : ∀ b, (∀ f, may b f) → C.w0.heap.size ≤ b ∨ ∀ f, C.may b f := fun b hb => by
    obtain ⟨o, x, _, hx, hF, hc⟩ := allmay b hb
    exact wr0 o x b hx hF hc
  have wr1 : ∀ b f, may b f → C.w0.heap.size ≤ b ∨ C.may b f := fun b f ⟨k, o, x, hk, hx, hF, hc⟩ => by
    by_cases hbx : ∀ cs, x = .box cs → b ≠ gh.bb o
    · exact (wr0 o x b hx hF hbx).imp id (fun hh => hh f)
    · simp only [Classical.not_forall] at hbx
      obtain ⟨cs, hcs, hne⟩ := hbx
      have he : b = gh.bb o := Classical.not_not.1 hne
      subst hcs
      obtain ⟨g1, g2⟩ := hc cs rfl he
      have := h.wrC o cs (f - gh.bo o) hx (by omega)
      rw [show gh.bo o + (f - gh.bo o) = f by omega] at this
      rw [he]; exact this
  have heap : ∀ k, k < w.heap.size → ¬ (∃ f, may k f) → w'.heap[k]? = w.heap[k]? := by
    intro k hk' hn
    refine keptBut_heap hk hk' (fun f hm => ?_) (fun hm => ?_)
    · obtain ⟨b, f', e, hm⟩ := hm
      injection e with e1 e2
      rw [← e1, ← e2] at hm
      exact hn ⟨f, hm⟩
    · obtain ⟨b, f', e, _⟩ := hm
      cases e
  have hnew : ∀ k o, (k, o) ∈ M → ∃ x y, look st.ob o = some x ∧ look st'.ob k = some y ∧ x.like y := fun k o hm => by
    obtain ⟨_, x, g1, g2, _⟩ := ioIs_mem hM k o hm
    obtain ⟨x', y, g3, g4, g5⟩ := ioLike_mem hlike k o hm
    rw [g2] at g3; cases g3
    exact ⟨x, y, g1, g4, g5⟩
  have hnewo : ∀ o, o ∈ os → ∃ k y, (k, o) ∈ M ∧ look st'.ob k = some y ∧ look (newObs st'.ob M) o = some y := fun o ho => by
    obtain ⟨k, hm, hl'⟩ := (look_newObs st'.ob M o).1 ho
    obtain ⟨x, y, _, g2, _⟩ := hnew k o hm
    rw [g2] at hl'
    exact ⟨k, y, hm, g2, hl'⟩
  have hlook : ∀ o, look (st.wrote M st'.ob).ob o = if o ∈ os then look (newObs st'.ob M) o else look st.ob o := fun o => by
    simp only [St.wrote, look_append, look_dropI]
    by_cases ho : o ∈ os
    · obtain ⟨k, y, _, _, g⟩ := hnewo o ho
      have ho' : o ∈ M.map (·.2) := ho
      simp only [if_pos ho', if_pos ho, g, Option.or_none]
    · have hn := (look_newObs st'.ob M o).2 ho
      have ho' : o ∉ M.map (·.2) := ho
      simp only [if_neg ho', if_neg ho, hn, Option.none_or]
  let ghn : Gh := { S := gc.S, hv := gh.hv, bb := gh.bb, bo := gh.bo, F := fun o => if o ∈ os then (fun b => ∃ k, (k, o) ∈ M ∧ gc.F k b) else gh.F o }
  have gin : ∀ k o, (k, o) ∈ M → ghn.F o = gc.F k := fun k o hm => by
    have ho : o ∈ os := List.mem_map.2 ⟨(k, o), hm, rfl⟩
    simp only [ghn, if_pos ho]
    funext b
    exact propext ⟨fun ⟨k', hm', hb⟩ => by have := nodup_snd hMo hm hm'; subst this; exact hb, fun hb => ⟨k, hm, hb⟩⟩
  have gout : ∀ o, o ∉ os → ghn.F o = gh.F o := fun o ho => by simp only [ghn]; rw [if_neg ho]
  have hpn : ∀ k o, (k, o) ∈ M → gc.hv k = gh.hv o ∧ gc.bb k = gh.bb o ∧ gc.bo k = gh.bo o := fun k o hm => by
    have hkl := mem_look hMk hm
    obtain ⟨x, y, _, g2, _⟩ := hnew k o hm
    have hp := hR.pins k (gh0.hv k, gh0.bb k, gh0.bo k) (by simp only [C0]; rw [if_pos (hosm k o hkl).2.1]) (by rw [g2]; simp)
    obtain ⟨g1, g2, g3⟩ := hv0 k o hkl
    rw [g1, g2, g3] at hp
    simp only [Prod.mk.injEq] at hp
    exact hp
  have newB : ∀ b, (w.heap.size ≤ b ∨ ∃ f, may b f) → (∃ o', o' ∈ os ∧ gh.F o' b) ∨ No b ∨ w.heap.size ≤ b := fun b hb => by
    rcases hb with hb | ⟨f, hb⟩
    · exact Or.inr (Or.inr hb)
    · obtain ⟨o, x, ho, _, hF⟩ := mayos b f hb
      exact Or.inl ⟨o, ho, hF⟩
  have fullB : ∀ b, (w.heap.size ≤ b ∨ ∃ f, may b f) → C.z b := fun b hb => hfull b (by
    rcases hb with hb | ⟨f, hb⟩
    · exact Or.inl (Nat.le_trans h.size hb)
    · exact (wr1 b f hb).imp id (fun hh => ⟨f, hh⟩))
  have cF : ∀ k o, (k, o) ∈ M → ∀ b, gc.F k b → (w.heap.size ≤ b ∨ ∃ f, may b f) ∧ (∀ y, look st'.ob k = some y → (∀ cs, y = .box cs → b ≠ gh.bb o) → C.w0.heap.size ≤ b ∨ ∀ f, C.may b f) := fun k o hm b hb => by
    obtain ⟨x, y, g1, g2, g3⟩ := hnew k o hm
    have hp := hpn k o hm
    have all : (∀ cs, y = .box cs → b ≠ gh.bb o) → w.heap.size ≤ b ∨ ∀ f, may b f := fun hc => by
      cases y with
      | row e es => exact hR.wrR k e es b g2 hb
      | box cs => exact hR.wrB k cs b g2 hb (by rw [hp.2.1]; exact hc cs rfl)
    refine ⟨?_, fun y' hy' hc => ?_⟩
    · by_cases hbb : b = gh.bb o ∧ ∃ cs, y = .box cs
      · obtain ⟨he, cs, rfl⟩ := hbb
        cases x with
        | row e es => simp [Ob.like] at g3
        | box cs0 =>
          have hob := h.obs o _ g1
          have hFb : gh.F o (gh.bb o) := by
            cases hob with
            | box xs G hb hl h1 hc hxx dis nb hF => exact (hF _).2 (Or.inl rfl)
          by_cases hn : 0 < cs0.length
          · exact Or.inr ⟨gh.bo o, k, o, _, mem_look hMk hm, g1, by rw [he]; exact hFb, fun cs' hc _ => by cases hc; omega⟩
          · obtain ⟨_, x1, q1, _, q3⟩ := ioIs_mem hM k o hm
            rw [g1] at q1; cases q1
            exact (q3 (by rw [List.eq_nil_of_length_eq_zero (by omega : cs0.length = 0)])).elim
      · exact (all (fun cs hc he => hbb ⟨he, cs, hc⟩)).imp id (fun hh => ⟨0, hh 0⟩)
    · rw [g2] at hy'; cases hy'
      rcases all hc with hh | hh
      · exact Or.inl (Nat.le_trans h.size hh)
      · exact wrA b hh
  have hin : Rep P C (inHand rs G) (st.wrote M st'.ob) a w' ghn := by
    refine h.multiX os ghn (inHand rs G) (fun o ho => by rw [hlook, if_neg ho]) (fun t => by unfold St.get St.wrote; simp only [look_mapT]; cases look st.tm t <;> simp [killI, os]) rfl
      (fun o ho => by
        obtain ⟨k, y, hm, g2, g3⟩ := hnewo o ho
        obtain ⟨x, y', g4, g5, g6⟩ := hnew k o hm
        rw [g2] at g5; cases g5
        exact ⟨x, y, g4, by rw [hlook, if_pos ho]; exact g3, g6⟩)
      ⟨rfl, rfl, rfl⟩ gout hk.size
      (fun o x k ho hx hk' => heap k ((h.obs o x hx).lt k hk') (fun ⟨f, hm⟩ => by
        obtain ⟨o', x', ho', hx', hF⟩ := mayos k f hm
        have := h.dis o o' x _ k hx hx' hk' hF
        subst this; exact ho ho'))
      (fun k hk' => heap k (h.sS k hk') (fun ⟨f, hm⟩ => by
        obtain ⟨o', x', ho', hx', hF⟩ := mayos k f hm
        exact h.nS o' _ k hx' hF hk'))
      (World.keptBut_mono (fun p hp => by
        obtain ⟨b, f, e, hm⟩ := hp
        exact ⟨b, f, e, wr1 b f hm⟩) hk)
      (fun k hk' => hR.s0S k hk')
      (fun k hk' => ⟨hR.sS k hk', by
        rcases hR.sZ k hk' with hz | hz
        · exact ⟨h.sZ k hz, Or.inl hz⟩
        · refine ⟨fullB k hz, Or.inr ?_⟩
          rcases newB k hz with hh | hh | hh
          · exact Or.inl hh
          · exact hh.elim
          · exact Or.inr (Or.inr hh)⟩)
      (fun o ho y hy => by
        rw [hlook, if_pos ho] at hy
        obtain ⟨k, y', hm, g2, g3⟩ := hnewo o ho
        rw [g3] at hy; cases hy
        obtain ⟨p1, p2, p3⟩ := hpn k o hm
        exact (hR.obs k _ g2).at (gh' := ghn) rfl p1.symm p2.symm p3.symm (gin k o hm))
      (fun o ho b hb => by
        obtain ⟨k, y, hm, g2, g3⟩ := hnewo o ho
        rw [gin k o hm] at hb
        rcases newB b (cF k o hm b hb).1 with hh | hh | hh
        · exact Or.inl hh
        · exact hh.elim
        · exact Or.inr (Or.inr hh))
      (fun o o' b ho ho' hb hb' => by
        obtain ⟨k, y, hm, g2, g3⟩ := hnewo o ho
        obtain ⟨k', y', hm', g2', g3'⟩ := hnewo o' ho'
        rw [gin k o hm] at hb
        rw [gin k' o' hm'] at hb'
        have := hR.dis k k' _ _ b g2 g2' hb hb'
        subst this
        have h1 := mem_look hMk hm
        have h2 := mem_look hMk hm'
        rw [h1] at h2; cases h2; rfl)
      (fun o b ho hb => by
        obtain ⟨k, y, hm, g2, g3⟩ := hnewo o ho
        rw [gin k o hm] at hb
        exact hR.nS k _ b g2 hb)
      (fun o b y ho hy hb hc => by
        obtain ⟨k, y', hm, g2, g3⟩ := hnewo o ho
        rw [hlook, if_pos ho, g3] at hy; cases hy
        rw [gin k o hm] at hb
        exact (cF k o hm b hb).2 _ g2 hc)
      (fun b hb => ⟨hR.xl b hb, hR.xS b hb, by
        rcases hR.xW b hb with hw | hw
        · exact Or.inl (Nat.le_trans h.size hw)
        · exact wrA b hw, by
        rcases hR.xW b hb with hw | hw
        · exact Or.inr (Or.inr hw)
        · obtain ⟨o, x, ho, _, hF, _⟩ := allmay b hw
          exact Or.inl ⟨o, ho, hF⟩⟩)
      (fun o b ho hb hX => by
        obtain ⟨k, y, hm, g2, g3⟩ := hnewo o ho
        rw [gin k o hm] at hb
        exact hR.xF k _ b g2 hX hb)
  have hres' : Res P w' ghn.S rs vs' G := hres
  cases d with
  | none => exact ⟨_, ghn, hK rs st' hpost, hin.less (fun k hk => hk.elim)⟩
  | some d =>
    obtain ⟨gh2, hr2, hn2, hl2, hv2, _, _⟩ := layR_sound d rs vs' G 0 hin hpin hres' (fun b hb => hb)
    refine ⟨_, gh2, hK rs st' hpost, ?_⟩
    simp only [after]
    refine (hr2.less (X' := No) (fun k hk => hk.elim)).set (by rw [hn2]; exact hd d rfl) ?_
    match rs, vs', hl2, hv2 with
    | [], [], _, hv2 => exact .tup rfl (fun i v hi => by simp [vsR] at hi)
    | [r], [v], _, hv2 => exact hv2 0 _ _ rfl rfl
    | r :: r2 :: rs, v :: v2 :: vs, hl2, hv2 =>
      refine .tup (by simp [← hl2]) (fun i x hi => ?_)
      have hil := (List.getElem?_eq_some_iff.1 hi).1
      have hvi : (v :: v2 :: vs)[i]? = some (v :: v2 :: vs)[i] := List.getElem?_eq_getElem (by omega)
      have := hv2 i x _ hi hvi
      simpa [Array.getD_eq_getD_getElem?, hvi] using this
    | [], v :: vs, hl2, _ => simp [vsR] at hl2
    | r :: rs, [], hl2, _ => simp [vsR] at hl2
    | [r], v :: v2 :: vs, hl2, _ => simp [vsR] at hl2
    | r :: r2 :: rs, [v], hl2, _ => simp [vsR] at hl2

/-- A call that writes into variables and rows of the caller's, and whose results are known. -/
theorem aCall_bxd {f : FuncId} {ts : (Nat → Value) → List V} {iob N : List (Nat × Ob)} {R : List RV} (hs : SoundAt P f ts iob (fun rs st => rs = R ∧ nowIs st.ob N)) (hpin : ∀ o, isPin o = false → C.pin o = none) (hfull : C.full) (M Mr Mb : List (Nat × Nat)) {vs : List V} {d : Option Nat}
    (hMM : M = Mr ++ Mb ∧ nodupB (M.map (·.1)) = true ∧ nodupB (M.map (·.2)) = true ∧ iob.map (·.1) = M.map (·.1)) (hl : ∀ uf, lendAllX ⟨Mr, uf, pvOf C, [], iob⟩ Mb vs (ts uf))
    (h : ioIs st iob M ∧ rowsAre st Mr ∧ ioLike iob N M ∧ ev (b := ⟨K⟩) (after (st.wrote M N) d R)) : aCallB (b := ⟨K⟩) P C st f vs d := by
  refine aCall_bx hs (pin3 hpin) hfull M Mr Mb hMM.1 h.1 h.2.1 (nodup_of hMM.2.1) (nodup_of hMM.2.2.1) hMM.2.2.2 hl (fun rs st' hr => ?_) (fun rs st' hr => ?_)
  · exact (newObs_nowX (nowIs_get hr.2) M h.2.2.1).2
  · have e : st.wrote M st'.ob = st.wrote M N := by unfold St.wrote; rw [(newObs_nowX (nowIs_get hr.2) M h.2.2.1).1]
    rw [hr.1, e]; exact h.2.2.2
end
attribute [go_sem] lendsX lendAllX ioIs rowsAre ioLike Ob.like
end Go.Proofs.YtaodmogcjpainaaDoor.AW
