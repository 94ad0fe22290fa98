/- A call that writes into rows of the caller's. No condition. -/
import Derived.Test.YtaodmogcjpainaaDoorA22
namespace Go.Proofs.YtaodmogcjpainaaDoor.AW
open Go.RowKit
set_option linter.unusedSimpArgs false
set_option linter.unusedVariables false

mutual
def killI (os : List Nat) : V → V
  | .ref o (x :: p) n => if os.contains o then .dead else .ref o (x :: p) n
  | .rp o (x :: p) i j => if os.contains o then .dead else .rp o (x :: p) i j
  | .agg vs => .agg (killIL os vs)
  | .tup vs => .tup (killIL os vs)
  | .cond c v => .cond c (killI os v)
  | v => v
def killIL (os : List Nat) : List V → List V
  | [] => []
  | v :: r => killI os v :: killIL os r
end

def dropI (os : List Nat) : List (Nat × Ob) → List (Nat × Ob)
  | [] => []
  | (o, x) :: r => if os.contains o then dropI os r else (o, x) :: dropI os r

def newObs (ob' : List (Nat × Ob)) : List (Nat × Nat) → List (Nat × Ob)
  | [] => []
  | (k, o) :: r => (o, (look ob' k).getD (.box [])) :: newObs ob' r

/-- The rows that the callee wrote, as they are now. -/
def St.wrote (st : St) (M : List (Nat × Nat)) (ob' : List (Nat × Ob)) : St := { st with tm := mapT (killI (M.map (·.2))) st.tm, ob := newObs ob' M ++ dropI (M.map (·.2)) st.ob }

/-- The rows that are written are the caller's, whole. -/
def ioOk (st : St) (iob : List (Nat × Ob)) : List (Nat × Nat) → Prop
  | [] => True
  | (k, o) :: r => (match look st.ob o with
    | some (.row e es) => look iob k = some (.row e es)
    | _ => False) ∧ isPin k = true ∧ ioOk st iob r

/-- They are as long as before, and all of them is their own. -/
def ioLong (iob ob' : List (Nat × Ob)) : List (Nat × Nat) → Prop
  | [] => True
  | (k, _) :: r => (match look iob k, look ob' k with
    | some (.row e es), some (.row e' es') => e' = e ∧ es'.length = es.length ∧ noShLL es' = true
    | _, _ => False) ∧ ioLong iob ob' r

def roAll : List Arg → Bool
  | [] => true
  | .ro _ :: r => roAll r
  | _ => false

section
variable {P : Program} {w w1 : World} {C : Cx} {X : Nat → Prop} {gh gh' : Gh} {st st' st'' : St} {a : Act} {v : V} {u : Value} {ob ob' : List (Nat × Ob)} {S S' : Nat → Prop} {K : St → Prop} {d : D} {F : Nat → Prop}

theorem killIL_get (os : List Nat) (vs : List V) (i : Nat) : (killIL os vs)[i]? = (vs[i]?).map (killI os) := by
  induction vs generalizing i with
  | nil => simp [killIL]
  | cons v r ih => cases i <;> simp [killIL, ih]
theorem killIL_length (os : List Nat) (vs : List V) : (killIL os vs).length = vs.length := by
  induction vs with
  | nil => rfl
  | cons v r ih => simp [killIL, ih]

theorem VR.multi {os : List Nat} (h : VR P w gh ob v u) (hob : ∀ o x, look ob o = some x → ObR P w gh o x) (h1 : ∀ o x, o ∉ os → look ob o = some x → look ob' o = some x ∧ ∀ k, gh.F o k → w1.heap[k]? = w.heap[k]?)
    (h2 : ∀ o x, o ∈ os → look ob o = some x → ∃ e es es', x = .row e es ∧ look ob' o = some (.row e es') ∧ es'.length = es.length) (hg : gh'.hv = gh.hv ∧ gh'.bb = gh.bb ∧ gh'.bo = gh.bo ∧ gh'.S = gh.S) (hS : ∀ k, gh.S k → w1.heap[k]? = w.heap[k]?) :
    VR P w1 gh' ob' (killI os v) u := by
  induction h with
  | dead => exact .dead
  | und => exact .und
  | sc h => exact .sc h
  | nil => exact .nil
  | imm h => exact .imm (by rw [hg.2.2.2]; exact h.move hS)
  | @ref o n p x e es A c hx hn hle =>
    by_cases ho : o ∈ os
    · cases p with
      | cons q p =>
        have : os.contains o = true := by simpa using ho
        simp only [killI, this, if_true]; exact .dead
      | nil =>
        simp only [killI]
        obtain ⟨e0, es0, es', rfl, g2, g3⟩ := h2 o x ho hx
        obtain ⟨rfl, rfl, hv⟩ := navO_nil hn
        rw [← g3] at hv hle
        exact VR.whole g2 (by rw [hg.1, hv, g3]) (by rw [g3] at hle ⊢; exact hle)
    · obtain ⟨g1, g2⟩ := h1 o x ho hx
      have : os.contains o = false := by simpa using ho
      have hn' : NavO P w1 gh' o x p (.row false e es) (.slice A es.length c) := ((hob o x hx).navO hn g2).ghc hg.1 hg.2.1 hg.2.2.1
      cases p with
      | nil => simp only [killI]; exact .ref g1 hn' hle
      | cons q p => simp only [killI, this, Bool.false_eq_true, if_false]; exact .ref g1 hn' hle
  | @bp o j cs hx =>
    simp only [killI]
    by_cases ho : o ∈ os
    · obtain ⟨e0, es0, es', g1, _⟩ := h2 o _ ho hx; cases g1
    · have := VR.bp (P := P) (w := w1) (gh := gh') (j := j) (h1 o _ ho hx).1
      rw [hg.2.1, hg.2.2.1] at this; exact this
  | @rp o i j p x e es ad c hx hn =>
    by_cases ho : o ∈ os
    · cases p with
      | cons q p =>
        have : os.contains o = true := by simpa using ho
        simp only [killI, this, if_true]; exact .dead
      | nil =>
        simp only [killI]
        obtain ⟨e0, es0, es', rfl, g2, g3⟩ := h2 o x ho hx
        obtain ⟨rfl, rfl, hv⟩ := navO_nil hn
        have hn' : NavO P w1 gh' o (.row e0 es') [] (.row false e0 es') (.slice (some ad) es'.length c) := by
          simp only [NavO, hg.1, hv]; rw [g3]; exact .nil
        exact .rp g2 hn'
    · obtain ⟨g1, g2⟩ := h1 o x ho hx
      have : os.contains o = false := by simpa using ho
      have hn' : NavO P w1 gh' o x p (.row false e es) (.slice (some ad) es.length c) := ((hob o x hx).navO hn g2).ghc hg.1 hg.2.1 hg.2.2.1
      cases p with
      | nil => simp only [killI]; exact .rp g1 hn'
      | cons q p => simp only [killI, this, Bool.false_eq_true, if_false]; exact .rp g1 hn'
  | ip U hs h => exact .ip U (by rw [hg.2.2.2]; exact hs) (fun q d hd => ⟨(World.cell?_of_block (a := ⟨_, _, none⟩) (hS _ hs)).trans (h q d hd).1, by rw [hg.2.2.2]; exact (h q d hd).2.move hS⟩)
  | agg hl h1' h ih =>
    simp only [killI]
    refine .agg (by rw [killIL_length]; exact hl) h1' (fun i v hv => ?_)
    rw [killIL_get] at hv
    obtain ⟨v0, hv0, rfl⟩ := Option.map_eq_some_iff.1 hv
    exact ih i v0 hv0
  | tup hl h ih =>
    simp only [killI]
    refine .tup (by rw [killIL_length]; exact hl) (fun i v hv => ?_)
    rw [killIL_get] at hv
    obtain ⟨v0, hv0, rfl⟩ := Option.map_eq_some_iff.1 hv
    exact ih i v0 hv0
  | cond ht hf ih => simp only [killI]; exact .cond ih hf

theorem Rep.multi (h : Rep P C X st a w gh) (os : List Nat) (new : Nat → Option Ob) (F1 : Nat → Nat → Prop) (X' : Nat → Prop)
    (hlk : ∀ o, o ∈ os → look st'.ob o = new o) (hlk2 : ∀ o, o ∉ os → look st'.ob o = look st.ob o) (htm : ∀ t, st'.get t = killI os (st.get t)) (hnt : st'.nt = st.nt)
    (hos : ∀ o, o ∈ os → ∃ e es es', look st.ob o = some (.row e es) ∧ new o = some (.row e es') ∧ es'.length = es.length)
    (hsz : w.heap.size ≤ w1.heap.size) (hFo : ∀ o x k, o ∉ os → look st.ob o = some x → gh.F o k → w1.heap[k]? = w.heap[k]?) (hS : ∀ k, gh.S k → w1.heap[k]? = w.heap[k]?)
    (hk : w.keptBut w1 (fun p => ∃ b f, p = .cell b f ∧ (C.w0.heap.size ≤ b ∨ C.may b f)))
    (how : ∀ o, o ∈ os → ∀ e es', new o = some (.row e es') → Ow P w1 gh.S (.row false e es') (gh.hv o) (F1 o))
    (hF1 : ∀ o, o ∈ os → ∀ k, F1 o k → (∃ o', o' ∈ os ∧ gh.F o' k) ∨ X k ∨ w.heap.size ≤ k) (hd1 : ∀ o o' k, o ∈ os → o' ∈ os → F1 o k → F1 o' k → o = o')
    (hX' : ∀ k, X' k → k < w1.heap.size ∧ ((∃ o', o' ∈ os ∧ gh.F o' k) ∨ X k ∨ w.heap.size ≤ k)) (hXF : ∀ o k, o ∈ os → F1 o k → ¬ X' k) :
    ∃ gh', Rep P C X' st' a w1 gh' ∧ gh'.S = gh.S ∧ gh'.hv = gh.hv := by
  classical
  let gh' : Gh := { gh with F := fun o => if o ∈ os then F1 o else gh.F o }
  have gin : ∀ o, o ∈ os → gh'.F o = F1 o := fun o ho => by simp only [gh']; rw [if_pos ho]
  have gout : ∀ o, o ∉ os → gh'.F o = gh.F o := fun o ho => by simp only [gh']; rw [if_neg ho]
  have cls : ∀ o', o' ∉ os → ∀ x k, look st.ob o' = some x → gh.F o' k → ¬ ((∃ o, o ∈ os ∧ gh.F o k) ∨ X k ∨ w.heap.size ≤ k) := by
    intro o' ho' x k hx hk' hh
    rcases hh with ⟨o, ho, hF⟩ | hh | hh
    · obtain ⟨e, es, _, hl, _⟩ := hos o ho
      have := h.dis o' o x _ k hx hl hk' hF
      subst this; exact ho' ho
    · exact h.xF o' x k hx hh hk'
    · have := (h.obs o' x hx).lt k hk'; omega
  have wr : ∀ k, ((∃ o, o ∈ os ∧ gh.F o k) ∨ X k ∨ w.heap.size ≤ k) → C.w0.heap.size ≤ k ∨ ∀ f, C.may k f := by
    rintro k (⟨o, ho, hF⟩ | hh | hh)
    · obtain ⟨e, es, _, hl, _⟩ := hos o ho
      exact h.wrR o e es k hl hF
    · exact h.xW k hh
    · exact Or.inl (Nat.le_trans h.size hh)
  have notS : ∀ k, ((∃ o, o ∈ os ∧ gh.F o k) ∨ X k ∨ w.heap.size ≤ k) → ¬ gh.S k := by
    rintro k (⟨o, ho, hF⟩ | hh | hh) hS'
    · obtain ⟨e, es, _, hl, _⟩ := hos o ho
      exact h.nS o _ k hl hF hS'
    · exact h.xS k hh hS'
    · have := h.sS k hS'; omega
  have rowed : ∀ o, o ∈ os → ∀ x, look st'.ob o = some x → ∃ e es', x = .row e es' ∧ new o = some (.row e es') := fun o ho x hx => by
    obtain ⟨e, es, es', _, h2, _⟩ := hos o ho
    rw [hlk o ho, h2] at hx; cases hx
    exact ⟨e, es', rfl, h2⟩
  have hobs : ∀ o x, look st'.ob o = some x → ObR P w1 gh' o x := fun o x hx => by
    by_cases ho : o ∈ os
    · obtain ⟨e, es', rfl, h2⟩ := rowed o ho x hx
      exact .row (by rw [gin o ho]; exact how o ho e es' h2)
    · rw [hlk2 o ho] at hx
      have := (h.obs o x hx).world (fun k hk => hFo o x k ho hx hk) hS
      cases this with
      | row h => exact .row (by rw [gout o ho]; exact h)
      | box xs G hb hl h1 hc hxx dis nb hF => exact .box xs G hb hl h1 hc hxx dis nb (fun k => by rw [gout o ho]; exact hF k)
  refine ⟨gh', ?_, rfl, rfl⟩
  exact {
    obs := hobs
    dis := fun o1 o2 b1 b2 k hb1 hb2 hk1 hk2 => by
      by_cases e1 : o1 ∈ os <;> by_cases e2 : o2 ∈ os
      · rw [gin _ e1] at hk1; rw [gin _ e2] at hk2; exact hd1 o1 o2 k e1 e2 hk1 hk2
      · rw [gin _ e1] at hk1; rw [gout _ e2] at hk2; rw [hlk2 _ e2] at hb2; exact (cls o2 e2 b2 k hb2 hk2 (hF1 o1 e1 k hk1)).elim
      · rw [gout _ e1] at hk1; rw [gin _ e2] at hk2; rw [hlk2 _ e1] at hb1; exact (cls o1 e1 b1 k hb1 hk1 (hF1 o2 e2 k hk2)).elim
      · rw [gout _ e1] at hk1; rw [gout _ e2] at hk2; rw [hlk2 _ e1] at hb1; rw [hlk2 _ e2] at hb2; exact h.dis o1 o2 b1 b2 k hb1 hb2 hk1 hk2
    sS := fun k hk => Nat.lt_of_lt_of_le (h.sS k hk) hsz
    nS := fun o b k hb hk => by
      by_cases e1 : o ∈ os
      · rw [gin _ e1] at hk; exact notS k (hF1 o e1 k hk)
      · rw [gout _ e1] at hk; rw [hlk2 _ e1] at hb; exact h.nS o b k hb hk
    wrR := fun o e es k hb hk => by
      by_cases e1 : o ∈ os
      · rw [gin _ e1] at hk; exact wr k (hF1 o e1 k hk)
      · rw [gout _ e1] at hk; rw [hlk2 _ e1] at hb; exact h.wrR o e es k hb hk
    wrB := fun o cs k hb hk hne => by
      by_cases e1 : o ∈ os
      · rw [gin _ e1] at hk; exact wr k (hF1 o e1 k hk)
      · rw [gout _ e1] at hk; rw [hlk2 _ e1] at hb; exact h.wrB o cs k hb hk hne
    wrC := fun o cs j hb hj => by
      by_cases e1 : o ∈ os
      · obtain ⟨_, _, h0, _⟩ := rowed o e1 _ hb; cases h0
      · rw [hlk2 _ e1] at hb; exact h.wrC o cs j hb hj
    kept := keptBut_old (World.keptBut_trans (World.keptBut_mono (fun p hp => Or.inl hp) h.kept) (World.keptBut_mono (fun p hp => by
      obtain ⟨b, f, rfl, hb | hb⟩ := hp
      · exact Or.inr hb
      · exact Or.inl ⟨b, f, rfl, hb⟩) hk))
    pins := fun o x hp hn => h.pins o x hp (fun e0 => by
      by_cases e1 : o ∈ os
      · obtain ⟨_, _, _, hl, _⟩ := hos o e1; rw [e0] at hl; cases hl
      · rw [hlk2 _ e1] at hn; exact hn e0)
    tms := fun t => by
      rw [htm]
      refine (h.tms t).multi h.obs (fun o x ho hx => ⟨by rw [hlk2 _ ho]; exact hx, fun k hk => hFo o x k ho hx hk⟩) (fun o x ho hx => ?_) ⟨rfl, rfl, rfl, rfl⟩ hS
      obtain ⟨e, es, es', h1, h2, h3⟩ := hos o ho
      rw [hx] at h1; cases h1
      exact ⟨e, es, es', rfl, by rw [hlk o ho]; exact h2, h3⟩
    nt := by rw [hnt]; exact h.nt
    dfs := h.dfs
    xl := fun k hk => (hX' k hk).1
    xS := fun k hk => notS k (hX' k hk).2
    xF := fun o b k hb hk hF => by
      by_cases e1 : o ∈ os
      · rw [gin _ e1] at hF; exact hXF o k e1 hF hk
      · rw [gout _ e1] at hF; rw [hlk2 _ e1] at hb; exact cls o e1 b k hb hF (hX' k hk).2
    xW := fun k hk => wr k (hX' k hk).2
    s0S := h.s0S
    sZ := h.sZ }

theorem look_dropI (os : List Nat) : ∀ (l : List (Nat × Ob)) (o : Nat), look (dropI os l) o = if o ∈ os then none else look l o
  | [], o => by simp [dropI, look]
  | (k, x) :: r, o => by
    simp only [dropI]
    by_cases hk : k ∈ os
    · have : os.contains k = true := by simpa using hk
      rw [if_pos this, look_dropI os r o]
      by_cases ho : o ∈ os
      · rw [if_pos ho, if_pos ho]
      · have hne : o ≠ k := fun e => ho (e ▸ hk)
        rw [if_neg ho, if_neg ho, look, if_neg hne]
    · have : ¬ (os.contains k = true) := by simpa using hk
      rw [if_neg this]
      simp only [look]
      by_cases hok : o = k
      · subst hok; rw [if_pos rfl, if_pos rfl, if_neg hk]
      · rw [if_neg hok, if_neg hok, look_dropI os r o]

theorem look_append {α : Type} : ∀ (A B : List (Nat × α)) (o : Nat), look (A ++ B) o = (look A o).or (look B o)
  | [], B, o => by simp [look]
  | (k, x) :: A, B, o => by
    simp only [List.cons_append, look]
    by_cases h : o = k
    · rw [if_pos h, if_pos h]; rfl
    · rw [if_neg h, if_neg h]; exact look_append A B o

theorem look_newObs (ob' : List (Nat × Ob)) : ∀ (M : List (Nat × Nat)) (o : Nat), (o ∈ M.map (·.2) → ∃ k, (k, o) ∈ M ∧ look (newObs ob' M) o = some ((look ob' k).getD (.box []))) ∧ (o ∉ M.map (·.2) → look (newObs ob' M) o = none)
  | [], o => ⟨fun h => by simp at h, fun _ => rfl⟩
  | (k, o') :: r, o => by
    obtain ⟨h1, h2⟩ := look_newObs ob' r o
    refine ⟨fun h => ?_, fun h => ?_⟩
    · simp only [newObs, look]
      by_cases e : o = o'
      · subst e; rw [if_pos rfl]; exact ⟨k, List.mem_cons_self, rfl⟩
      · rw [if_neg e]
        have : o ∈ r.map (·.2) := by
          simp only [List.map_cons, List.mem_cons] at h
          exact h.resolve_left e
        obtain ⟨k', g1, g2⟩ := h1 this
        exact ⟨k', List.mem_cons_of_mem _ g1, g2⟩
    · simp only [List.map_cons, List.mem_cons, not_or] at h
      simp only [newObs, look, if_neg h.1]
      exact h2 h.2

theorem ioOk_mem {iob : List (Nat × Ob)} : ∀ {M : List (Nat × Nat)}, ioOk st iob M → ∀ k o, (k, o) ∈ M → isPin k = true ∧ ∃ e es, look st.ob o = some (.row e es) ∧ look iob k = some (.row e es)
  | [], _, k, o, h => by simp at h
  | (k', o') :: r, h, k, o, hm => by
    obtain ⟨h1, h2, h3⟩ := h
    rcases List.mem_cons.1 hm with he | hm
    · cases he
      refine ⟨h2, ?_⟩
      split at h1
      · rename_i e es hl; exact ⟨e, es, hl, h1⟩
      · exact h1.elim
    · exact ioOk_mem h3 k o hm

theorem ioLong_mem {iob ob' : List (Nat × Ob)} : ∀ {M : List (Nat × Nat)}, ioLong iob ob' M → ∀ k o, (k, o) ∈ M → ∃ e es es', look iob k = some (.row e es) ∧ look ob' k = some (.row e es') ∧ es'.length = es.length ∧ noShLL es' = true
  | [], _, k, o, h => by simp at h
  | (k', o') :: r, h, k, o, hm => by
    obtain ⟨h1, h3⟩ := h
    rcases List.mem_cons.1 hm with he | hm
    · cases he
      split at h1
      · rename_i e es e' es' hl hl'
        obtain ⟨rfl, h2, h4⟩ := h1
        exact ⟨_, es, es', hl, hl', h2, h4⟩
      · exact h1.elim
    · exact ioLong_mem h3 k o hm

theorem mem_look {α : Type} : ∀ {M : List (Nat × α)}, (M.map (·.1)).Nodup → ∀ {k : Nat} {o : α}, (k, o) ∈ M → look M k = some o
  | [], _, k, o, h => by simp at h
  | (k', o') :: r, hn, k, o, h => by
    simp only [List.map_cons, List.nodup_cons] at hn
    rcases List.mem_cons.1 h with he | hm
    · cases he; simp [look]
    · have : k ≠ k' := fun e => hn.1 (e ▸ List.mem_map.2 ⟨(k, o), hm, rfl⟩)
      rw [look, if_neg this]
      exact mem_look hn.2 hm

theorem nodup_snd {M : List (Nat × Nat)} (hn : (M.map (·.2)).Nodup) {k k' o : Nat} (h : (k, o) ∈ M) (h' : (k', o) ∈ M) : k = k' := by
  induction M with
  | nil => simp at h
  | cons x r ih =>
    obtain ⟨a, b⟩ := x
    simp only [List.map_cons, List.nodup_cons] at hn
    rcases List.mem_cons.1 h with e | e <;> rcases List.mem_cons.1 h' with e' | e'
    · cases e; cases e'; rfl
    · cases e; exact (hn.1 (List.mem_map.2 ⟨(k', o), e', rfl⟩)).elim
    · cases e'; exact (hn.1 (List.mem_map.2 ⟨(k, o), e, rfl⟩)).elim
    · exact ih hn.2 e e'

theorem roAll_get : ∀ {as : List Arg}, roAll as = true → ∀ (i : Nat) (x : Arg), as[i]? = some x → ∃ t, x = .ro t
  | [], _, i, x, h => by simp at h
  | .ro t :: r, hr, i, x, h => by
    cases i with
    | zero => simp at h; exact ⟨t, h.symm⟩
    | succ i => exact roAll_get (as := r) hr i x (by simpa using h)
  | .mv _ _ :: r, hr, i, x, h => by simp [roAll] at hr


theorem aCall_io {f : FuncId} {as : (Nat → Value) → List Arg} {iob : List (Nat × Ob)} {post : List RV → St → Prop} (hs : SoundAt P f (fun uf => argsV 0 (as uf)) iob post) (hpin : ∀ n, 3000 ≤ n → C.pin n = none) (M : List (Nat × Nat)) {vs : List V} {d : Option Nat} (hro : ∀ uf, roAll (as uf) = true) (hlen : ∀ uf, vs.length = (as uf).length)
    (hM : ioOk st iob M) (hMk : (M.map (·.1)).Nodup) (hMo : (M.map (·.2)).Nodup) (hiob : iob.map (·.1) = M.map (·.1)) (hl : ∀ uf, lendAll ⟨M, uf, pvOf C, dropI (M.map (·.2)) st.ob, iob⟩ vs (as uf))
    (hns : ∀ rs st', post rs st' → noShR rs = true ∧ ioLong iob st'.ob M) (hK : ∀ rs st', post rs st' → ev (b := ⟨K⟩) (after (st.wrote M st'.ob) d rs)) : aCall P C st f vs d K := by
  refine Or.inl ⟨hs.1, fun a w gh us h hus hv hd => ?_⟩
  let os := M.map (·.2)
  let gh0 : Gh := { S := fun k => gh.S k ∨ ∃ o x, look (dropI os st.ob) o = some x ∧ gh.F o k, hv := fun k => match look M k with | some o => gh.hv o | none => undef, bb := fun _ => 0, bo := fun _ => 0, F := fun k b => ∃ o, look M k = some o ∧ gh.F o b }
  let C0 : Cx := { w0 := w, s0 := gh0.S, may := fun b _ => ∃ k o, look M k = some o ∧ gh.F o b, pin := fun k => if isPin k = true then some (gh0.hv k, gh0.bb k, gh0.bo k) else none, z := fun _ => True }
  have hro := hro gh0.hv
  have hlen := hlen gh0.hv
  have hl := hl gh0.hv
  have hdr : ∀ o x, look (dropI os st.ob) o = some x → o ∉ os ∧ look st.ob o = some x := fun o x hx => by
    rw [look_dropI] at hx
    by_cases ho : o ∈ os
    · rw [if_pos ho] at hx; cases hx
    · rw [if_neg ho] at hx; exact ⟨ho, hx⟩
  have hosm : ∀ k o, look M k = some o → o ∈ os ∧ isPin k = true ∧ ∃ e es, look st.ob o = some (.row e es) ∧ look iob k = some (.row e es) := fun k o hk => by
    have hm := look_mem hk
    obtain ⟨g1, g2⟩ := ioOk_mem hM k o hm
    exact ⟨List.mem_map.2 ⟨(k, o), hm, rfl⟩, g1, g2⟩
  have hiobM : ∀ k x, look iob k = some x → ∃ o e es, look M k = some o ∧ x = .row e es ∧ look st.ob o = some (.row e es) := fun k x hx => by
    have h1 : k ∈ iob.map (·.1) := List.mem_map.2 ⟨(k, x), look_mem hx, rfl⟩
    rw [hiob] at h1
    obtain ⟨⟨k', o⟩, hm, rfl⟩ := List.mem_map.1 h1
    have hk := mem_look hMk hm
    obtain ⟨_, _, e, es, g1, g2⟩ := hosm _ _ hk
    rw [hx] at g2; cases g2
    exact ⟨o, e, es, hk, rfl, g1⟩
  have hob0 : ∀ k o e es, look M k = some o → look st.ob o = some (.row e es) → Ow P w gh.S (.row false e es) (gh0.hv k) (gh0.F k) := fun k o e es hk ho => by
    have := h.obs o _ ho
    cases this with
    | row how =>
      have e1 : gh0.hv k = gh.hv o := by simp only [gh0, hk]
      rw [e1]
      exact how.congr (fun b => ⟨fun hb => ⟨o, hk, hb⟩, fun ⟨o', ho', hb⟩ => by rw [hk] at ho'; cases ho'; exact hb⟩)
  have hrep : Rep P C0 No ⟨us.size, zipT 0 (argsV 0 (as gh0.hv)), iob⟩ ⟨us, []⟩ w gh0 := {
    obs := fun k b hb => by
      obtain ⟨o, e, es, hk, rfl, ho⟩ := hiobM k b hb
      exact .row ((hob0 k o e es hk ho).mono (fun k hk => Or.inl hk))
    dis := fun k k' b b' q hb hb' ⟨o, ho, hq⟩ ⟨o', ho', hq'⟩ => by
      obtain ⟨_, _, e, es, g1, _⟩ := hosm k o ho
      obtain ⟨_, _, e', es', g1', _⟩ := hosm k' o' ho'
      have := h.dis o o' _ _ q g1 g1' hq hq'
      subst this
      exact nodup_snd hMo (look_mem ho) (look_mem ho')
    sS := fun k hk => by
      rcases hk with hk | ⟨o, x, hx, hk⟩
      · exact h.sS k hk
      · exact (h.obs o x (hdr o x hx).2).lt k hk
    nS := fun k b q hb ⟨o, ho, hq⟩ hS => by
      obtain ⟨g0, _, e, es, g1, _⟩ := hosm k o ho
      rcases hS with hS | ⟨o', x, hx, hq'⟩
      · exact h.nS o _ q g1 hq hS
      · have := h.dis o o' _ x q g1 (hdr o' x hx).2 hq hq'
        subst this
        exact (hdr o x hx).1 g0
    wrR := fun k e es q hb ⟨o, ho, hq⟩ => Or.inr (fun f => ⟨k, o, ho, hq⟩)
    wrB := fun k cs q hb => by obtain ⟨o, e, es, _, he, _⟩ := hiobM k _ hb; cases he
    wrC := fun k cs j hb => by obtain ⟨o, e, es, _, he, _⟩ := hiobM k _ hb; cases he
    kept := World.keptBut_refl w _
    pins := fun k x hp hn => by
      simp only [C0] at hp
      split at hp
      · cases hp; rfl
      · cases hp
    tms := fun t => by
      have e1 : St.get ⟨us.size, zipT 0 (argsV 0 (as gh0.hv)), iob⟩ t = ((argsV 0 (as gh0.hv))[t]?).getD .dead := by
        unfold St.get; simp only [look_zipT, Nat.zero_le, if_true, Nat.sub_zero]
      rw [e1, argsV_get]
      cases hi : (as gh0.hv)[t]? with
      | none => exact .dead
      | some x =>
        obtain ⟨v0, rfl⟩ := roAll_get hro t x hi
        have hlt := (List.getElem?_eq_some_iff.1 hi).1
        have hvt : vs[t]? = some vs[t] := List.getElem?_eq_getElem (by omega)
        refine lend_sound (L := ⟨M, gh0.hv, pvOf C, dropI os st.ob, iob⟩) (fun k o hk => ?_) (fun o v hv hso => ?_) h.obs (fun k hk => Or.inl hk) (fun o x k hx hk => Or.inr ⟨o, x, hx, hk⟩) (fun o x hx => (hdr o x hx).2) (hv t _ hvt) (lendAll_get hl t _ _ hvt hi)
        · have hk' := mem_look hMk hk
          obtain ⟨_, _, e, es, g1, g2⟩ := hosm k o hk'
          exact ⟨e, es, g1, g2, by simp only [gh0, hk'], rfl⟩
        · obtain ⟨x, hx, rfl⟩ := Option.map_eq_some_iff.1 hv
          have := h.pins o x hx (fun e => by rw [e] at hso; cases hso)
          rw [← this]
    nt := Nat.le_refl _
    dfs := rfl
    xl := fun k hk => hk.elim
    xS := fun k hk => hk.elim
    xF := fun o b k hb hk => hk.elim
    xW := fun k hk => hk.elim
    s0S := fun k hk => hk
    sZ := fun k _ => trivial }
  refine (hs.2 gh0.hv (fun o => (gh0.bb o, gh0.bo o)) C0 w gh0 us rfl (fun o ho => by simp only [C0, ho]; rfl) (fun o ho => by simp only [C0, ho]; rfl) (fun _ _ => trivial) (by simp only [argsV_length]; omega) hrep).mono (fun e w' he => ?_)
  obtain ⟨vs', rs, st', a', gh', G, rfl, hpost, hres, hR⟩ := he
  refine ⟨tupV vs', rfl, ?_⟩
  obtain ⟨hnsh, hlong⟩ := hns rs st' hpost
  have hk := hR.kept
  have mayos : ∀ b, (∃ k o, look M k = some o ∧ gh.F o b) → ∃ o, o ∈ os ∧ gh.F o b := fun b ⟨k, o, hk, hb⟩ => ⟨o, (hosm k o hk).1, hb⟩
  have heap : ∀ k, k < w.heap.size → ¬ (∃ k' o, look M k' = some o ∧ gh.F o k) → w'.heap[k]? = w.heap[k]? := fun k hk' hn =>
    keptBut_heap hk hk' (fun f ⟨b, f', e, hm⟩ => by cases e; exact hn hm) (fun ⟨b, f', e, _⟩ => by cases e)
  have hosrow : ∀ o, o ∈ os → ∃ e es, look st.ob o = some (.row e es) := fun o ho => by
    obtain ⟨⟨k, o'⟩, hm, rfl⟩ := List.mem_map.1 ho
    obtain ⟨_, e, es, g1, _⟩ := ioOk_mem hM k o' hm
    exact ⟨e, es, g1⟩
  have hnew : ∀ k o, (k, o) ∈ M → ∃ e es es', look st.ob o = some (.row e es) ∧ look st'.ob k = some (.row e es') ∧ es'.length = es.length ∧ noShLL es' = true := fun k o hm => by
    obtain ⟨_, e, es, g1, g2⟩ := ioOk_mem hM k o hm
    obtain ⟨e', es1, es', g3, g4, g5, g6⟩ := ioLong_mem hlong k o hm
    rw [g2] at g3; cases g3
    exact ⟨e, es, es', g1, g4, g5, g6⟩
  have hnewo : ∀ o, o ∈ os → ∃ k e es', (k, o) ∈ M ∧ look st'.ob k = some (.row e es') ∧ look (newObs st'.ob M) o = some (.row e es') := fun o ho => by
    obtain ⟨k, hm, hl'⟩ := (look_newObs st'.ob M o).1 ho
    obtain ⟨e, es, es', _, g2, _⟩ := hnew k o hm
    rw [g2] at hl'
    exact ⟨k, e, es', hm, g2, hl'⟩
  have hlook : ∀ o, look (st.wrote M st'.ob).ob o = if o ∈ os then look (newObs st'.ob M) o else look st.ob o := fun o => by
    simp only [St.wrote, look_append, look_dropI]
    by_cases ho : o ∈ os
    · obtain ⟨k, e, es', _, _, g⟩ := hnewo o ho
      have ho' : o ∈ M.map (·.2) := ho
      simp only [if_pos ho', if_pos ho, g, Option.or_none]
    · have hn := (look_newObs st'.ob M o).2 ho
      have ho' : o ∉ M.map (·.2) := ho
      simp only [if_neg ho', if_neg ho, hn, Option.none_or]
  obtain ⟨gh1, hin, hS1, hv1⟩ := h.multi (st' := st.wrote M st'.ob) (w1 := w') os (fun o => look (newObs st'.ob M) o) (fun o b => ∃ k, (k, o) ∈ M ∧ gh'.F k b) (inHand rs G)
    (fun o ho => by rw [hlook, if_pos ho]) (fun o ho => by rw [hlook, if_neg ho])
    (fun t => by unfold St.get St.wrote; simp only [look_mapT]; cases look st.tm t <;> simp [killI, os]) rfl
    (fun o ho => by
      obtain ⟨k, e, es', hm, g2, g3⟩ := hnewo o ho
      obtain ⟨e1, es1, es1', g4, g5, g6, _⟩ := hnew k o hm
      rw [g2] at g5; cases g5
      exact ⟨e, es1, es', g4, g3, g6⟩)
    hk.size (fun o x k ho hx hk' => heap k ((h.obs o x hx).lt k hk') (fun hm => by
      obtain ⟨o', ho', hF⟩ := mayos k hm
      obtain ⟨e, es, g1⟩ := hosrow o' ho'
      have := h.dis o o' x _ k hx g1 hk' hF
      subst this; exact ho ho'))
    (fun k hk' => heap k (h.sS k hk') (fun hm => by
      obtain ⟨o', ho', hF⟩ := mayos k hm
      obtain ⟨e, es, g1⟩ := hosrow o' ho'
      exact h.nS o' _ k g1 hF hk'))
    (World.keptBut_mono (fun p ⟨b, f, e, hm⟩ => ⟨b, f, e, by
      obtain ⟨o', ho', hF⟩ := mayos b hm
      obtain ⟨e, es, g1⟩ := hosrow o' ho'
      exact (h.wrR o' e es b g1 hF).imp id (fun hh => hh f)⟩) hk)
    (fun o ho e es' hno => by
      obtain ⟨k, e1, es1, hm, g2, g3⟩ := hnewo o ho
      rw [g3] at hno; cases hno
      obtain ⟨_, _, _, _, g5, _, g7⟩ := hnew k o hm
      rw [g2] at g5; cases g5
      have hkl := mem_look hMk hm
      have hpn := hR.pins k (gh0.hv k, gh0.bb k, gh0.bo k) (by simp only [C0]; rw [if_pos (hosm k o hkl).2.1]) (by rw [g2]; simp)
      have e2 : gh'.hv k = gh.hv o := by
        have := congrArg (·.1) hpn
        simp only [gh0, hkl] at this
        exact this
      have hob := hR.obs k _ g2
      cases hob with
      | row how =>
        rw [e2] at how
        refine (how.noSh (by simp [AW.noSh, g7])).congr (fun b => ⟨fun hb => ⟨k, hm, hb⟩, fun ⟨k', hm', hb⟩ => ?_⟩)
        have := nodup_snd hMo hm hm'
        subst this; exact hb)
    (fun o ho b ⟨k, hm, hb⟩ => by
      obtain ⟨e, es, es', _, g2, _⟩ := hnew k o hm
      rcases hR.wrR k e es' b g2 hb with hw | hw
      · exact Or.inr (Or.inr hw)
      · exact Or.inl (mayos b (hw 0)))
    (fun o o' b ho ho' ⟨k, hm, hb⟩ ⟨k', hm', hb'⟩ => by
      obtain ⟨_, _, _, _, g2, _⟩ := hnew k o hm
      obtain ⟨_, _, _, _, g2', _⟩ := hnew k' o' hm'
      have := hR.dis k k' _ _ b g2 g2' hb hb'
      subst this
      have h1 := mem_look hMk hm
      have h2 := mem_look hMk hm'
      rw [h1] at h2; cases h2; rfl)
    (fun b hb => ⟨hR.xl b hb, by
      rcases hR.xW b hb with hw | hw
      · exact Or.inr (Or.inr hw)
      · exact Or.inl (mayos b (hw 0))⟩)
    (fun o b ho ⟨k, hm, hb⟩ hX => by
      obtain ⟨_, _, _, _, g2, _⟩ := hnew k o hm
      exact hR.xF k _ b g2 hX hb)
  have hres' : Res P w' gh1.S rs vs' G := ⟨hres.len, hres.one, hres.agg, hres.sz, hres.c1, fun i r v j c hr' hv' hc => (hres.ow i r v j c hr' hv' hc).noSh (noShL_get (noShR_get hnsh i r hr') j c hc), hres.dis⟩
  cases d with
  | none => exact ⟨_, gh1, hK rs st' hpost, hin.less (fun k hk => hk.elim)⟩
  | some d =>
    obtain ⟨gh2, hr2, hn2, hl2, hv2, _, _⟩ := layR_sound d rs vs' G 0 hin hpin hres' (fun b hb => hb)
    refine ⟨_, gh2, hK rs st' hpost, ?_⟩
    simp only [after]
    refine (hr2.less (X' := No) (fun k hk => hk.elim)).set (by rw [hn2]; exact hd d rfl) ?_
    match rs, vs', hl2, hv2 with
    | [], [], _, hv2 => exact .tup rfl (fun i v hi => by simp [vsR] at hi)
    | [r], [v], _, hv2 => exact hv2 0 _ _ rfl rfl
    | r :: r2 :: rs, v :: v2 :: vs, hl2, hv2 =>
      refine .tup (by simp [← hl2]) (fun i x hi => ?_)
      have hil := (List.getElem?_eq_some_iff.1 hi).1
      have hvi : (v :: v2 :: vs)[i]? = some (v :: v2 :: vs)[i] := List.getElem?_eq_getElem (by omega)
      have := hv2 i x _ hi hvi
      simpa [Array.getD_eq_getD_getElem?, hvi] using this
    | [], v :: vs, hl2, _ => simp [vsR] at hl2
    | r :: rs, [], hl2, _ => simp [vsR] at hl2
    | [r], v :: v2 :: vs, hl2, _ => simp [vsR] at hl2
    | r :: r2 :: rs, [v], hl2, _ => simp [vsR] at hl2
end
end Go.Proofs.YtaodmogcjpainaaDoor.AW
