/- The engine, part 4: what memory holds, told as data; operations, code and calls reckoned upon it. No condition. -/
import Derived.Test.YtldniggehdpheaaB3
import Derived.OrdersHeld
import Derived.Laws.Strings
import Derived.Deep.Slices
import Derived.SizedLaws
import Derived.OpenShut
import Derived.ChangeOld
import Derived.Below
import Derived.Laws.Externs
import Derived.Lib.Bytealg
namespace Go.Proofs.Ytldniggehdpheaa.AW
open Go.RowKit
set_option linter.unusedSimpArgs false
set_option linter.unusedVariables false

mutual
def killI (os : List Nat) : V → V
  | .ref o (x :: p) n => if os.contains o then .dead else .ref o (x :: p) n
  | .rp o (x :: p) i j => if os.contains o then .dead else .rp o (x :: p) i j
  | .agg vs => .agg (killIL os vs)
  | .tup vs => .tup (killIL os vs)
  | .cond c v => .cond c (killI os v)
  | v => v
def killIL (os : List Nat) : List V → List V
  | [] => []
  | v :: r => killI os v :: killIL os r
end

def dropI (os : List Nat) : List (Nat × Ob) → List (Nat × Ob)
  | [] => []
  | (o, x) :: r => if os.contains o then dropI os r else (o, x) :: dropI os r

def newObs (ob' : List (Nat × Ob)) : List (Nat × Nat) → List (Nat × Ob)
  | [] => []
  | (k, o) :: r => (o, (look ob' k).getD (.box [])) :: newObs ob' r

/-- The rows that the callee wrote, as they are now. -/
def St.wrote (st : St) (M : List (Nat × Nat)) (ob' : List (Nat × Ob)) : St := { st with tm := mapT (killI (M.map (·.2))) st.tm, ob := newObs ob' M ++ dropI (M.map (·.2)) st.ob }

/-- The rows that are written are the caller's, whole. -/
def ioOk (st : St) (iob : List (Nat × Ob)) : List (Nat × Nat) → Prop
  | [] => True
  | (k, o) :: r => (match look st.ob o with
    | some (.row e es) => look iob k = some (.row e es)
    | _ => False) ∧ isPin k = true ∧ ioOk st iob r

/-- They are as long as before, and all of them is their own. -/
def ioLong (iob ob' : List (Nat × Ob)) : List (Nat × Nat) → Prop
  | [] => True
  | (k, _) :: r => (match look iob k, look ob' k with
    | some (.row e es), some (.row e' es') => e' = e ∧ es'.length = es.length ∧ noShLL es' = true
    | _, _ => False) ∧ ioLong iob ob' r

def roAll : List Arg → Bool
  | [] => true
  | .ro _ :: r => roAll r
  | _ => false

section
variable {P : Program} {w w1 : World} {C : Cx} {X : Nat → Prop} {gh gh' : Gh} {st st' st'' : St} {a : Act} {v : V} {u : Value} {ob ob' : List (Nat × Ob)} {S S' : Nat → Prop} {K : St → Prop} {d : D} {F : Nat → Prop}

theorem killIL_get (os : List Nat) (vs : List V) (i : Nat) : (killIL os vs)[i]? = (vs[i]?).map (killI os) := by
  induction vs generalizing i with
  | nil => simp [killIL]
  | cons v r ih => cases i <;> simp [killIL, ih]
theorem killIL_length (os : List Nat) (vs : List V) : (killIL os vs).length = vs.length := by
  induction vs with
  | nil => rfl
  | cons v r ih => simp [killIL, ih]

theorem VR.multi {os : List Nat} (h : VR P w gh ob v u) (hob : ∀ o x, look ob o = some x → ObR P w gh o x) (h1 : ∀ o x, o ∉ os → look ob o = some x → look ob' o = some x ∧ ∀ k, gh.F o k → w1.heap[k]? = w.heap[k]?)
    (h2 : ∀ o x, o ∈ os → look ob o = some x → ∃ e es es', x = .row e es ∧ look ob' o = some (.row e es') ∧ es'.length = es.length) (hg : gh'.hv = gh.hv ∧ gh'.bb = gh.bb ∧ gh'.bo = gh.bo ∧ gh'.S = gh.S) (hS : ∀ k, gh.S k → w1.heap[k]? = w.heap[k]?) :
    VR P w1 gh' ob' (killI os v) u := by
  induction h with
  | dead => exact .dead
  | und => exact .und
  | sc h => exact .sc h
  | nil => exact .nil
  | imm h => exact .imm (by rw [hg.2.2.2]; exact h.move hS)
  | @ref o n p x e es A c hx hn hle =>
    by_cases ho : o ∈ os
    · cases p with
      | cons q p =>
        have : os.contains o = true := by simpa using ho
        simp only [killI, this, if_true]; exact .dead
      | nil =>
        simp only [killI]
        obtain ⟨e0, es0, es', rfl, g2, g3⟩ := h2 o x ho hx
        obtain ⟨rfl, rfl, hv⟩ := navO_nil hn
        rw [← g3] at hv hle
        exact VR.whole g2 (by rw [hg.1, hv, g3]) (by rw [g3] at hle ⊢; exact hle)
    · obtain ⟨g1, g2⟩ := h1 o x ho hx
      have : os.contains o = false := by simpa using ho
      have hn' : NavO P w1 gh' o x p (.row false e es) (.slice A es.length c) := ((hob o x hx).navO hn g2).ghc hg.1 hg.2.1 hg.2.2.1
      cases p with
      | nil => simp only [killI]; exact .ref g1 hn' hle
      | cons q p => simp only [killI, this, Bool.false_eq_true, if_false]; exact .ref g1 hn' hle
  | @bp o j cs hx =>
    simp only [killI]
    by_cases ho : o ∈ os
    · obtain ⟨e0, es0, es', g1, _⟩ := h2 o _ ho hx; cases g1
    · have := VR.bp (P := P) (w := w1) (gh := gh') (j := j) (h1 o _ ho hx).1
      rw [hg.2.1, hg.2.2.1] at this; exact this
  | @rp o i j p x e es ad c hx hn =>
    by_cases ho : o ∈ os
    · cases p with
      | cons q p =>
        have : os.contains o = true := by simpa using ho
        simp only [killI, this, if_true]; exact .dead
      | nil =>
        simp only [killI]
        obtain ⟨e0, es0, es', rfl, g2, g3⟩ := h2 o x ho hx
        obtain ⟨rfl, rfl, hv⟩ := navO_nil hn
        have hn' : NavO P w1 gh' o (.row e0 es') [] (.row false e0 es') (.slice (some ad) es'.length c) := by
          simp only [NavO, hg.1, hv]; rw [g3]; exact .nil
        exact .rp g2 hn'
    · obtain ⟨g1, g2⟩ := h1 o x ho hx
      have : os.contains o = false := by simpa using ho
      have hn' : NavO P w1 gh' o x p (.row false e es) (.slice (some ad) es.length c) := ((hob o x hx).navO hn g2).ghc hg.1 hg.2.1 hg.2.2.1
      cases p with
      | nil => simp only [killI]; exact .rp g1 hn'
      | cons q p => simp only [killI, this, Bool.false_eq_true, if_false]; exact .rp g1 hn'
  | ip U hs h => exact .ip U (by rw [hg.2.2.2]; exact hs) (fun q d hd => ⟨(World.cell?_of_block (a := ⟨_, _, none⟩) (hS _ hs)).trans (h q d hd).1, by rw [hg.2.2.2]; exact (h q d hd).2.move hS⟩)
  | clo h => exact .clo (by rw [hg.2.2.2]; exact h.move hS (fun _ hk => hk))
  | agg hl h1' h ih =>
    simp only [killI]
    refine .agg (by rw [killIL_length]; exact hl) h1' (fun i v hv => ?_)
    rw [killIL_get] at hv
    obtain ⟨v0, hv0, rfl⟩ := Option.map_eq_some_iff.1 hv
    exact ih i v0 hv0
  | tup hl h ih =>
    simp only [killI]
    refine .tup (by rw [killIL_length]; exact hl) (fun i v hv => ?_)
    rw [killIL_get] at hv
    obtain ⟨v0, hv0, rfl⟩ := Option.map_eq_some_iff.1 hv
    exact ih i v0 hv0
  | cond ht hf ih => simp only [killI]; exact .cond ih hf

theorem Rep.multi (h : Rep P C X st a w gh) (os : List Nat) (new : Nat → Option Ob) (F1 : Nat → Nat → Prop) (X' : Nat → Prop)
    (hlk : ∀ o, o ∈ os → look st'.ob o = new o) (hlk2 : ∀ o, o ∉ os → look st'.ob o = look st.ob o) (htm : ∀ t, st'.get t = killI os (st.get t)) (hnt : st'.nt = st.nt)
    (hos : ∀ o, o ∈ os → ∃ e es es', look st.ob o = some (.row e es) ∧ new o = some (.row e es') ∧ es'.length = es.length)
    (hsz : w.heap.size ≤ w1.heap.size) (hFo : ∀ o x k, o ∉ os → look st.ob o = some x → gh.F o k → w1.heap[k]? = w.heap[k]?) (hS : ∀ k, gh.S k → w1.heap[k]? = w.heap[k]?)
    (hk : w.keptBut w1 (fun p => ∃ b f, p = .cell b f ∧ (C.w0.heap.size ≤ b ∨ C.may b f)))
    (how : ∀ o, o ∈ os → ∀ e es', new o = some (.row e es') → Ow P w1 gh.S (.row false e es') (gh.hv o) (F1 o))
    (hF1 : ∀ o, o ∈ os → ∀ k, F1 o k → (∃ o', o' ∈ os ∧ gh.F o' k) ∨ X k ∨ w.heap.size ≤ k) (hd1 : ∀ o o' k, o ∈ os → o' ∈ os → F1 o k → F1 o' k → o = o')
    (hX' : ∀ k, X' k → k < w1.heap.size ∧ ((∃ o', o' ∈ os ∧ gh.F o' k) ∨ X k ∨ w.heap.size ≤ k)) (hXF : ∀ o k, o ∈ os → F1 o k → ¬ X' k) :
    ∃ gh', Rep P C X' st' a w1 gh' ∧ gh'.S = gh.S ∧ gh'.hv = gh.hv := by
  classical
  let gh' : Gh := { gh with F := fun o => if o ∈ os then F1 o else gh.F o }
  have gin : ∀ o, o ∈ os → gh'.F o = F1 o := fun o ho => by simp only [gh']; rw [if_pos ho]
  have gout : ∀ o, o ∉ os → gh'.F o = gh.F o := fun o ho => by simp only [gh']; rw [if_neg ho]
  have cls : ∀ o', o' ∉ os → ∀ x k, look st.ob o' = some x → gh.F o' k → ¬ ((∃ o, o ∈ os ∧ gh.F o k) ∨ X k ∨ w.heap.size ≤ k) := by
    intro o' ho' x k hx hk' hh
    rcases hh with ⟨o, ho, hF⟩ | hh | hh
    · obtain ⟨e, es, _, hl, _⟩ := hos o ho
      have := h.dis o' o x _ k hx hl hk' hF
      subst this; exact ho' ho
    · exact h.xF o' x k hx hh hk'
    · have := (h.obs o' x hx).lt k hk'; omega
  have wr : ∀ k, ((∃ o, o ∈ os ∧ gh.F o k) ∨ X k ∨ w.heap.size ≤ k) → C.w0.heap.size ≤ k ∨ ∀ f, C.may k f := by
    rintro k (⟨o, ho, hF⟩ | hh | hh)
    · obtain ⟨e, es, _, hl, _⟩ := hos o ho
      exact h.wrR o e es k hl hF
    · exact h.xW k hh
    · exact Or.inl (Nat.le_trans h.size hh)
  have notS : ∀ k, ((∃ o, o ∈ os ∧ gh.F o k) ∨ X k ∨ w.heap.size ≤ k) → ¬ gh.S k := by
    rintro k (⟨o, ho, hF⟩ | hh | hh) hS'
    · obtain ⟨e, es, _, hl, _⟩ := hos o ho
      exact h.nS o _ k hl hF hS'
    · exact h.xS k hh hS'
    · have := h.sS k hS'; omega
  have rowed : ∀ o, o ∈ os → ∀ x, look st'.ob o = some x → ∃ e es', x = .row e es' ∧ new o = some (.row e es') := fun o ho x hx => by
    obtain ⟨e, es, es', _, h2, _⟩ := hos o ho
    rw [hlk o ho, h2] at hx; cases hx
    exact ⟨e, es', rfl, h2⟩
  have hobs : ∀ o x, look st'.ob o = some x → ObR P w1 gh' o x := fun o x hx => by
    by_cases ho : o ∈ os
    · obtain ⟨e, es', rfl, h2⟩ := rowed o ho x hx
      exact .row (by rw [gin o ho]; exact how o ho e es' h2)
    · rw [hlk2 o ho] at hx
      have := (h.obs o x hx).world (fun k hk => hFo o x k ho hx hk) hS
      cases this with
      | row h => exact .row (by rw [gout o ho]; exact h)
      | box xs G hb hl h1 hc hxx dis nb hF => exact .box xs G hb hl h1 hc hxx dis nb (fun k => by rw [gout o ho]; exact hF k)
  refine ⟨gh', ?_, rfl, rfl⟩
  exact {
    obs := hobs
    dis := fun o1 o2 b1 b2 k hb1 hb2 hk1 hk2 => by
      by_cases e1 : o1 ∈ os <;> by_cases e2 : o2 ∈ os
      · rw [gin _ e1] at hk1; rw [gin _ e2] at hk2; exact hd1 o1 o2 k e1 e2 hk1 hk2
      · rw [gin _ e1] at hk1; rw [gout _ e2] at hk2; rw [hlk2 _ e2] at hb2; exact (cls o2 e2 b2 k hb2 hk2 (hF1 o1 e1 k hk1)).elim
      · rw [gout _ e1] at hk1; rw [gin _ e2] at hk2; rw [hlk2 _ e1] at hb1; exact (cls o1 e1 b1 k hb1 hk1 (hF1 o2 e2 k hk2)).elim
      · rw [gout _ e1] at hk1; rw [gout _ e2] at hk2; rw [hlk2 _ e1] at hb1; rw [hlk2 _ e2] at hb2; exact h.dis o1 o2 b1 b2 k hb1 hb2 hk1 hk2
    sS := fun k hk => Nat.lt_of_lt_of_le (h.sS k hk) hsz
    nS := fun o b k hb hk => by
      by_cases e1 : o ∈ os
      · rw [gin _ e1] at hk; exact notS k (hF1 o e1 k hk)
      · rw [gout _ e1] at hk; rw [hlk2 _ e1] at hb; exact h.nS o b k hb hk
    wrR := fun o e es k hb hk => by
      by_cases e1 : o ∈ os
      · rw [gin _ e1] at hk; exact wr k (hF1 o e1 k hk)
      · rw [gout _ e1] at hk; rw [hlk2 _ e1] at hb; exact h.wrR o e es k hb hk
    wrB := fun o cs k hb hk hne => by
      by_cases e1 : o ∈ os
      · rw [gin _ e1] at hk; exact wr k (hF1 o e1 k hk)
      · rw [gout _ e1] at hk; rw [hlk2 _ e1] at hb; exact h.wrB o cs k hb hk hne
    wrC := fun o cs j hb hj => by
      by_cases e1 : o ∈ os
      · obtain ⟨_, _, h0, _⟩ := rowed o e1 _ hb; cases h0
      · rw [hlk2 _ e1] at hb; exact h.wrC o cs j hb hj
    kept := keptBut_old (World.keptBut_trans (World.keptBut_mono (fun p hp => Or.inl hp) h.kept) (World.keptBut_mono (fun p hp => by
      obtain ⟨b, f, rfl, hb | hb⟩ := hp
      · exact Or.inr hb
      · exact Or.inl ⟨b, f, rfl, hb⟩) hk))
    pins := fun o x hp hn => h.pins o x hp (fun e0 => by
      by_cases e1 : o ∈ os
      · obtain ⟨_, _, _, hl, _⟩ := hos o e1; rw [e0] at hl; cases hl
      · rw [hlk2 _ e1] at hn; exact hn e0)
    tms := fun t => by
      rw [htm]
      refine (h.tms t).multi h.obs (fun o x ho hx => ⟨by rw [hlk2 _ ho]; exact hx, fun k hk => hFo o x k ho hx hk⟩) (fun o x ho hx => ?_) ⟨rfl, rfl, rfl, rfl⟩ hS
      obtain ⟨e, es, es', h1, h2, h3⟩ := hos o ho
      rw [hx] at h1; cases h1
      exact ⟨e, es, es', rfl, by rw [hlk o ho]; exact h2, h3⟩
    nt := by rw [hnt]; exact h.nt
    dfs := h.dfs
    xl := fun k hk => (hX' k hk).1
    xS := fun k hk => notS k (hX' k hk).2
    xF := fun o b k hb hk hF => by
      by_cases e1 : o ∈ os
      · rw [gin _ e1] at hF; exact hXF o k e1 hF hk
      · rw [gout _ e1] at hF; rw [hlk2 _ e1] at hb; exact cls o e1 b k hb hF (hX' k hk).2
    xW := fun k hk => wr k (hX' k hk).2
    s0S := h.s0S
    sZ := h.sZ }

theorem look_dropI (os : List Nat) : ∀ (l : List (Nat × Ob)) (o : Nat), look (dropI os l) o = if o ∈ os then none else look l o
  | [], o => by simp [dropI, look]
  | (k, x) :: r, o => by
    simp only [dropI]
    by_cases hk : k ∈ os
    · have : os.contains k = true := by simpa using hk
      rw [if_pos this, look_dropI os r o]
      by_cases ho : o ∈ os
      · rw [if_pos ho, if_pos ho]
      · have hne : o ≠ k := fun e => ho (e ▸ hk)
        rw [if_neg ho, if_neg ho, look, if_neg hne]
    · have : ¬ (os.contains k = true) := by simpa using hk
      rw [if_neg this]
      simp only [look]
      by_cases hok : o = k
      · subst hok; rw [if_pos rfl, if_pos rfl, if_neg hk]
      · rw [if_neg hok, if_neg hok, look_dropI os r o]

theorem look_append {α : Type} : ∀ (A B : List (Nat × α)) (o : Nat), look (A ++ B) o = (look A o).or (look B o)
  | [], B, o => by simp [look]
  | (k, x) :: A, B, o => by
    simp only [List.cons_append, look]
    by_cases h : o = k
    · rw [if_pos h, if_pos h]; rfl
    · rw [if_neg h, if_neg h]; exact look_append A B o

theorem look_newObs (ob' : List (Nat × Ob)) : ∀ (M : List (Nat × Nat)) (o : Nat), (o ∈ M.map (·.2) → ∃ k, (k, o) ∈ M ∧ look (newObs ob' M) o = some ((look ob' k).getD (.box []))) ∧ (o ∉ M.map (·.2) → look (newObs ob' M) o = none)
  | [], o => ⟨fun h => by simp at h, fun _ => rfl⟩
  | (k, o') :: r, o => by
    obtain ⟨h1, h2⟩ := look_newObs ob' r o
    refine ⟨fun h => ?_, fun h => ?_⟩
    · simp only [newObs, look]
      by_cases e : o = o'
      · subst e; rw [if_pos rfl]; exact ⟨k, List.mem_cons_self, rfl⟩
      · rw [if_neg e]
        have : o ∈ r.map (·.2) := by
          simp only [List.map_cons, List.mem_cons] at h
          exact h.resolve_left e
        obtain ⟨k', g1, g2⟩ := h1 this
        exact ⟨k', List.mem_cons_of_mem _ g1, g2⟩
    · simp only [List.map_cons, List.mem_cons, not_or] at h
      simp only [newObs, look, if_neg h.1]
      exact h2 h.2

theorem ioOk_mem {iob : List (Nat × Ob)} : ∀ {M : List (Nat × Nat)}, ioOk st iob M → ∀ k o, (k, o) ∈ M → isPin k = true ∧ ∃ e es, look st.ob o = some (.row e es) ∧ look iob k = some (.row e es)
  | [], _, k, o, h => by simp at h
  | (k', o') :: r, h, k, o, hm => by
    obtain ⟨h1, h2, h3⟩ := h
    rcases List.mem_cons.1 hm with he | hm
    · cases he
      refine ⟨h2, ?_⟩
      split at h1
      · rename_i e es hl; exact ⟨e, es, hl, h1⟩
      · exact h1.elim
    · exact ioOk_mem h3 k o hm

theorem ioLong_mem {iob ob' : List (Nat × Ob)} : ∀ {M : List (Nat × Nat)}, ioLong iob ob' M → ∀ k o, (k, o) ∈ M → ∃ e es es', look iob k = some (.row e es) ∧ look ob' k = some (.row e es') ∧ es'.length = es.length ∧ noShLL es' = true
  | [], _, k, o, h => by simp at h
  | (k', o') :: r, h, k, o, hm => by
    obtain ⟨h1, h3⟩ := h
    rcases List.mem_cons.1 hm with he | hm
    · cases he
      split at h1
      · rename_i e es e' es' hl hl'
        obtain ⟨rfl, h2, h4⟩ := h1
        exact ⟨_, es, es', hl, hl', h2, h4⟩
      · exact h1.elim
    · exact ioLong_mem h3 k o hm

theorem mem_look {α : Type} : ∀ {M : List (Nat × α)}, (M.map (·.1)).Nodup → ∀ {k : Nat} {o : α}, (k, o) ∈ M → look M k = some o
  | [], _, k, o, h => by simp at h
  | (k', o') :: r, hn, k, o, h => by
    simp only [List.map_cons, List.nodup_cons] at hn
    rcases List.mem_cons.1 h with he | hm
    · cases he; simp [look]
    · have : k ≠ k' := fun e => hn.1 (e ▸ List.mem_map.2 ⟨(k, o), hm, rfl⟩)
      rw [look, if_neg this]
      exact mem_look hn.2 hm

theorem nodup_snd {M : List (Nat × Nat)} (hn : (M.map (·.2)).Nodup) {k k' o : Nat} (h : (k, o) ∈ M) (h' : (k', o) ∈ M) : k = k' := by
  induction M with
  | nil => simp at h
  | cons x r ih =>
    obtain ⟨a, b⟩ := x
    simp only [List.map_cons, List.nodup_cons] at hn
    rcases List.mem_cons.1 h with e | e <;> rcases List.mem_cons.1 h' with e' | e'
    · cases e; cases e'; rfl
    · cases e; exact (hn.1 (List.mem_map.2 ⟨(k', o), e', rfl⟩)).elim
    · cases e'; exact (hn.1 (List.mem_map.2 ⟨(k, o), e, rfl⟩)).elim
    · exact ih hn.2 e e'

theorem roAll_get : ∀ {as : List Arg}, roAll as = true → ∀ (i : Nat) (x : Arg), as[i]? = some x → ∃ t, x = .ro t
  | [], _, i, x, h => by simp at h
  | .ro t :: r, hr, i, x, h => by
    cases i with
    | zero => simp at h; exact ⟨t, h.symm⟩
    | succ i => exact roAll_get (as := r) hr i x (by simpa using h)
  | .mv _ _ :: r, hr, i, x, h => by simp [roAll] at hr


theorem aCall_io {f : FuncId} {as : (Nat → Value) → List Arg} {iob : List (Nat × Ob)} {post : List RV → St → Prop} (hs : SoundAt P f (fun uf => argsV 0 (as uf)) iob post) (hpin : ∀ n, 3000 ≤ n → C.pin n = none) (M : List (Nat × Nat)) {vs : List V} {d : Option Nat} (hro : ∀ uf, roAll (as uf) = true) (hlen : ∀ uf, vs.length = (as uf).length)
    (hM : ioOk st iob M) (hMk : (M.map (·.1)).Nodup) (hMo : (M.map (·.2)).Nodup) (hiob : iob.map (·.1) = M.map (·.1)) (hl : ∀ uf, lendAll ⟨M, uf, pvOf C, dropI (M.map (·.2)) st.ob, iob⟩ vs (as uf))
    (hns : ∀ rs st', post rs st' → noShR rs = true ∧ ioLong iob st'.ob M) (hK : ∀ rs st', post rs st' → ev (b := ⟨K⟩) (after (st.wrote M st'.ob) d rs)) : aCall P C st f vs d K := by
  refine Or.inl ⟨hs.1, fun a w gh us h hus hv hd => ?_⟩
  let os := M.map (·.2)
  let gh0 : Gh := { S := fun k => gh.S k ∨ ∃ o x, look (dropI os st.ob) o = some x ∧ gh.F o k, hv := fun k => match look M k with | some o => gh.hv o | none => undef, bb := fun _ => 0, bo := fun _ => 0, F := fun k b => ∃ o, look M k = some o ∧ gh.F o b }
  let C0 : Cx := { w0 := w, s0 := gh0.S, may := fun b _ => ∃ k o, look M k = some o ∧ gh.F o b, pin := fun k => if isPin k = true then some (gh0.hv k, gh0.bb k, gh0.bo k) else none, z := fun _ => True }
  have hro := hro gh0.hv
  have hlen := hlen gh0.hv
  have hl := hl gh0.hv
  have hdr : ∀ o x, look (dropI os st.ob) o = some x → o ∉ os ∧ look st.ob o = some x := fun o x hx => by
    rw [look_dropI] at hx
    by_cases ho : o ∈ os
    · rw [if_pos ho] at hx; cases hx
    · rw [if_neg ho] at hx; exact ⟨ho, hx⟩
  have hosm : ∀ k o, look M k = some o → o ∈ os ∧ isPin k = true ∧ ∃ e es, look st.ob o = some (.row e es) ∧ look iob k = some (.row e es) := fun k o hk => by
    have hm := look_mem hk
    obtain ⟨g1, g2⟩ := ioOk_mem hM k o hm
    exact ⟨List.mem_map.2 ⟨(k, o), hm, rfl⟩, g1, g2⟩
  have hiobM : ∀ k x, look iob k = some x → ∃ o e es, look M k = some o ∧ x = .row e es ∧ look st.ob o = some (.row e es) := fun k x hx => by
    have h1 : k ∈ iob.map (·.1) := List.mem_map.2 ⟨(k, x), look_mem hx, rfl⟩
    rw [hiob] at h1
    obtain ⟨⟨k', o⟩, hm, rfl⟩ := List.mem_map.1 h1
    have hk := mem_look hMk hm
    obtain ⟨_, _, e, es, g1, g2⟩ := hosm _ _ hk
    rw [hx] at g2; cases g2
    exact ⟨o, e, es, hk, rfl, g1⟩
  have hob0 : ∀ k o e es, look M k = some o → look st.ob o = some (.row e es) → Ow P w gh.S (.row false e es) (gh0.hv k) (gh0.F k) := fun k o e es hk ho => by
    have := h.obs o _ ho
    cases this with
    | row how =>
      have e1 : gh0.hv k = gh.hv o := by simp only [gh0, hk]
      rw [e1]
      exact how.congr (fun b => ⟨fun hb => ⟨o, hk, hb⟩, fun ⟨o', ho', hb⟩ => by rw [hk] at ho'; cases ho'; exact hb⟩)
  have hrep : Rep P C0 No ⟨us.size, zipT 0 (argsV 0 (as gh0.hv)), iob⟩ ⟨us, []⟩ w gh0 := {
    obs := fun k b hb => by
      obtain ⟨o, e, es, hk, rfl, ho⟩ := hiobM k b hb
      exact .row ((hob0 k o e es hk ho).mono (fun k hk => Or.inl hk))
    dis := fun k k' b b' q hb hb' ⟨o, ho, hq⟩ ⟨o', ho', hq'⟩ => by
      obtain ⟨_, _, e, es, g1, _⟩ := hosm k o ho
      obtain ⟨_, _, e', es', g1', _⟩ := hosm k' o' ho'
      have := h.dis o o' _ _ q g1 g1' hq hq'
      subst this
      exact nodup_snd hMo (look_mem ho) (look_mem ho')
    sS := fun k hk => by
      rcases hk with hk | ⟨o, x, hx, hk⟩
      · exact h.sS k hk
      · exact (h.obs o x (hdr o x hx).2).lt k hk
    nS := fun k b q hb ⟨o, ho, hq⟩ hS => by
      obtain ⟨g0, _, e, es, g1, _⟩ := hosm k o ho
      rcases hS with hS | ⟨o', x, hx, hq'⟩
      · exact h.nS o _ q g1 hq hS
      · have := h.dis o o' _ x q g1 (hdr o' x hx).2 hq hq'
        subst this
        exact (hdr o x hx).1 g0
    wrR := fun k e es q hb ⟨o, ho, hq⟩ => Or.inr (fun f => ⟨k, o, ho, hq⟩)
    wrB := fun k cs q hb => by obtain ⟨o, e, es, _, he, _⟩ := hiobM k _ hb; cases he
    wrC := fun k cs j hb => by obtain ⟨o, e, es, _, he, _⟩ := hiobM k _ hb; cases he
    kept := World.keptBut_refl w _
    pins := fun k x hp hn => by
      simp only [C0] at hp
      split at hp
      · cases hp; rfl
      · cases hp
    tms := fun t => by
      have e1 : St.get ⟨us.size, zipT 0 (argsV 0 (as gh0.hv)), iob⟩ t = ((argsV 0 (as gh0.hv))[t]?).getD .dead := by
        unfold St.get; simp only [look_zipT, Nat.zero_le, if_true, Nat.sub_zero]
      rw [e1, argsV_get]
      cases hi : (as gh0.hv)[t]? with
      | none => exact .dead
      | some x =>
        obtain ⟨v0, rfl⟩ := roAll_get hro t x hi
        have hlt := (List.getElem?_eq_some_iff.1 hi).1
        have hvt : vs[t]? = some vs[t] := List.getElem?_eq_getElem (by omega)
        refine lend_sound (L := ⟨M, gh0.hv, pvOf C, dropI os st.ob, iob⟩) (fun k o hk => ?_) (fun o v hv hso => ?_) h.obs (fun k hk => Or.inl hk) (fun o x k hx hk => Or.inr ⟨o, x, hx, hk⟩) (fun o x hx => (hdr o x hx).2) (hv t _ hvt) (lendAll_get hl t _ _ hvt hi)
        · have hk' := mem_look hMk hk
          obtain ⟨_, _, e, es, g1, g2⟩ := hosm k o hk'
          exact ⟨e, es, g1, g2, by simp only [gh0, hk'], rfl⟩
        · obtain ⟨x, hx, rfl⟩ := Option.map_eq_some_iff.1 hv
          have := h.pins o x hx (fun e => by rw [e] at hso; cases hso)
          rw [← this]
    nt := Nat.le_refl _
    dfs := rfl
    xl := fun k hk => hk.elim
    xS := fun k hk => hk.elim
    xF := fun o b k hb hk => hk.elim
    xW := fun k hk => hk.elim
    s0S := fun k hk => hk
    sZ := fun k _ => trivial }
  refine (hs.2 gh0.hv (fun o => (gh0.bb o, gh0.bo o)) C0 w gh0 us rfl (fun o ho => by simp only [C0, ho]; rfl) (fun o ho => by simp only [C0, ho]; rfl) (fun _ _ => trivial) (by simp only [argsV_length]; omega) hrep).mono (fun e w' he => ?_)
  obtain ⟨vs', rs, st', a', gh', G, rfl, hpost, hres, hR⟩ := he
  refine ⟨tupV vs', rfl, ?_⟩
  obtain ⟨hnsh, hlong⟩ := hns rs st' hpost
  have hk := hR.kept
  have mayos : ∀ b, (∃ k o, look M k = some o ∧ gh.F o b) → ∃ o, o ∈ os ∧ gh.F o b := fun b ⟨k, o, hk, hb⟩ => ⟨o, (hosm k o hk).1, hb⟩
  have heap : ∀ k, k < w.heap.size → ¬ (∃ k' o, look M k' = some o ∧ gh.F o k) → w'.heap[k]? = w.heap[k]? := fun k hk' hn =>
    keptBut_heap hk hk' (fun f ⟨b, f', e, hm⟩ => by cases e; exact hn hm) (fun ⟨b, f', e, _⟩ => by cases e)
  have hosrow : ∀ o, o ∈ os → ∃ e es, look st.ob o = some (.row e es) := fun o ho => by
    obtain ⟨⟨k, o'⟩, hm, rfl⟩ := List.mem_map.1 ho
    obtain ⟨_, e, es, g1, _⟩ := ioOk_mem hM k o' hm
    exact ⟨e, es, g1⟩
  have hnew : ∀ k o, (k, o) ∈ M → ∃ e es es', look st.ob o = some (.row e es) ∧ look st'.ob k = some (.row e es') ∧ es'.length = es.length ∧ noShLL es' = true := fun k o hm => by
    obtain ⟨_, e, es, g1, g2⟩ := ioOk_mem hM k o hm
    obtain ⟨e', es1, es', g3, g4, g5, g6⟩ := ioLong_mem hlong k o hm
    rw [g2] at g3; cases g3
    exact ⟨e, es, es', g1, g4, g5, g6⟩
  have hnewo : ∀ o, o ∈ os → ∃ k e es', (k, o) ∈ M ∧ look st'.ob k = some (.row e es') ∧ look (newObs st'.ob M) o = some (.row e es') := fun o ho => by
    obtain ⟨k, hm, hl'⟩ := (look_newObs st'.ob M o).1 ho
    obtain ⟨e, es, es', _, g2, _⟩ := hnew k o hm
    rw [g2] at hl'
    exact ⟨k, e, es', hm, g2, hl'⟩
  have hlook : ∀ o, look (st.wrote M st'.ob).ob o = if o ∈ os then look (newObs st'.ob M) o else look st.ob o := fun o => by
    simp only [St.wrote, look_append, look_dropI]
    by_cases ho : o ∈ os
    · obtain ⟨k, e, es', _, _, g⟩ := hnewo o ho
      have ho' : o ∈ M.map (·.2) := ho
      simp only [if_pos ho', if_pos ho, g, Option.or_none]
    · have hn := (look_newObs st'.ob M o).2 ho
      have ho' : o ∉ M.map (·.2) := ho
      simp only [if_neg ho', if_neg ho, hn, Option.none_or]
  obtain ⟨gh1, hin, hS1, hv1⟩ := h.multi (st' := st.wrote M st'.ob) (w1 := w') os (fun o => look (newObs st'.ob M) o) (fun o b => ∃ k, (k, o) ∈ M ∧ gh'.F k b) (inHand rs G)
    (fun o ho => by rw [hlook, if_pos ho]) (fun o ho => by rw [hlook, if_neg ho])
    (fun t => by unfold St.get St.wrote; simp only [look_mapT]; cases look st.tm t <;> simp [killI, os]) rfl
    (fun o ho => by
      obtain ⟨k, e, es', hm, g2, g3⟩ := hnewo o ho
      obtain ⟨e1, es1, es1', g4, g5, g6, _⟩ := hnew k o hm
      rw [g2] at g5; cases g5
      exact ⟨e, es1, es', g4, g3, g6⟩)
    hk.size (fun o x k ho hx hk' => heap k ((h.obs o x hx).lt k hk') (fun hm => by
      obtain ⟨o', ho', hF⟩ := mayos k hm
      obtain ⟨e, es, g1⟩ := hosrow o' ho'
      have := h.dis o o' x _ k hx g1 hk' hF
      subst this; exact ho ho'))
    (fun k hk' => heap k (h.sS k hk') (fun hm => by
      obtain ⟨o', ho', hF⟩ := mayos k hm
      obtain ⟨e, es, g1⟩ := hosrow o' ho'
      exact h.nS o' _ k g1 hF hk'))
    (World.keptBut_mono (fun p ⟨b, f, e, hm⟩ => ⟨b, f, e, by
      obtain ⟨o', ho', hF⟩ := mayos b hm
      obtain ⟨e, es, g1⟩ := hosrow o' ho'
      exact (h.wrR o' e es b g1 hF).imp id (fun hh => hh f)⟩) hk)
    (fun o ho e es' hno => by
      obtain ⟨k, e1, es1, hm, g2, g3⟩ := hnewo o ho
      rw [g3] at hno; cases hno
      obtain ⟨_, _, _, _, g5, _, g7⟩ := hnew k o hm
      rw [g2] at g5; cases g5
      have hkl := mem_look hMk hm
      have hpn := hR.pins k (gh0.hv k, gh0.bb k, gh0.bo k) (by simp only [C0]; rw [if_pos (hosm k o hkl).2.1]) (by rw [g2]; simp)
      have e2 : gh'.hv k = gh.hv o := by
        have := congrArg (·.1) hpn
        simp only [gh0, hkl] at this
        exact this
      have hob := hR.obs k _ g2
      cases hob with
      | row how =>
        rw [e2] at how
        refine (how.noSh (by simp [AW.noSh, g7])).congr (fun b => ⟨fun hb => ⟨k, hm, hb⟩, fun ⟨k', hm', hb⟩ => ?_⟩)
        have := nodup_snd hMo hm hm'
        subst this; exact hb)
    (fun o ho b ⟨k, hm, hb⟩ => by
      obtain ⟨e, es, es', _, g2, _⟩ := hnew k o hm
      rcases hR.wrR k e es' b g2 hb with hw | hw
      · exact Or.inr (Or.inr hw)
      · exact Or.inl (mayos b (hw 0)))
    (fun o o' b ho ho' ⟨k, hm, hb⟩ ⟨k', hm', hb'⟩ => by
      obtain ⟨_, _, _, _, g2, _⟩ := hnew k o hm
      obtain ⟨_, _, _, _, g2', _⟩ := hnew k' o' hm'
      have := hR.dis k k' _ _ b g2 g2' hb hb'
      subst this
      have h1 := mem_look hMk hm
      have h2 := mem_look hMk hm'
      rw [h1] at h2; cases h2; rfl)
    (fun b hb => ⟨hR.xl b hb, by
      rcases hR.xW b hb with hw | hw
      · exact Or.inr (Or.inr hw)
      · exact Or.inl (mayos b (hw 0))⟩)
    (fun o b ho ⟨k, hm, hb⟩ hX => by
      obtain ⟨_, _, _, _, g2, _⟩ := hnew k o hm
      exact hR.xF k _ b g2 hX hb)
  have hres' : Res P w' gh1.S rs vs' G := ⟨hres.len, hres.one, hres.agg, hres.sz, hres.c1, fun i r v j c hr' hv' hc => (hres.ow i r v j c hr' hv' hc).noSh (noShL_get (noShR_get hnsh i r hr') j c hc), hres.dis⟩
  cases d with
  | none => exact ⟨_, gh1, hK rs st' hpost, hin.less (fun k hk => hk.elim)⟩
  | some d =>
    obtain ⟨gh2, hr2, hn2, hl2, hv2, _, _⟩ := layR_sound d rs vs' G 0 hin hpin hres' (fun b hb => hb)
    refine ⟨_, gh2, hK rs st' hpost, ?_⟩
    simp only [after]
    refine (hr2.less (X' := No) (fun k hk => hk.elim)).set (by rw [hn2]; exact hd d rfl) ?_
    match rs, vs', hl2, hv2 with
    | [], [], _, hv2 => exact .tup rfl (fun i v hi => by simp [vsR] at hi)
    | [r], [v], _, hv2 => exact hv2 0 _ _ rfl rfl
    | r :: r2 :: rs, v :: v2 :: vs, hl2, hv2 =>
      refine .tup (by simp [← hl2]) (fun i x hi => ?_)
      have hil := (List.getElem?_eq_some_iff.1 hi).1
      have hvi : (v :: v2 :: vs)[i]? = some (v :: v2 :: vs)[i] := List.getElem?_eq_getElem (by omega)
      have := hv2 i x _ hi hvi
      simpa [Array.getD_eq_getD_getElem?, hvi] using this
    | [], v :: vs, hl2, _ => simp [vsR] at hl2
    | r :: rs, [], hl2, _ => simp [vsR] at hl2
    | [r], v :: v2 :: vs, hl2, _ => simp [vsR] at hl2
    | r :: r2 :: rs, [v], hl2, _ => simp [vsR] at hl2
end
end Go.Proofs.Ytldniggehdpheaa.AW

namespace Go.Proofs.Ytldniggehdpheaa.AW
open Go.RowKit
set_option linter.unusedSimpArgs false
set_option linter.unusedVariables false

def sizedB (P : Program) : Bool := (List.range P.types.size).all fun t => match elT P t with
  | some e => decide (0 < szT P e)
  | none => true

theorem sized_of {P : Program} (h : sizedB P = true) : Sized P := fun t e he => by
  have hlt : t < P.types.size := by
    unfold elT at he
    split at he
    · assumption
    · cases he
  have := List.all_eq_true.1 h t (List.mem_range.2 hlt)
  rw [he] at this
  simpa using this

theorem w64 {x : Int} (h0 : -9223372036854775808 ≤ x) (h1 : x < 9223372036854775808) : IntKind.i64.wrap x = x := by
  unfold IntKind.wrap
  simp [IntKind.bits, IntKind.signed]
  omega
theorem w64s {i n : Nat} (h : i < n) (hn : n ≤ 9223372036854775807) : IntKind.i64.wrap ((i : Int) + 1) = ((i + 1 : Nat) : Int) := by
  rw [w64 (by omega) (by omega)]; omega

/-- Numbers. -/
def cI (n : Int) : D := .sc (.int .i64 n)
def cS (s : ByteArray) : D := .sc (.string s)
def cB (b : Bool) : D := .sc (.bool b)
def vI (n : Int) : V := .sc (.int .i64 n)
def vS (s : ByteArray) : V := .sc (.string s)
def vB (b : Bool) : V := .sc (.bool b)

/-- Rows whose elements have one cell. -/
def row1 {α : Type} (f : α → D) (l : List α) : List (List D) := l.map fun x => [f x]
theorem row1_length {α : Type} (f : α → D) (l : List α) : (row1 f l).length = l.length := by simp [row1]
theorem row1_get {α : Type} (f : α → D) (l : List α) {i : Nat} (h : i < l.length) : (row1 f l).getD i [] = [f l[i]] := by simp [row1, List.getD, h]
theorem row1_getq {α : Type} (f : α → D) (l : List α) {i : Nat} (h : i < l.length) : (row1 f l)[i]? = some [f l[i]] := by simp [row1, h]
theorem row1_snoc {α : Type} (f : α → D) (l : List α) (x : α) : row1 f l ++ [[f x]] = row1 f (l ++ [x]) := by simp [row1]
theorem row1_set {α : Type} (f : α → D) (l : List α) (i : Nat) (x : α) : (row1 f l).set i [f x] = row1 f (l.set i x) := by simp [row1, List.map_set]
theorem row1_take {α : Type} (f : α → D) (l : List α) (n : Nat) : (row1 f l).take n = row1 f (l.take n) := by simp [row1, List.map_take]
theorem row1_drop {α : Type} (f : α → D) (l : List α) (n : Nat) : (row1 f l).drop n = row1 f (l.drop n) := by simp [row1, List.map_drop]
theorem row1_takeL {α : Type} (f : α → D) (l : List α) : (row1 f l).take l.length = row1 f l := by rw [← row1_length f l, List.take_length]
theorem row1_inj {l l' : List Int} (h : row1 cI l = row1 cI l') : l = l' := by
  induction l generalizing l' with
  | nil => cases l' <;> simp_all [row1]
  | cons x r ih => cases l' with
    | nil => simp [row1] at h
    | cons y r' => simp only [row1, List.map_cons, List.cons.injEq, cI, D.sc.injEq, Value.int.injEq, and_true, true_and] at h; rw [h.1, ih h.2]
theorem row1_sh {α : Type} {f : α → D} (hf : ∀ x, shD (f x) = f x) (l : List α) : shLL (row1 f l) = row1 f l := by
  rw [shLL_map]; simp [row1, shL, hf]
theorem ints_sh (l : List Int) : shLL (row1 cI l) = row1 cI l := row1_sh (fun _ => rfl) l
theorem strs_sh (l : List ByteArray) : shLL (row1 cS l) = row1 cS l := row1_sh (fun _ => rfl) l
theorem bools_sh (l : List Bool) : shLL (row1 cB l) = row1 cB l := row1_sh (fun _ => rfl) l
theorem row1_noSh {α : Type} {f : α → D} (hf : ∀ x, noSh (f x) = true) (l : List α) : noShLL (row1 f l) = true := by
  induction l with
  | nil => rfl
  | cons x r ih => simp only [row1, List.map_cons, noShLL, noShL, hf, Bool.and_self, Bool.true_and]; exact ih
theorem ints_noSh (l : List Int) : noShLL (row1 cI l) = true := row1_noSh (fun _ => rfl) l
theorem strs_noSh (l : List ByteArray) : noShLL (row1 cS l) = true := row1_noSh (fun _ => rfl) l
theorem bools_noSh (l : List Bool) : noShLL (row1 cB l) = true := row1_noSh (fun _ => rfl) l
theorem row1_rep {α : Type} (f : α → D) (n : Nat) (x : α) : List.replicate n [f x] = row1 f (List.replicate n x) := by simp [row1]
theorem row1_free {α : Type} {f : α → D} (hf : ∀ x, freeD (f x) = true) (l : List α) : (row1 f l).all (·.all freeD) = true := by
  simp [row1, hf]

theorem pin3 {C : Cx} (hpin : ∀ o, isPin o = false → C.pin o = none) : ∀ n, 3000 ≤ n → C.pin n = none := fun n hn => hpin n (by simp [isPin]; omega)

/-- A call whose results are known. -/
theorem aCall_det3 {P : Program} {C : Cx} {st : St} {K : St → Prop} {f : FuncId} {as : List Arg} {R : List RV} (hs : Sound P f as (fun rs _ => rs = R)) (hpin : ∀ n, 3000 ≤ n → C.pin n = none) {vs : List V} {d : Option Nat}
    (h : (takeM st vs as).1 ∧ lendAll ⟨[], fun _ => undef, pvOf C, (takeM st vs as).2.ob, argsOb 0 as⟩ vs as ∧ noShR R = true ∧ ev (b := ⟨K⟩) (after (takeM st vs as).2 d R)) : aCallB (b := ⟨K⟩) P C st f vs d :=
  aCall_of_sound hs hpin h.1 h.2.1 (fun rs _ hr => by rw [hr]; exact h.2.2.1) (fun rs _ hr => by rw [hr]; exact h.2.2.2)

theorem aCall_det {P : Program} {C : Cx} {st : St} {K : St → Prop} {f : FuncId} {as : List Arg} {R : List RV} (hs : Sound P f as (fun rs _ => rs = R)) (hpin : ∀ o, isPin o = false → C.pin o = none) {vs : List V} {d : Option Nat}
    (h : (takeM st vs as).1 ∧ lendAll ⟨[], fun _ => undef, pvOf C, (takeM st vs as).2.ob, argsOb 0 as⟩ vs as ∧ noShR R = true ∧ ev (b := ⟨K⟩) (after (takeM st vs as).2 d R)) : aCallB (b := ⟨K⟩) P C st f vs d :=
  aCall_det3 hs (pin3 hpin) h

/-- The callee's rows as they are now. -/
def nowIs (ob : List (Nat × Ob)) : List (Nat × Ob) → Prop
  | [] => True
  | (k, x) :: r => look ob k = some x ∧ nowIs ob r

theorem nowIs_get {ob : List (Nat × Ob)} : ∀ {N : List (Nat × Ob)}, nowIs ob N → ∀ k x, look N k = some x → look ob k = some x
  | [], _, k, x, h => by simp [look] at h
  | (k', x') :: r, h, k, x, hx => by
    simp only [look] at hx
    by_cases e : k = k'
    · rw [if_pos e] at hx; cases hx; rw [e]; exact h.1
    · rw [if_neg e] at hx; exact nowIs_get h.2 k x hx

theorem newObs_now {ob N : List (Nat × Ob)} (hN : ∀ k x, look N k = some x → look ob k = some x) : ∀ (M : List (Nat × Nat)) {iob : List (Nat × Ob)}, ioLong iob N M → newObs ob M = newObs N M ∧ ioLong iob ob M
  | [], _, _ => ⟨rfl, trivial⟩
  | (k, o) :: r, iob, h => by
    obtain ⟨h1, h2⟩ := h
    obtain ⟨g1, g2⟩ := newObs_now hN r h2
    split at h1
    · rename_i e es e' es' hi hn
      have := hN _ _ hn
      refine ⟨by simp only [newObs, this, hn, g1], ?_, g2⟩
      simp only [hi, this]; exact h1
    · exact h1.elim

def nodupB (l : List Nat) : Bool := match l with
  | [] => true
  | x :: r => !r.contains x && nodupB r
theorem nodup_of {l : List Nat} (h : nodupB l = true) : l.Nodup := by
  induction l with
  | nil => exact List.nodup_nil
  | cons x r ih =>
    simp only [nodupB, Bool.and_eq_true, Bool.not_eq_true'] at h
    exact List.nodup_cons.2 ⟨by simpa using h.1, ih h.2⟩

def roAllF (as : (Nat → Value) → List Arg) : Prop := ∀ uf, roAll (as uf) = true

/-- A call that writes into rows of the caller's, and whose results are known. -/
theorem aCall_iod3 {P : Program} {C : Cx} {st : St} {K : St → Prop} {f : FuncId} {as : (Nat → Value) → List Arg} {iob N : List (Nat × Ob)} {R : List RV} (hs : SoundAt P f (fun uf => argsV 0 (as uf)) iob (fun rs st => rs = R ∧ nowIs st.ob N)) (hpin : ∀ n, 3000 ≤ n → C.pin n = none)
    (M : List (Nat × Nat)) {vs : List V} {d : Option Nat} (hM : nodupB (M.map (·.1)) = true ∧ nodupB (M.map (·.2)) = true ∧ iob.map (·.1) = M.map (·.1)) (hro : ∀ uf, roAll (as uf) = true ∧ vs.length = (as uf).length)
    (hl : ∀ uf, lendAll ⟨M, uf, pvOf C, dropI (M.map (·.2)) st.ob, iob⟩ vs (as uf))
    (h : ioOk st iob M ∧ noShR R = true ∧ ioLong iob N M ∧ ev (b := ⟨K⟩) (after (st.wrote M N) d R)) : aCallB (b := ⟨K⟩) P C st f vs d := by
  refine aCall_io hs hpin M (fun uf => (hro uf).1) (fun uf => (hro uf).2) h.1 (nodup_of hM.1) (nodup_of hM.2.1) hM.2.2 hl (fun rs st' hr => ?_) (fun rs st' hr => ?_)
  · rw [hr.1]; exact ⟨h.2.1, (newObs_now (nowIs_get hr.2) M h.2.2.1).2⟩
  · have e : st.wrote M st'.ob = st.wrote M N := by unfold St.wrote; rw [(newObs_now (nowIs_get hr.2) M h.2.2.1).1]
    rw [hr.1, e]; exact h.2.2.2
theorem aCall_iod {P : Program} {C : Cx} {st : St} {K : St → Prop} {f : FuncId} {as : (Nat → Value) → List Arg} {iob N : List (Nat × Ob)} {R : List RV} (hs : SoundAt P f (fun uf => argsV 0 (as uf)) iob (fun rs st => rs = R ∧ nowIs st.ob N)) (hpin : ∀ o, isPin o = false → C.pin o = none)
    (M : List (Nat × Nat)) {vs : List V} {d : Option Nat} (hM : nodupB (M.map (·.1)) = true ∧ nodupB (M.map (·.2)) = true ∧ iob.map (·.1) = M.map (·.1)) (hro : ∀ uf, roAll (as uf) = true ∧ vs.length = (as uf).length)
    (hl : ∀ uf, lendAll ⟨M, uf, pvOf C, dropI (M.map (·.2)) st.ob, iob⟩ vs (as uf))
    (h : ioOk st iob M ∧ noShR R = true ∧ ioLong iob N M ∧ ev (b := ⟨K⟩) (after (st.wrote M N) d R)) : aCallB (b := ⟨K⟩) P C st f vs d :=
  aCall_iod3 hs (pin3 hpin) M hM hro hl h
end Go.Proofs.Ytldniggehdpheaa.AW

namespace Go.Proofs.Ytldniggehdpheaa.AW
open Go.RowKit
set_option linter.unusedSimpArgs false
set_option linter.unusedVariables false

def pOp (P : Program) (o : Oper) (st : St) : Option (Prop × V) := match o.op with
  | .assign x => some (True, st.ev x)
  | _ => aPure2 P o st

def pOper (P : Program) (ops : Array Oper) (st : St) (o : Oper) : Option (Prop × V) := match o.guard with
  | none => pOp P o st
  | some (j, want) => match (ops[j]?).bind (·.dst) with
    | some g => match st.get g with
      | .sc (.bool b) => (pOp P o st).map fun x => ((b == want) = true → x.1, .cond (b == want) x.2)
      | .cond c (.sc (.bool b)) => (pOp P o st).map fun x => ((c && (b == want)) = true → x.1, .cond (c && (b == want)) x.2)
      | .und => some (True, .und)
      | _ => none
    | none => some (True, .und)

def aDraw (P : Program) (ops : Array Oper) : List Oper → St → (St → Prop) → Prop
  | [], st, K => K st
  | o :: r, st, K => dstOk st o ∧ match pOper P ops st o with
    | some (s, v) => s ∧ ev (b := ⟨fun st' => aDraw P ops r st' K⟩) (setDst st o.dst v)
    | none => False

def upTo (n i : Nat) : Array Bool := ((List.range n).map fun j => decide (j < i)).toArray

/-- The operations may come up one after another as they are written. -/
def drawB (ops : Array Oper) : Bool := Region.noSelect ops && ((List.range ops.size).all fun i => Region.free .any ops (upTo ops.size i) i && (Region.ready .any ops (upTo ops.size i)).contains i) && (Region.ready .any ops (upTo ops.size ops.size)).isEmpty

section
variable {P : Program} {w w1 : World} {C : Cx} {X : Nat → Prop} {gh : Gh} {st : St} {a : Act} {v : V} {u : Value} {ob : List (Nat × Ob)} {S : Nat → Prop} {K : St → Prop}

theorem pOp_sound (hz : Sized P) (h : Rep P C X st a w gh) {o : Oper} {s : Prop} {v : V} (hp : pOp P o st = some (s, v)) (hs : s) :
    ∃ y, (execOp a.eval o).run P w = .ok (.value y) w ∧ VR P w gh st.ob v y := by
  unfold pOp at hp
  split at hp
  · rename_i x ho
    cases hp
    exact ⟨a.eval x, by simp [execOp, ho], h.ev x⟩
  · exact pure_sound2 hz h hp hs

theorem pOper_sound (hz : Sized P) (h : Rep P C X st a w gh) {ops : Array Oper} {o : Oper} {s : Prop} {v : V} (hp : pOper P ops st o = some (s, v)) (hs : s) :
    ∃ y, YieldsIf P ops (fun w' => w' = w) o y a ∧ VR P w gh st.ob v y := by
  unfold pOper at hp
  split at hp
  · rename_i hg
    obtain ⟨y, hr, hv⟩ := pOp_sound hz h hp hs
    exact ⟨y, Or.inl ⟨by simp [Region.wanted, hg], fun w' hw => by subst hw; exact hr⟩, hv⟩
  · rename_i j want hg
    have hw : Region.wanted o (yielded ops a.tmps) = (yielded ops a.tmps j == some want) := by simp [Region.wanted, hg]
    have guarded : ∀ (b : Bool), (yielded ops a.tmps j == some want) = b → (pOp P o st).map (fun x => ((b = true → x.1, V.cond b x.2) : Prop × V)) = some (s, v) → ∃ y, YieldsIf P ops (fun w' => w' = w) o y a ∧ VR P w gh st.ob v y := by
      intro b hb hm
      obtain ⟨⟨s', v'⟩, hp', he⟩ := Option.map_eq_some_iff.1 hm
      cases he
      cases b with
      | true =>
        obtain ⟨y, hr, hv⟩ := pOp_sound hz h hp' (hs rfl)
        exact ⟨y, Or.inl ⟨hw.trans hb, fun w' hw => by subst hw; exact hr⟩, .cond (fun _ => hv) (fun h => by cases h)⟩
      | false => exact ⟨undef, Or.inr ⟨hw.trans hb, rfl⟩, .cond (fun h => by cases h) (fun _ => rfl)⟩
    have und : (yielded ops a.tmps j == some want) = false → v = .und → ∃ y, YieldsIf P ops (fun w' => w' = w) o y a ∧ VR P w gh st.ob v y := fun hb hv => by
      subst hv; exact ⟨undef, Or.inr ⟨hw.trans hb, rfl⟩, .und⟩
    split at hp
    · rename_i g hgd
      have hy : yielded ops a.tmps j = (match a.tmps[g]? with | some (.bool b) => some b | _ => none) := by unfold yielded; rw [hgd]; rfl
      have ht := h.tms g
      have hget : ∀ b, a.tmps.getD g undef = .bool b → a.tmps[g]? = some (.bool b) := fun b hb => by
        rw [Array.getD_eq_getD_getElem?] at hb
        cases hq : a.tmps[g]? with
        | none => rw [hq] at hb; cases hb
        | some z => rw [hq] at hb; simp at hb; rw [hb]
      have hund : a.tmps.getD g undef = undef → a.tmps[g]? = none ∨ a.tmps[g]? = some undef := fun hb => by
        rw [Array.getD_eq_getD_getElem?] at hb
        cases hq : a.tmps[g]? with
        | none => exact Or.inl rfl
        | some z => rw [hq] at hb; simp at hb; rw [hb]; exact Or.inr rfl
      split at hp
      · rename_i b hv
        rw [hv] at ht
        have hb := hget b ht.sc_inv
        exact guarded _ (by rw [hy, hb]; cases b <;> cases want <;> rfl) hp
      · rename_i c b hv
        rw [hv] at ht
        cases hcc : c with
        | true =>
          subst hcc
          cases ht with
          | cond h1 h2 =>
            have hb := hget b (h1 rfl).sc_inv
            exact guarded _ (by rw [hy, hb]; cases b <;> cases want <;> rfl) hp
        | false =>
          subst hcc
          cases ht with
          | cond h1 h2 =>
            rcases hund (h2 rfl) with hb | hb
            · exact guarded _ (by rw [hy, hb]; rfl) hp
            · exact guarded _ (by rw [hy, hb]; rfl) hp
      · rename_i hv
        rw [hv] at ht
        have hb : a.tmps.getD g undef = undef := by
          generalize a.tmps.getD g undef = z at ht
          cases ht; rfl
        cases hp
        rcases hund hb with hb | hb
        · exact und (by rw [hy, hb]; rfl) rfl
        · exact und (by rw [hy, hb]; rfl) rfl
      · cases hp
    · rename_i hgd
      cases hp
      exact und (by unfold yielded; rw [hgd]; rfl) rfl

theorem upTo_get (n i j : Nat) : (upTo n i)[j]? = if j < n then some (decide (j < i)) else none := by
  unfold upTo
  simp only [List.getElem?_toArray, List.getElem?_map]
  by_cases h : j < n
  · rw [if_pos h, List.getElem?_range h]; rfl
  · rw [if_neg h, List.getElem?_eq_none (by simp; omega)]; rfl

theorem upTo_succ (n i : Nat) : (upTo n i).setIfInBounds i true = upTo n (i + 1) := by
  apply Array.ext_getElem?
  intro j
  rw [Array.getElem?_setIfInBounds, upTo_get, upTo_get]
  by_cases h : j < n
  · by_cases e : i = j
    · subst e; simp [upTo, h]
    · rw [if_neg e, if_pos h, if_pos h]; congr 1; simp; omega
  · by_cases e : i = j
    · subst e; simp [upTo, h]
    · rw [if_neg e, if_neg h, if_neg h]

theorem upTo_zero (n : Nat) : upTo n 0 = Array.replicate n false := by
  apply Array.ext_getElem?
  intro j
  rw [upTo_get, Array.getElem?_replicate]
  simp

theorem aDraw_sound (hz : Sized P) {ops : Array Oper} {Q : Exit → St → Prop} (hb : drawB ops = true) : ∀ (l : List Oper) (i : Nat) {st : St} {a : Act} {gh : Gh}, Rep P C No st a w gh → l = ops.toList.drop i → i ≤ ops.size → aDraw P ops l st (Q .normal) →
    wpAnyH P .any ops (fun e a' w' => match e with | .normal => Up P C (Q .normal) a' w' | _ => False) (fun w' => w' = w) (ops.size - i) (upTo ops.size i) a w
  | [], i, st, a, gh, h, hl, hi, hk => by
    have hn : i = ops.size := by
      have := congrArg List.length hl
      simp at this; omega
    subst hn
    simp only [drawB, Bool.and_eq_true, List.isEmpty_iff] at hb
    exact wpAnyH_done hb.2 ⟨st, gh, hk, h⟩ _
  | o :: r, i, st, a, gh, h, hl, hi, hk => by
    have hlt : i < ops.size := by
      have := congrArg List.length hl
      simp at this; omega
    have hd : ops.toList.drop i = ops[i] :: ops.toList.drop (i + 1) := by
      rw [List.drop_eq_getElem_cons (by simpa using hlt)]; simp
    rw [hd] at hl
    cases hl
    simp only [drawB, Bool.and_eq_true, List.all_eq_true, List.mem_range] at hb
    obtain ⟨⟨hb1, hb2⟩, _⟩ := hb
    obtain ⟨hb3, hb4⟩ := hb2 i hlt
    obtain ⟨hdst, hk⟩ := hk
    split at hk
    case h_2 => exact hk.elim
    rename_i s v hp
    obtain ⟨y, hy, hv⟩ := pOper_sound hz h hp hk.1
    have e1 : ops.size - i = (ops.size - (i + 1)) + 1 := by omega
    rw [e1]
    refine wpAnyH_take (Array.getElem?_eq_getElem hlt) hb1 hb3 hb4 (fun c a w hq => hq.elim) hy rfl ?_
    rw [upTo_succ]
    exact aDraw_sound hz (by simp only [drawB, Bool.and_eq_true, List.all_eq_true, List.mem_range]; exact ⟨⟨hb1, hb2⟩, ‹_›⟩) _ (i + 1) (h.dst (dst_lt hdst) hv) rfl (by omega) hk.2

/-- A region whose order is drawn. -/
theorem Tri.draw (hz : Sized P) {id : Nat} {ops : Array Oper} {Q : Exit → St → Prop} (hm : P.follows .mixedOrders = true) (hb : drawB ops = true) (hk : aDraw P ops ops.toList st (Q .normal)) : Tri P C st (.region id ops true) Q := fun a w gh hR => by
  refine Code.wp_mono (fun e a' w' hq => ?_) (wp_region_held (S := fun w' => w' = w.drew) hm ?_ (Q := fun e a' w' => match e with | .normal => Up P C (Q .normal) a' w' | _ => False))
  · cases e with
    | normal => exact hq
    | _ => exact hq.elim
  · have := aDraw_sound (C := C) (w := w.drew) (a := a) (Q := Q) hz hb ops.toList 0 hR.drew rfl (Nat.zero_le _) hk
    rw [upTo_zero] at this
    exact this
end
end Go.Proofs.Ytldniggehdpheaa.AW

namespace Go.Proofs.Ytldniggehdpheaa.AW
open Go.RowKit
set_option linter.unusedSimpArgs false
set_option linter.unusedVariables false

/-- An operation whose value stands as long as what is lent stands. -/
def sOp (P : Program) (o : Oper) (st : St) : Option (Prop × V) := match o.op with
  | .assign x => some (True, st.ev x)
  | .load _ x => match (st.ev x).str with
    | .ip _ _ => aPure2 P o st
    | _ => none
  | _ => aPure2 P o st

def sOper (P : Program) (ops : Array Oper) (st : St) (o : Oper) : Option (Prop × V) := match o.guard with
  | none => sOp P o st
  | some (j, want) => match (ops[j]?).bind (·.dst) with
    | some g => match st.get g with
      | .sc (.bool b) => (sOp P o st).map fun x => ((b == want) = true → x.1, .cond (b == want) x.2)
      | .cond c (.sc (.bool b)) => (sOp P o st).map fun x => ((c && (b == want)) = true → x.1, .cond (c && (b == want)) x.2)
      | .und => some (True, .und)
      | .cond false _ => some (True, .und)
      | _ => none
    | none => some (True, .und)

/-- One operation after another, in an order that will do: (number, whether it is taken ahead). -/
def aSched (P : Program) (C : Cx) (ops : Array Oper) : List (Nat × Bool) → St → (St → Prop) → Prop
  | [], st, K => K st
  | (i, t) :: r, st, K => match ops[i]? with
    | some o => dstOk st o ∧ match t with
      | true => (match sOper P ops st o with
        | some (s, v) => s ∧ ev (b := ⟨fun st' => aSched P C ops r st' K⟩) (setDst st o.dst v)
        | none => False)
      | false => aOper P C ops st o (fun st' => aSched P C ops r st' K)
    | none => False

def schedB (ops : Array Oper) : List (Nat × Bool) → Array Bool → Bool
  | [], l => (Region.ready .any ops l).isEmpty
  | (i, t) :: r, l => (match t with
    | true => (Region.ready .any ops l).contains i && Region.free .any ops l i
    | false => Region.ready .any ops l == [i]) && schedB ops r (l.setIfInBounds i true)

def schedOk (ops : Array Oper) (sch : List (Nat × Bool)) : Bool := Region.noSelect ops && schedB ops sch (Array.replicate ops.size false) && sch.length == ops.size

section
variable {P : Program} {w w1 : World} {C : Cx} {X : Nat → Prop} {gh gh1 : Gh} {st : St} {a : Act} {v : V} {u : Value} {ob : List (Nat × Ob)} {S : Nat → Prop} {K : St → Prop}

/-- The same, told from here on. -/
def Cx.here (C : Cx) (w : World) (S : Nat → Prop) : Cx where
  w0 := w
  s0 := S
  may := fun b f => (C.w0.heap.size ≤ b ∨ C.may b f) ∧ ¬ S b
  pin := C.pin
  z := S

theorem Rep.here (h : Rep P C X st a w gh) : Rep P (C.here w gh.S) X st a w gh where
  obs := h.obs
  dis := h.dis
  sS := h.sS
  nS := h.nS
  wrR := fun o e es k ho hk => Or.inr (fun f => ⟨(h.wrR o e es k ho hk).imp id (fun hh => hh f), h.nS o _ k ho hk⟩)
  wrB := fun o cs k ho hk hne => Or.inr (fun f => ⟨(h.wrB o cs k ho hk hne).imp id (fun hh => hh f), h.nS o _ k ho hk⟩)
  wrC := fun o cs j ho hj => Or.inr ⟨h.wrC o cs j ho hj, by
    have := h.obs o _ ho
    cases this with
    | box xs G hb hl h1 hc hx dis nb hF => exact h.nS o _ _ ho ((hF _).2 (Or.inl rfl))⟩
  kept := World.keptBut_refl w _
  pins := h.pins
  tms := h.tms
  nt := h.nt
  dfs := h.dfs
  xl := h.xl
  xS := h.xS
  xF := h.xF
  xW := fun k hk => Or.inr (fun f => ⟨(h.xW k hk).imp id (fun hh => hh f), h.xS k hk⟩)
  s0S := fun k hk => hk
  sZ := fun k hk => hk

theorem Rep.back (h : Rep P C X st a w gh) {X1 : Nat → Prop} {st1 : St} {a1 : Act} (h1 : Rep P (C.here w gh.S) X1 st1 a1 w1 gh1) : Rep P C X1 st1 a1 w1 gh1 := by
  have hw : C.w0.heap.size ≤ w.heap.size := h.kept.size
  have wr : ∀ k, (w.heap.size ≤ k ∨ ∀ f, (C.w0.heap.size ≤ k ∨ C.may k f) ∧ ¬ gh.S k) → C.w0.heap.size ≤ k ∨ ∀ f, C.may k f := fun k hk => by
    by_cases hle : C.w0.heap.size ≤ k
    · exact Or.inl hle
    · exact Or.inr (fun f => (hk.resolve_left (by omega) f).1.resolve_left hle)
  exact {
    obs := h1.obs
    dis := h1.dis
    sS := h1.sS
    nS := h1.nS
    wrR := fun o e es k ho hk => wr k (h1.wrR o e es k ho hk)
    wrB := fun o cs k ho hk hne => wr k (h1.wrB o cs k ho hk hne)
    wrC := fun o cs j ho hj => by
      rcases h1.wrC o cs j ho hj with hh | hh
      · exact Or.inl (Nat.le_trans hw hh)
      · exact hh.1
    kept := keptBut_old (World.keptBut_trans (World.keptBut_mono (fun p hp => Or.inl hp) h.kept) (World.keptBut_mono (fun p ⟨b, f, e, hm⟩ => by
      subst e
      rcases hm.1 with hh | hh
      · exact Or.inr hh
      · exact Or.inl ⟨b, f, rfl, hh⟩) h1.kept))
    pins := h1.pins
    tms := h1.tms
    nt := h1.nt
    dfs := h1.dfs
    xl := h1.xl
    xS := h1.xS
    xF := h1.xF
    xW := fun k hk => wr k (h1.xW k hk)
    s0S := fun k hk => h1.s0S k (h.s0S k hk)
    sZ := fun k hk => h.sZ k (h1.sZ k hk) }

/-- What is lent stands. -/
theorem Rep.lent (h : Rep P C X st a w gh) {X1 : Nat → Prop} {st1 : St} {a1 : Act} (h1 : Rep P (C.here w gh.S) X1 st1 a1 w1 gh1) : ∀ k, gh.S k → w1.heap[k]? = w.heap[k]? := fun k hk =>
  keptBut_heap h1.kept (h.sS k hk) (fun f ⟨b, f', e, hm⟩ => by cases e; exact hm.2 hk) (fun ⟨b, f', e, _⟩ => by cases e)

theorem load_ip {t : TypeId} {ch : List D} {j : Nat} {u : Value} (hp : VR P w gh st.ob (.ip ch j) u) (hs : (loadV P st t (.ip ch j)).1) :
    ∃ y, (∀ w' : World, (∀ k, gh.S k → w'.heap[k]? = w.heap[k]?) → (Instr.loadAt t u).run P w' = .ok y w') ∧ VR P w gh st.ob (loadV P st t (.ip ch j)).2 y := by
  cases hp with
  | @ip _ _ b f U hS h =>
    unfold loadV at hs ⊢
    cases hr : isR P t with
    | none => simp [hr] at hs
    | some r =>
      simp only [hr] at hs ⊢
      obtain ⟨d, hu, hd⟩ := Option.map_eq_some_iff.1 hr
      have cell : ∀ (w' : World), (∀ k, gh.S k → w'.heap[k]? = w.heap[k]?) → ∀ q d, ch[q]? = some d → w'.cell? ⟨b, f + q, none⟩ = some (U q) := fun w' hw q d hq =>
        (World.cell?_of_block (a := ⟨b, f + q, none⟩) (hw b hS)).trans (h q d hq).1
      have val : ∀ q d, ch[q]? = some d → VR P w gh st.ob (cellI d) (U q) := fun q d hq => cellI_VR (h q d hq).2
      cases r with
      | false =>
        simp only [rdD] at hs ⊢
        obtain ⟨x, hx⟩ := Option.isSome_iff_exists.1 hs
        obtain ⟨c, hc, rfl⟩ := Option.map_eq_some_iff.1 hx
        simp only [Nat.add_zero] at hc hx
        refine ⟨U j, fun w' hw => ?_, ?_⟩
        · simp only [Instr.loadAt, Instr.sureAddr, Sem.run_bind, Sem.run_pure, Result.andThen_ok]
          exact run_loadVar_one w' _ t _ d hu hd (cell w' hw j c hc)
        · simp only [Nat.add_zero, hc, Option.map_some, Option.getD_some]; exact val j c hc
      | true =>
        simp only at hs ⊢
        obtain ⟨hs, hpos⟩ := hs
        have step : ∀ q, q < szT P t → ∃ c, ch[j + q]? = some c := fun q hq => by
          have := allSome_get hs q hq
          rw [Nat.zero_add] at this
          obtain ⟨x, hx⟩ := Option.isSome_iff_exists.1 this
          simp only [rdD] at hx
          obtain ⟨c, hc, _⟩ := Option.map_eq_some_iff.1 hx
          exact ⟨c, hc⟩
        let ys := (List.range (szT P t)).map fun q => U (j + q)
        have hl : ys.length = szT P t := by simp [ys]
        have hy : ∀ q, q < szT P t → ys[q]? = some (U (j + q)) := fun q hq => by simp [ys, hq]
        refine ⟨.agg ys.toArray, fun w' hw => run_loadAt_mid w' b (f + j) t ys d (fun q v hv => ?_) hu hd ?_, .agg (by simp [tab_length, hl]) (fun u hu => ?_) (fun i v hv => ?_)⟩
        · have hq : q < szT P t := by rw [← hl]; exact (List.getElem?_eq_some_iff.1 hv).1
          rw [hy q hq] at hv; cases hv
          obtain ⟨c, hc⟩ := step q hq
          rw [Nat.add_assoc]
          exact cell w' hw (j + q) c hc
        · unfold szT at hl hpos
          cases hq : P.info? t with
          | none => simp [hq] at hpos
          | some i => simp [hq] at hl ⊢; omega
        · obtain ⟨q, hq, rfl⟩ := List.getElem_of_mem (by simpa using hu : u ∈ ys)
          obtain ⟨c, hc⟩ := step q (by omega)
          have := (h _ c hc).2.one
          have e := hy q (by omega)
          rw [List.getElem?_eq_getElem hq, Option.some.injEq] at e
          rw [e]; exact this
        · have hi : i < szT P t := by
            have := (List.getElem?_eq_some_iff.1 hv).1
            rwa [tab_length] at this
          rw [tab_get _ _ _ _ hi, Nat.zero_add] at hv
          cases hv
          obtain ⟨c, hc⟩ := step i hi
          have e : (ys.toArray.getD i undef) = U (j + i) := by
            rw [Array.getD_eq_getD_getElem?]; simp [hy i hi]
          rw [e]
          simp only [rdD, hc, Option.map_some, Option.getD_some]
          exact val _ c hc

theorem sOp_sound (hz : Sized P) (h : Rep P C X st a w gh) {o : Oper} {s : Prop} {v : V} (hp : sOp P o st = some (s, v)) (hs : s) :
    ∃ y, (∀ w' : World, (∀ k, gh.S k → w'.heap[k]? = w.heap[k]?) → (execOp a.eval o).run P w' = .ok (.value y) w') ∧ VR P w gh st.ob v y := by
  unfold sOp at hp
  split at hp
  · rename_i x ho
    cases hp
    exact ⟨a.eval x, fun w' _ => by simp [execOp, ho], h.ev x⟩
  · rename_i t x ho
    split at hp
    · rename_i ch j hx
      simp only [aPure2, structQ, aPure, ho, Option.some.injEq, Prod.mk.injEq] at hp
      obtain ⟨rfl, rfl⟩ := hp
      obtain ⟨h1, h2⟩ := hs
      have hv := h.use x h1
      rw [hx] at hv h2 ⊢
      obtain ⟨y, hr, hy⟩ := load_ip hv h2
      exact ⟨y, fun w' hw => by simp [execOp, ho, Sem.run_bind, hr w' hw], hy⟩
    · cases hp
  · rename_i hne1 hne2
    obtain ⟨y, hr, hv⟩ := pure_all2 hz h hp hs (fun t x e => hne2 t x e)
    exact ⟨y, fun w' _ => hr w', hv⟩

theorem sOper_sound (hz : Sized P) (h : Rep P C X st a w gh) {ops : Array Oper} {o : Oper} {s : Prop} {v : V} {Sw : World → Prop} (hSw : ∀ w', Sw w' → ∀ k, gh.S k → w'.heap[k]? = w.heap[k]?) (hp : sOper P ops st o = some (s, v)) (hs : s) :
    ∃ y, YieldsIf P ops Sw o y a ∧ VR P w gh st.ob v y := by
  unfold sOper at hp
  split at hp
  · rename_i hg
    obtain ⟨y, hr, hv⟩ := sOp_sound hz h hp hs
    exact ⟨y, Or.inl ⟨by simp [Region.wanted, hg], fun w' hw => hr w' (hSw w' hw)⟩, hv⟩
  · rename_i j want hg
    have hw : Region.wanted o (yielded ops a.tmps) = (yielded ops a.tmps j == some want) := by simp [Region.wanted, hg]
    have guarded : ∀ (b : Bool), (yielded ops a.tmps j == some want) = b → (sOp P o st).map (fun x => ((b = true → x.1, V.cond b x.2) : Prop × V)) = some (s, v) → ∃ y, YieldsIf P ops Sw o y a ∧ VR P w gh st.ob v y := by
      intro b hb hm
      obtain ⟨⟨s', v'⟩, hp', he⟩ := Option.map_eq_some_iff.1 hm
      cases he
      cases b with
      | true =>
        obtain ⟨y, hr, hv⟩ := sOp_sound hz h hp' (hs rfl)
        exact ⟨y, Or.inl ⟨hw.trans hb, fun w' hw => hr w' (hSw w' hw)⟩, .cond (fun _ => hv) (fun h => by cases h)⟩
      | false => exact ⟨undef, Or.inr ⟨hw.trans hb, rfl⟩, .cond (fun h => by cases h) (fun _ => rfl)⟩
    have und : (yielded ops a.tmps j == some want) = false → v = .und → ∃ y, YieldsIf P ops Sw o y a ∧ VR P w gh st.ob v y := fun hb hv => by
      subst hv; exact ⟨undef, Or.inr ⟨hw.trans hb, rfl⟩, .und⟩
    split at hp
    · rename_i g hgd
      have hy : yielded ops a.tmps j = (match a.tmps[g]? with | some (.bool b) => some b | _ => none) := by unfold yielded; rw [hgd]; rfl
      have ht := h.tms g
      have hget : ∀ b, a.tmps.getD g undef = .bool b → a.tmps[g]? = some (.bool b) := fun b hb => by
        rw [Array.getD_eq_getD_getElem?] at hb
        cases hq : a.tmps[g]? with
        | none => rw [hq] at hb; cases hb
        | some z => rw [hq] at hb; simp at hb; rw [hb]
      have hund : a.tmps.getD g undef = undef → a.tmps[g]? = none ∨ a.tmps[g]? = some undef := fun hb => by
        rw [Array.getD_eq_getD_getElem?] at hb
        cases hq : a.tmps[g]? with
        | none => exact Or.inl rfl
        | some z => rw [hq] at hb; simp at hb; rw [hb]; exact Or.inr rfl
      split at hp
      · rename_i b hv
        rw [hv] at ht
        have hb := hget b ht.sc_inv
        exact guarded _ (by rw [hy, hb]; cases b <;> cases want <;> rfl) hp
      · rename_i c b hv
        rw [hv] at ht
        cases hcc : c with
        | true =>
          subst hcc
          cases ht with
          | cond h1 h2 =>
            have hb := hget b (h1 rfl).sc_inv
            exact guarded _ (by rw [hy, hb]; cases b <;> cases want <;> rfl) hp
        | false =>
          subst hcc
          cases ht with
          | cond h1 h2 =>
            rcases hund (h2 rfl) with hb | hb
            · exact guarded _ (by rw [hy, hb]; rfl) hp
            · exact guarded _ (by rw [hy, hb]; rfl) hp
      · rename_i hv
        rw [hv] at ht
        have hb : a.tmps.getD g undef = undef := by
          generalize a.tmps.getD g undef = z at ht
          cases ht; rfl
        cases hp
        rcases hund hb with hb | hb
        · exact und (by rw [hy, hb]; rfl) rfl
        · exact und (by rw [hy, hb]; rfl) rfl
      · rename_i v' _ hv
        rw [hv] at ht
        have hb : a.tmps.getD g undef = undef := by
          generalize a.tmps.getD g undef = z at ht
          cases ht with
          | cond h1 h2 => exact h2 rfl
        cases hp
        rcases hund hb with hb | hb
        · exact und (by rw [hy, hb]; rfl) rfl
        · exact und (by rw [hy, hb]; rfl) rfl
      · cases hp
    · rename_i hgd
      cases hp
      exact und (by unfold yielded; rw [hgd]; rfl) rfl

theorem aSched_sound (hz : Sized P) {ops : Array Oper} {Q : Exit → St → Prop} {w : World} {gh : Gh} {C0 : Cx} {X0 : Nat → Prop} {st0 : St} {a0 : Act} (h0 : Rep P C0 X0 st0 a0 w gh) (hns : Region.noSelect ops = true) :
    ∀ (sch : List (Nat × Bool)) (l : Array Bool) {st : St} {a : Act} {w1 : World} {gh1 : Gh}, Rep P (C0.here w gh.S) No st a w1 gh1 → schedB ops sch l = true → aSched P (C0.here w gh.S) ops sch st (Q .normal) →
    wpAnyH P .any ops (fun e a' w' => match e with | .normal => Up P (C0.here w gh.S) (Q .normal) a' w' | _ => False) (fun w' => ∀ k, gh.S k → w'.heap[k]? = w.heap[k]?) sch.length l a w1
  | [], l, st, a, w1, gh1, h, hb, hk => by
    simp only [schedB, List.isEmpty_iff] at hb
    exact wpAnyH_done hb ⟨st, gh1, hk, h⟩ _
  | (i, t) :: r, l, st, a, w1, gh1, h, hb, hk => by
    unfold aSched at hk
    split at hk
    case h_2 => exact hk.elim
    rename_i o ho
    obtain ⟨hdst, hk⟩ := hk
    simp only [schedB, Bool.and_eq_true] at hb
    obtain ⟨hb1, hb2⟩ := hb
    cases t with
    | true =>
      simp only at hk hb1
      simp only [Bool.and_eq_true] at hb1
      split at hk
      case h_2 => exact hk.elim
      rename_i s v hp
      obtain ⟨y, hy, hv⟩ := sOper_sound (Sw := fun w' => ∀ k, gh.S k → w'.heap[k]? = w.heap[k]?) hz h (fun w' hw k hk => by
        have h1 := h.sZ k hk
        exact (hw k h1).trans (h0.lent h k h1).symm) hp hk.1
      exact wpAnyH_take ho hns hb1.2 hb1.1 (fun c a w hq => hq.elim) hy (h0.lent h) (aSched_sound hz h0 hns r _ (h.dst (dst_lt hdst) hv) hb2 hk.2)
    | false =>
      simp only at hk hb1
      refine wpAnyH_all (rs := [i]) (by simpa using hb1) (by simp) (fun i' hi' => ?_)
      rw [List.mem_singleton] at hi'
      subst hi'
      unfold wpOp
      simp only [ho]
      have hop := oper_sound (Q := fun e a' w' => match e with | .normal => Up P (C0.here w gh.S) (Q .normal) a' w' | _ => False) hz h hdst hk
      have next : ∀ a' w', Up P (C0.here w gh.S) (fun st' => aSched P (C0.here w gh.S) ops r st' (Q .normal)) a' w' → (∀ k, gh.S k → w'.heap[k]? = w.heap[k]?) ∧
          wpAnyH P .any ops (fun e a' w' => match e with | .normal => Up P (C0.here w gh.S) (Q .normal) a' w' | _ => False) (fun w' => ∀ k, gh.S k → w'.heap[k]? = w.heap[k]?) r.length (l.setIfInBounds i' true) a' w' := fun a' w' ⟨st', gh', hk', h'⟩ =>
        ⟨h0.lent h', aSched_sound hz h0 hns r _ h' hb2 hk'⟩
      split
      · rename_i hw
        rw [if_pos hw] at hop
        exact Or.inl (Oper.wp_mono next hop)
      · rename_i hw
        rw [if_neg hw] at hop
        exact next _ _ hop

/-- A region whose order is drawn, with calls in it. -/
theorem Tri.sched (hz : Sized P) {id : Nat} {ops : Array Oper} {Q : Exit → St → Prop} (sch : List (Nat × Bool)) (hm : P.follows .mixedOrders = true) (hb : schedOk ops sch = true) (hk : ∀ C', C'.pin = C.pin → aSched P C' ops sch st (Q .normal)) : Tri P C st (.region id ops true) Q := fun a w gh hR => by
  simp only [schedOk, Bool.and_eq_true, beq_iff_eq] at hb
  obtain ⟨⟨hb1, hb2⟩, hb3⟩ := hb
  have hd := hR.drew
  refine Code.wp_mono (fun e a' w' hq => ?_) (wp_region_held (S := fun w' => ∀ k, gh.S k → w'.heap[k]? = w.drew.heap[k]?) hm ?_ (Q := fun e a' w' => match e with | .normal => Up P (C.here w.drew gh.S) (Q .normal) a' w' | _ => False))
  · cases e with
    | normal =>
      obtain ⟨st', gh', hk', h'⟩ := hq
      exact ⟨st', gh', hk', hd.back h'⟩
    | _ => exact hq.elim
  · have := aSched_sound hz hd hb1 sch (Array.replicate ops.size false) hd.here hb2 (Q := Q) (hk _ rfl)
    rw [hb3] at this
    exact this

/-! ### A struct that is written no more -/
mutual
def frbV (o : Nat) (cs : List D) : V → V
  | .ref o' p n => if o' = o then .dead else .ref o' p n
  | .bp o' j => if o' = o then .ip (shL cs) j else .bp o' j
  | .rp o' p i j => if o' = o then .dead else .rp o' p i j
  | .agg vs => .agg (frbL o cs vs)
  | .tup vs => .tup (frbL o cs vs)
  | .cond c v => .cond c (frbV o cs v)
  | .dead => .dead
  | .und => .und
  | .sc v => .sc v
  | .nil t => .nil t
  | .imm t l => .imm t l
  | .ip ch j => .ip ch j
  | .clo f chs => .clo f chs
def frbL (o : Nat) (cs : List D) : List V → List V
  | [] => []
  | v :: r => frbV o cs v :: frbL o cs r
end

def St.frb (st : St) (o : Nat) : St := match look st.ob o with
  | some (.box (c :: cs)) => { st with tm := mapT (frbV o (c :: cs)) st.tm, ob := drop st.ob o }
  | _ => st

theorem frbL_get (o : Nat) (cs : List D) (vs : List V) (i : Nat) : (frbL o cs vs)[i]? = (vs[i]?).map (frbV o cs) := by
  induction vs generalizing i with
  | nil => simp [frbL]
  | cons v r ih => cases i <;> simp [frbL, ih]
theorem frbL_length (o : Nat) (cs : List D) (vs : List V) : (frbL o cs vs).length = vs.length := by
  induction vs with
  | nil => rfl
  | cons v r ih => simp [frbL, ih]

theorem VR.frb (h : VR P w gh ob v u) {o : Nat} {cs : List D} (ho : look ob o = some (.box cs)) (hob : ObR P w gh o (.box cs)) : VR P w (gh.more (gh.F o)) (drop ob o) (frbV o cs v) u := by
  have hne : ∀ o' x, o' ≠ o → look ob o' = some x → look (drop ob o) o' = some x := fun o' x hne hx => by rw [look_drop, if_neg (fun e => hne e.symm)]; exact hx
  induction h with
  | dead => exact .dead
  | und => exact .und
  | sc h => exact .sc h
  | nil => exact .nil
  | imm h => exact .imm (h.mono (fun k hk => Or.inl hk))
  | @ref o' n p x e' es' A c hx hn hle =>
    simp only [frbV]
    by_cases heq : o' = o
    · rw [if_pos heq]; exact .dead
    · rw [if_neg heq]; exact .ref (hne o' x heq hx) (hn.ghc rfl rfl rfl) hle
  | @bp o' j cs' hx =>
    simp only [frbV]
    by_cases heq : o' = o
    · rw [if_pos heq]
      subst heq
      rw [ho] at hx; cases hx
      cases hob with
      | box xs G hb hl h1 hc hxx dis nb hF =>
        refine VR.ip (gh := gh.more (gh.F o')) (fun q => xs.getD q undef) (Or.inr ((hF _).2 (Or.inl rfl))) (fun q d hd => ?_)
        rw [shL_map, List.getElem?_map] at hd
        obtain ⟨d0, hd0, rfl⟩ := Option.map_eq_some_iff.1 hd
        have hq : q < xs.length := by rw [hl]; exact (List.getElem?_eq_some_iff.1 hd0).1
        refine ⟨(hc q hq).trans (getD_of_lt hq), Ro.sh ((hxx q d0 hd0).ro (fun k hk => Or.inr ((hF k).2 (Or.inr ⟨q, d0, hd0, hk⟩))) (fun k hk => Or.inl hk))⟩
    · rw [if_neg heq]; exact .bp (gh := gh.more (gh.F o)) (hne o' _ heq hx)
  | @rp o' i j p x e' es' ad c hx hn =>
    simp only [frbV]
    by_cases heq : o' = o
    · rw [if_pos heq]; exact .dead
    · rw [if_neg heq]; exact .rp (hne o' x heq hx) (hn.ghc rfl rfl rfl)
  | ip U hs h => exact .ip U (Or.inl hs) (fun q d hd => ⟨(h q d hd).1, (h q d hd).2.mono (fun k hk => Or.inl hk)⟩)
  | clo h => exact .clo (h.same (fun k hk => Or.inl hk))
  | agg hl h1 h ih =>
    simp only [frbV]
    refine .agg (by rw [frbL_length]; exact hl) h1 (fun i v hv => ?_)
    rw [frbL_get] at hv
    obtain ⟨v0, hv0, rfl⟩ := Option.map_eq_some_iff.1 hv
    exact ih i v0 hv0
  | tup hl h ih =>
    simp only [frbV]
    refine .tup (by rw [frbL_length]; exact hl) (fun i v hv => ?_)
    rw [frbL_get] at hv
    obtain ⟨v0, hv0, rfl⟩ := Option.map_eq_some_iff.1 hv
    exact ih i v0 hv0
  | cond ht hf ih => simp only [frbV]; exact .cond ih hf

theorem Ent.frb (hz : C.full) (o : Nat) : Ent P C st (st.frb o) := fun a w gh h => by
  unfold St.frb
  split
  case h_2 => exact ⟨gh, h⟩
  rename_i c0 cs0 ho
  generalize hcs : c0 :: cs0 = cs at ho
  have hlen : 0 < cs.length := by rw [← hcs]; simp
  have hd : ∀ o' x, look (drop st.ob o) o' = some x → o' ≠ o ∧ look st.ob o' = some x := fun o' x hx => by
    rw [look_drop] at hx
    by_cases e1 : o = o'
    · rw [if_pos e1] at hx; cases hx
    · rw [if_neg e1] at hx; exact ⟨fun e => e1 e.symm, hx⟩
  refine ⟨gh.more (gh.F o), ?_⟩
  exact {
    obs := fun o' b hb => (h.obs o' b (hd o' b hb).2).mono
    dis := fun o1 o2 b1 b2 k h1 h2 => h.dis o1 o2 b1 b2 k (hd _ _ h1).2 (hd _ _ h2).2
    sS := fun k hk => hk.elim (h.sS k) (fun hk => (h.obs o _ ho).lt k hk)
    nS := fun o' b k hb hk hS => hS.elim (h.nS o' b k (hd _ _ hb).2 hk) (fun hk' => (hd _ _ hb).1 (h.dis o' o b _ k (hd _ _ hb).2 ho hk hk'))
    wrR := fun o' e' es' k hb => h.wrR o' e' es' k (hd _ _ hb).2
    wrB := fun o' cs k hb => h.wrB o' cs k (hd _ _ hb).2
    wrC := fun o' cs j hb => h.wrC o' cs j (hd _ _ hb).2
    kept := h.kept
    pins := fun o' x hp hn => h.pins o' x hp (fun e' => by
      cases hq : look (drop st.ob o) o' with
      | none => exact hn hq
      | some y => have := (hd _ _ hq).2; rw [e'] at this; cases this)
    tms := fun t => by
      have : St.get { st with tm := mapT (frbV o cs) st.tm, ob := drop st.ob o } t = frbV o cs (st.get t) := by
        unfold St.get; simp only [look_mapT]
        cases look st.tm t <;> simp [frbV]
      rw [this]
      exact (h.tms t).frb ho (h.obs o _ ho)
    nt := h.nt
    dfs := h.dfs
    xl := h.xl
    xS := fun k hk hS => hS.elim (h.xS k hk) (fun hk' => h.xF o _ k ho hk hk')
    xF := fun o' b k hb => h.xF o' b k (hd _ _ hb).2
    xW := h.xW
    s0S := fun k hk => Or.inl (h.s0S k hk)
    sZ := fun k hk => hk.elim (h.sZ k) (fun hk' => by
      by_cases hb : k = gh.bb o
      · subst hb; exact hz _ ((h.wrC o cs 0 ho hlen).imp id (fun hh => ⟨_, hh⟩))
      · exact hz k ((h.wrB o cs k ho hk' hb).imp id (fun hh => ⟨0, hh 0⟩))) }

/-- A sequence; in between less is known, or something is written no more. -/
theorem Tri.seqE (hz : Sized P) (F : St → St) (hF : ∀ s, Ent P C s (F s)) {x y : Code} {Q : Exit → St → Prop} (h : aCode P C x st (Exit.seq (fun st' => aCode P C y (F st') Q) Q)) : Tri P C st (.seq x y) Q :=
  Tri.seq ((code_sound hz x h).mono fun e s hs => by
    cases e with
    | normal => exact (code_sound hz y hs).ent (hF s)
    | _ => exact hs)

theorem sound_tri {f : FuncId} {fn : Func} {c : Code} {res : List RR} {n : Nat} {ts : (Nat → Value) → List V} {ob0 : List (Nat × Ob)} {post : List RV → St → Prop} (hz : Sized P) (hf : P.funcs[f]? = some fn) (hb : fn.body = some c) (hen : entersB P f = true) (hres : fn.results.toList = res.map RR.var)
    (hn : fn.ntmps = n) (hnt : ∀ uf, (ts uf).length ≤ n) (h : ∀ (uf : Nat → Value) (ub : Nat → Nat × Nat) (C : Cx), (∀ o, isPin o = false → C.pin o = none) → (∀ o, isPin o = true → C.pin o = some (uf o, ub o)) → C.full → Tri P C ⟨n, zipT 0 (ts uf), ob0⟩ c (FinE P res post)) : SoundAt P f ts ob0 post := by
  refine ⟨hen, fun uf ub C w gh us hw hpin hpin2 hfull hus hR => ?_⟩
  have hnt := hnt uf
  have hrep : Rep P C No ⟨n, zipT 0 (ts uf), ob0⟩ { tmps := us ++ Array.replicate (fn.ntmps - us.size) undef, defers := [] } w gh := {
      obs := hR.obs, dis := hR.dis, sS := hR.sS, nS := hR.nS, wrR := hR.wrR, wrB := hR.wrB, wrC := hR.wrC, kept := hR.kept, pins := hR.pins
      tms := fun t => by
        have ht := hR.tms t
        have e1 : St.get ⟨n, zipT 0 (ts uf), ob0⟩ t = St.get ⟨us.size, zipT 0 (ts uf), ob0⟩ t := rfl
        rw [e1]
        by_cases hlt : t < us.size
        · have e2 : (us ++ Array.replicate (fn.ntmps - us.size) undef).getD t undef = us.getD t undef := by
            rw [Array.getD_eq_getD_getElem?, Array.getD_eq_getD_getElem?, Array.getElem?_append_left hlt]
          simp only [e2]; exact ht
        · have e3 : St.get ⟨us.size, zipT 0 (ts uf), ob0⟩ t = .dead := by
            unfold St.get; simp only [look_zipT, Nat.zero_le, if_true, Nat.sub_zero]
            rw [List.getElem?_eq_none (by omega)]; rfl
          rw [e3]; exact .dead
      nt := by simp only [Array.size_append, Array.size_replicate]; omega
      dfs := rfl
      xl := hR.xl, xS := hR.xS, xF := hR.xF, xW := hR.xW, s0S := hR.s0S, sZ := hR.sZ }
  refine calls_of_wp hf hb (Code.wp_mono (fun e a' w' hh => ?_) (h uf ub C hpin hpin2 hfull _ w gh hrep))
  obtain ⟨st', gh', hk, hr⟩ := hh
  cases e with
  | normal => exact fin_sound hres hr hk
  | ret => exact fin_sound hres hr hk
  | _ => exact hk.elim
end
end Go.Proofs.Ytldniggehdpheaa.AW

namespace Go.Proofs.Ytldniggehdpheaa.AW
open Go.RowKit
set_option linter.unusedSimpArgs false
set_option linter.unusedVariables false

theorem bytes_eq (a b : ByteArray) : (a.toList == b.toList) = decide (a = b) := by
  rw [ByteArray.toList_eq, ByteArray.toList_eq]
  by_cases h : a = b
  · subst h; simp
  · have : ¬ a.data.toList = b.data.toList := fun e => h (ByteArray.ext (Array.toList_inj.1 e))
    rw [decide_eq_false h]
    exact beq_eq_false_iff_ne.2 this

mutual
def renV (o o' : Nat) : V → V
  | .ref k p n => .ref (if k = o then o' else k) p n
  | .bp k j => .bp (if k = o then o' else k) j
  | .rp k p i j => .rp (if k = o then o' else k) p i j
  | .agg vs => .agg (renL o o' vs)
  | .tup vs => .tup (renL o o' vs)
  | .cond c v => .cond c (renV o o' v)
  | .dead => .dead
  | .und => .und
  | .sc v => .sc v
  | .nil t => .nil t
  | .imm t l => .imm t l
  | .ip ch j => .ip ch j
  | .clo f chs => .clo f chs
def renL (o o' : Nat) : List V → List V
  | [] => []
  | v :: r => renV o o' v :: renL o o' r
end

def renO {α : Type} (o o' : Nat) : List (Nat × α) → List (Nat × α)
  | [] => []
  | (k, x) :: r => (if k = o then o' else k, x) :: renO o o' r

/-- Object o gets the number o'. -/
def St.ren (st : St) (o o' : Nat) : St := match look st.ob o' with
  | none => { st with tm := mapT (renV o o') st.tm, ob := renO o o' st.ob }
  | some _ => st

/-- A slot that holds no row holds an empty one. -/
def St.emp (st : St) (t : Nat) (e : TypeId) : St := match st.get t with
  | .nil _ => st.set t (.imm e [])
  | .sc (.slice none 0 0) => st.set t (.imm e [])
  | _ => st

section
variable {P : Program} {w w1 : World} {C : Cx} {X : Nat → Prop} {gh : Gh} {st st' st'' : St} {a : Act} {v : V} {u : Value} {ob ob' : List (Nat × Ob)} {S S' : Nat → Prop} {K : St → Prop} {d : D} {F : Nat → Prop}

theorem renL_get (o o' : Nat) (vs : List V) (i : Nat) : (renL o o' vs)[i]? = (vs[i]?).map (renV o o') := by
  induction vs generalizing i with
  | nil => simp [renL]
  | cons v r ih => cases i <;> simp [renL, ih]
theorem renL_length (o o' : Nat) (vs : List V) : (renL o o' vs).length = vs.length := by
  induction vs with
  | nil => rfl
  | cons v r ih => simp [renL, ih]

theorem look_ren {α : Type} {o o' : Nat} : ∀ {l : List (Nat × α)}, look l o' = none → ∀ k, look (renO o o' l) k = if k = o' then look l o else if k = o ∧ o ≠ o' then none else look l k
  | [], _, k => by simp [renO, look]
  | (q, x) :: r, h, k => by
    have hq : o' ≠ q ∧ look r o' = none := by
      simp only [look] at h
      by_cases e : o' = q
      · rw [if_pos e] at h; cases h
      · rw [if_neg e] at h; exact ⟨e, h⟩
    have ih := look_ren (o := o) hq.2 k
    simp only [renO, look]
    by_cases e1 : q = o
    · subst e1
      simp only [if_true]
      by_cases e2 : k = o'
      · simp [e2]
      · simp only [if_neg e2] at ih ⊢
        rw [ih]
        by_cases e3 : k = q
        · subst e3; simp [e2]
        · simp [e3]
    · simp only [if_neg e1]
      by_cases e4 : k = q
      · subst e4
        have e5 : k ≠ o' := fun e => hq.1 e.symm
        simp [e5, e1]
      · simp only [if_neg e4]
        rw [ih]
        by_cases e2 : k = o'
        · simp [e2, Ne.symm e1]
        · simp [e2]

/-- What lies where: under the other number. -/
def Gh.ren (gh : Gh) (o o' : Nat) : Gh := ⟨gh.S, fun k => if k = o' then gh.hv o else gh.hv k, fun k => if k = o' then gh.bb o else gh.bb k, fun k => if k = o' then gh.bo o else gh.bo k, fun k => if k = o' then gh.F o else gh.F k⟩

theorem ObR.at {gh' : Gh} {o o' : Nat} {x : Ob} (h : ObR P w gh o x) (hS : gh'.S = gh.S) (h1 : gh'.hv o' = gh.hv o) (h2 : gh'.bb o' = gh.bb o) (h3 : gh'.bo o' = gh.bo o) (h4 : gh'.F o' = gh.F o) : ObR P w gh' o' x := by
  cases h with
  | row h => exact .row (by rw [hS, h1, h4]; exact h)
  | box xs G hb hl h1' hc hx dis nb hF =>
    exact .box xs G (by rw [h2]; exact hb) hl h1' (by rw [h2, h3]; exact hc) (by rw [hS]; exact hx) dis (by rw [h2]; exact nb) (by rw [h2, h4]; exact hF)

theorem NavO.at {gh' : Gh} {o o' : Nat} {x : Ob} {p : List (Nat × Nat)} {d : D} (h : NavO P w gh o x p d u) (h1 : gh'.hv o' = gh.hv o) (h2 : gh'.bb o' = gh.bb o) (h3 : gh'.bo o' = gh.bo o) : NavO P w gh' o' x p d u := by
  unfold NavO at h ⊢
  split <;> simp_all

theorem VR.ren (h : VR P w gh ob v u) {o o' : Nat} (ho' : look ob o' = none) : VR P w (gh.ren o o') (renO o o' ob) (renV o o' v) u := by
  have key : ∀ k x, look ob k = some x → look (renO o o' ob) (if k = o then o' else k) = some x ∧ (gh.ren o o').hv (if k = o then o' else k) = gh.hv k ∧ (gh.ren o o').bb (if k = o then o' else k) = gh.bb k ∧ (gh.ren o o').bo (if k = o then o' else k) = gh.bo k := by
    intro k x hx
    have hne : k ≠ o' := fun e => by rw [e, ho'] at hx; cases hx
    by_cases e : k = o
    · subst e
      simp only [if_true]
      refine ⟨?_, ?_, ?_, ?_⟩
      · rw [look_ren ho', if_pos rfl]; exact hx
      all_goals simp [Gh.ren]
    · simp only [if_neg e]
      refine ⟨?_, ?_, ?_, ?_⟩
      · rw [look_ren ho', if_neg hne, if_neg (fun h => e h.1)]; exact hx
      all_goals simp [Gh.ren, hne]
  induction h with
  | dead => exact .dead
  | und => exact .und
  | sc h => exact .sc h
  | nil => exact .nil
  | imm h => exact .imm h
  | ref hx hn hle =>
    obtain ⟨k1, k2, k3, k4⟩ := key _ _ hx
    exact .ref k1 (hn.at k2 k3 k4) hle
  | bp hx =>
    obtain ⟨k1, k2, k3, k4⟩ := key _ _ hx
    simp only [renV]
    rw [← k3, ← k4]
    exact .bp k1
  | rp hx hn =>
    obtain ⟨k1, k2, k3, k4⟩ := key _ _ hx
    exact .rp k1 (hn.at k2 k3 k4)
  | ip U hs h => exact .ip (gh := gh.ren o o') U hs h
  | clo h => exact .clo h
  | agg hl h1 h ih =>
    simp only [renV]
    refine .agg (by rw [renL_length]; exact hl) h1 (fun i v hv => ?_)
    rw [renL_get] at hv
    obtain ⟨v0, hv0, rfl⟩ := Option.map_eq_some_iff.1 hv
    exact ih i v0 hv0
  | tup hl h ih =>
    simp only [renV]
    refine .tup (by rw [renL_length]; exact hl) (fun i v hv => ?_)
    rw [renL_get] at hv
    obtain ⟨v0, hv0, rfl⟩ := Option.map_eq_some_iff.1 hv
    exact ih i v0 hv0
  | cond ht hf ih => simp only [renV]; exact .cond ih hf

theorem Ent.ren {o o' : Nat} (hp : C.pin o' = none) : Ent P C st (st.ren o o') := fun a w gh h => by
  unfold St.ren
  split
  case h_2 => exact ⟨gh, h⟩
  rename_i ho'
  have hd : ∀ k b, look (renO o o' st.ob) k = some b → ∃ q, look st.ob q = some b ∧ (gh.ren o o').hv k = gh.hv q ∧ (gh.ren o o').bb k = gh.bb q ∧ (gh.ren o o').bo k = gh.bo q ∧ (gh.ren o o').F k = gh.F q ∧ k = (if q = o then o' else q) := by
    intro k b hb
    rw [look_ren ho'] at hb
    by_cases e : k = o'
    · rw [if_pos e] at hb
      exact ⟨o, hb, by simp [Gh.ren, e], by simp [Gh.ren, e], by simp [Gh.ren, e], by simp [Gh.ren, e], by simp [e]⟩
    · rw [if_neg e] at hb
      by_cases e2 : k = o ∧ o ≠ o'
      · rw [if_pos e2] at hb; cases hb
      · rw [if_neg e2] at hb
        have e3 : k ≠ o := fun e3 => e2 ⟨e3, fun e4 => e (e3.trans e4)⟩
        exact ⟨k, hb, by simp [Gh.ren, e], by simp [Gh.ren, e], by simp [Gh.ren, e], by simp [Gh.ren, e], by simp [e3]⟩
  refine ⟨gh.ren o o', ?_⟩
  exact {
    obs := fun k b hb => by
      obtain ⟨q, h0, h1, h2, h3, h4, _⟩ := hd k b hb
      exact (h.obs q b h0).at rfl h1 h2 h3 h4
    dis := fun k1 k2 b1 b2 x h1 h2 hx1 hx2 => by
      obtain ⟨q1, a0, _, _, _, a4, a5⟩ := hd k1 b1 h1
      obtain ⟨q2, c0, _, _, _, c4, c5⟩ := hd k2 b2 h2
      rw [a4] at hx1; rw [c4] at hx2
      rw [a5, c5, h.dis q1 q2 b1 b2 x a0 c0 hx1 hx2]
    sS := h.sS
    nS := fun k b x hb hx => by
      obtain ⟨q, h0, _, _, _, h4, _⟩ := hd k b hb
      rw [h4] at hx
      exact h.nS q b x h0 hx
    wrR := fun k e es x hb hx => by
      obtain ⟨q, h0, _, _, _, h4, _⟩ := hd k _ hb
      rw [h4] at hx
      exact h.wrR q e es x h0 hx
    wrB := fun k cs x hb hx => by
      obtain ⟨q, h0, _, h2, _, h4, _⟩ := hd k _ hb
      rw [h4] at hx
      rw [h2]
      exact h.wrB q cs x h0 hx
    wrC := fun k cs j hb hj => by
      obtain ⟨q, h0, _, h2, h3, _, _⟩ := hd k _ hb
      rw [h2, h3]
      exact h.wrC q cs j h0 hj
    kept := h.kept
    pins := fun k x hk hn => by
      by_cases e : k = o'
      · rw [e, hp] at hk; cases hk
      · have e1 : (gh.ren o o').hv k = gh.hv k := by simp [Gh.ren, e]
        have e2 : (gh.ren o o').bb k = gh.bb k := by simp [Gh.ren, e]
        have e3 : (gh.ren o o').bo k = gh.bo k := by simp [Gh.ren, e]
        rw [e1, e2, e3]
        refine h.pins k x hk (fun e4 => hn ?_)
        simp only []
        rw [look_ren ho', if_neg e]
        split
        · rfl
        · exact e4
    tms := fun t => by
      have : St.get { st with tm := mapT (renV o o') st.tm, ob := renO o o' st.ob } t = renV o o' (st.get t) := by
        unfold St.get; simp only [look_mapT]
        cases look st.tm t <;> simp [renV]
      rw [this]
      exact (h.tms t).ren ho'
    nt := h.nt
    dfs := h.dfs
    xl := h.xl
    xS := h.xS
    xF := fun k b x hb hx hF => by
      obtain ⟨q, h0, _, _, _, h4, _⟩ := hd k b hb
      rw [h4] at hF
      exact h.xF q b x h0 hx hF
    xW := h.xW
    s0S := h.s0S
    sZ := h.sZ }

theorem ro_empty {e : TypeId} : Ro P w S (.row true e []) (.slice none 0 0) :=
  .row (fun _ _ => undef) (Nat.le_refl _) (Nat.zero_le _) (by simp) (fun h => absurd h (Nat.lt_irrefl 0)) (fun i j d hd => by simp [cellAt] at hd)

theorem Rep.set0 (h : Rep P C X st a w gh) {d : Nat} (hv : VR P w gh st.ob v (a.tmps.getD d undef)) : Rep P C X (st.set d v) a w gh where
  obs := h.obs
  dis := h.dis
  sS := h.sS
  nS := h.nS
  wrR := h.wrR
  wrB := h.wrB
  wrC := h.wrC
  kept := h.kept
  pins := h.pins
  tms := by
    intro t
    rw [St.get_set]
    by_cases e : t = d
    · rw [if_pos e, e]; exact hv
    · rw [if_neg e]; exact h.tms t
  nt := h.nt
  dfs := h.dfs
  xl := h.xl
  xS := h.xS
  xF := h.xF
  xW := h.xW
  s0S := h.s0S
  sZ := h.sZ

theorem Ent.emp (t : Nat) (e : TypeId) : Ent P C st (st.emp t e) := fun a w gh h => by
  unfold St.emp
  split
  · rename_i e' he
    have ht := h.tms t
    rw [he] at ht
    refine ⟨gh, h.set0 ?_⟩
    generalize a.tmps.getD t undef = u at ht
    cases ht
    exact .imm ro_empty
  · rename_i he
    have ht := h.tms t
    rw [he] at ht
    refine ⟨gh, h.set0 ?_⟩
    generalize a.tmps.getD t undef = u at ht
    cases ht
    exact .imm ro_empty
  · exact ⟨gh, h⟩

/-- A step of a sequence; what is behind stays as it is. -/
theorem Tri.step (hz : Sized P) {x y : Code} {Q : Exit → St → Prop} (h : aCode P C x st (Exit.seq (fun st' => Tri P C st' y Q) Q)) : Tri P C st (.seq x y) Q := Tri.seq (code_sound hz x h)

/-- .. and behind it one thing alone is known. -/
theorem Tri.stop (hz : Sized P) (st1 : St) {x y : Code} {Q : Exit → St → Prop} (h : aCode P C x st (Exit.seq (fun st' => Ent P C st' st1) Q)) (h2 : Tri P C st1 y Q) : Tri P C st (.seq x y) Q :=
  Tri.seq ((code_sound hz x h).mono fun e s hs => by
    cases e with
    | normal => exact h2.ent hs
    | _ => exact hs)
end
end Go.Proofs.Ytldniggehdpheaa.AW

namespace Go.Proofs.Ytldniggehdpheaa.AW
open Go.RowKit
set_option linter.unusedSimpArgs false
set_option linter.unusedVariables false

/-- What is behind a beginning. -/
def strip : List (Nat × Nat) → List (Nat × Nat) → Option (List (Nat × Nat))
  | [], q => some q
  | _ :: _, [] => none
  | x :: p, y :: q => if x = y then strip p q else none

theorem strip_eq : ∀ {p q r : List (Nat × Nat)}, strip p q = some r → q = p ++ r
  | [], q, r, h => by simp only [strip, Option.some.injEq] at h; simpa using h
  | _ :: _, [], r, h => by simp [strip] at h
  | x :: p, y :: q, r, h => by
    simp only [strip] at h
    by_cases e : x = y
    · rw [if_pos e] at h; rw [e, List.cons_append, ← strip_eq h]
    · rw [if_neg e] at h; cases h

mutual
def outV (o : Nat) (p : List (Nat × Nat)) (o' : Nat) : V → V
  | .ref k q n => if k = o then (match strip p q with
    | some r => .ref o' r n
    | none => match q with
      | [] => .ref k [] n
      | _ :: _ => .dead) else .ref k q n
  | .rp k q i j => if k = o then (match strip p q with
    | some r => .rp o' r i j
    | none => match q with
      | [] => .rp k [] i j
      | _ :: _ => .dead) else .rp k q i j
  | .agg vs => .agg (outL o p o' vs)
  | .tup vs => .tup (outL o p o' vs)
  | .cond c v => .cond c (outV o p o' v)
  | .bp k j => .bp k j
  | .dead => .dead
  | .und => .und
  | .sc v => .sc v
  | .nil t => .nil t
  | .imm t l => .imm t l
  | .ip ch j => .ip ch j
  | .clo f chs => .clo f chs
def outL (o : Nat) (p : List (Nat × Nat)) (o' : Nat) : List V → List V
  | [] => []
  | v :: r => outV o p o' v :: outL o p o' r
end

/-- The row at a place of object o is object o'; where it was, its value is known. -/
def St.out (st : St) (o : Nat) (p : List (Nat × Nat)) (o' : Nat) (u : Value) : St := match look st.ob o with
  | some x => match subO x p with
    | some (.row false e es) => { st with tm := mapT (outV o p o') st.tm, ob := (o', .row e es) :: (o, setO x p (.sc u)) :: drop st.ob o }
    | _ => st
  | none => st
/-- .. and back. -/
def St.inn (st : St) (o : Nat) (p : List (Nat × Nat)) (o' : Nat) : St := match look st.ob o, look st.ob o' with
  | some x, some (.row e es) => (st.kill o').swap o (setO x p (.row false e es))
  | _, _ => st
def innOk (st : St) (o : Nat) (p : List (Nat × Nat)) (o' : Nat) (u : Value) : Prop := match look st.ob o, look st.ob o' with
  | some x, some (.row e es) => subO x p = some (.sc u)
  | _, _ => False

def Cx.pinned (C : Cx) (o' : Nat) (u : Value) : Cx := { C with pin := fun k => if k = o' then some (u, 0, 0) else C.pin k }

section
variable {P : Program} {w w1 : World} {C : Cx} {X : Nat → Prop} {gh gh' : Gh} {st st' : St} {a : Act} {v : V} {u : Value} {ob ob' : List (Nat × Ob)} {o o' : Nat} {x : Ob} {p : List (Nat × Nat)} {d' : D} {e : TypeId} {es : List (List D)}

theorem outL_get (vs : List V) (i : Nat) : (outL o p o' vs)[i]? = (vs[i]?).map (outV o p o') := by
  induction vs generalizing i with
  | nil => simp [outL]
  | cons v r ih => cases i <;> simp [outL, ih]
theorem outL_length (vs : List V) : (outL o p o' vs).length = vs.length := by
  induction vs with
  | nil => rfl
  | cons v r ih => simp [outL, ih]

theorem Nav.split {d : D} {v : Value} : ∀ {p q : List (Nat × Nat)} {d2 : D} {v2 : Value}, Nav P w d v (p ++ q) d2 v2 → ∃ d1 v1, Nav P w d v p d1 v1 ∧ Nav P w d1 v1 q d2 v2
  | [], q, d2, v2, h => ⟨d, v, .nil, h⟩
  | (i, j) :: p, q, d2, v2, h => by
    cases h with
    | cons hc hw hn =>
      obtain ⟨d1, v1, h1, h2⟩ := Nav.split hn
      exact ⟨d1, v1, .cons hc hw h1, h2⟩

theorem NavO.split {q : List (Nat × Nat)} {d2 : D} {v2 : Value} (hp : p ≠ []) (h : NavO P w gh o x (p ++ q) d2 v2) : ∃ d1 v1, NavO P w gh o x p d1 v1 ∧ Nav P w d1 v1 q d2 v2 := by
  cases x with
  | row e es => exact Nav.split h
  | box cs =>
    cases p with
    | nil => exact absurd rfl hp
    | cons y p =>
      obtain ⟨i, j⟩ := y
      obtain ⟨d1, v1, h1, h2, h3⟩ := h
      obtain ⟨d3, v3, h4, h5⟩ := Nav.split h3
      exact ⟨d3, v3, ⟨d1, v1, h1, h2, h4⟩, h5⟩

theorem like_set (hp : p ≠ []) (d1 : D) : x.like (setO x p d1) := by
  cases x with
  | row e es =>
    cases p with
    | nil => exact absurd rfl hp
    | cons y p =>
      obtain ⟨i, j⟩ := y
      simp only [setO, setD, Ob.like, length_setCellAt, and_self]
  | box cs =>
    cases p with
    | nil => exact absurd rfl hp
    | cons y p =>
      obtain ⟨i, j⟩ := y
      simp only [setO, Ob.like, List.length_set]

/-- What is at a place of an object, and the object with something else there. -/
theorem ObR.part (h : ObR P w gh o x) (hs : subO x p = some d') (hp : p ≠ []) : ∃ (v' : Value) (F' : Nat → Prop), NavO P w gh o x p d' v' ∧ Ow P w gh.S d' v' F' ∧ (∀ k, F' k → gh.F o k) ∧ (∀ cs, x = .box cs → ¬ F' (gh.bb o)) ∧
    ∀ d1 F1, Ow P w gh.S d1 v' F1 → (∀ k, F1 k → gh.F o k → F' k) → ObR P w (gh.upd o (gh.hv o) (gh.bb o) (gh.bo o) (fun k => (gh.F o k ∧ ¬ F' k) ∨ F1 k)) o (setO x p d1) := by
  cases h with
  | @row e es h =>
    obtain ⟨v', F', hn, how, hsub, hback⟩ := h.focus (p := p) hs
    refine ⟨v', F', hn, how, hsub, fun cs e => (by cases e), fun d1 F1 h1 h2 => ?_⟩
    have := hback w d1 F1 (fun _ _ => rfl) (fun _ _ _ => rfl) h1 h2
    cases p with
    | nil => exact absurd rfl hp
    | cons y p =>
      obtain ⟨i, j⟩ := y
      simp only [setD] at this
      simp only [setO, setD]
      refine .row ?_
      simpa [Gh.upd] using this
  | @box cs xs G hb hl h1 hc hx dis nb hF =>
    cases p with
    | nil => exact absurd rfl hp
    | cons y p =>
      obtain ⟨i, j⟩ := y
      simp only [subO, Option.bind_eq_some_iff] at hs
      obtain ⟨c, hcj, hs⟩ := hs
      have hjl : j < cs.length := (List.getElem?_eq_some_iff.1 hcj).1
      obtain ⟨v', F', hn, how, hsub, hback⟩ := (hx j c hcj).focus hs
      refine ⟨v', F', ⟨c, xs.getD j undef, hcj, (hc j (by omega)).trans (getD_of_lt (by omega)), hn⟩, how, fun k hk => (hF k).2 (Or.inr ⟨j, c, hcj, hsub k hk⟩), fun cs' e hk => nb j c _ hcj (hsub _ hk) rfl, fun d1 F1 g1 g2 => ?_⟩
      have g3 := hback w d1 F1 (fun _ _ => rfl) (fun _ _ _ => rfl) g1 (fun k hk hk' => g2 k hk ((hF k).2 (Or.inr ⟨j, c, hcj, hk'⟩)))
      have hcd : cs.getD j .dead = c := by simp [List.getD, hcj]
      simp only [setO, hcd]
      let G' : Nat → Nat → Prop := fun j' k => if j' = j then (G j k ∧ ¬ F' k) ∨ F1 k else G j' k
      have gF1 : ∀ k, F1 k → ∀ j' d, j' ≠ j → cs[j']? = some d → ¬ G j' k := fun k hk j' d hne hd hk' => hne (dis j' j d c k hd hcj hk' (hsub k (g2 k hk ((hF k).2 (Or.inr ⟨j', d, hd, hk'⟩)))))
      have gbb : ∀ k, F1 k → k ≠ gh.bb o := fun k hk e => nb j c k hcj (hsub k (g2 k hk ((hF k).2 (Or.inl e)))) e
      obtain ⟨u1, u2, u3⟩ := gh.upd_self o (fun k => (gh.F o k ∧ ¬ F' k) ∨ F1 k)
      have hset : ∀ j' d, (cs.set j (setD c p d1))[j']? = some d → (j' = j ∧ d = setD c p d1) ∨ (j' ≠ j ∧ cs[j']? = some d) := fun j' d hd => by
        by_cases e : j' = j
        · subst e; rw [List.getElem?_set_self hjl] at hd; cases hd; exact Or.inl ⟨rfl, rfl⟩
        · rw [List.getElem?_set_ne (fun e' => e e'.symm)] at hd; exact Or.inr ⟨e, hd⟩
      refine .box xs G' (by rw [u2]; exact hb) (by simpa using hl) h1 (by rw [u2, u3]; exact hc) (fun j' d hd => ?_) (fun j1 j2 d1' d2' k hd1 hd2 hk1 hk2 => ?_) (fun j' d k hd hk => ?_) (fun k => ?_)
      · rcases hset j' d hd with ⟨rfl, rfl⟩ | ⟨hne, hd⟩
        · exact g3.congr fun k => by simp [G']
        · exact (hx j' d hd).congr fun k => by simp [G', hne]
      · rcases hset j1 d1' hd1 with ⟨rfl, rfl⟩ | ⟨n1, he1⟩ <;> rcases hset j2 d2' hd2 with ⟨e2, rfl⟩ | ⟨n2, he2⟩
        · exact e2.symm
        · simp only [G', if_true, if_neg n2] at hk1 hk2
          rcases hk1 with ⟨hk1, _⟩ | hk1
          · exact absurd (dis j2 j1 d2' c k he2 hcj hk2 hk1) n2
          · exact absurd hk2 (gF1 k hk1 j2 d2' n2 he2)
        · subst e2
          simp only [G', if_true, if_neg n1] at hk1 hk2
          rcases hk2 with ⟨hk2, _⟩ | hk2
          · exact dis j1 j2 d1' c k he1 hcj hk1 hk2
          · exact absurd hk1 (gF1 k hk2 j1 d1' n1 he1)
        · simp only [G', if_neg n1, if_neg n2] at hk1 hk2
          exact dis j1 j2 d1' d2' k he1 he2 hk1 hk2
      · rw [u2]
        rcases hset j' d hd with ⟨rfl, rfl⟩ | ⟨hne, hd⟩
        · simp only [G', if_true] at hk
          rcases hk with ⟨hk, _⟩ | hk
          · exact nb j' c k hcj hk
          · exact gbb k hk
        · simp only [G', if_neg hne] at hk
          exact nb j' d k hd hk
      · rw [u2]
        simp only [Gh.upd, if_true]
        constructor
        · rintro (⟨hk, hn'⟩ | hk)
          · rcases (hF k).1 hk with hk | ⟨j', d, hd, hk⟩
            · exact Or.inl hk
            · by_cases e : j' = j
              · subst e
                rw [hcj] at hd; cases hd
                exact Or.inr ⟨j', _, List.getElem?_set_self hjl, by simp only [G', if_true]; exact Or.inl ⟨hk, hn'⟩⟩
              · exact Or.inr ⟨j', d, by rw [List.getElem?_set_ne (fun e' => e e'.symm)]; exact hd, by simp only [G', if_neg e]; exact hk⟩
          · exact Or.inr ⟨j, _, List.getElem?_set_self hjl, by simp only [G', if_true]; exact Or.inr hk⟩
        · rintro (rfl | ⟨j', d, hd, hk⟩)
          · exact Or.inl ⟨(hF _).2 (Or.inl rfl), fun hk => nb j c _ hcj (hsub _ hk) rfl⟩
          · rcases hset j' d hd with ⟨rfl, rfl⟩ | ⟨hne, hd⟩
            · simp only [G', if_true] at hk
              rcases hk with ⟨hk, hn'⟩ | hk
              · exact Or.inl ⟨(hF k).2 (Or.inr ⟨j', c, hcj, hk⟩), hn'⟩
              · exact Or.inr hk
            · simp only [G', if_neg hne] at hk
              exact Or.inl ⟨(hF k).2 (Or.inr ⟨j', d, hd, hk⟩), fun hk' => hne (dis j' j d c k hd hcj hk (hsub k hk'))⟩

/-- Another content at a place of an object; what was there is in hand, what is there now is not. -/
theorem Rep.turn (h : Rep P C X st a w gh) (ho : look st.ob o = some x) (hp : p ≠ []) {d1 : D} {F' F1 : Nat → Prop} {X' : Nat → Prop} (hsub : ∀ k, F' k → gh.F o k) (hbb : ∀ cs, x = .box cs → ¬ F' (gh.bb o))
    (hob : ObR P w (gh.upd o (gh.hv o) (gh.bb o) (gh.bo o) (fun k => (gh.F o k ∧ ¬ F' k) ∨ F1 k)) o (setO x p d1)) (h1 : ∀ k, F1 k → X k) (h1' : ∀ k, F1 k → ¬ F' k) (hX : ∀ k, X' k → (X k ∨ F' k) ∧ ¬ F1 k) :
    Rep P C X' (st.swap o (setO x p d1)) a w (gh.upd o (gh.hv o) (gh.bb o) (gh.bo o) (fun k => (gh.F o k ∧ ¬ F' k) ∨ F1 k)) := by
  refine h.swap ho (like_set hp d1) (Nat.le_refl _) (fun _ _ _ _ _ _ => rfl) (fun _ _ => rfl) (World.keptBut_refl w _) hob (fun k hk => ?_) (fun k hk => ?_) (fun cs k hx hk => ?_)
  · rcases hk with hk | hk
    · exact Or.inl hk.1
    · exact Or.inr (h1 k hk)
  · obtain ⟨hk1, hk2⟩ := hX k hk
    refine ⟨hk1.elim Or.inr (fun hk => Or.inl (hsub k hk)), fun hk' => ?_⟩
    rcases hk' with ⟨hk', hn⟩ | hk'
    · rcases hk1 with hk1 | hk1
      · exact h.xF o x k ho hk1 hk'
      · exact hn hk1
    · exact hk2 hk'
  · rintro rfl
    rcases (hX _ hk).1 with hk1 | hk1
    · subst hx
      have := h.obs o _ ho
      cases this with
      | box xs G hb hl h1 hc hx dis nb hF => exact h.xF o _ _ ho hk1 ((hF _).2 (Or.inl rfl))
    · exact hbb cs hx hk1

theorem VR.out (h : VR P w gh ob v u) (ho : look ob o = some x) (hsub : subO x p = some (.row false e es)) (hp : p ≠ []) (ho' : look ob o' = none) {v' : Value} {d1 : D} (hn : NavO P w gh o x p (.row false e es) v')
    (hS : gh'.S = gh.S) (h1 : gh'.hv = fun k => if k = o' then v' else gh.hv k) (h2 : ∀ k, k ≠ o' → gh'.bb k = gh.bb k) (h3 : ∀ k, k ≠ o' → gh'.bo k = gh.bo k) :
    VR P w gh' ((o', .row e es) :: (o, setO x p d1) :: drop ob o) (outV o p o' v) u := by
  have hoo : o ≠ o' := fun e => by rw [e, ho'] at ho; cases ho
  have key : ∀ k y, k ≠ o → look ob k = some y → look ((o', Ob.row e es) :: (o, setO x p d1) :: drop ob o) k = some y ∧ k ≠ o' := by
    intro k y hk hy
    have hk' : k ≠ o' := fun e => by rw [e, ho'] at hy; cases hy
    exact ⟨by rw [look_cons_ne _ _ hk', look_cons_ne _ _ hk, look_drop, if_neg (fun e => hk e.symm)]; exact hy, hk'⟩
  have lo : look ((o', Ob.row e es) :: (o, setO x p d1) :: drop ob o) o = some (setO x p d1) := by rw [look_cons_ne _ _ hoo, look_cons_self]
  have lo' : look ((o', Ob.row e es) :: (o, setO x p d1) :: drop ob o) o' = some (.row e es) := look_cons_self _ _ _
  have ghv : ∀ k, k ≠ o' → gh'.hv k = gh.hv k := fun k hk => by rw [h1]; simp [hk]
  have navk : ∀ k y q d z, k ≠ o' → NavO P w gh k y q d z → NavO P w gh' k y q d z := fun k y q d z hk hnv => hnv.at (ghv k hk) (h2 k hk) (h3 k hk)
  have nil_row : ∀ {e1 : TypeId} {es1 : List (List D)} {A : Option Addr} {c : Nat}, NavO P w gh o x [] (.row false e1 es1) (.slice A es1.length c) → ∃ es2, setO x p d1 = .row e1 es2 ∧ es2.length = es1.length ∧ gh.hv o = .slice A es1.length c := by
    intro e1 es1 A c hnv
    cases x with
    | box cs => exact hnv.elim
    | row e2 es2 =>
      obtain ⟨rfl, rfl, hv⟩ := navO_nil hnv
      cases p with
      | nil => exact absurd rfl hp
      | cons y p =>
        obtain ⟨i, j⟩ := y
        simp only [setO, setD]
        exact ⟨_, rfl, by simp, hv⟩
  induction h with
  | dead => exact .dead
  | und => exact .und
  | sc h => exact .sc h
  | nil => exact .nil
  | imm h => exact .imm (by rw [hS]; exact h)
  | @ref k n q y e1 es1 A c hx hnv hle =>
    simp only [outV]
    by_cases ek : k = o
    · subst ek
      rw [if_pos rfl]
      rw [ho] at hx; cases hx
      split
      · rename_i r hr
        have hq := strip_eq hr
        subst hq
        obtain ⟨d2, v2, g1, g2⟩ := NavO.split hp hnv
        obtain ⟨rfl, rfl⟩ := NavO.fn g1 hn
        refine .ref (e := e1) (es := es1) lo' ?_ hle
        show Nav P w _ (gh'.hv o') r _ _
        rw [h1]; simpa using g2
      · split
        · obtain ⟨es2, g1, g2, g3⟩ := nil_row hnv
          refine .ref (e := e1) (es := es2) (lo.trans (congrArg some g1)) ?_ (by rw [g2]; exact hle)
          have : NavO P w gh' k (.row e1 es2) [] (.row false e1 es2) (gh'.hv k) := Nav.nil
          rw [ghv k hoo, g3] at this
          rw [g2]; exact this
        · exact .dead
    · rw [if_neg ek]
      obtain ⟨g1, g2⟩ := key k y ek hx
      exact .ref g1 (navk k y q _ _ g2 hnv) hle
  | @bp k j cs hx =>
    simp only [outV]
    by_cases ek : k = o
    · subst ek
      rw [ho] at hx; cases hx
      have hlk := like_set (x := .box cs) hp d1
      have : ∃ cs2, setO (.box cs) p d1 = .box cs2 := by
        cases p with
        | nil => exact absurd rfl hp
        | cons y p => obtain ⟨i, j⟩ := y; exact ⟨_, rfl⟩
      obtain ⟨cs2, hcs2⟩ := this
      rw [← h2 k hoo, ← h3 k hoo]
      rw [hcs2] at lo ⊢
      exact .bp lo
    · obtain ⟨g1, g2⟩ := key k _ ek hx
      rw [← h2 k g2, ← h3 k g2]
      exact .bp g1
  | @rp k i j q y e1 es1 ad c hx hnv =>
    simp only [outV]
    by_cases ek : k = o
    · subst ek
      rw [if_pos rfl]
      rw [ho] at hx; cases hx
      split
      · rename_i r hr
        have hq := strip_eq hr
        subst hq
        obtain ⟨d2, v2, g1, g2⟩ := NavO.split hp hnv
        obtain ⟨rfl, rfl⟩ := NavO.fn g1 hn
        refine .rp (e := e1) (es := es1) (c := c) lo' ?_
        show Nav P w _ (gh'.hv o') r _ _
        rw [h1]; simpa using g2
      · split
        · obtain ⟨es2, g1, g2, g3⟩ := nil_row hnv
          refine .rp (e := e1) (es := es2) (c := c) (lo.trans (congrArg some g1)) ?_
          have : NavO P w gh' k (.row e1 es2) [] (.row false e1 es2) (gh'.hv k) := Nav.nil
          rw [ghv k hoo, g3] at this
          rw [g2]; exact this
        · exact .dead
    · rw [if_neg ek]
      obtain ⟨g1, g2⟩ := key k y ek hx
      exact .rp g1 (navk k y q _ _ g2 hnv)
  | ip U hs h => exact .ip U (by rw [hS]; exact hs) (by rw [hS]; exact h)
  | clo h => exact .clo (by rw [hS]; exact h)
  | agg hl h1' h ih =>
    simp only [outV]
    refine .agg (by rw [outL_length]; exact hl) h1' (fun i v hv => ?_)
    rw [outL_get] at hv
    obtain ⟨v0, hv0, rfl⟩ := Option.map_eq_some_iff.1 hv
    exact ih i v0 hv0
  | tup hl h ih =>
    simp only [outV]
    refine .tup (by rw [outL_length]; exact hl) (fun i v hv => ?_)
    rw [outL_get] at hv
    obtain ⟨v0, hv0, rfl⟩ := Option.map_eq_some_iff.1 hv
    exact ih i v0 hv0
  | cond ht hf ih => simp only [outV]; exact .cond ih hf

theorem Rep.pinned (h : Rep P C X st a w gh) {z : Value} (hz : look st.ob o' ≠ none → (gh.hv o', gh.bb o', gh.bo o') = (z, 0, 0)) : Rep P (C.pinned o' z) X st a w gh where
  obs := h.obs
  dis := h.dis
  sS := h.sS
  nS := h.nS
  wrR := h.wrR
  wrB := h.wrB
  wrC := h.wrC
  kept := h.kept
  pins := fun k y hk hn => by
    simp only [Cx.pinned] at hk
    by_cases e : k = o'
    · subst e; rw [if_pos rfl] at hk; cases hk; exact hz hn
    · rw [if_neg e] at hk; exact h.pins k y hk hn
  tms := h.tms
  nt := h.nt
  dfs := h.dfs
  xl := h.xl
  xS := h.xS
  xF := h.xF
  xW := h.xW
  s0S := h.s0S
  sZ := h.sZ

theorem Rep.unpinned {z : Value} (h : Rep P (C.pinned o' z) X st a w gh) (hp : C.pin o' = none) : Rep P C X st a w gh where
  obs := h.obs
  dis := h.dis
  sS := h.sS
  nS := h.nS
  wrR := h.wrR
  wrB := h.wrB
  wrC := h.wrC
  kept := h.kept
  pins := fun k y hk hn => by
    have e : k ≠ o' := fun e => by rw [e, hp] at hk; cases hk
    exact h.pins k y (by simp only [Cx.pinned, if_neg e]; exact hk) hn
  tms := h.tms
  nt := h.nt
  dfs := h.dfs
  xl := h.xl
  xS := h.xS
  xF := h.xF
  xW := h.xW
  s0S := h.s0S
  sZ := h.sZ

theorem Rep.retm (h : Rep P C X st a w gh) {tm : List (Nat × V)} {ob1 : List (Nat × Ob)} (hob : ∀ k, look ob1 k = look st.ob k) (ht : ∀ t, VR P w gh ob1 ((look tm t).getD .dead) (a.tmps.getD t undef)) : Rep P C X ⟨st.nt, tm, ob1⟩ a w gh where
  obs := fun k b hb => h.obs k b (by rw [← hob]; exact hb)
  dis := fun k1 k2 b1 b2 q h1 h2 => h.dis k1 k2 b1 b2 q (by rw [← hob]; exact h1) (by rw [← hob]; exact h2)
  sS := h.sS
  nS := fun k b q hb => h.nS k b q (by rw [← hob]; exact hb)
  wrR := fun k e es q hb => h.wrR k e es q (by rw [← hob]; exact hb)
  wrB := fun k cs q hb => h.wrB k cs q (by rw [← hob]; exact hb)
  wrC := fun k cs j hb => h.wrC k cs j (by rw [← hob]; exact hb)
  kept := h.kept
  pins := fun k y hk hn => h.pins k y hk (by rw [← hob]; exact hn)
  tms := ht
  nt := h.nt
  dfs := h.dfs
  xl := h.xl
  xS := h.xS
  xF := fun k b q hb => h.xF k b q (by rw [← hob]; exact hb)
  xW := h.xW
  s0S := h.s0S
  sZ := h.sZ

theorem Rep.out (h : Rep P C X st a w gh) (ho : look st.ob o = some x) (hsub : subO x p = some (.row false e es)) (hp : p ≠ []) (ho' : look st.ob o' = none) (hpin : C.pin o' = none) :
    ∃ (z : Value) (gh' : Gh), Rep P (C.pinned o' z) X (st.out o p o' z) a w gh' ∧ ∀ v u, VR P w gh st.ob v u → VR P w gh' (st.out o p o' z).ob (outV o p o' v) u := by
  have hoo : o ≠ o' := fun e => by rw [e, ho'] at ho; cases ho
  obtain ⟨z, F', hn, how, hF', hbb, hback⟩ := (h.obs o x ho).part hsub hp
  have h1 := hback (.sc z) (fun _ => False) (.sc how.one) (fun _ hk => hk.elim)
  have r1 := h.turn (X' := fun k => X k ∨ F' k) ho hp hF' hbb h1 (fun _ hk => hk.elim) (fun _ hk => hk.elim) (fun k hk => ⟨hk, fun h => h⟩)
  obtain ⟨u1, u2, u3⟩ := gh.upd_self o (fun k => (gh.F o k ∧ ¬ F' k) ∨ False)
  have ho2 : look (st.swap o (setO x p (.sc z))).ob o' = none := by rw [look_swap, if_neg (fun e => hoo e.symm)]; exact ho'
  have r2 := r1.lay (o := o') (x := .row e es) (v' := z) (b := 0) (f := 0) (F := F') ho2 hpin (.row (by simpa [Gh.upd] using how)) (fun k hk => Or.inr hk)
  have r3 := r2.less (X' := X) (fun k hk => ⟨Or.inl hk, fun hk' => h.xF o x k ho hk (hF' k hk')⟩)
  have key : ∀ v u, VR P w gh st.ob v u → VR P w ((gh.upd o (gh.hv o) (gh.bb o) (gh.bo o) (fun k => (gh.F o k ∧ ¬ F' k) ∨ False)).upd o' z 0 0 F') ((o', .row e es) :: (o, setO x p (.sc z)) :: drop st.ob o) (outV o p o' v) u := fun v u hv => by
    refine hv.out ho hsub hp ho' hn rfl ?_ ?_ ?_
    · funext k; simp only [Gh.upd]; split
      · rfl
      · split <;> simp_all
    · intro k hk; simp only [Gh.upd, if_neg hk]; split <;> simp_all
    · intro k hk; simp only [Gh.upd, if_neg hk]; split <;> simp_all
  have e1 : st.out o p o' z = ⟨st.nt, mapT (outV o p o') st.tm, (o', .row e es) :: (o, setO x p (.sc z)) :: drop st.ob o⟩ := by simp only [St.out, ho, hsub]
  refine ⟨z, _, ?_, fun v u hv => by rw [e1]; exact key v u hv⟩
  rw [e1]
  have r4 := r3.retm (tm := mapT (outV o p o') st.tm) (ob1 := (o', .row e es) :: (o, setO x p (.sc z)) :: drop st.ob o) (fun k => rfl) (fun t => by
    rw [look_mapT]
    have := h.tms t
    unfold St.get at this
    cases hq : look st.tm t with
    | none => exact .dead
    | some y => rw [hq] at this; exact key _ _ this)
  exact r4.pinned (fun _ => by simp [Gh.upd])

theorem Rep.inn {z : Value} (h : Rep P (C.pinned o' z) X st a w gh) (hpin : C.pin o' = none) (hne : o ≠ o') (hp : p ≠ []) (hi : innOk st o p o' z) : ∃ gh', Rep P C X (st.inn o p o') a w gh' := by
  unfold innOk at hi
  split at hi
  case h_2 => exact hi.elim
  rename_i x e es ho ho'
  have e1 : st.inn o p o' = (st.kill o').swap o (setO x p (.row false e es)) := by simp only [St.inn, ho, ho']
  rw [e1]
  have hpz := h.pins o' (z, 0, 0) (by simp [Cx.pinned]) (by rw [ho']; simp)
  have hhv : gh.hv o' = z := congrArg Prod.fst hpz
  have h' := h.unpinned hpin
  have hrow := h'.obs o' _ ho'
  have r1 := h'.take ho'
  have hok : look (st.kill o').ob o = some x := by rw [look_kill, if_neg (fun e => hne e.symm)]; exact ho
  obtain ⟨v', F', hn, how, hF', hbb, hback⟩ := (h'.obs o x ho).part hi hp
  cases hrow with
  | row hrow =>
    have hz : v' = z ∧ ∀ k, ¬ F' k := by cases how; exact ⟨rfl, fun k hk => hk⟩
    rw [hhv] at hrow
    have h1 := hback (.row false e es) (gh.F o') (by rw [hz.1]; exact hrow) (fun k hk hk' => absurd (h'.dis o' o _ _ k ho' ho hk hk') (fun e => hne e.symm))
    have r2 := r1.turn (X' := X) hok hp hF' hbb h1 (fun k hk => Or.inr hk) (fun k hk => hz.2 k) (fun k hk => ⟨Or.inl (Or.inl hk), h'.xF o' _ k ho' hk⟩)
    exact ⟨_, r2⟩

theorem pinned3 {z : Value} (h : ∀ n, 3000 ≤ n → C.pin n = none) (ho : o' < 3000) : ∀ n, 3000 ≤ n → (C.pinned o' z).pin n = none := fun n hn => by
  have e : n ≠ o' := by omega
  simp only [Cx.pinned, if_neg e]; exact h n hn
theorem pinnedz {z : Value} (h : C.full) : (C.pinned o' z).full := h

/-- A row within an object stands by itself from here on; what leads to it is known. -/
theorem Tri.outC {c : Code} {Q : Exit → St → Prop} (o : Nat) (p : List (Nat × Nat)) (o' : Nat) {x : Ob} {e : TypeId} {es : List (List D)} (ho : look st.ob o = some x) (hsub : subO x p = some (.row false e es)) (hp : p ≠ []) (ho' : look st.ob o' = none) (hb : isPin o' = false) (hb2 : o' < 3000) (hpin : ∀ o, isPin o = false → C.pin o = none) (hz : C.full)
    (h : ∀ z C', C'.pin o' = some (z, 0, 0) → (∀ o, (isPin o || o == o') = false → C'.pin o = none) → (∀ o, 3000 ≤ o → C'.pin o = none) → C'.full → Tri P C' (st.out o p o' z) c Q) : Tri P C st c Q := fun a w gh hR => by
  have hpo := hpin o' hb
  obtain ⟨z, gh1, hr1, _⟩ := hR.out ho hsub hp ho' hpo
  exact Code.wp_mono (fun e a' w' ⟨s, g, hk, hr⟩ => ⟨s, g, hk, hr.unpinned hpo⟩) (h z (C.pinned o' z) (by simp [Cx.pinned]) (fun q hq => by
    simp only [Bool.or_eq_false_iff, beq_eq_false_iff_ne] at hq
    simp only [Cx.pinned, if_neg hq.2]; exact hpin q hq.1) (pinned3 (pin3 hpin) hb2) (pinnedz hz) a w gh1 hr1)

/-- A row within an object stands by itself from here on; what leads to it is known. -/
theorem Tri.out {c : Code} {Q : Exit → St → Prop} (o : Nat) (p : List (Nat × Nat)) (o' : Nat) {x : Ob} {e : TypeId} {es : List (List D)} (ho : look st.ob o = some x) (hsub : subO x p = some (.row false e es)) (hp : p ≠ []) (ho' : look st.ob o' = none) (hpin : C.pin o' = none)
    (h : ∀ z, Tri P (C.pinned o' z) (st.out o p o' z) c Q) : Tri P C st c Q := fun a w gh hR => by
  obtain ⟨z, gh1, hr1, _⟩ := hR.out ho hsub hp ho' hpin
  exact Code.wp_mono (fun e a' w' ⟨s, g, hk, hr⟩ => ⟨s, g, hk, hr.unpinned hpin⟩) (h z a w gh1 hr1)

theorem not_native {f : FuncId} (h : entersB P f = true) (hn : nativeB P f = true) : False := by
  unfold entersB at h
  unfold nativeB at hn
  cases hq : P.funcs[f]? with
  | none => simp [hq] at h
  | some fn =>
    simp only [hq] at h hn
    simp [Option.isNone_iff_eq_none] at hn
    simp [hn] at h

/-- A call that works in a row within an object. -/
theorem aCall_nest {K : St → Prop} {f : FuncId} {vs : List V} {d : Option Nat} (o : Nat) (p : List (Nat × Nat)) (o' : Nat) {x : Ob} {e : TypeId} {es : List (List D)} (ho : look st.ob o = some x) (hsub : subO x p = some (.row false e es)) (hp : p ≠ []) (hne : o ≠ o') (ho' : look st.ob o' = none) (hpin : C.pin o' = none)
    (h : ∀ z, aCallB (b := ⟨fun st2 => innOk st2 o p o' z ∧ ev (b := ⟨K⟩) (st2.inn o p o')⟩) P (C.pinned o' z) (st.out o p o' z) f (outL o p o' vs) d) : aCallB (b := ⟨K⟩) P C st f vs d := by
  by_cases hen : entersB P f = true
  · refine Or.inl ⟨hen, fun a w gh us hr hus hv hd => ?_⟩
    obtain ⟨z, gh1, hr1, hv1⟩ := hr.out ho hsub hp ho' hpin
    have hnt : (st.out o p o' z).nt = st.nt := by simp only [St.out, ho, hsub]
    have hvv : ∀ (i : Nat) (v : V), (outL o p o' vs)[i]? = some v → VR P w gh1 (st.out o p o' z).ob v (us.getD i undef) := fun i v hi => by
      rw [outL_get] at hi
      obtain ⟨v0, hv0, rfl⟩ := Option.map_eq_some_iff.1 hi
      exact hv1 _ _ (hv i v0 hv0)
    rcases h z with ⟨_, hh⟩ | ⟨hn, _⟩
    · refine (hh a w gh1 us hr1 (by rw [outL_length]; exact hus) hvv (fun k hk => by rw [hnt]; exact hd k hk)).mono (fun e' w' hh => ?_)
      obtain ⟨v, rfl, st2, gh2, ⟨hi, hk⟩, hr2⟩ := hh
      obtain ⟨gh3, hr3⟩ := hr2.inn hpin hne hp hi
      exact ⟨v, rfl, _, gh3, hk, hr3⟩
    · exact (not_native hen hn).elim
  · have hnat : nativeB P f = true := by
      rcases h undef with ⟨hn, _⟩ | ⟨hn, _⟩
      · exact (hen hn).elim
      · exact hn
    refine Or.inr ⟨hnat, fun a w gh us hr hus hv hd => ?_⟩
    obtain ⟨z, gh1, hr1, hv1⟩ := hr.out ho hsub hp ho' hpin
    have hnt : (st.out o p o' z).nt = st.nt := by simp only [St.out, ho, hsub]
    have hvv : ∀ (i : Nat) (v : V), (outL o p o' vs)[i]? = some v → VR P w gh1 (st.out o p o' z).ob v (us.getD i undef) := fun i v hi => by
      rw [outL_get] at hi
      obtain ⟨v0, hv0, rfl⟩ := Option.map_eq_some_iff.1 hi
      exact hv1 _ _ (hv i v0 hv0)
    rcases h z with ⟨hn, _⟩ | ⟨_, hh⟩
    · exact (hen hn).elim
    · obtain ⟨v, hrun, st2, gh2, ⟨hi, hk⟩, hr2⟩ := hh a w gh1 us hr1 (by rw [outL_length]; exact hus) hvv (fun k hk => by rw [hnt]; exact hd k hk)
      obtain ⟨gh3, hr3⟩ := hr2.inn hpin hne hp hi
      exact ⟨v, hrun, _, gh3, hk, hr3⟩

/-- .. that is not looked at any more. -/
theorem aCall_part {K : St → Prop} {f : FuncId} {vs : List V} {d : Option Nat} (o : Nat) (p : List (Nat × Nat)) (o' : Nat) {x : Ob} {e : TypeId} {es : List (List D)} (ho : look st.ob o = some x) (hsub : subO x p = some (.row false e es)) (hp : p ≠ []) (ho' : look st.ob o' = none) (hpin : C.pin o' = none)
    (h : ∀ z, aCallB (b := ⟨K⟩) P (C.pinned o' z) (st.out o p o' z) f (outL o p o' vs) d) : aCallB (b := ⟨K⟩) P C st f vs d := by
  by_cases hen : entersB P f = true
  · refine Or.inl ⟨hen, fun a w gh us hr hus hv hd => ?_⟩
    obtain ⟨z, gh1, hr1, hv1⟩ := hr.out ho hsub hp ho' hpin
    have hnt : (st.out o p o' z).nt = st.nt := by simp only [St.out, ho, hsub]
    have hvv : ∀ (i : Nat) (v : V), (outL o p o' vs)[i]? = some v → VR P w gh1 (st.out o p o' z).ob v (us.getD i undef) := fun i v hi => by
      rw [outL_get] at hi
      obtain ⟨v0, hv0, rfl⟩ := Option.map_eq_some_iff.1 hi
      exact hv1 _ _ (hv i v0 hv0)
    rcases h z with ⟨_, hh⟩ | ⟨hn, _⟩
    · refine (hh a w gh1 us hr1 (by rw [outL_length]; exact hus) hvv (fun k hk => by rw [hnt]; exact hd k hk)).mono (fun e' w' hh => ?_)
      obtain ⟨v, rfl, st2, gh2, hk, hr2⟩ := hh
      exact ⟨v, rfl, st2, gh2, hk, hr2.unpinned hpin⟩
    · exact (not_native hen hn).elim
  · have hnat : nativeB P f = true := by
      rcases h undef with ⟨hn, _⟩ | ⟨hn, _⟩
      · exact (hen hn).elim
      · exact hn
    refine Or.inr ⟨hnat, fun a w gh us hr hus hv hd => ?_⟩
    obtain ⟨z, gh1, hr1, hv1⟩ := hr.out ho hsub hp ho' hpin
    have hnt : (st.out o p o' z).nt = st.nt := by simp only [St.out, ho, hsub]
    have hvv : ∀ (i : Nat) (v : V), (outL o p o' vs)[i]? = some v → VR P w gh1 (st.out o p o' z).ob v (us.getD i undef) := fun i v hi => by
      rw [outL_get] at hi
      obtain ⟨v0, hv0, rfl⟩ := Option.map_eq_some_iff.1 hi
      exact hv1 _ _ (hv i v0 hv0)
    rcases h z with ⟨hn, _⟩ | ⟨_, hh⟩
    · exact (hen hn).elim
    · obtain ⟨v, hrun, st2, gh2, hk, hr2⟩ := hh a w gh1 us hr1 (by rw [outL_length]; exact hus) hvv (fun k hk => by rw [hnt]; exact hd k hk)
      exact ⟨v, hrun, st2, gh2, hk, hr2.unpinned hpin⟩
end
end Go.Proofs.Ytldniggehdpheaa.AW

namespace Go.Proofs.Ytldniggehdpheaa.AW
open Go.RowKit
set_option linter.unusedSimpArgs false
set_option linter.unusedVariables false

/-- Cells as they are looked at. -/
def RoL (P : Program) (w : World) (ds : List D) (cs : List Value) : Prop := cs.length = ds.length ∧ ∀ j d, ds[j]? = some d → Ro P w (fun k => k < w.heap.size) d (cs.getD j undef)

/-- A type's reading opens into data. -/
structure Opens {α : Type} (P : Program) (t : TypeId) (f : α → List D) (ok : α → Prop) : Prop where
  sz : ∀ a, (f a).length = P.cellsOf t
  out : ∀ {H : Type} {enc : TypeId × Value → H} {w : World} {base : Nat} {spare : Nat → Bool} {held : Bool} {fuel : Nat} {cs : List Value} {x : DataW H × List MemPlace},
    DataW.trod enc P w base spare held fuel t cs = some x → (∀ n ∈ x.1.weights P t, n ≤ reachBytes) → ∃ a : α, RoL P w (f a) cs ∧ ok a

theorem roL_one {P : Program} {w : World} {v : Value} (h : v.oneCell' = true) : RoL P w [.sc v] [v] := by
  refine ⟨rfl, fun j d hd => ?_⟩
  cases j with
  | zero => simp at hd; subst hd; exact .sc h
  | succ j => simp at hd

theorem opens_int {P : Program} {t : TypeId} {k : IntKind} (ht : P.underlying t = some (.int k)) (hc : P.cellsOf t = 1) : Opens P t (fun n : Int => [D.sc (.int k n)]) (fun n => (Lit.int k n).wf = true) where
  sz := fun _ => hc.symm
  out := by
    intro H enc w base spare held fuel cs x h _
    cases fuel with
    | zero => simp [DataW.trod] at h
    | succ n =>
      unfold DataW.trod at h
      rw [ht] at h
      split at h <;> try (first | contradiction | (rename_i h1; cases h1))
      split at h
      · rename_i hh
        obtain ⟨rfl, hw⟩ := hh
        exact ⟨_, roL_one rfl, hw⟩
      · cases h

theorem opens_bool {P : Program} {t : TypeId} (ht : P.underlying t = some .bool) (hc : P.cellsOf t = 1) : Opens P t (fun b : Bool => [D.sc (.bool b)]) (fun _ => True) where
  sz := fun _ => hc.symm
  out := by
    intro H enc w base spare held fuel cs x h _
    cases fuel with
    | zero => simp [DataW.trod] at h
    | succ n =>
      unfold DataW.trod at h
      rw [ht] at h
      split at h <;> try (first | contradiction | (rename_i h1; cases h1))
      exact ⟨_, roL_one rfl, trivial⟩

theorem opens_string {P : Program} {t : TypeId} (ht : P.underlying t = some .string) (hc : P.cellsOf t = 1) : Opens P t (fun s : ByteArray => [D.sc (.string s)]) (fun s => s.size ≤ 140737488351232) where
  sz := fun _ => hc.symm
  out := by
    intro H enc w base spare held fuel cs x h hw
    cases fuel with
    | zero => simp [DataW.trod] at h
    | succ n =>
      unfold DataW.trod at h
      rw [ht] at h
      split at h <;> try (first | contradiction | (rename_i h1; cases h1))
      split at h
      · cases h
        refine ⟨_, roL_one rfl, ?_⟩
        have := hw _ (by simp only [DataW.weights, List.mem_singleton]; rfl)
        simpa [reachBytes] using this
      · cases h

theorem weightsAll_mem {H : Type} {P : Program} {e : TypeId} : ∀ {l : List (DataW H)} {d : DataW H}, d ∈ l → ∀ n ∈ d.weights P e, n ∈ DataW.weightsAll P e l
  | [], _, h, _, _ => by simp at h
  | a :: l, d, h, n, hn => by
    simp only [DataW.weightsAll, List.mem_append]
    rcases List.mem_cons.1 h with rfl | h
    · exact Or.inl hn
    · exact Or.inr (weightsAll_mem h n hn)

theorem list_of {α : Type} {n : Nat} {p : Nat → α → Prop} (h : ∀ i, i < n → ∃ x, p i x) : ∃ l : List α, l.length = n ∧ ∀ i x, l[i]? = some x → p i x := by
  induction n with
  | zero => exact ⟨[], rfl, fun i x hx => by simp at hx⟩
  | succ n ih =>
    obtain ⟨l, hl, hp⟩ := ih (fun i hi => h i (Nat.lt_succ_of_lt hi))
    obtain ⟨y, hy⟩ := h n (Nat.lt_succ_self n)
    refine ⟨l ++ [y], by simp [hl], fun i x hx => ?_⟩
    by_cases hi : i < l.length
    · rw [List.getElem?_append_left hi] at hx
      exact hp i x hx
    · rw [List.getElem?_append_right (by omega)] at hx
      have : i = n := by
        by_cases h0 : i - l.length = 0
        · omega
        · rw [List.getElem?_eq_none (by simp; omega)] at hx; cases hx
      subst this
      rw [hl, Nat.sub_self] at hx
      cases hx
      exact hy

theorem cell_spot {w : World} {a : Addr} {v : Value} (h : w.cell? a = some v) : a.spot = none ∧ a.block < w.heap.size := by
  refine ⟨?_, World.block_lt_of_cell? w _ h⟩
  unfold World.cell? at h
  split at h
  · by_cases hs : a.spot.isSome = true
    · rw [if_pos hs] at h; cases h
    · cases hq : a.spot with
      | none => rfl
      | some y => rw [hq] at hs; simp at hs
  · cases h

theorem opens_slice {α : Type} {P : Program} {t e : TypeId} {f : α → List D} {ok : α → Prop} (ht : P.underlying t = some (.slice e)) (hc : P.cellsOf t = 1) (he : 0 < P.cellsOf e) (O : Opens P e f ok) :
    Opens P t (fun l : List α => [D.row true e (l.map f)]) (fun l => l.length * P.bytesOf e ≤ 140737488351232 ∧ ∀ x ∈ l, ok x) where
  sz := fun _ => hc.symm
  out := by
    intro H enc w base spare held fuel cs x h hw
    rcases DataW.trod_slice ht h with ⟨rfl, rfl⟩ | ⟨a, len, cap, elems, rest, n, rfl, rfl, rfl, hb, hl, hm, hlen, hel, hsp, hns⟩
    · refine ⟨[], ⟨rfl, fun j d hd => ?_⟩, by simp, by simp⟩
      cases j with
      | zero => simp at hd; subst hd; exact ro_empty
      | succ j => simp at hd
    · have step : ∀ i, i < len → ∃ y, ∃ c, w.cells? base (a.add (i * P.cellsOf e)) (P.cellsOf e) = some c ∧ RoL P w (f y) c ∧ ok y := by
        intro i hi
        have h1 := hel i hi
        rw [List.getElem?_eq_getElem (by omega)] at h1
        obtain ⟨c, hc1, hc2⟩ := Option.bind_eq_some_iff.1 h1
        obtain ⟨y, hy, hok⟩ := O.out hc2 (fun n hn => hw n (by
          simp only [DataW.weights, ht, List.mem_cons, List.mem_append]
          exact Or.inr (Or.inl (weightsAll_mem (List.mem_map.2 ⟨_, List.getElem_mem _, rfl⟩) n hn))))
        exact ⟨y, c, hc1, hy, hok⟩
      obtain ⟨l, hll, hp⟩ := list_of step
      have hln : (l.map f).length = len := by simp [hll]
      have hspot : 0 < l.length → a.spot = none ∧ a.block < w.heap.size := fun hl0 => by
        obtain ⟨c, hc1, _, _⟩ := hp 0 _ (List.getElem?_eq_getElem hl0)
        obtain ⟨_, hcl, hcc⟩ := World.cells?_some hc1
        have h2 := hcc 0 he
        rw [List.getElem?_eq_getElem (by omega)] at h2
        have e1 : (a.add (0 * P.cellsOf e)).add 0 = a := by simp [Addr.add]
        rw [e1] at h2
        exact cell_spot h2
      have hadd : a.spot = none → ∀ n, a.add n = ⟨a.block, a.off + n, none⟩ := fun hs n => by
        unfold Addr.add
        split
        · rename_i h0; subst h0; rw [← hs]; rfl
        · rfl
      have hcell : ∀ i j d, cellAt (l.map f) i j = some d → ∃ u, w.cell? ⟨a.block, a.off + (i * szT P e + j), none⟩ = some u ∧ Ro P w (fun k => k < w.heap.size) d u := by
        intro i j d hd
        have hi := cellAt_lt hd
        unfold cellAt at hd
        simp only [List.getElem?_map, Option.bind_eq_some_iff, Option.map_eq_some_iff] at hd
        obtain ⟨_, ⟨y, hy, rfl⟩, hd⟩ := hd
        obtain ⟨c, hc1, hc2, _⟩ := hp i y hy
        obtain ⟨_, hcl, hcc⟩ := World.cells?_some hc1
        have hj : j < P.cellsOf e := by rw [← O.sz y]; exact (List.getElem?_eq_some_iff.1 hd).1
        have h2 := hcc j hj
        rw [Deep.add_add, hadd (hspot (by simp at hi; omega)).1] at h2
        have hjc : j < c.length := by omega
        refine ⟨c.getD j undef, ?_, hc2.2 j d hd⟩
        have e1 : szT P e = P.cellsOf e := rfl
        rw [e1, h2]; exact getD_of_lt hjc
      refine ⟨l, ⟨rfl, fun j d hd => ?_⟩, ?_, ?_⟩
      · cases j with
        | succ j => simp at hd
        | zero =>
          simp at hd; subst hd
          show Ro P w _ _ (Value.slice (some a) len cap)
          have key : Ro P w (fun k => k < w.heap.size) (.row true e (l.map f)) (.slice (some a) (l.map f).length cap) := by
            refine .row (fun i j => (w.cell? ⟨a.block, a.off + (i * szT P e + j), none⟩).getD undef) (by omega) hm (fun x hx => ?_) (fun h0 => ?_) (fun i j d hd => ?_)
            · obtain ⟨y, _, rfl⟩ := List.mem_map.1 hx
              exact O.sz y
            · obtain ⟨s1, s2⟩ := hspot (by simpa using h0)
              refine ⟨a, rfl, s1, s2, fun i j d hd => ?_⟩
              obtain ⟨u, hu, _⟩ := hcell i j d hd
              rw [hu]; rfl
            · obtain ⟨u, hu, hr⟩ := hcell i j d hd
              rw [hu]; exact hr
          rw [hln] at key
          exact key
      · have := hw _ (by simp only [DataW.weights, ht, List.mem_cons]; exact Or.inl rfl)
        simp only [List.length_map, hlen] at this
        rw [hll]
        have h2 : len * P.bytesOf e ≤ (len + rest.length) * P.bytesOf e := Nat.mul_le_mul_right _ (by omega)
        unfold reachBytes at this
        omega
      · intro x hx
        obtain ⟨i, hi, rfl⟩ := List.getElem_of_mem hx
        obtain ⟨c, _, _, hok⟩ := hp i _ (List.getElem?_eq_getElem hi)
        exact hok

/-- The fields of a struct from one on, in a row. -/
structure OpensF {α : Type} (P : Program) (fs : List Field) (off : Nat) (f : α → List D) (ok : α → Prop) : Prop where
  sz : ∀ a, (f a).length = (fs.map fun f => P.cellsOf f.type).sum
  out : ∀ {H : Type} {enc : TypeId × Value → H} {w : World} {base : Nat} {spare : Nat → Bool} {held : Bool} {fuel : Nat} {cs : List Value} {xs : List (DataW H × List MemPlace)},
    cs.length = off + (fs.map fun f => P.cellsOf f.type).sum → xs.length = fs.length →
    (∀ (i : Nat) (f : Field), fs[i]? = some f → DataW.trod enc P w base spare held fuel f.type ((cs.drop f.offset).take (P.cellsOf f.type)) = xs[i]?) →
    (∀ n ∈ DataW.weightsEach P (fs.map (·.type)) (xs.map (·.1)), n ≤ reachBytes) → ∃ a : α, RoL P w (f a) (cs.drop off) ∧ ok a

theorem opensF_one {α : Type} {P : Program} {fd : Field} {off : Nat} {f : α → List D} {ok : α → Prop} (ho : fd.offset = off) (O : Opens P fd.type f ok) : OpensF P [fd] off f ok where
  sz := fun a => by simp [O.sz]
  out := by
    intro H enc w base spare held fuel cs xs hl hx h hw
    have h0 := h 0 fd rfl
    obtain ⟨x, rfl⟩ : ∃ x, xs = [x] := by
      match xs, hx with
      | [x], _ => exact ⟨x, rfl⟩
    rw [ho, List.take_of_length_le (by simp at hl ⊢; omega)] at h0
    exact O.out h0 (fun n hn => hw n (by simpa [DataW.weightsEach] using hn))

theorem roL_append {P : Program} {w : World} {ds ds' : List D} {cs cs' : List Value} (h : RoL P w ds cs) (h' : RoL P w ds' cs') : RoL P w (ds ++ ds') (cs ++ cs') := by
  refine ⟨by simp [h.1, h'.1], fun j d hd => ?_⟩
  by_cases hj : j < ds.length
  · rw [List.getElem?_append_left hj] at hd
    have := h.2 j d hd
    have e : (cs ++ cs').getD j undef = cs.getD j undef := by simp [List.getD, List.getElem?_append_left (show j < cs.length by rw [h.1]; exact hj)]
    rw [e]; exact this
  · rw [List.getElem?_append_right (by omega)] at hd
    have := h'.2 _ d hd
    have e : (cs ++ cs').getD j undef = cs'.getD (j - ds.length) undef := by simp [List.getD, List.getElem?_append_right (show cs.length ≤ j by rw [h.1]; omega), h.1]
    rw [e]; exact this

theorem opensF_cons {α β : Type} {P : Program} {fd g : Field} {fs : List Field} {off : Nat} {f : α → List D} {f' : β → List D} {ok : α → Prop} {ok' : β → Prop} (ho : fd.offset = off) (O : Opens P fd.type f ok)
    (OF : OpensF P (g :: fs) (off + P.cellsOf fd.type) f' ok') : OpensF P (fd :: g :: fs) off (fun x : α × β => f x.1 ++ f' x.2) (fun x => ok x.1 ∧ ok' x.2) where
  sz := fun x => by
    rw [List.length_append, O.sz, OF.sz]; simp
  out := by
    intro H enc w base spare held fuel cs xs hl hx h hw
    obtain ⟨x, ys, rfl⟩ : ∃ x ys, xs = x :: ys := by
      match xs, hx with
      | x :: ys, _ => exact ⟨x, ys, rfl⟩
    have h0 := h 0 fd rfl
    rw [ho] at h0
    obtain ⟨a, ha, oka⟩ := O.out h0 (fun n hn => hw n (by
      simp only [List.map_cons, DataW.weightsEach, List.mem_append]
      exact Or.inl hn))
    obtain ⟨b, hb, okb⟩ := OF.out (xs := ys) (cs := cs) (by simp only [List.map_cons, List.sum_cons] at hl ⊢; omega) (by simpa using hx) (fun i f' hf => h (i + 1) f' hf) (fun n hn => hw n (by
      simp only [List.map_cons, DataW.weightsEach, List.mem_append] at hn ⊢
      exact Or.inr hn))
    refine ⟨(a, b), ?_, oka, okb⟩
    have := roL_append ha hb
    rwa [← List.drop_drop, List.take_append_drop] at this

theorem opens_struct {α : Type} {P : Program} {t : TypeId} {fs : Array Field} {f : α → List D} {ok : α → Prop} (ht : P.underlying t = some (.struct fs))
    (hs : P.cellsOf t = (fs.toList.map fun f => P.cellsOf f.type).sum) (O : OpensF P fs.toList 0 f ok) : Opens P t f ok where
  sz := fun a => by rw [O.sz, hs]
  out := by
    intro H enc w base spare held fuel cs x h hw
    obtain ⟨xs, n, rfl, rfl, hl, hx, hf⟩ := DataW.trod_struct ht h
    obtain ⟨a, ha, hok⟩ := O.out (cs := cs) (xs := xs) (by rw [hl, hs]; omega) (by simpa using hx) (fun i f hi => hf i f (by simpa using hi)) (fun n hn => hw n (by
      simp only [DataW.weights, ht]
      exact hn))
    exact ⟨a, by simpa using ha, hok⟩

/-- A Lean structure by its fields. -/
theorem opens_iso {α β : Type} {P : Program} {t : TypeId} {d : α → List D} {d' : β → List D} {ok : α → Prop} (f : β → α) (g : α → β) (hfg : ∀ a, f (g a) = a) (hd : ∀ b, d' b = d (f b)) (O : Opens P t d ok) : Opens P t d' (fun x => ok (f x)) where
  sz := fun b => by rw [hd]; exact O.sz _
  out := by
    intro H enc w base spare held fuel cs x h hw
    obtain ⟨a, ha, hok⟩ := O.out h hw
    exact ⟨g a, by rw [hd, hfg]; exact ha, by show ok (f (g a)); rw [hfg]; exact hok⟩

/-- What is known of a whole argument. -/
theorem opens_arg {α H : Type} {enc : TypeId × Value → H} {P : Program} {t : TypeId} {f : α → List D} {ok : α → Prop} (O : Opens P t f ok) {w : World} {base : Nat} {spare : Nat → Bool} {held : Bool} {v : Value} {dd : DataW H} {ps : List MemPlace}
    (h : DataW.Trod enc P w base spare held t v dd ps) (hw : ∀ n ∈ dd.weights P t, n ≤ reachBytes) : ∃ a : α, RoL P w (f a) v.cells.toList ∧ ok a := by
  obtain ⟨fuel, h⟩ := h
  exact O.out h hw

theorem weights_of_each {H : Type} {P : Program} {ts : List TypeId} {ds : List (DataW H)} (h : (DataW.weightsEach P ts ds).all (· ≤ reachBytes) = true) {j : Nat} {t : TypeId} {d : DataW H} (ht : ts[j]? = some t) (hd : ds[j]? = some d) : ∀ n ∈ d.weights P t, n ≤ reachBytes := by
  intro n hn
  have := List.all_eq_true.1 h n (DataW.weights_mem_each ht hd n hn)
  simpa using this

/-- What lies in memory as the call begins. -/
def gh0 (w : World) : Gh := ⟨fun k => k < w.heap.size, fun _ => undef, fun _ => 0, fun _ => 0, fun _ _ => False⟩

def toVD : D → V
  | .sc v => .sc v
  | .row _ e es => .imm e es
  | .dead => .dead

theorem ro_VR {P : Program} {w : World} {d : D} {u : Value} (h : Ro P w (fun k => k < w.heap.size) d u) (hd : shD d = d) : VR P w (gh0 w) [] (toVD d) u := by
  cases h with
  | dead h => exact .dead
  | sc h => exact .sc h
  | row U hl hm hsz hA hU =>
    simp only [shD, D.row.injEq, true_and] at hd
    refine .imm ?_
    rename_i sh e es A c
    have hs : true = sh := hd.1
    subst hs
    exact .row U hl hm hsz hA hU

/-- An argument of struct type. -/
theorem arg_agg {P : Program} {w : World} {r : Reach} {base : Nat} {t : TypeId} {v : Value} {fs : Array Field} {ds : List D} (ht : P.underlying t = some (.struct fs)) (hv : Value.okWide P w r base t v) (h : RoL P w ds v.cells.toList) (hsh : ∀ d ∈ ds, shD d = d) :
    VR P w (gh0 w) [] (.agg (ds.map toVD)) v := by
  unfold Value.okWide at hv
  rw [ht] at hv
  obtain ⟨c, rfl, _, _⟩ := hv
  obtain ⟨h1, h2⟩ := h
  simp only [Value.cells] at h1 h2
  refine .agg (by rw [List.length_map, ← h1]; simp) (fun u hu => ?_) (fun i x hx => ?_)
  · obtain ⟨i, hi, rfl⟩ := Array.getElem_of_mem hu
    have hd : i < ds.length := by rw [← h1]; simpa using hi
    have := (h2 i _ (List.getElem?_eq_getElem hd)).one
    simpa [List.getD, hi] using this
  · rw [List.getElem?_map, Option.map_eq_some_iff] at hx
    obtain ⟨d, hd, rfl⟩ := hx
    have := ro_VR (h2 i d hd) (hsh d (List.mem_of_getElem? hd))
    rwa [agetD] at this

/-- An argument of one cell. -/
theorem arg_one {P : Program} {w : World} {v : Value} {d : D} (h : RoL P w [d] v.cells.toList) (hne : ∀ cs, v ≠ .agg cs) (hsh : shD d = d) : VR P w (gh0 w) [] (toVD d) v := by
  have h2 := h.2 0 d rfl
  have : v.cells.toList.getD 0 undef = v := by
    unfold Value.cells
    split
    · exact absurd rfl (hne _)
    · rfl
  rw [this] at h2
  exact ro_VR h2 hsh

theorem not_agg {P : Program} {w : World} {r : Reach} {base : Nat} {t : TypeId} {v : Value} {d : TypeDesc} (ht : P.underlying t = some d) (hd : d = .string ∨ d = .bool ∨ (∃ k, d = .int k) ∨ ∃ e, d = .slice e) (hv : Value.okWide P w r base t v) : ∀ cs, v ≠ .agg cs := by
  intro cs h
  subst h
  unfold Value.okWide at hv
  rw [ht] at hv
  rcases hd with rfl | rfl | ⟨k, rfl⟩ | ⟨e, rfl⟩
  all_goals
    unfold Cell.okWide at hv
    simp [ht, Cell.ok] at hv

theorem argsV_ro (ts : List V) : ∀ k, argsV k (ts.map Arg.ro) = ts := by
  induction ts with
  | nil => intro k; rfl
  | cons t r ih => intro k; simp only [List.map_cons, argsV, ih]
theorem argsOb_ro (ts : List V) : ∀ k, argsOb k (ts.map Arg.ro) = [] := by
  induction ts with
  | nil => intro k; rfl
  | cons t r ih => intro k; simp only [List.map_cons, argsOb, ih]

/-- A statement's function answers true, and turns nothing that was there. -/
theorem calls_of_sound {P : Program} {f : FuncId} {ts : List V} (hs : Sound P f (ts.map .ro) (fun rs _ => rs = [(false, [cB true])])) {w : World} {us : Array Value} (hlen : us.size = ts.length) (hv : ∀ i t, ts[i]? = some t → VR P w (gh0 w) [] t (us.getD i undef)) :
    Calls P f us w (fun e w' => e = .returned (.bool true) ∧ w.keptBut w' (fun _ => False)) := by
  let C : Cx := ⟨w, fun k => k < w.heap.size, fun _ _ => False, fun o => if isPin o = true then some (undef, 0, 0) else none, fun _ => True⟩
  have hrep : Rep P C No ⟨us.size, zipT 0 (argsV 0 (ts.map Arg.ro)), argsOb 0 (ts.map Arg.ro)⟩ ⟨us, []⟩ w (gh0 w) := by
    rw [argsV_ro, argsOb_ro]
    exact {
      obs := fun o b h => by cases h
      dis := fun o o' b b' k h => by cases h
      sS := fun k h => h
      nS := fun o b k h => by cases h
      wrR := fun o e es k h => by cases h
      wrB := fun o cs k h => by cases h
      wrC := fun o cs j h => by cases h
      kept := World.keptBut_refl w _
      pins := fun o x _ h => absurd rfl h
      tms := fun t => by
        unfold St.get
        simp only [look_zipT, Nat.zero_le, if_true, Nat.sub_zero]
        cases hq : ts[t]? with
        | none => exact .dead
        | some v => exact hv t v hq
      nt := Nat.le_refl _
      dfs := rfl
      xl := fun k h => h.elim
      xS := fun k h => h.elim
      xF := fun o b k h => by cases h
      xW := fun k h => h.elim
      s0S := fun k h => h
      sZ := fun k h => trivial }
  refine (hs.2 (fun _ => undef) (fun _ => (0, 0)) C w (gh0 w) us rfl (fun o ho => by simp [C, ho]) (fun o ho => by simp [C, ho]) (fun k _ => trivial) (by rw [argsV_ro]; exact hlen) hrep).mono (fun e w' hh => ?_)
  obtain ⟨vs, rs, st', a', gh', G, rfl, rfl, hres, hr⟩ := hh
  refine ⟨?_, ?_⟩
  · obtain ⟨v, rfl⟩ : ∃ v, vs = [v] := by
      have := hres.len
      match vs, this with
      | [v], _ => exact ⟨v, rfl⟩
    have h1 := hres.one 0 _ v rfl rfl rfl
    have h2 := hres.ow 0 _ v 0 _ rfl rfl rfl
    rw [cells_one h1] at h2
    have h3 : v = .bool true := by
      have : (#[v] : Array Value).toList.getD 0 undef = v := rfl
      rw [this] at h2
      generalize G 0 0 = F at h2
      cases h2; rfl
    rw [h3]; rfl
  · have hk := hr.kept
    have e : (fun p : MemPlace => ∃ b f, p = .cell b f ∧ C.may b f) = fun _ => False := by
      funext p
      exact propext ⟨fun ⟨b, f, _, h⟩ => h, fun h => h.elim⟩
    rw [e] at hk
    exact hk

/-- What was there reads as it did. -/
theorem kept_trod {H : Type} {enc : TypeId × Value → H} {P : Program} {t : TypeId} (hl : laidOutB P = true) (hr : P.readableRec t = true) (hrow : t < P.types.size) {W W' : World} {v : Value} {d : DataW H} {ps : List MemPlace}
    (h : DataW.Trod enc P W 0 (fun _ => true) true t v d ps) (hb : W.keptBut W' (fun _ => False)) (hlt : ∀ x ∈ ps, x.block < W.heap.size) :
    DataW.Trod enc P W' 0 (fun b => decide (b < W.heap.size)) true t v d ps :=
  WideElems.Trod_stays hl hr hrow h (fun x hx => by
    have := keptBut_heap hb (hlt x hx) (fun _ h => h) (fun h => h)
    cases x with
    | cell b o => exact World.cell?_of_block (w := W) this
    | map b => exact this) (fun x hx => by simpa using hlt x hx)

theorem kept_any {W W' : World} (h : W.keptBut W' (fun _ => False)) (may : MemPlace → Prop) : W.keptBut W' may := by
  refine ⟨h.1, h.2.1, fun i hi => ?_⟩
  have := keptBut_heap h hi (fun _ h => h) (fun h => h)
  rw [this]
  split <;> simp_all
end Go.Proofs.Ytldniggehdpheaa.AW

namespace Go.Proofs.Ytldniggehdpheaa.AW
open Go.RowKit

/-- Rows whose elements have several cells. -/
def rows {α : Type} (f : α → List D) (l : List α) : List (List D) := l.map f
theorem rows_length {α : Type} (f : α → List D) (l : List α) : (rows f l).length = l.length := by simp [rows]
theorem rows_get {α : Type} (f : α → List D) (l : List α) {i : Nat} (h : i < l.length) : (rows f l).getD i [] = f l[i] := by simp [rows, List.getD, h]
theorem rows_getq {α : Type} (f : α → List D) (l : List α) {i : Nat} (h : i < l.length) : (rows f l)[i]? = some (f l[i]) := by simp [rows, h]
theorem rows_cell {α : Type} (f : α → List D) (l : List α) {i : Nat} (j : Nat) (h : i < l.length) : cellAt (rows f l) i j = (f l[i])[j]? := by simp [cellAt, rows_getq f l h]
theorem rows_nil {α : Type} (f : α → List D) : rows f [] = [] := rfl
theorem rows_snoc {α : Type} (f : α → List D) (l : List α) (x : α) : rows f l ++ [f x] = rows f (l ++ [x]) := by simp [rows]
theorem rows_set {α : Type} (f : α → List D) (l : List α) (i : Nat) (x : α) : (rows f l).set i (f x) = rows f (l.set i x) := by simp [rows, List.map_set]
theorem rows_take {α : Type} (f : α → List D) (l : List α) (n : Nat) : (rows f l).take n = rows f (l.take n) := by simp [rows, List.map_take]
theorem rows_takeL {α : Type} (f : α → List D) (l : List α) : (rows f l).take l.length = rows f l := by rw [← rows_length f l, List.take_length]
def shF {α : Type} (f : α → List D) : α → List D := fun x => shL (f x)
theorem rows_sh {α : Type} (f : α → List D) (l : List α) : shLL (rows f l) = rows (shF f) l := by rw [shLL_map]; simp [rows, shF]
theorem rows_noSh {α : Type} {f : α → List D} (hf : ∀ x, noShL (f x) = true) (l : List α) : noShLL (rows f l) = true := by
  induction l with
  | nil => rfl
  | cons x r ih => simp only [rows, List.map_cons, noShLL, hf, Bool.true_and]; exact ih

/-- A row that is filled from its beginning. -/
def fillR {α : Type} (f : α → List D) (z : List D) (l : List α) (i : Nat) : List (List D) := rows f (l.take i) ++ List.replicate (l.length - i) z
theorem fillR_length {α : Type} (f : α → List D) (z : List D) (l : List α) {i : Nat} (h : i ≤ l.length) : (fillR f z l i).length = l.length := by simp [fillR, rows]; omega
theorem fillR_get {α : Type} (f : α → List D) (z : List D) (l : List α) {i : Nat} (h : i < l.length) : (fillR f z l i).getD i [] = z := by
  have e : (rows f (l.take i)).length = i := by simp [rows]; omega
  simp only [fillR, List.getD]
  rw [List.getElem?_append_right (by omega), e, Nat.sub_self, List.getElem?_replicate, if_pos (by omega)]; rfl
theorem fillR_set {α : Type} (f : α → List D) (z : List D) (l : List α) {i : Nat} (h : i < l.length) : (fillR f z l i).set i (f l[i]) = fillR f z l (i + 1) := by
  have e : (rows f (l.take i)).length = i := by simp [rows]; omega
  unfold fillR
  rw [List.set_append_right _ _ (by omega), e, Nat.sub_self]
  obtain ⟨m, hm⟩ : ∃ m, l.length - i = m + 1 := ⟨l.length - i - 1, by omega⟩
  rw [hm, List.replicate_succ, List.set_cons_zero, List.take_succ_eq_append_getElem h]
  have hm2 : l.length - (i + 1) = m := by omega
  rw [hm2]
  simp only [rows, List.map_append, List.map_cons, List.map_nil, List.append_assoc, List.cons_append, List.nil_append]
theorem fillR_zero {α : Type} (f : α → List D) (z : List D) (l : List α) : fillR f z l 0 = List.replicate l.length z := by simp [fillR, rows]
theorem fillR_end {α : Type} (f : α → List D) (z : List D) (l : List α) : fillR f z l l.length = rows f l := by simp [fillR]

/-- What is left. -/
def sub (left : Int) (c : Nat) : Int := if left - c < 0 then -1 else left - c
theorem sub_neg {left : Int} {c : Nat} (h : left - c < 0) : sub left c = -1 := by simp [sub, h]
theorem sub_pos {left : Int} {c : Nat} (h : ¬ left - c < 0) : sub left c = left - c := by simp [sub, h]
def sumN {α : Type} (f : α → Nat) (l : List α) : Nat := (l.map f).sum
theorem sumN_take {α : Type} (f : α → Nat) (l : List α) {i : Nat} (h : i < l.length) : sumN f (l.take (i + 1)) = sumN f (l.take i) + f l[i] := by
  unfold sumN
  rw [List.take_succ_eq_append_getElem h, List.map_append, List.sum_append]
  simp only [List.map_cons, List.map_nil, List.sum_cons, List.sum_nil, Nat.add_zero]
theorem sumN_le {α : Type} (f : α → Nat) (l : List α) (i : Nat) : sumN f (l.take i) ≤ sumN f l := by
  have : sumN f l = sumN f (l.take i) + sumN f (l.drop i) := by
    unfold sumN
    rw [← List.sum_append, ← List.map_append, List.take_append_drop]
  omega
theorem sumN_mem {α : Type} (f : α → Nat) {l : List α} {i : Nat} (h : i < l.length) : f l[i] ≤ sumN f l := by
  have := sumN_le f l (i + 1)
  rw [sumN_take f l h] at this; omega
theorem sumN_nil {α : Type} (f : α → Nat) (l : List α) : sumN f (l.take 0) = 0 := rfl

attribute [go_sem ↓] aSched br_true br_false aStore aAlloc aBox aBuildSlice aMake aAppend aCode aDraw aOps aOper aOp1 Exit.seq Exit.blk gOp aEff aAssign FinE Fin finV
attribute [go_sem] structQ eqV eq1 cloV cloA convQ aConv bytesD ev_eq bytes_eq row1_takeL imp_self pinAs pinRow or_true true_or or_false false_or eq_self pvOf strip outV outL St.out St.inn innOk Cx.pinned List.append_nil List.nil_append List.cons_append List.getD_cons_zero List.getD_cons_succ Nat.mul_zero okP okX lensAre sOper sOp St.frb frbV frbL St.frz frzV frzL shL shD lookInv lenIs knownIs givenIs lendsTo lendsL takeM lendAll noShR noShL noSh ioOk ioLong isPin nowIs roAll ints_sh strs_sh bools_sh ints_noSh strs_noSh bools_noSh List.take_length decide_true decide_false St.swap setO setD mapT killN killNL drop St.kill killV killL St.fresh St.put setL List.set_cons_zero List.set_cons_succ anon isAnon objNo dVn layD layL numD numR vsD rV vsR resV after St.wrote killI killIL dropI newObs ownD rowsD freeD stays List.all_cons List.all_nil List.map_cons List.map_nil List.length_append List.length_replicate pOper pOp aPure2 aPure dstOk St.ev St.get look setDst St.set constV zipT V.str V.ok argsV argsOb binV intV isSh strV boolB unV nilV fieldAddrV pickV loadV rowOf indexAddrV lenV minV indexV convV extractV fieldV tab allSome rdD cellV cellI subO subD cellAt ite_true ite_false if_true if_false true_and and_true List.getElem?_toArray Option.bind_some Option.getD_some Option.getD_none Option.isSome_some Option.map_some Option.map_none Option.some.injEq List.getElem?_cons_zero List.getElem?_cons_succ List.getElem?_nil getsOk gets getR flats flatV toDss toDs toD rvsOf rvOf Bool.and_eq_true decide_eq_true_eq List.length_cons List.length_nil reduceCtorEq false_and and_false implies_true forall_const Exit.exit.injEq Bool.true_and Bool.false_and Bool.and_true Bool.and_false beq_true beq_false Bool.not_true Bool.not_false Bool.false_eq_true Bool.true_eq_false cond_true cond_false Nat.zero_add Nat.add_zero Int.toNat_natCast true_implies false_implies beq_iff_eq okO sliceV ixV buildV fillV and_self rows_length rows_takeL rows_sh
end Go.Proofs.Ytldniggehdpheaa.AW

namespace Go.Proofs.Ytldniggehdpheaa.AW
open Go.RowKit
set_option linter.unusedSimpArgs false
set_option linter.unusedVariables false
section
variable {P : Program} {C : Cx} {st : St} {K : St → Prop} {f : FuncId} {fn : Func}

/-- A function without code, all of whose arguments are known. -/
theorem aCall_nat {e : Array Value → Sem Value} {us : List Value} {r : Value} (hf : P.funcs[f]? = some fn) (hname : (fn.name == "runtime.NumGoroutine") = false) (hb : fn.body.isNone = true) (hn : Extern.findNext fn = none) (he : Extern.find fn = some e)
    (hrun : ∀ w, (e us.toArray).run P w = .ok r w) (h1 : r.oneCell' = true) {vs : List V} {d : Option Nat} (hvs : vs = us.map .sc) (h : ev (b := ⟨K⟩) (setDst st d (.sc r))) : aCallB (b := ⟨K⟩) P C st f vs d := by
  refine Or.inr ⟨by unfold nativeB; rw [hf]; exact hb, fun a w gh ws hr hws hv hd => ?_⟩
  subst hvs
  have ews : ws = us.toArray := by
    have hsz : ws.size = us.length := by simpa using hws
    apply Array.ext (by simpa using hsz)
    intro i h1' h2'
    have hi : i < us.length := by simpa using h2'
    have := (hv i (.sc us[i]) (by simp [hi])).sc_inv
    simpa [Array.getD, h1'] using this
  refine ⟨r, ?_, _, gh, h, hr.dst hd (.sc h1)⟩
  rw [run_callFunc_extern hf hname hb hn he, ews, hrun]; rfl
end

/-- The parts of a text between bytes of one kind. -/
def splitL : List UInt8 → UInt8 → List (List UInt8)
  | [], _ => [[]]
  | b :: l, c => if b == c then [] :: splitL l c else match splitL l c with
    | h :: t => (b :: h) :: t
    | [] => [[b]]

theorem splitL_ne (l : List UInt8) (c : UInt8) : splitL l c ≠ [] := by
  cases l with
  | nil => simp [splitL]
  | cons b l =>
    unfold splitL
    split
    · simp
    · split <;> simp

theorem splitL_none {l : List UInt8} {c : UInt8} (h : Lib.indexByte l c = -1) : splitL l c = [l] := by
  induction l with
  | nil => rfl
  | cons b l ih =>
    unfold Lib.indexByte at h
    by_cases hb : (b == c) = true
    · rw [if_pos hb] at h; cases h
    · rw [if_neg hb] at h
      by_cases hl : (Lib.indexByte l c == -1) = true
      · have := ih (by simpa using hl)
        unfold splitL
        rw [if_neg hb, this]
      · rw [if_neg hl] at h
        have := Lib.indexByte_ge l c
        have hl' : Lib.indexByte l c ≠ -1 := by simpa using hl
        omega

theorem splitL_some {l : List UInt8} {c : UInt8} (h : 0 ≤ Lib.indexByte l c) : (Lib.indexByte l c).toNat < l.length ∧ splitL l c = l.take (Lib.indexByte l c).toNat :: splitL (l.drop ((Lib.indexByte l c).toNat + 1)) c ∧ l.count c = (l.drop ((Lib.indexByte l c).toNat + 1)).count c + 1 := by
  induction l with
  | nil => simp [Lib.indexByte] at h
  | cons b l ih =>
    unfold Lib.indexByte at h ⊢
    by_cases hb : (b == c) = true
    · rw [if_pos hb]
      refine ⟨by simp, ?_, ?_⟩
      · conv => lhs; unfold splitL
        rw [if_pos hb]
        simp
      · simp [List.count_cons, hb]
    · rw [if_neg hb] at h ⊢
      by_cases hl : (Lib.indexByte l c == -1) = true
      · rw [if_pos hl] at h; omega
      · rw [if_neg hl] at h ⊢
        have h0 : 0 ≤ Lib.indexByte l c := by
          have := Lib.indexByte_ge l c
          have hl' : Lib.indexByte l c ≠ -1 := by simpa using hl
          omega
        obtain ⟨h1, h2, h3⟩ := ih h0
        have e : (Lib.indexByte l c + 1).toNat = (Lib.indexByte l c).toNat + 1 := by omega
        rw [e]
        refine ⟨by simpa using h1, ?_, ?_⟩
        · conv => lhs; unfold splitL
          rw [if_neg hb, h2]
          simp
        · simp only [List.count_cons, List.drop_succ_cons]
          rw [h3]; simp [hb]

theorem splitL_length (l : List UInt8) (c : UInt8) : (splitL l c).length = l.count c + 1 := by
  induction l with
  | nil => rfl
  | cons b l ih =>
    unfold splitL
    by_cases hb : (b == c) = true
    · rw [if_pos hb, List.length_cons, ih, List.count_cons]; simp [hb]
    · rw [if_neg hb, List.count_cons]
      have hne := splitL_ne l c
      split
      · rename_i h t e
        rw [e] at ih
        simp [hb]; simpa using ih
      · rename_i e; exact absurd e hne
def bytesS (l : List UInt8) : ByteArray := ⟨l.toArray⟩
theorem bytesS_data (s : ByteArray) : bytesS s.data.toList = s := by
  unfold bytesS; simp
/-- The parts of a text. -/
def splitS (s : ByteArray) (c : UInt8) : List ByteArray := (splitL s.data.toList c).map bytesS
end Go.Proofs.Ytldniggehdpheaa.AW

namespace Go.Proofs.Ytldniggehdpheaa.AW
open Go.RowKit
set_option linter.unusedSimpArgs false
set_option linter.unusedVariables false

/-- What is handed over to be looked at, or a variable that is handed over to be written. -/
def lendsX (L : Lend) (Mb : List (Nat × Nat)) (v t : V) : Prop := match v with
  | .bp o j => match t with
    | .bp k j' => look Mb k = some o ∧ j = j'
    | _ => False
  | .ip ch j => match t with
    | .ip ch' j' => ch = ch' ∧ j = j'
    | _ => False
  | v => lendsTo L v t
def lendAllX (L : Lend) (Mb : List (Nat × Nat)) : List V → List V → Prop
  | v :: vs, t :: ts => lendsX L Mb v t ∧ lendAllX L Mb vs ts
  | [], [] => True
  | _, _ => False

/-- The objects that are written are the caller's, whole. -/
def ioIs (st : St) (iob : List (Nat × Ob)) : List (Nat × Nat) → Prop
  | [] => True
  | (k, o) :: r => (match look st.ob o with
    | some (.box []) => False
    | some x => look iob k = some x
    | _ => False) ∧ isPin k = true ∧ ioIs st iob r
def rowsAre (st : St) : List (Nat × Nat) → Prop
  | [] => True
  | (k, o) :: r => (match look st.ob o with
    | some (.row _ _) => True
    | _ => False) ∧ rowsAre st r
/-- They are of the same make as before. -/
def ioLike (iob ob' : List (Nat × Ob)) : List (Nat × Nat) → Prop
  | [] => True
  | (k, _) :: r => (match look iob k, look ob' k with
    | some x, some y => x.like y
    | _, _ => False) ∧ ioLike iob ob' r

section
variable {P : Program} {w w1 : World} {C : Cx} {X : Nat → Prop} {gh gh' : Gh} {st st' st'' : St} {a : Act} {v : V} {u : Value} {ob ob' : List (Nat × Ob)} {S S' : Nat → Prop} {K : St → Prop} {d : D} {F : Nat → Prop}

theorem lendAllX_get {L : Lend} {Mb : List (Nat × Nat)} : ∀ {vs ts : List V}, lendAllX L Mb vs ts → vs.length = ts.length ∧ ∀ (i : Nat) (v t : V), vs[i]? = some v → ts[i]? = some t → lendsX L Mb v t
  | [], [], _ => ⟨rfl, fun i v t h => by simp at h⟩
  | v :: vs, t :: ts, h => by
    obtain ⟨h1, h2⟩ := lendAllX_get h.2
    refine ⟨by simp [h1], fun i v' t' hv ht => ?_⟩
    cases i with
    | zero => simp at hv ht; subst hv; subst ht; exact h.1
    | succ i => exact h2 i v' t' (by simpa using hv) (by simpa using ht)
  | [], _ :: _, h => h.elim
  | _ :: _, [], h => h.elim

theorem ioIs_mem {iob : List (Nat × Ob)} : ∀ {M : List (Nat × Nat)}, ioIs st iob M → ∀ k o, (k, o) ∈ M → isPin k = true ∧ ∃ x, look st.ob o = some x ∧ look iob k = some x ∧ x ≠ .box []
  | [], _, k, o, h => by simp at h
  | (k', o') :: r, h, k, o, hm => by
    obtain ⟨h1, h2, h3⟩ := h
    rcases List.mem_cons.1 hm with he | hm
    · cases he
      refine ⟨h2, ?_⟩
      split at h1
      · exact h1.elim
      · rename_i x hne hl; exact ⟨x, hl, h1, hne⟩
      · exact h1.elim
    · exact ioIs_mem h3 k o hm

theorem rowsAre_mem : ∀ {M : List (Nat × Nat)}, rowsAre st M → ∀ k o, (k, o) ∈ M → ∃ e es, look st.ob o = some (.row e es)
  | [], _, k, o, h => by simp at h
  | (k', o') :: r, h, k, o, hm => by
    obtain ⟨h1, h3⟩ := h
    rcases List.mem_cons.1 hm with he | hm
    · cases he
      split at h1
      · rename_i e es hl; exact ⟨e, es, hl⟩
      · exact h1.elim
    · exact rowsAre_mem h3 k o hm

theorem ioLike_mem {iob ob' : List (Nat × Ob)} : ∀ {M : List (Nat × Nat)}, ioLike iob ob' M → ∀ k o, (k, o) ∈ M → ∃ x y, look iob k = some x ∧ look ob' k = some y ∧ x.like y
  | [], _, k, o, h => by simp at h
  | (k', o') :: r, h, k, o, hm => by
    obtain ⟨h1, h3⟩ := h
    rcases List.mem_cons.1 hm with he | hm
    · cases he
      split at h1
      · rename_i x y hl hl'
        exact ⟨x, y, hl, hl', h1⟩
      · exact h1.elim
    · exact ioLike_mem h3 k o hm

theorem newObs_nowX {ob N : List (Nat × Ob)} (hN : ∀ k x, look N k = some x → look ob k = some x) : ∀ (M : List (Nat × Nat)) {iob : List (Nat × Ob)}, ioLike iob N M → newObs ob M = newObs N M ∧ ioLike iob ob M
  | [], _, _ => ⟨rfl, trivial⟩
  | (k, o) :: r, iob, h => by
    obtain ⟨h1, h2⟩ := h
    obtain ⟨g1, g2⟩ := newObs_nowX hN r h2
    split at h1
    · rename_i x y hi hn
      have := hN _ _ hn
      refine ⟨by simp only [newObs, this, hn, g1], ?_, g2⟩
      simp only [hi, this]; exact h1
    · exact h1.elim

/-- What a slot holds, when some objects were written and more stands still. -/
theorem VR.multiX {os : List Nat} (h : VR P w gh ob v u) (hob : ∀ o x, look ob o = some x → ObR P w gh o x) (h1 : ∀ o x, o ∉ os → look ob o = some x → look ob' o = some x ∧ ∀ k, gh.F o k → w1.heap[k]? = w.heap[k]?)
    (h2 : ∀ o x, o ∈ os → look ob o = some x → ∃ y, look ob' o = some y ∧ x.like y) (hg : gh'.hv = gh.hv ∧ gh'.bb = gh.bb ∧ gh'.bo = gh.bo) (hSS : ∀ k, gh.S k → gh'.S k) (hS : ∀ k, gh.S k → w1.heap[k]? = w.heap[k]?) :
    VR P w1 gh' ob' (killI os v) u := by
  induction h with
  | dead => exact .dead
  | und => exact .und
  | sc h => exact .sc h
  | nil => exact .nil
  | imm h => exact .imm ((h.move hS).mono hSS)
  | @ref o n p x e es A c hx hn hle =>
    by_cases ho : o ∈ os
    · cases p with
      | cons q p =>
        have : os.contains o = true := by simpa using ho
        simp only [killI, this, if_true]; exact .dead
      | nil =>
        simp only [killI]
        obtain ⟨y, g2, g3⟩ := h2 o x ho hx
        cases x with
        | box cs => simp [NavO] at hn
        | row e0 es0 =>
          obtain ⟨rfl, rfl, hv⟩ := navO_nil hn
          cases y with
          | box cs => simp [Ob.like] at g3
          | row e1 es1 =>
            simp only [Ob.like] at g3
            obtain ⟨g4, g5⟩ := g3
            rw [g5] at hv hle
            exact VR.whole g2 (by rw [hg.1, hv]) hle
    · obtain ⟨g1, g2⟩ := h1 o x ho hx
      have : os.contains o = false := by simpa using ho
      have hn' : NavO P w1 gh' o x p (.row false e es) (.slice A es.length c) := ((hob o x hx).navO hn g2).ghc hg.1 hg.2.1 hg.2.2
      cases p with
      | nil => simp only [killI]; exact .ref g1 hn' hle
      | cons q p => simp only [killI, this, Bool.false_eq_true, if_false]; exact .ref g1 hn' hle
  | @bp o j cs hx =>
    simp only [killI]
    have hbx : ∃ cs', look ob' o = some (.box cs') := by
      by_cases ho : o ∈ os
      · obtain ⟨y, g1, g2⟩ := h2 o _ ho hx
        cases y with
        | box cs' => exact ⟨cs', g1⟩
        | row e es => simp [Ob.like] at g2
      · exact ⟨cs, (h1 o _ ho hx).1⟩
    obtain ⟨cs', hx'⟩ := hbx
    have := VR.bp (P := P) (w := w1) (gh := gh') (j := j) hx'
    rw [hg.2.1, hg.2.2] at this; exact this
  | @rp o i j p x e es ad c hx hn =>
    by_cases ho : o ∈ os
    · cases p with
      | cons q p =>
        have : os.contains o = true := by simpa using ho
        simp only [killI, this, if_true]; exact .dead
      | nil =>
        simp only [killI]
        obtain ⟨y, g2, g3⟩ := h2 o x ho hx
        cases x with
        | box cs => simp [NavO] at hn
        | row e0 es0 =>
          obtain ⟨rfl, rfl, hv⟩ := navO_nil hn
          cases y with
          | box cs => simp [Ob.like] at g3
          | row e1 es1 =>
            simp only [Ob.like] at g3
            obtain ⟨g4, g5⟩ := g3
            subst g4
            rw [g5] at hv
            have hn' : NavO P w1 gh' o (.row e0 es1) [] (.row false e0 es1) (.slice (some ad) es1.length c) := by
              simp only [NavO, hg.1, hv]; exact .nil
            exact .rp g2 hn'
    · obtain ⟨g1, g2⟩ := h1 o x ho hx
      have : os.contains o = false := by simpa using ho
      have hn' : NavO P w1 gh' o x p (.row false e es) (.slice (some ad) es.length c) := ((hob o x hx).navO hn g2).ghc hg.1 hg.2.1 hg.2.2
      cases p with
      | nil => simp only [killI]; exact .rp g1 hn'
      | cons q p => simp only [killI, this, Bool.false_eq_true, if_false]; exact .rp g1 hn'
  | ip U hs h => exact .ip U (hSS _ hs) (fun q d hd => ⟨(World.cell?_of_block (a := ⟨_, _, none⟩) (hS _ hs)).trans (h q d hd).1, ((h q d hd).2.move hS).mono hSS⟩)
  | clo h => exact .clo (h.move hS hSS)
  | agg hl h1' h ih =>
    simp only [killI]
    refine .agg (by rw [killIL_length]; exact hl) h1' (fun i v hv => ?_)
    rw [killIL_get] at hv
    obtain ⟨v0, hv0, rfl⟩ := Option.map_eq_some_iff.1 hv
    exact ih i v0 hv0
  | tup hl h ih =>
    simp only [killI]
    refine .tup (by rw [killIL_length]; exact hl) (fun i v hv => ?_)
    rw [killIL_get] at hv
    obtain ⟨v0, hv0, rfl⟩ := Option.map_eq_some_iff.1 hv
    exact ih i v0 hv0
  | cond ht hf ih => simp only [killI]; exact .cond ih hf

theorem Rep.multiX (h : Rep P C X st a w gh) (os : List Nat) (gh' : Gh) (X' : Nat → Prop)
    (hlk2 : ∀ o, o ∉ os → look st'.ob o = look st.ob o) (htm : ∀ t, st'.get t = killI os (st.get t)) (hnt : st'.nt = st.nt)
    (hos : ∀ o, o ∈ os → ∃ x y, look st.ob o = some x ∧ look st'.ob o = some y ∧ x.like y)
    (hg : gh'.hv = gh.hv ∧ gh'.bb = gh.bb ∧ gh'.bo = gh.bo) (hout : ∀ o, o ∉ os → gh'.F o = gh.F o)
    (hsz : w.heap.size ≤ w1.heap.size) (hFo : ∀ o x k, o ∉ os → look st.ob o = some x → gh.F o k → w1.heap[k]? = w.heap[k]?) (hS : ∀ k, gh.S k → w1.heap[k]? = w.heap[k]?)
    (hk : w.keptBut w1 (fun p => ∃ b f, p = .cell b f ∧ (C.w0.heap.size ≤ b ∨ C.may b f))) (hSS : ∀ k, gh.S k → gh'.S k)
    (hS1 : ∀ k, gh'.S k → k < w1.heap.size ∧ C.z k ∧ (gh.S k ∨ (∃ o', o' ∈ os ∧ gh.F o' k) ∨ X k ∨ w.heap.size ≤ k))
    (hobs : ∀ o, o ∈ os → ∀ y, look st'.ob o = some y → ObR P w1 gh' o y)
    (hF1 : ∀ o, o ∈ os → ∀ k, gh'.F o k → (∃ o', o' ∈ os ∧ gh.F o' k) ∨ X k ∨ w.heap.size ≤ k) (hd1 : ∀ o o' k, o ∈ os → o' ∈ os → gh'.F o k → gh'.F o' k → o = o')
    (hnS : ∀ o k, o ∈ os → gh'.F o k → ¬ gh'.S k)
    (hwr : ∀ o k y, o ∈ os → look st'.ob o = some y → gh'.F o k → (∀ cs, y = .box cs → k ≠ gh.bb o) → C.w0.heap.size ≤ k ∨ ∀ f, C.may k f)
    (hX' : ∀ k, X' k → k < w1.heap.size ∧ ¬ gh'.S k ∧ (C.w0.heap.size ≤ k ∨ ∀ f, C.may k f) ∧ ((∃ o', o' ∈ os ∧ gh.F o' k) ∨ X k ∨ w.heap.size ≤ k)) (hXF : ∀ o k, o ∈ os → gh'.F o k → ¬ X' k) :
    Rep P C X' st' a w1 gh' := by
  have cls : ∀ o', o' ∉ os → ∀ x k, look st.ob o' = some x → gh.F o' k → ¬ ((∃ o, o ∈ os ∧ gh.F o k) ∨ X k ∨ w.heap.size ≤ k) := by
    intro o' ho' x k hx hk' hh
    rcases hh with ⟨o, ho, hF⟩ | hh | hh
    · obtain ⟨y, _, hl, _⟩ := hos o ho
      have := h.dis o' o x _ k hx hl hk' hF
      subst this; exact ho' ho
    · exact h.xF o' x k hx hh hk'
    · have := (h.obs o' x hx).lt k hk'; omega
  exact {
    obs := fun o x hx => by
      by_cases ho : o ∈ os
      · exact hobs o ho x hx
      · rw [hlk2 o ho] at hx
        have := (h.obs o x hx).world (fun k hk => hFo o x k ho hx hk) hS
        cases this with
        | row h => refine .row ?_; rw [hout o ho, hg.1]; exact h.mono hSS
        | box xs G hb hl h1 hc hxx dis nb hF => exact .box xs G (by rw [hg.2.1]; exact hb) hl h1 (by rw [hg.2.1, hg.2.2]; exact hc) (fun j d hd => (hxx j d hd).mono hSS) dis (by rw [hg.2.1]; exact nb) (fun k => by rw [hout o ho, hg.2.1]; exact hF k)
    dis := fun o1 o2 b1 b2 k hb1 hb2 hk1 hk2 => by
      by_cases e1 : o1 ∈ os <;> by_cases e2 : o2 ∈ os
      · exact hd1 o1 o2 k e1 e2 hk1 hk2
      · rw [hout _ e2] at hk2; rw [hlk2 _ e2] at hb2; exact (cls o2 e2 b2 k hb2 hk2 (hF1 o1 e1 k hk1)).elim
      · rw [hout _ e1] at hk1; rw [hlk2 _ e1] at hb1; exact (cls o1 e1 b1 k hb1 hk1 (hF1 o2 e2 k hk2)).elim
      · rw [hout _ e1] at hk1; rw [hout _ e2] at hk2; rw [hlk2 _ e1] at hb1; rw [hlk2 _ e2] at hb2; exact h.dis o1 o2 b1 b2 k hb1 hb2 hk1 hk2
    sS := fun k hk => (hS1 k hk).1
    nS := fun o b k hb hk hs => by
      by_cases e1 : o ∈ os
      · exact hnS o k e1 hk hs
      · rw [hout _ e1] at hk; rw [hlk2 _ e1] at hb
        rcases (hS1 k hs).2.2 with hs' | hs'
        · exact h.nS o b k hb hk hs'
        · exact cls o e1 b k hb hk hs'
    wrR := fun o e es k hb hk => by
      by_cases e1 : o ∈ os
      · exact hwr o k _ e1 hb hk (fun cs hc => by cases hc)
      · rw [hout _ e1] at hk; rw [hlk2 _ e1] at hb; exact h.wrR o e es k hb hk
    wrB := fun o cs k hb hk hne => by
      rw [hg.2.1] at hne
      by_cases e1 : o ∈ os
      · exact hwr o k _ e1 hb hk (fun _ _ => hne)
      · rw [hout _ e1] at hk; rw [hlk2 _ e1] at hb; exact h.wrB o cs k hb hk hne
    wrC := fun o cs j hb hj => by
      rw [hg.2.1, hg.2.2]
      by_cases e1 : o ∈ os
      · obtain ⟨x, y, hx, hy, hl⟩ := hos o e1
        rw [hb] at hy; cases hy
        cases x with
        | row e es => simp [Ob.like] at hl
        | box cs0 => simp only [Ob.like] at hl; exact h.wrC o cs0 j hx (by omega)
      · rw [hlk2 _ e1] at hb; exact h.wrC o cs j hb hj
    kept := keptBut_old (World.keptBut_trans (World.keptBut_mono (fun p hp => Or.inl hp) h.kept) (World.keptBut_mono (fun p hp => by
      obtain ⟨b, f, rfl, hb | hb⟩ := hp
      · exact Or.inr hb
      · exact Or.inl ⟨b, f, rfl, hb⟩) hk))
    pins := fun o x hp hn => by
      rw [hg.1, hg.2.1, hg.2.2]
      exact h.pins o x hp (fun e0 => by
        by_cases e1 : o ∈ os
        · obtain ⟨_, _, hl, _⟩ := hos o e1; rw [e0] at hl; cases hl
        · rw [hlk2 _ e1] at hn; exact hn e0)
    tms := fun t => by
      rw [htm]
      refine (h.tms t).multiX h.obs (fun o x ho hx => ⟨by rw [hlk2 _ ho]; exact hx, fun k hk => hFo o x k ho hx hk⟩) (fun o x ho hx => ?_) hg hSS hS
      obtain ⟨x', y, h1, h2, h3⟩ := hos o ho
      rw [hx] at h1; cases h1
      exact ⟨y, h2, h3⟩
    nt := by rw [hnt]; exact h.nt
    dfs := h.dfs
    xl := fun k hk => (hX' k hk).1
    xS := fun k hk => (hX' k hk).2.1
    xF := fun o b k hb hk hF => by
      by_cases e1 : o ∈ os
      · exact hXF o k e1 hF hk
      · rw [hout _ e1] at hF; rw [hlk2 _ e1] at hb; exact cls o e1 b k hb hF (hX' k hk).2.2.2
    xW := fun k hk => (hX' k hk).2.2.1
    s0S := fun k hk => hSS k (h.s0S k hk)
    sZ := fun k hk => (hS1 k hk).2.1 }

theorem aCall_bx {f : FuncId} {ts : (Nat → Value) → List V} {iob : List (Nat × Ob)} {post : List RV → St → Prop} (hs : SoundAt P f ts iob post) (hpin : ∀ n, 3000 ≤ n → C.pin n = none) (hfull : C.full) (M Mr Mb : List (Nat × Nat)) (hMM : M = Mr ++ Mb) {vs : List V} {d : Option Nat}
    (hM : ioIs st iob M) (hMr : rowsAre st Mr) (hMk : (M.map (·.1)).Nodup) (hMo : (M.map (·.2)).Nodup) (hiob : iob.map (·.1) = M.map (·.1)) (hl : ∀ uf, lendAllX ⟨Mr, uf, pvOf C, [], iob⟩ Mb vs (ts uf))
    (hns : ∀ rs st', post rs st' → ioLike iob st'.ob M) (hK : ∀ rs st', post rs st' → ev (b := ⟨K⟩) (after (st.wrote M st'.ob) d rs)) : aCall P C st f vs d K := by
  refine Or.inl ⟨hs.1, fun a w gh us h hus hv hd => ?_⟩
  classical
  let os := M.map (·.2)
  let gh0 : Gh := { S := gh.S, hv := fun k => match look M k with | some o => gh.hv o | none => undef, bb := fun k => match look M k with | some o => gh.bb o | none => 0, bo := fun k => match look M k with | some o => gh.bo o | none => 0, F := fun k b => ∃ o, look M k = some o ∧ gh.F o b }
  let may : Nat → Nat → Prop := fun b f => ∃ k o x, look M k = some o ∧ look st.ob o = some x ∧ gh.F o b ∧ (∀ cs, x = .box cs → b = gh.bb o → gh.bo o ≤ f ∧ f < gh.bo o + cs.length)
  let C0 : Cx := { w0 := w, s0 := gh0.S, may := may, pin := fun k => if isPin k = true then some (gh0.hv k, gh0.bb k, gh0.bo k) else none, z := fun k => gh.S k ∨ w.heap.size ≤ k ∨ ∃ f, may k f }
  obtain ⟨hlen, hl⟩ := lendAllX_get (hl gh0.hv)
  have hosm : ∀ k o, look M k = some o → o ∈ os ∧ isPin k = true ∧ ∃ x, look st.ob o = some x ∧ look iob k = some x := fun k o hk => by
    have hm := look_mem hk
    obtain ⟨g1, x, g2, g3, _⟩ := ioIs_mem hM k o hm
    exact ⟨List.mem_map.2 ⟨(k, o), hm, rfl⟩, g1, x, g2, g3⟩
  have hiobM : ∀ k x, look iob k = some x → ∃ o, look M k = some o ∧ look st.ob o = some x := fun k x hx => by
    have h1 : k ∈ iob.map (·.1) := List.mem_map.2 ⟨(k, x), look_mem hx, rfl⟩
    rw [hiob] at h1
    obtain ⟨⟨k', o⟩, hm, rfl⟩ := List.mem_map.1 h1
    have hk := mem_look hMk hm
    obtain ⟨_, _, x', g1, g2⟩ := hosm _ _ hk
    rw [hx] at g2; cases g2
    exact ⟨o, hk, g1⟩
  have hF0 : ∀ k o, look M k = some o → gh0.F k = gh.F o := fun k o hk => by
    funext b; exact propext ⟨fun ⟨o', ho', hb⟩ => by rw [hk] at ho'; cases ho'; exact hb, fun hb => ⟨o, hk, hb⟩⟩
  have hv0 : ∀ k o, look M k = some o → gh0.hv k = gh.hv o ∧ gh0.bb k = gh.bb o ∧ gh0.bo k = gh.bo o := fun k o hk => by simp only [gh0, hk, and_self]
  have hrep : Rep P C0 No ⟨us.size, zipT 0 (ts gh0.hv), iob⟩ ⟨us, []⟩ w gh0 := {
    obs := fun k b hb => by
      obtain ⟨o, hk, ho⟩ := hiobM k b hb
      obtain ⟨g1, g2, g3⟩ := hv0 k o hk
      exact (h.obs o b ho).at (gh' := gh0) rfl g1 g2 g3 (hF0 k o hk)
    dis := fun k k' b b' q hb hb' ⟨o, ho, hq⟩ ⟨o', ho', hq'⟩ => by
      obtain ⟨_, _, x, g1, _⟩ := hosm k o ho
      obtain ⟨_, _, x', g1', _⟩ := hosm k' o' ho'
      have := h.dis o o' _ _ q g1 g1' hq hq'
      subst this
      exact nodup_snd hMo (look_mem ho) (look_mem ho')
    sS := h.sS
    nS := fun k b q hb ⟨o, ho, hq⟩ hS => by
      obtain ⟨g0, _, x, g1, _⟩ := hosm k o ho
      exact h.nS o _ q g1 hq hS
    wrR := fun k e es q hb ⟨o, ho, hq⟩ => Or.inr (fun f => by
      obtain ⟨_, _, x, g1, g2⟩ := hosm k o ho
      have hb : look iob k = some (.row e es) := hb
      rw [g2] at hb; cases hb
      exact ⟨k, o, _, ho, g1, hq, fun cs hc => by cases hc⟩)
    wrB := fun k cs q hb ⟨o, ho, hq⟩ hne => Or.inr (fun f => by
      obtain ⟨_, _, x, g1, g2⟩ := hosm k o ho
      exact ⟨k, o, _, ho, g1, hq, fun cs' _ he => (hne (by rw [(hv0 k o ho).2.1]; exact he)).elim⟩)
    wrC := fun k cs j hb hj => Or.inr (by
      obtain ⟨o, hk, ho⟩ := hiobM k _ hb
      obtain ⟨g1, g2, g3⟩ := hv0 k o hk
      rw [g2, g3]
      refine ⟨k, o, _, hk, ho, ?_, fun cs' hc _ => by cases hc; exact ⟨by omega, by omega⟩⟩
      have := h.obs o _ ho
      cases this with
      | box xs G hb hl h1 hc hxx dis nb hF => exact (hF _).2 (Or.inl rfl))
    kept := World.keptBut_refl w _
    pins := fun k x hp hn => by
      simp only [C0] at hp
      split at hp
      · cases hp; rfl
      · cases hp
    tms := fun t => by
      have e1 : St.get ⟨us.size, zipT 0 (ts gh0.hv), iob⟩ t = ((ts gh0.hv)[t]?).getD .dead := by
        unfold St.get; simp only [look_zipT, Nat.zero_le, if_true, Nat.sub_zero]
      rw [e1]
      cases hi : (ts gh0.hv)[t]? with
      | none => exact .dead
      | some x =>
        have hlt := (List.getElem?_eq_some_iff.1 hi).1
        have hvt : vs[t]? = some vs[t] := List.getElem?_eq_getElem (by omega)
        have hle := hl t _ x hvt hi
        have hvr := hv t _ hvt
        simp only [Option.getD_some]
        have low : lendsTo ⟨Mr, gh0.hv, pvOf C, [], iob⟩ vs[t] x → VR P w gh0 iob x (us.getD t undef) := fun hle => by
          refine lend_sound (gh0 := gh0) (L := ⟨Mr, gh0.hv, pvOf C, [], iob⟩) (fun k o hk => ?_) (fun o v hv hso => ?_) h.obs (fun k hk => hk) (fun o x k hx hk => by simp [look] at hx) (fun o x hx => by simp [look] at hx) hvr hle
          · have hmm : (k, o) ∈ M := by rw [hMM]; exact List.mem_append_left _ hk
            have hk' := mem_look hMk hmm
            obtain ⟨_, _, x', g1, g2⟩ := hosm k o hk'
            obtain ⟨e, es, g3⟩ := rowsAre_mem hMr k o hk
            rw [g3] at g1; cases g1
            exact ⟨e, es, g3, g2, (hv0 k o hk').1, rfl⟩
          · obtain ⟨x, hx, rfl⟩ := Option.map_eq_some_iff.1 hv
            have := h.pins o x hx (fun e => by rw [e] at hso; cases hso)
            rw [← this]
        unfold lendsX at hle
        split at hle
        · rename_i o j heq
          rw [heq] at hvr
          split at hle
          · rename_i k j'
            obtain ⟨hk0, rfl⟩ := hle
            have hmm : (k, o) ∈ M := by rw [hMM]; exact List.mem_append_right _ (look_mem hk0)
            have hk' := mem_look hMk hmm
            obtain ⟨g1, g2, g3⟩ := hv0 k o hk'
            obtain ⟨_, _, x', g4, g5⟩ := hosm k o hk'
            generalize us.getD t undef = u0 at hvr
            cases hvr with
            | bp hx =>
              rw [hx] at g4; cases g4
              have := VR.bp (P := P) (w := w) (gh := gh0) (j := j) g5
              rw [g2, g3] at this; exact this
          · exact hle.elim
        · rename_i ch j heq
          rw [heq] at hvr
          split at hle
          · obtain ⟨rfl, rfl⟩ := hle
            generalize us.getD t undef = u0 at hvr
            cases hvr with
            | ip U hs' h' => exact .ip U hs' h'
          · exact hle.elim
        · exact low hle
    nt := Nat.le_refl _
    dfs := rfl
    xl := fun k hk => hk.elim
    xS := fun k hk => hk.elim
    xF := fun o b k hb hk => hk.elim
    xW := fun k hk => hk.elim
    s0S := fun k hk => hk
    sZ := fun k hk => Or.inl hk }
  refine (hs.2 gh0.hv (fun o => (gh0.bb o, gh0.bo o)) C0 w gh0 us rfl (fun o ho => by simp only [C0, ho]; rfl) (fun o ho => by simp only [C0, ho]; rfl) (fun k hk => Or.inr hk) (by omega) hrep).mono (fun e w' he => ?_)
  obtain ⟨vs', rs, st', a', gc, G, rfl, hpost, hres, hR⟩ := he
  refine ⟨tupV vs', rfl, ?_⟩
  have hlike := hns rs st' hpost
  have hk := hR.kept
  have mayos : ∀ b f, may b f → ∃ o x, o ∈ os ∧ look st.ob o = some x ∧ gh.F o b := fun b f ⟨k, o, x, hk, hx, hb, _⟩ => ⟨o, x, (hosm k o hk).1, hx, hb⟩
  have allmay : ∀ b, (∀ f, may b f) → ∃ o x, o ∈ os ∧ look st.ob o = some x ∧ gh.F o b ∧ ∀ cs, x = .box cs → b ≠ gh.bb o := fun b hb => by
    obtain ⟨k, o, x, hk, hx, hF, _⟩ := hb 0
    refine ⟨o, x, (hosm k o hk).1, hx, hF, fun cs hc he => ?_⟩
    obtain ⟨k2, o2, x2, hk2, hx2, hF2, h2⟩ := hb (gh.bo o + cs.length)
    have := h.dis o o2 _ _ b hx hx2 hF hF2
    subst this
    rw [hx] at hx2; cases hx2
    have := h2 cs hc he
    omega
  have wr0 : ∀ o x b, look st.ob o = some x → gh.F o b → (∀ cs, x = .box cs → b ≠ gh.bb o) → C.w0.heap.size ≤ b ∨ ∀ f, C.may b f := fun o x b hx hb hc => by
    cases x with
    | row e es => exact h.wrR o e es b hx hb
    | box cs => exact h.wrB o cs b hx hb (hc cs rfl)
  have wrA : ∀ b, (∀ f, may b f) → C.w0.heap.size ≤ b ∨ ∀ f, C.may b f := fun b hb => by
    obtain ⟨o, x, _, hx, hF, hc⟩ := allmay b hb
    exact wr0 o x b hx hF hc
  have wr1 : ∀ b f, may b f → C.w0.heap.size ≤ b ∨ C.may b f := fun b f ⟨k, o, x, hk, hx, hF, hc⟩ => by
    by_cases hbx : ∀ cs, x = .box cs → b ≠ gh.bb o
    · exact (wr0 o x b hx hF hbx).imp id (fun hh => hh f)
    · simp only [Classical.not_forall] at hbx
      obtain ⟨cs, hcs, hne⟩ := hbx
      have he : b = gh.bb o := Classical.not_not.1 hne
      subst hcs
      obtain ⟨g1, g2⟩ := hc cs rfl he
      have := h.wrC o cs (f - gh.bo o) hx (by omega)
      rw [show gh.bo o + (f - gh.bo o) = f by omega] at this
      rw [he]; exact this
  have heap : ∀ k, k < w.heap.size → ¬ (∃ f, may k f) → w'.heap[k]? = w.heap[k]? := by
    intro k hk' hn
    refine keptBut_heap hk hk' (fun f hm => ?_) (fun hm => ?_)
    · obtain ⟨b, f', e, hm⟩ := hm
      injection e with e1 e2
      rw [← e1, ← e2] at hm
      exact hn ⟨f, hm⟩
    · obtain ⟨b, f', e, _⟩ := hm
      cases e
  have hnew : ∀ k o, (k, o) ∈ M → ∃ x y, look st.ob o = some x ∧ look st'.ob k = some y ∧ x.like y := fun k o hm => by
    obtain ⟨_, x, g1, g2, _⟩ := ioIs_mem hM k o hm
    obtain ⟨x', y, g3, g4, g5⟩ := ioLike_mem hlike k o hm
    rw [g2] at g3; cases g3
    exact ⟨x, y, g1, g4, g5⟩
  have hnewo : ∀ o, o ∈ os → ∃ k y, (k, o) ∈ M ∧ look st'.ob k = some y ∧ look (newObs st'.ob M) o = some y := fun o ho => by
    obtain ⟨k, hm, hl'⟩ := (look_newObs st'.ob M o).1 ho
    obtain ⟨x, y, _, g2, _⟩ := hnew k o hm
    rw [g2] at hl'
    exact ⟨k, y, hm, g2, hl'⟩
  have hlook : ∀ o, look (st.wrote M st'.ob).ob o = if o ∈ os then look (newObs st'.ob M) o else look st.ob o := fun o => by
    simp only [St.wrote, look_append, look_dropI]
    by_cases ho : o ∈ os
    · obtain ⟨k, y, _, _, g⟩ := hnewo o ho
      have ho' : o ∈ M.map (·.2) := ho
      simp only [if_pos ho', if_pos ho, g, Option.or_none]
    · have hn := (look_newObs st'.ob M o).2 ho
      have ho' : o ∉ M.map (·.2) := ho
      simp only [if_neg ho', if_neg ho, hn, Option.none_or]
  let ghn : Gh := { S := gc.S, hv := gh.hv, bb := gh.bb, bo := gh.bo, F := fun o => if o ∈ os then (fun b => ∃ k, (k, o) ∈ M ∧ gc.F k b) else gh.F o }
  have gin : ∀ k o, (k, o) ∈ M → ghn.F o = gc.F k := fun k o hm => by
    have ho : o ∈ os := List.mem_map.2 ⟨(k, o), hm, rfl⟩
    simp only [ghn, if_pos ho]
    funext b
    exact propext ⟨fun ⟨k', hm', hb⟩ => by have := nodup_snd hMo hm hm'; subst this; exact hb, fun hb => ⟨k, hm, hb⟩⟩
  have gout : ∀ o, o ∉ os → ghn.F o = gh.F o := fun o ho => by simp only [ghn]; rw [if_neg ho]
  have hpn : ∀ k o, (k, o) ∈ M → gc.hv k = gh.hv o ∧ gc.bb k = gh.bb o ∧ gc.bo k = gh.bo o := fun k o hm => by
    have hkl := mem_look hMk hm
    obtain ⟨x, y, _, g2, _⟩ := hnew k o hm
    have hp := hR.pins k (gh0.hv k, gh0.bb k, gh0.bo k) (by simp only [C0]; rw [if_pos (hosm k o hkl).2.1]) (by rw [g2]; simp)
    obtain ⟨g1, g2, g3⟩ := hv0 k o hkl
    rw [g1, g2, g3] at hp
    simp only [Prod.mk.injEq] at hp
    exact hp
  have newB : ∀ b, (w.heap.size ≤ b ∨ ∃ f, may b f) → (∃ o', o' ∈ os ∧ gh.F o' b) ∨ No b ∨ w.heap.size ≤ b := fun b hb => by
    rcases hb with hb | ⟨f, hb⟩
    · exact Or.inr (Or.inr hb)
    · obtain ⟨o, x, ho, _, hF⟩ := mayos b f hb
      exact Or.inl ⟨o, ho, hF⟩
  have fullB : ∀ b, (w.heap.size ≤ b ∨ ∃ f, may b f) → C.z b := fun b hb => hfull b (by
    rcases hb with hb | ⟨f, hb⟩
    · exact Or.inl (Nat.le_trans h.size hb)
    · exact (wr1 b f hb).imp id (fun hh => ⟨f, hh⟩))
  have cF : ∀ k o, (k, o) ∈ M → ∀ b, gc.F k b → (w.heap.size ≤ b ∨ ∃ f, may b f) ∧ (∀ y, look st'.ob k = some y → (∀ cs, y = .box cs → b ≠ gh.bb o) → C.w0.heap.size ≤ b ∨ ∀ f, C.may b f) := fun k o hm b hb => by
    obtain ⟨x, y, g1, g2, g3⟩ := hnew k o hm
    have hp := hpn k o hm
    have all : (∀ cs, y = .box cs → b ≠ gh.bb o) → w.heap.size ≤ b ∨ ∀ f, may b f := fun hc => by
      cases y with
      | row e es => exact hR.wrR k e es b g2 hb
      | box cs => exact hR.wrB k cs b g2 hb (by rw [hp.2.1]; exact hc cs rfl)
    refine ⟨?_, fun y' hy' hc => ?_⟩
    · by_cases hbb : b = gh.bb o ∧ ∃ cs, y = .box cs
      · obtain ⟨he, cs, rfl⟩ := hbb
        cases x with
        | row e es => simp [Ob.like] at g3
        | box cs0 =>
          have hob := h.obs o _ g1
          have hFb : gh.F o (gh.bb o) := by
            cases hob with
            | box xs G hb hl h1 hc hxx dis nb hF => exact (hF _).2 (Or.inl rfl)
          by_cases hn : 0 < cs0.length
          · exact Or.inr ⟨gh.bo o, k, o, _, mem_look hMk hm, g1, by rw [he]; exact hFb, fun cs' hc _ => by cases hc; omega⟩
          · obtain ⟨_, x1, q1, _, q3⟩ := ioIs_mem hM k o hm
            rw [g1] at q1; cases q1
            exact (q3 (by rw [List.eq_nil_of_length_eq_zero (by omega : cs0.length = 0)])).elim
      · exact (all (fun cs hc he => hbb ⟨he, cs, hc⟩)).imp id (fun hh => ⟨0, hh 0⟩)
    · rw [g2] at hy'; cases hy'
      rcases all hc with hh | hh
      · exact Or.inl (Nat.le_trans h.size hh)
      · exact wrA b hh
  have hin : Rep P C (inHand rs G) (st.wrote M st'.ob) a w' ghn := by
    refine h.multiX os ghn (inHand rs G) (fun o ho => by rw [hlook, if_neg ho]) (fun t => by unfold St.get St.wrote; simp only [look_mapT]; cases look st.tm t <;> simp [killI, os]) rfl
      (fun o ho => by
        obtain ⟨k, y, hm, g2, g3⟩ := hnewo o ho
        obtain ⟨x, y', g4, g5, g6⟩ := hnew k o hm
        rw [g2] at g5; cases g5
        exact ⟨x, y, g4, by rw [hlook, if_pos ho]; exact g3, g6⟩)
      ⟨rfl, rfl, rfl⟩ gout hk.size
      (fun o x k ho hx hk' => heap k ((h.obs o x hx).lt k hk') (fun ⟨f, hm⟩ => by
        obtain ⟨o', x', ho', hx', hF⟩ := mayos k f hm
        have := h.dis o o' x _ k hx hx' hk' hF
        subst this; exact ho ho'))
      (fun k hk' => heap k (h.sS k hk') (fun ⟨f, hm⟩ => by
        obtain ⟨o', x', ho', hx', hF⟩ := mayos k f hm
        exact h.nS o' _ k hx' hF hk'))
      (World.keptBut_mono (fun p hp => by
        obtain ⟨b, f, e, hm⟩ := hp
        exact ⟨b, f, e, wr1 b f hm⟩) hk)
      (fun k hk' => hR.s0S k hk')
      (fun k hk' => ⟨hR.sS k hk', by
        rcases hR.sZ k hk' with hz | hz
        · exact ⟨h.sZ k hz, Or.inl hz⟩
        · refine ⟨fullB k hz, Or.inr ?_⟩
          rcases newB k hz with hh | hh | hh
          · exact Or.inl hh
          · exact hh.elim
          · exact Or.inr (Or.inr hh)⟩)
      (fun o ho y hy => by
        rw [hlook, if_pos ho] at hy
        obtain ⟨k, y', hm, g2, g3⟩ := hnewo o ho
        rw [g3] at hy; cases hy
        obtain ⟨p1, p2, p3⟩ := hpn k o hm
        exact (hR.obs k _ g2).at (gh' := ghn) rfl p1.symm p2.symm p3.symm (gin k o hm))
      (fun o ho b hb => by
        obtain ⟨k, y, hm, g2, g3⟩ := hnewo o ho
        rw [gin k o hm] at hb
        rcases newB b (cF k o hm b hb).1 with hh | hh | hh
        · exact Or.inl hh
        · exact hh.elim
        · exact Or.inr (Or.inr hh))
      (fun o o' b ho ho' hb hb' => by
        obtain ⟨k, y, hm, g2, g3⟩ := hnewo o ho
        obtain ⟨k', y', hm', g2', g3'⟩ := hnewo o' ho'
        rw [gin k o hm] at hb
        rw [gin k' o' hm'] at hb'
        have := hR.dis k k' _ _ b g2 g2' hb hb'
        subst this
        have h1 := mem_look hMk hm
        have h2 := mem_look hMk hm'
        rw [h1] at h2; cases h2; rfl)
      (fun o b ho hb => by
        obtain ⟨k, y, hm, g2, g3⟩ := hnewo o ho
        rw [gin k o hm] at hb
        exact hR.nS k _ b g2 hb)
      (fun o b y ho hy hb hc => by
        obtain ⟨k, y', hm, g2, g3⟩ := hnewo o ho
        rw [hlook, if_pos ho, g3] at hy; cases hy
        rw [gin k o hm] at hb
        exact (cF k o hm b hb).2 _ g2 hc)
      (fun b hb => ⟨hR.xl b hb, hR.xS b hb, by
        rcases hR.xW b hb with hw | hw
        · exact Or.inl (Nat.le_trans h.size hw)
        · exact wrA b hw, by
        rcases hR.xW b hb with hw | hw
        · exact Or.inr (Or.inr hw)
        · obtain ⟨o, x, ho, _, hF, _⟩ := allmay b hw
          exact Or.inl ⟨o, ho, hF⟩⟩)
      (fun o b ho hb hX => by
        obtain ⟨k, y, hm, g2, g3⟩ := hnewo o ho
        rw [gin k o hm] at hb
        exact hR.xF k _ b g2 hX hb)
  have hres' : Res P w' ghn.S rs vs' G := hres
  cases d with
  | none => exact ⟨_, ghn, hK rs st' hpost, hin.less (fun k hk => hk.elim)⟩
  | some d =>
    obtain ⟨gh2, hr2, hn2, hl2, hv2, _, _⟩ := layR_sound d rs vs' G 0 hin hpin hres' (fun b hb => hb)
    refine ⟨_, gh2, hK rs st' hpost, ?_⟩
    simp only [after]
    refine (hr2.less (X' := No) (fun k hk => hk.elim)).set (by rw [hn2]; exact hd d rfl) ?_
    match rs, vs', hl2, hv2 with
    | [], [], _, hv2 => exact .tup rfl (fun i v hi => by simp [vsR] at hi)
    | [r], [v], _, hv2 => exact hv2 0 _ _ rfl rfl
    | r :: r2 :: rs, v :: v2 :: vs, hl2, hv2 =>
      refine .tup (by simp [← hl2]) (fun i x hi => ?_)
      have hil := (List.getElem?_eq_some_iff.1 hi).1
      have hvi : (v :: v2 :: vs)[i]? = some (v :: v2 :: vs)[i] := List.getElem?_eq_getElem (by omega)
      have := hv2 i x _ hi hvi
      simpa [Array.getD_eq_getD_getElem?, hvi] using this
    | [], v :: vs, hl2, _ => simp [vsR] at hl2
    | r :: rs, [], hl2, _ => simp [vsR] at hl2
    | [r], v :: v2 :: vs, hl2, _ => simp [vsR] at hl2
    | r :: r2 :: rs, [v], hl2, _ => simp [vsR] at hl2

/-- A call that writes into variables and rows of the caller's, and whose results are known. -/
theorem aCall_bxd {f : FuncId} {ts : (Nat → Value) → List V} {iob N : List (Nat × Ob)} {R : List RV} (hs : SoundAt P f ts iob (fun rs st => rs = R ∧ nowIs st.ob N)) (hpin : ∀ o, isPin o = false → C.pin o = none) (hfull : C.full) (M Mr Mb : List (Nat × Nat)) {vs : List V} {d : Option Nat}
    (hMM : M = Mr ++ Mb ∧ nodupB (M.map (·.1)) = true ∧ nodupB (M.map (·.2)) = true ∧ iob.map (·.1) = M.map (·.1)) (hl : ∀ uf, lendAllX ⟨Mr, uf, pvOf C, [], iob⟩ Mb vs (ts uf))
    (h : ioIs st iob M ∧ rowsAre st Mr ∧ ioLike iob N M ∧ ev (b := ⟨K⟩) (after (st.wrote M N) d R)) : aCallB (b := ⟨K⟩) P C st f vs d := by
  refine aCall_bx hs (pin3 hpin) hfull M Mr Mb hMM.1 h.1 h.2.1 (nodup_of hMM.2.1) (nodup_of hMM.2.2.1) hMM.2.2.2 hl (fun rs st' hr => ?_) (fun rs st' hr => ?_)
  · exact (newObs_nowX (nowIs_get hr.2) M h.2.2.1).2
  · have e : st.wrote M st'.ob = st.wrote M N := by unfold St.wrote; rw [(newObs_nowX (nowIs_get hr.2) M h.2.2.1).1]
    rw [hr.1, e]; exact h.2.2.2
end
attribute [go_sem] lendsX lendAllX ioIs rowsAre ioLike Ob.like
end Go.Proofs.Ytldniggehdpheaa.AW

namespace Go.Proofs.Ytldniggehdpheaa.AW
open Go.RowKit
section
variable {P : Program} {C : Cx} {st : St}

def isPinK (ks : List Nat) (o : Nat) : Bool := isPin o || ks.contains o

/-- A row within an object stands by itself from here on; others did before. -/
theorem Tri.outN (ks : List Nat) {c : Code} {Q : Exit → St → Prop} (o : Nat) (p : List (Nat × Nat)) (o' : Nat) {x : Ob} {e : TypeId} {es : List (List D)} (ho : look st.ob o = some x) (hsub : subO x p = some (.row false e es)) (hp : p ≠ []) (ho' : look st.ob o' = none) (hb : isPinK ks o' = false) (hb2 : o' < 3000) (hpin : ∀ o, isPinK ks o = false → C.pin o = none) (hp3 : ∀ n, 3000 ≤ n → C.pin n = none) (hz : C.full)
    (h : ∀ z C', C'.pin o' = some (z, 0, 0) → (∀ k, k ≠ o' → C'.pin k = C.pin k) → (∀ o, isPinK (o' :: ks) o = false → C'.pin o = none) → (∀ o, 3000 ≤ o → C'.pin o = none) → C'.full → Tri P C' (st.out o p o' z) c Q) : Tri P C st c Q := fun a w gh hR => by
  have hpo := hpin o' hb
  obtain ⟨z, gh1, hr1, _⟩ := hR.out ho hsub hp ho' hpo
  exact Code.wp_mono (fun e a' w' ⟨s, g, hk, hr⟩ => ⟨s, g, hk, hr.unpinned hpo⟩) (h z (C.pinned o' z) (by simp [Cx.pinned]) (fun k hk => by simp only [Cx.pinned, if_neg hk]) (fun q hq => by
    simp only [isPinK, Bool.or_eq_false_iff, List.contains_cons] at hq
    have hne : q ≠ o' := by simpa using hq.2.1
    simp only [Cx.pinned, if_neg hne]; exact hpin q (by simp only [isPinK, hq.1, hq.2.2, Bool.or_self])) (pinned3 hp3 hb2) (pinnedz hz) a w gh1 hr1)

theorem pinK0 (hpin : ∀ o, isPin o = false → C.pin o = none) : ∀ o, isPinK [] o = false → C.pin o = none := fun o ho => hpin o (by simpa [isPinK] using ho)
end
attribute [go_sem] isPinK
end Go.Proofs.Ytldniggehdpheaa.AW
