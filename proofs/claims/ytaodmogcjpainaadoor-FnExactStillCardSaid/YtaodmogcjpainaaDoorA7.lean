/- What is known stands as memory grows, and as what is one's own is taken in hand and laid down again. No condition. -/
import Derived.Test.YtaodmogcjpainaaDoorA6
import Derived.Deep.Onto
namespace Go.Proofs.YtaodmogcjpainaaDoor.AW
open Go.RowKit
set_option linter.unusedSimpArgs false
set_option linter.unusedVariables false
section
variable {P : Program} {w w1 : World} {C : Cx} {X : Nat → Prop} {gh : Gh} {st : St} {a : Act} {v : V} {u : Value} {ob : List (Nat × Ob)}

theorem cell_same {x : Addr} (h : w1.heap[x.block]? = w.heap[x.block]?) : w1.cell? x = w.cell? x := World.cell?_of_block h

theorem Ow.nav {d : D} {v : Value} {F : Nat → Prop} {S : Nat → Prop} {p : List (Nat × Nat)} {d2 : D} {v2 : Value} (h : Ow P w S d v F) (hn : Nav P w d v p d2 v2) (hF : ∀ k, F k → w1.heap[k]? = w.heap[k]?) : Nav P w1 d v p d2 v2 := by
  induction hn generalizing F with
  | nil => exact .nil
  | @cons e es ad l c i j d1 d2 v1 v2 p hc hw hn ih =>
    cases h with
    | row xs G own hsz h1 hx dis nb =>
      have hlt := off_lt (cellAt_lt hc) (cellAt_len hc hsz)
      obtain ⟨g, cap, he, hcc, hm, hcell, _⟩ := ownsRow_cell own (by have := cellAt_lt hc; omega)
      cases he
      have hv1 : v1 = xs.getD (i * szT P e + j) undef := by
        have h2 := (hcell _ hlt).trans (getD_of_lt (by rw [own.1]; exact hlt))
        simp only [Nat.zero_add] at hw
        rw [hw] at h2; cases h2; rfl
      subst hv1
      exact .cons hc ((cell_same (x := ⟨g, _, none⟩) (hF g (Or.inl rfl))).trans hw) (ih (hx i j d1 hc) (fun k hk => hF k (Or.inr ⟨i, j, d1, hc, hk⟩)))

theorem ObR.navO {o : Nat} {x : Ob} {p : List (Nat × Nat)} {d2 : D} {v2 : Value} (h : ObR P w gh o x) (hn : NavO P w gh o x p d2 v2) (hF : ∀ k, gh.F o k → w1.heap[k]? = w.heap[k]?) : NavO P w1 gh o x p d2 v2 := by
  cases h with
  | row h => exact h.nav hn hF
  | box xs G hb hl h1 hc hx dis nb hFF =>
    cases p with
    | nil => exact hn
    | cons ij p =>
      obtain ⟨i, j⟩ := ij
      obtain ⟨d1, v1, e1, e2, e3⟩ := hn
      have hj : j < xs.length := by rw [hl]; exact (List.getElem?_eq_some_iff.1 e1).1
      have hv : v1 = xs.getD j undef := by
        have := (hc j hj).trans (getD_of_lt hj)
        rw [e2] at this; cases this; rfl
      subst hv
      exact ⟨d1, _, e1, (cell_same (x := ⟨gh.bb o, _, none⟩) (hF _ ((hFF _).2 (Or.inl rfl)))).trans e2, (hx j d1 e1).nav e3 (fun k hk => hF k ((hFF k).2 (Or.inr ⟨j, d1, e1, hk⟩)))⟩

theorem ObR.world {o : Nat} {x : Ob} (h : ObR P w gh o x) (hF : ∀ k, gh.F o k → w1.heap[k]? = w.heap[k]?) (hS : ∀ k, gh.S k → w1.heap[k]? = w.heap[k]?) : ObR P w1 gh o x := by
  cases h with
  | row h => exact .row (h.move hF hS)
  | box xs G hb hl h1 hc hx dis nb hFF =>
    refine .box xs G ?_ hl h1 (fun j hj => (cell_same (x := ⟨gh.bb o, _, none⟩) (hF _ ((hFF _).2 (Or.inl rfl)))).trans (hc j hj)) (fun j d hd => (hx j d hd).move (fun k hk => hF k ((hFF k).2 (Or.inr ⟨j, d, hd, hk⟩))) hS) dis nb hFF
    obtain ⟨cur, ty, hb⟩ := hb
    exact ⟨cur, ty, (hF _ ((hFF _).2 (Or.inl rfl))).trans hb⟩

theorem ObR.lt {o : Nat} {x : Ob} (h : ObR P w gh o x) : ∀ k, gh.F o k → k < w.heap.size := by
  cases h with
  | row h => exact h.lt
  | box xs G hb hl h1 hc hx dis nb hFF =>
    intro k hk
    rcases (hFF k).1 hk with rfl | ⟨j, d, hd, hk⟩
    · obtain ⟨cur, ty, hb⟩ := hb
      exact (Array.getElem?_eq_some_iff.1 hb).1
    · exact (hx j d hd).lt k hk

/-- A slot's value stands where the blocks of the objects and of what is looked at stand. -/
theorem VR.world (h : VR P w gh ob v u) (hob : ∀ o x, look ob o = some x → ObR P w gh o x) (hF : ∀ o x k, look ob o = some x → gh.F o k → w1.heap[k]? = w.heap[k]?) (hS : ∀ k, gh.S k → w1.heap[k]? = w.heap[k]?) : VR P w1 gh ob v u := by
  induction h with
  | dead => exact .dead
  | und => exact .und
  | sc h => exact .sc h
  | nil => exact .nil
  | imm h => exact .imm (h.move hS)
  | ref hx hn hle => exact .ref hx ((hob _ _ hx).navO hn (fun k hk => hF _ _ k hx hk)) hle
  | bp hx => exact .bp hx
  | rp hx hn => exact .rp hx ((hob _ _ hx).navO hn (fun k hk => hF _ _ k hx hk))
  | ip U hs h => exact .ip U hs fun q d hd => ⟨(cell_same (x := ⟨_, _, none⟩) (hS _ hs)).trans (h q d hd).1, (h q d hd).2.move hS⟩
  | agg hl h1 h ih => exact .agg hl h1 ih
  | tup hl h ih => exact .tup hl ih
  | cond ht hf ih => exact .cond ih hf

theorem keptBut_old {a c : World} {may : MemPlace → Prop} (h : a.keptBut c (fun p => may p ∨ a.heap.size ≤ p.block)) : a.keptBut c may := by
  refine ⟨h.1, h.2.1, fun i hi => ?_⟩
  have x := h.2.2 i hi
  cases ha : a.heap[i]? with
  | none => simp only [ha] at x; simpa [ha] using x
  | some oa =>
    cases hc : c.heap[i]? with
    | none => rw [ha, hc] at x; cases oa <;> simp at x
    | some oc =>
      rw [ha, hc] at x
      cases oa <;> cases oc <;> simp only at x ⊢ <;> try exact x
      case cells.cells =>
        obtain ⟨t1, t2, t3, t4⟩ := x
        exact ⟨t1, t2, t3, fun j hj => t4 j (fun hm => hm.elim hj (fun hm => by simp only [MemPlace.block] at hm; omega))⟩
      case map.map =>
        rcases x with (x | x) | x
        · exact Or.inl x
        · simp only [MemPlace.block] at x; omega
        · exact Or.inr x

/-- Memory has turned where nothing known lies. -/
theorem Rep.world (h : Rep P C X st a w gh) (hsz : w.heap.size ≤ w1.heap.size) (hF : ∀ o x k, look st.ob o = some x → gh.F o k → w1.heap[k]? = w.heap[k]?) (hS : ∀ k, gh.S k → w1.heap[k]? = w.heap[k]?)
    (hk : w.keptBut w1 (fun p => ∃ b f, p = .cell b f ∧ (C.w0.heap.size ≤ b ∨ C.may b f))) : Rep P C X st a w1 gh where
  obs := fun o b hb => (h.obs o b hb).world (fun k hk => hF o b k hb hk) hS
  dis := h.dis
  sS := fun k hk => Nat.lt_of_lt_of_le (h.sS k hk) hsz
  nS := h.nS
  wrR := h.wrR
  wrB := h.wrB
  wrC := h.wrC
  kept := by
    have h0 := h.kept
    refine keptBut_old (World.keptBut_trans (World.keptBut_mono (fun p hp => Or.inl hp) h0) (World.keptBut_mono (fun p hp => ?_) hk))
    obtain ⟨b, f, rfl, hb | hb⟩ := hp
    · exact Or.inr hb
    · exact Or.inl ⟨b, f, rfl, hb⟩
  pins := h.pins
  tms := fun t => (h.tms t).world h.obs hF hS
  nt := h.nt
  dfs := h.dfs
  xl := fun k hk => Nat.lt_of_lt_of_le (h.xl k hk) hsz
  xS := h.xS
  xF := h.xF
  xW := h.xW
  s0S := h.s0S
  sZ := h.sZ

theorem heap_alloc_lt (w : World) (o : Obj) {k : Nat} (h : k < w.heap.size) : (w.alloc o).heap[k]? = w.heap[k]? := heap_alloc_old w o k h

/-- A new block. -/
theorem Rep.alloc (h : Rep P C X st a w gh) (o : Obj) : Rep P C X st a (w.alloc o) gh :=
  h.world (by simp) (fun o' x k hx hk => heap_alloc_lt w o ((h.obs o' x hx).lt k hk)) (fun k hk => heap_alloc_lt w o (h.sS k hk)) (World.keptBut_alloc w o _)

theorem Rep.drew (h : Rep P C X st a w gh) : Rep P C X st a w.drew gh :=
  h.world (Nat.le_refl _) (fun _ _ _ _ _ => rfl) (fun _ _ => rfl) ((World.keptBut_refl w _).congr rfl rfl (fun _ _ => rfl))

/-- A block is taken in hand that nobody has. -/
theorem Rep.hold (h : Rep P C X st a w gh) {b : Nat} (hb : b < w.heap.size) (hS : ¬ gh.S b) (hF : ∀ o x, look st.ob o = some x → ¬ gh.F o b) (hw : C.w0.heap.size ≤ b ∨ ∀ f, C.may b f) : Rep P C (fun k => X k ∨ k = b) st a w gh where
  obs := h.obs
  dis := h.dis
  sS := h.sS
  nS := h.nS
  wrR := h.wrR
  wrB := h.wrB
  wrC := h.wrC
  kept := h.kept
  pins := h.pins
  tms := h.tms
  nt := h.nt
  dfs := h.dfs
  xl := fun k hk => hk.elim (h.xl k) (fun e => e ▸ hb)
  xS := fun k hk => hk.elim (h.xS k) (fun e => e ▸ hS)
  xF := fun o b' k ho hk => hk.elim (h.xF o b' k ho) (fun e => e ▸ hF o b' ho)
  xW := fun k hk => hk.elim (h.xW k) (fun e => e ▸ hw)
  s0S := h.s0S
  sZ := h.sZ

theorem Rep.size (h : Rep P C X st a w gh) : C.w0.heap.size ≤ w.heap.size := h.kept.size

/-- A new block, taken in hand. -/
theorem Rep.made (h : Rep P C X st a w gh) (o : Obj) : Rep P C (fun k => X k ∨ k = w.heap.size) st a (w.alloc o) gh :=
  (h.alloc o).hold (by simp) (fun hk => absurd (h.sS _ hk) (Nat.lt_irrefl _)) (fun o' x hx hk => absurd ((h.obs o' x hx).lt _ hk) (Nat.lt_irrefl _)) (Or.inl h.size)

/-- What is in hand, less. -/
theorem Rep.less {X' : Nat → Prop} (h : Rep P C X st a w gh) (hX : ∀ k, X' k → X k) : Rep P C X' st a w gh where
  obs := h.obs
  dis := h.dis
  sS := h.sS
  nS := h.nS
  wrR := h.wrR
  wrB := h.wrB
  wrC := h.wrC
  kept := h.kept
  pins := h.pins
  tms := h.tms
  nt := h.nt
  dfs := h.dfs
  xl := fun k hk => h.xl k (hX k hk)
  xS := fun k hk => h.xS k (hX k hk)
  xF := fun o b k ho hk => h.xF o b k ho (hX k hk)
  xW := fun k hk => h.xW k (hX k hk)
  s0S := h.s0S
  sZ := h.sZ

theorem killL_get (k : Nat) (vs : List V) (i : Nat) : (killL k vs)[i]? = (vs[i]?).map (killV k) := by
  induction vs generalizing i with
  | nil => simp [killL]
  | cons v r ih => cases i <;> simp [killL, ih]
theorem killL_length (k : Nat) (vs : List V) : (killL k vs).length = vs.length := by
  induction vs with
  | nil => rfl
  | cons v r ih => simp [killL, ih]

theorem VR.kill (h : VR P w gh ob v u) (o : Nat) : VR P w gh (drop ob o) (killV o v) u := by
  induction h with
  | dead => exact .dead
  | und => exact .und
  | sc h => exact .sc h
  | nil => exact .nil
  | imm h => exact .imm h
  | @ref o' n p x e es A c hx hn hle =>
    simp only [killV]
    by_cases e1 : o' = o
    · rw [if_pos e1]; exact .dead
    · rw [if_neg e1]; exact .ref (by rw [look_drop, if_neg (fun e => e1 e.symm)]; exact hx) hn hle
  | @bp o' j cs hx =>
    simp only [killV]
    by_cases e1 : o' = o
    · rw [if_pos e1]; exact .dead
    · rw [if_neg e1]; exact .bp (by rw [look_drop, if_neg (fun e => e1 e.symm)]; exact hx)
  | @rp o' i j p x e es ad c hx hn =>
    simp only [killV]
    by_cases e1 : o' = o
    · rw [if_pos e1]; exact .dead
    · rw [if_neg e1]; exact .rp (by rw [look_drop, if_neg (fun e => e1 e.symm)]; exact hx) hn
  | ip U hs h => exact .ip U hs h
  | agg hl h1 h ih =>
    simp only [killV]
    refine .agg (by rw [killL_length]; exact hl) h1 (fun i v' hv' => ?_)
    rw [killL_get] at hv'
    obtain ⟨v0, hv0, rfl⟩ := Option.map_eq_some_iff.1 hv'
    exact ih i v0 hv0
  | tup hl h ih =>
    simp only [killV]
    refine .tup (by rw [killL_length]; exact hl) (fun i v' hv' => ?_)
    rw [killL_get] at hv'
    obtain ⟨v0, hv0, rfl⟩ := Option.map_eq_some_iff.1 hv'
    exact ih i v0 hv0
  | cond ht hf ih =>
    simp only [killV]
    exact .cond ih hf

theorem St.get_kill (st : St) (o t : Nat) : (st.kill o).get t = killV o (st.get t) := by
  unfold St.get St.kill
  simp only [look_mapT]
  cases look st.tm t <;> simp [killV]

/-- A row is taken in hand: it is no object any more. -/
theorem Rep.take (h : Rep P C X st a w gh) {o : Nat} {e : TypeId} {es : List (List D)} (ho : look st.ob o = some (.row e es)) :
    Rep P C (fun k => X k ∨ gh.F o k) (st.kill o) a w gh where
  obs := fun o' b hb => by
    rw [St.kill, look_drop] at hb
    split at hb
    · cases hb
    · exact h.obs o' b hb
  dis := fun o1 o2 b1 b2 k h1 h2 hk1 hk2 => by
    rw [St.kill, look_drop] at h1 h2
    split at h1; · cases h1
    split at h2; · cases h2
    exact h.dis o1 o2 b1 b2 k h1 h2 hk1 hk2
  sS := h.sS
  nS := fun o' b k hb hk => by
    rw [St.kill, look_drop] at hb
    split at hb; · cases hb
    exact h.nS o' b k hb hk
  wrR := fun o' e' es' k hb hk => by
    rw [St.kill, look_drop] at hb
    split at hb; · cases hb
    exact h.wrR o' e' es' k hb hk
  wrB := fun o' cs k hb hk => by
    rw [St.kill, look_drop] at hb
    split at hb; · cases hb
    exact h.wrB o' cs k hb hk
  wrC := fun o' cs j hb hj => by
    rw [St.kill, look_drop] at hb
    split at hb; · cases hb
    exact h.wrC o' cs j hb hj
  kept := h.kept
  pins := fun o' x hx hn => by
    rw [St.kill, look_drop] at hn
    split at hn; · exact absurd rfl hn
    exact h.pins o' x hx hn
  tms := fun t => by rw [St.get_kill]; exact (h.tms t).kill o
  nt := h.nt
  dfs := h.dfs
  xl := fun k hk => hk.elim (h.xl k) (fun hk => (h.obs o _ ho).lt k hk)
  xS := fun k hk => hk.elim (h.xS k) (fun hk => h.nS o _ k ho hk)
  xF := fun o' b k hb hk => by
    rw [St.kill, look_drop] at hb
    split at hb
    · cases hb
    · rename_i hne
      rcases hk with hk | hk
      · exact h.xF o' b k hb hk
      · exact fun hk' => hne (h.dis o o' _ b k ho hb hk hk')
  xW := fun k hk => hk.elim (h.xW k) (fun hk => h.wrR o e es k ho hk)
  s0S := h.s0S
  sZ := h.sZ

def Gh.upd (gh : Gh) (o : Nat) (v : Value) (b f : Nat) (F : Nat → Prop) : Gh where
  S := gh.S
  hv := fun k => if k = o then v else gh.hv k
  bb := fun k => if k = o then b else gh.bb k
  bo := fun k => if k = o then f else gh.bo k
  F := fun k => if k = o then F else gh.F k

theorem NavO.upd {o o' : Nat} {x : Ob} {p : List (Nat × Nat)} {d : D} {v' : Value} {b f : Nat} {F : Nat → Prop} (h : NavO P w gh o' x p d u) (hne : o' ≠ o) : NavO P w (gh.upd o v' b f F) o' x p d u := by
  unfold NavO at h ⊢
  split <;> simp_all [Gh.upd]

theorem VR.put (h : VR P w gh ob v u) {o : Nat} {x : Ob} {v' : Value} {b f : Nat} {F : Nat → Prop} (ho : look ob o = none) : VR P w (gh.upd o v' b f F) ((o, x) :: ob) v u := by
  have ne : ∀ {o' : Nat} {y : Ob}, look ob o' = some y → o' ≠ o := fun {o' y} hy e => by subst e; rw [ho] at hy; cases hy
  induction h with
  | dead => exact .dead
  | und => exact .und
  | sc h => exact .sc h
  | nil => exact .nil
  | imm h => exact .imm h
  | ref hx hn hle => exact .ref (by rw [look_cons_ne _ _ (ne hx)]; exact hx) (hn.upd (ne hx)) hle
  | @bp o' j cs hx =>
    have := VR.bp (P := P) (w := w) (gh := gh.upd o v' b f F) (ob := (o, x) :: ob) (o := o') (j := j) (cs := cs) (by rw [look_cons_ne _ _ (ne hx)]; exact hx)
    simpa [Gh.upd, ne hx] using this
  | rp hx hn => exact .rp (by rw [look_cons_ne _ _ (ne hx)]; exact hx) (hn.upd (ne hx))
  | ip U hs h => exact .ip U hs h
  | agg hl h1 h ih => exact .agg hl h1 ih
  | tup hl h ih => exact .tup hl ih
  | cond ht hf ih => exact .cond ih hf

theorem ObR.upd {o o' : Nat} {x : Ob} {v' : Value} {b f : Nat} {F : Nat → Prop} (h : ObR P w gh o' x) (hne : o' ≠ o) : ObR P w (gh.upd o v' b f F) o' x := by
  cases h with
  | row h => exact .row (by simpa [Gh.upd, hne] using h)
  | box xs G hb hl h1 hc hx dis nb hFF => exact .box xs G (by simpa [Gh.upd, hne] using hb) hl h1 (by simpa [Gh.upd, hne] using hc) hx dis (by simpa [Gh.upd, hne] using nb) (by simpa [Gh.upd, hne] using hFF)

/-- What is in hand is laid down as an object. -/
theorem Rep.lay (h : Rep P C X st a w gh) {o : Nat} {x : Ob} {v' : Value} {b f : Nat} {F : Nat → Prop} (ho : look st.ob o = none) (hp : C.pin o = none)
    (hx : ObR P w (gh.upd o v' b f F) o x) (hF : ∀ k, F k → X k) : Rep P C (fun k => X k ∧ ¬ F k) (st.put o x) a w (gh.upd o v' b f F) where
  obs := fun o' y hy => by
    rw [St.put] at hy
    by_cases e : o' = o
    · subst e; rw [look_cons_self] at hy; cases hy; exact hx
    · rw [look_cons_ne _ _ e] at hy; exact (h.obs o' y hy).upd e
  dis := fun o1 o2 b1 b2 k h1 h2 hk1 hk2 => by
    rw [St.put] at h1 h2
    by_cases e1 : o1 = o <;> by_cases e2 : o2 = o
    · rw [e1, e2]
    · rw [look_cons_ne _ _ e2] at h2
      simp only [Gh.upd, e1, e2, if_true, if_false] at hk1 hk2
      exact absurd hk2 (h.xF o2 b2 k h2 (hF k hk1))
    · rw [look_cons_ne _ _ e1] at h1
      simp only [Gh.upd, e1, e2, if_true, if_false] at hk1 hk2
      exact absurd hk1 (h.xF o1 b1 k h1 (hF k hk2))
    · rw [look_cons_ne _ _ e1] at h1; rw [look_cons_ne _ _ e2] at h2
      simp only [Gh.upd, e1, e2, if_false] at hk1 hk2
      exact h.dis o1 o2 b1 b2 k h1 h2 hk1 hk2
  sS := h.sS
  nS := fun o' y k hy hk => by
    rw [St.put] at hy
    by_cases e : o' = o
    · simp only [Gh.upd, e, if_true] at hk; exact h.xS k (hF k hk)
    · rw [look_cons_ne _ _ e] at hy; simp only [Gh.upd, e, if_false] at hk; exact h.nS o' y k hy hk
  wrR := fun o' e' es' k hy hk => by
    rw [St.put] at hy
    by_cases e : o' = o
    · simp only [Gh.upd, e, if_true] at hk; exact h.xW k (hF k hk)
    · rw [look_cons_ne _ _ e] at hy; simp only [Gh.upd, e, if_false] at hk; exact h.wrR o' e' es' k hy hk
  wrB := fun o' cs k hy hk hne => by
    rw [St.put] at hy
    by_cases e : o' = o
    · simp only [Gh.upd, e, if_true] at hk; exact h.xW k (hF k hk)
    · rw [look_cons_ne _ _ e] at hy; simp only [Gh.upd, e, if_false] at hk hne; exact h.wrB o' cs k hy hk hne
  wrC := fun o' cs j hy hj => by
    rw [St.put] at hy
    by_cases e : o' = o
    · subst e
      rw [look_cons_self] at hy; cases hy
      cases hx with
      | box xs G hb hl h1 hc hx dis nb hFF =>
        have : (gh.upd o' v' b f F).F o' ((gh.upd o' v' b f F).bb o') := (hFF _).2 (Or.inl rfl)
        have h2 : F b := by simpa [Gh.upd] using this
        have := h.xW b (hF b h2)
        simp only [Gh.upd, if_true]
        exact this.elim Or.inl (fun q => Or.inr (q _))
    · rw [look_cons_ne _ _ e] at hy; simp only [Gh.upd, e, if_false]; exact h.wrC o' cs j hy hj
  kept := h.kept
  pins := fun o' y hy hn => by
    rw [St.put] at hn
    by_cases e : o' = o
    · subst e; rw [hp] at hy; cases hy
    · rw [look_cons_ne _ _ e] at hn; simp only [Gh.upd, e, if_false]; exact h.pins o' y hy hn
  tms := fun t => (h.tms t).put ho
  nt := h.nt
  dfs := h.dfs
  xl := fun k hk => h.xl k hk.1
  xS := fun k hk => h.xS k hk.1
  xF := fun o' y k hy hk => by
    rw [St.put] at hy
    by_cases e : o' = o
    · simp only [Gh.upd, e, if_true]; exact hk.2
    · rw [look_cons_ne _ _ e] at hy; simp only [Gh.upd, e, if_false]; exact h.xF o' y k hy hk.1
  xW := fun k hk => h.xW k hk.1
  s0S := h.s0S
  sZ := h.sZ
end
end Go.Proofs.YtaodmogcjpainaaDoor.AW
