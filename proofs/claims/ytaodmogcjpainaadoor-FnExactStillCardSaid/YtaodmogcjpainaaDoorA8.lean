/- An object of one's own turns; what it held is taken out, or something else is put in. No condition. -/
import Derived.Test.YtaodmogcjpainaaDoorA7
namespace Go.Proofs.YtaodmogcjpainaaDoor.AW
open Go.RowKit
set_option linter.unusedSimpArgs false
set_option linter.unusedVariables false

def St.swap (st : St) (o : Nat) (x : Ob) : St := { st with tm := mapT (killN o) st.tm, ob := (o, x) :: drop st.ob o }

/-- Alike but for what they hold. -/
def Ob.like : Ob → Ob → Prop
  | .row e es, .row e' es' => e = e' ∧ es.length = es'.length
  | .box cs, .box cs' => cs.length = cs'.length
  | _, _ => False

section
variable {P : Program} {w w1 : World} {C : Cx} {X : Nat → Prop} {gh : Gh} {st : St} {a : Act} {v : V} {u : Value} {ob : List (Nat × Ob)}

theorem killNL_get (k : Nat) (vs : List V) (i : Nat) : (killNL k vs)[i]? = (vs[i]?).map (killN k) := by
  induction vs generalizing i with
  | nil => simp [killNL]
  | cons v r ih => cases i <;> simp [killNL, ih]
theorem killNL_length (k : Nat) (vs : List V) : (killNL k vs).length = vs.length := by
  induction vs with
  | nil => rfl
  | cons v r ih => simp [killNL, ih]

theorem look_swap (st : St) (o o' : Nat) (x : Ob) : look (st.swap o x).ob o' = if o' = o then some x else look st.ob o' := by
  unfold St.swap
  simp only [look]
  by_cases h : o' = o
  · rw [if_pos h, if_pos h]
  · rw [if_neg h, if_neg h, look_drop, if_neg (fun e => h e.symm)]

theorem St.get_swap (st : St) (o t : Nat) (x : Ob) : (st.swap o x).get t = killN o (st.get t) := by
  unfold St.get St.swap
  simp only [look_mapT]
  cases look st.tm t <;> simp [killN]

theorem Gh.upd_self (gh : Gh) (o : Nat) (F : Nat → Prop) : (gh.upd o (gh.hv o) (gh.bb o) (gh.bo o) F).hv = gh.hv ∧ (gh.upd o (gh.hv o) (gh.bb o) (gh.bo o) F).bb = gh.bb ∧ (gh.upd o (gh.hv o) (gh.bb o) (gh.bo o) F).bo = gh.bo := by
  refine ⟨funext fun k => ?_, funext fun k => ?_, funext fun k => ?_⟩ <;> simp only [Gh.upd] <;> split <;> simp_all

theorem NavO.ghc {gh' : Gh} {o : Nat} {x : Ob} {p : List (Nat × Nat)} {d : D} (h : NavO P w gh o x p d u) (h1 : gh'.hv = gh.hv) (h2 : gh'.bb = gh.bb) (h3 : gh'.bo = gh.bo) : NavO P w gh' o x p d u := by
  unfold NavO at h ⊢
  split <;> simp_all

theorem VR.swap {o : Nat} {x x' : Ob} {F : Nat → Prop} {st : St} (h : VR P w gh st.ob v u) (ho : look st.ob o = some x) (hl : x.like x')
    (hob : ∀ o y, look st.ob o = some y → ObR P w gh o y) (hF : ∀ o' y k, o' ≠ o → look st.ob o' = some y → gh.F o' k → w1.heap[k]? = w.heap[k]?) (hS : ∀ k, gh.S k → w1.heap[k]? = w.heap[k]?) :
    VR P w1 (gh.upd o (gh.hv o) (gh.bb o) (gh.bo o) F) (st.swap o x').ob (killN o v) u := by
  obtain ⟨g1, g2, g3⟩ := gh.upd_self o F
  induction h with
  | dead => exact .dead
  | und => exact .und
  | sc h => exact .sc h
  | nil => exact .nil
  | imm h => exact .imm (h.move hS)
  | @ref o' n p y e es A c hx hn hle =>
    by_cases e1 : o' = o
    · subst e1
      rw [ho] at hx; cases hx
      cases p with
      | cons z p => simp only [killN, if_true]; exact .dead
      | nil =>
        cases x with
        | box cs => exact hn.elim
        | row q0 es0 =>
          cases x' with
          | box cs => exact hl.elim
          | row q1 es1 =>
            obtain ⟨hq, hlen⟩ := hl
            simp only [killN]
            have hh : gh.hv o' = .slice A es.length c ∧ D.row false q0 es0 = .row false e es := by
              generalize hd : D.row false q0 es0 = d at hn
              generalize hv : gh.hv o' = y at hn
              simp only [NavO] at hn
              rw [hd, hv] at hn
              cases hn; exact ⟨rfl, rfl⟩
            obtain ⟨hh, hd⟩ := hh
            cases hd
            subst hq
            have hlk : look (st.swap o' (.row e es1)).ob o' = some (.row e es1) := by rw [look_swap, if_pos rfl]
            refine .ref (x := .row e es1) (e := e) (es := es1) hlk ?_ (by omega)
            show Nav P w1 (.row false e es1) ((gh.upd o' (gh.hv o') (gh.bb o') (gh.bo o') F).hv o') [] (.row false e es1) (.slice A es1.length c)
            rw [g1, hh, hlen]
            exact .nil
    · have : killN o (.ref o' p n) = .ref o' p n := by
        cases p <;> simp [killN, e1]
      rw [this]
      exact .ref (by rw [look_swap, if_neg e1]; exact hx) (((hob o' y hx).navO hn (fun k hk => hF o' y k e1 hx hk)).ghc g1 g2 g3) hle
  | @bp o' j cs hx =>
    simp only [killN]
    by_cases e1 : o' = o
    · subst e1
      rw [ho] at hx; cases hx
      cases x' with
      | row => exact hl.elim
      | box cs' =>
        have := VR.bp (P := P) (w := w1) (gh := gh.upd o' (gh.hv o') (gh.bb o') (gh.bo o') F) (ob := (st.swap o' (.box cs')).ob) (o := o') (j := j) (cs := cs') (by rw [look_swap, if_pos rfl])
        rwa [g2, g3] at this
    · have := VR.bp (P := P) (w := w1) (gh := gh.upd o (gh.hv o) (gh.bb o) (gh.bo o) F) (ob := (st.swap o x').ob) (o := o') (j := j) (cs := cs) (by rw [look_swap, if_neg e1]; exact hx)
      rwa [g2, g3] at this
  | @rp o' i j p y e es ad c hx hn =>
    by_cases e1 : o' = o
    · subst e1
      rw [ho] at hx; cases hx
      cases p with
      | cons z p => simp only [killN, if_true]; exact .dead
      | nil =>
        cases x with
        | box cs => exact hn.elim
        | row q0 es0 =>
          cases x' with
          | box cs => exact hl.elim
          | row q1 es1 =>
            obtain ⟨hq, hlen⟩ := hl
            simp only [killN]
            have hh : gh.hv o' = .slice (some ad) es.length c ∧ D.row false q0 es0 = .row false e es := by
              generalize hd : D.row false q0 es0 = d at hn
              generalize hv : gh.hv o' = y at hn
              simp only [NavO] at hn
              rw [hd, hv] at hn
              cases hn; exact ⟨rfl, rfl⟩
            obtain ⟨hh, hd⟩ := hh
            cases hd
            subst hq
            have hlk : look (st.swap o' (.row e es1)).ob o' = some (.row e es1) := by rw [look_swap, if_pos rfl]
            refine .rp (x := .row e es1) (e := e) (es := es1) (c := c) hlk ?_
            show Nav P w1 (.row false e es1) ((gh.upd o' (gh.hv o') (gh.bb o') (gh.bo o') F).hv o') [] (.row false e es1) (.slice (some ad) es1.length c)
            rw [g1, hh, hlen]
            exact .nil
    · have : killN o (.rp o' p i j) = .rp o' p i j := by
        cases p <;> simp [killN, e1]
      rw [this]
      exact .rp (by rw [look_swap, if_neg e1]; exact hx) (((hob o' y hx).navO hn (fun k hk => hF o' y k e1 hx hk)).ghc g1 g2 g3)
  | ip U hs h => exact .ip U hs fun q d hd => ⟨(cell_same (x := ⟨_, _, none⟩) (hS _ hs)).trans (h q d hd).1, (h q d hd).2.move hS⟩
  | agg hl' h1 h ih =>
    simp only [killN]
    refine .agg (by rw [killNL_length]; exact hl') h1 (fun i v' hv' => ?_)
    rw [killNL_get] at hv'
    obtain ⟨v0, hv0, rfl⟩ := Option.map_eq_some_iff.1 hv'
    exact ih i v0 hv0
  | tup hl' h ih =>
    simp only [killN]
    refine .tup (by rw [killNL_length]; exact hl') (fun i v' hv' => ?_)
    rw [killNL_get] at hv'
    obtain ⟨v0, hv0, rfl⟩ := Option.map_eq_some_iff.1 hv'
    exact ih i v0 hv0
  | cond ht hf ih =>
    simp only [killN]
    exact .cond ih hf

/-- An object turns into another one at the same place. -/
theorem Rep.swap (h : Rep P C X st a w gh) {o : Nat} {x x' : Ob} {F : Nat → Prop} {X' : Nat → Prop} (ho : look st.ob o = some x) (hl : x.like x')
    (hsz : w.heap.size ≤ w1.heap.size) (hFo : ∀ o' y k, o' ≠ o → look st.ob o' = some y → gh.F o' k → w1.heap[k]? = w.heap[k]?) (hS : ∀ k, gh.S k → w1.heap[k]? = w.heap[k]?)
    (hk : w.keptBut w1 (fun p => ∃ b f, p = .cell b f ∧ (C.w0.heap.size ≤ b ∨ C.may b f)))
    (hx : ObR P w1 (gh.upd o (gh.hv o) (gh.bb o) (gh.bo o) F) o x') (hF : ∀ k, F k → gh.F o k ∨ X k) (hX : ∀ k, X' k → (gh.F o k ∨ X k) ∧ ¬ F k)
    (hbx : ∀ cs k, x = .box cs → X' k → k ≠ gh.bb o) :
    Rep P C X' (st.swap o x') a w1 (gh.upd o (gh.hv o) (gh.bb o) (gh.bo o) F) := by
  obtain ⟨g1, g2, g3⟩ := gh.upd_self o F
  have gF : ∀ o', o' ≠ o → (gh.upd o (gh.hv o) (gh.bb o) (gh.bo o) F).F o' = gh.F o' := fun o' e => by simp [Gh.upd, e]
  have gFo : (gh.upd o (gh.hv o) (gh.bb o) (gh.bo o) F).F o = F := by simp [Gh.upd]
  have hother : ∀ o' y k, o' ≠ o → look st.ob o' = some y → gh.F o' k → ¬ F k := fun o' y k e hy hk hk' => by
    rcases hF k hk' with hk' | hk'
    · exact e (h.dis o' o y x k hy ho hk hk')
    · exact h.xF o' y k hy hk' hk
  have wr : ∀ k, F k → (∀ cs, x = .box cs → k ≠ gh.bb o) → C.w0.heap.size ≤ k ∨ ∀ f, C.may k f := fun k hk hb => by
    rcases hF k hk with hk | hk
    · cases x with
      | row e es => exact h.wrR o e es k ho hk
      | box cs => exact h.wrB o cs k ho hk (hb cs rfl)
    · exact h.xW k hk
  exact {
    obs := fun o' y hy => by
      rw [look_swap] at hy
      by_cases e : o' = o
      · rw [if_pos e] at hy; cases hy; subst e; exact hx
      · rw [if_neg e] at hy
        exact ((h.obs o' y hy).world (fun k hk => hFo o' y k e hy hk) hS).upd e
    dis := fun o1 o2 b1 b2 k h1 h2 hk1 hk2 => by
      rw [look_swap] at h1 h2
      by_cases e1 : o1 = o <;> by_cases e2 : o2 = o
      · rw [e1, e2]
      · rw [if_neg e2] at h2; rw [e1, gFo] at hk1; rw [gF o2 e2] at hk2
        exact absurd hk1 (hother o2 b2 k e2 h2 hk2)
      · rw [if_neg e1] at h1; rw [e2, gFo] at hk2; rw [gF o1 e1] at hk1
        exact absurd hk2 (hother o1 b1 k e1 h1 hk1)
      · rw [if_neg e1] at h1; rw [if_neg e2] at h2; rw [gF o1 e1] at hk1; rw [gF o2 e2] at hk2
        exact h.dis o1 o2 b1 b2 k h1 h2 hk1 hk2
    sS := fun k hk => Nat.lt_of_lt_of_le (h.sS k hk) hsz
    nS := fun o' y k hy hk => by
      rw [look_swap] at hy
      by_cases e : o' = o
      · rw [e, gFo] at hk
        rcases hF k hk with hk | hk
        · exact h.nS o x k ho hk
        · exact h.xS k hk
      · rw [if_neg e] at hy; rw [gF o' e] at hk; exact h.nS o' y k hy hk
    wrR := fun o' e' es' k hy hk => by
      rw [look_swap] at hy
      by_cases e : o' = o
      · rw [e, gFo] at hk
        rw [if_pos e] at hy; cases hy
        exact wr k hk (fun cs hc => by subst hc; exact hl.elim)
      · rw [if_neg e] at hy; rw [gF o' e] at hk; exact h.wrR o' e' es' k hy hk
    wrB := fun o' cs k hy hk hne => by
      rw [look_swap] at hy
      by_cases e : o' = o
      · rw [e, gFo] at hk
        refine wr k hk (fun cs' hc => ?_)
        rw [g2, e] at hne; exact hne
      · rw [if_neg e] at hy; rw [gF o' e] at hk; rw [g2] at hne; exact h.wrB o' cs k hy hk hne
    wrC := fun o' cs j hy hj => by
      rw [look_swap] at hy
      rw [g2, g3]
      by_cases e : o' = o
      · rw [if_pos e] at hy; cases hy
        subst e
        cases x with
        | row => exact hl.elim
        | box cs0 => exact h.wrC o' cs0 j ho (by have : cs0.length = cs.length := hl; omega)
      · rw [if_neg e] at hy; exact h.wrC o' cs j hy hj
    kept := (h.less (X' := X) (fun _ h => h)).kept |> fun h0 => keptBut_old (World.keptBut_trans (World.keptBut_mono (fun p hp => Or.inl hp) h0) (World.keptBut_mono (fun p hp => by
      obtain ⟨b, f, rfl, hb | hb⟩ := hp
      · exact Or.inr hb
      · exact Or.inl ⟨b, f, rfl, hb⟩) hk))
    pins := fun o' y hy hn => by
      rw [look_swap] at hn
      rw [g1, g2, g3]
      refine h.pins o' y hy (fun hn' => hn ?_)
      by_cases e : o' = o
      · subst e; rw [ho] at hn'; cases hn'
      · rw [if_neg e]; exact hn'
    tms := fun t => by rw [St.get_swap]; exact (h.tms t).swap ho hl h.obs hFo hS
    nt := h.nt
    dfs := h.dfs
    xl := fun k hk => by
      rcases (hX k hk).1 with hk | hk
      · exact Nat.lt_of_lt_of_le ((h.obs o x ho).lt k hk) hsz
      · exact Nat.lt_of_lt_of_le (h.xl k hk) hsz
    xS := fun k hk => by
      rcases (hX k hk).1 with hk | hk
      · exact h.nS o x k ho hk
      · exact h.xS k hk
    xF := fun o' y k hy hk => by
      rw [look_swap] at hy
      by_cases e : o' = o
      · rw [e, gFo]; exact (hX k hk).2
      · rw [if_neg e] at hy; rw [gF o' e]
        rcases (hX k hk).1 with hk | hk
        · exact fun hk' => e (h.dis o' o y x k hy ho hk' hk)
        · exact h.xF o' y k hy hk
    s0S := h.s0S
    sZ := h.sZ
    xW := fun k hk => by
      rcases (hX k hk).1 with hk' | hk'
      · cases x with
        | row e es => exact h.wrR o e es k ho hk'
        | box cs => exact h.wrB o cs k ho hk' (hbx cs k rfl hk)
      · exact h.xW k hk' }

/-- A row is taken out of a variable. -/
theorem Rep.hole (h : Rep P C X st a w gh) {o j : Nat} {cs : List D} {e : TypeId} {es : List (List D)} (ho : look st.ob o = some (.box cs)) (hj : cs[j]? = some (.row false e es)) :
    ∃ (gh' : Gh) (F : Nat → Prop) (y : Value), Rep P C (fun k => X k ∨ F k) (st.swap o (.box (cs.set j .dead))) a w gh' ∧ Ow P w gh.S (.row false e es) y F ∧ gh'.S = gh.S ∧ gh'.hv = gh.hv ∧ gh'.bb = gh.bb ∧ gh'.bo = gh.bo ∧ (∀ k, F k → ¬ X k) ∧
      w.cell? ⟨gh.bb o, gh.bo o + j, none⟩ = some y := by
  have hb := h.obs o _ ho
  cases hb with
  | box xs G hb hl h1 hc hx dis nb hFF =>
    obtain ⟨g1, g2, g3⟩ := gh.upd_self o (fun k => gh.F o k ∧ ¬ G j k)
    have hjl : j < cs.length := (List.getElem?_eq_some_iff.1 hj).1
    refine ⟨gh.upd o (gh.hv o) (gh.bb o) (gh.bo o) (fun k => gh.F o k ∧ ¬ G j k), G j, xs.getD j undef, ?_, hx j _ hj, rfl, g1, g2, g3, fun k hk hX => h.xF o _ k ho hX ((hFF k).2 (Or.inr ⟨j, _, hj, hk⟩)), ?_⟩
    · refine h.swap (x' := .box (cs.set j .dead)) ho (by simp [Ob.like]) (Nat.le_refl _) (fun _ _ _ _ _ _ => rfl) (fun _ _ => rfl) (World.keptBut_refl w _) ?_ (fun k hk => Or.inl hk.1) (fun k hk => ?_) (fun cs' k _ hk => ?_)
      · let G' : Nat → Nat → Prop := fun j' k => j' ≠ j ∧ G j' k
        refine .box xs G' (by rw [g2]; exact hb) (by simpa using hl) h1 (by rw [g2, g3]; exact hc) (fun j' d hd => ?_) (fun j1 j2 d1 d2 k hd1 hd2 hk1 hk2 => ?_) (fun j' d k hd hk => ?_) (fun k => ?_)
        · by_cases e' : j' = j
          · subst e'
            rw [List.getElem?_set_self hjl] at hd; cases hd
            exact (Ow.dead (hx j' _ hj).one).congr fun k => ⟨False.elim, fun hk => hk.1 rfl⟩
          · rw [List.getElem?_set_ne (fun e => e' e.symm)] at hd
            exact (hx j' d hd).congr fun k => ⟨fun hk => ⟨e', hk⟩, fun hk => hk.2⟩
        · obtain ⟨n1, hk1⟩ := hk1
          obtain ⟨n2, hk2⟩ := hk2
          rw [List.getElem?_set_ne (fun e => n1 e.symm)] at hd1
          rw [List.getElem?_set_ne (fun e => n2 e.symm)] at hd2
          exact dis j1 j2 d1 d2 k hd1 hd2 hk1 hk2
        · obtain ⟨n1, hk⟩ := hk
          rw [List.getElem?_set_ne (fun e => n1 e.symm)] at hd
          rw [g2]; exact nb j' d k hd hk
        · rw [g2]
          simp only [Gh.upd, if_true]
          constructor
          · rintro ⟨hk, hn⟩
            rcases (hFF k).1 hk with hk | ⟨j', d, hd, hk⟩
            · exact Or.inl hk
            · have e' : j' ≠ j := fun e => hn (e ▸ hk)
              exact Or.inr ⟨j', d, by rw [List.getElem?_set_ne (fun e => e' e.symm)]; exact hd, e', hk⟩
          · rintro (rfl | ⟨j', d, hd, e', hk⟩)
            · exact ⟨(hFF _).2 (Or.inl rfl), fun hk => nb j _ _ hj hk rfl⟩
            · rw [List.getElem?_set_ne (fun e => e' e.symm)] at hd
              exact ⟨(hFF k).2 (Or.inr ⟨j', d, hd, hk⟩), fun hk' => e' (dis j' j d _ k hd hj hk hk')⟩
      · rcases hk with hk | hk
        · exact ⟨Or.inr hk, fun hk' => h.xF o _ k ho hk hk'.1⟩
        · exact ⟨Or.inl ((hFF k).2 (Or.inr ⟨j, _, hj, hk⟩)), fun hk' => hk'.2 hk⟩
      · rcases hk with hk | hk
        · rintro rfl; exact h.xF o _ _ ho hk ((hFF _).2 (Or.inl rfl))
        · exact nb j _ k hj hk
    · have hjx : j < xs.length := by omega
      exact (hc j hjx).trans (getD_of_lt hjx)
end
end Go.Proofs.YtaodmogcjpainaaDoor.AW
