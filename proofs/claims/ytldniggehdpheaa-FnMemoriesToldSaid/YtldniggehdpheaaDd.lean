/- One row of a variable that is written no more; calls that hand back what only is looked at. No condition. -/
import Derived.Test.YtldniggehdpheaaDb
namespace Go.Proofs.Ytldniggehdpheaa.AW
open Go.RowKit
set_option linter.unusedSimpArgs false
set_option linter.unusedVariables false

def St.shc (st : St) (o j : Nat) : St := match look st.ob o with
  | some (.box cs) => (match cs[j]? with
    | some d => st.swap o (.box (cs.set j (shD d)))
    | none => st)
  | _ => st
def Gh.shc (gh : Gh) (o : Nat) (G : Nat → Prop) : Gh := { gh with S := fun k => gh.S k ∨ G k, F := fun o' k => if o' = o then gh.F o k ∧ ¬ G k else gh.F o' k }
section
variable {P : Program} {w w1 : World} {C : Cx} {X : Nat → Prop} {gh gh' : Gh} {st st' st'' : St} {a : Act} {v : V} {u : Value} {ob ob' : List (Nat × Ob)} {S S' : Nat → Prop} {K : St → Prop} {d : D} {F : Nat → Prop}

theorem VR.shc (h : VR P w gh st.ob v u) {o : Nat} {cs cs' : List D} {G : Nat → Prop} (ho : look st.ob o = some (.box cs)) : VR P w (gh.shc o G) (st.swap o (.box cs')).ob (killN o v) u := by
  have hne : ∀ o' x, o' ≠ o → look st.ob o' = some x → look (st.swap o (.box cs')).ob o' = some x := fun o' x hne hx => by
    simp only [St.swap, look, if_neg hne]; rw [look_drop, if_neg (fun e => hne e.symm)]; exact hx
  have hself : look (st.swap o (.box cs')).ob o = some (.box cs') := by simp [St.swap, look]
  induction h with
  | dead => exact .dead
  | und => exact .und
  | sc h => exact .sc h
  | nil => exact .nil
  | imm h => exact .imm (h.mono (fun k hk => Or.inl hk))
  | @ref o' n p y e es A c hx hn hle =>
    by_cases e1 : o' = o
    · subst e1
      rw [ho] at hx; cases hx
      cases p with
      | nil => have := hn.sub; simp [subO] at this
      | cons z p => simp only [killN, if_true]; exact .dead
    · have : killN o (.ref o' p n) = .ref o' p n := by cases p <;> simp [killN, e1]
      rw [this]
      exact .ref (hne o' y e1 hx) (hn.ghc rfl rfl rfl) hle
  | @bp o' j cs0 hx =>
    by_cases e1 : o' = o
    · subst e1
      exact VR.bp (gh := gh.shc o' G) hself
    · exact VR.bp (gh := gh.shc o G) (hne o' _ e1 hx)
  | @rp o' i j p y e es ad c hx hn =>
    by_cases e1 : o' = o
    · subst e1
      rw [ho] at hx; cases hx
      cases p with
      | nil => have := hn.sub; simp [subO] at this
      | cons z p => simp only [killN, if_true]; exact .dead
    · have : killN o (.rp o' p i j) = .rp o' p i j := by cases p <;> simp [killN, e1]
      rw [this]
      exact .rp (hne o' y e1 hx) (hn.ghc rfl rfl rfl)
  | ip U hs h => exact .ip U (Or.inl hs) (fun q d hd => ⟨(h q d hd).1, (h q d hd).2.mono (fun k hk => Or.inl hk)⟩)
  | clo h => exact .clo (gh := gh.shc o G) (h.same (fun k hk => Or.inl hk))
  | agg hl h1 h ih =>
    simp only [killN]
    refine .agg (by rw [killNL_length]; exact hl) h1 (fun i v hv => ?_)
    rw [killNL_get] at hv
    obtain ⟨v0, hv0, rfl⟩ := Option.map_eq_some_iff.1 hv
    exact ih i v0 hv0
  | tup hl h ih =>
    simp only [killN]
    refine .tup (by rw [killNL_length]; exact hl) (fun i v hv => ?_)
    rw [killNL_get] at hv
    obtain ⟨v0, hv0, rfl⟩ := Option.map_eq_some_iff.1 hv
    exact ih i v0 hv0
  | cond ht hf ih => simp only [killN]; exact .cond ih hf

/-- One row of a variable is written no more. -/
theorem Ent.shc (hz : C.full) (o j : Nat) : Ent P C st (st.shc o j) := fun a w gh h => by
  unfold St.shc
  split
  case h_2 => exact ⟨gh, h⟩
  rename_i cs ho
  split
  case h_2 => exact ⟨gh, h⟩
  rename_i d0 hjd
  have hjl : j < cs.length := (List.getElem?_eq_some_iff.1 hjd).1
  have hob := h.obs o _ ho
  cases hob with
  | box xs G hb hl h1 hc hx dis nb hF =>
  have hGF : ∀ k, G j k → gh.F o k := fun k hk => (hF k).2 (Or.inr ⟨j, d0, hjd, hk⟩)
  have hGb : ∀ k, G j k → k ≠ gh.bb o := fun k hk => nb j d0 k hjd hk
  have hget : ∀ i d, (cs.set j (shD d0))[i]? = some d → (i = j ∧ d = shD d0) ∨ (i ≠ j ∧ cs[i]? = some d) := fun i d hd => by
    rw [List.getElem?_set] at hd
    by_cases e1 : j = i
    · subst e1; rw [if_pos rfl, if_pos hjl] at hd; cases hd; exact Or.inl ⟨rfl, rfl⟩
    · rw [if_neg e1] at hd; exact Or.inr ⟨fun e => e1 e.symm, hd⟩
  have hd : ∀ o' x, look (st.swap o (.box (cs.set j (shD d0)))).ob o' = some x → (o' = o ∧ x = .box (cs.set j (shD d0))) ∨ (o' ≠ o ∧ look st.ob o' = some x) := fun o' x hx => by
    simp only [St.swap, look] at hx
    by_cases e1 : o' = o
    · rw [if_pos e1] at hx; cases hx; exact Or.inl ⟨e1, rfl⟩
    · rw [if_neg e1, look_drop, if_neg (fun e => e1 e.symm)] at hx; exact Or.inr ⟨e1, hx⟩
  have hFF : ∀ o' k, (gh.shc o (G j)).F o' k → gh.F o' k := fun o' k hk => by
    simp only [Gh.shc] at hk
    by_cases e1 : o' = o
    · rw [if_pos e1] at hk; subst e1; exact hk.1
    · rw [if_neg e1] at hk; exact hk
  have hold : ∀ o' x, look (st.swap o (.box (cs.set j (shD d0)))).ob o' = some x → ∃ y, look st.ob o' = some y := fun o' x hx => by
    rcases hd o' x hx with ⟨rfl, _⟩ | ⟨_, hx⟩
    · exact ⟨_, ho⟩
    · exact ⟨_, hx⟩
  have hlt := (h.obs o _ ho).lt
  refine ⟨gh.shc o (G j), ?_⟩
  exact {
    obs := fun o' b hb' => by
      rcases hd o' b hb' with ⟨rfl, rfl⟩ | ⟨hne, hb'⟩
      · refine ObR.box xs (fun i k => i ≠ j ∧ G i k) hb (by rw [List.length_set]; exact hl) h1 hc (fun i d hd => ?_) (fun i i' d d' k hd hd' hk hk' => ?_) (fun i d k hd hk => ?_) (fun k => ?_)
        · rcases hget i d hd with ⟨rfl, rfl⟩ | ⟨hne, hd⟩
          · have := Ro.own (Ro.sh ((hx i d0 hjd).ro (S' := (gh.shc o' (G i)).S) (fun k hk => Or.inr hk) (fun k hk => Or.inl hk)))
            exact this.congr (fun k => ⟨fun hh => hh.elim, fun hh => hh.1 rfl⟩)
          · exact ((hx i d hd).mono (fun k hk => Or.inl hk)).congr (fun k => ⟨fun hh => ⟨hne, hh⟩, fun hh => hh.2⟩)
        · rcases hget i d hd with ⟨e, _⟩ | ⟨_, hd⟩
          · exact (hk.1 e).elim
          rcases hget i' d' hd' with ⟨e, _⟩ | ⟨_, hd'⟩
          · exact (hk'.1 e).elim
          exact dis i i' d d' k hd hd' hk.2 hk'.2
        · rcases hget i d hd with ⟨e, _⟩ | ⟨_, hd⟩
          · exact (hk.1 e).elim
          exact nb i d k hd hk.2
        · simp only [Gh.shc, if_true]
          constructor
          · rintro ⟨hk, hn⟩
            rcases (hF k).1 hk with hk | ⟨i, d, hd, hk⟩
            · exact Or.inl hk
            · have hij : i ≠ j := fun e => hn (e ▸ hk)
              exact Or.inr ⟨i, d, by rw [List.getElem?_set, if_neg (fun e => hij e.symm)]; exact hd, hij, hk⟩
          · rintro (hk | ⟨i, d, hd, hij, hk⟩)
            · exact ⟨(hF k).2 (Or.inl hk), fun hg => hGb k hg hk⟩
            · rcases hget i d hd with ⟨e, _⟩ | ⟨_, hd⟩
              · exact (hij e).elim
              · exact ⟨(hF k).2 (Or.inr ⟨i, d, hd, hk⟩), fun hg => hij (dis i j d d0 k hd hjd hk hg)⟩
      · have hm := (h.obs o' b hb').mono (F := G j)
        exact hm.at rfl rfl rfl rfl (by funext k; simp [Gh.shc, Gh.more, hne])
    dis := fun o1 o2 b1 b2 k h1 h2 hk1 hk2 => by
      obtain ⟨y1, h1⟩ := hold _ _ h1
      obtain ⟨y2, h2⟩ := hold _ _ h2
      exact h.dis o1 o2 y1 y2 k h1 h2 (hFF _ _ hk1) (hFF _ _ hk2)
    sS := fun k hk => hk.elim (h.sS k) (fun hk => hlt k (hGF k hk))
    nS := fun o' b k hb hk hS => by
      obtain ⟨y, hy⟩ := hold _ _ hb
      rcases hS with hS | hS
      · exact h.nS o' y k hy (hFF _ _ hk) hS
      · have e1 := h.dis o' o y _ k hy ho (hFF _ _ hk) (hGF k hS)
        subst e1
        simp only [Gh.shc, if_true] at hk
        exact hk.2 hS
    wrR := fun o' e' es' k hb hk => by
      rcases hd _ _ hb with ⟨_, hx⟩ | ⟨_, hx⟩
      · cases hx
      · exact h.wrR o' e' es' k hx (hFF _ _ hk)
    wrB := fun o' cs' k hb hk hne => by
      rcases hd _ _ hb with ⟨e1, hx⟩ | ⟨_, hx⟩
      · subst e1
        exact h.wrB _ cs k ho (hFF _ _ hk) hne
      · exact h.wrB o' cs' k hx (hFF _ _ hk) hne
    wrC := fun o' cs' i hb hi => by
      rcases hd _ _ hb with ⟨e1, hx⟩ | ⟨_, hx⟩
      · subst e1; cases hx
        rw [List.length_set] at hi
        exact h.wrC _ cs i ho hi
      · exact h.wrC o' cs' i hx hi
    kept := h.kept
    pins := fun o' x hp hn => h.pins o' x hp (fun e' => by
      cases hq : look (st.swap o (.box (cs.set j (shD d0)))).ob o' with
      | none => exact hn hq
      | some y =>
        obtain ⟨y2, h2⟩ := hold _ _ hq
        rw [e'] at h2; cases h2)
    tms := fun t => by
      rw [St.get_swap]
      exact (h.tms t).shc ho
    nt := h.nt
    dfs := h.dfs
    xl := h.xl
    xS := fun k hk hS => hS.elim (h.xS k hk) (fun hk' => h.xF o _ k ho hk (hGF k hk'))
    xF := fun o' b k hb hk hk2 => by
      obtain ⟨y, hy⟩ := hold _ _ hb
      exact h.xF o' y k hy hk (hFF _ _ hk2)
    xW := h.xW
    s0S := fun k hk => Or.inl (h.s0S k hk)
    sZ := fun k hk => hk.elim (h.sZ k) (fun hk' => hz k ((h.wrB o cs k ho (hGF k hk') (hGb k hk')).imp id (fun hh => ⟨0, hh 0⟩))) }
/-- A region's operations. -/
def opsOf (k : Nat) : Code → Array Oper
  | .region id ops _ => if id = k then ops else #[]
  | .seq x y => if (opsOf k x).size = 0 then opsOf k y else opsOf k x
  | .cond _ x y => if (opsOf k x).size = 0 then opsOf k y else opsOf k x
  | .loop x => opsOf k x
  | .block _ x => opsOf k x
  | _ => #[]
def schedC (ops : Array Oper) : List (Nat × Bool) → Array Bool → Bool
  | [], _ => true
  | (i, t) :: r, l => (match t with
    | true => (Region.ready .any ops l).contains i && Region.free .any ops l i
    | false => Region.ready .any ops l == [i]) && schedC ops r (l.setIfInBounds i true)
/-- An order that is looked at part by part. -/
theorem schedB_split {ops : Array Oper} {sch s2 : List (Nat × Bool)} (s1 : List (Nat × Bool)) {l l2 : Array Bool} (hs : sch = s1 ++ s2) (h1 : schedC ops s1 l = true) (h2 : s1.foldl (fun l p => l.setIfInBounds p.1 true) l = l2) (h3 : schedB ops s2 l2 = true) : schedB ops sch l = true := by
  subst hs
  induction s1 generalizing l with
  | nil => simp only [List.foldl_nil] at h2; subst h2; exact h3
  | cons p r ih =>
    obtain ⟨i, t⟩ := p
    unfold schedC at h1
    rw [Bool.and_eq_true] at h1
    simp only [List.cons_append]
    unfold schedB
    rw [Bool.and_eq_true]
    exact ⟨h1.1, ih h1.2 (by simpa using h2)⟩
theorem schedOk_of {ops : Array Oper} {sch : List (Nat × Bool)} {l : Array Bool} (h1 : Region.noSelect ops = true) (h2 : (sch.length == ops.size) = true) (h3 : Array.replicate ops.size false = l) (h4 : schedB ops sch l = true) : schedOk ops sch = true := by
  unfold schedOk
  rw [h1, h3, h4, h2]; rfl
end
attribute [go_sem] St.shc
end Go.Proofs.Ytldniggehdpheaa.AW
