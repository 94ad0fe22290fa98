/- Regions where several things may come first; the rows of a variable that are written no more. No condition. -/
import Derived.Test.YtldniggehdpheaaFa0
namespace Go.Proofs.Ytldniggehdpheaa.AW
open Go.RowKit
set_option linter.unusedSimpArgs false
set_option linter.unusedVariables false

/-- Orders: one after another, or whichever of some comes first. -/
theorem drop0 {α : Type} (l : List α) : List.drop (Int.toNat 0) l = l := rfl
theorem row1_getq' {α : Type} (f : α → D) (l : List α) {i : Nat} (h : i < l.length) : (row1 f l)[i]? = some [f l[i]] := by simp [row1, h]
inductive Sch where
  | done
  | one (i : Nat) (t : Bool) (r : Sch)
  | two (i : Nat) (r : Sch) (j : Nat) (s : Sch)
  | three (i : Nat) (r : Sch) (j : Nat) (s : Sch) (k : Nat) (q : Sch)

def aStep (P : Program) (C : Cx) (ops : Array Oper) (i : Nat) (st : St) (K : St → Prop) : Prop := match ops[i]? with
  | some o => dstOk st o ∧ aOper P C ops st o K
  | none => False

def aFork (P : Program) (C : Cx) (ops : Array Oper) : Sch → St → (St → Prop) → Prop
  | .done, st, K => K st
  | .one i t r, st, K => match ops[i]? with
    | some o => dstOk st o ∧ match t with
      | true => (match sOper P ops st o with
        | some (s, v) => s ∧ ev (b := ⟨fun st' => aFork P C ops r st' K⟩) (setDst st o.dst v)
        | none => False)
      | false => aOper P C ops st o (fun st' => aFork P C ops r st' K)
    | none => False
  | .two i r j s, st, K => aStep P C ops i st (fun st' => aFork P C ops r st' K) ∧ aStep P C ops j st (fun st' => aFork P C ops s st' K)
  | .three i r j s k q, st, K => aStep P C ops i st (fun st' => aFork P C ops r st' K) ∧ aStep P C ops j st (fun st' => aFork P C ops s st' K) ∧ aStep P C ops k st (fun st' => aFork P C ops q st' K)

def forkB (ops : Array Oper) : Sch → Array Bool → Nat → Bool
  | .done, l, n => (Region.ready .any ops l).isEmpty && n == 0
  | .one i t r, l, n + 1 => (match t with
    | true => (Region.ready .any ops l).contains i && Region.free .any ops l i
    | false => Region.ready .any ops l == [i]) && forkB ops r (l.setIfInBounds i true) n
  | .two i r j s, l, n + 1 => Region.ready .any ops l == [i, j] && (forkB ops r (l.setIfInBounds i true) n && forkB ops s (l.setIfInBounds j true) n)
  | .three i r j s k q, l, n + 1 => Region.ready .any ops l == [i, j, k] && (forkB ops r (l.setIfInBounds i true) n && (forkB ops s (l.setIfInBounds j true) n && forkB ops q (l.setIfInBounds k true) n))
  | _, _, 0 => false

def forkOk (ops : Array Oper) (sch : Sch) : Bool := Region.noSelect ops && forkB ops sch (Array.replicate ops.size false) ops.size

section
variable {P : Program} {w w1 : World} {C : Cx} {X : Nat → Prop} {gh gh1 : Gh} {st : St} {a : Act} {v : V} {u : Value} {ob : List (Nat × Ob)} {S : Nat → Prop} {K : St → Prop}

theorem aFork_sound (hz : Sized P) {ops : Array Oper} {Q : Exit → St → Prop} {w : World} {gh : Gh} {C0 : Cx} {X0 : Nat → Prop} {st0 : St} {a0 : Act} (h0 : Rep P C0 X0 st0 a0 w gh) (hns : Region.noSelect ops = true) :
    ∀ (sch : Sch) (l : Array Bool) (n : Nat) {st : St} {a : Act} {w1 : World} {gh1 : Gh}, Rep P (C0.here w gh.S) No st a w1 gh1 → forkB ops sch l n = true → aFork P (C0.here w gh.S) ops sch st (Q .normal) →
    wpAnyH P .any ops (fun e a' w' => match e with | .normal => Up P (C0.here w gh.S) (Q .normal) a' w' | _ => False) (fun w' => ∀ k, gh.S k → w'.heap[k]? = w.heap[k]?) n l a w1 := by
  have stepOf : ∀ (i : Nat) (r : Sch) (l : Array Bool) (n : Nat) {st : St} {a : Act} {w1 : World} {gh1 : Gh}, Rep P (C0.here w gh.S) No st a w1 gh1 →
      (∀ {st : St} {a : Act} {w1 : World} {gh1 : Gh}, Rep P (C0.here w gh.S) No st a w1 gh1 → aFork P (C0.here w gh.S) ops r st (Q .normal) → wpAnyH P .any ops (fun e a' w' => match e with | .normal => Up P (C0.here w gh.S) (Q .normal) a' w' | _ => False) (fun w' => ∀ k, gh.S k → w'.heap[k]? = w.heap[k]?) n (l.setIfInBounds i true) a w1) →
      aStep P (C0.here w gh.S) ops i st (fun st' => aFork P (C0.here w gh.S) ops r st' (Q .normal)) →
      wpOp P ops (fun e a' w' => match e with | .normal => Up P (C0.here w gh.S) (Q .normal) a' w' | _ => False) i (fun a' w' => (∀ k, gh.S k → w'.heap[k]? = w.heap[k]?) ∧ wpAnyH P .any ops (fun e a' w' => match e with | .normal => Up P (C0.here w gh.S) (Q .normal) a' w' | _ => False) (fun w' => ∀ k, gh.S k → w'.heap[k]? = w.heap[k]?) n (l.setIfInBounds i true) a' w') a w1 := fun i r l n st a w1 gh1 h hrec hk => by
    unfold aStep at hk
    split at hk
    case h_2 => exact hk.elim
    rename_i o ho
    obtain ⟨hdst, hk⟩ := hk
    unfold wpOp
    simp only [ho]
    have hop := oper_sound (Q := fun e a' w' => match e with | .normal => Up P (C0.here w gh.S) (Q .normal) a' w' | _ => False) hz h hdst hk
    have next : ∀ a' w', Up P (C0.here w gh.S) (fun st' => aFork P (C0.here w gh.S) ops r st' (Q .normal)) a' w' → (∀ k, gh.S k → w'.heap[k]? = w.heap[k]?) ∧
        wpAnyH P .any ops (fun e a' w' => match e with | .normal => Up P (C0.here w gh.S) (Q .normal) a' w' | _ => False) (fun w' => ∀ k, gh.S k → w'.heap[k]? = w.heap[k]?) n (l.setIfInBounds i true) a' w' := fun a' w' ⟨st', gh', hk', h'⟩ =>
      ⟨h0.lent h', hrec h' hk'⟩
    split
    · rename_i hw
      rw [if_pos hw] at hop
      exact Or.inl (Oper.wp_mono next hop)
    · rename_i hw
      rw [if_neg hw] at hop
      exact next _ _ hop
  intro sch
  induction sch with
  | done =>
    intro l n st a w1 gh1 h hb hk
    simp only [forkB, Bool.and_eq_true, List.isEmpty_iff] at hb
    exact wpAnyH_done hb.1 ⟨st, gh1, hk, h⟩ _
  | one i t r ih =>
    intro l n st a w1 gh1 h hb hk
    cases n with
    | zero => simp [forkB] at hb
    | succ n =>
    simp only [forkB, Bool.and_eq_true] at hb
    obtain ⟨hb1, hb2⟩ := hb
    cases t with
    | true =>
      unfold aFork at hk
      split at hk
      case h_2 => exact hk.elim
      rename_i o ho
      obtain ⟨hdst, hk⟩ := hk
      simp only at hk hb1
      simp only [Bool.and_eq_true] at hb1
      split at hk
      case h_2 => exact hk.elim
      rename_i s v hp
      obtain ⟨y, hy, hv⟩ := sOper_sound (Sw := fun w' => ∀ k, gh.S k → w'.heap[k]? = w.heap[k]?) hz h (fun w' hw k hk => by
        have h1 := h.sZ k hk
        exact (hw k h1).trans (h0.lent h k h1).symm) hp hk.1
      exact wpAnyH_take ho hns hb1.2 hb1.1 (fun c a w hq => hq.elim) hy (h0.lent h) (ih _ _ (h.dst (dst_lt hdst) hv) hb2 hk.2)
    | false =>
      simp only at hb1
      refine wpAnyH_all (rs := [i]) (by simpa using hb1) (by simp) (fun i' hi' => ?_)
      rw [List.mem_singleton] at hi'
      subst hi'
      refine stepOf i' r l n h (fun h' hk' => ih _ _ h' hb2 hk') ?_
      unfold aFork at hk
      unfold aStep
      split at hk
      · exact hk
      · exact hk.elim
  | two i r j s ih1 ih2 =>
    intro l n st a w1 gh1 h hb hk
    cases n with
    | zero => simp [forkB] at hb
    | succ n =>
    simp only [forkB, Bool.and_eq_true, beq_iff_eq] at hb
    obtain ⟨hb1, hb2, hb3⟩ := hb
    obtain ⟨hk1, hk2⟩ := hk
    refine wpAnyH_all (rs := [i, j]) hb1 (by simp) (fun i' hi' => ?_)
    simp only [List.mem_cons, List.not_mem_nil, or_false] at hi'
    rcases hi' with rfl | rfl
    · exact stepOf _ r l n h (fun h' hk' => ih1 _ _ h' hb2 hk') hk1
    · exact stepOf _ s l n h (fun h' hk' => ih2 _ _ h' hb3 hk') hk2
  | three i r j s k q ih1 ih2 ih3 =>
    intro l n st a w1 gh1 h hb hk
    cases n with
    | zero => simp [forkB] at hb
    | succ n =>
    simp only [forkB, Bool.and_eq_true, beq_iff_eq] at hb
    obtain ⟨hb1, hb2, hb3, hb4⟩ := hb
    obtain ⟨hk1, hk2, hk3⟩ := hk
    refine wpAnyH_all (rs := [i, j, k]) hb1 (by simp) (fun i' hi' => ?_)
    simp only [List.mem_cons, List.not_mem_nil, or_false] at hi'
    rcases hi' with rfl | rfl | rfl
    · exact stepOf _ r l n h (fun h' hk' => ih1 _ _ h' hb2 hk') hk1
    · exact stepOf _ s l n h (fun h' hk' => ih2 _ _ h' hb3 hk') hk2
    · exact stepOf _ q l n h (fun h' hk' => ih3 _ _ h' hb4 hk') hk3

/-- A region whose order is drawn, where several things may come first. -/
theorem Tri.fork (hz : Sized P) {id : Nat} {ops : Array Oper} {Q : Exit → St → Prop} (sch : Sch) (hm : P.follows .mixedOrders = true) (hb : forkOk ops sch = true) (hk : ∀ C', C'.pin = C.pin → aFork P C' ops sch st (Q .normal)) : Tri P C st (.region id ops true) Q := fun a w gh hR => by
  simp only [forkOk, Bool.and_eq_true] at hb
  obtain ⟨hb1, hb2⟩ := hb
  have hd := hR.drew
  refine Code.wp_mono (fun e a' w' hq => ?_) (wp_region_held (S := fun w' => ∀ k, gh.S k → w'.heap[k]? = w.drew.heap[k]?) hm ?_ (Q := fun e a' w' => match e with | .normal => Up P (C.here w.drew gh.S) (Q .normal) a' w' | _ => False))
  · cases e with
    | normal =>
      obtain ⟨st', gh', hk', h'⟩ := hq
      exact ⟨st', gh', hk', hd.back h'⟩
    | _ => exact hq.elim
  · exact aFork_sound hz hd hb1 sch (Array.replicate ops.size false) ops.size hd.here hb2 (Q := Q) (hk _ rfl)

/-! ### A variable whose rows are written no more -/
def St.shb (st : St) (o : Nat) : St := match look st.ob o with
  | some (.box cs) => st.swap o (.box (shL cs))
  | _ => st
def Gh.shb (gh : Gh) (o : Nat) : Gh := { gh with S := fun k => gh.S k ∨ (gh.F o k ∧ k ≠ gh.bb o), F := fun o' k => if o' = o then k = gh.bb o else gh.F o' k }

theorem Ro.own {d : D} (h : Ro P w S (shD d) u) : Ow P w S (shD d) u (fun _ => False) := by
  cases d with
  | dead => exact .dead h.one
  | sc v => simp only [shD] at h ⊢; cases h with | sc h => exact .sc h
  | row sh e es => simp only [shD] at h ⊢; exact .shared h

theorem VR.shb (h : VR P w gh st.ob v u) {o : Nat} {cs : List D} (ho : look st.ob o = some (.box cs)) : VR P w (gh.shb o) (st.swap o (.box (shL cs))).ob (killN o v) u := by
  have hne : ∀ o' x, o' ≠ o → look st.ob o' = some x → look (st.swap o (.box (shL cs))).ob o' = some x := fun o' x hne hx => by
    simp only [St.swap, look, if_neg hne]; rw [look_drop, if_neg (fun e => hne e.symm)]; exact hx
  have hself : look (st.swap o (.box (shL cs))).ob o = some (.box (shL cs)) := by simp [St.swap, look]
  induction h with
  | dead => exact .dead
  | und => exact .und
  | sc h => exact .sc h
  | nil => exact .nil
  | imm h => exact .imm (h.mono (fun k hk => Or.inl hk))
  | @ref o' n p y e es A c hx hn hle =>
    by_cases e1 : o' = o
    · subst e1
      rw [ho] at hx; cases hx
      cases p with
      | nil => have := hn.sub; simp [subO] at this
      | cons z p => simp only [killN, if_true]; exact .dead
    · have : killN o (.ref o' p n) = .ref o' p n := by cases p <;> simp [killN, e1]
      rw [this]
      exact .ref (hne o' y e1 hx) (hn.ghc rfl rfl rfl) hle
  | @bp o' j cs' hx =>
    by_cases e1 : o' = o
    · subst e1
      exact VR.bp (gh := gh.shb o') hself
    · exact VR.bp (gh := gh.shb o) (hne o' _ e1 hx)
  | @rp o' i j p y e es ad c hx hn =>
    by_cases e1 : o' = o
    · subst e1
      rw [ho] at hx; cases hx
      cases p with
      | nil => have := hn.sub; simp [subO] at this
      | cons z p => simp only [killN, if_true]; exact .dead
    · have : killN o (.rp o' p i j) = .rp o' p i j := by cases p <;> simp [killN, e1]
      rw [this]
      exact .rp (hne o' y e1 hx) (hn.ghc rfl rfl rfl)
  | ip U hs h => exact .ip U (Or.inl hs) (fun q d hd => ⟨(h q d hd).1, (h q d hd).2.mono (fun k hk => Or.inl hk)⟩)
  | clo h => exact .clo (gh := gh.shb o) (h.same (fun k hk => Or.inl hk))
  | agg hl h1 h ih =>
    simp only [killN]
    refine .agg (by rw [killNL_length]; exact hl) h1 (fun i v hv => ?_)
    rw [killNL_get] at hv
    obtain ⟨v0, hv0, rfl⟩ := Option.map_eq_some_iff.1 hv
    exact ih i v0 hv0
  | tup hl h ih =>
    simp only [killN]
    refine .tup (by rw [killNL_length]; exact hl) (fun i v hv => ?_)
    rw [killNL_get] at hv
    obtain ⟨v0, hv0, rfl⟩ := Option.map_eq_some_iff.1 hv
    exact ih i v0 hv0
  | cond ht hf ih => simp only [killN]; exact .cond ih hf

theorem Ent.shb (hz : C.full) (o : Nat) : Ent P C st (st.shb o) := fun a w gh h => by
  unfold St.shb
  split
  case h_2 => exact ⟨gh, h⟩
  rename_i cs ho
  have hob := h.obs o _ ho
  have hbF : gh.F o (gh.bb o) := by cases hob with | box xs G hb hl h1 hc hx dis nb hF => exact (hF _).2 (Or.inl rfl)
  have hd : ∀ o' x, look (st.swap o (.box (shL cs))).ob o' = some x → (o' = o ∧ x = .box (shL cs)) ∨ (o' ≠ o ∧ look st.ob o' = some x) := fun o' x hx => by
    simp only [St.swap, look] at hx
    by_cases e1 : o' = o
    · rw [if_pos e1] at hx; cases hx; exact Or.inl ⟨e1, rfl⟩
    · rw [if_neg e1, look_drop, if_neg (fun e => e1 e.symm)] at hx; exact Or.inr ⟨e1, hx⟩
  have hF : ∀ o' k, (gh.shb o).F o' k → gh.F o' k := fun o' k hk => by
    simp only [Gh.shb] at hk
    by_cases e1 : o' = o
    · rw [if_pos e1] at hk; subst e1; rw [hk]; exact hbF
    · rw [if_neg e1] at hk; exact hk
  have hold : ∀ o' x, look (st.swap o (.box (shL cs))).ob o' = some x → ∃ y, look st.ob o' = some y := fun o' x hx => by
    rcases hd o' x hx with ⟨rfl, _⟩ | ⟨_, hx⟩
    · exact ⟨_, ho⟩
    · exact ⟨_, hx⟩
  refine ⟨gh.shb o, ?_⟩
  exact {
    obs := fun o' b hb => by
      rcases hd o' b hb with ⟨rfl, rfl⟩ | ⟨hne, hb⟩
      · cases hob with
        | box xs G hb hl h1 hc hx dis nb hF =>
          refine ObR.box xs (fun _ _ => False) hb (by rw [shL_map, List.length_map]; exact hl) h1 hc (fun j d hd => ?_) (fun _ _ _ _ _ _ _ hh => hh.elim) (fun _ _ _ _ hh => hh.elim) (fun k => ?_)
          · rw [shL_map, List.getElem?_map] at hd
            obtain ⟨d0, hd0, rfl⟩ := Option.map_eq_some_iff.1 hd
            exact Ro.own (Ro.sh ((hx j d0 hd0).ro (fun k hk => Or.inr ⟨(hF k).2 (Or.inr ⟨j, d0, hd0, hk⟩), nb j d0 k hd0 hk⟩) (fun k hk => Or.inl hk)))
          · simp [Gh.shb]
      · have hm := (h.obs o' b hb).mono (F := fun k => gh.F o k ∧ k ≠ gh.bb o)
        exact hm.at rfl rfl rfl rfl (by funext k; simp [Gh.shb, Gh.more, hne])
    dis := fun o1 o2 b1 b2 k h1 h2 hk1 hk2 => by
      obtain ⟨y1, h1⟩ := hold _ _ h1
      obtain ⟨y2, h2⟩ := hold _ _ h2
      exact h.dis o1 o2 y1 y2 k h1 h2 (hF _ _ hk1) (hF _ _ hk2)
    sS := fun k hk => hk.elim (h.sS k) (fun hk => hob.lt k hk.1)
    nS := fun o' b k hb hk hS => by
      obtain ⟨y, hy⟩ := hold _ _ hb
      rcases hS with hS | ⟨hS, hne⟩
      · exact h.nS o' y k hy (hF _ _ hk) hS
      · have e1 := h.dis o' o y _ k hy ho (hF _ _ hk) hS
        subst e1
        simp only [Gh.shb, if_true] at hk
        exact hne hk
    wrR := fun o' e' es' k hb hk => by
      rcases hd _ _ hb with ⟨_, hx⟩ | ⟨_, hx⟩
      · cases hx
      · exact h.wrR o' e' es' k hx (hF _ _ hk)
    wrB := fun o' cs' k hb hk hne => by
      rcases hd _ _ hb with ⟨e1, hx⟩ | ⟨_, hx⟩
      · subst e1
        simp only [Gh.shb, if_true] at hk
        exact (hne hk).elim
      · exact h.wrB o' cs' k hx (hF _ _ hk) hne
    wrC := fun o' cs' j hb hj => by
      rcases hd _ _ hb with ⟨e1, hx⟩ | ⟨_, hx⟩
      · subst e1; cases hx
        rw [shL_map, List.length_map] at hj
        exact h.wrC _ cs j ho hj
      · exact h.wrC o' cs' j hx hj
    kept := h.kept
    pins := fun o' x hp hn => h.pins o' x hp (fun e' => by
      cases hq : look (st.swap o (.box (shL cs))).ob o' with
      | none => exact hn hq
      | some y =>
        obtain ⟨y2, h2⟩ := hold _ _ hq
        rw [e'] at h2; cases h2)
    tms := fun t => by
      rw [St.get_swap]
      exact (h.tms t).shb ho
    nt := h.nt
    dfs := h.dfs
    xl := h.xl
    xS := fun k hk hS => hS.elim (h.xS k hk) (fun hk' => h.xF o _ k ho hk hk'.1)
    xF := fun o' b k hb hk hk2 => by
      obtain ⟨y, hy⟩ := hold _ _ hb
      exact h.xF o' y k hy hk (hF _ _ hk2)
    xW := h.xW
    s0S := fun k hk => Or.inl (h.s0S k hk)
    sZ := fun k hk => hk.elim (h.sZ k) (fun hk' => hz k ((h.wrB o cs k ho hk'.1 hk'.2).imp id (fun hh => ⟨0, hh 0⟩))) }

/-- What is forgotten at the end. -/
theorem Tri.last (F : St → St) (hF : ∀ s, Ent P C s (F s)) {c : Code} {Q : Exit → St → Prop} (h : Tri P C st c (fun e s => Q e (F s))) : Tri P C st c Q := fun a w gh hR =>
  Code.wp_mono (fun e a' w' ⟨s, g, hk, hr⟩ => by
    obtain ⟨g', hr'⟩ := hF s a' w' g hr
    exact ⟨F s, g', hk, hr'⟩) (h a w gh hR)
end
attribute [go_sem] aFork aStep St.shb
end Go.Proofs.Ytldniggehdpheaa.AW
