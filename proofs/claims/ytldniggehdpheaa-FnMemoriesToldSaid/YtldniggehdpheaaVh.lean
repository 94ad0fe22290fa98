/- A row within a variable is lent apart for a while, and laid back where it lay. No condition beyond those named. -/
import Derived.Test.YtldniggehdpheaaVf
namespace Go.Proofs.Ytldniggehdpheaa.AW
open Go.RowKit
set_option linter.unusedSimpArgs false
set_option linter.unusedVariables false

/-- The same, and an object lies where it is said. -/
def Cx.repin (C : Cx) (o : Nat) (x : Option (Value × Nat × Nat)) : Cx := ⟨C.w0, C.s0, C.may, fun k => if k = o then x else C.pin k, C.z⟩
theorem Cx.repin_repin (C : Cx) (o : Nat) (x y : Option (Value × Nat × Nat)) : (C.repin o x).repin o y = C.repin o y := by
  unfold Cx.repin
  simp only
  congr 1
  funext k
  split
  · rfl
  · rfl
theorem Cx.repin_full {C : Cx} (h : C.full) (o : Nat) (x : Option (Value × Nat × Nat)) : (C.repin o x).full := h
theorem Cx.repin_pin {C : Cx} (h : ∀ o, isPin o = false → C.pin o = none) {k : Nat} (hk : isPin k = true) (x : Option (Value × Nat × Nat)) : ∀ o, isPin o = false → (C.repin k x).pin o = none := fun o ho => by
  unfold Cx.repin
  simp only
  rw [if_neg (fun e => by rw [e, hk] at ho; cases ho)]
  exact h o ho
theorem Cx.repin_self (C : Cx) (k : Nat) (x : Option (Value × Nat × Nat)) : (C.repin k x).pin k = x := by simp [Cx.repin]
theorem Cx.repin_other (C : Cx) {k o : Nat} (h : o ≠ k) (x : Option (Value × Nat × Nat)) : (C.repin k x).pin o = C.pin o := by simp [Cx.repin, h]

/-- The object k, which lies where the row at a place of o was said to lie, is laid there. -/
noncomputable def St.back (k o : Nat) (p : List (Nat × Nat)) (v : Value) (st : St) : St := open Classical in match look st.ob k with
  | some (.row e es) => (match look st.ob o with
    | some x => (match subO x p with
      | some (.sc u) => if u = v then (st.kill k).swap o (setO x p (.row false e es)) else st
      | _ => st)
    | none => st)
  | _ => st
noncomputable def sameV (k : Nat) (v : Value) (n : Nat) : V → V
  | .sc u => open Classical in if u = v then .ref k [] n else .sc u
  | x => x
noncomputable def sameA (k : Nat) (v : Value) (n : Nat) : V → V
  | .agg vs => .agg (vs.map (sameV k v n))
  | x => sameV k v n x
noncomputable def St.same (k : Nat) (v : Value) (t : Nat) (st : St) : St := match look st.ob k with
  | some (.row e es) => st.set t (sameA k v es.length (st.get t))
  | _ => st

section
variable {P : Program} {w w1 : World} {C : Cx} {X : Nat → Prop} {gh gh1 : Gh} {st : St} {a : Act} {v : Value} {u : Value} {ob : List (Nat × Ob)} {S : Nat → Prop} {K : St → Prop}

theorem Rep.repin (h : Rep P C X st a w gh) (o : Nat) (x : Option (Value × Nat × Nat)) (hx : ∀ y, x = some y → look st.ob o ≠ none → (gh.hv o, gh.bb o, gh.bo o) = y) : Rep P (C.repin o x) X st a w gh where
  obs := h.obs
  dis := h.dis
  sS := h.sS
  nS := h.nS
  wrR := h.wrR
  wrB := h.wrB
  wrC := h.wrC
  kept := h.kept
  pins := fun o' y hp hn => by
    unfold Cx.repin at hp
    simp only at hp
    split at hp
    · rename_i e; subst e; exact hx y hp hn
    · exact h.pins o' y hp hn
  tms := h.tms
  nt := h.nt
  dfs := h.dfs
  xl := h.xl
  xS := h.xS
  xF := h.xF
  xW := h.xW
  s0S := h.s0S
  sZ := h.sZ
theorem Rep.unpin {o : Nat} {x : Option (Value × Nat × Nat)} (h : Rep P (C.repin o x) X st a w gh) (ho : look st.ob o = none) : Rep P C X st a w gh where
  obs := h.obs
  dis := h.dis
  sS := h.sS
  nS := h.nS
  wrR := h.wrR
  wrB := h.wrB
  wrC := h.wrC
  kept := h.kept
  pins := fun o' y hp hn => by
    by_cases e : o' = o
    · subst e; exact absurd ho hn
    · exact h.pins o' y (by rw [Cx.repin_other C e]; exact hp) hn
  tms := h.tms
  nt := h.nt
  dfs := h.dfs
  xl := h.xl
  xS := h.xS
  xF := h.xF
  xW := h.xW
  s0S := h.s0S
  sZ := h.sZ

theorem Ow.sliceV {e : TypeId} {es : List (List D)} {F : Nat → Prop} (h : Ow P w S (.row false e es) u F) : ∃ A c, u = .slice A es.length c := by
  generalize hd : D.row false e es = d at h
  cases h with
  | dead => cases hd
  | sc => cases hd
  | shared => cases hd
  | row xs F own =>
    cases hd
    rcases own.2 with ⟨rfl, h0⟩ | ⟨g, cap, cur, rfl, _⟩
    · refine ⟨none, 0, ?_⟩
      first | rw [h0] | rw [h0.1] | rw [h0.2]
    · exact ⟨_, _, rfl⟩
/-- A row at a place of an object is an object by itself; where it lay, stands where it lies. -/
theorem Tri.lift (k o : Nat) (p : List (Nat × Nat)) {e : TypeId} {es : List (List D)} {x : Ob} {c : Code} {Q : Exit → St → Prop} (ho : look st.ob o = some x) (hs : subO x p = some (.row false e es)) (hp : p ≠ []) (hk : look st.ob k = none)
    (h : ∀ y : Value × Nat × Nat, (∃ A c, y.1 = .slice A es.length c) → Tri P (C.repin k (some y)) ((st.swap o (setO x p (.sc y.1))).put k (.row e es)) c (fun e s => look s.ob k = none ∧ Q e s)) : Tri P C st c Q := fun a w gh hR => by
  obtain ⟨v', F', hn, how, hsub, hbb, hback⟩ := (hR.obs o x ho).part hs hp
  have hko : k ≠ o := fun e => by rw [e, ho] at hk; cases hk
  have h1 := hback (.sc v') (fun _ => False) (.sc how.one) (fun k hk => hk.elim)
  have h2 := hR.swap (X' := F') ho (like_set hp _) (Nat.le_refl _) (fun _ _ _ _ _ _ => rfl) (fun _ _ => rfl) (World.keptBut_refl w _) h1 (fun k hk => Or.inl (hk.elim (fun h => h.1) False.elim)) (fun k hk => ⟨Or.inl (hsub k hk), fun h => h.elim (fun h => h.2 hk) id⟩) (fun cs k e hk he => hbb cs e (he ▸ hk))
  have hk2 : look (st.swap o (setO x p (.sc v'))).ob k = none := by rw [look_swap, if_neg hko]; exact hk
  have h3 := h2.repin k none (fun y hy => by cases hy)
  have h4 := h3.lay (o := k) (x := .row e es) (v' := v') (b := 0) (f := 0) (F := F') hk2 (Cx.repin_self C k none) (.row (by simpa [Gh.upd] using how)) (fun _ h => h)
  have h5 := (h4.less (X' := No) (fun _ hk => hk.elim)).repin k (some (v', 0, 0)) (fun y hy _ => by cases hy; simp [Gh.upd])
  rw [Cx.repin_repin] at h5
  exact Code.wp_mono (fun e a' w' ⟨s, g, hq, hr⟩ => ⟨s, g, hq.2, hr.unpin hq.1⟩) (h (v', 0, 0) how.sliceV a w _ h5)

theorem Ent.back {k o : Nat} {p : List (Nat × Nat)} {x0 : Nat × Nat} (hpk : C.pin k = some (v, x0)) (hko : k ≠ o) (hp : p ≠ []) : Ent P C st (st.back k o p v) := fun a w gh hR => by
  unfold St.back
  split
  case h_2 => exact ⟨gh, hR⟩
  rename_i e es hk
  split
  case h_2 => exact ⟨gh, hR⟩
  rename_i x ho
  split
  case h_2 => exact ⟨gh, hR⟩
  rename_i u hs
  split
  case isFalse => exact ⟨gh, hR⟩
  rename_i huv
  have hv : gh.hv k = v := by
    have := hR.pins k _ hpk (by rw [hk]; simp)
    exact congrArg (·.1) this
  have h1 := hR.take hk
  have ho1 : look (st.kill k).ob o = some x := by
    show look (drop st.ob k) o = some x
    rw [look_drop, if_neg hko]; exact ho
  obtain ⟨v', F', hn, how, hsub, hbb, hback⟩ := (h1.obs o x ho1).part hs hp
  have hrow : Ow P w gh.S (.row false e es) (gh.hv k) (gh.F k) := by
    have := hR.obs k _ hk
    cases this with | row h => exact h
  have huv' : v' = u ∧ ∀ k, ¬ F' k := by
    generalize hd : D.sc u = d at how
    cases how with
    | dead => cases hd
    | sc => cases hd; exact ⟨rfl, fun _ h => h⟩
    | shared => cases hd
    | row => cases hd
  have hdis : ∀ j, gh.F k j → ¬ gh.F o j := fun j h1 h2 => hko (hR.dis k o _ _ j hk ho h1 h2)
  rw [hv, ← huv, ← huv'.1] at hrow
  have h2 := hback (.row false e es) (gh.F k) hrow (fun j g1 g2 => absurd g2 (hdis j g1))
  exact ⟨_, h1.swap (X' := No) ho1 (like_set hp _) (Nat.le_refl _) (fun _ _ _ _ _ _ => rfl) (fun _ _ => rfl) (World.keptBut_refl w _) h2 (fun j hj => hj.elim (fun h => Or.inl h.1) (fun h => Or.inr (Or.inr h))) (fun _ hk => hk.elim) (fun _ _ _ hk => hk.elim)⟩

theorem Ent.same {k : Nat} {x0 : Nat × Nat} (hpk : C.pin k = some (v, x0)) (t : Nat) : Ent P C st (st.same k v t) := fun a w gh hR => by
  unfold St.same
  split
  case h_2 => exact ⟨gh, hR⟩
  rename_i e es hk
  have hv : gh.hv k = v := by
    have := hR.pins k _ hpk (by rw [hk]; simp)
    exact congrArg (·.1) this
  have hrow : Ow P w gh.S (.row false e es) (gh.hv k) (gh.F k) := by
    have := hR.obs k _ hk
    cases this with | row h => exact h
  obtain ⟨A, c, hA⟩ := hrow.sliceV
  have key : ∀ (x : V) (y : Value), VR P w gh st.ob x y → VR P w gh st.ob (sameV k v es.length x) y := fun x y h => by
    unfold sameV
    split
    · split
      · rename_i u _ huv
        cases h with
        | sc h1 =>
          rw [huv, ← hv, hA]
          exact VR.whole hk hA (Nat.le_refl _)
      · exact h
    · exact h
  refine ⟨gh, hR.set0 ?_⟩
  have h := hR.tms t
  generalize st.get t = x at h ⊢
  generalize a.tmps.getD t undef = y at h ⊢
  unfold sameA
  split
  · cases h with
    | agg hl h1 h =>
      refine .agg (by simpa using hl) h1 (fun i z hz => ?_)
      rw [List.getElem?_map] at hz
      obtain ⟨z0, hz0, rfl⟩ := Option.map_eq_some_iff.1 hz
      exact key _ _ (h i z0 hz0)
  · exact key _ _ h

/-! ### A region in two parts -/
def cutB (P : Program) (C : Cx) (ops : Array Oper) (l : List Oper) (K : St → Prop) (st : St) : Prop := ∀ a w gh, Rep P C No st a w gh → ∃ s2 gh', Rep P C No s2 a w gh' ∧ aOps P C ops l s2 K
theorem cutB_of {ops : Array Oper} {l : List Oper} {K : St → Prop} {st s2 : St} (h : aOps P C ops l s2 K) (he : Ent P C st s2) : cutB P C ops l K st := fun a w gh hR => by
  obtain ⟨g, hg⟩ := he a w gh hR
  exact ⟨s2, g, hg, h⟩
/-- What a slot with a row holds, to the letter: its length stays known when the row is the slot's no more. -/
theorem cutB_exact {ops : Array Oper} {l : List Oper} {K : St → Prop} {st : St} (t : Nat) {o n : Nat} {p : List (Nat × Nat)} (ht : st.get t = .ref o p n) (h : ∀ A c, aOps P C ops l (st.set t (.sc (.slice A n c))) K) : cutB P C ops l K st := fun a w gh hR => by
  have hv := hR.tms t
  rw [ht] at hv
  generalize hu : a.tmps.getD t undef = u at hv
  cases hv with
  | @ref _ _ _ x e es A c hx hn hle => exact ⟨_, gh, hR.set0 (by rw [hu]; exact .sc rfl), h A c⟩
theorem ops_cut (hz : Sized P) {ops : Array Oper} {Q : Exit → Act → World → Prop} (l2 : List Oper) : ∀ (l : List Oper) {st : St} {a : Act} {w : World} {gh : Gh}, Rep P C No st a w gh → aOps P C ops l st (cutB P C ops l2 K) → (∀ a w, Up P C K a w → Q .normal a w) → wpList P ops Q (l ++ l2) a w
  | [], st, a, w, gh, h, hk, hQ => by
    obtain ⟨s2, g', h', hk⟩ := hk a w gh h
    exact ops_sound hz l2 h' hk hQ
  | o :: r, st, a, w, gh, h, hk, hQ => by
    obtain ⟨hd, hk⟩ := hk
    have := oper_sound (Q := Q) hz h hd hk
    rw [List.cons_append]
    unfold wpList
    split
    · rename_i hw
      rw [if_pos hw] at this
      exact Or.inl (Oper.wp_mono (fun a' w' ⟨st', gh', hk', h'⟩ => ops_cut hz l2 r h' hk' hQ) this)
    · rename_i hw
      rw [if_neg hw] at this
      obtain ⟨st', gh', hk', h'⟩ := this
      exact ops_cut hz l2 r h' hk' hQ
theorem Tri.cut (hz : Sized P) (n : Nat) {id : Nat} {ops : Array Oper} {Q : Exit → St → Prop} (h : aOps P C ops (ops.toList.take n) st (cutB P C ops (ops.toList.drop n) (Q .normal))) : Tri P C st (.region id ops false) Q := fun a w gh hR => by
  refine wp_region_list ?_
  have := ops_cut (Q := fun e a' w' => Up P C (Q e) a' w') hz (ops.toList.drop n) (ops.toList.take n) hR h (fun a w h => h)
  rwa [List.take_append_drop] at this
end
attribute [go_sem] St.back St.same sameA sameV
end Go.Proofs.Ytldniggehdpheaa.AW
