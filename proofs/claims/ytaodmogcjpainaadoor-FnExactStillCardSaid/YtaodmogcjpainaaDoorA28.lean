/- A row within an object is an object of its own while a call goes on. No condition. -/
import Derived.Test.YtaodmogcjpainaaDoorA27
namespace Go.Proofs.YtaodmogcjpainaaDoor.AW
open Go.RowKit
set_option linter.unusedSimpArgs false
set_option linter.unusedVariables false

/-- What is behind a beginning. -/
def strip : List (Nat × Nat) → List (Nat × Nat) → Option (List (Nat × Nat))
  | [], q => some q
  | _ :: _, [] => none
  | x :: p, y :: q => if x = y then strip p q else none

theorem strip_eq : ∀ {p q r : List (Nat × Nat)}, strip p q = some r → q = p ++ r
  | [], q, r, h => by simp only [strip, Option.some.injEq] at h; simpa using h
  | _ :: _, [], r, h => by simp [strip] at h
  | x :: p, y :: q, r, h => by
    simp only [strip] at h
    by_cases e : x = y
    · rw [if_pos e] at h; rw [e, List.cons_append, ← strip_eq h]
    · rw [if_neg e] at h; cases h

mutual
def outV (o : Nat) (p : List (Nat × Nat)) (o' : Nat) : V → V
  | .ref k q n => if k = o then (match strip p q with
    | some r => .ref o' r n
    | none => match q with
      | [] => .ref k [] n
      | _ :: _ => .dead) else .ref k q n
  | .rp k q i j => if k = o then (match strip p q with
    | some r => .rp o' r i j
    | none => match q with
      | [] => .rp k [] i j
      | _ :: _ => .dead) else .rp k q i j
  | .agg vs => .agg (outL o p o' vs)
  | .tup vs => .tup (outL o p o' vs)
  | .cond c v => .cond c (outV o p o' v)
  | .bp k j => .bp k j
  | .dead => .dead
  | .und => .und
  | .sc v => .sc v
  | .nil t => .nil t
  | .imm t l => .imm t l
  | .ip ch j => .ip ch j
def outL (o : Nat) (p : List (Nat × Nat)) (o' : Nat) : List V → List V
  | [] => []
  | v :: r => outV o p o' v :: outL o p o' r
end

/-- The row at a place of object o is object o'; where it was, its value is known. -/
def St.out (st : St) (o : Nat) (p : List (Nat × Nat)) (o' : Nat) (u : Value) : St := match look st.ob o with
  | some x => match subO x p with
    | some (.row false e es) => { st with tm := mapT (outV o p o') st.tm, ob := (o', .row e es) :: (o, setO x p (.sc u)) :: drop st.ob o }
    | _ => st
  | none => st
/-- .. and back. -/
def St.inn (st : St) (o : Nat) (p : List (Nat × Nat)) (o' : Nat) : St := match look st.ob o, look st.ob o' with
  | some x, some (.row e es) => (st.kill o').swap o (setO x p (.row false e es))
  | _, _ => st
def innOk (st : St) (o : Nat) (p : List (Nat × Nat)) (o' : Nat) (u : Value) : Prop := match look st.ob o, look st.ob o' with
  | some x, some (.row e es) => subO x p = some (.sc u)
  | _, _ => False

def Cx.pinned (C : Cx) (o' : Nat) (u : Value) : Cx := { C with pin := fun k => if k = o' then some (u, 0, 0) else C.pin k }

section
variable {P : Program} {w w1 : World} {C : Cx} {X : Nat → Prop} {gh gh' : Gh} {st st' : St} {a : Act} {v : V} {u : Value} {ob ob' : List (Nat × Ob)} {o o' : Nat} {x : Ob} {p : List (Nat × Nat)} {d' : D} {e : TypeId} {es : List (List D)}

theorem outL_get (vs : List V) (i : Nat) : (outL o p o' vs)[i]? = (vs[i]?).map (outV o p o') := by
  induction vs generalizing i with
  | nil => simp [outL]
  | cons v r ih => cases i <;> simp [outL, ih]
theorem outL_length (vs : List V) : (outL o p o' vs).length = vs.length := by
  induction vs with
  | nil => rfl
  | cons v r ih => simp [outL, ih]

theorem Nav.split {d : D} {v : Value} : ∀ {p q : List (Nat × Nat)} {d2 : D} {v2 : Value}, Nav P w d v (p ++ q) d2 v2 → ∃ d1 v1, Nav P w d v p d1 v1 ∧ Nav P w d1 v1 q d2 v2
  | [], q, d2, v2, h => ⟨d, v, .nil, h⟩
  | (i, j) :: p, q, d2, v2, h => by
    cases h with
    | cons hc hw hn =>
      obtain ⟨d1, v1, h1, h2⟩ := Nav.split hn
      exact ⟨d1, v1, .cons hc hw h1, h2⟩

theorem NavO.split {q : List (Nat × Nat)} {d2 : D} {v2 : Value} (hp : p ≠ []) (h : NavO P w gh o x (p ++ q) d2 v2) : ∃ d1 v1, NavO P w gh o x p d1 v1 ∧ Nav P w d1 v1 q d2 v2 := by
  cases x with
  | row e es => exact Nav.split h
  | box cs =>
    cases p with
    | nil => exact absurd rfl hp
    | cons y p =>
      obtain ⟨i, j⟩ := y
      obtain ⟨d1, v1, h1, h2, h3⟩ := h
      obtain ⟨d3, v3, h4, h5⟩ := Nav.split h3
      exact ⟨d3, v3, ⟨d1, v1, h1, h2, h4⟩, h5⟩

theorem like_set (hp : p ≠ []) (d1 : D) : x.like (setO x p d1) := by
  cases x with
  | row e es =>
    cases p with
    | nil => exact absurd rfl hp
    | cons y p =>
      obtain ⟨i, j⟩ := y
      simp only [setO, setD, Ob.like, length_setCellAt, and_self]
  | box cs =>
    cases p with
    | nil => exact absurd rfl hp
    | cons y p =>
      obtain ⟨i, j⟩ := y
      simp only [setO, Ob.like, List.length_set]

/-- What is at a place of an object, and the object with something else there. -/
theorem ObR.part (h : ObR P w gh o x) (hs : subO x p = some d') (hp : p ≠ []) : ∃ (v' : Value) (F' : Nat → Prop), NavO P w gh o x p d' v' ∧ Ow P w gh.S d' v' F' ∧ (∀ k, F' k → gh.F o k) ∧ (∀ cs, x = .box cs → ¬ F' (gh.bb o)) ∧
    ∀ d1 F1, Ow P w gh.S d1 v' F1 → (∀ k, F1 k → gh.F o k → F' k) → ObR P w (gh.upd o (gh.hv o) (gh.bb o) (gh.bo o) (fun k => (gh.F o k ∧ ¬ F' k) ∨ F1 k)) o (setO x p d1) := by
  cases h with
  | @row e es h =>
    obtain ⟨v', F', hn, how, hsub, hback⟩ := h.focus (p := p) hs
    refine ⟨v', F', hn, how, hsub, fun cs e => (by cases e), fun d1 F1 h1 h2 => ?_⟩
    have := hback w d1 F1 (fun _ _ => rfl) (fun _ _ _ => rfl) h1 h2
    cases p with
    | nil => exact absurd rfl hp
    | cons y p =>
      obtain ⟨i, j⟩ := y
      simp only [setD] at this
      simp only [setO, setD]
      refine .row ?_
      simpa [Gh.upd] using this
  | @box cs xs G hb hl h1 hc hx dis nb hF =>
    cases p with
    | nil => exact absurd rfl hp
    | cons y p =>
      obtain ⟨i, j⟩ := y
      simp only [subO, Option.bind_eq_some_iff] at hs
      obtain ⟨c, hcj, hs⟩ := hs
      have hjl : j < cs.length := (List.getElem?_eq_some_iff.1 hcj).1
      obtain ⟨v', F', hn, how, hsub, hback⟩ := (hx j c hcj).focus hs
      refine ⟨v', F', ⟨c, xs.getD j undef, hcj, (hc j (by omega)).trans (getD_of_lt (by omega)), hn⟩, how, fun k hk => (hF k).2 (Or.inr ⟨j, c, hcj, hsub k hk⟩), fun cs' e hk => nb j c _ hcj (hsub _ hk) rfl, fun d1 F1 g1 g2 => ?_⟩
      have g3 := hback w d1 F1 (fun _ _ => rfl) (fun _ _ _ => rfl) g1 (fun k hk hk' => g2 k hk ((hF k).2 (Or.inr ⟨j, c, hcj, hk'⟩)))
      have hcd : cs.getD j .dead = c := by simp [List.getD, hcj]
      simp only [setO, hcd]
      let G' : Nat → Nat → Prop := fun j' k => if j' = j then (G j k ∧ ¬ F' k) ∨ F1 k else G j' k
      have gF1 : ∀ k, F1 k → ∀ j' d, j' ≠ j → cs[j']? = some d → ¬ G j' k := fun k hk j' d hne hd hk' => hne (dis j' j d c k hd hcj hk' (hsub k (g2 k hk ((hF k).2 (Or.inr ⟨j', d, hd, hk'⟩)))))
      have gbb : ∀ k, F1 k → k ≠ gh.bb o := fun k hk e => nb j c k hcj (hsub k (g2 k hk ((hF k).2 (Or.inl e)))) e
      obtain ⟨u1, u2, u3⟩ := gh.upd_self o (fun k => (gh.F o k ∧ ¬ F' k) ∨ F1 k)
      have hset : ∀ j' d, (cs.set j (setD c p d1))[j']? = some d → (j' = j ∧ d = setD c p d1) ∨ (j' ≠ j ∧ cs[j']? = some d) := fun j' d hd => by
        by_cases e : j' = j
        · subst e; rw [List.getElem?_set_self hjl] at hd; cases hd; exact Or.inl ⟨rfl, rfl⟩
        · rw [List.getElem?_set_ne (fun e' => e e'.symm)] at hd; exact Or.inr ⟨e, hd⟩
      refine .box xs G' (by rw [u2]; exact hb) (by simpa using hl) h1 (by rw [u2, u3]; exact hc) (fun j' d hd => ?_) (fun j1 j2 d1' d2' k hd1 hd2 hk1 hk2 => ?_) (fun j' d k hd hk => ?_) (fun k => ?_)
      · rcases hset j' d hd with ⟨rfl, rfl⟩ | ⟨hne, hd⟩
        · exact g3.congr fun k => by simp [G']
        · exact (hx j' d hd).congr fun k => by simp [G', hne]
      · rcases hset j1 d1' hd1 with ⟨rfl, rfl⟩ | ⟨n1, he1⟩ <;> rcases hset j2 d2' hd2 with ⟨e2, rfl⟩ | ⟨n2, he2⟩
        · exact e2.symm
        · simp only [G', if_true, if_neg n2] at hk1 hk2
          rcases hk1 with ⟨hk1, _⟩ | hk1
          · exact absurd (dis j2 j1 d2' c k he2 hcj hk2 hk1) n2
          · exact absurd hk2 (gF1 k hk1 j2 d2' n2 he2)
        · subst e2
          simp only [G', if_true, if_neg n1] at hk1 hk2
          rcases hk2 with ⟨hk2, _⟩ | hk2
          · exact dis j1 j2 d1' c k he1 hcj hk1 hk2
          · exact absurd hk1 (gF1 k hk2 j1 d1' n1 he1)
        · simp only [G', if_neg n1, if_neg n2] at hk1 hk2
          exact dis j1 j2 d1' d2' k he1 he2 hk1 hk2
      · rw [u2]
        rcases hset j' d hd with ⟨rfl, rfl⟩ | ⟨hne, hd⟩
        · simp only [G', if_true] at hk
          rcases hk with ⟨hk, _⟩ | hk
          · exact nb j' c k hcj hk
          · exact gbb k hk
        · simp only [G', if_neg hne] at hk
          exact nb j' d k hd hk
      · rw [u2]
        simp only [Gh.upd, if_true]
        constructor
        · rintro (⟨hk, hn'⟩ | hk)
          · rcases (hF k).1 hk with hk | ⟨j', d, hd, hk⟩
            · exact Or.inl hk
            · by_cases e : j' = j
              · subst e
                rw [hcj] at hd; cases hd
                exact Or.inr ⟨j', _, List.getElem?_set_self hjl, by simp only [G', if_true]; exact Or.inl ⟨hk, hn'⟩⟩
              · exact Or.inr ⟨j', d, by rw [List.getElem?_set_ne (fun e' => e e'.symm)]; exact hd, by simp only [G', if_neg e]; exact hk⟩
          · exact Or.inr ⟨j, _, List.getElem?_set_self hjl, by simp only [G', if_true]; exact Or.inr hk⟩
        · rintro (rfl | ⟨j', d, hd, hk⟩)
          · exact Or.inl ⟨(hF _).2 (Or.inl rfl), fun hk => nb j c _ hcj (hsub _ hk) rfl⟩
          · rcases hset j' d hd with ⟨rfl, rfl⟩ | ⟨hne, hd⟩
            · simp only [G', if_true] at hk
              rcases hk with ⟨hk, hn'⟩ | hk
              · exact Or.inl ⟨(hF k).2 (Or.inr ⟨j', c, hcj, hk⟩), hn'⟩
              · exact Or.inr hk
            · simp only [G', if_neg hne] at hk
              exact Or.inl ⟨(hF k).2 (Or.inr ⟨j', d, hd, hk⟩), fun hk' => hne (dis j' j d c k hd hcj hk (hsub k hk'))⟩

/-- Another content at a place of an object; what was there is in hand, what is there now is not. -/
theorem Rep.turn (h : Rep P C X st a w gh) (ho : look st.ob o = some x) (hp : p ≠ []) {d1 : D} {F' F1 : Nat → Prop} {X' : Nat → Prop} (hsub : ∀ k, F' k → gh.F o k) (hbb : ∀ cs, x = .box cs → ¬ F' (gh.bb o))
    (hob : ObR P w (gh.upd o (gh.hv o) (gh.bb o) (gh.bo o) (fun k => (gh.F o k ∧ ¬ F' k) ∨ F1 k)) o (setO x p d1)) (h1 : ∀ k, F1 k → X k) (h1' : ∀ k, F1 k → ¬ F' k) (hX : ∀ k, X' k → (X k ∨ F' k) ∧ ¬ F1 k) :
    Rep P C X' (st.swap o (setO x p d1)) a w (gh.upd o (gh.hv o) (gh.bb o) (gh.bo o) (fun k => (gh.F o k ∧ ¬ F' k) ∨ F1 k)) := by
  refine h.swap ho (like_set hp d1) (Nat.le_refl _) (fun _ _ _ _ _ _ => rfl) (fun _ _ => rfl) (World.keptBut_refl w _) hob (fun k hk => ?_) (fun k hk => ?_) (fun cs k hx hk => ?_)
  · rcases hk with hk | hk
    · exact Or.inl hk.1
    · exact Or.inr (h1 k hk)
  · obtain ⟨hk1, hk2⟩ := hX k hk
    refine ⟨hk1.elim Or.inr (fun hk => Or.inl (hsub k hk)), fun hk' => ?_⟩
    rcases hk' with ⟨hk', hn⟩ | hk'
    · rcases hk1 with hk1 | hk1
      · exact h.xF o x k ho hk1 hk'
      · exact hn hk1
    · exact hk2 hk'
  · rintro rfl
    rcases (hX _ hk).1 with hk1 | hk1
    · subst hx
      have := h.obs o _ ho
      cases this with
      | box xs G hb hl h1 hc hx dis nb hF => exact h.xF o _ _ ho hk1 ((hF _).2 (Or.inl rfl))
    · exact hbb cs hx hk1

theorem VR.out (h : VR P w gh ob v u) (ho : look ob o = some x) (hsub : subO x p = some (.row false e es)) (hp : p ≠ []) (ho' : look ob o' = none) {v' : Value} {d1 : D} (hn : NavO P w gh o x p (.row false e es) v')
    (hS : gh'.S = gh.S) (h1 : gh'.hv = fun k => if k = o' then v' else gh.hv k) (h2 : ∀ k, k ≠ o' → gh'.bb k = gh.bb k) (h3 : ∀ k, k ≠ o' → gh'.bo k = gh.bo k) :
    VR P w gh' ((o', .row e es) :: (o, setO x p d1) :: drop ob o) (outV o p o' v) u := by
  have hoo : o ≠ o' := fun e => by rw [e, ho'] at ho; cases ho
  have key : ∀ k y, k ≠ o → look ob k = some y → look ((o', Ob.row e es) :: (o, setO x p d1) :: drop ob o) k = some y ∧ k ≠ o' := by
    intro k y hk hy
    have hk' : k ≠ o' := fun e => by rw [e, ho'] at hy; cases hy
    exact ⟨by rw [look_cons_ne _ _ hk', look_cons_ne _ _ hk, look_drop, if_neg (fun e => hk e.symm)]; exact hy, hk'⟩
  have lo : look ((o', Ob.row e es) :: (o, setO x p d1) :: drop ob o) o = some (setO x p d1) := by rw [look_cons_ne _ _ hoo, look_cons_self]
  have lo' : look ((o', Ob.row e es) :: (o, setO x p d1) :: drop ob o) o' = some (.row e es) := look_cons_self _ _ _
  have ghv : ∀ k, k ≠ o' → gh'.hv k = gh.hv k := fun k hk => by rw [h1]; simp [hk]
  have navk : ∀ k y q d z, k ≠ o' → NavO P w gh k y q d z → NavO P w gh' k y q d z := fun k y q d z hk hnv => hnv.at (ghv k hk) (h2 k hk) (h3 k hk)
  have nil_row : ∀ {e1 : TypeId} {es1 : List (List D)} {A : Option Addr} {c : Nat}, NavO P w gh o x [] (.row false e1 es1) (.slice A es1.length c) → ∃ es2, setO x p d1 = .row e1 es2 ∧ es2.length = es1.length ∧ gh.hv o = .slice A es1.length c := by
    intro e1 es1 A c hnv
    cases x with
    | box cs => exact hnv.elim
    | row e2 es2 =>
      obtain ⟨rfl, rfl, hv⟩ := navO_nil hnv
      cases p with
      | nil => exact absurd rfl hp
      | cons y p =>
        obtain ⟨i, j⟩ := y
        simp only [setO, setD]
        exact ⟨_, rfl, by simp, hv⟩
  induction h with
  | dead => exact .dead
  | und => exact .und
  | sc h => exact .sc h
  | nil => exact .nil
  | imm h => exact .imm (by rw [hS]; exact h)
  | @ref k n q y e1 es1 A c hx hnv hle =>
    simp only [outV]
    by_cases ek : k = o
    · subst ek
      rw [if_pos rfl]
      rw [ho] at hx; cases hx
      split
      · rename_i r hr
        have hq := strip_eq hr
        subst hq
        obtain ⟨d2, v2, g1, g2⟩ := NavO.split hp hnv
        obtain ⟨rfl, rfl⟩ := NavO.fn g1 hn
        refine .ref (e := e1) (es := es1) lo' ?_ hle
        show Nav P w _ (gh'.hv o') r _ _
        rw [h1]; simpa using g2
      · split
        · obtain ⟨es2, g1, g2, g3⟩ := nil_row hnv
          refine .ref (e := e1) (es := es2) (lo.trans (congrArg some g1)) ?_ (by rw [g2]; exact hle)
          have : NavO P w gh' k (.row e1 es2) [] (.row false e1 es2) (gh'.hv k) := Nav.nil
          rw [ghv k hoo, g3] at this
          rw [g2]; exact this
        · exact .dead
    · rw [if_neg ek]
      obtain ⟨g1, g2⟩ := key k y ek hx
      exact .ref g1 (navk k y q _ _ g2 hnv) hle
  | @bp k j cs hx =>
    simp only [outV]
    by_cases ek : k = o
    · subst ek
      rw [ho] at hx; cases hx
      have hlk := like_set (x := .box cs) hp d1
      have : ∃ cs2, setO (.box cs) p d1 = .box cs2 := by
        cases p with
        | nil => exact absurd rfl hp
        | cons y p => obtain ⟨i, j⟩ := y; exact ⟨_, rfl⟩
      obtain ⟨cs2, hcs2⟩ := this
      rw [← h2 k hoo, ← h3 k hoo]
      rw [hcs2] at lo ⊢
      exact .bp lo
    · obtain ⟨g1, g2⟩ := key k _ ek hx
      rw [← h2 k g2, ← h3 k g2]
      exact .bp g1
  | @rp k i j q y e1 es1 ad c hx hnv =>
    simp only [outV]
    by_cases ek : k = o
    · subst ek
      rw [if_pos rfl]
      rw [ho] at hx; cases hx
      split
      · rename_i r hr
        have hq := strip_eq hr
        subst hq
        obtain ⟨d2, v2, g1, g2⟩ := NavO.split hp hnv
        obtain ⟨rfl, rfl⟩ := NavO.fn g1 hn
        refine .rp (e := e1) (es := es1) (c := c) lo' ?_
        show Nav P w _ (gh'.hv o') r _ _
        rw [h1]; simpa using g2
      · split
        · obtain ⟨es2, g1, g2, g3⟩ := nil_row hnv
          refine .rp (e := e1) (es := es2) (c := c) (lo.trans (congrArg some g1)) ?_
          have : NavO P w gh' k (.row e1 es2) [] (.row false e1 es2) (gh'.hv k) := Nav.nil
          rw [ghv k hoo, g3] at this
          rw [g2]; exact this
        · exact .dead
    · rw [if_neg ek]
      obtain ⟨g1, g2⟩ := key k y ek hx
      exact .rp g1 (navk k y q _ _ g2 hnv)
  | ip U hs h => exact .ip U (by rw [hS]; exact hs) (by rw [hS]; exact h)
  | agg hl h1' h ih =>
    simp only [outV]
    refine .agg (by rw [outL_length]; exact hl) h1' (fun i v hv => ?_)
    rw [outL_get] at hv
    obtain ⟨v0, hv0, rfl⟩ := Option.map_eq_some_iff.1 hv
    exact ih i v0 hv0
  | tup hl h ih =>
    simp only [outV]
    refine .tup (by rw [outL_length]; exact hl) (fun i v hv => ?_)
    rw [outL_get] at hv
    obtain ⟨v0, hv0, rfl⟩ := Option.map_eq_some_iff.1 hv
    exact ih i v0 hv0
  | cond ht hf ih => simp only [outV]; exact .cond ih hf

theorem Rep.pinned (h : Rep P C X st a w gh) {z : Value} (hz : look st.ob o' ≠ none → (gh.hv o', gh.bb o', gh.bo o') = (z, 0, 0)) : Rep P (C.pinned o' z) X st a w gh where
  obs := h.obs
  dis := h.dis
  sS := h.sS
  nS := h.nS
  wrR := h.wrR
  wrB := h.wrB
  wrC := h.wrC
  kept := h.kept
  pins := fun k y hk hn => by
    simp only [Cx.pinned] at hk
    by_cases e : k = o'
    · subst e; rw [if_pos rfl] at hk; cases hk; exact hz hn
    · rw [if_neg e] at hk; exact h.pins k y hk hn
  tms := h.tms
  nt := h.nt
  dfs := h.dfs
  xl := h.xl
  xS := h.xS
  xF := h.xF
  xW := h.xW
  s0S := h.s0S
  sZ := h.sZ

theorem Rep.unpinned {z : Value} (h : Rep P (C.pinned o' z) X st a w gh) (hp : C.pin o' = none) : Rep P C X st a w gh where
  obs := h.obs
  dis := h.dis
  sS := h.sS
  nS := h.nS
  wrR := h.wrR
  wrB := h.wrB
  wrC := h.wrC
  kept := h.kept
  pins := fun k y hk hn => by
    have e : k ≠ o' := fun e => by rw [e, hp] at hk; cases hk
    exact h.pins k y (by simp only [Cx.pinned, if_neg e]; exact hk) hn
  tms := h.tms
  nt := h.nt
  dfs := h.dfs
  xl := h.xl
  xS := h.xS
  xF := h.xF
  xW := h.xW
  s0S := h.s0S
  sZ := h.sZ

theorem Rep.retm (h : Rep P C X st a w gh) {tm : List (Nat × V)} {ob1 : List (Nat × Ob)} (hob : ∀ k, look ob1 k = look st.ob k) (ht : ∀ t, VR P w gh ob1 ((look tm t).getD .dead) (a.tmps.getD t undef)) : Rep P C X ⟨st.nt, tm, ob1⟩ a w gh where
  obs := fun k b hb => h.obs k b (by rw [← hob]; exact hb)
  dis := fun k1 k2 b1 b2 q h1 h2 => h.dis k1 k2 b1 b2 q (by rw [← hob]; exact h1) (by rw [← hob]; exact h2)
  sS := h.sS
  nS := fun k b q hb => h.nS k b q (by rw [← hob]; exact hb)
  wrR := fun k e es q hb => h.wrR k e es q (by rw [← hob]; exact hb)
  wrB := fun k cs q hb => h.wrB k cs q (by rw [← hob]; exact hb)
  wrC := fun k cs j hb => h.wrC k cs j (by rw [← hob]; exact hb)
  kept := h.kept
  pins := fun k y hk hn => h.pins k y hk (by rw [← hob]; exact hn)
  tms := ht
  nt := h.nt
  dfs := h.dfs
  xl := h.xl
  xS := h.xS
  xF := fun k b q hb => h.xF k b q (by rw [← hob]; exact hb)
  xW := h.xW
  s0S := h.s0S
  sZ := h.sZ

theorem Rep.out (h : Rep P C X st a w gh) (ho : look st.ob o = some x) (hsub : subO x p = some (.row false e es)) (hp : p ≠ []) (ho' : look st.ob o' = none) (hpin : C.pin o' = none) :
    ∃ (z : Value) (gh' : Gh), Rep P (C.pinned o' z) X (st.out o p o' z) a w gh' ∧ ∀ v u, VR P w gh st.ob v u → VR P w gh' (st.out o p o' z).ob (outV o p o' v) u := by
  have hoo : o ≠ o' := fun e => by rw [e, ho'] at ho; cases ho
  obtain ⟨z, F', hn, how, hF', hbb, hback⟩ := (h.obs o x ho).part hsub hp
  have h1 := hback (.sc z) (fun _ => False) (.sc how.one) (fun _ hk => hk.elim)
  have r1 := h.turn (X' := fun k => X k ∨ F' k) ho hp hF' hbb h1 (fun _ hk => hk.elim) (fun _ hk => hk.elim) (fun k hk => ⟨hk, fun h => h⟩)
  obtain ⟨u1, u2, u3⟩ := gh.upd_self o (fun k => (gh.F o k ∧ ¬ F' k) ∨ False)
  have ho2 : look (st.swap o (setO x p (.sc z))).ob o' = none := by rw [look_swap, if_neg (fun e => hoo e.symm)]; exact ho'
  have r2 := r1.lay (o := o') (x := .row e es) (v' := z) (b := 0) (f := 0) (F := F') ho2 hpin (.row (by simpa [Gh.upd] using how)) (fun k hk => Or.inr hk)
  have r3 := r2.less (X' := X) (fun k hk => ⟨Or.inl hk, fun hk' => h.xF o x k ho hk (hF' k hk')⟩)
  have key : ∀ v u, VR P w gh st.ob v u → VR P w ((gh.upd o (gh.hv o) (gh.bb o) (gh.bo o) (fun k => (gh.F o k ∧ ¬ F' k) ∨ False)).upd o' z 0 0 F') ((o', .row e es) :: (o, setO x p (.sc z)) :: drop st.ob o) (outV o p o' v) u := fun v u hv => by
    refine hv.out ho hsub hp ho' hn rfl ?_ ?_ ?_
    · funext k; simp only [Gh.upd]; split
      · rfl
      · split <;> simp_all
    · intro k hk; simp only [Gh.upd, if_neg hk]; split <;> simp_all
    · intro k hk; simp only [Gh.upd, if_neg hk]; split <;> simp_all
  have e1 : st.out o p o' z = ⟨st.nt, mapT (outV o p o') st.tm, (o', .row e es) :: (o, setO x p (.sc z)) :: drop st.ob o⟩ := by simp only [St.out, ho, hsub]
  refine ⟨z, _, ?_, fun v u hv => by rw [e1]; exact key v u hv⟩
  rw [e1]
  have r4 := r3.retm (tm := mapT (outV o p o') st.tm) (ob1 := (o', .row e es) :: (o, setO x p (.sc z)) :: drop st.ob o) (fun k => rfl) (fun t => by
    rw [look_mapT]
    have := h.tms t
    unfold St.get at this
    cases hq : look st.tm t with
    | none => exact .dead
    | some y => rw [hq] at this; exact key _ _ this)
  exact r4.pinned (fun _ => by simp [Gh.upd])

theorem Rep.inn {z : Value} (h : Rep P (C.pinned o' z) X st a w gh) (hpin : C.pin o' = none) (hne : o ≠ o') (hp : p ≠ []) (hi : innOk st o p o' z) : ∃ gh', Rep P C X (st.inn o p o') a w gh' := by
  unfold innOk at hi
  split at hi
  case h_2 => exact hi.elim
  rename_i x e es ho ho'
  have e1 : st.inn o p o' = (st.kill o').swap o (setO x p (.row false e es)) := by simp only [St.inn, ho, ho']
  rw [e1]
  have hpz := h.pins o' (z, 0, 0) (by simp [Cx.pinned]) (by rw [ho']; simp)
  have hhv : gh.hv o' = z := congrArg Prod.fst hpz
  have h' := h.unpinned hpin
  have hrow := h'.obs o' _ ho'
  have r1 := h'.take ho'
  have hok : look (st.kill o').ob o = some x := by rw [look_kill, if_neg (fun e => hne e.symm)]; exact ho
  obtain ⟨v', F', hn, how, hF', hbb, hback⟩ := (h'.obs o x ho).part hi hp
  cases hrow with
  | row hrow =>
    have hz : v' = z ∧ ∀ k, ¬ F' k := by cases how; exact ⟨rfl, fun k hk => hk⟩
    rw [hhv] at hrow
    have h1 := hback (.row false e es) (gh.F o') (by rw [hz.1]; exact hrow) (fun k hk hk' => absurd (h'.dis o' o _ _ k ho' ho hk hk') (fun e => hne e.symm))
    have r2 := r1.turn (X' := X) hok hp hF' hbb h1 (fun k hk => Or.inr hk) (fun k hk => hz.2 k) (fun k hk => ⟨Or.inl (Or.inl hk), h'.xF o' _ k ho' hk⟩)
    exact ⟨_, r2⟩

theorem pinned3 {z : Value} (h : ∀ n, 3000 ≤ n → C.pin n = none) (ho : o' < 3000) : ∀ n, 3000 ≤ n → (C.pinned o' z).pin n = none := fun n hn => by
  have e : n ≠ o' := by omega
  simp only [Cx.pinned, if_neg e]; exact h n hn
theorem pinnedz {z : Value} (h : C.full) : (C.pinned o' z).full := h

/-- A row within an object stands by itself from here on; what leads to it is known. -/
theorem Tri.outC {c : Code} {Q : Exit → St → Prop} (o : Nat) (p : List (Nat × Nat)) (o' : Nat) {x : Ob} {e : TypeId} {es : List (List D)} (ho : look st.ob o = some x) (hsub : subO x p = some (.row false e es)) (hp : p ≠ []) (ho' : look st.ob o' = none) (hb : isPin o' = false) (hb2 : o' < 3000) (hpin : ∀ o, isPin o = false → C.pin o = none) (hz : C.full)
    (h : ∀ z C', C'.pin o' = some (z, 0, 0) → (∀ o, (isPin o || o == o') = false → C'.pin o = none) → (∀ o, 3000 ≤ o → C'.pin o = none) → C'.full → Tri P C' (st.out o p o' z) c Q) : Tri P C st c Q := fun a w gh hR => by
  have hpo := hpin o' hb
  obtain ⟨z, gh1, hr1, _⟩ := hR.out ho hsub hp ho' hpo
  exact Code.wp_mono (fun e a' w' ⟨s, g, hk, hr⟩ => ⟨s, g, hk, hr.unpinned hpo⟩) (h z (C.pinned o' z) (by simp [Cx.pinned]) (fun q hq => by
    simp only [Bool.or_eq_false_iff, beq_eq_false_iff_ne] at hq
    simp only [Cx.pinned, if_neg hq.2]; exact hpin q hq.1) (pinned3 (pin3 hpin) hb2) (pinnedz hz) a w gh1 hr1)

/-- A row within an object stands by itself from here on; what leads to it is known. -/
theorem Tri.out {c : Code} {Q : Exit → St → Prop} (o : Nat) (p : List (Nat × Nat)) (o' : Nat) {x : Ob} {e : TypeId} {es : List (List D)} (ho : look st.ob o = some x) (hsub : subO x p = some (.row false e es)) (hp : p ≠ []) (ho' : look st.ob o' = none) (hpin : C.pin o' = none)
    (h : ∀ z, Tri P (C.pinned o' z) (st.out o p o' z) c Q) : Tri P C st c Q := fun a w gh hR => by
  obtain ⟨z, gh1, hr1, _⟩ := hR.out ho hsub hp ho' hpin
  exact Code.wp_mono (fun e a' w' ⟨s, g, hk, hr⟩ => ⟨s, g, hk, hr.unpinned hpin⟩) (h z a w gh1 hr1)

theorem not_native {f : FuncId} (h : entersB P f = true) (hn : nativeB P f = true) : False := by
  unfold entersB at h
  unfold nativeB at hn
  cases hq : P.funcs[f]? with
  | none => simp [hq] at h
  | some fn =>
    simp only [hq] at h hn
    simp [Option.isNone_iff_eq_none] at hn
    simp [hn] at h

/-- A call that works in a row within an object. -/
theorem aCall_nest {K : St → Prop} {f : FuncId} {vs : List V} {d : Option Nat} (o : Nat) (p : List (Nat × Nat)) (o' : Nat) {x : Ob} {e : TypeId} {es : List (List D)} (ho : look st.ob o = some x) (hsub : subO x p = some (.row false e es)) (hp : p ≠ []) (hne : o ≠ o') (ho' : look st.ob o' = none) (hpin : C.pin o' = none)
    (h : ∀ z, aCallB (b := ⟨fun st2 => innOk st2 o p o' z ∧ ev (b := ⟨K⟩) (st2.inn o p o')⟩) P (C.pinned o' z) (st.out o p o' z) f (outL o p o' vs) d) : aCallB (b := ⟨K⟩) P C st f vs d := by
  by_cases hen : entersB P f = true
  · refine Or.inl ⟨hen, fun a w gh us hr hus hv hd => ?_⟩
    obtain ⟨z, gh1, hr1, hv1⟩ := hr.out ho hsub hp ho' hpin
    have hnt : (st.out o p o' z).nt = st.nt := by simp only [St.out, ho, hsub]
    have hvv : ∀ (i : Nat) (v : V), (outL o p o' vs)[i]? = some v → VR P w gh1 (st.out o p o' z).ob v (us.getD i undef) := fun i v hi => by
      rw [outL_get] at hi
      obtain ⟨v0, hv0, rfl⟩ := Option.map_eq_some_iff.1 hi
      exact hv1 _ _ (hv i v0 hv0)
    rcases h z with ⟨_, hh⟩ | ⟨hn, _⟩
    · refine (hh a w gh1 us hr1 (by rw [outL_length]; exact hus) hvv (fun k hk => by rw [hnt]; exact hd k hk)).mono (fun e' w' hh => ?_)
      obtain ⟨v, rfl, st2, gh2, ⟨hi, hk⟩, hr2⟩ := hh
      obtain ⟨gh3, hr3⟩ := hr2.inn hpin hne hp hi
      exact ⟨v, rfl, _, gh3, hk, hr3⟩
    · exact (not_native hen hn).elim
  · have hnat : nativeB P f = true := by
      rcases h undef with ⟨hn, _⟩ | ⟨hn, _⟩
      · exact (hen hn).elim
      · exact hn
    refine Or.inr ⟨hnat, fun a w gh us hr hus hv hd => ?_⟩
    obtain ⟨z, gh1, hr1, hv1⟩ := hr.out ho hsub hp ho' hpin
    have hnt : (st.out o p o' z).nt = st.nt := by simp only [St.out, ho, hsub]
    have hvv : ∀ (i : Nat) (v : V), (outL o p o' vs)[i]? = some v → VR P w gh1 (st.out o p o' z).ob v (us.getD i undef) := fun i v hi => by
      rw [outL_get] at hi
      obtain ⟨v0, hv0, rfl⟩ := Option.map_eq_some_iff.1 hi
      exact hv1 _ _ (hv i v0 hv0)
    rcases h z with ⟨hn, _⟩ | ⟨_, hh⟩
    · exact (hen hn).elim
    · obtain ⟨v, hrun, st2, gh2, ⟨hi, hk⟩, hr2⟩ := hh a w gh1 us hr1 (by rw [outL_length]; exact hus) hvv (fun k hk => by rw [hnt]; exact hd k hk)
      obtain ⟨gh3, hr3⟩ := hr2.inn hpin hne hp hi
      exact ⟨v, hrun, _, gh3, hk, hr3⟩

/-- .. that is not looked at any more. -/
theorem aCall_part {K : St → Prop} {f : FuncId} {vs : List V} {d : Option Nat} (o : Nat) (p : List (Nat × Nat)) (o' : Nat) {x : Ob} {e : TypeId} {es : List (List D)} (ho : look st.ob o = some x) (hsub : subO x p = some (.row false e es)) (hp : p ≠ []) (ho' : look st.ob o' = none) (hpin : C.pin o' = none)
    (h : ∀ z, aCallB (b := ⟨K⟩) P (C.pinned o' z) (st.out o p o' z) f (outL o p o' vs) d) : aCallB (b := ⟨K⟩) P C st f vs d := by
  by_cases hen : entersB P f = true
  · refine Or.inl ⟨hen, fun a w gh us hr hus hv hd => ?_⟩
    obtain ⟨z, gh1, hr1, hv1⟩ := hr.out ho hsub hp ho' hpin
    have hnt : (st.out o p o' z).nt = st.nt := by simp only [St.out, ho, hsub]
    have hvv : ∀ (i : Nat) (v : V), (outL o p o' vs)[i]? = some v → VR P w gh1 (st.out o p o' z).ob v (us.getD i undef) := fun i v hi => by
      rw [outL_get] at hi
      obtain ⟨v0, hv0, rfl⟩ := Option.map_eq_some_iff.1 hi
      exact hv1 _ _ (hv i v0 hv0)
    rcases h z with ⟨_, hh⟩ | ⟨hn, _⟩
    · refine (hh a w gh1 us hr1 (by rw [outL_length]; exact hus) hvv (fun k hk => by rw [hnt]; exact hd k hk)).mono (fun e' w' hh => ?_)
      obtain ⟨v, rfl, st2, gh2, hk, hr2⟩ := hh
      exact ⟨v, rfl, st2, gh2, hk, hr2.unpinned hpin⟩
    · exact (not_native hen hn).elim
  · have hnat : nativeB P f = true := by
      rcases h undef with ⟨hn, _⟩ | ⟨hn, _⟩
      · exact (hen hn).elim
      · exact hn
    refine Or.inr ⟨hnat, fun a w gh us hr hus hv hd => ?_⟩
    obtain ⟨z, gh1, hr1, hv1⟩ := hr.out ho hsub hp ho' hpin
    have hnt : (st.out o p o' z).nt = st.nt := by simp only [St.out, ho, hsub]
    have hvv : ∀ (i : Nat) (v : V), (outL o p o' vs)[i]? = some v → VR P w gh1 (st.out o p o' z).ob v (us.getD i undef) := fun i v hi => by
      rw [outL_get] at hi
      obtain ⟨v0, hv0, rfl⟩ := Option.map_eq_some_iff.1 hi
      exact hv1 _ _ (hv i v0 hv0)
    rcases h z with ⟨hn, _⟩ | ⟨_, hh⟩
    · exact (hen hn).elim
    · obtain ⟨v, hrun, st2, gh2, hk, hr2⟩ := hh a w gh1 us hr1 (by rw [outL_length]; exact hus) hvv (fun k hk => by rw [hnt]; exact hd k hk)
      exact ⟨v, hrun, st2, gh2, hk, hr2.unpinned hpin⟩
end
end Go.Proofs.YtaodmogcjpainaaDoor.AW
