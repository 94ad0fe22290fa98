/- A call does what its function is known to do. No condition. -/
import Derived.Test.YtaodmogcjpainaaDoorA20
namespace Go.Proofs.YtaodmogcjpainaaDoor.AW
open Go.RowKit
set_option linter.unusedSimpArgs false
set_option linter.unusedVariables false

/-- How things are handed over. M: rows that the callee writes, and which of the caller's they are; uf: their values as the callee knows them; pv: what the caller knows of its own; ob: what is only lent; ob0: the callee's rows. -/
structure Lend where
  M : List (Nat × Nat)
  uf : Nat → Value
  pv : Nat → Option Value
  ob : List (Nat × Ob)
  ob0 : List (Nat × Ob)

def lookInv : List (Nat × Nat) → Nat → Option Nat
  | [], _ => none
  | (k, o') :: r, o => if o = o' then some k else lookInv r o
/-- A row's length. -/
def lenIs (ob0 : List (Nat × Ob)) (k n : Nat) : Prop := match look ob0 k with
  | some (.row _ es) => n = es.length
  | _ => False
def knownIs (L : Lend) (k : Nat) (v : Value) : Prop := match look L.M k with
  | some o => L.pv o = some v
  | none => False
def givenIs (L : Lend) (o n : Nat) (u : Value) : Prop := match lookInv L.M o with
  | some k => u = L.uf k ∧ lenIs L.ob0 k n
  | none => False

/-- A value that the caller knows to be a row's. -/
def pvOf (C : Cx) (o : Nat) : Option Value := (C.pin o).map (·.1)
def pinAs (L : Lend) (v v' : Value) : List (Nat × Nat) → Prop
  | [] => False
  | (k, o) :: r => (v' = L.uf k ∧ L.pv o = some v) ∨ pinAs L v v' r
def pinRow (L : Lend) (v : Value) (e : TypeId) (es : List (List D)) : List (Nat × Ob) → Prop
  | [] => False
  | (o, _) :: r => (L.pv o = some v ∧ match look L.ob o with
    | some (.row e' es') => e' = e ∧ shLL es' = es
    | _ => False) ∨ pinRow L v e es r

mutual
/-- What is handed over to be looked at, as the callee sees it. -/
def lendsTo (L : Lend) : V → V → Prop
  | .sc v, t => match t with
    | .sc v' => v = v' ∨ pinAs L v v' L.M
    | .imm e es => (v = .slice none 0 0 ∧ es = []) ∨ pinRow L v e es L.ob
    | .ref k [] n' => knownIs L k v ∧ lenIs L.ob0 k n'
    | _ => False
  | .nil _, t => match t with
    | .imm _ es => es = []
    | _ => False
  | .imm e es, t => match t with
    | .imm e' es' => e = e' ∧ es = es'
    | _ => False
  | .ref o p n, t => match t with
    | .imm e' es' => match (look L.ob o).bind (subO · p) with
      | some (.row false e es) => e = e' ∧ shLL (es.take n) = es'
      | _ => False
    | .ref k [] n' => p = [] ∧ look L.M k = some o ∧ n = n'
    | .sc u => p = [] ∧ givenIs L o n u
    | _ => False
  | .agg vs, t => match t with
    | .agg ts => lendsL L vs ts
    | _ => False
  | _, _ => False
def lendsL (L : Lend) : List V → List V → Prop
  | [], ts => ts = []
  | v :: vs, ts => match ts with
    | t :: ts => lendsTo L v t ∧ lendsL L vs ts
    | [] => False
end

/-- The rows that are handed over for good. -/
def takeM (st : St) : List V → List Arg → Prop × St
  | v :: vs, .ro _ :: as => takeM st vs as
  | v :: vs, .mv e es :: as => match v with
    | .ref o [] m => match look st.ob o with
      | some (.row e' es') => (m = es'.length ∧ e' = e ∧ es' = es ∧ (takeM (st.kill o) vs as).1, (takeM (st.kill o) vs as).2)
      | _ => (False, st)
    | .sc (.slice none 0 0) => (es = [] ∧ (takeM st vs as).1, (takeM st vs as).2)
    | .nil _ => (es = [] ∧ (takeM st vs as).1, (takeM st vs as).2)
    | _ => (False, st)
  | [], [] => (True, st)
  | _, _ => (False, st)

/-- What is handed over to be looked at, all of it. -/
def lendAll (L : Lend) : List V → List Arg → Prop
  | v :: vs, .ro t :: as => lendsTo L v t ∧ lendAll L vs as
  | _ :: vs, .mv _ _ :: as => lendAll L vs as
  | _, _ => True

mutual
def noSh : D → Bool
  | .row sh _ es => !sh && noShLL es
  | _ => true
def noShLL : List (List D) → Bool
  | [] => true
  | l :: r => noShL l && noShLL r
def noShL : List D → Bool
  | [] => true
  | d :: r => noSh d && noShL r
end
def noShR : List RV → Bool
  | [] => true
  | r :: rs => noShL r.2 && noShR rs

def objNo (d k : Nat) : Nat := 3000 + d + 100000 * k
def dVn (n : Nat) : D → V
  | .sc v => .sc v
  | .row false e es => .ref n [] es.length
  | .row true e es => .imm e es
  | .dead => .dead
def layD (st : St) (n : Nat) : D → St
  | .row false e es => st.fresh n (.row e es)
  | _ => st
def layL (st : St) : List (Nat × D) → St
  | [] => st
  | (n, d) :: r => layL (layD st n d) r
def numD (d : Nat) : Nat → List D → List (Nat × D)
  | _, [] => []
  | k, x :: r => (objNo d k, x) :: numD d (k + 1) r
def numR (d : Nat) : Nat → List RV → List (Nat × D)
  | _, [] => []
  | k, r :: rs => numD d k r.2 ++ numR d (k + r.2.length) rs
def vsD (d : Nat) : Nat → List D → List V
  | _, [] => []
  | k, x :: r => dVn (objNo d k) x :: vsD d (k + 1) r
def rV (d k : Nat) (r : RV) : V := match r with
  | (true, ds) => .agg (vsD d k ds)
  | (false, ds) => dVn (objNo d k) (ds.getD 0 .dead)
def vsR (d : Nat) : Nat → List RV → List V
  | _, [] => []
  | k, r :: rs => rV d k r :: vsR d (k + r.2.length) rs
def resV (d : Nat) (rs : List RV) : V := match rs with
  | [r] => rV d 0 r
  | rs => .tup (vsR d 0 rs)

/-- The state behind a call. -/
def after (st : St) (d : Option Nat) (rs : List RV) : St := match d with
  | none => st
  | some d => (layL st (numR d 0 rs)).set d (resV d rs)

section
variable {P : Program} {w w1 : World} {C : Cx} {X : Nat → Prop} {gh : Gh} {st st' st'' : St} {a : Act} {v : V} {u : Value} {ob ob' : List (Nat × Ob)} {S S' : Nat → Prop} {K : St → Prop} {d : D} {F : Nat → Prop}

theorem keptBut_heap {w w' : World} {may : MemPlace → Prop} (h : w.keptBut w' may) {k : Nat} (hk : k < w.heap.size) (h1 : ∀ f, ¬ may (.cell k f)) (h2 : ¬ may (.map k)) : w'.heap[k]? = w.heap[k]? := by
  have := h.2.2 k hk
  split at this
  · rename_i c t fr c' t' fr' e1 e2
    obtain ⟨rfl, rfl, h3, h4⟩ := this
    rw [e1, e2]
    have : c' = c := by
      apply Array.ext_getElem?
      intro j
      exact h4 j (h1 j)
    rw [this]
  · rename_i e1 e2
    rcases this with h | ⟨rfl, rfl⟩
    · exact (h2 h).elim
    · rw [e1, e2]
  · exact this

theorem noShLL_get : ∀ {es : List (List D)}, noShLL es = true → ∀ (i j : Nat) (d : D), cellAt es i j = some d → noSh d = true := by
  have hl : ∀ {l : List D}, noShL l = true → ∀ (j : Nat) (d : D), l[j]? = some d → noSh d = true := by
    intro l
    induction l with
    | nil => intro _ j d h; simp at h
    | cons x r ih =>
      intro h j d hd
      simp only [noShL, Bool.and_eq_true] at h
      cases j with
      | zero => simp at hd; subst hd; exact h.1
      | succ j => exact ih h.2 j d (by simpa using hd)
  intro es
  induction es with
  | nil => intro _ i j d h; simp [cellAt] at h
  | cons l r ih =>
    intro h i j d hd
    simp only [noShLL, Bool.and_eq_true] at h
    cases i with
    | zero => simp only [cellAt, List.getElem?_cons_zero, Option.bind_some] at hd; exact hl h.1 j d hd
    | succ i => exact ih h.2 i j d (by simpa [cellAt] using hd)

theorem noShL_get {l : List D} (h : noShL l = true) (j : Nat) (d : D) (hd : l[j]? = some d) : noSh d = true :=
  noShLL_get (es := [l]) (by simp [noShLL, h]) 0 j d (by simp [cellAt, hd])

theorem noShR_get : ∀ {rs : List RV}, noShR rs = true → ∀ (i : Nat) (r : RV), rs[i]? = some r → noShL r.2 = true
  | [], _, i, r, h => by simp at h
  | x :: rs, h, i, r, hr => by
    simp only [noShR, Bool.and_eq_true] at h
    cases i with
    | zero => simp at hr; subst hr; exact h.1
    | succ i => exact noShR_get h.2 i r (by simpa using hr)

theorem Ow.noSh (h : Ow P w S d u F) (hn : noSh d = true) : Ow P w S' d u F := by
  induction h with
  | dead h => exact .dead h
  | sc h => exact .sc h
  | shared h => simp [AW.noSh] at hn
  | row xs H own hsz h1 hx dis nb ih =>
    simp only [AW.noSh, Bool.not_false, Bool.true_and] at hn
    exact .row xs H own hsz h1 (fun i j d hd => ih i j d hd (noShLL_get hn i j d hd)) dis nb

theorem Rep.inhand (h : Rep P C X st a w gh) {X' : Nat → Prop} (xl : ∀ k, X' k → k < w.heap.size) (xS : ∀ k, X' k → ¬ gh.S k) (xF : ∀ o b k, look st.ob o = some b → X' k → ¬ gh.F o k) (xW : ∀ k, X' k → C.w0.heap.size ≤ k ∨ ∀ f, C.may k f) : Rep P C X' st a w gh where
  obs := h.obs
  dis := h.dis
  sS := h.sS
  nS := h.nS
  wrR := h.wrR
  wrB := h.wrB
  wrC := h.wrC
  kept := h.kept
  pins := h.pins
  tms := h.tms
  nt := h.nt
  dfs := h.dfs
  xl := xl
  xS := xS
  xF := xF
  xW := xW
  s0S := h.s0S
  sZ := h.sZ

theorem look_mem {α : Type} : ∀ {M : List (Nat × α)} {k : Nat} {o : α}, look M k = some o → (k, o) ∈ M
  | [], k, o, h => by simp [look] at h
  | (k', o') :: r, k, o, h => by
    simp only [look] at h
    by_cases e : k = k'
    · rw [if_pos e] at h; cases h; subst e; exact List.mem_cons_self
    · rw [if_neg e] at h; exact List.mem_cons_of_mem _ (look_mem h)

theorem lookInv_mem : ∀ {M : List (Nat × Nat)} {o k : Nat}, lookInv M o = some k → (k, o) ∈ M
  | [], o, k, h => by simp [lookInv] at h
  | (k', o') :: r, o, k, h => by
    simp only [lookInv] at h
    by_cases e : o = o'
    · rw [if_pos e] at h; cases h; subst e; exact List.mem_cons_self
    · rw [if_neg e] at h; exact List.mem_cons_of_mem _ (lookInv_mem h)

theorem row_slice {e : TypeId} {es : List (List D)} {v : Value} (h : Ow P w S (.row false e es) v F) : ∃ A c, v = .slice A es.length c := by
  cases h with
  | row xs H own =>
    rcases own.2 with ⟨h1, h2⟩ | ⟨g, cap, cur, h1, _⟩
    · rw [h1, h2]; exact ⟨_, _, rfl⟩
    · exact ⟨_, _, h1⟩

/-- What is lent is seen. -/
theorem pinAs_mem {L : Lend} {v v' : Value} : ∀ {M : List (Nat × Nat)}, pinAs L v v' M → ∃ k o, (k, o) ∈ M ∧ v' = L.uf k ∧ L.pv o = some v
  | [], h => h.elim
  | (k, o) :: r, h => by
    rcases h with ⟨h1, h2⟩ | h
    · exact ⟨k, o, List.mem_cons_self .., h1, h2⟩
    · obtain ⟨k', o', g1, g2, g3⟩ := pinAs_mem h
      exact ⟨k', o', List.mem_cons_of_mem _ g1, g2, g3⟩
theorem pinRow_mem {L : Lend} {v : Value} {e : TypeId} {es : List (List D)} : ∀ {l : List (Nat × Ob)}, pinRow L v e es l → ∃ o es', L.pv o = some v ∧ look L.ob o = some (.row e es') ∧ shLL es' = es
  | [], h => h.elim
  | (o, _) :: r, h => by
    rcases h with ⟨h1, h2⟩ | h
    · split at h2
      · rename_i e' es' hl
        obtain ⟨rfl, rfl⟩ := h2
        exact ⟨o, es', h1, hl, rfl⟩
      · exact h2.elim
    · exact pinRow_mem h

theorem lend_sound {L : Lend} {gh0 : Gh} (hM : ∀ k o, (k, o) ∈ L.M → ∃ e es, look ob o = some (.row e es) ∧ look L.ob0 k = some (.row e es) ∧ gh0.hv k = gh.hv o ∧ L.uf k = gh0.hv k) (hpv : ∀ o v, L.pv o = some v → (look ob o).isSome = true → gh.hv o = v) (hob : ∀ o x, look ob o = some x → ObR P w gh o x) (hS : ∀ k, gh.S k → gh0.S k) (hF : ∀ o x k, look L.ob o = some x → gh.F o k → gh0.S k) (hsub : ∀ o x, look L.ob o = some x → look ob o = some x) :
    ∀ {v : V} {u : Value}, VR P w gh ob v u → ∀ {t : V}, lendsTo L v t → VR P w gh0 L.ob0 t u := by
  intro v u h
  have nilRo : ∀ (e : TypeId), Ro P w gh0.S (.row true e []) (.slice none 0 0) := fun e =>
    Ro.row (es := []) (fun _ _ => undef) (Nat.le_refl _) (by unfold maxLen; omega) (by simp) (fun h => by simp at h) (fun i j d hd => by simp [cellAt] at hd)
  induction h with
  | dead => intro t h; exact h.elim
  | und => intro t h; exact h.elim
  | sc hv =>
    intro t h
    unfold lendsTo at h
    split at h
    · rcases h with h | h
      · subst h; exact .sc hv
      · obtain ⟨k, o, hm, h1, h2⟩ := pinAs_mem h
        obtain ⟨e, es, g1, g2, g3, g4⟩ := hM _ _ hm
        have hv' := hpv o _ h2 (by rw [g1]; rfl)
        rw [h1, g4, g3, hv']
        exact .sc hv
    · rcases h with h | h
      · obtain ⟨rfl, rfl⟩ := h; exact .imm (nilRo _)
      · obtain ⟨o, es', h1, h2, rfl⟩ := pinRow_mem h
        have g1 := hsub o _ h2
        have hv' := hpv o _ h1 (by rw [g1]; rfl)
        have := hob o _ g1
        cases this with
        | row how =>
          rw [hv'] at how
          have hro := (how.ro (S' := gh0.S) (fun k hk => hF o _ k h2 hk) hS).sh
          exact .imm hro
    · obtain ⟨h1, h2⟩ := h
      unfold knownIs at h1
      split at h1
      case h_2 => exact h1.elim
      rename_i o ho
      obtain ⟨e, es, g1, g2, g3, g4⟩ := hM _ _ (look_mem ho)
      have hv' := hpv o _ h1 (by rw [g1]; rfl)
      simp only [lenIs, g2] at h2
      have hsl : ∃ A c, gh.hv o = .slice A es.length c := by
        have := hob o _ g1
        cases this with
        | row how => exact row_slice how
      obtain ⟨A, c, hsl⟩ := hsl
      rw [← hv', hsl, h2]
      exact VR.whole g2 (g3.trans hsl) (Nat.le_refl _)
    · exact h.elim
  | nil =>
    intro t h
    unfold lendsTo at h
    split at h
    · subst h; exact .imm (nilRo _)
    · exact h.elim
  | imm hr =>
    intro t h
    unfold lendsTo at h
    split at h
    · obtain ⟨rfl, rfl⟩ := h; exact .imm (hr.mono hS)
    · exact h.elim
  | @ref o n p x e es A c hx hn hle =>
    intro t h
    unfold lendsTo at h
    split at h
    case h_4 => exact h.elim
    case h_2 =>
      obtain ⟨rfl, hk, rfl⟩ := h
      obtain ⟨e1, es1, h1, h2, h3, _⟩ := hM _ _ (look_mem hk)
      rw [hx] at h1; cases h1
      obtain ⟨rfl, rfl, hv'⟩ := navO_nil hn
      exact VR.whole h2 (h3.trans hv') hle
    case h_3 =>
      obtain ⟨rfl, h⟩ := h
      unfold givenIs at h
      split at h
      case h_2 => exact h.elim
      rename_i k hk
      obtain ⟨hu, hlen⟩ := h
      obtain ⟨e1, es1, h1, h2, h3, h4⟩ := hM _ _ (lookInv_mem hk)
      rw [hx] at h1; cases h1
      obtain ⟨rfl, rfl, hv'⟩ := navO_nil hn
      simp only [lenIs, h2] at hlen
      subst hlen
      rw [hu, h4, h3, hv']
      exact .sc rfl
    rename_i e' es'
    split at h
    case h_2 => exact h.elim
    rename_i e2 es2 hq
    obtain ⟨rfl, rfl⟩ := h
    obtain ⟨x', hx', hq⟩ := Option.bind_eq_some_iff.1 hq
    have := hsub o x' hx'
    rw [hx] at this; cases this
    have hs := hn.sub
    rw [hs] at hq; cases hq
    obtain ⟨v', F', n1, n2, n3, _⟩ := (hob o x hx).up hs
    obtain ⟨_, e2⟩ := hn.fn n1
    subst e2
    have hro : Ro P w gh0.S (.row false e es) (.slice A es.length c) := n2.ro (fun k hk => hF o x k hx' (n3 k hk)) hS
    have hp := Ro.part hro.sh (l := 0) (h := n) (Nat.zero_le _) (by rw [shLL_map, List.length_map]; exact hle)
    have e6 : (Option.map (fun x => x.add (0 * szT P e)) A) = A := by cases A <;> simp [Addr.add]
    rw [e6] at hp
    simp only [ite_self, Nat.sub_zero, List.drop_zero] at hp
    have e7 : (shLL es).take n = shLL (es.take n) := by rw [shLL_map, shLL_map, List.map_take]
    rw [e7] at hp
    exact .imm hp
  | bp => intro t h; exact h.elim
  | rp => intro t h; exact h.elim
  | ip => intro t h; exact h.elim
  | tup => intro t h; exact h.elim
  | cond => intro t h; exact h.elim
  | @agg vs us hl h1 hh ih =>
    intro t h
    unfold lendsTo at h
    split at h
    case h_2 => exact h.elim
    rename_i ts
    have key : ∀ (vs ts : List V) (k : Nat), lendsL L vs ts → vs.length = ts.length ∧ ∀ (i : Nat) (v t : V), vs[i]? = some v → ts[i]? = some t → lendsTo L v t := by
      intro vs
      induction vs with
      | nil => intro ts k h; simp only [lendsL] at h; subst h; exact ⟨rfl, fun i v t hv => by simp at hv⟩
      | cons v vs ih =>
        intro ts k h
        unfold lendsL at h
        split at h
        · rename_i t ts
          obtain ⟨h1, h2⟩ := ih ts (k + 1) h.2
          refine ⟨by simp [h1], fun i v' t' hv ht => ?_⟩
          cases i with
          | zero => simp at hv ht; subst hv; subst ht; exact h.1
          | succ i => exact h2 i v' t' (by simpa using hv) (by simpa using ht)
        · exact h.elim
    obtain ⟨k1, k2⟩ := key vs ts 0 h
    refine .agg (by omega) h1 (fun i t ht => ?_)
    have hi := (List.getElem?_eq_some_iff.1 ht).1
    have hv : vs[i]? = some vs[i] := List.getElem?_eq_getElem (by omega)
    exact ih i _ hv (k2 i _ t hv ht)

/-- What is known of the rows that are handed over. O: which row of the caller's is which argument. -/
theorem take_sound : ∀ {vs : List V} {as : List Arg} {st : St} {X : Nat → Prop} (q : Nat), Rep P C X st a w gh → (takeM st vs as).1 → ∃ (O : Nat → Option Nat), Rep P C (fun k => X k ∨ ∃ i o, O i = some o ∧ gh.F o k) (takeM st vs as).2 a w gh ∧ vs.length = as.length ∧
    (takeM st vs as).2.nt = st.nt ∧
    (∀ i e es, as[i]? = some (.mv e es) → (∃ o, O (q + i) = some o ∧ vs[i]? = some (.ref o [] es.length) ∧ look st.ob o = some (.row e es)) ∨ (O (q + i) = none ∧ es = [] ∧ (vs[i]? = some (.sc (.slice none 0 0)) ∨ ∃ t, vs[i]? = some (.nil t)))) ∧
    (∀ i j o, O i = some o → O j = some o → i = j) ∧ (∀ i o, O i = some o → q ≤ i ∧ i < q + as.length ∧ (∃ x, look st.ob o = some x)) ∧
    (∀ o x, look (takeM st vs as).2.ob o = some x → look st.ob o = some x ∧ ∀ i, O i ≠ some o)
  | v :: vs, .ro t :: as, st, X, q, h, hs => by
    obtain ⟨O, h1, h2, h2n, h3, h4, h5, h6⟩ := take_sound (vs := vs) (as := as) (q + 1) h hs
    refine ⟨O, h1, by simp [h2], h2n, fun i e es hi => ?_, h4, fun i o hi => ?_, h6⟩
    · cases i with
      | zero => simp at hi
      | succ i =>
        have := h3 i e es (by simpa using hi)
        rw [show q + 1 + i = q + (i + 1) by omega] at this
        simpa using this
    · obtain ⟨g1, g2, g3⟩ := h5 i o hi
      exact ⟨by omega, by simp only [List.length_cons]; omega, g3⟩
  | v :: vs, .mv e es :: as, st, X, q, h, hs => by
    have nilcase : ∀ (v : V), (v = .sc (.slice none 0 0) ∨ ∃ t, v = .nil t) → (es = [] ∧ (takeM st vs as).1) → ∃ (O : Nat → Option Nat), Rep P C (fun k => X k ∨ ∃ i o, O i = some o ∧ gh.F o k) (takeM st vs as).2 a w gh ∧ (v :: vs).length = (Arg.mv e es :: as).length ∧
        (takeM st vs as).2.nt = st.nt ∧
        (∀ i e' es', (Arg.mv e es :: as)[i]? = some (.mv e' es') → (∃ o, O (q + i) = some o ∧ (v :: vs)[i]? = some (.ref o [] es'.length) ∧ look st.ob o = some (.row e' es')) ∨ (O (q + i) = none ∧ es' = [] ∧ ((v :: vs)[i]? = some (.sc (.slice none 0 0)) ∨ ∃ t, (v :: vs)[i]? = some (.nil t)))) ∧
        (∀ i j o, O i = some o → O j = some o → i = j) ∧ (∀ i o, O i = some o → q ≤ i ∧ i < q + (Arg.mv e es :: as).length ∧ (∃ x, look st.ob o = some x)) ∧
        (∀ o x, look (takeM st vs as).2.ob o = some x → look st.ob o = some x ∧ ∀ i, O i ≠ some o) := by
      rintro v hv ⟨he0, hs'⟩
      subst he0
      obtain ⟨O, h1, h2, h2n, h3, h4, h5, h6⟩ := take_sound (vs := vs) (as := as) (q + 1) h hs'
      refine ⟨O, h1, by simp [h2], h2n, fun i e' es' hi => ?_, h4, fun i o hi => ?_, h6⟩
      · cases i with
        | zero =>
          simp only [List.getElem?_cons_zero, Option.some.injEq, Arg.mv.injEq] at hi
          obtain ⟨rfl, rfl⟩ := hi
          refine Or.inr ⟨?_, rfl, ?_⟩
          · cases hq : O (q + 0) with
            | none => rfl
            | some o => have := (h5 _ o hq).1; omega
          · rcases hv with rfl | ⟨t, rfl⟩
            · exact Or.inl rfl
            · exact Or.inr ⟨t, rfl⟩
        | succ i =>
          have := h3 i e' es' (by simpa using hi)
          rw [show q + 1 + i = q + (i + 1) by omega] at this
          simpa using this
      · obtain ⟨g1, g2, g3⟩ := h5 i o hi
        exact ⟨by omega, by simp only [List.length_cons]; omega, g3⟩
    unfold takeM at hs ⊢
    split at hs
    · rename_i o m
      split at hs
      case h_2 => exact hs.elim
      rename_i e' es' ho
      obtain ⟨rfl, rfl, rfl, hs⟩ := hs
      obtain ⟨O, h1, h2, h2n, h3, h4, h5, h6⟩ := take_sound (vs := vs) (as := as) (q + 1) (h.take ho) hs
      have hO : ∀ i, O i ≠ some o := fun i hi => by
        obtain ⟨_, _, x, hx⟩ := h5 i o hi
        rw [look_kill, if_pos rfl] at hx; cases hx
      have hq0 : O q = none := by
        cases hq : O q with
        | none => rfl
        | some o' => have := (h5 _ o' hq).1; omega
      refine ⟨fun i => if i = q then some o else O i, ?_, by simp [h2], h2n, fun i e0 es0 hi => ?_, fun i j o' hi hj => ?_, fun i o' hi => ?_, fun o' x hx => ?_⟩
      · refine h1.less (fun k hk => ?_)
        rcases hk with hk | ⟨i, o', hi, hk⟩
        · exact Or.inl (Or.inl hk)
        · simp only at hi
          by_cases e1 : i = q
          · rw [if_pos e1] at hi; cases hi; exact Or.inl (Or.inr hk)
          · rw [if_neg e1] at hi; exact Or.inr ⟨i, o', hi, hk⟩
      · cases i with
        | zero =>
          simp only [List.getElem?_cons_zero, Option.some.injEq, Arg.mv.injEq] at hi
          obtain ⟨rfl, rfl⟩ := hi
          exact Or.inl ⟨o, by simp, rfl, ho⟩
        | succ i =>
          have := h3 i e0 es0 (by simpa using hi)
          rw [show q + 1 + i = q + (i + 1) by omega] at this
          simp only
          rw [if_neg (by omega)]
          rcases this with ⟨o1, g1, g2, g3⟩ | g
          · refine Or.inl ⟨o1, g1, by simpa using g2, ?_⟩
            rw [look_kill] at g3
            split at g3
            · cases g3
            · exact g3
          · exact Or.inr (by simpa using g)
      · simp only at hi hj
        by_cases e1 : i = q <;> by_cases e2 : j = q
        · omega
        · rw [if_pos e1] at hi; rw [if_neg e2] at hj; cases hi; exact (hO j hj).elim
        · rw [if_neg e1] at hi; rw [if_pos e2] at hj; cases hj; exact (hO i hi).elim
        · rw [if_neg e1] at hi; rw [if_neg e2] at hj; exact h4 i j o' hi hj
      · simp only at hi
        by_cases e1 : i = q
        · rw [if_pos e1] at hi; cases hi
          exact ⟨by omega, by simp only [List.length_cons]; omega, _, ho⟩
        · rw [if_neg e1] at hi
          obtain ⟨g1, g2, x, g3⟩ := h5 i o' hi
          refine ⟨by omega, by simp only [List.length_cons]; omega, x, ?_⟩
          rw [look_kill] at g3
          split at g3
          · cases g3
          · exact g3
      · obtain ⟨g1, g2⟩ := h6 o' x hx
        rw [look_kill] at g1
        split at g1
        · cases g1
        · rename_i hne
          refine ⟨g1, fun i => ?_⟩
          simp only
          by_cases e1 : i = q
          · rw [if_pos e1]; intro e; cases e; exact hne rfl
          · rw [if_neg e1]; exact g2 i
    · exact nilcase _ (Or.inl rfl) hs
    · exact nilcase _ (Or.inr ⟨_, rfl⟩) hs
    · exact hs.elim
  | [], [], st, X, q, h, hs => ⟨fun _ => none, h.less (fun k hk => hk.elim id (fun ⟨_, _, e, _⟩ => by cases e)), rfl, rfl, fun i e es hi => by simp at hi, fun i j o hi => (by cases hi), fun i o hi => (by cases hi), fun o x hx => ⟨hx, fun i e => by cases e⟩⟩
  | [], .ro _ :: _, st, X, q, h, hs => by simp [takeM] at hs
  | [], .mv _ _ :: _, st, X, q, h, hs => by simp [takeM] at hs
  | _ :: _, [], st, X, q, h, hs => by simp [takeM] at hs

theorem argsV_get : ∀ {as : List Arg} (k i : Nat), (argsV k as)[i]? = (as[i]?).map fun x => match x with | .ro t => t | .mv _ es => .ref (k + i) [] es.length
  | [], k, i => by simp [argsV]
  | .ro t :: r, k, i => by
    cases i with
    | zero => simp [argsV]
    | succ i => simp only [argsV, List.getElem?_cons_succ]; rw [argsV_get (k + 1) i, show k + 1 + i = k + (i + 1) by omega]
  | .mv e es :: r, k, i => by
    cases i with
    | zero => simp [argsV]
    | succ i => simp only [argsV, List.getElem?_cons_succ]; rw [argsV_get (k + 1) i, show k + 1 + i = k + (i + 1) by omega]

theorem argsV_length : ∀ {as : List Arg} (k : Nat), (argsV k as).length = as.length
  | [], k => rfl
  | .ro t :: r, k => by simp [argsV, argsV_length]
  | .mv e es :: r, k => by simp [argsV, argsV_length]

theorem argsOb_get : ∀ {as : List Arg} (k o : Nat) (x : Ob), look (argsOb k as) o = some x ↔ ∃ e es, x = .row e es ∧ k ≤ o ∧ as[o - k]? = some (.mv e es)
  | [], k, o, x => by simp [argsOb, look]
  | .ro t :: r, k, o, x => by
    simp only [argsOb]
    rw [argsOb_get (k + 1) o x]
    constructor
    · rintro ⟨e, es, rfl, h1, h2⟩
      exact ⟨e, es, rfl, by omega, by rw [show o - k = (o - (k + 1)) + 1 by omega]; simpa using h2⟩
    · rintro ⟨e, es, rfl, h1, h2⟩
      have : o ≠ k := fun e' => by subst e'; simp at h2
      exact ⟨e, es, rfl, by omega, by rw [show o - k = (o - (k + 1)) + 1 by omega] at h2; simpa using h2⟩
  | .mv e0 es0 :: r, k, o, x => by
    simp only [argsOb, look]
    by_cases he : o = k
    · subst he
      rw [if_pos rfl]
      constructor
      · intro h; cases h; exact ⟨e0, es0, rfl, Nat.le_refl _, by simp⟩
      · rintro ⟨e, es, rfl, _, h⟩; simp at h; obtain ⟨rfl, rfl⟩ := h; rfl
    · rw [if_neg he, argsOb_get (k + 1) o x]
      constructor
      · rintro ⟨e, es, rfl, h1, h2⟩
        exact ⟨e, es, rfl, by omega, by rw [show o - k = (o - (k + 1)) + 1 by omega]; simpa using h2⟩
      · rintro ⟨e, es, rfl, h1, h2⟩
        exact ⟨e, es, rfl, by omega, by rw [show o - k = (o - (k + 1)) + 1 by omega] at h2; simpa using h2⟩

theorem lendAll_get {L : Lend} : ∀ {vs : List V} {as : List Arg}, lendAll L vs as → ∀ (i : Nat) (v t : V), vs[i]? = some v → as[i]? = some (.ro t) → lendsTo L v t
  | [], _, _, i, v, t, hv, _ => by simp at hv
  | _ :: _, [], _, i, v, t, _, ht => by simp at ht
  | x :: vs, .ro y :: as, h, i, v, t, hv, ht => by
    cases i with
    | zero => simp at hv ht; subst hv; subst ht; exact h.1
    | succ i => exact lendAll_get h.2 i v t (by simpa using hv) (by simpa using ht)
  | x :: vs, .mv _ _ :: as, h, i, v, t, hv, ht => by
    cases i with
    | zero => simp at ht
    | succ i => exact lendAll_get (vs := vs) (as := as) h i v t (by simpa using hv) (by simpa using ht)
end
end Go.Proofs.YtaodmogcjpainaaDoor.AW
