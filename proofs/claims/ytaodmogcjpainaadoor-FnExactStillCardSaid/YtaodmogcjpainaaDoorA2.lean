/- What a call's slots and its own objects are known to hold, and that this stands as the call goes on. No condition. -/
import Derived.Test.YtaodmogcjpainaaDoorA1
namespace Go.Proofs.YtaodmogcjpainaaDoor.AW
open Go.RowKit

/-- What is known of a slot. -/
inductive V where
  | dead
  | und
  | sc (v : Value)
  | nil (e : TypeId)
  | imm (e : TypeId) (es : List (List D))
  | ref (o : Nat) (p : List (Nat × Nat)) (n : Nat)
  | bp (o : Nat) (j : Nat)
  | rp (o : Nat) (p : List (Nat × Nat)) (i j : Nat)
  | ip (ch : List D) (j : Nat)
  | agg (vs : List V)
  | tup (vs : List V)
  | cond (c : Bool) (v : V)

/-- An object of one's own: a row, or a variable's cells. -/
inductive Ob where
  | row (e : TypeId) (es : List (List D))
  | box (cs : List D)

def look {α : Type} (l : List (Nat × α)) (k : Nat) : Option α :=
  match l with
  | [] => none
  | (k', x) :: r => if k = k' then some x else look r k

structure St where
  nt : Nat
  tm : List (Nat × V)
  ob : List (Nat × Ob)

def St.get (st : St) (t : Nat) : V := (look st.tm t).getD .dead
def St.set (st : St) (t : Nat) (v : V) : St := { st with tm := (t, v) :: st.tm }
def St.put (st : St) (o : Nat) (b : Ob) : St := { st with ob := (o, b) :: st.ob }
/-- An object is there no more. -/
def drop {α : Type} : List (Nat × α) → Nat → List (Nat × α)
  | [], _ => []
  | (k', x) :: r, k => if k = k' then drop r k else (k', x) :: drop r k
def St.del (st : St) (o : Nat) : St := { st with ob := drop st.ob o }

mutual
/-- What leads to an object is not known any more. -/
def killV (k : Nat) : V → V
  | .ref o p n => if o = k then .dead else .ref o p n
  | .bp o j => if o = k then .dead else .bp o j
  | .rp o p i j => if o = k then .dead else .rp o p i j
  | .agg vs => .agg (killL k vs)
  | .tup vs => .tup (killL k vs)
  | .cond c v => .cond c (killV k v)
  | v => v
def killL (k : Nat) : List V → List V
  | [] => []
  | v :: r => killV k v :: killL k r
end
mutual
/-- .. or only what leads into the rows within it. -/
def killN (k : Nat) : V → V
  | .ref o (x :: p) n => if o = k then .dead else .ref o (x :: p) n
  | .rp o (x :: p) i j => if o = k then .dead else .rp o (x :: p) i j
  | .agg vs => .agg (killNL k vs)
  | .tup vs => .tup (killNL k vs)
  | .cond c v => .cond c (killN k v)
  | v => v
def killNL (k : Nat) : List V → List V
  | [] => []
  | v :: r => killN k v :: killNL k r
end
def mapT (f : V → V) : List (Nat × V) → List (Nat × V)
  | [] => []
  | (t, v) :: r => (t, f v) :: mapT f r
theorem look_mapT (f : V → V) (l : List (Nat × V)) (t : Nat) : look (mapT f l) t = (look l t).map f := by
  induction l with
  | nil => rfl
  | cons x r ih =>
    obtain ⟨k, v⟩ := x
    simp only [mapT, look]
    by_cases h : t = k
    · simp [h]
    · simp [h, ih]
def St.kill (st : St) (o : Nat) : St := { st with tm := mapT (killV o) st.tm, ob := drop st.ob o }

theorem look_drop {α : Type} (l : List (Nat × α)) (k k' : Nat) : look (drop l k) k' = if k = k' then none else look l k' := by
  induction l with
  | nil => simp [drop, look]
  | cons x r ih =>
    obtain ⟨q, y⟩ := x
    simp only [drop]
    by_cases h : k = q
    · subst h
      rw [if_pos rfl, ih]
      by_cases h2 : k = k'
      · rw [if_pos h2, if_pos h2]
      · rw [if_neg h2, if_neg h2, look, if_neg (fun e => h2 e.symm)]
    · rw [if_neg h]
      simp only [look]
      by_cases h2 : k' = q
      · subst h2; rw [if_pos rfl, if_pos rfl, if_neg h]
      · rw [if_neg h2, if_neg h2, ih]

/-- What is hidden: where things lie. -/
structure Gh where
  S : Nat → Prop
  hv : Nat → Value
  bb : Nat → Nat
  bo : Nat → Nat
  F : Nat → Nat → Prop

/-- An object as it lies in memory. -/
inductive ObR (P : Program) (w : World) (gh : Gh) (o : Nat) : Ob → Prop
  | row {e : TypeId} {es : List (List D)} (h : Ow P w gh.S (.row false e es) (gh.hv o) (gh.F o)) : ObR P w gh o (.row e es)
  | box {cs : List D} (xs : List Value) (G : Nat → Nat → Prop) (hb : ∃ cur ty, w.heap[gh.bb o]? = some (.cells cur ty (0, 0))) (hl : xs.length = cs.length) (h1 : ∀ u ∈ xs, u.oneCell' = true)
      (hc : ∀ j, j < xs.length → w.cell? ⟨gh.bb o, gh.bo o + j, none⟩ = xs[j]?) (hx : ∀ j d, cs[j]? = some d → Ow P w gh.S d (xs.getD j undef) (G j))
      (dis : ∀ j j' d d' k, cs[j]? = some d → cs[j']? = some d' → G j k → G j' k → j = j') (nb : ∀ j d k, cs[j]? = some d → G j k → k ≠ gh.bb o)
      (hF : ∀ k, gh.F o k ↔ k = gh.bb o ∨ ∃ j d, cs[j]? = some d ∧ G j k) : ObR P w gh o (.box cs)

def subO : Ob → List (Nat × Nat) → Option D
  | .row e es, p => subD (.row false e es) p
  | .box _, [] => none
  | .box cs, (_, j) :: p => (cs[j]?).bind (subD · p)

def setO : Ob → List (Nat × Nat) → D → Ob
  | .row e es, p, d => match setD (.row false e es) p d with
    | .row _ e' es' => .row e' es'
    | _ => .row e es
  | .box cs, [], _ => .box cs
  | .box cs, (_, j) :: p, d => .box (cs.set j (setD (cs.getD j .dead) p d))

/-- A value met on a way down from an object. -/
def NavO (P : Program) (w : World) (gh : Gh) (o : Nat) : Ob → List (Nat × Nat) → D → Value → Prop
  | .row e es, p, d, v => Nav P w (.row false e es) (gh.hv o) p d v
  | .box _, [], _, _ => False
  | .box cs, (_, j) :: p, d, v => ∃ d1 v1, cs[j]? = some d1 ∧ w.cell? ⟨gh.bb o, gh.bo o + j, none⟩ = some v1 ∧ Nav P w d1 v1 p d v

/-- A slot's value is as is known. -/
inductive VR (P : Program) (w : World) (gh : Gh) (ob : List (Nat × Ob)) : V → Value → Prop
  | dead {u : Value} : VR P w gh ob .dead u
  | und : VR P w gh ob .und undef
  | sc {v : Value} (h : v.oneCell' = true) : VR P w gh ob (.sc v) v
  | nil {e : TypeId} : VR P w gh ob (.nil e) (.slice none 0 0)
  | imm {e : TypeId} {es : List (List D)} {u : Value} (h : Ro P w gh.S (.row true e es) u) : VR P w gh ob (.imm e es) u
  | ref {o n : Nat} {p : List (Nat × Nat)} {x : Ob} {e : TypeId} {es : List (List D)} {A : Option Addr} {c : Nat} (hx : look ob o = some x) (hn : NavO P w gh o x p (.row false e es) (.slice A es.length c)) (hle : n ≤ es.length) :
      VR P w gh ob (.ref o p n) (.slice A n c)
  | bp {o j : Nat} {cs : List D} (hx : look ob o = some (.box cs)) : VR P w gh ob (.bp o j) (.pointer (some ⟨gh.bb o, gh.bo o + j, none⟩))
  | rp {o i j : Nat} {p : List (Nat × Nat)} {x : Ob} {e : TypeId} {es : List (List D)} {ad : Addr} {c : Nat} (hx : look ob o = some x) (hn : NavO P w gh o x p (.row false e es) (.slice (some ad) es.length c)) :
      VR P w gh ob (.rp o p i j) (.pointer (some ⟨ad.block, ad.off + (i * szT P e + j), none⟩))
  | ip {ch : List D} {j b f : Nat} (U : Nat → Value) (hs : gh.S b) (h : ∀ q d, ch[q]? = some d → w.cell? ⟨b, f + q, none⟩ = some (U q) ∧ Ro P w gh.S d (U q)) : VR P w gh ob (.ip ch j) (.pointer (some ⟨b, f + j, none⟩))
  | agg {vs : List V} {us : Array Value} (hl : us.size = vs.length) (h1 : ∀ u ∈ us, u.oneCell' = true) (h : ∀ i v, vs[i]? = some v → VR P w gh ob v (us.getD i undef)) : VR P w gh ob (.agg vs) (.agg us)
  | tup {vs : List V} {us : Array Value} (hl : us.size = vs.length) (h : ∀ i v, vs[i]? = some v → VR P w gh ob v (us.getD i undef)) : VR P w gh ob (.tup vs) (.tuple us)
  | cond {c : Bool} {v : V} {u : Value} (ht : c = true → VR P w gh ob v u) (hf : c = false → u = undef) : VR P w gh ob (.cond c v) u

/-- w0: the world in which the call began; may: what it may write there; pin: objects that lie where they lay. -/
structure Cx where
  w0 : World
  s0 : Nat → Prop
  may : Nat → Nat → Prop
  pin : Nat → Option (Value × Nat × Nat)
  z : Nat → Prop

/-- All that is known. X: blocks that are held in hand. -/
structure Rep (P : Program) (C : Cx) (X : Nat → Prop) (st : St) (a : Act) (w : World) (gh : Gh) : Prop where
  obs : ∀ o b, look st.ob o = some b → ObR P w gh o b
  dis : ∀ o o' b b' k, look st.ob o = some b → look st.ob o' = some b' → gh.F o k → gh.F o' k → o = o'
  sS : ∀ k, gh.S k → k < w.heap.size
  nS : ∀ o b k, look st.ob o = some b → gh.F o k → ¬ gh.S k
  wrR : ∀ o e es k, look st.ob o = some (.row e es) → gh.F o k → C.w0.heap.size ≤ k ∨ ∀ f, C.may k f
  wrB : ∀ o cs k, look st.ob o = some (.box cs) → gh.F o k → k ≠ gh.bb o → C.w0.heap.size ≤ k ∨ ∀ f, C.may k f
  wrC : ∀ o cs j, look st.ob o = some (.box cs) → j < cs.length → C.w0.heap.size ≤ gh.bb o ∨ C.may (gh.bb o) (gh.bo o + j)
  kept : C.w0.keptBut w (fun p => ∃ b f, p = .cell b f ∧ C.may b f)
  pins : ∀ o x, C.pin o = some x → look st.ob o ≠ none → (gh.hv o, gh.bb o, gh.bo o) = x
  tms : ∀ t, VR P w gh st.ob (st.get t) (a.tmps.getD t undef)
  nt : st.nt ≤ a.tmps.size
  dfs : a.defers = []
  xl : ∀ k, X k → k < w.heap.size
  xS : ∀ k, X k → ¬ gh.S k
  xF : ∀ o b k, look st.ob o = some b → X k → ¬ gh.F o k
  xW : ∀ k, X k → C.w0.heap.size ≤ k ∨ ∀ f, C.may k f
  s0S : ∀ k, C.s0 k → gh.S k
  sZ : ∀ k, gh.S k → C.z k

section
variable {P : Program} {w w1 : World} {C : Cx} {X : Nat → Prop} {gh : Gh} {st : St} {a : Act} {v : V} {u : Value} {ob : List (Nat × Ob)}

theorem NavO.move {o : Nat} {b : Ob} {p : List (Nat × Nat)} {d : D} (h : NavO P w gh o b p d u) (hw : ∀ x y, w.cell? x = some y → w1.cell? x = some y) : NavO P w1 gh o b p d u := by
  unfold NavO at h ⊢
  split
  · exact Nav.move h hw
  · exact h
  · obtain ⟨d1, v1, h1, h2, h3⟩ := h
    exact ⟨d1, v1, h1, hw _ _ h2, h3.move hw⟩

/-- A slot's value stands where all cells that were there stand. -/
theorem VR.cells (h : VR P w gh ob v u) (hw : ∀ x y, w.cell? x = some y → w1.cell? x = some y) (hS : ∀ k, gh.S k → w1.heap[k]? = w.heap[k]?) : VR P w1 gh ob v u := by
  induction h with
  | dead => exact .dead
  | und => exact .und
  | sc h => exact .sc h
  | nil => exact .nil
  | imm h => exact .imm (h.move hS)
  | ref hx hn hle => exact .ref hx (hn.move hw) hle
  | bp hx => exact .bp hx
  | rp hx hn => exact .rp hx (hn.move hw)
  | ip U hs h => exact .ip U hs fun q d hd => ⟨hw _ _ (h q d hd).1, (h q d hd).2.move hS⟩
  | agg hl h1 h ih => exact .agg hl h1 ih
  | tup hl h ih => exact .tup hl ih
  | cond ht hf ih => exact .cond ih hf

theorem look_cons_self {α : Type} (l : List (Nat × α)) (k : Nat) (x : α) : look ((k, x) :: l) k = some x := by simp [look]
theorem look_cons_ne {α : Type} (l : List (Nat × α)) {k k' : Nat} (x : α) (h : k' ≠ k) : look ((k, x) :: l) k' = look l k' := by simp [look, h]

theorem St.get_set (st : St) (t t' : Nat) (v : V) : (st.set t v).get t' = if t' = t then v else st.get t' := by
  unfold St.get St.set
  by_cases h : t' = t <;> simp [h, look]

theorem tmps_put {a : Act} {d t : Nat} {u : Value} (hd : d < a.tmps.size) : (a.put (some d) u).tmps.getD t undef = if t = d then u else a.tmps.getD t undef := by
  unfold Act.put
  by_cases h : t = d
  · subst h; simp [Array.getD, hd]
  · rw [if_neg h]; simp only [Array.getD, Array.size_setIfInBounds]
    split
    · rename_i ht; simp only [Array.getInternal_eq_getElem]; rw [Array.getElem_setIfInBounds_ne]; exact fun e => h e.symm
    · rfl

/-- A slot gets a value; memory stands. -/
theorem Rep.set (h : Rep P C X st a w gh) {d : Nat} (hd : d < st.nt) (hv : VR P w gh st.ob v u) : Rep P C X (st.set d v) (a.put (some d) u) w gh where
  obs := h.obs
  dis := h.dis
  sS := h.sS
  nS := h.nS
  wrR := h.wrR
  wrB := h.wrB
  wrC := h.wrC
  kept := h.kept
  pins := h.pins
  tms := by
    intro t
    rw [tmps_put (Nat.lt_of_lt_of_le hd h.nt), St.get_set]
    by_cases e : t = d
    · rw [if_pos e, if_pos e]; exact hv
    · rw [if_neg e, if_neg e]; exact h.tms t
  nt := by
    have := h.nt
    simp only [Act.put, Array.size_setIfInBounds]; exact this
  dfs := h.dfs
  xl := h.xl
  xS := h.xS
  xF := h.xF
  xW := h.xW
  s0S := h.s0S
  sZ := h.sZ
end
end Go.Proofs.YtaodmogcjpainaaDoor.AW
