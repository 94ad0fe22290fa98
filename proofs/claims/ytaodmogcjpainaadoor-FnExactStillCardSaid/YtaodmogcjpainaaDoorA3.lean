/- The operations that only reckon and read: what they come to, told of what is known of the slots. No condition. -/
import Derived.Test.YtaodmogcjpainaaDoorA2
namespace Go.Proofs.YtaodmogcjpainaaDoor.AW
open Go.RowKit

def V.str : V → V
  | .cond _ v => v.str
  | v => v
def V.ok : V → Prop
  | .cond c v => c = true ∧ v.ok
  | _ => True

section
variable {P : Program} {w w1 : World} {C : Cx} {X : Nat → Prop} {gh : Gh} {st : St} {a : Act} {v : V} {u : Value} {ob : List (Nat × Ob)}

theorem VR.use (h : VR P w gh ob v u) (hk : v.ok) : VR P w gh ob v.str u := by
  induction h with
  | cond ht hf ih =>
    obtain ⟨h1, h2⟩ := hk
    exact ih h1 h2
  | dead => exact .dead
  | und => exact .und
  | sc h => exact .sc h
  | nil => exact .nil
  | imm h => exact .imm h
  | ref hx hn hle => exact .ref hx hn hle
  | bp hx => exact .bp hx
  | rp hx hn => exact .rp hx hn
  | ip U hs h => exact .ip U hs h
  | agg hl h1 h => exact .agg hl h1 h
  | tup hl h => exact .tup hl h

def constV : Value → V
  | .agg cs => if cs.all (·.oneCell') then .agg (cs.toList.map .sc) else .dead
  | .tuple _ => .dead
  | v => .sc v

def St.ev (st : St) : Operand → V
  | .tmp t => st.get t
  | .const v => constV v
  | .global _ => .dead
  | .func f => .sc (.func (.func f) #[] #[])

theorem constV_VR (v : Value) : VR P w gh ob (constV v) v := by
  unfold constV
  split
  · rename_i cs
    split
    · rename_i h
      refine .agg (by simp) (fun u hu => (Array.all_eq_true_iff_forall_mem.1 h) u hu) (fun i v hv => ?_)
      simp only [List.getElem?_map, Option.map_eq_some_iff, Array.getElem?_toList] at hv
      obtain ⟨x, hx, rfl⟩ := hv
      have : cs.getD i undef = x := by
        obtain ⟨hi, rfl⟩ := Array.getElem?_eq_some_iff.1 hx
        simp [Array.getD, hi]
      rw [this]
      exact .sc ((Array.all_eq_true_iff_forall_mem.1 h) x (Array.mem_of_getElem? hx))
    · exact .dead
  · exact .dead
  · rename_i h1 h2
    refine .sc ?_
    cases v <;> first | rfl | (exact absurd rfl (h1 _)) | (exact absurd rfl (h2 _))

theorem Rep.ev (h : Rep P C X st a w gh) (x : Operand) : VR P w gh st.ob (st.ev x) (a.eval x) := by
  cases x with
  | tmp t => exact h.tms t
  | const v => exact constV_VR v
  | global g => exact .dead
  | func f => exact .sc rfl

theorem Rep.use (h : Rep P C X st a w gh) (x : Operand) (hk : (st.ev x).ok) : VR P w gh st.ob (st.ev x).str (a.eval x) := (h.ev x).use hk

/-! ### Places -/
def cellV (o : Nat) (p : List (Nat × Nat)) (i j : Nat) : D → V
  | .sc v => .sc v
  | .row true e es => .imm e es
  | .row false _ es => .ref o (p ++ [(i, j)]) es.length
  | .dead => .dead
def cellI : D → V
  | .sc v => .sc v
  | .row _ e es => .imm e es
  | .dead => .dead

/-- What lies q cells behind a pointer. -/
def rdD (st : St) : V → Nat → Option V
  | .bp o j, q => match look st.ob o with
    | some (.box cs) => (cs[j + q]?).map (cellV o [] 0 (j + q))
    | _ => none
  | .rp o p i j, q => match (look st.ob o).bind (subO · p) with
    | some (.row false _ es) => (cellAt es i (j + q)).map (cellV o p i (j + q))
    | _ => none
  | .ip ch j, q => (ch[j + q]?).map cellI
  | _, _ => none

theorem Nav.snoc {d d1 : D} {v v1 : Value} {p : List (Nat × Nat)} {e : TypeId} {es : List (List D)} {ad : Addr} {l c i j : Nat} (h : Nav P w d v p (.row false e es) (.slice (some ad) l c)) (hc : cellAt es i j = some d1)
    (hw : w.cell? ⟨ad.block, ad.off + (i * szT P e + j), none⟩ = some v1) : Nav P w d v (p ++ [(i, j)]) d1 v1 := by
  generalize hd : D.row false e es = d' at h
  generalize hv : Value.slice (some ad) l c = v' at h
  induction h with
  | nil => subst hd; subst hv; exact .cons hc hw .nil
  | cons hc' hw' hn ih => exact .cons hc' hw' (ih hd hv)

theorem NavO.snoc {o : Nat} {x : Ob} {d1 : D} {v1 : Value} {p : List (Nat × Nat)} {e : TypeId} {es : List (List D)} {ad : Addr} {l c i j : Nat} (h : NavO P w gh o x p (.row false e es) (.slice (some ad) l c)) (hc : cellAt es i j = some d1)
    (hw : w.cell? ⟨ad.block, ad.off + (i * szT P e + j), none⟩ = some v1) : NavO P w gh o x (p ++ [(i, j)]) d1 v1 := by
  unfold NavO at h ⊢
  split at h
  · exact h.snoc hc hw
  · exact h.elim
  · obtain ⟨d0, v0, h1, h2, h3⟩ := h
    exact ⟨d0, v0, h1, h2, h3.snoc hc hw⟩

/-- Down from an object to a row within, and up again. -/
theorem ObR.focus {o : Nat} {x : Ob} {p : List (Nat × Nat)} {e : TypeId} {es : List (List D)} (h : ObR P w gh o x) (hs : subO x p = some (.row false e es)) :
    ∃ v' F', NavO P w gh o x p (.row false e es) v' ∧ Ow P w gh.S (.row false e es) v' F' ∧ (∀ k, F' k → gh.F o k) := by
  cases h with
  | @row e0 es0 h =>
    obtain ⟨v', F', h1, h2, h3, _⟩ := h.focus (p := p) hs
    exact ⟨v', F', h1, h2, h3⟩
  | @box cs xs G hb hl h1 hc hx dis nb hF =>
    cases p with
    | nil => simp [subO] at hs
    | cons ij p =>
      obtain ⟨i, j⟩ := ij
      simp only [subO, Option.bind_eq_some_iff] at hs
      obtain ⟨d, hd, hs⟩ := hs
      obtain ⟨v', F', h1', h2', h3', _⟩ := (hx j d hd).focus hs
      have hj : j < xs.length := by rw [hl]; exact (List.getElem?_eq_some_iff.1 hd).1
      exact ⟨v', F', ⟨d, _, hd, (hc j hj).trans (getD_of_lt hj), h1'⟩, h2', fun k hk => (hF k).2 (Or.inr ⟨j, d, hd, h3' k hk⟩)⟩

theorem Nav.sub {d d2 : D} {v v2 : Value} {p : List (Nat × Nat)} (h : Nav P w d v p d2 v2) : subD d p = some d2 := by
  induction h with
  | nil => rfl
  | cons hc hw hn ih => simp only [subD, hc, Option.bind_some]; exact ih

theorem NavO.sub {o : Nat} {x : Ob} {p : List (Nat × Nat)} {d2 : D} {v2 : Value} (h : NavO P w gh o x p d2 v2) : subO x p = some d2 := by
  unfold NavO at h
  split at h
  · exact h.sub
  · exact h.elim
  · obtain ⟨d0, v0, h1, h2, h3⟩ := h
    simp only [subO, h1, Option.bind_some]; exact h3.sub

theorem NavO.fn {o : Nat} {x : Ob} {p : List (Nat × Nat)} {d2 d3 : D} {v2 v3 : Value} (h : NavO P w gh o x p d2 v2) (h' : NavO P w gh o x p d3 v3) : d2 = d3 ∧ v2 = v3 := by
  unfold NavO at h h'
  split at h
  · exact h.fn h'
  · exact h.elim
  · obtain ⟨d0, v0, h1, h2, h3⟩ := h
    obtain ⟨d0', v0', h1', h2', h3'⟩ := h'
    rw [h1] at h1'; cases h1'
    rw [h2] at h2'; cases h2'
    exact h3.fn h3'

theorem cellV_VR {o : Nat} {x : Ob} {p : List (Nat × Nat)} {i j : Nat} {d : D} {F : Nat → Prop} (hx : look ob o = some x) (hw : Ow P w gh.S d u F) (hn : NavO P w gh o x (p ++ [(i, j)]) d u) : VR P w gh ob (cellV o p i j d) u := by
  cases hw with
  | dead h => exact .dead
  | sc h => exact .sc h
  | shared h => exact .imm h
  | @row e es _ xs G own hsz h1 hx' dis nb =>
    simp only [cellV]
    rcases own.2 with ⟨rfl, h0⟩ | ⟨g, cap, cur, rfl, _⟩
    · rw [h0]
      have := VR.ref (n := 0) hx (A := none) (c := 0) (by rw [h0]; exact hn) (Nat.zero_le _)
      exact this
    · exact .ref hx hn (Nat.le_refl _)

theorem cellI_VR {d : D} (h : Ro P w gh.S d u) : VR P w gh ob (cellI d) u := by
  cases h with
  | dead h => exact .dead
  | sc h => exact .sc h
  | row U hl hm hsz hA hU => exact .imm (.row U hl hm hsz hA hU)

/-- What is read is as is known. -/
theorem Rep.rd (h : Rep P C X st a w gh) {pv : V} {u : Value} (hp : VR P w gh st.ob pv u) {q : Nat} {x : V} (hr : rdD st pv q = some x) :
    ∃ b f y, u = .pointer (some ⟨b, f, none⟩) ∧ w.cell? ⟨b, f + q, none⟩ = some y ∧ VR P w gh st.ob x y ∧ y.oneCell' = true := by
  cases hp with
  | dead => simp [rdD] at hr
  | und => simp [rdD] at hr
  | sc => simp [rdD] at hr
  | nil => simp [rdD] at hr
  | imm => simp [rdD] at hr
  | ref => simp [rdD] at hr
  | agg => simp [rdD] at hr
  | tup => simp [rdD] at hr
  | cond => simp [rdD] at hr
  | @bp o j cs hx =>
    simp only [rdD, hx, Option.map_eq_some_iff] at hr
    obtain ⟨d, hd, rfl⟩ := hr
    have hb := h.obs o _ hx
    cases hb with
    | box xs G hb hl h1 hc hx' dis nb hF =>
      have hj : j + q < xs.length := by rw [hl]; exact (List.getElem?_eq_some_iff.1 hd).1
      have hcell := (hc _ hj).trans (getD_of_lt hj)
      refine ⟨_, _, _, rfl, by rw [Nat.add_assoc]; exact hcell, cellV_VR hx (hx' _ d hd) ⟨d, _, hd, hcell, .nil⟩, (hx' _ d hd).one⟩
  | @rp o i j p x0 e es ad c hx hn =>
    have hs := hn.sub
    simp only [rdD, hx, Option.bind_some, hs, Option.map_eq_some_iff] at hr
    obtain ⟨d, hd, rfl⟩ := hr
    obtain ⟨v', F', hn', how, _⟩ := (h.obs o _ hx).focus hs
    obtain ⟨_, rfl⟩ := hn.fn hn'
    cases how with
    | row xs G own hsz h1 hx' dis nb =>
      have hlt := off_lt (cellAt_lt hd) (cellAt_len hd hsz)
      obtain ⟨g, cap, he, hcc, hm, hcell, _⟩ := ownsRow_cell own (by have := cellAt_lt hd; omega)
      cases he
      have hcl := (hcell _ hlt).trans (getD_of_lt (by rw [own.1]; exact hlt))
      refine ⟨_, _, _, rfl, ?_, cellV_VR hx (hx' _ _ d hd) (hn.snoc hd ?_), (hx' _ _ d hd).one⟩
      · simp only [Nat.zero_add, Nat.add_assoc]; exact hcl
      · simp only [Nat.zero_add]; exact hcl
  | @ip ch j b f U hs hU =>
    simp only [rdD, Option.map_eq_some_iff] at hr
    obtain ⟨d, hd, rfl⟩ := hr
    obtain ⟨h1, h2⟩ := hU _ d hd
    exact ⟨_, _, _, rfl, by rw [Nat.add_assoc]; exact h1, cellI_VR h2, h2.one⟩
end
end Go.Proofs.YtaodmogcjpainaaDoor.AW
