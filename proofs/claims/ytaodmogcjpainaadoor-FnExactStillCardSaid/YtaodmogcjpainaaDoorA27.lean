/- An object under another number; steps and stops in a sequence. No condition. -/
import Derived.Test.YtaodmogcjpainaaDoorA26
import Derived.Laws.Strings
namespace Go.Proofs.YtaodmogcjpainaaDoor.AW
open Go.RowKit
set_option linter.unusedSimpArgs false
set_option linter.unusedVariables false

theorem bytes_eq (a b : ByteArray) : (a.toList == b.toList) = decide (a = b) := by
  rw [ByteArray.toList_eq, ByteArray.toList_eq]
  by_cases h : a = b
  · subst h; simp
  · have : ¬ a.data.toList = b.data.toList := fun e => h (ByteArray.ext (Array.toList_inj.1 e))
    rw [decide_eq_false h]
    exact beq_eq_false_iff_ne.2 this

mutual
def renV (o o' : Nat) : V → V
  | .ref k p n => .ref (if k = o then o' else k) p n
  | .bp k j => .bp (if k = o then o' else k) j
  | .rp k p i j => .rp (if k = o then o' else k) p i j
  | .agg vs => .agg (renL o o' vs)
  | .tup vs => .tup (renL o o' vs)
  | .cond c v => .cond c (renV o o' v)
  | .dead => .dead
  | .und => .und
  | .sc v => .sc v
  | .nil t => .nil t
  | .imm t l => .imm t l
  | .ip ch j => .ip ch j
def renL (o o' : Nat) : List V → List V
  | [] => []
  | v :: r => renV o o' v :: renL o o' r
end

def renO {α : Type} (o o' : Nat) : List (Nat × α) → List (Nat × α)
  | [] => []
  | (k, x) :: r => (if k = o then o' else k, x) :: renO o o' r

/-- Object o gets the number o'. -/
def St.ren (st : St) (o o' : Nat) : St := match look st.ob o' with
  | none => { st with tm := mapT (renV o o') st.tm, ob := renO o o' st.ob }
  | some _ => st

/-- A slot that holds no row holds an empty one. -/
def St.emp (st : St) (t : Nat) (e : TypeId) : St := match st.get t with
  | .nil _ => st.set t (.imm e [])
  | .sc (.slice none 0 0) => st.set t (.imm e [])
  | _ => st

section
variable {P : Program} {w w1 : World} {C : Cx} {X : Nat → Prop} {gh : Gh} {st st' st'' : St} {a : Act} {v : V} {u : Value} {ob ob' : List (Nat × Ob)} {S S' : Nat → Prop} {K : St → Prop} {d : D} {F : Nat → Prop}

theorem renL_get (o o' : Nat) (vs : List V) (i : Nat) : (renL o o' vs)[i]? = (vs[i]?).map (renV o o') := by
  induction vs generalizing i with
  | nil => simp [renL]
  | cons v r ih => cases i <;> simp [renL, ih]
theorem renL_length (o o' : Nat) (vs : List V) : (renL o o' vs).length = vs.length := by
  induction vs with
  | nil => rfl
  | cons v r ih => simp [renL, ih]

theorem look_ren {α : Type} {o o' : Nat} : ∀ {l : List (Nat × α)}, look l o' = none → ∀ k, look (renO o o' l) k = if k = o' then look l o else if k = o ∧ o ≠ o' then none else look l k
  | [], _, k => by simp [renO, look]
  | (q, x) :: r, h, k => by
    have hq : o' ≠ q ∧ look r o' = none := by
      simp only [look] at h
      by_cases e : o' = q
      · rw [if_pos e] at h; cases h
      · rw [if_neg e] at h; exact ⟨e, h⟩
    have ih := look_ren (o := o) hq.2 k
    simp only [renO, look]
    by_cases e1 : q = o
    · subst e1
      simp only [if_true]
      by_cases e2 : k = o'
      · simp [e2]
      · simp only [if_neg e2] at ih ⊢
        rw [ih]
        by_cases e3 : k = q
        · subst e3; simp [e2]
        · simp [e3]
    · simp only [if_neg e1]
      by_cases e4 : k = q
      · subst e4
        have e5 : k ≠ o' := fun e => hq.1 e.symm
        simp [e5, e1]
      · simp only [if_neg e4]
        rw [ih]
        by_cases e2 : k = o'
        · simp [e2, Ne.symm e1]
        · simp [e2]

/-- What lies where: under the other number. -/
def Gh.ren (gh : Gh) (o o' : Nat) : Gh := ⟨gh.S, fun k => if k = o' then gh.hv o else gh.hv k, fun k => if k = o' then gh.bb o else gh.bb k, fun k => if k = o' then gh.bo o else gh.bo k, fun k => if k = o' then gh.F o else gh.F k⟩

theorem ObR.at {gh' : Gh} {o o' : Nat} {x : Ob} (h : ObR P w gh o x) (hS : gh'.S = gh.S) (h1 : gh'.hv o' = gh.hv o) (h2 : gh'.bb o' = gh.bb o) (h3 : gh'.bo o' = gh.bo o) (h4 : gh'.F o' = gh.F o) : ObR P w gh' o' x := by
  cases h with
  | row h => exact .row (by rw [hS, h1, h4]; exact h)
  | box xs G hb hl h1' hc hx dis nb hF =>
    exact .box xs G (by rw [h2]; exact hb) hl h1' (by rw [h2, h3]; exact hc) (by rw [hS]; exact hx) dis (by rw [h2]; exact nb) (by rw [h2, h4]; exact hF)

theorem NavO.at {gh' : Gh} {o o' : Nat} {x : Ob} {p : List (Nat × Nat)} {d : D} (h : NavO P w gh o x p d u) (h1 : gh'.hv o' = gh.hv o) (h2 : gh'.bb o' = gh.bb o) (h3 : gh'.bo o' = gh.bo o) : NavO P w gh' o' x p d u := by
  unfold NavO at h ⊢
  split <;> simp_all

theorem VR.ren (h : VR P w gh ob v u) {o o' : Nat} (ho' : look ob o' = none) : VR P w (gh.ren o o') (renO o o' ob) (renV o o' v) u := by
  have key : ∀ k x, look ob k = some x → look (renO o o' ob) (if k = o then o' else k) = some x ∧ (gh.ren o o').hv (if k = o then o' else k) = gh.hv k ∧ (gh.ren o o').bb (if k = o then o' else k) = gh.bb k ∧ (gh.ren o o').bo (if k = o then o' else k) = gh.bo k := by
    intro k x hx
    have hne : k ≠ o' := fun e => by rw [e, ho'] at hx; cases hx
    by_cases e : k = o
    · subst e
      simp only [if_true]
      refine ⟨?_, ?_, ?_, ?_⟩
      · rw [look_ren ho', if_pos rfl]; exact hx
      all_goals simp [Gh.ren]
    · simp only [if_neg e]
      refine ⟨?_, ?_, ?_, ?_⟩
      · rw [look_ren ho', if_neg hne, if_neg (fun h => e h.1)]; exact hx
      all_goals simp [Gh.ren, hne]
  induction h with
  | dead => exact .dead
  | und => exact .und
  | sc h => exact .sc h
  | nil => exact .nil
  | imm h => exact .imm h
  | ref hx hn hle =>
    obtain ⟨k1, k2, k3, k4⟩ := key _ _ hx
    exact .ref k1 (hn.at k2 k3 k4) hle
  | bp hx =>
    obtain ⟨k1, k2, k3, k4⟩ := key _ _ hx
    simp only [renV]
    rw [← k3, ← k4]
    exact .bp k1
  | rp hx hn =>
    obtain ⟨k1, k2, k3, k4⟩ := key _ _ hx
    exact .rp k1 (hn.at k2 k3 k4)
  | ip U hs h => exact .ip (gh := gh.ren o o') U hs h
  | agg hl h1 h ih =>
    simp only [renV]
    refine .agg (by rw [renL_length]; exact hl) h1 (fun i v hv => ?_)
    rw [renL_get] at hv
    obtain ⟨v0, hv0, rfl⟩ := Option.map_eq_some_iff.1 hv
    exact ih i v0 hv0
  | tup hl h ih =>
    simp only [renV]
    refine .tup (by rw [renL_length]; exact hl) (fun i v hv => ?_)
    rw [renL_get] at hv
    obtain ⟨v0, hv0, rfl⟩ := Option.map_eq_some_iff.1 hv
    exact ih i v0 hv0
  | cond ht hf ih => simp only [renV]; exact .cond ih hf

theorem Ent.ren {o o' : Nat} (hp : C.pin o' = none) : Ent P C st (st.ren o o') := fun a w gh h => by
  unfold St.ren
  split
  case h_2 => exact ⟨gh, h⟩
  rename_i ho'
  have hd : ∀ k b, look (renO o o' st.ob) k = some b → ∃ q, look st.ob q = some b ∧ (gh.ren o o').hv k = gh.hv q ∧ (gh.ren o o').bb k = gh.bb q ∧ (gh.ren o o').bo k = gh.bo q ∧ (gh.ren o o').F k = gh.F q ∧ k = (if q = o then o' else q) := by
    intro k b hb
    rw [look_ren ho'] at hb
    by_cases e : k = o'
    · rw [if_pos e] at hb
      exact ⟨o, hb, by simp [Gh.ren, e], by simp [Gh.ren, e], by simp [Gh.ren, e], by simp [Gh.ren, e], by simp [e]⟩
    · rw [if_neg e] at hb
      by_cases e2 : k = o ∧ o ≠ o'
      · rw [if_pos e2] at hb; cases hb
      · rw [if_neg e2] at hb
        have e3 : k ≠ o := fun e3 => e2 ⟨e3, fun e4 => e (e3.trans e4)⟩
        exact ⟨k, hb, by simp [Gh.ren, e], by simp [Gh.ren, e], by simp [Gh.ren, e], by simp [Gh.ren, e], by simp [e3]⟩
  refine ⟨gh.ren o o', ?_⟩
  exact {
    obs := fun k b hb => by
      obtain ⟨q, h0, h1, h2, h3, h4, _⟩ := hd k b hb
      exact (h.obs q b h0).at rfl h1 h2 h3 h4
    dis := fun k1 k2 b1 b2 x h1 h2 hx1 hx2 => by
      obtain ⟨q1, a0, _, _, _, a4, a5⟩ := hd k1 b1 h1
      obtain ⟨q2, c0, _, _, _, c4, c5⟩ := hd k2 b2 h2
      rw [a4] at hx1; rw [c4] at hx2
      rw [a5, c5, h.dis q1 q2 b1 b2 x a0 c0 hx1 hx2]
    sS := h.sS
    nS := fun k b x hb hx => by
      obtain ⟨q, h0, _, _, _, h4, _⟩ := hd k b hb
      rw [h4] at hx
      exact h.nS q b x h0 hx
    wrR := fun k e es x hb hx => by
      obtain ⟨q, h0, _, _, _, h4, _⟩ := hd k _ hb
      rw [h4] at hx
      exact h.wrR q e es x h0 hx
    wrB := fun k cs x hb hx => by
      obtain ⟨q, h0, _, h2, _, h4, _⟩ := hd k _ hb
      rw [h4] at hx
      rw [h2]
      exact h.wrB q cs x h0 hx
    wrC := fun k cs j hb hj => by
      obtain ⟨q, h0, _, h2, h3, _, _⟩ := hd k _ hb
      rw [h2, h3]
      exact h.wrC q cs j h0 hj
    kept := h.kept
    pins := fun k x hk hn => by
      by_cases e : k = o'
      · rw [e, hp] at hk; cases hk
      · have e1 : (gh.ren o o').hv k = gh.hv k := by simp [Gh.ren, e]
        have e2 : (gh.ren o o').bb k = gh.bb k := by simp [Gh.ren, e]
        have e3 : (gh.ren o o').bo k = gh.bo k := by simp [Gh.ren, e]
        rw [e1, e2, e3]
        refine h.pins k x hk (fun e4 => hn ?_)
        simp only []
        rw [look_ren ho', if_neg e]
        split
        · rfl
        · exact e4
    tms := fun t => by
      have : St.get { st with tm := mapT (renV o o') st.tm, ob := renO o o' st.ob } t = renV o o' (st.get t) := by
        unfold St.get; simp only [look_mapT]
        cases look st.tm t <;> simp [renV]
      rw [this]
      exact (h.tms t).ren ho'
    nt := h.nt
    dfs := h.dfs
    xl := h.xl
    xS := h.xS
    xF := fun k b x hb hx hF => by
      obtain ⟨q, h0, _, _, _, h4, _⟩ := hd k b hb
      rw [h4] at hF
      exact h.xF q b x h0 hx hF
    xW := h.xW
    s0S := h.s0S
    sZ := h.sZ }

theorem ro_empty {e : TypeId} : Ro P w S (.row true e []) (.slice none 0 0) :=
  .row (fun _ _ => undef) (Nat.le_refl _) (Nat.zero_le _) (by simp) (fun h => absurd h (Nat.lt_irrefl 0)) (fun i j d hd => by simp [cellAt] at hd)

theorem Rep.set0 (h : Rep P C X st a w gh) {d : Nat} (hv : VR P w gh st.ob v (a.tmps.getD d undef)) : Rep P C X (st.set d v) a w gh where
  obs := h.obs
  dis := h.dis
  sS := h.sS
  nS := h.nS
  wrR := h.wrR
  wrB := h.wrB
  wrC := h.wrC
  kept := h.kept
  pins := h.pins
  tms := by
    intro t
    rw [St.get_set]
    by_cases e : t = d
    · rw [if_pos e, e]; exact hv
    · rw [if_neg e]; exact h.tms t
  nt := h.nt
  dfs := h.dfs
  xl := h.xl
  xS := h.xS
  xF := h.xF
  xW := h.xW
  s0S := h.s0S
  sZ := h.sZ

theorem Ent.emp (t : Nat) (e : TypeId) : Ent P C st (st.emp t e) := fun a w gh h => by
  unfold St.emp
  split
  · rename_i e' he
    have ht := h.tms t
    rw [he] at ht
    refine ⟨gh, h.set0 ?_⟩
    generalize a.tmps.getD t undef = u at ht
    cases ht
    exact .imm ro_empty
  · rename_i he
    have ht := h.tms t
    rw [he] at ht
    refine ⟨gh, h.set0 ?_⟩
    generalize a.tmps.getD t undef = u at ht
    cases ht
    exact .imm ro_empty
  · exact ⟨gh, h⟩

/-- A step of a sequence; what is behind stays as it is. -/
theorem Tri.step (hz : Sized P) {x y : Code} {Q : Exit → St → Prop} (h : aCode P C x st (Exit.seq (fun st' => Tri P C st' y Q) Q)) : Tri P C st (.seq x y) Q := Tri.seq (code_sound hz x h)

/-- .. and behind it one thing alone is known. -/
theorem Tri.stop (hz : Sized P) (st1 : St) {x y : Code} {Q : Exit → St → Prop} (h : aCode P C x st (Exit.seq (fun st' => Ent P C st' st1) Q)) (h2 : Tri P C st1 y Q) : Tri P C st (.seq x y) Q :=
  Tri.seq ((code_sound hz x h).mono fun e s hs => by
    cases e with
    | normal => exact h2.ent hs
    | _ => exact hs)
end
end Go.Proofs.YtaodmogcjpainaaDoor.AW
