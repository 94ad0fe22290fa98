/- New objects: variables and rows of one's own, out of what is in hand. No condition. -/
import Derived.Test.YtaodmogcjpainaaDoorA10
namespace Go.Proofs.YtaodmogcjpainaaDoor.AW
open Go.RowKit
set_option linter.unusedSimpArgs false
set_option linter.unusedVariables false

/-- An object takes the place of what bore its number. -/
def St.fresh (st : St) (d : Nat) (b : Ob) : St := (st.kill d).put d b

def No : Nat → Prop := fun _ => False

section
variable {P : Program} {w w1 : World} {C : Cx} {X : Nat → Prop} {gh : Gh} {st : St} {a : Act} {v : V} {u : Value} {ob : List (Nat × Ob)}

theorem Rep.forget (h : Rep P C X st a w gh) (o : Nat) : Rep P C X (st.kill o) a w gh where
  obs := fun o' b hb => by
    rw [look_kill] at hb
    split at hb
    · cases hb
    · exact h.obs o' b hb
  dis := fun o1 o2 b1 b2 k h1 h2 hk1 hk2 => by
    rw [look_kill] at h1 h2
    split at h1; · cases h1
    split at h2; · cases h2
    exact h.dis o1 o2 b1 b2 k h1 h2 hk1 hk2
  sS := h.sS
  nS := fun o' b k hb hk => by
    rw [look_kill] at hb
    split at hb; · cases hb
    exact h.nS o' b k hb hk
  wrR := fun o' e' es' k hb hk => by
    rw [look_kill] at hb
    split at hb; · cases hb
    exact h.wrR o' e' es' k hb hk
  wrB := fun o' cs k hb hk => by
    rw [look_kill] at hb
    split at hb; · cases hb
    exact h.wrB o' cs k hb hk
  wrC := fun o' cs j hb hj => by
    rw [look_kill] at hb
    split at hb; · cases hb
    exact h.wrC o' cs j hb hj
  kept := h.kept
  pins := fun o' x hx hn => by
    rw [look_kill] at hn
    split at hn; · exact absurd rfl hn
    exact h.pins o' x hx hn
  tms := fun t => by rw [St.get_kill]; exact (h.tms t).kill o
  nt := h.nt
  dfs := h.dfs
  xl := h.xl
  xS := h.xS
  xF := fun o' b k hb hk => by
    rw [look_kill] at hb
    split at hb
    · cases hb
    · exact h.xF o' b k hb hk
  xW := h.xW
  s0S := h.s0S
  sZ := h.sZ

/-- What is in hand becomes an object numbered d. -/
theorem Rep.fresh (h : Rep P C X st a w gh) {d : Nat} {x : Ob} {v' : Value} {b f : Nat} {F : Nat → Prop} (hp : C.pin d = none) (hx : ObR P w (gh.upd d v' b f F) d x) (hF : ∀ k, F k → X k) :
    Rep P C (fun k => X k ∧ ¬ F k) (st.fresh d x) a w (gh.upd d v' b f F) :=
  (h.forget d).lay (by rw [look_kill, if_pos rfl]) hp hx hF

theorem fresh_look (st : St) (d : Nat) (x : Ob) : look (st.fresh d x).ob d = some x := by
  unfold St.fresh St.put; rw [look_cons_self]

/-- A row in hand is laid down. -/
theorem Rep.freshRow (h : Rep P C X st a w gh) {d : Nat} {e : TypeId} {es : List (List D)} {v' : Value} {F : Nat → Prop} (hp : C.pin d = none) (how : Ow P w gh.S (.row false e es) v' F) (hF : ∀ k, F k → X k) :
    ∃ gh', Rep P C (fun k => X k ∧ ¬ F k) (st.fresh d (.row e es)) a w gh' ∧ gh'.S = gh.S ∧ gh'.hv d = v' ∧ gh'.F d = F := by
  refine ⟨gh.upd d v' 0 0 F, h.fresh hp (.row ?_) hF, rfl, by simp [Gh.upd], by simp [Gh.upd]⟩
  simpa [Gh.upd] using how

/-- A new variable. -/
theorem Rep.freshBox (h : Rep P C X st a w gh) {d : Nat} {us : Array Value} {t : TypeId} {ds : List D} {G : Nat → Nat → Prop} (hp : C.pin d = none) (hl : us.size = ds.length) (h1 : ∀ x ∈ us, x.oneCell' = true)
    (how : ∀ j c, ds[j]? = some c → Ow P w gh.S c (us.toList.getD j undef) (G j)) (hGX : ∀ j k, j < ds.length → G j k → X k) (dis : ∀ j j' k, j < ds.length → j' < ds.length → G j k → G j' k → j = j') :
    ∃ gh', Rep P C (fun k => X k ∧ ¬ ∃ j, j < ds.length ∧ G j k) (st.fresh d (.box ds)) a (w.alloc (.cells us t)) gh' ∧ gh'.S = gh.S ∧ gh'.bb d = w.heap.size ∧ gh'.bo d = 0 := by
  have hm := h.made (.cells us t)
  have hnew := heap_alloc_new w (.cells us t)
  let F : Nat → Prop := fun k => k = w.heap.size ∨ ∃ j c, ds[j]? = some c ∧ G j k
  have hlt : ∀ j k, j < ds.length → G j k → k < w.heap.size := fun j k hj hk => h.xl k (hGX j k hj hk)
  have hob : ObR P (w.alloc (.cells us t)) (gh.upd d undef w.heap.size 0 F) d (.box ds) := by
    refine .box us.toList G ⟨us, t, by simpa [Gh.upd] using hnew⟩ (by simpa using hl) (fun u hu => h1 u (by simpa using hu)) (fun j hj => ?_) (fun j c hc => ?_) (fun j j' c c' k hc hc' hk hk' => ?_) (fun j c k hc hk => ?_) (fun k => ?_)
    · simp only [Gh.upd, if_true, Nat.zero_add]
      rw [cell_of_row _ _ _ us t (0, 0) hnew]; simp
    · have hj := (List.getElem?_eq_some_iff.1 hc).1
      exact (how j c hc).move (fun k hk => heap_alloc_lt w _ (hlt j k hj hk)) (fun k hk => heap_alloc_lt w _ (h.sS k hk))
    · exact dis j j' k (List.getElem?_eq_some_iff.1 hc).1 (List.getElem?_eq_some_iff.1 hc').1 hk hk'
    · have := hlt j k (List.getElem?_eq_some_iff.1 hc).1 hk
      simp only [Gh.upd, if_true]; omega
    · simp [Gh.upd, F]
  refine ⟨gh.upd d undef w.heap.size 0 F, (hm.fresh hp hob (fun k hk => ?_)).less (fun k hk => ⟨Or.inl hk.1, ?_⟩), rfl, by simp [Gh.upd], by simp [Gh.upd]⟩
  · rcases hk with hk | ⟨j, c, hc, hk⟩
    · exact Or.inr hk
    · exact Or.inl (hGX j k (List.getElem?_eq_some_iff.1 hc).1 hk)
  · rintro (hk' | ⟨j, c, hc, hk'⟩)
    · have := h.xl k hk.1; omega
    · exact hk.2 ⟨j, (List.getElem?_eq_some_iff.1 hc).1, hk'⟩

/-- A new row, its elements out of what is in hand. -/
theorem Rep.madeRow (h : Rep P C X st a w gh) {d : Nat} {cells : Array Value} {e : TypeId} {es : List (List D)} {G : Nat → Nat → Nat → Prop} (hp : C.pin d = none) (hl : cells.size = es.length * szT P e) (hm : es.length ≤ maxLen)
    (hsz : ∀ l ∈ es, l.length = szT P e) (h1 : ∀ x ∈ cells.toList, x.oneCell' = true) (how : ∀ i j c, cellAt es i j = some c → Ow P w gh.S c (cells.toList.getD (i * szT P e + j) undef) (G i j))
    (hGX : ∀ i j c k, cellAt es i j = some c → G i j k → X k) (dis : ∀ i j i' j' c c' k, cellAt es i j = some c → cellAt es i' j' = some c' → G i j k → G i' j' k → i = i' ∧ j = j') :
    ∃ gh', Rep P C (fun k => X k ∧ ¬ ∃ i j c, cellAt es i j = some c ∧ G i j k) (st.fresh d (.row e es)) a (w.alloc (.cells cells e)) gh' ∧ gh'.S = gh.S ∧ gh'.hv d = .slice (some ⟨w.heap.size, 0, none⟩) es.length es.length := by
  have hmd := h.made (.cells cells e)
  have hlt : ∀ i j c k, cellAt es i j = some c → G i j k → k < w.heap.size := fun i j c k hc hk => h.xl k (hGX i j c k hc hk)
  have how' : Ow P (w.alloc (.cells cells e)) gh.S (.row false e es) (.slice (some ⟨w.heap.size, 0, none⟩) es.length es.length) (fun k => Value.ownBlock (.slice (some ⟨w.heap.size, 0, none⟩) es.length es.length) = some k ∨ ∃ i j c, cellAt es i j = some c ∧ G i j k) := by
    refine .row cells.toList G (World.ownsRow_lit w cells es.length (Nat.zero_le _) hm hl) hsz h1 (fun i j c hc => ?_) dis (fun i j c k hc hk => ?_)
    · exact (how i j c hc).move (fun k hk => heap_alloc_lt w _ (hlt i j c k hc hk)) (fun k hk => heap_alloc_lt w _ (h.sS k hk))
    · have := hlt i j c k hc hk
      simp only [Value.ownBlock, ne_eq, Option.some.injEq]; omega
  obtain ⟨gh', hr, hS, hv, hF⟩ := hmd.freshRow hp how' (fun k hk => by
    rcases hk with hk | ⟨i, j, c, hc, hk⟩
    · simp only [Value.ownBlock, Option.some.injEq] at hk; exact Or.inr hk.symm
    · exact Or.inl (hGX i j c k hc hk))
  refine ⟨gh', hr.less (fun k hk => ⟨Or.inl hk.1, ?_⟩), hS, hv⟩
  rintro (hk' | ⟨i, j, c, hc, hk'⟩)
  · simp only [Value.ownBlock, Option.some.injEq] at hk'
    have := h.xl k hk.1; omega
  · exact hk.2 ⟨i, j, c, hc, hk'⟩

theorem VR.whole {d : Nat} {e : TypeId} {es : List (List D)} {n : Nat} {A : Option Addr} {c : Nat} (hx : look ob d = some (.row e es)) (hv : gh.hv d = .slice A es.length c) (hn : n ≤ es.length) : VR P w gh ob (.ref d [] n) (.slice A n c) :=
  .ref hx (by simp only [NavO, hv]; exact .nil) hn

/-- A row bears another number. -/
theorem Rep.rename (h : Rep P C X st a w gh) {o d : Nat} {e : TypeId} {es : List (List D)} (ho : look st.ob o = some (.row e es)) (hp : C.pin d = none) :
    ∃ gh', Rep P C X ((st.kill o).fresh d (.row e es)) a w gh' ∧ gh'.S = gh.S ∧ gh'.hv d = gh.hv o := by
  have hob := h.obs o _ ho
  cases hob with
  | row how =>
    obtain ⟨gh', hr, hS, hv, hF⟩ := (h.take ho).freshRow hp how (fun k hk => Or.inr hk)
    exact ⟨gh', hr.less (fun k hk => ⟨Or.inl hk, fun hk' => h.xF o _ k ho hk hk'⟩), hS, hv⟩

/-- An empty row that is nil. -/
theorem Rep.nilRow (h : Rep P C X st a w gh) {d : Nat} (e : TypeId) (hp : C.pin d = none) : ∃ gh', Rep P C X (st.fresh d (.row e [])) a w gh' ∧ gh'.S = gh.S ∧ gh'.hv d = .slice none 0 0 := by
  have how : Ow P w gh.S (.row false e []) (.slice none 0 0) (fun k => Value.ownBlock (.slice none 0 0) = some k ∨ ∃ i j c, cellAt ([] : List (List D)) i j = some c ∧ No k) :=
    .row [] (fun _ _ => No) (World.ownsRow_nil w 0 e (szT P e)) (by simp) (by simp) (fun i j c hc => by simp [cellAt] at hc) (fun i j i' j' c c' k hc => by simp [cellAt] at hc) (fun i j c k hc => by simp [cellAt] at hc)
  obtain ⟨gh', hr, hS, hv, hF⟩ := h.freshRow hp how (fun k hk => by
    rcases hk with hk | ⟨i, j, c, hc, hk⟩
    · simp [Value.ownBlock] at hk
    · simp [cellAt] at hc)
  exact ⟨gh', hr.less (fun k hk => ⟨hk, fun hk' => by
    rcases hk' with hk' | ⟨i, j, c, hc, hk'⟩
    · simp [Value.ownBlock] at hk'
    · simp [cellAt] at hc⟩), hS, hv⟩
end
end Go.Proofs.YtaodmogcjpainaaDoor.AW
