/- A row goes with a call, for good. No condition. -/
import Derived.Test.YtldniggehdpheaaQf
namespace Go.Proofs.Ytldniggehdpheaa.AW
open Go.RowKit
set_option maxHeartbeats 4000000
set_option maxRecDepth 100000
set_option linter.unusedSimpArgs false
set_option linter.unusedVariables false
section
variable {P : Program} {w w1 : World} {C : Cx} {X : Nat → Prop} {gh gh' : Gh} {st st' : St} {a : Act} {v : V} {u : Value} {K : St → Prop}

theorem aCall_mv {f : FuncId} {km om : Nat} {em : TypeId} {esm : List (List D)} {ts : (Nat → Value) → List V} {iob : List (Nat × Ob)} {post : List RV → St → Prop} (hs : SoundAt P f ts iob post) (hpin : ∀ n, 3000 ≤ n → C.pin n = none) (hfull : C.full) (M Mk Mr Mb : List (Nat × Nat)) (hMM : M = Mr ++ Mb) (hMv : M = (km, om) :: Mk) (hom : look st.ob om = some (.row em esm)) {vs : List V} {d : Option Nat}
    (hM : ioIs st iob M) (hMr : rowsAre st Mr) (hMk : (M.map (·.1)).Nodup) (hMo : (M.map (·.2)).Nodup) (hiob : iob.map (·.1) = M.map (·.1)) (hl : ∀ uf, lendAllX ⟨Mr, uf, pvOf C, [], iob⟩ Mb vs (ts uf))
    (hns : ∀ rs st', post rs st' → ioLike iob st'.ob Mk) (hK : ∀ rs st', post rs st' → ev (b := ⟨K⟩) (after ((st.kill om).wrote Mk st'.ob) d rs)) : aCall P C st f vs d K := by
  refine Or.inl ⟨hs.1, fun a w gh us h hus hv hd => ?_⟩
  classical
  let os := M.map (·.2)
  let gh0 : Gh := { S := gh.S, hv := fun k => match look M k with | some o => gh.hv o | none => undef, bb := fun k => match look M k with | some o => gh.bb o | none => 0, bo := fun k => match look M k with | some o => gh.bo o | none => 0, F := fun k b => ∃ o, look M k = some o ∧ gh.F o b }
  let may : Nat → Nat → Prop := fun b f => ∃ k o x, look M k = some o ∧ look st.ob o = some x ∧ gh.F o b ∧ (∀ cs, x = .box cs → b = gh.bb o → gh.bo o ≤ f ∧ f < gh.bo o + cs.length)
  let C0 : Cx := { w0 := w, s0 := gh0.S, may := may, pin := fun k => if isPin k = true then some (gh0.hv k, gh0.bb k, gh0.bo k) else none, z := fun k => gh.S k ∨ w.heap.size ≤ k ∨ ∃ f, may k f }
  obtain ⟨hlen, hl⟩ := lendAllX_get (hl gh0.hv)
  have hosm : ∀ k o, look M k = some o → o ∈ os ∧ isPin k = true ∧ ∃ x, look st.ob o = some x ∧ look iob k = some x := fun k o hk => by
    have hm := look_mem hk
    obtain ⟨g1, x, g2, g3, _⟩ := ioIs_mem hM k o hm
    exact ⟨List.mem_map.2 ⟨(k, o), hm, rfl⟩, g1, x, g2, g3⟩
  have hiobM : ∀ k x, look iob k = some x → ∃ o, look M k = some o ∧ look st.ob o = some x := fun k x hx => by
    have h1 : k ∈ iob.map (·.1) := List.mem_map.2 ⟨(k, x), look_mem hx, rfl⟩
    rw [hiob] at h1
    obtain ⟨⟨k', o⟩, hm, rfl⟩ := List.mem_map.1 h1
    have hk := mem_look hMk hm
    obtain ⟨_, _, x', g1, g2⟩ := hosm _ _ hk
    rw [hx] at g2; cases g2
    exact ⟨o, hk, g1⟩
  have hF0 : ∀ k o, look M k = some o → gh0.F k = gh.F o := fun k o hk => by
    funext b; exact propext ⟨fun ⟨o', ho', hb⟩ => by rw [hk] at ho'; cases ho'; exact hb, fun hb => ⟨o, hk, hb⟩⟩
  have hv0 : ∀ k o, look M k = some o → gh0.hv k = gh.hv o ∧ gh0.bb k = gh.bb o ∧ gh0.bo k = gh.bo o := fun k o hk => by simp only [gh0, hk, and_self]
  have hrep : Rep P C0 No ⟨us.size, zipT 0 (ts gh0.hv), iob⟩ ⟨us, []⟩ w gh0 := {
    obs := fun k b hb => by
      obtain ⟨o, hk, ho⟩ := hiobM k b hb
      obtain ⟨g1, g2, g3⟩ := hv0 k o hk
      exact (h.obs o b ho).at (gh' := gh0) rfl g1 g2 g3 (hF0 k o hk)
    dis := fun k k' b b' q hb hb' ⟨o, ho, hq⟩ ⟨o', ho', hq'⟩ => by
      obtain ⟨_, _, x, g1, _⟩ := hosm k o ho
      obtain ⟨_, _, x', g1', _⟩ := hosm k' o' ho'
      have := h.dis o o' _ _ q g1 g1' hq hq'
      subst this
      exact nodup_snd hMo (look_mem ho) (look_mem ho')
    sS := h.sS
    nS := fun k b q hb ⟨o, ho, hq⟩ hS => by
      obtain ⟨g0, _, x, g1, _⟩ := hosm k o ho
      exact h.nS o _ q g1 hq hS
    wrR := fun k e es q hb ⟨o, ho, hq⟩ => Or.inr (fun f => by
      obtain ⟨_, _, x, g1, g2⟩ := hosm k o ho
      have hb : look iob k = some (.row e es) := hb
      rw [g2] at hb; cases hb
      exact ⟨k, o, _, ho, g1, hq, fun cs hc => by cases hc⟩)
    wrB := fun k cs q hb ⟨o, ho, hq⟩ hne => Or.inr (fun f => by
      obtain ⟨_, _, x, g1, g2⟩ := hosm k o ho
      exact ⟨k, o, _, ho, g1, hq, fun cs' _ he => (hne (by rw [(hv0 k o ho).2.1]; exact he)).elim⟩)
    wrC := fun k cs j hb hj => Or.inr (by
      obtain ⟨o, hk, ho⟩ := hiobM k _ hb
      obtain ⟨g1, g2, g3⟩ := hv0 k o hk
      rw [g2, g3]
      refine ⟨k, o, _, hk, ho, ?_, fun cs' hc _ => by cases hc; exact ⟨by omega, by omega⟩⟩
      have := h.obs o _ ho
      cases this with
      | box xs G hb hl h1 hc hxx dis nb hF => exact (hF _).2 (Or.inl rfl))
    kept := World.keptBut_refl w _
    pins := fun k x hp hn => by
      simp only [C0] at hp
      split at hp
      · cases hp; rfl
      · cases hp
    tms := fun t => by
      have e1 : St.get ⟨us.size, zipT 0 (ts gh0.hv), iob⟩ t = ((ts gh0.hv)[t]?).getD .dead := by
        unfold St.get; simp only [look_zipT, Nat.zero_le, if_true, Nat.sub_zero]
      rw [e1]
      cases hi : (ts gh0.hv)[t]? with
      | none => exact .dead
      | some x =>
        have hlt := (List.getElem?_eq_some_iff.1 hi).1
        have hvt : vs[t]? = some vs[t] := List.getElem?_eq_getElem (by omega)
        have hle := hl t _ x hvt hi
        have hvr := hv t _ hvt
        simp only [Option.getD_some]
        have low : lendsTo ⟨Mr, gh0.hv, pvOf C, [], iob⟩ vs[t] x → VR P w gh0 iob x (us.getD t undef) := fun hle => by
          refine lend_sound (gh0 := gh0) (L := ⟨Mr, gh0.hv, pvOf C, [], iob⟩) (fun k o hk => ?_) (fun o v hv hso => ?_) h.obs (fun k hk => hk) (fun o x k hx hk => by simp [look] at hx) (fun o x hx => by simp [look] at hx) hvr hle
          · have hmm : (k, o) ∈ M := by rw [hMM]; exact List.mem_append_left _ hk
            have hk' := mem_look hMk hmm
            obtain ⟨_, _, x', g1, g2⟩ := hosm k o hk'
            obtain ⟨e, es, g3⟩ := rowsAre_mem hMr k o hk
            rw [g3] at g1; cases g1
            exact ⟨e, es, g3, g2, (hv0 k o hk').1, rfl⟩
          · obtain ⟨x, hx, rfl⟩ := Option.map_eq_some_iff.1 hv
            have := h.pins o x hx (fun e => by rw [e] at hso; cases hso)
            rw [← this]
        unfold lendsX at hle
        split at hle
        · rename_i o j heq
          rw [heq] at hvr
          split at hle
          · rename_i k j'
            obtain ⟨hk0, rfl⟩ := hle
            have hmm : (k, o) ∈ M := by rw [hMM]; exact List.mem_append_right _ (look_mem hk0)
            have hk' := mem_look hMk hmm
            obtain ⟨g1, g2, g3⟩ := hv0 k o hk'
            obtain ⟨_, _, x', g4, g5⟩ := hosm k o hk'
            generalize us.getD t undef = u0 at hvr
            cases hvr with
            | bp hx =>
              rw [hx] at g4; cases g4
              have := VR.bp (P := P) (w := w) (gh := gh0) (j := j) g5
              rw [g2, g3] at this; exact this
          · exact hle.elim
        · rename_i ch j heq
          rw [heq] at hvr
          split at hle
          · obtain ⟨rfl, rfl⟩ := hle
            generalize us.getD t undef = u0 at hvr
            cases hvr with
            | ip U hs' h' => exact .ip U hs' h'
          · exact hle.elim
        · exact low hle
    nt := Nat.le_refl _
    dfs := rfl
    xl := fun k hk => hk.elim
    xS := fun k hk => hk.elim
    xF := fun o b k hb hk => hk.elim
    xW := fun k hk => hk.elim
    s0S := fun k hk => hk
    sZ := fun k hk => Or.inl hk }
  refine (hs.2 gh0.hv (fun o => (gh0.bb o, gh0.bo o)) C0 w gh0 us rfl (fun o ho => by simp only [C0, ho]; rfl) (fun o ho => by simp only [C0, ho]; rfl) (fun k hk => Or.inr hk) (by omega) hrep).mono (fun e w' he => ?_)
  obtain ⟨vs', rs, st', a', gc, G, rfl, hpost, hres, hR⟩ := he
  refine ⟨tupV vs', rfl, ?_⟩
  have hlike := hns rs st' hpost
  have hk := hR.kept
  have mayos : ∀ b f, may b f → ∃ o x, o ∈ os ∧ look st.ob o = some x ∧ gh.F o b := fun b f ⟨k, o, x, hk, hx, hb, _⟩ => ⟨o, x, (hosm k o hk).1, hx, hb⟩
  have allmay : ∀ b, (∀ f, may b f) → ∃ o x, o ∈ os ∧ look st.ob o = some x ∧ gh.F o b ∧ ∀ cs, x = .box cs → b ≠ gh.bb o := fun b hb => by
    obtain ⟨k, o, x, hk, hx, hF, _⟩ := hb 0
    refine ⟨o, x, (hosm k o hk).1, hx, hF, fun cs hc he => ?_⟩
    obtain ⟨k2, o2, x2, hk2, hx2, hF2, h2⟩ := hb (gh.bo o + cs.length)
    have := h.dis o o2 _ _ b hx hx2 hF hF2
    subst this
    rw [hx] at hx2; cases hx2
    have := h2 cs hc he
    omega
  have wr0 : ∀ o x b, look st.ob o = some x → gh.F o b → (∀ cs, x = .box cs → b ≠ gh.bb o) → C.w0.heap.size ≤ b ∨ ∀ f, C.may b f := fun o x b hx hb hc => by
    cases x with
    | row e es => exact h.wrR o e es b hx hb
    | box cs => exact h.wrB o cs b hx hb (hc cs rfl)
  have wrA : ∀ b, (∀ f, may b f) → C.w0.heap.size ≤ b ∨ ∀ f, C.may b f := fun b hb => by
    obtain ⟨o, x, _, hx, hF, hc⟩ := allmay b hb
    exact wr0 o x b hx hF hc
  have wr1 : ∀ b f, may b f → C.w0.heap.size ≤ b ∨ C.may b f := fun b f ⟨k, o, x, hk, hx, hF, hc⟩ => by
    by_cases hbx : ∀ cs, x = .box cs → b ≠ gh.bb o
    · exact (wr0 o x b hx hF hbx).imp id (fun hh => hh f)
    · simp only [Classical.not_forall] at hbx
      obtain ⟨cs, hcs, hne⟩ := hbx
      have he : b = gh.bb o := Classical.not_not.1 hne
      subst hcs
      obtain ⟨g1, g2⟩ := hc cs rfl he
      have := h.wrC o cs (f - gh.bo o) hx (by omega)
      rw [show gh.bo o + (f - gh.bo o) = f by omega] at this
      rw [he]; exact this
  have heap : ∀ k, k < w.heap.size → ¬ (∃ f, may k f) → w'.heap[k]? = w.heap[k]? := by
    intro k hk' hn
    refine keptBut_heap hk hk' (fun f hm => ?_) (fun hm => ?_)
    · obtain ⟨b, f', e, hm⟩ := hm
      injection e with e1 e2
      rw [← e1, ← e2] at hm
      exact hn ⟨f, hm⟩
    · obtain ⟨b, f', e, _⟩ := hm
      cases e
  have hsub : ∀ {k o}, (k, o) ∈ Mk → (k, o) ∈ M := fun h => by rw [hMv]; exact List.mem_cons_of_mem _ h
  let osk := Mk.map (·.2)
  have homk : om ∉ osk := fun ho => by
    have := hMo
    rw [hMv, List.map_cons, List.nodup_cons] at this
    exact this.1 ho
  have h' := h.take hom
  have hlk : ∀ o, look (st.kill om).ob o = if om = o then none else look st.ob o := look_kill st om
  have hos2 : ∀ o, o ∈ os → o = om ∨ o ∈ osk := fun o ho => by
    have ho' : o ∈ M.map (·.2) := ho
    rw [hMv, List.map_cons] at ho'
    exact List.mem_cons.1 ho'
  have hnew : ∀ k o, (k, o) ∈ Mk → ∃ x y, look st.ob o = some x ∧ look st'.ob k = some y ∧ x.like y := fun k o hm => by
    obtain ⟨_, x, g1, g2, _⟩ := ioIs_mem hM k o (hsub hm)
    obtain ⟨x', y, g3, g4, g5⟩ := ioLike_mem hlike k o hm
    rw [g2] at g3; cases g3
    exact ⟨x, y, g1, g4, g5⟩
  have hnewo : ∀ o, o ∈ osk → ∃ k y, (k, o) ∈ Mk ∧ look st'.ob k = some y ∧ look (newObs st'.ob Mk) o = some y := fun o ho => by
    obtain ⟨k, hm, hl'⟩ := (look_newObs st'.ob Mk o).1 ho
    obtain ⟨x, y, _, g2, _⟩ := hnew k o hm
    rw [g2] at hl'
    exact ⟨k, y, hm, g2, hl'⟩
  have hlook : ∀ o, look ((st.kill om).wrote Mk st'.ob).ob o = if o ∈ osk then look (newObs st'.ob Mk) o else look (st.kill om).ob o := fun o => by
    simp only [St.wrote, look_append, look_dropI]
    by_cases ho : o ∈ osk
    · obtain ⟨k, y, _, _, g⟩ := hnewo o ho
      have ho' : o ∈ Mk.map (·.2) := ho
      simp only [if_pos ho', if_pos ho, g, Option.or_none]
    · have hn := (look_newObs st'.ob Mk o).2 ho
      have ho' : o ∉ Mk.map (·.2) := ho
      simp only [if_neg ho', if_neg ho, hn, Option.none_or]
  let ghn : Gh := { S := gc.S, hv := gh.hv, bb := gh.bb, bo := gh.bo, F := fun o => if o ∈ osk then (fun b => ∃ k, (k, o) ∈ Mk ∧ gc.F k b) else gh.F o }
  have gin : ∀ k o, (k, o) ∈ Mk → ghn.F o = gc.F k := fun k o hm => by
    have ho : o ∈ osk := List.mem_map.2 ⟨(k, o), hm, rfl⟩
    simp only [ghn, if_pos ho]
    funext b
    exact propext ⟨fun ⟨k', hm', hb⟩ => by have := nodup_snd hMo (hsub hm) (hsub hm'); subst this; exact hb, fun hb => ⟨k, hm, hb⟩⟩
  have gout : ∀ o, o ∉ osk → ghn.F o = gh.F o := fun o ho => by simp only [ghn]; rw [if_neg ho]
  have hpn : ∀ k o, (k, o) ∈ Mk → gc.hv k = gh.hv o ∧ gc.bb k = gh.bb o ∧ gc.bo k = gh.bo o := fun k o hm => by
    have hkl := mem_look hMk (hsub hm)
    obtain ⟨x, y, _, g2, _⟩ := hnew k o hm
    have hp := hR.pins k (gh0.hv k, gh0.bb k, gh0.bo k) (by simp only [C0]; rw [if_pos (hosm k o hkl).2.1]) (by rw [g2]; simp)
    obtain ⟨g1, g2, g3⟩ := hv0 k o hkl
    rw [g1, g2, g3] at hp
    simp only [Prod.mk.injEq] at hp
    exact hp
  have newB : ∀ b, (w.heap.size ≤ b ∨ ∃ f, may b f) → (∃ o', o' ∈ osk ∧ gh.F o' b) ∨ (No b ∨ gh.F om b) ∨ w.heap.size ≤ b := fun b hb => by
    rcases hb with hb | ⟨f, hb⟩
    · exact Or.inr (Or.inr hb)
    · obtain ⟨o, x, ho, _, hF⟩ := mayos b f hb
      rcases hos2 o ho with rfl | ho
      · exact Or.inr (Or.inl (Or.inr hF))
      · exact Or.inl ⟨o, ho, hF⟩
  have fullB : ∀ b, (w.heap.size ≤ b ∨ ∃ f, may b f) → C.z b := fun b hb => hfull b (by
    rcases hb with hb | ⟨f, hb⟩
    · exact Or.inl (Nat.le_trans h.size hb)
    · exact (wr1 b f hb).imp id (fun hh => ⟨f, hh⟩))
  have cF : ∀ k o, (k, o) ∈ Mk → ∀ b, gc.F k b → (w.heap.size ≤ b ∨ ∃ f, may b f) ∧ (∀ y, look st'.ob k = some y → (∀ cs, y = .box cs → b ≠ gh.bb o) → C.w0.heap.size ≤ b ∨ ∀ f, C.may b f) := fun k o hm b hb => by
    obtain ⟨x, y, g1, g2, g3⟩ := hnew k o hm
    have hp := hpn k o hm
    have all : (∀ cs, y = .box cs → b ≠ gh.bb o) → w.heap.size ≤ b ∨ ∀ f, may b f := fun hc => by
      cases y with
      | row e es => exact hR.wrR k e es b g2 hb
      | box cs => exact hR.wrB k cs b g2 hb (by rw [hp.2.1]; exact hc cs rfl)
    refine ⟨?_, fun y' hy' hc => ?_⟩
    · by_cases hbb : b = gh.bb o ∧ ∃ cs, y = .box cs
      · obtain ⟨he, cs, rfl⟩ := hbb
        cases x with
        | row e es => simp [Ob.like] at g3
        | box cs0 =>
          have hob := h.obs o _ g1
          have hFb : gh.F o (gh.bb o) := by
            cases hob with
            | box xs G hb hl h1 hc hxx dis nb hF => exact (hF _).2 (Or.inl rfl)
          by_cases hn : 0 < cs0.length
          · exact Or.inr ⟨gh.bo o, k, o, _, mem_look hMk (hsub hm), g1, by rw [he]; exact hFb, fun cs' hc _ => by cases hc; omega⟩
          · obtain ⟨_, x1, q1, _, q3⟩ := ioIs_mem hM k o (hsub hm)
            rw [g1] at q1; cases q1
            exact (q3 (by rw [List.eq_nil_of_length_eq_zero (by omega : cs0.length = 0)])).elim
      · exact (all (fun cs hc he => hbb ⟨he, cs, hc⟩)).imp id (fun hh => ⟨0, hh 0⟩)
    · rw [g2] at hy'; cases hy'
      rcases all hc with hh | hh
      · exact Or.inl (Nat.le_trans h.size hh)
      · exact wrA b hh
  have hin : Rep P C (inHand rs G) ((st.kill om).wrote Mk st'.ob) a w' ghn := by
    refine h'.multiX osk ghn (inHand rs G) (fun o ho => by rw [hlook, if_neg ho]) (fun t => by unfold St.get St.wrote; simp only [look_mapT]; cases look (st.kill om).tm t <;> simp [killI, osk]) rfl
      (fun o ho => by
        obtain ⟨k, y, hm, g2, g3⟩ := hnewo o ho
        obtain ⟨x, y', g4, g5, g6⟩ := hnew k o hm
        rw [g2] at g5; cases g5
        exact ⟨x, y, by rw [hlk, if_neg (fun e => homk (by rw [e]; exact ho))]; exact g4, by rw [hlook, if_pos ho]; exact g3, g6⟩)
      ⟨rfl, rfl, rfl⟩ gout hk.size
      (fun o x k ho hx hk' => by
        rw [hlk] at hx
        split at hx
        · cases hx
        · rename_i hne
          exact heap k ((h.obs o x hx).lt k hk') (fun ⟨f, hm⟩ => by
            obtain ⟨o', x', ho', hx', hF⟩ := mayos k f hm
            have := h.dis o o' x _ k hx hx' hk' hF
            subst this
            rcases hos2 o ho' with e | e
            · exact hne e.symm
            · exact ho e))
      (fun k hk' => heap k (h.sS k hk') (fun ⟨f, hm⟩ => by
        obtain ⟨o', x', ho', hx', hF⟩ := mayos k f hm
        exact h.nS o' _ k hx' hF hk'))
      (World.keptBut_mono (fun p hp => by
        obtain ⟨b, f, e, hm⟩ := hp
        exact ⟨b, f, e, wr1 b f hm⟩) hk)
      (fun k hk' => hR.s0S k hk')
      (fun k hk' => ⟨hR.sS k hk', by
        rcases hR.sZ k hk' with hz | hz
        · exact ⟨h.sZ k hz, Or.inl hz⟩
        · refine ⟨fullB k hz, Or.inr ?_⟩
          rcases newB k hz with hh | hh | hh
          · exact Or.inl hh
          · exact Or.inr (Or.inl hh)
          · exact Or.inr (Or.inr hh)⟩)
      (fun o ho y hy => by
        rw [hlook, if_pos ho] at hy
        obtain ⟨k, y', hm, g2, g3⟩ := hnewo o ho
        rw [g3] at hy; cases hy
        obtain ⟨p1, p2, p3⟩ := hpn k o hm
        exact (hR.obs k _ g2).at (gh' := ghn) rfl p1.symm p2.symm p3.symm (gin k o hm))
      (fun o ho b hb => by
        obtain ⟨k, y, hm, g2, g3⟩ := hnewo o ho
        rw [gin k o hm] at hb
        rcases newB b (cF k o hm b hb).1 with hh | hh | hh
        · exact Or.inl hh
        · exact Or.inr (Or.inl hh)
        · exact Or.inr (Or.inr hh))
      (fun o o' b ho ho' hb hb' => by
        obtain ⟨k, y, hm, g2, g3⟩ := hnewo o ho
        obtain ⟨k', y', hm', g2', g3'⟩ := hnewo o' ho'
        rw [gin k o hm] at hb
        rw [gin k' o' hm'] at hb'
        have := hR.dis k k' _ _ b g2 g2' hb hb'
        subst this
        have h1 := mem_look hMk (hsub hm)
        have h2 := mem_look hMk (hsub hm')
        rw [h1] at h2; cases h2; rfl)
      (fun o b ho hb => by
        obtain ⟨k, y, hm, g2, g3⟩ := hnewo o ho
        rw [gin k o hm] at hb
        exact hR.nS k _ b g2 hb)
      (fun o b y ho hy hb hc => by
        obtain ⟨k, y', hm, g2, g3⟩ := hnewo o ho
        rw [hlook, if_pos ho, g3] at hy; cases hy
        rw [gin k o hm] at hb
        exact (cF k o hm b hb).2 _ g2 hc)
      (fun b hb => ⟨hR.xl b hb, hR.xS b hb, by
        rcases hR.xW b hb with hw | hw
        · exact Or.inl (Nat.le_trans h.size hw)
        · exact wrA b hw, by
        rcases hR.xW b hb with hw | hw
        · exact Or.inr (Or.inr hw)
        · obtain ⟨o, x, ho, _, hF, _⟩ := allmay b hw
          rcases hos2 o ho with rfl | ho
          · exact Or.inr (Or.inl (Or.inr hF))
          · exact Or.inl ⟨o, ho, hF⟩⟩)
      (fun o b ho hb hX => by
        obtain ⟨k, y, hm, g2, g3⟩ := hnewo o ho
        rw [gin k o hm] at hb
        exact hR.xF k _ b g2 hX hb)
  have hres' : Res P w' ghn.S rs vs' G := hres
  cases d with
  | none => exact ⟨_, ghn, hK rs st' hpost, hin.less (fun k hk => hk.elim)⟩
  | some d =>
    obtain ⟨gh2, hr2, hn2, hl2, hv2, _, _⟩ := layR_sound d rs vs' G 0 hin hpin hres' (fun b hb => hb)
    refine ⟨_, gh2, hK rs st' hpost, ?_⟩
    simp only [after]
    refine (hr2.less (X' := No) (fun k hk => hk.elim)).set (by rw [hn2]; exact hd d rfl) ?_
    match rs, vs', hl2, hv2 with
    | [], [], _, hv2 => exact .tup rfl (fun i v hi => by simp [vsR] at hi)
    | [r], [v], _, hv2 => exact hv2 0 _ _ rfl rfl
    | r :: r2 :: rs, v :: v2 :: vs, hl2, hv2 =>
      refine .tup (by simp [← hl2]) (fun i x hi => ?_)
      have hil := (List.getElem?_eq_some_iff.1 hi).1
      have hvi : (v :: v2 :: vs)[i]? = some (v :: v2 :: vs)[i] := List.getElem?_eq_getElem (by omega)
      have := hv2 i x _ hi hvi
      simpa [Array.getD_eq_getD_getElem?, hvi] using this
    | [], v :: vs, hl2, _ => simp [vsR] at hl2
    | r :: rs, [], hl2, _ => simp [vsR] at hl2
    | [r], v :: v2 :: vs, hl2, _ => simp [vsR] at hl2
    | r :: r2 :: rs, [v], hl2, _ => simp [vsR] at hl2

/-- A call that a row goes with; it writes into variables and rows of the caller's, and its results are known. -/
theorem aCall_mvd {f : FuncId} {km om : Nat} {em : TypeId} {esm : List (List D)} {ts : (Nat → Value) → List V} {iob N : List (Nat × Ob)} {R : List RV} (hs : SoundAt P f ts iob (fun rs st => rs = R ∧ nowIs st.ob N)) (hpin : ∀ o, isPin o = false → C.pin o = none) (hfull : C.full) (M Mk Mr Mb : List (Nat × Nat)) {vs : List V} {d : Option Nat}
    (hMM : M = Mr ++ Mb ∧ M = (km, om) :: Mk ∧ nodupB (M.map (·.1)) = true ∧ nodupB (M.map (·.2)) = true ∧ iob.map (·.1) = M.map (·.1)) (hom : look st.ob om = some (.row em esm)) (hl : ∀ uf, lendAllX ⟨Mr, uf, pvOf C, [], iob⟩ Mb vs (ts uf))
    (h : ioIs st iob M ∧ rowsAre st Mr ∧ ioLike iob N Mk ∧ ev (b := ⟨K⟩) (after ((st.kill om).wrote Mk N) d R)) : aCallB (b := ⟨K⟩) P C st f vs d := by
  refine aCall_mv hs (pin3 hpin) hfull M Mk Mr Mb hMM.1 hMM.2.1 hom h.1 h.2.1 (nodup_of hMM.2.2.1) (nodup_of hMM.2.2.2.1) hMM.2.2.2.2 hl (fun rs st' hr => ?_) (fun rs st' hr => ?_)
  · exact (newObs_nowX (nowIs_get hr.2) Mk h.2.2.1).2
  · have e : (st.kill om).wrote Mk st'.ob = (st.kill om).wrote Mk N := by unfold St.wrote; rw [(newObs_nowX (nowIs_get hr.2) Mk h.2.2.1).1]
    rw [hr.1, e]; exact h.2.2.2

/-- A slot that holds no row yet holds a row of none, its own. -/
def St.own (st : St) (t : Nat) (e : TypeId) (o : Nat) : St := match look st.ob o with
  | none => (match st.get t with
    | .nil _ => (st.put o (.row e [])).set t (.ref o [] 0)
    | .sc (.slice none 0 0) => (st.put o (.row e [])).set t (.ref o [] 0)
    | _ => st)
  | _ => st
theorem Ent.own (t : Nat) (e : TypeId) (o : Nat) (hp : C.pin o = none) : Ent P C st (st.own t e o) := fun a w gh h => by
  have key : ∀ (ho : look st.ob o = none), a.tmps.getD t undef = .slice none 0 0 → ∃ gh', Rep P C No ((st.put o (.row e [])).set t (.ref o [] 0)) a w gh' := fun ho hu => by
    have h1 : ObR P w (gh.upd o (.slice none 0 0) 0 0 (fun _ => False)) o (.row e []) := .row (by
      have : Ow P w gh.S (.sc (.slice none 0 0)) (.slice none 0 0) (fun _ => False) := .sc rfl
      simpa [Gh.upd] using this.nilr (e := e))
    have h2 := (h.lay ho hp h1 (fun k hk => hk.elim)).less (X' := No) (fun k hk => hk.elim)
    refine ⟨_, h2.set0 ?_⟩
    rw [hu]
    refine .ref (x := .row e []) (e := e) (es := []) (A := none) (c := 0) (look_cons_self _ _ _) ?_ (Nat.le_refl _)
    have : (gh.upd o (.slice none 0 0) 0 0 (fun _ => False)).hv o = .slice none 0 0 := by simp [Gh.upd]
    show Nav P w (.row false e []) ((gh.upd o (.slice none 0 0) 0 0 (fun _ => False)).hv o) [] (.row false e []) (.slice none 0 0)
    rw [this]
    exact .nil
  unfold St.own
  split
  · rename_i ho
    have ht := h.tms t
    split
    · rename_i he
      rw [he] at ht
      refine key ho ?_
      generalize a.tmps.getD t undef = u at ht
      cases ht; rfl
    · rename_i he
      rw [he] at ht
      refine key ho ?_
      generalize a.tmps.getD t undef = u at ht
      cases ht; rfl
    · exact ⟨gh, h⟩
  · exact ⟨gh, h⟩

/-! ### Calls that let nothing new be looked at -/
/-- A contract that does not want leave to share: what is shared afterwards was shared before. -/
def SoundAtN (P : Program) (f : FuncId) (ts : (Nat → Value) → List V) (ob0 : List (Nat × Ob)) (post : List RV → St → Prop) : Prop :=
  entersB P f = true ∧ ∀ (uf : Nat → Value) (ub : Nat → Nat × Nat) (C : Cx) (w : World) (gh : Gh) (us : Array Value), C.w0 = w → (∀ o, isPin o = false → C.pin o = none) → (∀ o, isPin o = true → C.pin o = some (uf o, ub o)) → us.size = (ts uf).length →
    Rep P C No ⟨us.size, zipT 0 (ts uf), ob0⟩ ⟨us, []⟩ w gh →
    Calls P f us w (fun e w' => ∃ (vs : List Value) (rs : List RV) (st' : St) (a' : Act) (gh' : Gh) (G : Nat → Nat → Nat → Prop), e = .returned (tupV vs) ∧ post rs st' ∧ Res P w' gh'.S rs vs G ∧ Rep P C (inHand rs G) st' a' w' gh')
theorem SoundAtN.at {f : FuncId} {ts : (Nat → Value) → List V} {ob0 : List (Nat × Ob)} {post : List RV → St → Prop} (h : SoundAtN P f ts ob0 post) : SoundAt P f ts ob0 post :=
  ⟨h.1, fun uf ub C w gh us h1 h2 h3 _ h5 h6 => h.2 uf ub C w gh us h1 h2 h3 h5 h6⟩
theorem sound_triN {f : FuncId} {fn : Func} {c : Code} {res : List RR} {n : Nat} {ts : (Nat → Value) → List V} {ob0 : List (Nat × Ob)} {post : List RV → St → Prop} (hz : Sized P) (hf : P.funcs[f]? = some fn) (hb : fn.body = some c) (hen : entersB P f = true) (hres : fn.results.toList = res.map RR.var)
    (hn : fn.ntmps = n) (hnt : ∀ uf, (ts uf).length ≤ n) (h : ∀ (uf : Nat → Value) (ub : Nat → Nat × Nat) (C : Cx), (∀ o, isPin o = false → C.pin o = none) → (∀ o, isPin o = true → C.pin o = some (uf o, ub o)) → Tri P C ⟨n, zipT 0 (ts uf), ob0⟩ c (FinE P res post)) : SoundAtN P f ts ob0 post := by
  refine ⟨hen, fun uf ub C w gh us hw hpin hpin2 hus hR => ?_⟩
  have hnt := hnt uf
  have hrep : Rep P C No ⟨n, zipT 0 (ts uf), ob0⟩ { tmps := us ++ Array.replicate (fn.ntmps - us.size) undef, defers := [] } w gh := {
      obs := hR.obs, dis := hR.dis, sS := hR.sS, nS := hR.nS, wrR := hR.wrR, wrB := hR.wrB, wrC := hR.wrC, kept := hR.kept, pins := hR.pins
      tms := fun t => by
        have ht := hR.tms t
        have e1 : St.get ⟨n, zipT 0 (ts uf), ob0⟩ t = St.get ⟨us.size, zipT 0 (ts uf), ob0⟩ t := rfl
        rw [e1]
        by_cases hlt : t < us.size
        · have e2 : (us ++ Array.replicate (fn.ntmps - us.size) undef).getD t undef = us.getD t undef := by
            rw [Array.getD_eq_getD_getElem?, Array.getD_eq_getD_getElem?, Array.getElem?_append_left hlt]
          simp only [e2]; exact ht
        · have e3 : St.get ⟨us.size, zipT 0 (ts uf), ob0⟩ t = .dead := by
            unfold St.get; simp only [look_zipT, Nat.zero_le, if_true, Nat.sub_zero]
            rw [List.getElem?_eq_none (by omega)]; rfl
          rw [e3]; exact .dead
      nt := by simp only [Array.size_append, Array.size_replicate]; omega
      dfs := rfl
      xl := hR.xl, xS := hR.xS, xF := hR.xF, xW := hR.xW, s0S := hR.s0S, sZ := hR.sZ }
  refine calls_of_wp hf hb (Code.wp_mono (fun e a' w' hh => ?_) (h uf ub C hpin hpin2 _ w gh hrep))
  obtain ⟨st', gh', hk, hr⟩ := hh
  cases e with
  | normal => exact fin_sound hres hr hk
  | ret => exact fin_sound hres hr hk
  | _ => exact hk.elim
theorem aCall_bxN {f : FuncId} {ts : (Nat → Value) → List V} {iob : List (Nat × Ob)} {post : List RV → St → Prop} (hs : SoundAtN P f ts iob post) (hpin : ∀ n, 3000 ≤ n → C.pin n = none) (M Mr Mb : List (Nat × Nat)) (hMM : M = Mr ++ Mb) {vs : List V} {d : Option Nat}
    (hM : ioIs st iob M) (hMr : rowsAre st Mr) (hMk : (M.map (·.1)).Nodup) (hMo : (M.map (·.2)).Nodup) (hiob : iob.map (·.1) = M.map (·.1)) (hl : ∀ uf, lendAllX ⟨Mr, uf, pvOf C, [], iob⟩ Mb vs (ts uf))
    (hns : ∀ rs st', post rs st' → ioLike iob st'.ob M) (hK : ∀ rs st', post rs st' → ev (b := ⟨K⟩) (after (st.wrote M st'.ob) d rs)) : aCall P C st f vs d K := by
  refine Or.inl ⟨hs.1, fun a w gh us h hus hv hd => ?_⟩
  classical
  let os := M.map (·.2)
  let gh0 : Gh := { S := gh.S, hv := fun k => match look M k with | some o => gh.hv o | none => undef, bb := fun k => match look M k with | some o => gh.bb o | none => 0, bo := fun k => match look M k with | some o => gh.bo o | none => 0, F := fun k b => ∃ o, look M k = some o ∧ gh.F o b }
  let may : Nat → Nat → Prop := fun b f => ∃ k o x, look M k = some o ∧ look st.ob o = some x ∧ gh.F o b ∧ (∀ cs, x = .box cs → b = gh.bb o → gh.bo o ≤ f ∧ f < gh.bo o + cs.length)
  let C0 : Cx := { w0 := w, s0 := gh0.S, may := may, pin := fun k => if isPin k = true then some (gh0.hv k, gh0.bb k, gh0.bo k) else none, z := gh.S }
  obtain ⟨hlen, hl⟩ := lendAllX_get (hl gh0.hv)
  have hosm : ∀ k o, look M k = some o → o ∈ os ∧ isPin k = true ∧ ∃ x, look st.ob o = some x ∧ look iob k = some x := fun k o hk => by
    have hm := look_mem hk
    obtain ⟨g1, x, g2, g3, _⟩ := ioIs_mem hM k o hm
    exact ⟨List.mem_map.2 ⟨(k, o), hm, rfl⟩, g1, x, g2, g3⟩
  have hiobM : ∀ k x, look iob k = some x → ∃ o, look M k = some o ∧ look st.ob o = some x := fun k x hx => by
    have h1 : k ∈ iob.map (·.1) := List.mem_map.2 ⟨(k, x), look_mem hx, rfl⟩
    rw [hiob] at h1
    obtain ⟨⟨k', o⟩, hm, rfl⟩ := List.mem_map.1 h1
    have hk := mem_look hMk hm
    obtain ⟨_, _, x', g1, g2⟩ := hosm _ _ hk
    rw [hx] at g2; cases g2
    exact ⟨o, hk, g1⟩
  have hF0 : ∀ k o, look M k = some o → gh0.F k = gh.F o := fun k o hk => by
    funext b; exact propext ⟨fun ⟨o', ho', hb⟩ => by rw [hk] at ho'; cases ho'; exact hb, fun hb => ⟨o, hk, hb⟩⟩
  have hv0 : ∀ k o, look M k = some o → gh0.hv k = gh.hv o ∧ gh0.bb k = gh.bb o ∧ gh0.bo k = gh.bo o := fun k o hk => by simp only [gh0, hk, and_self]
  have hrep : Rep P C0 No ⟨us.size, zipT 0 (ts gh0.hv), iob⟩ ⟨us, []⟩ w gh0 := {
    obs := fun k b hb => by
      obtain ⟨o, hk, ho⟩ := hiobM k b hb
      obtain ⟨g1, g2, g3⟩ := hv0 k o hk
      exact (h.obs o b ho).at (gh' := gh0) rfl g1 g2 g3 (hF0 k o hk)
    dis := fun k k' b b' q hb hb' ⟨o, ho, hq⟩ ⟨o', ho', hq'⟩ => by
      obtain ⟨_, _, x, g1, _⟩ := hosm k o ho
      obtain ⟨_, _, x', g1', _⟩ := hosm k' o' ho'
      have := h.dis o o' _ _ q g1 g1' hq hq'
      subst this
      exact nodup_snd hMo (look_mem ho) (look_mem ho')
    sS := h.sS
    nS := fun k b q hb ⟨o, ho, hq⟩ hS => by
      obtain ⟨g0, _, x, g1, _⟩ := hosm k o ho
      exact h.nS o _ q g1 hq hS
    wrR := fun k e es q hb ⟨o, ho, hq⟩ => Or.inr (fun f => by
      obtain ⟨_, _, x, g1, g2⟩ := hosm k o ho
      have hb : look iob k = some (.row e es) := hb
      rw [g2] at hb; cases hb
      exact ⟨k, o, _, ho, g1, hq, fun cs hc => by cases hc⟩)
    wrB := fun k cs q hb ⟨o, ho, hq⟩ hne => Or.inr (fun f => by
      obtain ⟨_, _, x, g1, g2⟩ := hosm k o ho
      exact ⟨k, o, _, ho, g1, hq, fun cs' _ he => (hne (by rw [(hv0 k o ho).2.1]; exact he)).elim⟩)
    wrC := fun k cs j hb hj => Or.inr (by
      obtain ⟨o, hk, ho⟩ := hiobM k _ hb
      obtain ⟨g1, g2, g3⟩ := hv0 k o hk
      rw [g2, g3]
      refine ⟨k, o, _, hk, ho, ?_, fun cs' hc _ => by cases hc; exact ⟨by omega, by omega⟩⟩
      have := h.obs o _ ho
      cases this with
      | box xs G hb hl h1 hc hxx dis nb hF => exact (hF _).2 (Or.inl rfl))
    kept := World.keptBut_refl w _
    pins := fun k x hp hn => by
      simp only [C0] at hp
      split at hp
      · cases hp; rfl
      · cases hp
    tms := fun t => by
      have e1 : St.get ⟨us.size, zipT 0 (ts gh0.hv), iob⟩ t = ((ts gh0.hv)[t]?).getD .dead := by
        unfold St.get; simp only [look_zipT, Nat.zero_le, if_true, Nat.sub_zero]
      rw [e1]
      cases hi : (ts gh0.hv)[t]? with
      | none => exact .dead
      | some x =>
        have hlt := (List.getElem?_eq_some_iff.1 hi).1
        have hvt : vs[t]? = some vs[t] := List.getElem?_eq_getElem (by omega)
        have hle := hl t _ x hvt hi
        have hvr := hv t _ hvt
        simp only [Option.getD_some]
        have low : lendsTo ⟨Mr, gh0.hv, pvOf C, [], iob⟩ vs[t] x → VR P w gh0 iob x (us.getD t undef) := fun hle => by
          refine lend_sound (gh0 := gh0) (L := ⟨Mr, gh0.hv, pvOf C, [], iob⟩) (fun k o hk => ?_) (fun o v hv hso => ?_) h.obs (fun k hk => hk) (fun o x k hx hk => by simp [look] at hx) (fun o x hx => by simp [look] at hx) hvr hle
          · have hmm : (k, o) ∈ M := by rw [hMM]; exact List.mem_append_left _ hk
            have hk' := mem_look hMk hmm
            obtain ⟨_, _, x', g1, g2⟩ := hosm k o hk'
            obtain ⟨e, es, g3⟩ := rowsAre_mem hMr k o hk
            rw [g3] at g1; cases g1
            exact ⟨e, es, g3, g2, (hv0 k o hk').1, rfl⟩
          · obtain ⟨x, hx, rfl⟩ := Option.map_eq_some_iff.1 hv
            have := h.pins o x hx (fun e => by rw [e] at hso; cases hso)
            rw [← this]
        unfold lendsX at hle
        split at hle
        · rename_i o j heq
          rw [heq] at hvr
          split at hle
          · rename_i k j'
            obtain ⟨hk0, rfl⟩ := hle
            have hmm : (k, o) ∈ M := by rw [hMM]; exact List.mem_append_right _ (look_mem hk0)
            have hk' := mem_look hMk hmm
            obtain ⟨g1, g2, g3⟩ := hv0 k o hk'
            obtain ⟨_, _, x', g4, g5⟩ := hosm k o hk'
            generalize us.getD t undef = u0 at hvr
            cases hvr with
            | bp hx =>
              rw [hx] at g4; cases g4
              have := VR.bp (P := P) (w := w) (gh := gh0) (j := j) g5
              rw [g2, g3] at this; exact this
          · exact hle.elim
        · rename_i ch j heq
          rw [heq] at hvr
          split at hle
          · obtain ⟨rfl, rfl⟩ := hle
            generalize us.getD t undef = u0 at hvr
            cases hvr with
            | ip U hs' h' => exact .ip U hs' h'
          · exact hle.elim
        · exact low hle
    nt := Nat.le_refl _
    dfs := rfl
    xl := fun k hk => hk.elim
    xS := fun k hk => hk.elim
    xF := fun o b k hb hk => hk.elim
    xW := fun k hk => hk.elim
    s0S := fun k hk => hk
    sZ := fun k hk => hk }
  refine (hs.2 gh0.hv (fun o => (gh0.bb o, gh0.bo o)) C0 w gh0 us rfl (fun o ho => by simp only [C0, ho]; rfl) (fun o ho => by simp only [C0, ho]; rfl) (by omega) hrep).mono (fun e w' he => ?_)
  obtain ⟨vs', rs, st', a', gc, G, rfl, hpost, hres, hR⟩ := he
  refine ⟨tupV vs', rfl, ?_⟩
  have hlike := hns rs st' hpost
  have hk := hR.kept
  have mayos : ∀ b f, may b f → ∃ o x, o ∈ os ∧ look st.ob o = some x ∧ gh.F o b := fun b f ⟨k, o, x, hk, hx, hb, _⟩ => ⟨o, x, (hosm k o hk).1, hx, hb⟩
  have allmay : ∀ b, (∀ f, may b f) → ∃ o x, o ∈ os ∧ look st.ob o = some x ∧ gh.F o b ∧ ∀ cs, x = .box cs → b ≠ gh.bb o := fun b hb => by
    obtain ⟨k, o, x, hk, hx, hF, _⟩ := hb 0
    refine ⟨o, x, (hosm k o hk).1, hx, hF, fun cs hc he => ?_⟩
    obtain ⟨k2, o2, x2, hk2, hx2, hF2, h2⟩ := hb (gh.bo o + cs.length)
    have := h.dis o o2 _ _ b hx hx2 hF hF2
    subst this
    rw [hx] at hx2; cases hx2
    have := h2 cs hc he
    omega
  have wr0 : ∀ o x b, look st.ob o = some x → gh.F o b → (∀ cs, x = .box cs → b ≠ gh.bb o) → C.w0.heap.size ≤ b ∨ ∀ f, C.may b f := fun o x b hx hb hc => by
    cases x with
    | row e es => exact h.wrR o e es b hx hb
    | box cs => exact h.wrB o cs b hx hb (hc cs rfl)
  have wrA : ∀ b, (∀ f, may b f) → C.w0.heap.size ≤ b ∨ ∀ f, C.may b f := fun b hb => by
    obtain ⟨o, x, _, hx, hF, hc⟩ := allmay b hb
    exact wr0 o x b hx hF hc
  have wr1 : ∀ b f, may b f → C.w0.heap.size ≤ b ∨ C.may b f := fun b f ⟨k, o, x, hk, hx, hF, hc⟩ => by
    by_cases hbx : ∀ cs, x = .box cs → b ≠ gh.bb o
    · exact (wr0 o x b hx hF hbx).imp id (fun hh => hh f)
    · simp only [Classical.not_forall] at hbx
      obtain ⟨cs, hcs, hne⟩ := hbx
      have he : b = gh.bb o := Classical.not_not.1 hne
      subst hcs
      obtain ⟨g1, g2⟩ := hc cs rfl he
      have := h.wrC o cs (f - gh.bo o) hx (by omega)
      rw [show gh.bo o + (f - gh.bo o) = f by omega] at this
      rw [he]; exact this
  have heap : ∀ k, k < w.heap.size → ¬ (∃ f, may k f) → w'.heap[k]? = w.heap[k]? := by
    intro k hk' hn
    refine keptBut_heap hk hk' (fun f hm => ?_) (fun hm => ?_)
    · obtain ⟨b, f', e, hm⟩ := hm
      injection e with e1 e2
      rw [← e1, ← e2] at hm
      exact hn ⟨f, hm⟩
    · obtain ⟨b, f', e, _⟩ := hm
      cases e
  have hnew : ∀ k o, (k, o) ∈ M → ∃ x y, look st.ob o = some x ∧ look st'.ob k = some y ∧ x.like y := fun k o hm => by
    obtain ⟨_, x, g1, g2, _⟩ := ioIs_mem hM k o hm
    obtain ⟨x', y, g3, g4, g5⟩ := ioLike_mem hlike k o hm
    rw [g2] at g3; cases g3
    exact ⟨x, y, g1, g4, g5⟩
  have hnewo : ∀ o, o ∈ os → ∃ k y, (k, o) ∈ M ∧ look st'.ob k = some y ∧ look (newObs st'.ob M) o = some y := fun o ho => by
    obtain ⟨k, hm, hl'⟩ := (look_newObs st'.ob M o).1 ho
    obtain ⟨x, y, _, g2, _⟩ := hnew k o hm
    rw [g2] at hl'
    exact ⟨k, y, hm, g2, hl'⟩
  have hlook : ∀ o, look (st.wrote M st'.ob).ob o = if o ∈ os then look (newObs st'.ob M) o else look st.ob o := fun o => by
    simp only [St.wrote, look_append, look_dropI]
    by_cases ho : o ∈ os
    · obtain ⟨k, y, _, _, g⟩ := hnewo o ho
      have ho' : o ∈ M.map (·.2) := ho
      simp only [if_pos ho', if_pos ho, g, Option.or_none]
    · have hn := (look_newObs st'.ob M o).2 ho
      have ho' : o ∉ M.map (·.2) := ho
      simp only [if_neg ho', if_neg ho, hn, Option.none_or]
  let ghn : Gh := { S := gc.S, hv := gh.hv, bb := gh.bb, bo := gh.bo, F := fun o => if o ∈ os then (fun b => ∃ k, (k, o) ∈ M ∧ gc.F k b) else gh.F o }
  have gin : ∀ k o, (k, o) ∈ M → ghn.F o = gc.F k := fun k o hm => by
    have ho : o ∈ os := List.mem_map.2 ⟨(k, o), hm, rfl⟩
    simp only [ghn, if_pos ho]
    funext b
    exact propext ⟨fun ⟨k', hm', hb⟩ => by have := nodup_snd hMo hm hm'; subst this; exact hb, fun hb => ⟨k, hm, hb⟩⟩
  have gout : ∀ o, o ∉ os → ghn.F o = gh.F o := fun o ho => by simp only [ghn]; rw [if_neg ho]
  have hpn : ∀ k o, (k, o) ∈ M → gc.hv k = gh.hv o ∧ gc.bb k = gh.bb o ∧ gc.bo k = gh.bo o := fun k o hm => by
    have hkl := mem_look hMk hm
    obtain ⟨x, y, _, g2, _⟩ := hnew k o hm
    have hp := hR.pins k (gh0.hv k, gh0.bb k, gh0.bo k) (by simp only [C0]; rw [if_pos (hosm k o hkl).2.1]) (by rw [g2]; simp)
    obtain ⟨g1, g2, g3⟩ := hv0 k o hkl
    rw [g1, g2, g3] at hp
    simp only [Prod.mk.injEq] at hp
    exact hp
  have newB : ∀ b, (w.heap.size ≤ b ∨ ∃ f, may b f) → (∃ o', o' ∈ os ∧ gh.F o' b) ∨ No b ∨ w.heap.size ≤ b := fun b hb => by
    rcases hb with hb | ⟨f, hb⟩
    · exact Or.inr (Or.inr hb)
    · obtain ⟨o, x, ho, _, hF⟩ := mayos b f hb
      exact Or.inl ⟨o, ho, hF⟩
  have cF : ∀ k o, (k, o) ∈ M → ∀ b, gc.F k b → (w.heap.size ≤ b ∨ ∃ f, may b f) ∧ (∀ y, look st'.ob k = some y → (∀ cs, y = .box cs → b ≠ gh.bb o) → C.w0.heap.size ≤ b ∨ ∀ f, C.may b f) := fun k o hm b hb => by
    obtain ⟨x, y, g1, g2, g3⟩ := hnew k o hm
    have hp := hpn k o hm
    have all : (∀ cs, y = .box cs → b ≠ gh.bb o) → w.heap.size ≤ b ∨ ∀ f, may b f := fun hc => by
      cases y with
      | row e es => exact hR.wrR k e es b g2 hb
      | box cs => exact hR.wrB k cs b g2 hb (by rw [hp.2.1]; exact hc cs rfl)
    refine ⟨?_, fun y' hy' hc => ?_⟩
    · by_cases hbb : b = gh.bb o ∧ ∃ cs, y = .box cs
      · obtain ⟨he, cs, rfl⟩ := hbb
        cases x with
        | row e es => simp [Ob.like] at g3
        | box cs0 =>
          have hob := h.obs o _ g1
          have hFb : gh.F o (gh.bb o) := by
            cases hob with
            | box xs G hb hl h1 hc hxx dis nb hF => exact (hF _).2 (Or.inl rfl)
          by_cases hn : 0 < cs0.length
          · exact Or.inr ⟨gh.bo o, k, o, _, mem_look hMk hm, g1, by rw [he]; exact hFb, fun cs' hc _ => by cases hc; omega⟩
          · obtain ⟨_, x1, q1, _, q3⟩ := ioIs_mem hM k o hm
            rw [g1] at q1; cases q1
            exact (q3 (by rw [List.eq_nil_of_length_eq_zero (by omega : cs0.length = 0)])).elim
      · exact (all (fun cs hc he => hbb ⟨he, cs, hc⟩)).imp id (fun hh => ⟨0, hh 0⟩)
    · rw [g2] at hy'; cases hy'
      rcases all hc with hh | hh
      · exact Or.inl (Nat.le_trans h.size hh)
      · exact wrA b hh
  have hin : Rep P C (inHand rs G) (st.wrote M st'.ob) a w' ghn := by
    refine h.multiX os ghn (inHand rs G) (fun o ho => by rw [hlook, if_neg ho]) (fun t => by unfold St.get St.wrote; simp only [look_mapT]; cases look st.tm t <;> simp [killI, os]) rfl
      (fun o ho => by
        obtain ⟨k, y, hm, g2, g3⟩ := hnewo o ho
        obtain ⟨x, y', g4, g5, g6⟩ := hnew k o hm
        rw [g2] at g5; cases g5
        exact ⟨x, y, g4, by rw [hlook, if_pos ho]; exact g3, g6⟩)
      ⟨rfl, rfl, rfl⟩ gout hk.size
      (fun o x k ho hx hk' => heap k ((h.obs o x hx).lt k hk') (fun ⟨f, hm⟩ => by
        obtain ⟨o', x', ho', hx', hF⟩ := mayos k f hm
        have := h.dis o o' x _ k hx hx' hk' hF
        subst this; exact ho ho'))
      (fun k hk' => heap k (h.sS k hk') (fun ⟨f, hm⟩ => by
        obtain ⟨o', x', ho', hx', hF⟩ := mayos k f hm
        exact h.nS o' _ k hx' hF hk'))
      (World.keptBut_mono (fun p hp => by
        obtain ⟨b, f, e, hm⟩ := hp
        exact ⟨b, f, e, wr1 b f hm⟩) hk)
      (fun k hk' => hR.s0S k hk')
      (fun k hk' => ⟨hR.sS k hk', h.sZ k (hR.sZ k hk'), Or.inl (hR.sZ k hk')⟩)
      (fun o ho y hy => by
        rw [hlook, if_pos ho] at hy
        obtain ⟨k, y', hm, g2, g3⟩ := hnewo o ho
        rw [g3] at hy; cases hy
        obtain ⟨p1, p2, p3⟩ := hpn k o hm
        exact (hR.obs k _ g2).at (gh' := ghn) rfl p1.symm p2.symm p3.symm (gin k o hm))
      (fun o ho b hb => by
        obtain ⟨k, y, hm, g2, g3⟩ := hnewo o ho
        rw [gin k o hm] at hb
        rcases newB b (cF k o hm b hb).1 with hh | hh | hh
        · exact Or.inl hh
        · exact hh.elim
        · exact Or.inr (Or.inr hh))
      (fun o o' b ho ho' hb hb' => by
        obtain ⟨k, y, hm, g2, g3⟩ := hnewo o ho
        obtain ⟨k', y', hm', g2', g3'⟩ := hnewo o' ho'
        rw [gin k o hm] at hb
        rw [gin k' o' hm'] at hb'
        have := hR.dis k k' _ _ b g2 g2' hb hb'
        subst this
        have h1 := mem_look hMk hm
        have h2 := mem_look hMk hm'
        rw [h1] at h2; cases h2; rfl)
      (fun o b ho hb => by
        obtain ⟨k, y, hm, g2, g3⟩ := hnewo o ho
        rw [gin k o hm] at hb
        exact hR.nS k _ b g2 hb)
      (fun o b y ho hy hb hc => by
        obtain ⟨k, y', hm, g2, g3⟩ := hnewo o ho
        rw [hlook, if_pos ho, g3] at hy; cases hy
        rw [gin k o hm] at hb
        exact (cF k o hm b hb).2 _ g2 hc)
      (fun b hb => ⟨hR.xl b hb, hR.xS b hb, by
        rcases hR.xW b hb with hw | hw
        · exact Or.inl (Nat.le_trans h.size hw)
        · exact wrA b hw, by
        rcases hR.xW b hb with hw | hw
        · exact Or.inr (Or.inr hw)
        · obtain ⟨o, x, ho, _, hF, _⟩ := allmay b hw
          exact Or.inl ⟨o, ho, hF⟩⟩)
      (fun o b ho hb hX => by
        obtain ⟨k, y, hm, g2, g3⟩ := hnewo o ho
        rw [gin k o hm] at hb
        exact hR.xF k _ b g2 hX hb)
  have hres' : Res P w' ghn.S rs vs' G := hres
  cases d with
  | none => exact ⟨_, ghn, hK rs st' hpost, hin.less (fun k hk => hk.elim)⟩
  | some d =>
    obtain ⟨gh2, hr2, hn2, hl2, hv2, _, _⟩ := layR_sound d rs vs' G 0 hin hpin hres' (fun b hb => hb)
    refine ⟨_, gh2, hK rs st' hpost, ?_⟩
    simp only [after]
    refine (hr2.less (X' := No) (fun k hk => hk.elim)).set (by rw [hn2]; exact hd d rfl) ?_
    match rs, vs', hl2, hv2 with
    | [], [], _, hv2 => exact .tup rfl (fun i v hi => by simp [vsR] at hi)
    | [r], [v], _, hv2 => exact hv2 0 _ _ rfl rfl
    | r :: r2 :: rs, v :: v2 :: vs, hl2, hv2 =>
      refine .tup (by simp [← hl2]) (fun i x hi => ?_)
      have hil := (List.getElem?_eq_some_iff.1 hi).1
      have hvi : (v :: v2 :: vs)[i]? = some (v :: v2 :: vs)[i] := List.getElem?_eq_getElem (by omega)
      have := hv2 i x _ hi hvi
      simpa [Array.getD_eq_getD_getElem?, hvi] using this
    | [], v :: vs, hl2, _ => simp [vsR] at hl2
    | r :: rs, [], hl2, _ => simp [vsR] at hl2
    | [r], v :: v2 :: vs, hl2, _ => simp [vsR] at hl2
    | r :: r2 :: rs, [v], hl2, _ => simp [vsR] at hl2


theorem aCall_bxdN {f : FuncId} {ts : (Nat → Value) → List V} {iob N : List (Nat × Ob)} {R : List RV} (hs : SoundAtN P f ts iob (fun rs st => rs = R ∧ nowIs st.ob N)) (hpin : ∀ o, isPin o = false → C.pin o = none) (M Mr Mb : List (Nat × Nat)) {vs : List V} {d : Option Nat}
    (hMM : M = Mr ++ Mb ∧ nodupB (M.map (·.1)) = true ∧ nodupB (M.map (·.2)) = true ∧ iob.map (·.1) = M.map (·.1)) (hl : ∀ uf, lendAllX ⟨Mr, uf, pvOf C, [], iob⟩ Mb vs (ts uf))
    (h : ioIs st iob M ∧ rowsAre st Mr ∧ ioLike iob N M ∧ ev (b := ⟨K⟩) (after (st.wrote M N) d R)) : aCallB (b := ⟨K⟩) P C st f vs d := by
  refine aCall_bxN hs (pin3 hpin) M Mr Mb hMM.1 h.1 h.2.1 (nodup_of hMM.2.1) (nodup_of hMM.2.2.1) hMM.2.2.2 hl (fun rs st' hr => ?_) (fun rs st' hr => ?_)
  · exact (newObs_nowX (nowIs_get hr.2) M h.2.2.1).2
  · have e : st.wrote M st'.ob = st.wrote M N := by unfold St.wrote; rw [(newObs_nowX (nowIs_get hr.2) M h.2.2.1).1]
    rw [hr.1, e]; exact h.2.2.2
end
attribute [go_sem] St.own
end Go.Proofs.Ytldniggehdpheaa.AW
