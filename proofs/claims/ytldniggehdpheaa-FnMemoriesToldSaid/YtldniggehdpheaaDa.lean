/- A call that hands back a pointer to a new variable. No condition beyond those named. -/
import Derived.Test.YtldniggehdpheaaVh
namespace Go.Proofs.Ytldniggehdpheaa.AW
open Go.RowKit
set_option linter.unusedSimpArgs false
set_option linter.unusedVariables false

/-- What a function does that hands back one thing, told over its own last state. -/
def SoundP (P : Program) (f : FuncId) (ts : List V) (post : V → St → Prop) : Prop :=
  entersB P f = true ∧ ∀ (C : Cx) (w : World) (gh : Gh) (us : Array Value), C.w0 = w → (∀ o, isPin o = false → C.pin o = none) → C.full → (∀ b f, ¬ C.may b f) → us.size = ts.length →
    Rep P C No ⟨us.size, zipT 0 ts, []⟩ ⟨us, []⟩ w gh →
    Calls P f us w (fun e w' => ∃ (v : Value) (x : V) (st' : St) (a' : Act) (gh' : Gh), e = .returned v ∧ post x st' ∧ VR P w' gh' st'.ob x v ∧ Rep P C No st' a' w' gh')
/-- The last state has the one thing in a slot. -/
def FinP (P : Program) (t : Nat) (post : V → St → Prop) : Exit → St → Prop
  | .normal, st => (st.get t).ok ∧ post (st.get t).str st
  | .ret, st => (st.get t).ok ∧ post (st.get t).str st
  | _, _ => False
/-- It is a pointer to a variable with this in it. -/
def newBox (post : List D → Prop) (x : V) (st : St) : Prop := match x with
  | .bp o 0 => (match look st.ob o with
    | some (.box (c :: cs)) => isPin o = false ∧ post (c :: cs)
    | _ => False)
  | _ => False

section
variable {P : Program} {w w1 : World} {C : Cx} {X : Nat → Prop} {gh gh' : Gh} {st st' st'' : St} {a : Act} {v : V} {u : Value} {ob ob' : List (Nat × Ob)} {S S' : Nat → Prop} {K : St → Prop} {d : D} {F : Nat → Prop}

theorem sound_triP {f : FuncId} {fn : Func} {c : Code} {t : Nat} {n : Nat} {ts : List V} {post : V → St → Prop} (hz : Sized P) (hf : P.funcs[f]? = some fn) (hb : fn.body = some c) (hen : entersB P f = true) (hres : fn.results.toList = [RR.tm t].map RR.var)
    (hn : fn.ntmps = n) (hnt : ts.length ≤ n) (h : ∀ (C : Cx), (∀ o, isPin o = false → C.pin o = none) → C.full → Tri P C ⟨n, zipT 0 ts, []⟩ c (FinP P t post)) : SoundP P f ts post := by
  refine ⟨hen, fun C w gh us hw hpin hfull hmay hus hR => ?_⟩
  have hrep : Rep P C No ⟨n, zipT 0 ts, []⟩ { tmps := us ++ Array.replicate (fn.ntmps - us.size) undef, defers := [] } w gh := {
      obs := hR.obs, dis := hR.dis, sS := hR.sS, nS := hR.nS, wrR := hR.wrR, wrB := hR.wrB, wrC := hR.wrC, kept := hR.kept, pins := hR.pins
      tms := fun t => by
        have ht := hR.tms t
        have e1 : St.get ⟨n, zipT 0 ts, []⟩ t = St.get ⟨us.size, zipT 0 ts, []⟩ t := rfl
        rw [e1]
        by_cases hlt : t < us.size
        · have e2 : (us ++ Array.replicate (fn.ntmps - us.size) undef).getD t undef = us.getD t undef := by
            rw [Array.getD_eq_getD_getElem?, Array.getD_eq_getD_getElem?, Array.getElem?_append_left hlt]
          simp only [e2]; exact ht
        · have e3 : St.get ⟨us.size, zipT 0 ts, []⟩ t = .dead := by
            unfold St.get; simp only [look_zipT, Nat.zero_le, if_true, Nat.sub_zero]
            rw [List.getElem?_eq_none (by omega)]; rfl
          rw [e3]; exact .dead
      nt := by simp only [Array.size_append, Array.size_replicate]; omega
      dfs := rfl
      xl := hR.xl, xS := hR.xS, xF := hR.xF, xW := hR.xW, s0S := hR.s0S, sZ := hR.sZ }
  have fin : ∀ {a' : Act} {w' : World} {st' : St} {gh' : Gh}, Rep P C No st' a' w' gh' → (st'.get t).ok ∧ post (st'.get t).str st' → a'.defers = [] ∧ ∃ v, (results fn a'.tmps).run P w' = .ok v w' ∧ ∃ (v' : Value) (x : V) (st'' : St) (a'' : Act) (gh'' : Gh), Ending.returned v = .returned v' ∧ post x st'' ∧ VR P w' gh'' st''.ob x v' ∧ Rep P C No st'' a'' w' gh'' := fun hr hk => by
    have h1 := results_tmps (res := [RR.tm t]) hres hr (fun r hr' => by rw [List.mem_singleton] at hr'; subst hr'; exact hk.1)
    exact ⟨hr.dfs, _, h1, _, _, _, _, _, rfl, hk.2, (hr.tms t).use hk.1, hr⟩
  refine calls_of_wp hf hb (Code.wp_mono (fun e a' w' hh => ?_) (h C hpin hfull _ w gh hrep))
  obtain ⟨st', gh', hk, hr⟩ := hh
  cases e with
  | normal => exact fin hr hk
  | ret => exact fin hr hk
  | _ => exact hk.elim

mutual
theorem killI_nil : ∀ v : V, killI [] v = v
  | .ref o (x :: p) n => by simp [killI]
  | .rp o (x :: p) i j => by simp [killI]
  | .agg vs => by simp only [killI]; rw [killIL_nil vs]
  | .tup vs => by simp only [killI]; rw [killIL_nil vs]
  | .cond c v => by simp only [killI]; rw [killI_nil v]
  | .ref o [] n => by simp [killI]
  | .rp o [] i j => by simp [killI]
  | .dead => rfl
  | .und => rfl
  | .sc v => rfl
  | .nil t => rfl
  | .imm t l => rfl
  | .bp o j => rfl
  | .ip ch j => rfl
  | .clo f chs => rfl
theorem killIL_nil : ∀ l : List V, killIL [] l = l
  | [] => rfl
  | v :: r => by simp only [killIL]; rw [killI_nil v, killIL_nil r]
end
/-- A call that hands back a pointer to a new variable. -/
theorem aCall_new {f : FuncId} {ts : List V} {post : List D → Prop} (hs : SoundP P f ts (newBox post)) (hpin : ∀ n, 3000 ≤ n → C.pin n = none) (hfull : C.full) {vs : List V} {d : Nat}
    (hl : lendAllX ⟨[], fun _ => undef, pvOf C, [], []⟩ [] vs ts) (hK : ∀ cs, post cs → ev (b := ⟨K⟩) ((st.fresh (objNo d 0) (.box cs)).set d (.bp (objNo d 0) 0))) : aCall P C st f vs (some d) K := by
  refine Or.inl ⟨hs.1, fun a w gh us h hus hv hd => ?_⟩
  classical
  let gh0 : Gh := { S := gh.S, hv := fun _ => undef, bb := fun _ => 0, bo := fun _ => 0, F := fun _ _ => False }
  let C0 : Cx := { w0 := w, s0 := gh.S, may := fun _ _ => False, pin := fun _ => none, z := fun k => gh.S k ∨ w.heap.size ≤ k }
  obtain ⟨hlen, hl⟩ := lendAllX_get hl
  have hrep : Rep P C0 No ⟨us.size, zipT 0 ts, []⟩ ⟨us, []⟩ w gh0 := {
    obs := fun k b hb => by simp [look] at hb
    dis := fun k k' b b' q hb => by simp [look] at hb
    sS := h.sS
    nS := fun k b q hb => by simp [look] at hb
    wrR := fun k e es q hb => by simp [look] at hb
    wrB := fun k cs q hb => by simp [look] at hb
    wrC := fun k cs j hb => by simp [look] at hb
    kept := World.keptBut_refl w _
    pins := fun k x hp hn => by cases hp
    tms := fun t => by
      have e1 : St.get ⟨us.size, zipT 0 ts, []⟩ t = (ts[t]?).getD .dead := by
        unfold St.get; simp only [look_zipT, Nat.zero_le, if_true, Nat.sub_zero]
      rw [e1]
      cases hi : ts[t]? with
      | none => exact .dead
      | some x =>
        have hlt := (List.getElem?_eq_some_iff.1 hi).1
        have hvt : vs[t]? = some vs[t] := List.getElem?_eq_getElem (by omega)
        have hle := hl t _ x hvt hi
        have hvr := hv t _ hvt
        simp only [Option.getD_some]
        have low : lendsTo ⟨[], fun _ => undef, pvOf C, [], []⟩ vs[t] x → VR P w gh0 [] x (us.getD t undef) := fun hle => by
          refine lend_sound (gh0 := gh0) (L := ⟨[], fun _ => undef, pvOf C, [], []⟩) (fun k o hk => by simp at hk) (fun o v hv hso => ?_) h.obs (fun k hk => hk) (fun o x k hx hk => by simp [look] at hx) (fun o x hx => by simp [look] at hx) hvr hle
          obtain ⟨x, hx, rfl⟩ := Option.map_eq_some_iff.1 hv
          have := h.pins o x hx (fun e => by rw [e] at hso; cases hso)
          rw [← this]
        unfold lendsX at hle
        split at hle
        · rename_i o j heq
          split at hle
          · simp [look] at hle
          · exact hle.elim
        · rename_i ch j heq
          rw [heq] at hvr
          split at hle
          · obtain ⟨rfl, rfl⟩ := hle
            generalize us.getD t undef = u0 at hvr
            cases hvr with
            | ip U hs' h' => exact .ip U hs' h'
          · exact hle.elim
        · exact low hle
    nt := Nat.le_refl _
    dfs := rfl
    xl := fun k hk => hk.elim
    xS := fun k hk => hk.elim
    xF := fun o b k hb hk => hk.elim
    xW := fun k hk => hk.elim
    s0S := fun k hk => hk
    sZ := fun k hk => Or.inl hk }
  refine (hs.2 C0 w gh0 us rfl (fun o _ => rfl) (fun k hk => hk.elim Or.inr (fun ⟨_, hh⟩ => hh.elim)) (fun b f hh => hh) (by omega) hrep).mono (fun e w' he => ?_)
  obtain ⟨v', x, st', a', gc, rfl, hpost, hvx, hR⟩ := he
  refine ⟨v', rfl, ?_⟩
  unfold newBox at hpost
  split at hpost
  case h_2 => exact hpost.elim
  rename_i o
  split at hpost
  case h_2 => exact hpost.elim
  rename_i c cs ho
  obtain ⟨hnp, hpost⟩ := hpost
  have hk := hR.kept
  have heap : ∀ k, k < w.heap.size → w'.heap[k]? = w.heap[k]? := fun k hk' => by
    refine keptBut_heap hk hk' (fun f hm => ?_) (fun hm => ?_)
    · obtain ⟨b, f', e, hm⟩ := hm
      exact hm
    · obtain ⟨b, f', e, _⟩ := hm
      cases e
  have hob := hR.obs o _ ho
  have hfr : ∀ k, gc.F o k → w.heap.size ≤ k := fun k hk' => by
    by_cases hb : k = gc.bb o
    · rcases hR.wrC o _ 0 ho (by simp) with hh | hh
      · rw [hb]; exact hh
      · exact hh.elim
    · rcases hR.wrB o _ k ho hk' hb with hh | hh
      · exact hh
      · exact (hh 0).elim
  let ghn : Gh := { S := gc.S, hv := gh.hv, bb := gh.bb, bo := gh.bo, F := gh.F }
  have hin : Rep P C (gc.F o) st a w' ghn := by
    refine h.multiX [] ghn (gc.F o) (fun o _ => rfl) (fun t => (killI_nil _).symm) rfl (fun o ho => by simp at ho) ⟨rfl, rfl, rfl⟩ (fun o _ => rfl) hk.size
      (fun o x k _ hx hk' => heap k ((h.obs o x hx).lt k hk')) (fun k hk' => heap k (h.sS k hk'))
      (World.keptBut_mono (fun p hp => by
        obtain ⟨b, f, e, hm⟩ := hp
        exact hm.elim) hk)
      (fun k hk' => hR.s0S k hk')
      (fun k hk' => ⟨hR.sS k hk', by
        rcases (hR.sZ k hk' : gh.S k ∨ w.heap.size ≤ k) with hz | hz
        · exact ⟨h.sZ k hz, Or.inl hz⟩
        · exact ⟨hfull k (Or.inl (Nat.le_trans h.size hz)), Or.inr (Or.inr (Or.inr hz))⟩⟩)
      (fun o ho => by simp at ho) (fun o ho => by simp at ho) (fun o o' k ho => by simp at ho) (fun o k ho => by simp at ho) (fun o k y ho => by simp at ho)
      (fun k hk' => ⟨hob.lt k hk', hR.nS o _ k ho hk', Or.inl (Nat.le_trans h.size (hfr k hk')), Or.inr (Or.inr (hfr k hk'))⟩)
      (fun o k ho => by simp at ho)
  have hob2 : ObR P w' (ghn.upd (objNo d 0) (gc.hv o) (gc.bb o) (gc.bo o) (gc.F o)) (objNo d 0) (.box (c :: cs)) := hob.at rfl (by simp [Gh.upd]) (by simp [Gh.upd]) (by simp [Gh.upd]) (by simp [Gh.upd])
  have h2 := hin.fresh (d := objNo d 0) (hpin _ (by unfold objNo; omega)) hob2 (fun k hk' => hk')
  have hvp : VR P w' (ghn.upd (objNo d 0) (gc.hv o) (gc.bb o) (gc.bo o) (gc.F o)) (st.fresh (objNo d 0) (.box (c :: cs))).ob (.bp (objNo d 0) 0) v' := by
    cases hvx with
    | bp hx =>
      have := VR.bp (P := P) (w := w') (gh := ghn.upd (objNo d 0) (gc.hv o) (gc.bb o) (gc.bo o) (gc.F o)) (j := 0) (fresh_look st (objNo d 0) (.box (c :: cs)))
      simpa [Gh.upd] using this
  exact ⟨_, _, hK _ hpost, (h2.less (X' := No) (fun k hk' => hk'.elim)).set (by rw [show (st.fresh (objNo d 0) (.box (c :: cs))).nt = st.nt from rfl]; exact hd d rfl) hvp⟩
theorem aCall_newB {f : FuncId} {ts : List V} {post : List D → Prop} (hs : SoundP P f ts (newBox post)) (hpin : ∀ o, isPin o = false → C.pin o = none) (hfull : C.full) {vs : List V} {d : Nat}
    (hl : lendAllX ⟨[], fun _ => undef, pvOf C, [], []⟩ [] vs ts) (hK : ∀ cs, post cs → ev (b := ⟨K⟩) ((st.fresh (objNo d 0) (.box cs)).set d (.bp (objNo d 0) 0))) : aCallB (b := ⟨K⟩) P C st f vs (some d) :=
  aCall_new hs (pin3 hpin) hfull hl hK
end
attribute [go_sem] newBox FinP
end Go.Proofs.Ytldniggehdpheaa.AW
