/- A number is written over a number: what leads into rows within is known behind it as before. No condition. -/
import Derived.Test.YtldniggehdpheaaVe
namespace Go.Proofs.Ytldniggehdpheaa.AW
open Go.RowKit
set_option linter.unusedSimpArgs false
set_option linter.unusedVariables false

def isSl : Value → Prop
  | .slice _ _ _ => True
  | _ => False
def isIntV : Value → Prop
  | .int _ _ => True
  | _ => False
def isIntD : Option D → Prop
  | some (.sc (.int _ _)) => True
  | _ => False
def aStoreK (P : Program) (st : St) (t : TypeId) (pv vv : V) (K : St → Prop) : Prop := match pv, vv with
  | .rp o p i j, .sc c => match look st.ob o with
    | some x => match subO x p with
      | some (.row false e es) => i < es.length ∧ j + 1 ≤ szT P e ∧ szT P t = 1 ∧ isIntD (cellAt es i j) ∧ isIntV c ∧ ev (b := ⟨K⟩) { st with ob := (o, setO x p (.row false e (setCellAt es i j (.sc c)))) :: drop st.ob o }
      | _ => False
    | none => False
  | _, _ => False
def aOpsK (P : Program) (C : Cx) (ops : Array Oper) : List Oper → St → (St → Prop) → Prop
  | [], st, K => K st
  | o :: r, st, K => match o.op, o.dst, o.guard with
    | .store t x y, none, none => (st.ev x).ok ∧ (st.ev y).ok ∧ aStoreK P st t (st.ev x).str (st.ev y).str (fun st' => aOpsK P C ops r st' K)
    | _, _, _ => dstOk st o ∧ aOper P C ops st o (fun st' => aOpsK P C ops r st' K)

section
variable {P : Program} {w w1 : World} {C : Cx} {X : Nat → Prop} {gh gh' : Gh} {st st' : St} {a : Act} {v : V} {u : Value} {ob ob' : List (Nat × Ob)} {S : Nat → Prop} {K : St → Prop}

theorem Nav.head {d : D} {y : Value} {p : List (Nat × Nat)} {d2 : D} {v2 : Value} (h : Nav P w d y p d2 v2) (hs : isSl v2) : isSl y := by
  cases h with
  | nil => exact hs
  | cons hc hw hn => trivial
/-- Where all that is met is slices, a world will do that has these. -/
theorem Nav.moveS (Hw : ∀ b y, w.cell? b = some y → isSl y → w1.cell? b = some y) {d : D} {y : Value} {p : List (Nat × Nat)} {d2 : D} {v2 : Value} (h : Nav P w d y p d2 v2) (hs : isSl v2) : Nav P w1 d y p d2 v2 := by
  induction h with
  | nil => exact .nil
  | cons hc hw hn ih => exact .cons hc (Hw _ _ hw (hn.head hs)) (ih hs)
theorem Nav.keep (Hw : ∀ b y, w.cell? b = some y → isSl y → w1.cell? b = some y) {d : D} {y : Value} {p : List (Nat × Nat)} {d2 : D} {v2 : Value} (h : Nav P w d y p d2 v2) (hs : isSl v2) :
    ∀ {q : List (Nat × Nat)} {e : TypeId} {es : List (List D)} {i j : Nat} {c0 c : Value}, subD d q = some (.row false e es) → cellAt es i j = some (.sc c0) → ∀ {e' : TypeId} {es' : List (List D)}, d2 = .row false e' es' →
      ∃ es'', Nav P w1 (setD d q (.row false e (setCellAt es i j (.sc c)))) y p (.row false e' es'') v2 ∧ es''.length = es'.length := by
  induction h with
  | @nil d y =>
    intro q e es i j c0 c hq hc e' es' hd
    subst hd
    cases q with
    | nil =>
      simp only [subD, Option.some.injEq, D.row.injEq, true_and] at hq
      obtain ⟨rfl, rfl⟩ := hq
      exact ⟨_, .nil, by simp⟩
    | cons ij q => exact ⟨_, .nil, by simp⟩
  | @cons e0 es0 ad l c1 i1 j1 d1 d2 v1 v2 p hc0 hw hn ih =>
    intro q e es i j c0 c hq hc e' es' hd
    have hw1 := Hw _ _ hw (hn.head hs)
    cases q with
    | nil =>
      simp only [subD, Option.some.injEq, D.row.injEq, true_and] at hq
      obtain ⟨rfl, rfl⟩ := hq
      simp only [setD]
      by_cases he : i = i1 ∧ j = j1
      · obtain ⟨rfl, rfl⟩ := he
        rw [hc] at hc0
        cases hc0
        subst hd
        cases hn
      · refine ⟨es', .cons (by rw [cellAt_setCellAt hc, if_neg he]; exact hc0) hw1 ?_, rfl⟩
        subst hd
        exact hn.moveS Hw hs
    | cons ij q =>
      obtain ⟨a1, b1⟩ := ij
      simp only [subD, Option.bind_eq_some_iff] at hq
      obtain ⟨dq, hdq, hq⟩ := hq
      simp only [setD]
      by_cases he : a1 = i1 ∧ b1 = j1
      · obtain ⟨rfl, rfl⟩ := he
        rw [hdq] at hc0
        cases hc0
        obtain ⟨es'', g1, g2⟩ := ih hs (c := c) hq hc hd
        refine ⟨es'', .cons (by rw [cellAt_setCellAt hdq, if_pos ⟨rfl, rfl⟩, hdq]) hw1 ?_, g2⟩
        exact g1
      · refine ⟨es', .cons (by rw [cellAt_setCellAt hdq, if_neg he]; exact hc0) hw1 ?_, rfl⟩
        subst hd
        exact hn.moveS Hw hs
theorem NavO.keep (Hw : ∀ b y, w.cell? b = some y → isSl y → w1.cell? b = some y) {o : Nat} {x : Ob} {p : List (Nat × Nat)} {e' : TypeId} {es' : List (List D)} {v2 : Value} (h : NavO P w gh o x p (.row false e' es') v2) (hs : isSl v2) {q : List (Nat × Nat)} {e : TypeId} {es : List (List D)} {i j : Nat} {c0 c : Value} (hq : subO x q = some (.row false e es)) (hc : cellAt es i j = some (.sc c0)) :
    ∃ es'', NavO P w1 gh o (setO x q (.row false e (setCellAt es i j (.sc c)))) p (.row false e' es'') v2 ∧ es''.length = es'.length := by
  cases x with
  | row e0 es0 =>
    simp only [NavO] at h
    obtain ⟨es'', g1, g2⟩ := h.keep Hw hs (c := c) (show subD (.row false e0 es0) q = _ from hq) hc rfl
    refine ⟨es'', ?_, g2⟩
    cases q with
    | nil =>
      simp only [subO, subD, Option.some.injEq, D.row.injEq, true_and] at hq
      obtain ⟨rfl, rfl⟩ := hq
      exact g1
    | cons ij q => exact g1
  | box cs =>
    cases p with
    | nil => exact h.elim
    | cons a1 p =>
      obtain ⟨ai, aj⟩ := a1
      obtain ⟨d1, v1, h1, h2, h3⟩ := h
      cases q with
      | nil => simp [subO] at hq
      | cons b1 q =>
        obtain ⟨bi, bj⟩ := b1
        simp only [subO, Option.bind_eq_some_iff] at hq
        obtain ⟨dq, hdq, hq⟩ := hq
        have hw1 := Hw _ _ h2 (h3.head hs)
        have hbl := (List.getElem?_eq_some_iff.1 hdq).1
        have e0 : cs.getD bj .dead = dq := by simp [List.getD, hdq]
        simp only [setO, e0]
        by_cases he : bj = aj
        · subst he
          rw [hdq] at h1
          cases h1
          obtain ⟨es'', g1, g2⟩ := h3.keep Hw hs (c := c) hq hc rfl
          exact ⟨es'', ⟨_, v1, List.getElem?_set_self hbl, hw1, g1⟩, g2⟩
        · exact ⟨es', ⟨d1, v1, by rw [List.getElem?_set_ne he]; exact h1, hw1, h3.moveS Hw hs⟩, rfl⟩
/-- What a slot holds stays known. -/
theorem VR.keep {o : Nat} {x x' : Ob} {F : Nat → Prop} (h : VR P w gh ob v u) (ho : look ob o = some x) (hob' : ∀ o', look ob' o' = if o' = o then some x' else look ob o')
    (hl : ∀ cs, x = .box cs → ∃ cs', x' = .box cs') (hn : ∀ p e es v2, NavO P w gh o x p (.row false e es) v2 → isSl v2 → ∃ es', NavO P w1 gh o x' p (.row false e es') v2 ∧ es'.length = es.length)
    (hob : ∀ o y, look ob o = some y → ObR P w gh o y) (hF : ∀ o' y k, o' ≠ o → look ob o' = some y → gh.F o' k → w1.heap[k]? = w.heap[k]?) (hS : ∀ k, gh.S k → w1.heap[k]? = w.heap[k]?) :
    VR P w1 (gh.upd o (gh.hv o) (gh.bb o) (gh.bo o) F) ob' v u := by
  obtain ⟨g1, g2, g3⟩ := gh.upd_self o F
  induction h with
  | dead => exact .dead
  | und => exact .und
  | sc h => exact .sc h
  | nil => exact .nil
  | imm h => exact .imm (h.move hS)
  | @ref o' n p y e es A c hx hnv hle =>
    by_cases e1 : o' = o
    · subst e1
      rw [ho] at hx; cases hx
      obtain ⟨es', n1, n2⟩ := hn p e es _ hnv trivial
      refine VR.ref (e := e) (es := es') (A := A) (c := c) (by rw [hob', if_pos rfl]) ?_ (by omega)
      rw [n2]
      exact n1.ghc g1 g2 g3
    · exact .ref (by rw [hob', if_neg e1]; exact hx) (((hob o' y hx).navO hnv (fun k hk => hF o' y k e1 hx hk)).ghc g1 g2 g3) hle
  | @bp o' j cs hx =>
    by_cases e1 : o' = o
    · subst e1
      rw [ho] at hx; cases hx
      obtain ⟨cs', rfl⟩ := hl cs rfl
      have := VR.bp (P := P) (w := w1) (gh := gh.upd o' (gh.hv o') (gh.bb o') (gh.bo o') F) (ob := ob') (o := o') (j := j) (cs := cs') (by rw [hob', if_pos rfl])
      rwa [g2, g3] at this
    · have := VR.bp (P := P) (w := w1) (gh := gh.upd o (gh.hv o) (gh.bb o) (gh.bo o) F) (ob := ob') (o := o') (j := j) (cs := cs) (by rw [hob', if_neg e1]; exact hx)
      rwa [g2, g3] at this
  | @rp o' i j p y e es ad c hx hnv =>
    by_cases e1 : o' = o
    · subst e1
      rw [ho] at hx; cases hx
      obtain ⟨es', n1, n2⟩ := hn p e es _ hnv trivial
      refine VR.rp (e := e) (es := es') (ad := ad) (c := c) (by rw [hob', if_pos rfl]) ?_
      rw [n2]
      exact n1.ghc g1 g2 g3
    · exact .rp (by rw [hob', if_neg e1]; exact hx) (((hob o' y hx).navO hnv (fun k hk => hF o' y k e1 hx hk)).ghc g1 g2 g3)
  | ip U hs h => exact .ip U hs fun q d hd => ⟨(cell_same (x := ⟨_, _, none⟩) (hS _ hs)).trans (h q d hd).1, (h q d hd).2.move hS⟩
  | clo h => exact .clo (h.move hS (fun _ hk => hk))
  | agg hl' h1 h ih => exact .agg hl' h1 ih
  | tup hl' h ih => exact .tup hl' ih
  | cond ht hf ih => exact .cond ih hf

theorem storeK_sound (h : Rep P C No st a w gh) {o : Oper} {t : TypeId} {x y : Operand} {K : St → Prop} (ho : o.op = .store t x y) (hdst : o.dst = none) (hox : (st.ev x).ok) (hoy : (st.ev y).ok)
    (hk : aStoreK P st t (st.ev x).str (st.ev y).str K) : Comes1 P C o a w K := by
  unfold aStoreK at hk
  split at hk
  case h_2 => exact hk.elim
  rename_i o1 p i j c hpv hvv
  split at hk
  case h_2 => exact hk.elim
  rename_i x1 hx1
  split at hk
  case h_2 => exact hk.elim
  rename_i e es hsub
  obtain ⟨hi, hj, ht1, hD, hV, hk⟩ := hk
  have hp := h.use x hox
  have hy := h.use y hoy
  rw [hpv] at hp
  rw [hvv] at hy
  have hye : a.eval y = c := hy.sc_inv
  obtain ⟨v', F', n1, n2, n3, n4, n5⟩ := (h.obs o1 _ hx1).up hsub
  have hpv' : ∃ ad cc, v' = .slice (some ad) es.length cc ∧ a.eval x = .pointer (some ⟨ad.block, ad.off + (i * szT P e + j), none⟩) := by
    generalize a.eval x = z at hp
    cases hp with
    | rp hx hn =>
      rw [hx1] at hx; cases hx
      obtain ⟨e1, e2⟩ := hn.fn n1
      cases e1
      exact ⟨_, _, e2.symm, rfl⟩
  obtain ⟨ad, cc, rfl, hpv'⟩ := hpv'
  obtain ⟨k0, m0, hce⟩ : ∃ k0 m0, cellAt es i j = some (.sc (.int k0 m0)) := by
    unfold isIntD at hD
    split at hD
    · rename_i k0 m0 hh; exact ⟨k0, m0, hh⟩
    · exact hD.elim
  obtain ⟨k1, m1, rfl⟩ : ∃ k1 m1, c = .int k1 m1 := by
    unfold isIntV at hV
    split at hV
    · exact ⟨_, _, rfl⟩
    · exact hV.elim
  have hone : (Value.int k1 m1).oneCell' = true := by
    rw [hye] at hy
    cases hy with
    | sc h => exact h
  have hcells : (Value.int k1 m1).cells.toList = [Value.int k1 m1] := by rw [cells_one hone]
  have hsz1 : (Value.int k1 m1).cells.size = 1 := by rw [cells_one hone]; rfl
  obtain ⟨F1, s1, s2, s3, s4, s5⟩ := n2.store (g := 0) (ds := [D.sc (.int k1 m1)]) (us := [Value.int k1 m1]) (j := j) (G := fun _ _ => False) hi (by simpa using hj) rfl (by simp [hone]) (fun q d hd => by
    cases q with
    | zero => simp at hd; subst hd; exact .sc hone
    | succ q => simp at hd) (fun _ _ _ _ _ hk => hk.elim) (fun _ _ _ hk => hk.elim) (fun k hk => h.nS o1 _ k hx1 (n3 k hk))
  have hse : es.set i (setL (es.getD i []) j [D.sc (.int k1 m1)]) = setCellAt es i j (.sc (.int k1 m1)) := rfl
  rw [hse] at s1
  let w1 := w.setCells ad.block (ad.off + (i * szT P e + j)) [Value.int k1 m1]
  have hu := n5 w1 e (setCellAt es i j (.sc (.int k1 m1))) F1 (fun k hk => setCells_heap _ _ _ w k (fun e' => by subst e'; exact h.nS o1 _ _ hx1 (n3 _ s3) hk))
    (fun k hk hk' => setCells_heap _ _ _ w k (fun e' => by subst e'; exact hk' s3)) s1 (fun k hk hF => (s2 k hk).elim id (fun ⟨q, hq, hG'⟩ => hG'.elim))
  have hne : ∀ k, k ≠ ad.block → w1.heap[k]? = w.heap[k]? := fun k hk => setCells_heap ad.block _ _ w k hk
  have hbF : gh.F o1 ad.block := n3 _ s3
  have hmay : C.w0.heap.size ≤ ad.block ∨ ∀ f, C.may ad.block f := by
    cases x1 with
    | row e' es' => exact h.wrR o1 e' es' _ hx1 hbF
    | box cs' => exact h.wrB o1 cs' _ hx1 hbF (n4 cs' _ rfl s3)
  have hFo : ∀ o' y' k, o' ≠ o1 → look st.ob o' = some y' → gh.F o' k → w1.heap[k]? = w.heap[k]? := fun o' y' k hne' hy' hk' => hne k (fun e' => by
    subst e'; exact hne' (h.dis o' o1 y' x1 _ hy' hx1 hk' hbF))
  have hSo : ∀ k, gh.S k → w1.heap[k]? = w.heap[k]? := fun k hk => hne k (fun e' => by subst e'; exact h.nS o1 x1 _ hx1 hbF hk)
  let F2 : Nat → Prop := fun k => (gh.F o1 k ∧ ¬ F' k) ∨ F1 k
  have hr2 := h.swap (w1 := w1) (F := F2) (X' := No) hx1 (hu.2 rfl (by simp)) (by simp only [w1]; rw [setCells_size]; exact Nat.le_refl _) hFo hSo
    (World.keptBut_setCells ad.block _ _ w (fun q hq => ⟨ad.block, _, rfl, hmay.imp id (fun hh => hh _)⟩)) hu.1 (fun k hk => Or.inl (by
      rcases hk with ⟨hk, _⟩ | hk
      · exact hk
      · exact (s2 k hk).elim (n3 k) (fun ⟨_, _, hG'⟩ => hG'.elim))) (fun k hk => hk.elim) (fun _ _ _ hk => hk.elim)
  -- the cell that is written held a number
  have hold : w.cell? ⟨ad.block, ad.off + (i * szT P e + j), none⟩ = some (.int k0 m0) := by
    cases n2 with
    | row xs H own hszz h1 hx dis nb =>
      have hlt := off_lt hi (show j < szT P e by omega)
      obtain ⟨g, cap, he, hcc, hm, hcell, _⟩ := ownsRow_cell own (by omega)
      cases he
      have hv := hx i j _ hce
      have h2 := (hcell _ hlt).trans (getD_of_lt (by rw [own.1]; exact hlt))
      try simp only [Nat.zero_add] at h2
      have hq : xs.getD (i * szT P e + j) undef = .int k0 m0 := by
        generalize H i j = G0 at hv
        generalize xs.getD (i * szT P e + j) undef = z at hv ⊢
        cases hv; rfl
      rw [hq] at h2
      simpa using h2
  have Hw : ∀ b y, w.cell? b = some y → isSl y → w1.cell? b = some y := fun b y hb hs => by
    rw [← hb]
    refine World.cell?_setCells_out ad.block [Value.int k1 m1] _ w b (fun hb1 hb2 => ?_)
    by_cases hoff : b.off = ad.off + (i * szT P e + j)
    · exfalso
      have e1 : b = ⟨ad.block, ad.off + (i * szT P e + j), none⟩ := by
        cases b; simp_all
      rw [e1, hold] at hb
      cases hb
      exact hs
    · simp only [List.length_singleton]; omega
  obtain ⟨g1, g2, g3⟩ := gh.upd_self o1 F2
  refine ⟨.skip, w1, ?_, Or.inr ⟨rfl, _, gh.upd o1 (gh.hv o1) (gh.bb o1) (gh.bo o1) F2, hk, ?_⟩⟩
  · have hth : w.there ad.block (ad.off + (i * szT P e + j)) (a.eval y).cells.size := by rw [hye, hsz1]; simpa using s5 0 (by simp)
    have := run_storeAt (P := P) w ad.block (ad.off + (i * szT P e + j)) t (a.eval y) hth (by rw [ht1, hye, hsz1]) (by omega) (by rw [hye, cells_one hone]; simp [hone])
    have hw1 : w.setCells ad.block (ad.off + (i * szT P e + j)) (a.eval y).cells.toList = w1 := by rw [hye, hcells]
    rw [hw1] at this
    simp only [execOp, ho, hpv']
    simp [Sem.run_bind, this]
  · have htm : ∀ tt, St.get { st with ob := (o1, setO x1 p (.row false e (setCellAt es i j (.sc (.int k1 m1))))) :: drop st.ob o1 } tt = st.get tt := fun _ => rfl
    have hput : a.put o.dst undef = a := by rw [hdst]; rfl
    rw [hput]
    exact {
      obs := hr2.obs, dis := hr2.dis, sS := hr2.sS, nS := hr2.nS, wrR := hr2.wrR, wrB := hr2.wrB, wrC := hr2.wrC, kept := hr2.kept, pins := hr2.pins
      tms := fun tt => by
        rw [htm]
        refine (h.tms tt).keep (x' := setO x1 p (.row false e (setCellAt es i j (.sc (.int k1 m1))))) hx1 (fun o' => ?_) (fun cs hcs => ?_) (fun p' e' es' v2 hn hs => hn.keep Hw hs hsub hce) h.obs hFo hSo
        · have := look_swap st o1 o' (setO x1 p (.row false e (setCellAt es i j (.sc (.int k1 m1)))))
          unfold St.swap at this
          exact this
        · subst hcs
          cases p with
          | nil => simp [subO] at hsub
          | cons ij p => exact ⟨_, rfl⟩
      nt := hr2.nt, dfs := hr2.dfs, xl := hr2.xl, xS := hr2.xS, xF := hr2.xF, xW := hr2.xW, s0S := hr2.s0S, sZ := hr2.sZ }

theorem opsK_sound (hz : Sized P) {ops : Array Oper} {Q : Exit → Act → World → Prop} : ∀ (l : List Oper) {st : St} {a : Act} {w : World} {gh : Gh}, Rep P C No st a w gh → aOpsK P C ops l st K → (∀ a w, Up P C K a w → Q .normal a w) → wpList P ops Q l a w
  | [], st, a, w, gh, h, hk, hQ => hQ a w ⟨st, gh, hk, h⟩
  | o :: r, st, a, w, gh, h, hk, hQ => by
    have step : (if Region.wanted o (yielded ops a.tmps) then o.wp P a w (Up P C (fun st' => aOpsK P C ops r st' K)) Q else Up P C (fun st' => aOpsK P C ops r st' K) (a.put o.dst undef) w) := by
      unfold aOpsK at hk
      split at hk
      · rename_i t x y hop hdst hg
        obtain ⟨h1, h2, hk⟩ := hk
        have : Region.wanted o (yielded ops a.tmps) = true := by simp [Region.wanted, hg]
        rw [if_pos this]
        exact (storeK_sound h hop hdst h1 h2 hk).wp
      · exact oper_sound (Q := Q) hz h hk.1 hk.2
    unfold wpList
    split
    · rename_i hw
      rw [if_pos hw] at step
      exact Or.inl (Oper.wp_mono (fun a' w' ⟨st', gh', hk', h'⟩ => opsK_sound hz r h' hk' hQ) step)
    · rename_i hw
      rw [if_neg hw] at step
      obtain ⟨st', gh', hk', h'⟩ := step
      exact opsK_sound hz r h' hk' hQ
theorem Tri.regK (hz : Sized P) {id : Nat} {ops : Array Oper} {Q : Exit → St → Prop} (h : aOpsK P C ops ops.toList st (Q .normal)) : Tri P C st (.region id ops false) Q :=
  fun a w gh hR => wp_region_list (opsK_sound (K := Q .normal) hz _ hR h (fun a w h => h))
theorem Tri.ite {c : Operand} {x y : Code} {b : Bool} {Q : Exit → St → Prop} (hok : (st.ev c).ok) (hb : (st.ev c).str = .sc (.bool b)) (h : Tri P C st (cond b x y) Q) : Tri P C st (.cond c x y) Q := fun a w gh hR => by
  have hv := hR.use c hok
  rw [hb] at hv
  cases b with
  | true => exact wp_cond_split (t := true) hv.sc_inv (fun _ => h a w gh hR) (fun hf => by cases hf)
  | false => exact wp_cond_split (t := false) hv.sc_inv (fun hf => by cases hf) (fun _ => h a w gh hR)
theorem Tri.blk {id : Nat} {c : Code} {Q : Exit → St → Prop} (h : Tri P C st c (Exit.blk id Q)) : Tri P C st (.block id c) Q := fun a w gh hR => wp_block (Code.wp_mono (fun e a' w' hq => by
  cases e with
  | exit j =>
    obtain ⟨st', gh', hk, hR'⟩ := hq
    simp only [Exit.inBlock]
    simp only [Exit.blk] at hk
    split
    · rename_i hj; rw [if_pos hj] at hk; exact ⟨st', gh', hk, hR'⟩
    · rename_i hj; rw [if_neg hj] at hk; exact ⟨st', gh', hk, hR'⟩
  | _ => exact hq) (h a w gh hR))
end
attribute [go_sem] aOpsK aStoreK isIntD isIntV
end Go.Proofs.Ytldniggehdpheaa.AW
