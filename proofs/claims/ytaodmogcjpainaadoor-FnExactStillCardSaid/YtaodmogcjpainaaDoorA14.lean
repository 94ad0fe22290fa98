/- What is written through a pointer. No condition. -/
import Derived.Test.YtaodmogcjpainaaDoorA13
namespace Go.Proofs.YtaodmogcjpainaaDoor.AW
open Go.RowKit
set_option linter.unusedSimpArgs false
set_option linter.unusedVariables false

def aStore (P : Program) (st : St) (t : TypeId) (pv vv : V) (d : Option Nat) (K : St → Prop) : Prop := match flatV vv with
  | none => False
  | some vs => (toDs st vs).1 ∧ vs.length = szT P t ∧ 0 < szT P t ∧ (match pv with
    | .bp o j => match look (toDs st vs).2.1.ob o with
      | some (.box cs) => j + vs.length ≤ cs.length ∧ ev (b := ⟨K⟩) (setDst ((toDs st vs).2.1.swap o (.box (setL cs j (toDs st vs).2.2))) d .und)
      | _ => False
    | .rp o p i j => match look (toDs st vs).2.1.ob o with
      | some x => match subO x p with
        | some (.row false e es) => look st.ob o = some x ∧ i < es.length ∧ j + vs.length ≤ szT P e ∧ ev (b := ⟨K⟩) (setDst ((toDs st vs).2.1.swap o (setO x p (.row false e (es.set i (setL (es.getD i []) j (toDs st vs).2.2))))) d .und)
        | _ => False
      | none => False
    | _ => False)

section
variable {P : Program} {w w1 : World} {C : Cx} {X : Nat → Prop} {gh : Gh} {st : St} {a : Act} {v : V} {u : Value} {ob : List (Nat × Ob)}

theorem run_storeAt (w : World) (b f : Nat) (t : TypeId) (y : Value) (ht : w.there b f y.cells.size) (hi : szT P t = y.cells.size) (hpos : 0 < szT P t) (h1 : ∀ x ∈ y.cells, x.oneCell' = true) :
    (Instr.storeAt t (.pointer (some ⟨b, f, none⟩)) y).run P w = .ok () (w.setCells b f y.cells.toList) := by
  have := run_storeCells_cells (P := P) b f y.cells.toList 0 w (fun j hj => by simpa using (ht j (by simpa using hj)).1) (fun j hj => by simpa using (ht j (by simpa using hj)).2)
    (fun v hv => h1 v (by simpa using hv))
  simp only [Nat.add_zero] at this
  have hs := run_sizeOf (P := P) hpos w
  rw [hi] at hs
  simp [Instr.storeAt, Instr.sureAddr, storeVar, Sem.run_bind, hs, this]

theorem ObR.up {o : Nat} {x : Ob} {p : List (Nat × Nat)} {e : TypeId} {es : List (List D)} (h : ObR P w gh o x) (hs : subO x p = some (.row false e es)) :
    ∃ v' F', NavO P w gh o x p (.row false e es) v' ∧ Ow P w gh.S (.row false e es) v' F' ∧ (∀ k, F' k → gh.F o k) ∧ (∀ cs k, x = .box cs → F' k → k ≠ gh.bb o) ∧
      ∀ w1 e1 es1 F1, (∀ k, gh.S k → w1.heap[k]? = w.heap[k]?) → (∀ k, gh.F o k → ¬ F' k → w1.heap[k]? = w.heap[k]?) → Ow P w1 gh.S (.row false e1 es1) v' F1 → (∀ k, F1 k → gh.F o k → F' k) →
        ObR P w1 (gh.upd o (gh.hv o) (gh.bb o) (gh.bo o) (fun k => (gh.F o k ∧ ¬ F' k) ∨ F1 k)) o (setO x p (.row false e1 es1)) ∧ (e = e1 → es.length = es1.length → x.like (setO x p (.row false e1 es1))) := by
  cases h with
  | @row e0 es0 h =>
    obtain ⟨v', F', h1, h2, h3, h4⟩ := h.focus (p := p) hs
    refine ⟨v', F', h1, h2, h3, (fun cs k hc => by cases hc), fun w1 e1 es1 F1 hS hF ho hF1 => ?_⟩
    have h5 := h4 w1 (.row false e1 es1) F1 hS hF ho hF1
    cases p with
    | nil =>
      simp only [setD] at h5
      simp only [subO, subD, Option.some.injEq] at hs
      cases hs
      refine ⟨.row (by simpa [Gh.upd, setD] using h5), fun e2 e3 => by simp only [setO, setD, Ob.like]; exact ⟨e2, e3⟩⟩
    | cons ij p =>
      obtain ⟨i, j⟩ := ij
      simp only [setD] at h5
      refine ⟨.row (by simpa [Gh.upd] using h5), fun _ _ => by simp only [setO, setD, Ob.like, length_setCellAt]; exact ⟨trivial, trivial⟩⟩
  | @box cs xs G hb hl h1 hc hx dis nb hF =>
    cases p with
    | nil => simp [subO] at hs
    | cons ij p =>
      obtain ⟨i, j⟩ := ij
      simp only [subO, Option.bind_eq_some_iff] at hs
      obtain ⟨d, hd, hs⟩ := hs
      obtain ⟨v', F', h1', h2', h3', h4'⟩ := (hx j d hd).focus hs
      have hjl := (List.getElem?_eq_some_iff.1 hd).1
      have hj : j < xs.length := by omega
      obtain ⟨g1, g2, g3⟩ : True ∧ True ∧ True := ⟨trivial, trivial, trivial⟩
      refine ⟨v', F', ⟨d, _, hd, (hc j hj).trans (getD_of_lt hj), h1'⟩, h2', fun k hk => (hF k).2 (Or.inr ⟨j, d, hd, h3' k hk⟩), fun _ k _ hk => nb j d k hd (h3' k hk), fun w1 e1 es1 F1 hS hFF ho hF1 => ⟨?_, fun _ _ => by simp [setO, Ob.like]⟩⟩
      have hbF : ¬ F' (gh.bb o) := fun hk => nb j d _ hd (h3' _ hk) rfl
      have hbF1 : ¬ F1 (gh.bb o) := fun hk => hbF (hF1 _ hk ((hF _).2 (Or.inl rfl)))
      have hblk : w1.heap[gh.bb o]? = w.heap[gh.bb o]? := hFF _ ((hF _).2 (Or.inl rfl)) hbF
      have hin := h4' w1 (.row false e1 es1) F1 hS (fun k hk hk' => hFF k ((hF k).2 (Or.inr ⟨j, d, hd, hk⟩)) hk') ho (fun k hk hk' => hF1 k hk ((hF k).2 (Or.inr ⟨j, d, hd, hk'⟩)))
      have e0 : cs.getD j .dead = d := by simp [List.getD, hd]
      simp only [setO, e0]
      let G1 : Nat → Nat → Prop := fun j' k => if j' = j then ((G j k ∧ ¬ F' k) ∨ F1 k) else G j' k
      have far : ∀ j' c k, j' ≠ j → cs[j']? = some c → G j' k → ¬ F' k := fun j' c k hne hc' hk hk' => hne (dis j' j c d k hc' hd hk (h3' k hk'))
      refine .box xs G1 ?_ (by simpa using hl) h1 (fun j' hj' => ?_) (fun j' c hc' => ?_) (fun j1 j2 c1 c2 k hc1 hc2 hk1 hk2 => ?_) (fun j' c k hc' hk => ?_) (fun k => ?_)
      · obtain ⟨cur, ty, hb⟩ := hb
        exact ⟨cur, ty, by simp only [Gh.upd, if_true]; rw [hblk]; exact hb⟩
      · simp only [Gh.upd, if_true]
        exact (cell_same (x := ⟨gh.bb o, _, none⟩) hblk).trans (hc j' hj')
      · by_cases e' : j' = j
        · subst e'
          rw [List.getElem?_set_self hjl] at hc'; cases hc'
          exact hin.congr fun k => by simp only [G1]; rw [if_pos trivial]
        · rw [List.getElem?_set_ne (fun e => e' e.symm)] at hc'
          refine ((hx j' c hc').move (fun k hk => hFF k ((hF k).2 (Or.inr ⟨j', c, hc', hk⟩)) (far j' c k e' hc' hk)) hS).congr fun k => by simp only [G1]; rw [if_neg e']
      · simp only [G1] at hk1 hk2
        have clash : ∀ j' c, j' ≠ j → cs[j']? = some c → G j' k → ((G j k ∧ ¬ F' k) ∨ F1 k) → False := fun j' c hne hc' hk hor => by
          rcases hor with ⟨h, _⟩ | h
          · exact hne (dis j' j c d k hc' hd hk h)
          · exact far j' c k hne hc' hk (hF1 k h ((hF k).2 (Or.inr ⟨j', c, hc', hk⟩)))
        by_cases e1' : j1 = j <;> by_cases e2' : j2 = j
        · omega
        · rw [if_pos e1'] at hk1; rw [if_neg e2'] at hk2
          rw [List.getElem?_set_ne (fun e => e2' e.symm)] at hc2
          exact (clash j2 c2 e2' hc2 hk2 hk1).elim
        · rw [if_neg e1'] at hk1; rw [if_pos e2'] at hk2
          rw [List.getElem?_set_ne (fun e => e1' e.symm)] at hc1
          exact (clash j1 c1 e1' hc1 hk1 hk2).elim
        · rw [if_neg e1'] at hk1; rw [if_neg e2'] at hk2
          rw [List.getElem?_set_ne (fun e => e1' e.symm)] at hc1
          rw [List.getElem?_set_ne (fun e => e2' e.symm)] at hc2
          exact dis j1 j2 c1 c2 k hc1 hc2 hk1 hk2
      · simp only [G1] at hk
        simp only [Gh.upd, if_true]
        by_cases e' : j' = j
        · rw [if_pos e'] at hk
          rcases hk with ⟨hk, _⟩ | hk
          · exact nb j d k hd hk
          · rintro rfl; exact hbF1 hk
        · rw [if_neg e'] at hk
          rw [List.getElem?_set_ne (fun e => e' e.symm)] at hc'
          exact nb j' c k hc' hk
      · simp only [Gh.upd, if_true]
        constructor
        · rintro (⟨hk, hn⟩ | hk)
          · rcases (hF k).1 hk with hk | ⟨j', c, hc', hk⟩
            · exact Or.inl hk
            · by_cases e' : j' = j
              · subst e'
                exact Or.inr ⟨j', _, List.getElem?_set_self hjl, by simp only [G1]; rw [if_pos trivial]; exact Or.inl ⟨hk, hn⟩⟩
              · exact Or.inr ⟨j', c, by rw [List.getElem?_set_ne (fun e => e' e.symm)]; exact hc', by simp only [G1]; rw [if_neg e']; exact hk⟩
          · exact Or.inr ⟨j, _, List.getElem?_set_self hjl, by simp only [G1]; rw [if_pos trivial]; exact Or.inr hk⟩
        · rintro (rfl | ⟨j', c, hc', hk⟩)
          · exact Or.inl ⟨(hF _).2 (Or.inl rfl), hbF⟩
          · simp only [G1] at hk
            by_cases e' : j' = j
            · rw [if_pos e'] at hk
              rcases hk with ⟨hk, hn⟩ | hk
              · exact Or.inl ⟨(hF k).2 (Or.inr ⟨j, d, hd, hk⟩), hn⟩
              · exact Or.inr hk
            · rw [if_neg e'] at hk
              rw [List.getElem?_set_ne (fun e => e' e.symm)] at hc'
              exact Or.inl ⟨(hF k).2 (Or.inr ⟨j', c, hc', hk⟩), far j' c k e' hc' hk⟩

theorem frozen_of_cells {b f : Nat} {cs : Array Value} {T : TypeId} (hb : w.heap[b]? = some (.cells cs T (0, 0))) : w.frozen? ⟨b, f, none⟩ = false := by
  simp [World.frozen?, hb]

theorem setCells_cells (g : Nat) {t : TypeId} : ∀ (us : List Value) (o : Nat) (w : World), (∃ cur, w.heap[g]? = some (.cells cur t (0, 0))) → ∃ cur, (w.setCells g o us).heap[g]? = some (.cells cur t (0, 0))
  | [], o, w, h => h
  | u :: us, o, w, ⟨cur, h⟩ => setCells_cells g us (o + 1) _ ⟨cur.setIfInBounds o u, by simp [World.setCell, Array.getElem?_modify, h]⟩

theorem ObR.storeBox {o j : Nat} {cs : List D} {ds : List D} {us : List Value} {G : Nat → Nat → Prop} (h : ObR P w gh o (.box cs)) (hj : j + ds.length ≤ cs.length) (hl : us.length = ds.length) (h1u : ∀ u ∈ us, u.oneCell' = true)
    (hd : ∀ q d, ds[q]? = some d → Ow P w gh.S d (us.getD q undef) (G q)) (hG : ∀ q q' k, q < ds.length → q' < ds.length → G q k → G q' k → q = q') (hGF : ∀ q k, q < ds.length → G q k → ¬ gh.F o k) (hSF : ∀ k, gh.F o k → ¬ gh.S k) :
    ∃ F1, ObR P (w.setCells (gh.bb o) (gh.bo o + j) us) (gh.upd o (gh.hv o) (gh.bb o) (gh.bo o) F1) o (.box (setL cs j ds)) ∧ (∀ k, F1 k → gh.F o k ∨ ∃ q, q < ds.length ∧ G q k) ∧ gh.F o (gh.bb o) ∧ w.there (gh.bb o) (gh.bo o + j) us.length := by
  cases h with
  | box xs H hb hl' h1 hc hx dis nb hF =>
    have hbF : gh.F o (gh.bb o) := (hF _).2 (Or.inl rfl)
    obtain ⟨cur, ty, hb⟩ := hb
    have hfz : ∀ f, w.frozen? ⟨gh.bb o, f, none⟩ = false := fun f => frozen_of_cells hb
    have hth : w.there (gh.bb o) (gh.bo o + j) us.length := fun q hq => by
      refine ⟨?_, hfz _⟩
      rw [Nat.add_assoc, hc _ (by omega), List.getElem?_eq_getElem (by omega)]; rfl
    let H1 : Nat → Nat → Prop := fun j' k => if j ≤ j' ∧ j' < j + ds.length then G (j' - j) k else H j' k
    have far : ∀ j' d k, cs[j']? = some d → H j' k → gh.F o k := fun j' d k hd' hk => (hF k).2 (Or.inr ⟨j', d, hd', hk⟩)
    refine ⟨fun k => k = gh.bb o ∨ ∃ j' d, (setL cs j ds)[j']? = some d ∧ H1 j' k, ?_, ?_, hbF, hth⟩
    · refine .box (setL xs j us) H1 ?_ (by rw [setL_length, setL_length, hl']) ?_ ?_ ?_ ?_ ?_ ?_
      · simp only [Gh.upd, if_true]
        obtain ⟨cur', hcur⟩ := setCells_cells (gh.bb o) us (gh.bo o + j) w ⟨cur, hb⟩
        exact ⟨cur', ty, hcur⟩
      · intro u hu
        obtain ⟨k, hk, rfl⟩ := List.getElem_of_mem hu
        have := setL_get us xs j k
        rw [List.getElem?_eq_getElem hk] at this
        split at this
        · exact h1u _ (List.mem_of_getElem? this.symm)
        · exact h1 _ (List.mem_of_getElem? this.symm)
      · intro j' hj'
        simp only [Gh.upd, if_true]
        rw [setL_length] at hj'
        rw [setL_get]
        by_cases e : j ≤ j' ∧ j' < j + us.length
        · rw [if_pos ⟨e.1, e.2, hj'⟩]
          have := World.cell?_setCells_in (gh.bb o) us (gh.bo o + j) w (fun q hq => (hth q hq).1) (j' - j) (by omega)
          rw [show gh.bo o + j + (j' - j) = gh.bo o + j' by omega] at this
          rw [this, List.getElem?_eq_getElem (by omega)]
        · rw [if_neg (by omega), ← hc j' hj']
          exact World.cell?_setCells_out (gh.bb o) us (gh.bo o + j) w _ (fun _ _ => by simp only; omega)
      · intro j' d hd'
        rw [setL_get] at hd'
        rw [toArr_getD, setL_get]
        have hjl : j' < cs.length := by
          split at hd'
          · rename_i hh; omega
          · exact (List.getElem?_eq_some_iff.1 hd').1
        by_cases e : j ≤ j' ∧ j' < j + ds.length
        · rw [if_pos ⟨e.1, e.2, hjl⟩] at hd'
          rw [if_pos ⟨e.1, by omega, by omega⟩, ← toArr_getD]
          refine Ow.congr (F := G (j' - j)) ?_ (fun k => by simp only [H1]; rw [if_pos e])
          refine (hd _ d hd').move (fun k hk => setCells_heap (gh.bb o) us _ w k ?_) (fun k hk => setCells_heap (gh.bb o) us _ w k ?_)
          · rintro rfl; exact hGF _ _ (by omega) hk hbF
          · rintro rfl; exact hSF _ hbF hk
        · rw [if_neg (by omega)] at hd'
          rw [if_neg (by omega), ← toArr_getD]
          refine Ow.congr (F := H j') ?_ (fun k => by simp only [H1]; rw [if_neg e])
          refine (hx j' d hd').move (fun k hk => setCells_heap (gh.bb o) us _ w k ?_) (fun k hk => setCells_heap (gh.bb o) us _ w k ?_)
          · rintro rfl; exact nb _ _ _ hd' hk rfl
          · rintro rfl; exact hSF _ hbF hk
      · intro j1 j2 d1 d2 k hd1 hd2 hk1 hk2
        rw [setL_get] at hd1 hd2
        simp only [H1] at hk1 hk2
        by_cases c1 : j ≤ j1 ∧ j1 < j + ds.length <;> by_cases c2 : j ≤ j2 ∧ j2 < j + ds.length
        · rw [if_pos c1] at hk1; rw [if_pos c2] at hk2
          have := hG _ _ k (by omega) (by omega) hk1 hk2
          omega
        · rw [if_pos c1] at hk1; rw [if_neg c2] at hk2; rw [if_neg (by omega)] at hd2
          exact absurd (far j2 d2 k hd2 hk2) (hGF _ k (by omega) hk1)
        · rw [if_neg c1] at hk1; rw [if_neg (by omega)] at hd1; rw [if_pos c2] at hk2
          exact absurd (far j1 d1 k hd1 hk1) (hGF _ k (by omega) hk2)
        · rw [if_neg c1] at hk1; rw [if_neg (by omega)] at hd1; rw [if_neg c2] at hk2; rw [if_neg (by omega)] at hd2
          exact dis j1 j2 d1 d2 k hd1 hd2 hk1 hk2
      · intro j' d k hd' hk
        simp only [Gh.upd, if_true]
        rw [setL_get] at hd'
        simp only [H1] at hk
        by_cases c1 : j ≤ j' ∧ j' < j + ds.length
        · rw [if_pos c1] at hk; rintro rfl; exact hGF _ _ (by omega) hk hbF
        · rw [if_neg c1] at hk; rw [if_neg (by omega)] at hd'; exact nb _ _ _ hd' hk
      · intro k; simp only [Gh.upd, if_true]
    · rintro k (rfl | ⟨j', d, hd', hk⟩)
      · exact Or.inl hbF
      · rw [setL_get] at hd'
        simp only [H1] at hk
        by_cases c1 : j ≤ j' ∧ j' < j + ds.length
        · rw [if_pos c1] at hk; exact Or.inr ⟨_, by omega, hk⟩
        · rw [if_neg c1] at hk; rw [if_neg (by omega)] at hd'; exact Or.inl (far _ _ _ hd' hk)
end
end Go.Proofs.YtaodmogcjpainaaDoor.AW
