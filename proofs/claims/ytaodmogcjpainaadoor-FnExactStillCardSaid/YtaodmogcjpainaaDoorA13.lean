/- A row made of elements; what is written through a pointer; what is appended. No condition. -/
import Derived.Test.YtaodmogcjpainaaDoorA12
namespace Go.Proofs.YtaodmogcjpainaaDoor.AW
open Go.RowKit
set_option linter.unusedSimpArgs false
set_option linter.unusedVariables false
section
variable {P : Program} {w w1 : World} {C : Cx} {X : Nat → Prop} {gh : Gh} {st : St} {a : Act} {v : V} {u : Value} {ob : List (Nat × Ob)}

theorem toD_nt (v : V) : (toD st v).2.1.nt = st.nt := by
  unfold toD
  split <;> try rfl
  · split <;> rfl
  · split
    · split <;> rfl
    · rfl
theorem toDs_nt : ∀ (vs : List V) (st : St), (toDs st vs).2.1.nt = st.nt
  | [], st => rfl
  | v :: vs, st => (toDs_nt vs _).trans (toD_nt v)
theorem toDss_nt : ∀ (vs : List (List V)) (st : St), (toDss st vs).2.1.nt = st.nt
  | [], st => rfl
  | v :: vs, st => (toDss_nt vs _).trans (toDs_nt v st)

theorem flats_get : ∀ {vs : List V} {fs : List (List V)}, flats vs = some fs → fs.length = vs.length ∧ ∀ (i : Nat) (v : V), vs[i]? = some v → ∃ f, fs[i]? = some f ∧ flatV v = some f
  | [], fs, h => by
    simp only [flats, Option.some.injEq] at h
    subst h
    exact ⟨rfl, fun i v hv => by simp at hv⟩
  | v :: vs, fs, h => by
    simp only [flats, Option.bind_eq_some_iff, Option.map_eq_some_iff] at h
    obtain ⟨x, hx, r, hr, rfl⟩ := h
    obtain ⟨h1, h2⟩ := flats_get hr
    refine ⟨by simp [h1], fun i y hy => ?_⟩
    cases i with
    | zero => simp at hy; subst hy; exact ⟨x, rfl, hx⟩
    | succ i => exact h2 i y (by simpa using hy)

theorem pairs_range : ∀ (l : List (Nat × Value)) (k : Nat), l.map (·.1) = List.range' k l.length → l = ((l.map (·.2)).zipIdx k).map fun x => (x.2, x.1)
  | [], k, _ => rfl
  | (i, v) :: l, k, h => by
    simp only [List.map_cons, List.length_cons, List.range'_succ, List.cons.injEq] at h
    obtain ⟨rfl, h⟩ := h
    have := pairs_range l (i + 1) h
    simp only [List.map_cons, List.zipIdx_cons]
    rw [← this]

theorem buildSlice_sound (h : Rep P C No st a w gh) {o : Oper} {t : TypeId} {len d : Nat} {parts : Array (Nat × Operand)} {K : St → Prop} (ho : o.op = .buildSlice t len parts) (hd : o.dst = some d) (hlt : d < st.nt)
    (hok : ∀ p ∈ parts.toList, (st.ev p.2).ok) (hk : aBuildSlice P C st t len d (parts.toList.map (·.1)) (parts.toList.map fun p => (st.ev p.2).str) K) (hpos : Sized P) : Comes1 P C o a w K := by
  unfold aBuildSlice at hk
  split at hk
  case h_2 => exact hk.elim
  rename_i e fs hel hfl
  obtain ⟨hix, hsz, hz, hsmall, hs, hp, hk⟩ := hk
  replace hsz := lensAre_mem hsz
  have hu := elT_some hel
  have hsp := hpos t e hel
  obtain ⟨i, hi⟩ : ∃ i, P.info? e = some i := by
    cases hq : P.info? e with
    | some i => exact ⟨i, rfl⟩
    | none => unfold szT at hsp; simp [hq] at hsp
  have hsi : i.size = szT P e := by unfold szT; simp [hi]
  obtain ⟨hfl1, hfl2⟩ := flats_get hfl
  have hplen : parts.toList.length = len := by
    have := congrArg List.length hix
    simpa using this
  -- the values
  let vals := parts.toList.map fun p => a.eval p.2
  have hval : ∀ (i : Nat) (p : Nat × Operand), parts.toList[i]? = some p → ∃ f, fs[i]? = some f ∧ (a.eval p.2).cells.size = szT P e ∧ (∀ x ∈ (a.eval p.2).cells, x.oneCell' = true) ∧ ∀ j x, f[j]? = some x → VR P w gh st.ob x ((a.eval p.2).cells.toList.getD j undef) := by
    intro i p hip
    obtain ⟨f, hf, hff⟩ := hfl2 i (st.ev p.2).str (by simp [hip])
    obtain ⟨g1, g2, g3⟩ := flat_sound (h.use p.2 (hok p (List.mem_of_getElem? hip))) hff
    exact ⟨f, hf, by rw [g1]; exact hsz f (List.mem_of_getElem? hf), g2, g3⟩
  have hvs : ∀ v ∈ vals, v.cells.size = szT P e := by
    intro v hv
    obtain ⟨p, hp', rfl⟩ := List.mem_map.1 hv
    obtain ⟨i, hi', rfl⟩ := List.getElem_of_mem hp'
    obtain ⟨f, _, h2, _⟩ := hval i _ (List.getElem?_eq_getElem hi')
    exact h2
  have hvl : vals.length = len := by simp [vals, hplen]
  have hpairs : (parts.map fun (p : Nat × Operand) => (p.1, a.eval p.2)).toList = (vals.zipIdx 0).map fun x => (x.2, x.1) := by
    have := pairs_range (parts.toList.map fun p => (p.1, a.eval p.2)) 0 (by
      rw [List.map_map, List.length_map, hplen, ← List.range_eq_range']
      exact hix)
    rw [List.map_map] at this
    rw [Array.toList_map]
    exact this
  have hrun : (Instr.buildSlice t len (parts.map fun (p : Nat × Operand) => (p.1, a.eval p.2))).run P w = .ok (.slice (some ⟨w.heap.size, 0, none⟩) len len) (w.alloc (.cells (vals.flatMap fun v => v.cells.toList).toArray e)) := by
    by_cases hlen : 0 < len
    · obtain ⟨zc, hz⟩ := Option.isSome_iff_exists.1 (hz hlen)
      obtain ⟨i', z, hi', hzz, _⟩ := zero_info hz
      rw [hi] at hi'; cases hi'
      have hfill := Great.fill_whole hsp vals ((Array.range (len * i.size)).map (z.cells[· % z.cells.size]!)) hvs (by simp [hvl, hsi])
      exact run_buildSlice (P := P) w t e len (parts.map fun (p : Nat × Operand) => (p.1, a.eval p.2)) _ i z hu hi hzz (by rw [hsi]; omega) (by rw [hsi]; exact Nat.mul_ne_zero (by omega) (by omega)) (by rw [hpairs, hsi]; rw [hsi] at hfill; exact hfill)
    · have h0 : len = 0 := by omega
      subst h0
      have hv0 : vals = [] := List.eq_nil_of_length_eq_zero hvl
      have hp0 : (parts.map fun (p : Nat × Operand) => (p.1, a.eval p.2)).toList = [] := by rw [hpairs, hv0]; rfl
      rw [hv0]
      have hp1 : (parts.map fun (p : Nat × Operand) => (p.1, a.eval p.2)) = #[] := Array.toList_inj.1 hp0
      rw [hp1]
      simp [Instr.buildSlice, run_underlying hu, sizeOf, typeInfo, hi, newRow, Instr.fill, show Array.range 0 = #[] from rfl]
  -- what goes in
  obtain ⟨gh1, G, hr, hS, hq, hdl, hdlen, how, hGX, hdis, _⟩ := toDss_sound (uss := vals.map fun v => v.cells.toList) h (fun i' f hf j x hx => by
    have hil : i' < parts.toList.length := by
      have := (List.getElem?_eq_some_iff.1 hf).1
      rw [hfl1, List.length_map] at this; exact this
    obtain ⟨f', hf', _, _, h3⟩ := hval i' _ (List.getElem?_eq_getElem hil)
    rw [hf] at hf'; cases hf'
    have e1 : (vals.map fun v => v.cells.toList).getD i' [] = (a.eval (parts.toList[i'].2)).cells.toList := by
      simp [vals, List.getD, List.getElem?_eq_getElem hil]
    rw [e1]; exact h3 j x hx) hs
  have hfsl : fs.length = len := by rw [hfl1, List.length_map, hplen]
  have hesl : (toDss st fs).2.2.length = len := by rw [hdl, hfsl]
  have hchunk : ∀ l ∈ (toDss st fs).2.2, l.length = szT P e := by
    intro l hl
    obtain ⟨i', hi', rfl⟩ := List.getElem_of_mem hl
    have hif : i' < fs.length := by omega
    obtain ⟨ds, h1, h2⟩ := hdlen i' _ (List.getElem?_eq_getElem hif)
    rw [List.getElem?_eq_getElem hi'] at h1; cases h1
    rw [h2]; exact hsz _ (List.getElem_mem hif)
  have hcl : (vals.flatMap fun v => v.cells.toList).toArray.size = len * szT P e := by
    have := Great.flat_get hsp vals hvs
    have key : ∀ (vs : List Value), (∀ v ∈ vs, v.cells.size = szT P e) → (vs.flatMap fun v => v.cells.toList).length = vs.length * szT P e := by
      intro vs
      induction vs with
      | nil => intro _; simp
      | cons v vs ih =>
        intro hv
        simp only [List.flatMap_cons, List.length_append, List.length_cons, Nat.add_mul, Nat.one_mul, Array.length_toList]
        rw [ih (fun x hx => hv x (List.mem_cons_of_mem _ hx)), hv v List.mem_cons_self]; omega
    simp only [List.size_toArray]
    rw [key vals hvs, hvl]
  have hcell : ∀ i' j, i' < len → j < szT P e → (vals.flatMap fun v => v.cells.toList).getD (i' * szT P e + j) undef = ((vals.map fun v => v.cells.toList).getD i' []).getD j undef := by
    intro i' j hi' hj
    have h0 := Great.flat_get hsp vals hvs (i' * szT P e + j)
    have e1 : (i' * szT P e + j) / szT P e = i' := by rw [Nat.mul_comm, Nat.mul_add_div hsp]; simp [Nat.div_eq_of_lt hj]
    have e2 : (i' * szT P e + j) % szT P e = j := by rw [Nat.mul_comm, Nat.mul_add_mod]; exact Nat.mod_eq_of_lt hj
    rw [e1, e2] at h0
    simp only [List.getD, h0, List.getElem?_map]
    rw [List.getElem?_eq_getElem (by omega)]
    simp
  obtain ⟨gh', hrep, hS', hhv⟩ := hr.madeRow (d := anon d) (cells := (vals.flatMap fun v => v.cells.toList).toArray) (e := e) (es := (toDss st fs).2.2) (G := G) hp (by rw [hcl, hesl]) (by rw [hesl]; unfold maxLen; have := Nat.le_mul_of_pos_right len hsp; omega) hchunk
    (fun x hx => by
      simp only [List.mem_flatMap] at hx
      obtain ⟨v, hv, hx⟩ := hx
      obtain ⟨p, hp', rfl⟩ := List.mem_map.1 hv
      obtain ⟨i', hi', rfl⟩ := List.getElem_of_mem hp'
      obtain ⟨f, _, _, h3, _⟩ := hval i' _ (List.getElem?_eq_getElem hi')
      exact h3 x (by simpa using hx))
    (fun i' j c hc => by
      have hil := cellAt_lt hc
      have hjl := cellAt_len hc hchunk
      rw [hesl] at hil
      have h0 := how i' j c hc
      rw [hS]
      simp only [hcell i' j hil hjl]
      exact h0)
    (fun i' j c k hc hk => Or.inr ⟨i', j, c, hc, hk⟩) hdis
  refine ⟨.value (.slice (some ⟨w.heap.size, 0, none⟩) len len), w.alloc (.cells (vals.flatMap fun v => v.cells.toList).toArray e), ?_, Or.inl ⟨_, rfl, _, gh', hk, ?_⟩⟩
  · simp only [execOp, ho, Sem.run_bind]
    rw [hrun]; rfl
  · rw [hd]
    refine (hrep.less (X' := No) (fun k hk => hk.elim)).set (by simp only [St.fresh, St.put, St.kill]; rw [toDss_nt]; exact hlt) ?_
    exact VR.whole (fresh_look _ (anon d) _) (by rw [hhv, hesl]) (by rw [hesl]; exact Nat.le_refl _)
end
end Go.Proofs.YtaodmogcjpainaaDoor.AW
