/- Any argument that can be read as data, of whole numbers, bools, strings, structs and slices of these, opens into a plain Lean value that the print's kinds speak of. No condition beyond the row's own. -/
import Derived.Deep.Slices
import Derived.SizedLaws
import Derived.Carry
import Derived.OpenShut
import Derived.Test.YtlldadbgeomnnaaWWords
namespace Go.Proofs.Ytlldadbgeomnnaa.Open
open Go.RowKit Go.Proofs.YtlldadbgeomnnaaW.PrintWords

/-- A type's reading opens into its kind. -/
structure Opens {α : Type} (P : Program) (t : TypeId) (d : Kd α) (ok : α → Prop) : Prop where
  sz : d.sz = P.cellsOf t
  out : ∀ {H : Type} {enc : TypeId × Value → H} {w : World} {base : Nat} {spare : Nat → Bool} {held : Bool} {fuel : Nat} {cs : List Value} {x : DataW H × List MemPlace},
    DataW.trod enc P w base spare held fuel t cs = some x → (∀ n ∈ x.1.weights P t, n ≤ reachBytes) → ∃ a : α, d.K w a cs ∧ ok a

theorem opens_int {P : Program} {t : TypeId} {k : IntKind} (ht : P.underlying t = some (.int k)) (hc : P.cellsOf t = 1) : Opens P t (Kd.int k) (fun n => (Lit.int k n).wf = true) where
  sz := hc.symm
  out := by
    intro H enc w base spare held fuel cs x h _
    cases fuel with
    | zero => simp [DataW.trod] at h
    | succ n =>
      unfold DataW.trod at h
      rw [ht] at h
      split at h <;> try (first | contradiction | (rename_i h1; cases h1))
      split at h
      · rename_i hh
        obtain ⟨rfl, hw⟩ := hh
        exact ⟨_, rfl, hw⟩
      · cases h

theorem opens_bool {P : Program} {t : TypeId} (ht : P.underlying t = some .bool) (hc : P.cellsOf t = 1) : Opens P t Kd.bool (fun _ => True) where
  sz := hc.symm
  out := by
    intro H enc w base spare held fuel cs x h _
    cases fuel with
    | zero => simp [DataW.trod] at h
    | succ n =>
      unfold DataW.trod at h
      rw [ht] at h
      split at h <;> try (first | contradiction | (rename_i h1; cases h1))
      exact ⟨_, rfl, trivial⟩

theorem opens_string {P : Program} {t : TypeId} (ht : P.underlying t = some .string) (hc : P.cellsOf t = 1) : Opens P t Kd.string (fun s => s.size ≤ 140737488351232) where
  sz := hc.symm
  out := by
    intro H enc w base spare held fuel cs x h hw
    cases fuel with
    | zero => simp [DataW.trod] at h
    | succ n =>
      unfold DataW.trod at h
      rw [ht] at h
      split at h <;> try (first | contradiction | (rename_i h1; cases h1))
      split at h
      · cases h
        refine ⟨_, rfl, ?_⟩
        have := hw _ (by simp only [DataW.weights, List.mem_singleton]; rfl)
        simpa [reachBytes] using this
      · cases h

theorem weightsAll_mem {H : Type} {P : Program} {e : TypeId} : ∀ {l : List (DataW H)} {d : DataW H}, d ∈ l → ∀ n ∈ d.weights P e, n ∈ DataW.weightsAll P e l
  | [], _, h, _, _ => by simp at h
  | a :: l, d, h, n, hn => by
    simp only [DataW.weightsAll, List.mem_append]
    rcases List.mem_cons.1 h with rfl | h
    · exact Or.inl hn
    · exact Or.inr (weightsAll_mem h n hn)

theorem list_of {α : Type} {n : Nat} {p : Nat → α → Prop} (h : ∀ i, i < n → ∃ x, p i x) : ∃ l : List α, l.length = n ∧ ∀ i x, l[i]? = some x → p i x := by
  induction n with
  | zero => exact ⟨[], rfl, fun i x hx => by simp at hx⟩
  | succ n ih =>
    obtain ⟨l, hl, hp⟩ := ih (fun i hi => h i (Nat.lt_succ_of_lt hi))
    obtain ⟨y, hy⟩ := h n (Nat.lt_succ_self n)
    refine ⟨l ++ [y], by simp [hl], fun i x hx => ?_⟩
    by_cases hi : i < l.length
    · rw [List.getElem?_append_left hi] at hx
      exact hp i x hx
    · rw [List.getElem?_append_right (by omega)] at hx
      have : i = n := by
        by_cases h0 : i - l.length = 0
        · omega
        · rw [List.getElem?_eq_none (by simp; omega)] at hx; cases hx
      subst this
      rw [hl, Nat.sub_self] at hx
      cases hx
      exact hy

theorem opens_slice {α : Type} {P : Program} {t e : TypeId} {d : Kd α} {ok : α → Prop} (ht : P.underlying t = some (.slice e)) (hc : P.cellsOf t = 1) (O : Opens P e d ok) :
    Opens P t (Kd.slice e d) (fun l => l.length * P.bytesOf e ≤ 140737488351232 ∧ ∀ x ∈ l, ok x) where
  sz := hc.symm
  out := by
    intro H enc w base spare held fuel cs x h hw
    rcases DataW.trod_slice ht h with ⟨rfl, rfl⟩ | ⟨a, len, cap, elems, rest, n, rfl, rfl, rfl, hb, hl, hm, hlen, hel, hsp, hns⟩
    · exact ⟨[], ⟨none, 0, rfl, Nat.le_refl _, Kd.C_nil d w⟩, by simp, by simp⟩
    · have step : ∀ i, i < len → ∃ y, ∃ c, w.cells? base (a.add (i * P.cellsOf e)) (P.cellsOf e) = some c ∧ d.K w y c ∧ ok y := by
        intro i hi
        have h1 := hel i hi
        rw [List.getElem?_eq_getElem (by omega)] at h1
        obtain ⟨c, hc1, hc2⟩ := Option.bind_eq_some_iff.1 h1
        obtain ⟨y, hy, hok⟩ := O.out hc2 (fun n hn => hw n (by
          simp only [DataW.weights, ht, List.mem_cons, List.mem_append]
          exact Or.inr (Or.inl (weightsAll_mem (List.mem_map.2 ⟨_, List.getElem_mem _, rfl⟩) n hn))))
        exact ⟨y, c, hc1, hy, hok⟩
      obtain ⟨l, hll, hp⟩ := list_of step
      have hcap : len ≤ 9223372036854775807 := by unfold maxLen at hm; omega
      refine ⟨l, ⟨some a, cap, by rw [hll], by omega, ?_⟩, ?_, ?_⟩
      · refine ⟨rfl, by omega, fun _ => ⟨a, rfl, fun j p hj => ?_⟩⟩
        obtain ⟨c, hc1, hy, _⟩ := hp j p hj
        obtain ⟨_, hcl, hcc⟩ := World.cells?_some hc1
        refine ⟨c, by rw [hcl, O.sz], hy, fun i u hu => ?_⟩
        have hi : i < P.cellsOf e := by
          rw [← hcl]
          exact (List.getElem?_eq_some_iff.1 hu).1
        have := hcc i hi
        rw [Deep.add_add] at this
        rw [O.sz, this, hu]
      · have := hw _ (by simp only [DataW.weights, ht, List.mem_cons]; exact Or.inl rfl)
        simp only [List.length_map, hlen] at this
        rw [hll]
        have h2 : len * P.bytesOf e ≤ (len + rest.length) * P.bytesOf e := Nat.mul_le_mul_right _ (by omega)
        unfold reachBytes at this
        omega
      · intro x hx
        obtain ⟨i, hi, rfl⟩ := List.getElem_of_mem hx
        obtain ⟨c, _, _, hok⟩ := hp i _ (List.getElem?_eq_getElem hi)
        exact hok

/-- The fields of a struct from one on, in a row. -/
structure OpensF {α : Type} (P : Program) (fs : List Field) (off : Nat) (d : Kd α) (ok : α → Prop) : Prop where
  sz : d.sz = (fs.map fun f => P.cellsOf f.type).sum
  out : ∀ {H : Type} {enc : TypeId × Value → H} {w : World} {base : Nat} {spare : Nat → Bool} {held : Bool} {fuel : Nat} {cs : List Value} {xs : List (DataW H × List MemPlace)},
    cs.length = off + (fs.map fun f => P.cellsOf f.type).sum → xs.length = fs.length →
    (∀ (i : Nat) (f : Field), fs[i]? = some f → DataW.trod enc P w base spare held fuel f.type ((cs.drop f.offset).take (P.cellsOf f.type)) = xs[i]?) →
    (∀ n ∈ DataW.weightsEach P (fs.map (·.type)) (xs.map (·.1)), n ≤ reachBytes) → ∃ a : α, d.K w a (cs.drop off) ∧ ok a

theorem opensF_one {α : Type} {P : Program} {f : Field} {off : Nat} {d : Kd α} {ok : α → Prop} (ho : f.offset = off) (O : Opens P f.type d ok) : OpensF P [f] off d ok where
  sz := by simp [O.sz]
  out := by
    intro H enc w base spare held fuel cs xs hl hx h hw
    have h0 := h 0 f rfl
    obtain ⟨x, rfl⟩ : ∃ x, xs = [x] := by
      match xs, hx with
      | [x], _ => exact ⟨x, rfl⟩
    rw [ho, List.take_of_length_le (by simp at hl ⊢; omega)] at h0
    exact O.out h0 (fun n hn => hw n (by simpa [DataW.weightsEach] using hn))

theorem opensF_cons {α β : Type} {P : Program} {f g : Field} {fs : List Field} {off : Nat} {d : Kd α} {d' : Kd β} {ok : α → Prop} {ok' : β → Prop} (ho : f.offset = off) (O : Opens P f.type d ok)
    (OF : OpensF P (g :: fs) (off + P.cellsOf f.type) d' ok') : OpensF P (f :: g :: fs) off (Kd.pair d d') (fun x => ok x.1 ∧ ok' x.2) where
  sz := by
    show d.sz + d'.sz = _
    rw [O.sz, OF.sz]; simp
  out := by
    intro H enc w base spare held fuel cs xs hl hx h hw
    obtain ⟨x, ys, rfl⟩ : ∃ x ys, xs = x :: ys := by
      match xs, hx with
      | x :: ys, _ => exact ⟨x, ys, rfl⟩
    have h0 := h 0 f rfl
    rw [ho] at h0
    obtain ⟨a, ha, oka⟩ := O.out h0 (fun n hn => hw n (by
      simp only [List.map_cons, DataW.weightsEach, List.mem_append]
      exact Or.inl hn))
    obtain ⟨b, hb, okb⟩ := OF.out (xs := ys) (cs := cs) (by simp only [List.map_cons, List.sum_cons] at hl ⊢; omega) (by simpa using hx) (fun i f' hf => h (i + 1) f' hf) (fun n hn => hw n (by
      simp only [List.map_cons, DataW.weightsEach, List.mem_append] at hn ⊢
      exact Or.inr hn))
    refine ⟨(a, b), ⟨_, _, ?_, ha, hb⟩, oka, okb⟩
    rw [← List.drop_drop, List.take_append_drop]

theorem opens_struct {α : Type} {P : Program} {t : TypeId} {fs : Array Field} {d : Kd α} {ok : α → Prop} (ht : P.underlying t = some (.struct fs))
    (hs : P.cellsOf t = (fs.toList.map fun f => P.cellsOf f.type).sum) (O : OpensF P fs.toList 0 d ok) : Opens P t d ok where
  sz := by rw [O.sz, hs]
  out := by
    intro H enc w base spare held fuel cs x h hw
    obtain ⟨xs, n, rfl, rfl, hl, hx, hf⟩ := DataW.trod_struct ht h
    obtain ⟨a, ha, hok⟩ := O.out (cs := cs) (xs := xs) (by rw [hl, hs]; omega) (by simpa using hx) (fun i f hi => hf i f (by simpa using hi)) (fun n hn => hw n (by
      simp only [DataW.weights, ht]
      exact hn))
    exact ⟨a, by simpa using ha, hok⟩

/-- A Lean structure by its fields. -/
theorem opens_iso {α β : Type} {P : Program} {t : TypeId} {d : Kd α} {ok : α → Prop} (f : β → α) (g : α → β) (hfg : ∀ a, f (g a) = a) (O : Opens P t d ok) : Opens P t (Kd.iso d f) (fun x => ok (f x)) where
  sz := O.sz
  out := by
    intro H enc w base spare held fuel cs x h hw
    obtain ⟨a, ha, hok⟩ := O.out h hw
    exact ⟨g a, by show d.K w (f (g a)) cs; rw [hfg]; exact ha, by show ok (f (g a)); rw [hfg]; exact hok⟩

/-- What is known of a whole argument. -/
theorem opens_arg {α H : Type} {enc : TypeId × Value → H} {P : Program} {t : TypeId} {d : Kd α} {ok : α → Prop} (O : Opens P t d ok) {w : World} {base : Nat} {spare : Nat → Bool} {held : Bool} {v : Value} {dd : DataW H} {ps : List MemPlace}
    (h : DataW.Trod enc P w base spare held t v dd ps) (hw : ∀ n ∈ dd.weights P t, n ≤ reachBytes) : ∃ a : α, d.K w a v.cells.toList ∧ ok a := by
  obtain ⟨fuel, h⟩ := h
  exact O.out h hw

theorem weights_of_each {H : Type} {P : Program} {ts : List TypeId} {ds : List (DataW H)} (h : (DataW.weightsEach P ts ds).all (· ≤ reachBytes) = true) {j : Nat} {t : TypeId} {d : DataW H} (ht : ts[j]? = some t) (hd : ds[j]? = some d) : ∀ n ∈ d.weights P t, n ≤ reachBytes := by
  intro n hn
  have := List.all_eq_true.1 h n (DataW.weights_mem_each ht hd n hn)
  simpa using this

/-- A value of struct type is its cells. -/
theorem agg_of {P : Program} {w : World} {r : Reach} {base : Nat} {t : TypeId} {v : Value} {fs : Array Field} {cs : List Value} (ht : P.underlying t = some (.struct fs)) (hv : Value.okWide P w r base t v) (hc : v.cells.toList = cs) : v = .agg cs.toArray := by
  unfold Value.okWide at hv
  rw [ht] at hv
  obtain ⟨c, rfl, _, _⟩ := hv
  subst hc
  simp [Value.cells]

/-- A value of one cell that is no struct. -/
theorem one_of {v u : Value} (hc : v.cells.toList = [u]) (h : ∀ cs, v ≠ .agg cs) : v = u := by
  unfold Value.cells at hc
  split at hc
  · exact absurd rfl (h _)
  · simpa using hc

theorem slice_of {P : Program} {w : World} {r : Reach} {base : Nat} {t e : TypeId} {v u : Value} (ht : P.underlying t = some (.slice e)) (hv : Value.okWide P w r base t v) (hc : v.cells.toList = [u]) : v = u := by
  refine one_of hc fun cs h => ?_
  subst h
  unfold Value.okWide at hv
  rw [ht] at hv
  unfold Cell.okWide at hv
  simp [ht, Cell.ok] at hv

theorem string_of {P : Program} {w : World} {r : Reach} {base : Nat} {t : TypeId} {v u : Value} (ht : P.underlying t = some .string) (hv : Value.okWide P w r base t v) (hc : v.cells.toList = [u]) : v = u := by
  refine one_of hc fun cs h => ?_
  subst h
  unfold Value.okWide at hv
  rw [ht] at hv
  unfold Cell.okWide at hv
  simp [ht, Cell.ok] at hv

theorem int_of {P : Program} {w : World} {r : Reach} {base : Nat} {t : TypeId} {k : IntKind} {v u : Value} (ht : P.underlying t = some (.int k)) (hv : Value.okWide P w r base t v) (hc : v.cells.toList = [u]) : v = u := by
  refine one_of hc fun cs h => ?_
  subst h
  unfold Value.okWide at hv
  rw [ht] at hv
  unfold Cell.okWide at hv
  simp [ht, Cell.ok] at hv

theorem bool_of {P : Program} {w : World} {r : Reach} {base : Nat} {t : TypeId} {v u : Value} (ht : P.underlying t = some .bool) (hv : Value.okWide P w r base t v) (hc : v.cells.toList = [u]) : v = u := by
  refine one_of hc fun cs h => ?_
  subst h
  unfold Value.okWide at hv
  rw [ht] at hv
  unfold Cell.okWide at hv
  simp [ht, Cell.ok] at hv

end Go.Proofs.Ytlldadbgeomnnaa.Open
