/- Any argument that can be read as data opens into data that is looked at; a contract of a statement's function gives the call. No condition. -/
import Derived.Test.YtaodmogcjpainaaDoorA28
import Derived.Deep.Slices
import Derived.SizedLaws
import Derived.OpenShut
import Derived.ChangeOld
import Derived.Below
namespace Go.Proofs.YtaodmogcjpainaaDoor.AW
open Go.RowKit
set_option linter.unusedSimpArgs false
set_option linter.unusedVariables false

/-- Cells as they are looked at. -/
def RoL (P : Program) (w : World) (ds : List D) (cs : List Value) : Prop := cs.length = ds.length ∧ ∀ j d, ds[j]? = some d → Ro P w (fun k => k < w.heap.size) d (cs.getD j undef)

/-- A type's reading opens into data. -/
structure Opens {α : Type} (P : Program) (t : TypeId) (f : α → List D) (ok : α → Prop) : Prop where
  sz : ∀ a, (f a).length = P.cellsOf t
  out : ∀ {H : Type} {enc : TypeId × Value → H} {w : World} {base : Nat} {spare : Nat → Bool} {held : Bool} {fuel : Nat} {cs : List Value} {x : DataW H × List MemPlace},
    DataW.trod enc P w base spare held fuel t cs = some x → (∀ n ∈ x.1.weights P t, n ≤ reachBytes) → ∃ a : α, RoL P w (f a) cs ∧ ok a

theorem roL_one {P : Program} {w : World} {v : Value} (h : v.oneCell' = true) : RoL P w [.sc v] [v] := by
  refine ⟨rfl, fun j d hd => ?_⟩
  cases j with
  | zero => simp at hd; subst hd; exact .sc h
  | succ j => simp at hd

theorem opens_int {P : Program} {t : TypeId} {k : IntKind} (ht : P.underlying t = some (.int k)) (hc : P.cellsOf t = 1) : Opens P t (fun n : Int => [D.sc (.int k n)]) (fun n => (Lit.int k n).wf = true) where
  sz := fun _ => hc.symm
  out := by
    intro H enc w base spare held fuel cs x h _
    cases fuel with
    | zero => simp [DataW.trod] at h
    | succ n =>
      unfold DataW.trod at h
      rw [ht] at h
      split at h <;> try (first | contradiction | (rename_i h1; cases h1))
      split at h
      · rename_i hh
        obtain ⟨rfl, hw⟩ := hh
        exact ⟨_, roL_one rfl, hw⟩
      · cases h

theorem opens_bool {P : Program} {t : TypeId} (ht : P.underlying t = some .bool) (hc : P.cellsOf t = 1) : Opens P t (fun b : Bool => [D.sc (.bool b)]) (fun _ => True) where
  sz := fun _ => hc.symm
  out := by
    intro H enc w base spare held fuel cs x h _
    cases fuel with
    | zero => simp [DataW.trod] at h
    | succ n =>
      unfold DataW.trod at h
      rw [ht] at h
      split at h <;> try (first | contradiction | (rename_i h1; cases h1))
      exact ⟨_, roL_one rfl, trivial⟩

theorem opens_string {P : Program} {t : TypeId} (ht : P.underlying t = some .string) (hc : P.cellsOf t = 1) : Opens P t (fun s : ByteArray => [D.sc (.string s)]) (fun s => s.size ≤ 140737488351232) where
  sz := fun _ => hc.symm
  out := by
    intro H enc w base spare held fuel cs x h hw
    cases fuel with
    | zero => simp [DataW.trod] at h
    | succ n =>
      unfold DataW.trod at h
      rw [ht] at h
      split at h <;> try (first | contradiction | (rename_i h1; cases h1))
      split at h
      · cases h
        refine ⟨_, roL_one rfl, ?_⟩
        have := hw _ (by simp only [DataW.weights, List.mem_singleton]; rfl)
        simpa [reachBytes] using this
      · cases h

theorem weightsAll_mem {H : Type} {P : Program} {e : TypeId} : ∀ {l : List (DataW H)} {d : DataW H}, d ∈ l → ∀ n ∈ d.weights P e, n ∈ DataW.weightsAll P e l
  | [], _, h, _, _ => by simp at h
  | a :: l, d, h, n, hn => by
    simp only [DataW.weightsAll, List.mem_append]
    rcases List.mem_cons.1 h with rfl | h
    · exact Or.inl hn
    · exact Or.inr (weightsAll_mem h n hn)

theorem list_of {α : Type} {n : Nat} {p : Nat → α → Prop} (h : ∀ i, i < n → ∃ x, p i x) : ∃ l : List α, l.length = n ∧ ∀ i x, l[i]? = some x → p i x := by
  induction n with
  | zero => exact ⟨[], rfl, fun i x hx => by simp at hx⟩
  | succ n ih =>
    obtain ⟨l, hl, hp⟩ := ih (fun i hi => h i (Nat.lt_succ_of_lt hi))
    obtain ⟨y, hy⟩ := h n (Nat.lt_succ_self n)
    refine ⟨l ++ [y], by simp [hl], fun i x hx => ?_⟩
    by_cases hi : i < l.length
    · rw [List.getElem?_append_left hi] at hx
      exact hp i x hx
    · rw [List.getElem?_append_right (by omega)] at hx
      have : i = n := by
        by_cases h0 : i - l.length = 0
        · omega
        · rw [List.getElem?_eq_none (by simp; omega)] at hx; cases hx
      subst this
      rw [hl, Nat.sub_self] at hx
      cases hx
      exact hy

theorem cell_spot {w : World} {a : Addr} {v : Value} (h : w.cell? a = some v) : a.spot = none ∧ a.block < w.heap.size := by
  refine ⟨?_, World.block_lt_of_cell? w _ h⟩
  unfold World.cell? at h
  split at h
  · by_cases hs : a.spot.isSome = true
    · rw [if_pos hs] at h; cases h
    · cases hq : a.spot with
      | none => rfl
      | some y => rw [hq] at hs; simp at hs
  · cases h

theorem opens_slice {α : Type} {P : Program} {t e : TypeId} {f : α → List D} {ok : α → Prop} (ht : P.underlying t = some (.slice e)) (hc : P.cellsOf t = 1) (he : 0 < P.cellsOf e) (O : Opens P e f ok) :
    Opens P t (fun l : List α => [D.row true e (l.map f)]) (fun l => l.length * P.bytesOf e ≤ 140737488351232 ∧ ∀ x ∈ l, ok x) where
  sz := fun _ => hc.symm
  out := by
    intro H enc w base spare held fuel cs x h hw
    rcases DataW.trod_slice ht h with ⟨rfl, rfl⟩ | ⟨a, len, cap, elems, rest, n, rfl, rfl, rfl, hb, hl, hm, hlen, hel, hsp, hns⟩
    · refine ⟨[], ⟨rfl, fun j d hd => ?_⟩, by simp, by simp⟩
      cases j with
      | zero => simp at hd; subst hd; exact ro_empty
      | succ j => simp at hd
    · have step : ∀ i, i < len → ∃ y, ∃ c, w.cells? base (a.add (i * P.cellsOf e)) (P.cellsOf e) = some c ∧ RoL P w (f y) c ∧ ok y := by
        intro i hi
        have h1 := hel i hi
        rw [List.getElem?_eq_getElem (by omega)] at h1
        obtain ⟨c, hc1, hc2⟩ := Option.bind_eq_some_iff.1 h1
        obtain ⟨y, hy, hok⟩ := O.out hc2 (fun n hn => hw n (by
          simp only [DataW.weights, ht, List.mem_cons, List.mem_append]
          exact Or.inr (Or.inl (weightsAll_mem (List.mem_map.2 ⟨_, List.getElem_mem _, rfl⟩) n hn))))
        exact ⟨y, c, hc1, hy, hok⟩
      obtain ⟨l, hll, hp⟩ := list_of step
      have hln : (l.map f).length = len := by simp [hll]
      have hspot : 0 < l.length → a.spot = none ∧ a.block < w.heap.size := fun hl0 => by
        obtain ⟨c, hc1, _, _⟩ := hp 0 _ (List.getElem?_eq_getElem hl0)
        obtain ⟨_, hcl, hcc⟩ := World.cells?_some hc1
        have h2 := hcc 0 he
        rw [List.getElem?_eq_getElem (by omega)] at h2
        have e1 : (a.add (0 * P.cellsOf e)).add 0 = a := by simp [Addr.add]
        rw [e1] at h2
        exact cell_spot h2
      have hadd : a.spot = none → ∀ n, a.add n = ⟨a.block, a.off + n, none⟩ := fun hs n => by
        unfold Addr.add
        split
        · rename_i h0; subst h0; rw [← hs]; rfl
        · rfl
      have hcell : ∀ i j d, cellAt (l.map f) i j = some d → ∃ u, w.cell? ⟨a.block, a.off + (i * szT P e + j), none⟩ = some u ∧ Ro P w (fun k => k < w.heap.size) d u := by
        intro i j d hd
        have hi := cellAt_lt hd
        unfold cellAt at hd
        simp only [List.getElem?_map, Option.bind_eq_some_iff, Option.map_eq_some_iff] at hd
        obtain ⟨_, ⟨y, hy, rfl⟩, hd⟩ := hd
        obtain ⟨c, hc1, hc2, _⟩ := hp i y hy
        obtain ⟨_, hcl, hcc⟩ := World.cells?_some hc1
        have hj : j < P.cellsOf e := by rw [← O.sz y]; exact (List.getElem?_eq_some_iff.1 hd).1
        have h2 := hcc j hj
        rw [Deep.add_add, hadd (hspot (by simp at hi; omega)).1] at h2
        have hjc : j < c.length := by omega
        refine ⟨c.getD j undef, ?_, hc2.2 j d hd⟩
        have e1 : szT P e = P.cellsOf e := rfl
        rw [e1, h2]; exact getD_of_lt hjc
      refine ⟨l, ⟨rfl, fun j d hd => ?_⟩, ?_, ?_⟩
      · cases j with
        | succ j => simp at hd
        | zero =>
          simp at hd; subst hd
          show Ro P w _ _ (Value.slice (some a) len cap)
          have key : Ro P w (fun k => k < w.heap.size) (.row true e (l.map f)) (.slice (some a) (l.map f).length cap) := by
            refine .row (fun i j => (w.cell? ⟨a.block, a.off + (i * szT P e + j), none⟩).getD undef) (by omega) hm (fun x hx => ?_) (fun h0 => ?_) (fun i j d hd => ?_)
            · obtain ⟨y, _, rfl⟩ := List.mem_map.1 hx
              exact O.sz y
            · obtain ⟨s1, s2⟩ := hspot (by simpa using h0)
              refine ⟨a, rfl, s1, s2, fun i j d hd => ?_⟩
              obtain ⟨u, hu, _⟩ := hcell i j d hd
              rw [hu]; rfl
            · obtain ⟨u, hu, hr⟩ := hcell i j d hd
              rw [hu]; exact hr
          rw [hln] at key
          exact key
      · have := hw _ (by simp only [DataW.weights, ht, List.mem_cons]; exact Or.inl rfl)
        simp only [List.length_map, hlen] at this
        rw [hll]
        have h2 : len * P.bytesOf e ≤ (len + rest.length) * P.bytesOf e := Nat.mul_le_mul_right _ (by omega)
        unfold reachBytes at this
        omega
      · intro x hx
        obtain ⟨i, hi, rfl⟩ := List.getElem_of_mem hx
        obtain ⟨c, _, _, hok⟩ := hp i _ (List.getElem?_eq_getElem hi)
        exact hok

/-- The fields of a struct from one on, in a row. -/
structure OpensF {α : Type} (P : Program) (fs : List Field) (off : Nat) (f : α → List D) (ok : α → Prop) : Prop where
  sz : ∀ a, (f a).length = (fs.map fun f => P.cellsOf f.type).sum
  out : ∀ {H : Type} {enc : TypeId × Value → H} {w : World} {base : Nat} {spare : Nat → Bool} {held : Bool} {fuel : Nat} {cs : List Value} {xs : List (DataW H × List MemPlace)},
    cs.length = off + (fs.map fun f => P.cellsOf f.type).sum → xs.length = fs.length →
    (∀ (i : Nat) (f : Field), fs[i]? = some f → DataW.trod enc P w base spare held fuel f.type ((cs.drop f.offset).take (P.cellsOf f.type)) = xs[i]?) →
    (∀ n ∈ DataW.weightsEach P (fs.map (·.type)) (xs.map (·.1)), n ≤ reachBytes) → ∃ a : α, RoL P w (f a) (cs.drop off) ∧ ok a

theorem opensF_one {α : Type} {P : Program} {fd : Field} {off : Nat} {f : α → List D} {ok : α → Prop} (ho : fd.offset = off) (O : Opens P fd.type f ok) : OpensF P [fd] off f ok where
  sz := fun a => by simp [O.sz]
  out := by
    intro H enc w base spare held fuel cs xs hl hx h hw
    have h0 := h 0 fd rfl
    obtain ⟨x, rfl⟩ : ∃ x, xs = [x] := by
      match xs, hx with
      | [x], _ => exact ⟨x, rfl⟩
    rw [ho, List.take_of_length_le (by simp at hl ⊢; omega)] at h0
    exact O.out h0 (fun n hn => hw n (by simpa [DataW.weightsEach] using hn))

theorem roL_append {P : Program} {w : World} {ds ds' : List D} {cs cs' : List Value} (h : RoL P w ds cs) (h' : RoL P w ds' cs') : RoL P w (ds ++ ds') (cs ++ cs') := by
  refine ⟨by simp [h.1, h'.1], fun j d hd => ?_⟩
  by_cases hj : j < ds.length
  · rw [List.getElem?_append_left hj] at hd
    have := h.2 j d hd
    have e : (cs ++ cs').getD j undef = cs.getD j undef := by simp [List.getD, List.getElem?_append_left (show j < cs.length by rw [h.1]; exact hj)]
    rw [e]; exact this
  · rw [List.getElem?_append_right (by omega)] at hd
    have := h'.2 _ d hd
    have e : (cs ++ cs').getD j undef = cs'.getD (j - ds.length) undef := by simp [List.getD, List.getElem?_append_right (show cs.length ≤ j by rw [h.1]; omega), h.1]
    rw [e]; exact this

theorem opensF_cons {α β : Type} {P : Program} {fd g : Field} {fs : List Field} {off : Nat} {f : α → List D} {f' : β → List D} {ok : α → Prop} {ok' : β → Prop} (ho : fd.offset = off) (O : Opens P fd.type f ok)
    (OF : OpensF P (g :: fs) (off + P.cellsOf fd.type) f' ok') : OpensF P (fd :: g :: fs) off (fun x : α × β => f x.1 ++ f' x.2) (fun x => ok x.1 ∧ ok' x.2) where
  sz := fun x => by
    rw [List.length_append, O.sz, OF.sz]; simp
  out := by
    intro H enc w base spare held fuel cs xs hl hx h hw
    obtain ⟨x, ys, rfl⟩ : ∃ x ys, xs = x :: ys := by
      match xs, hx with
      | x :: ys, _ => exact ⟨x, ys, rfl⟩
    have h0 := h 0 fd rfl
    rw [ho] at h0
    obtain ⟨a, ha, oka⟩ := O.out h0 (fun n hn => hw n (by
      simp only [List.map_cons, DataW.weightsEach, List.mem_append]
      exact Or.inl hn))
    obtain ⟨b, hb, okb⟩ := OF.out (xs := ys) (cs := cs) (by simp only [List.map_cons, List.sum_cons] at hl ⊢; omega) (by simpa using hx) (fun i f' hf => h (i + 1) f' hf) (fun n hn => hw n (by
      simp only [List.map_cons, DataW.weightsEach, List.mem_append] at hn ⊢
      exact Or.inr hn))
    refine ⟨(a, b), ?_, oka, okb⟩
    have := roL_append ha hb
    rwa [← List.drop_drop, List.take_append_drop] at this

theorem opens_struct {α : Type} {P : Program} {t : TypeId} {fs : Array Field} {f : α → List D} {ok : α → Prop} (ht : P.underlying t = some (.struct fs))
    (hs : P.cellsOf t = (fs.toList.map fun f => P.cellsOf f.type).sum) (O : OpensF P fs.toList 0 f ok) : Opens P t f ok where
  sz := fun a => by rw [O.sz, hs]
  out := by
    intro H enc w base spare held fuel cs x h hw
    obtain ⟨xs, n, rfl, rfl, hl, hx, hf⟩ := DataW.trod_struct ht h
    obtain ⟨a, ha, hok⟩ := O.out (cs := cs) (xs := xs) (by rw [hl, hs]; omega) (by simpa using hx) (fun i f hi => hf i f (by simpa using hi)) (fun n hn => hw n (by
      simp only [DataW.weights, ht]
      exact hn))
    exact ⟨a, by simpa using ha, hok⟩

/-- A Lean structure by its fields. -/
theorem opens_iso {α β : Type} {P : Program} {t : TypeId} {d : α → List D} {d' : β → List D} {ok : α → Prop} (f : β → α) (g : α → β) (hfg : ∀ a, f (g a) = a) (hd : ∀ b, d' b = d (f b)) (O : Opens P t d ok) : Opens P t d' (fun x => ok (f x)) where
  sz := fun b => by rw [hd]; exact O.sz _
  out := by
    intro H enc w base spare held fuel cs x h hw
    obtain ⟨a, ha, hok⟩ := O.out h hw
    exact ⟨g a, by rw [hd, hfg]; exact ha, by show ok (f (g a)); rw [hfg]; exact hok⟩

/-- What is known of a whole argument. -/
theorem opens_arg {α H : Type} {enc : TypeId × Value → H} {P : Program} {t : TypeId} {f : α → List D} {ok : α → Prop} (O : Opens P t f ok) {w : World} {base : Nat} {spare : Nat → Bool} {held : Bool} {v : Value} {dd : DataW H} {ps : List MemPlace}
    (h : DataW.Trod enc P w base spare held t v dd ps) (hw : ∀ n ∈ dd.weights P t, n ≤ reachBytes) : ∃ a : α, RoL P w (f a) v.cells.toList ∧ ok a := by
  obtain ⟨fuel, h⟩ := h
  exact O.out h hw

theorem weights_of_each {H : Type} {P : Program} {ts : List TypeId} {ds : List (DataW H)} (h : (DataW.weightsEach P ts ds).all (· ≤ reachBytes) = true) {j : Nat} {t : TypeId} {d : DataW H} (ht : ts[j]? = some t) (hd : ds[j]? = some d) : ∀ n ∈ d.weights P t, n ≤ reachBytes := by
  intro n hn
  have := List.all_eq_true.1 h n (DataW.weights_mem_each ht hd n hn)
  simpa using this

/-- What lies in memory as the call begins. -/
def gh0 (w : World) : Gh := ⟨fun k => k < w.heap.size, fun _ => undef, fun _ => 0, fun _ => 0, fun _ _ => False⟩

def toVD : D → V
  | .sc v => .sc v
  | .row _ e es => .imm e es
  | .dead => .dead

theorem ro_VR {P : Program} {w : World} {d : D} {u : Value} (h : Ro P w (fun k => k < w.heap.size) d u) (hd : shD d = d) : VR P w (gh0 w) [] (toVD d) u := by
  cases h with
  | dead h => exact .dead
  | sc h => exact .sc h
  | row U hl hm hsz hA hU =>
    simp only [shD, D.row.injEq, true_and] at hd
    refine .imm ?_
    rename_i sh e es A c
    have hs : true = sh := hd.1
    subst hs
    exact .row U hl hm hsz hA hU

/-- An argument of struct type. -/
theorem arg_agg {P : Program} {w : World} {r : Reach} {base : Nat} {t : TypeId} {v : Value} {fs : Array Field} {ds : List D} (ht : P.underlying t = some (.struct fs)) (hv : Value.okWide P w r base t v) (h : RoL P w ds v.cells.toList) (hsh : ∀ d ∈ ds, shD d = d) :
    VR P w (gh0 w) [] (.agg (ds.map toVD)) v := by
  unfold Value.okWide at hv
  rw [ht] at hv
  obtain ⟨c, rfl, _, _⟩ := hv
  obtain ⟨h1, h2⟩ := h
  simp only [Value.cells] at h1 h2
  refine .agg (by rw [List.length_map, ← h1]; simp) (fun u hu => ?_) (fun i x hx => ?_)
  · obtain ⟨i, hi, rfl⟩ := Array.getElem_of_mem hu
    have hd : i < ds.length := by rw [← h1]; simpa using hi
    have := (h2 i _ (List.getElem?_eq_getElem hd)).one
    simpa [List.getD, hi] using this
  · rw [List.getElem?_map, Option.map_eq_some_iff] at hx
    obtain ⟨d, hd, rfl⟩ := hx
    have := ro_VR (h2 i d hd) (hsh d (List.mem_of_getElem? hd))
    rwa [agetD] at this

/-- An argument of one cell. -/
theorem arg_one {P : Program} {w : World} {v : Value} {d : D} (h : RoL P w [d] v.cells.toList) (hne : ∀ cs, v ≠ .agg cs) (hsh : shD d = d) : VR P w (gh0 w) [] (toVD d) v := by
  have h2 := h.2 0 d rfl
  have : v.cells.toList.getD 0 undef = v := by
    unfold Value.cells
    split
    · exact absurd rfl (hne _)
    · rfl
  rw [this] at h2
  exact ro_VR h2 hsh

theorem not_agg {P : Program} {w : World} {r : Reach} {base : Nat} {t : TypeId} {v : Value} {d : TypeDesc} (ht : P.underlying t = some d) (hd : d = .string ∨ d = .bool ∨ (∃ k, d = .int k) ∨ ∃ e, d = .slice e) (hv : Value.okWide P w r base t v) : ∀ cs, v ≠ .agg cs := by
  intro cs h
  subst h
  unfold Value.okWide at hv
  rw [ht] at hv
  rcases hd with rfl | rfl | ⟨k, rfl⟩ | ⟨e, rfl⟩
  all_goals
    unfold Cell.okWide at hv
    simp [ht, Cell.ok] at hv

theorem argsV_ro (ts : List V) : ∀ k, argsV k (ts.map Arg.ro) = ts := by
  induction ts with
  | nil => intro k; rfl
  | cons t r ih => intro k; simp only [List.map_cons, argsV, ih]
theorem argsOb_ro (ts : List V) : ∀ k, argsOb k (ts.map Arg.ro) = [] := by
  induction ts with
  | nil => intro k; rfl
  | cons t r ih => intro k; simp only [List.map_cons, argsOb, ih]

/-- A statement's function answers true, and turns nothing that was there. -/
theorem calls_of_sound {P : Program} {f : FuncId} {ts : List V} (hs : Sound P f (ts.map .ro) (fun rs _ => rs = [(false, [cB true])])) {w : World} {us : Array Value} (hlen : us.size = ts.length) (hv : ∀ i t, ts[i]? = some t → VR P w (gh0 w) [] t (us.getD i undef)) :
    Calls P f us w (fun e w' => e = .returned (.bool true) ∧ w.keptBut w' (fun _ => False)) := by
  let C : Cx := ⟨w, fun k => k < w.heap.size, fun _ _ => False, fun o => if isPin o = true then some (undef, 0, 0) else none, fun _ => True⟩
  have hrep : Rep P C No ⟨us.size, zipT 0 (argsV 0 (ts.map Arg.ro)), argsOb 0 (ts.map Arg.ro)⟩ ⟨us, []⟩ w (gh0 w) := by
    rw [argsV_ro, argsOb_ro]
    exact {
      obs := fun o b h => by cases h
      dis := fun o o' b b' k h => by cases h
      sS := fun k h => h
      nS := fun o b k h => by cases h
      wrR := fun o e es k h => by cases h
      wrB := fun o cs k h => by cases h
      wrC := fun o cs j h => by cases h
      kept := World.keptBut_refl w _
      pins := fun o x _ h => absurd rfl h
      tms := fun t => by
        unfold St.get
        simp only [look_zipT, Nat.zero_le, if_true, Nat.sub_zero]
        cases hq : ts[t]? with
        | none => exact .dead
        | some v => exact hv t v hq
      nt := Nat.le_refl _
      dfs := rfl
      xl := fun k h => h.elim
      xS := fun k h => h.elim
      xF := fun o b k h => by cases h
      xW := fun k h => h.elim
      s0S := fun k h => h
      sZ := fun k h => trivial }
  refine (hs.2 (fun _ => undef) (fun _ => (0, 0)) C w (gh0 w) us rfl (fun o ho => by simp [C, ho]) (fun o ho => by simp [C, ho]) (fun k _ => trivial) (by rw [argsV_ro]; exact hlen) hrep).mono (fun e w' hh => ?_)
  obtain ⟨vs, rs, st', a', gh', G, rfl, rfl, hres, hr⟩ := hh
  refine ⟨?_, ?_⟩
  · obtain ⟨v, rfl⟩ : ∃ v, vs = [v] := by
      have := hres.len
      match vs, this with
      | [v], _ => exact ⟨v, rfl⟩
    have h1 := hres.one 0 _ v rfl rfl rfl
    have h2 := hres.ow 0 _ v 0 _ rfl rfl rfl
    rw [cells_one h1] at h2
    have h3 : v = .bool true := by
      have : (#[v] : Array Value).toList.getD 0 undef = v := rfl
      rw [this] at h2
      generalize G 0 0 = F at h2
      cases h2; rfl
    rw [h3]; rfl
  · have hk := hr.kept
    have e : (fun p : MemPlace => ∃ b f, p = .cell b f ∧ C.may b f) = fun _ => False := by
      funext p
      exact propext ⟨fun ⟨b, f, _, h⟩ => h, fun h => h.elim⟩
    rw [e] at hk
    exact hk

/-- What was there reads as it did. -/
theorem kept_trod {H : Type} {enc : TypeId × Value → H} {P : Program} {t : TypeId} (hl : laidOutB P = true) (hr : P.readableRec t = true) (hrow : t < P.types.size) {W W' : World} {v : Value} {d : DataW H} {ps : List MemPlace}
    (h : DataW.Trod enc P W 0 (fun _ => true) true t v d ps) (hb : W.keptBut W' (fun _ => False)) (hlt : ∀ x ∈ ps, x.block < W.heap.size) :
    DataW.Trod enc P W' 0 (fun b => decide (b < W.heap.size)) true t v d ps :=
  WideElems.Trod_stays hl hr hrow h (fun x hx => by
    have := keptBut_heap hb (hlt x hx) (fun _ h => h) (fun h => h)
    cases x with
    | cell b o => exact World.cell?_of_block (w := W) this
    | map b => exact this) (fun x hx => by simpa using hlt x hx)

theorem kept_any {W W' : World} (h : W.keptBut W' (fun _ => False)) (may : MemPlace → Prop) : W.keptBut W' may := by
  refine ⟨h.1, h.2.1, fun i hi => ?_⟩
  have := keptBut_heap h hi (fun _ h => h) (fun h => h)
  rw [this]
  split <;> simp_all
end Go.Proofs.YtaodmogcjpainaaDoor.AW
