/- A row of one's own grows by an append, or cells of it are written. No condition. -/
import Derived.Test.YtaodmogcjpainaaDoorA9
namespace Go.Proofs.YtaodmogcjpainaaDoor.AW
open Go.RowKit
set_option linter.unusedSimpArgs false
set_option linter.unusedVariables false
section
variable {P : Program} {w w1 : World} {C : Cx} {X : Nat → Prop} {gh : Gh} {st : St} {a : Act} {v : V} {u : Value} {ob : List (Nat × Ob)}

theorem keptBut_other {w w' : World} {g : Nat} {may : MemPlace → Prop} (h1 : w'.os = w.os) (h2 : w'.output = w.output) (hb : ∀ k, k < w.heap.size → k ≠ g → w'.heap[k]? = w.heap[k]?)
    (hg : ∀ c t fr, w.heap[g]? = some (.cells c t fr) → ∃ c', w'.heap[g]? = some (.cells c' t fr) ∧ c'.size = c.size) (hc : ∃ c t fr, w.heap[g]? = some (.cells c t fr)) (hm : ∀ f, may (.cell g f)) : w.keptBut w' may := by
  refine ⟨h1, h2, fun i hi => ?_⟩
  by_cases e : i = g
  · subst e
    obtain ⟨c, t, fr, hc⟩ := hc
    obtain ⟨c', hc', hs⟩ := hg c t fr hc
    rw [hc, hc']
    exact ⟨rfl, rfl, hs, fun j hj => absurd (hm j) hj⟩
  · rw [hb i hi e]
    split <;> simp_all

/-- An append onto a row of one's own. -/
theorem append_law (w : World) {t ty e : TypeId} {i : TypeInfo} {z : Value} {size bytes : Nat} (ht : P.underlying t = some (.slice e)) (hi : P.info? e = some i) (hz : i.zero = some z)
    (hsize : i.size = size) (hby : i.bytes = bytes) (hzs : z.cells.size = size) (hsz : 0 < size)
    {v : Value} {n : Nat} {xs : List Value} (hown : w.ownsRow 0 e size v n xs)
    {a : Addr} {m c : Nat} {news : List Value} (hl : news.length = m * size) (hnews : ∀ j u, news[j]? = some u → w.cell? (a.add j) = some u) (h1 : ∀ u ∈ news, u.oneCell' = true)
    (h63 : n + m ≤ maxLen) (hbytes : (n + m) * bytes ≤ 140737488355328) :
    ∃ v' w', (Builtin.append_ #[t, t] ty #[v, .slice (some a) m c]).run P w = .ok v' w' ∧ w'.ownsRow 0 e size v' (n + m) (xs ++ news) ∧ w.heap.size ≤ w'.heap.size ∧ w'.os = w.os ∧ w'.output = w.output ∧
      (∀ k, k < w.heap.size → v.ownBlock ≠ some k → w'.heap[k]? = w.heap[k]?) ∧ (∀ k, v'.ownBlock = some k → v.ownBlock = some k ∨ w.heap.size ≤ k) ∧
      (∀ may : MemPlace → Prop, (∀ g, v.ownBlock = some g → ∀ f, may (.cell g f)) → w.keptBut w' may) := by
  subst hsize
  subst hby
  have hsmall : n + m ≤ 9223372036854775807 := by simp only [maxLen] at h63; omega
  have hlen : (xs ++ news).length = (n + m) * i.size := by rw [List.length_append, hown.1, hl, Nat.add_mul]
  have grown : ∀ (old : Nat), old < n + m →
      (w.drew.alloc (.cells (xs.toArray ++ news.toArray ++ Builtin.zeroCells z.cells (grownCap w (n + m) old e - (n + m))) e)).ownsRow 0 e i.size
        (.slice (some ⟨w.heap.size, 0, none⟩) (n + m) (grownCap w (n + m) old e)) (n + m) (xs ++ news) := by
    intro old ho
    have hge := grownCap_ge w (n + m) old e
    have hcm : grownCap w (n + m) old e ≤ maxLen := grownCap_le_maxLen w (n + m) old e h63
    refine ⟨hlen, .inr ⟨w.heap.size, _, _, rfl, Nat.zero_le _, heap_alloc_new w.drew _, hge, hcm, ?_, ?_⟩⟩
    · simp only [Array.size_append, List.size_toArray, size_zeroCells, hzs, hown.1, hl, ← Nat.add_mul]
      congr 1
      omega
    · simp only [Array.toList_append, List.append_assoc]
      rw [← List.append_assoc, ← hlen]
      exact List.take_left
  have fresh : ∀ (cs : Array Value), w.heap.size ≤ (w.drew.alloc (.cells cs e)).heap.size ∧ (w.drew.alloc (.cells cs e)).os = w.os ∧ (w.drew.alloc (.cells cs e)).output = w.output ∧
      (∀ k, k < w.heap.size → (w.drew.alloc (.cells cs e)).heap[k]? = w.heap[k]?) ∧ (∀ may : MemPlace → Prop, w.keptBut (w.drew.alloc (.cells cs e)) may) := fun cs =>
    ⟨by simp, rfl, rfl, fun k hk => heap_alloc_old w.drew _ k hk, fun may => (World.keptBut_alloc w (.cells cs e) may).congr rfl rfl (fun i hi => by rw [heap_alloc_old w.drew _ i hi, heap_alloc_old w _ i hi]; rfl)⟩
  rcases hown.2 with ⟨rfl, rfl⟩ | ⟨g, cap, cur, rfl, hbg, hg, hnc, hcm, hcs, htake⟩
  · have hx : xs = [] := List.eq_nil_of_length_eq_zero (by simpa using hown.1)
    subst hx
    by_cases hm : m = 0
    · subst hm
      have hn : news = [] := List.eq_nil_of_length_eq_zero (by simpa using hl)
      subst hn
      refine ⟨.slice none 0 0, w, ?_, World.ownsRow_nil w 0 e i.size, Nat.le_refl _, rfl, rfl, fun _ _ _ => rfl, fun k hk => by simp [Value.ownBlock] at hk, fun may _ => World.keptBut_refl w may⟩
      simp [Builtin.append_, run_underlying ht, sizeOf, typeInfo, hi, Builtin.lenOf, Builtin.firstCells, loadCells, loadCellsFrom]
    · have hr := run_append_nil (P := P) w t ty e i z ht hi hz a m c news hl hnews (by omega) (by omega) (by have hb := hbytes; simp only [Nat.zero_add] at hb; omega)
      have hgr := grown 0 (by omega)
      simp only [Nat.zero_add, List.nil_append, Array.empty_append] at hgr ⊢
      obtain ⟨f1, f2, f3, f4, f5⟩ := fresh (news.toArray ++ Builtin.zeroCells z.cells (grownCap w m 0 e - m))
      exact ⟨_, _, hr, hgr, f1, f2, f3, fun k hk _ => f4 k hk, fun k hk => by simp only [Value.ownBlock, Option.some.injEq] at hk; exact Or.inr (by omega), fun may _ => f5 may⟩
  · by_cases hroom : n + m ≤ cap
    · have hfit : n * i.size + news.length ≤ cur.size := by rw [hl, hcs, ← Nat.add_mul]; exact Nat.mul_le_mul_right _ hroom
      have hr := run_append_room (P := P) w t ty e i ht hi g n cap cur hg a m c news hl hnews h1 hroom hfit
      have hsz' : (cur.toList.take (n * i.size) ++ news ++ cur.toList.drop (n * i.size + news.length)).toArray.size = cur.size := by
        simp only [List.size_toArray, List.length_append, List.length_take, List.length_drop, Array.length_toList]
        omega
      refine ⟨_, _, hr, ⟨hlen, .inr ⟨g, cap, _, rfl, hbg, setRow_heap w g cur _ e _ hg, hroom, hcm, by rw [hsz', hcs], ?_⟩⟩, by simp [World.setRow], rfl, rfl, fun k _ hk => setRow_other w g k _ (fun e => hk (by simp [Value.ownBlock, e])), fun k hk => Or.inl hk, fun may hmay => ?_⟩
      · rw [htake, ← hlen]
        exact List.take_left
      · refine keptBut_other (g := g) rfl rfl (fun k _ hk => setRow_other w g k _ hk) (fun c' t' fr' hc' => ?_) ⟨_, _, _, hg⟩ (hmay g rfl)
        rw [hg] at hc'; cases hc'
        exact ⟨_, setRow_heap w g cur _ e _ hg, hsz'⟩
    · have holds : ∀ j u, xs[j]? = some u → w.cell? ((⟨g, 0, none⟩ : Addr).add j) = some u := hown.cells (g := g) rfl
      have hr := run_append_grow (P := P) w t ty e i z ht hi hz ⟨g, 0, none⟩ n cap xs hown.1 holds a m c news hl hnews (by omega) (by omega) (growslice_fits (by omega) hbytes)
      have hgr := grown cap (by omega)
      obtain ⟨f1, f2, f3, f4, f5⟩ := fresh (xs.toArray ++ news.toArray ++ Builtin.zeroCells z.cells (grownCap w (n + m) cap e - (n + m)))
      exact ⟨_, _, hr, hgr, f1, f2, f3, fun k hk _ => f4 k hk, fun k hk => by simp only [Value.ownBlock, Option.some.injEq] at hk; exact Or.inr (by omega), fun may _ => f5 may⟩

/-! ### Cells written -/
def setL {α : Type} : List α → Nat → List α → List α
  | xs, _, [] => xs
  | xs, o, u :: us => setL (xs.set o u) (o + 1) us

theorem setL_length {α : Type} (us : List α) : ∀ (xs : List α) (o : Nat), (setL xs o us).length = xs.length := by
  induction us with
  | nil => intro xs o; rfl
  | cons u us ih => intro xs o; simp [setL, ih]

theorem setL_get {α : Type} (us : List α) : ∀ (xs : List α) (o k : Nat), (setL xs o us)[k]? = if o ≤ k ∧ k < o + us.length ∧ k < xs.length then us[k - o]? else xs[k]? := by
  induction us with
  | nil => intro xs o k; simp only [setL, List.length_nil]; rw [if_neg (by omega)]
  | cons u us ih =>
    intro xs o k
    simp only [setL, List.length_cons]
    rw [ih, List.length_set]
    by_cases h1 : o + 1 ≤ k ∧ k < o + 1 + us.length ∧ k < xs.length
    · rw [if_pos h1, if_pos (by omega)]
      have : k - o = (k - (o + 1)) + 1 := by omega
      rw [this, List.getElem?_cons_succ]
    · rw [if_neg h1]
      by_cases h2 : k = o
      · subst h2
        by_cases h3 : k < xs.length
        · rw [List.getElem?_set_self h3, if_pos (by omega), Nat.sub_self]; rfl
        · rw [if_neg (by omega), List.set_eq_of_length_le (by omega)]
      · rw [List.getElem?_set_ne (fun e => h2 e.symm), if_neg (by omega)]

theorem ownsRow_setCells {e : TypeId} {size g n cap : Nat} : ∀ (us : List Value) (o : Nat) (w : World) (xs : List Value), w.ownsRow 0 e size (.slice (some ⟨g, 0, none⟩) n cap) n xs →
    (w.setCells g o us).ownsRow 0 e size (.slice (some ⟨g, 0, none⟩) n cap) n (setL xs o us)
  | [], o, w, xs, h => h
  | u :: us, o, w, xs, h => ownsRow_setCells us (o + 1) _ _ (h.stored o u).1

theorem setCells_heap (g : Nat) : ∀ (us : List Value) (o : Nat) (w : World) (k : Nat), k ≠ g → (w.setCells g o us).heap[k]? = w.heap[k]?
  | [], o, w, k, hk => rfl
  | u :: us, o, w, k, hk => (setCells_heap g us (o + 1) _ k hk).trans (Below.heap_setCell w ⟨g, o, none⟩ u k hk)

theorem setCells_size (g : Nat) : ∀ (us : List Value) (o : Nat) (w : World), (w.setCells g o us).heap.size = w.heap.size
  | [], o, w => rfl
  | u :: us, o, w => by rw [World.setCells, setCells_size g us]; simp [World.setCell]

theorem toArr_getD (xs : List Value) (k : Nat) : xs.getD k undef = (xs[k]?).getD undef := by simp [List.getD]

/-- Cells of a row within are written. -/
theorem Ow.store {S : Nat → Prop} {e : TypeId} {es : List (List D)} {F : Nat → Prop} {g l c i j : Nat} {ds : List D} {us : List Value} {G : Nat → Nat → Prop} {ad : Addr}
    (h : Ow P w S (.row false e es) (.slice (some ad) l c) F) (hi : i < es.length) (hj : j + ds.length ≤ szT P e) (hl : us.length = ds.length) (h1u : ∀ u ∈ us, u.oneCell' = true)
    (hd : ∀ q d, ds[q]? = some d → Ow P w S d (us.getD q undef) (G q)) (hG : ∀ q q' k, q < ds.length → q' < ds.length → G q k → G q' k → q = q') (hGF : ∀ q k, q < ds.length → G q k → ¬ F k) (hSF : ∀ k, F k → ¬ S k) :
    ∃ F1, Ow P (w.setCells ad.block (ad.off + (i * szT P e + j)) us) S (.row false e (es.set i (setL (es.getD i []) j ds))) (.slice (some ad) l c) F1 ∧ (∀ k, F1 k → F k ∨ ∃ q, q < ds.length ∧ G q k) ∧ F ad.block ∧ F1 ad.block ∧
      (∀ q, q < ds.length → w.there ad.block (ad.off + (i * szT P e + j)) us.length) := by
  cases h with
  | row xs H own hsz h1 hx dis nb =>
    obtain ⟨g, cap, he, hcc, hm, hcell, hfz⟩ := ownsRow_cell own (by omega)
    cases he
    simp only [Nat.zero_add]
    have hown := ownsRow_setCells us (i * szT P e + j) w xs own
    have hxl := own.1
    have hle : (i + 1) * szT P e ≤ es.length * szT P e := Nat.mul_le_mul_right _ hi
    rw [Nat.add_mul, Nat.one_mul] at hle
    have hrow : (es.getD i []).length = szT P e := by
      simp only [List.getD, List.getElem?_eq_getElem hi, Option.getD_some]; exact hsz _ (List.getElem_mem hi)
    have hchunk : ∀ q, (es.getD i [])[q]? = cellAt es i q := fun q => by
      unfold cellAt; simp [List.getD, List.getElem?_eq_getElem hi]
    have ca : ∀ i' j', cellAt (es.set i (setL (es.getD i []) j ds)) i' j' = if i' = i ∧ j ≤ j' ∧ j' < j + ds.length then ds[j' - j]? else cellAt es i' j' := by
      intro i' j'
      unfold cellAt
      by_cases e1 : i' = i
      · subst e1
        rw [List.getElem?_set_self hi, Option.bind_some, setL_get, hrow, hchunk]
        by_cases h2 : j ≤ j' ∧ j' < j + ds.length
        · rw [if_pos ⟨h2.1, h2.2, by omega⟩, if_pos ⟨rfl, h2⟩]
        · rw [if_neg (by omega), if_neg (by omega)]; rfl
      · rw [List.getElem?_set_ne (fun e => e1 e.symm), if_neg (by omega)]
    let H1 : Nat → Nat → Nat → Prop := fun i' j' k => if i' = i ∧ j ≤ j' ∧ j' < j + ds.length then G (j' - j) k else H i' j' k
    have hF : ∀ i' j' d k, cellAt es i' j' = some d → H i' j' k → Value.ownBlock (.slice (some ⟨g, 0, none⟩) es.length c) = some k ∨ ∃ i' j' d, cellAt es i' j' = some d ∧ H i' j' k := fun i' j' d k hd hk => Or.inr ⟨i', j', d, hd, hk⟩
    refine ⟨_, .row (setL xs (i * szT P e + j) us) H1 (by rw [List.length_set]; exact hown) ?_ ?_ ?_ ?_ ?_, ?_, Or.inl rfl, Or.inl rfl, ?_⟩
    · intro l' hl'
      rcases List.mem_or_eq_of_mem_set hl' with h' | h'
      · exact hsz l' h'
      · rw [h', setL_length, hrow]
    · intro u hu
      obtain ⟨k, hk, rfl⟩ := List.getElem_of_mem hu
      have := setL_get us xs (i * szT P e + j) k
      rw [List.getElem?_eq_getElem hk] at this
      split at this
      · exact h1u _ (List.mem_of_getElem? this.symm)
      · exact h1 _ (List.mem_of_getElem? this.symm)
    · intro i' j' d hd'
      have hd0 := hd'
      rw [ca] at hd'
      simp only [H1]
      have hjs : j' < szT P e := by
        split at hd'
        · rename_i hh; omega
        · exact cellAt_len hd' hsz
      have hil : i' < es.length := by
        split at hd'
        · rename_i hh; omega
        · exact cellAt_lt hd'
      have hlt := off_lt hil hjs
      rw [toArr_getD, setL_get]
      by_cases hc' : i' = i ∧ j ≤ j' ∧ j' < j + ds.length
      · rw [if_pos hc'] at hd'
        have e2 : i * szT P e + j ≤ i' * szT P e + j' ∧ i' * szT P e + j' < i * szT P e + j + us.length ∧ i' * szT P e + j' < xs.length := by
          obtain ⟨rfl, h2, h3⟩ := hc'
          rw [hxl, hl]; omega
        rw [if_pos e2]
        refine Ow.congr (F := G (j' - j)) ?_ (fun k => by rw [if_pos hc'])
        obtain ⟨rfl, h2, h3⟩ := hc'
        have e3 : i' * szT P e + j' - (i' * szT P e + j) = j' - j := by omega
        rw [e3, ← toArr_getD]
        refine (hd _ d hd').move (fun k hk => setCells_heap g us _ w k ?_) (fun k hk => setCells_heap g us _ w k ?_)
        · rintro rfl; exact hGF _ _ (by omega) hk (Or.inl rfl)
        · rintro rfl; exact hSF _ (Or.inl rfl) hk
      · rw [if_neg hc'] at hd'
        have e2 : ¬ (i * szT P e + j ≤ i' * szT P e + j' ∧ i' * szT P e + j' < i * szT P e + j + us.length ∧ i' * szT P e + j' < xs.length) := by
          rintro ⟨h2, h3, _⟩
          have hb : i' * szT P e + j' < i * szT P e + szT P e := by omega
          have hi' : i' = i := by
            rcases Nat.lt_trichotomy i' i with h4 | h4 | h4
            · have : (i' + 1) * szT P e ≤ i * szT P e := Nat.mul_le_mul_right _ h4
              rw [Nat.add_mul, Nat.one_mul] at this; omega
            · exact h4
            · have : (i + 1) * szT P e ≤ i' * szT P e := Nat.mul_le_mul_right _ h4
              rw [Nat.add_mul, Nat.one_mul] at this; omega
          subst hi'
          exact hc' ⟨rfl, by omega, by omega⟩
        rw [if_neg e2, ← toArr_getD]
        refine Ow.congr (F := H i' j') ?_ (fun k => by rw [if_neg hc'])
        refine (hx i' j' d hd').move (fun k hk => setCells_heap g us _ w k ?_) (fun k hk => setCells_heap g us _ w k ?_)
        · rintro rfl; exact nb i' j' d _ hd' hk rfl
        · rintro rfl; exact hSF _ (Or.inl rfl) hk
    · intro i1 j1 i2 j2 d1 d2 k hd1 hd2 hk1 hk2
      rw [ca] at hd1 hd2
      simp only [H1] at hk1 hk2
      by_cases c1 : i1 = i ∧ j ≤ j1 ∧ j1 < j + ds.length <;> by_cases c2 : i2 = i ∧ j ≤ j2 ∧ j2 < j + ds.length
      · rw [if_pos c1] at hk1; rw [if_pos c2] at hk2
        have := hG _ _ k (by omega) (by omega) hk1 hk2
        exact ⟨by omega, by omega⟩
      · rw [if_pos c1] at hk1; rw [if_neg c2] at hk2 hd2
        exact absurd (hF i2 j2 d2 k hd2 hk2) (hGF _ k (by omega) hk1)
      · rw [if_neg c1] at hk1 hd1; rw [if_pos c2] at hk2
        exact absurd (hF i1 j1 d1 k hd1 hk1) (hGF _ k (by omega) hk2)
      · rw [if_neg c1] at hk1 hd1; rw [if_neg c2] at hk2 hd2
        exact dis i1 j1 i2 j2 d1 d2 k hd1 hd2 hk1 hk2
    · intro i' j' d k hd' hk
      rw [ca] at hd'
      simp only [H1] at hk
      by_cases c1 : i' = i ∧ j ≤ j' ∧ j' < j + ds.length
      · rw [if_pos c1] at hk
        exact fun hg => hGF _ k (by omega) hk (Or.inl hg)
      · rw [if_neg c1] at hk hd'
        exact nb i' j' d k hd' hk
    · rintro k (hk | ⟨i', j', d, hd', hk⟩)
      · exact Or.inl (Or.inl hk)
      · rw [ca] at hd'
        simp only [H1] at hk
        by_cases c1 : i' = i ∧ j ≤ j' ∧ j' < j + ds.length
        · rw [if_pos c1] at hk; exact Or.inr ⟨_, by omega, hk⟩
        · rw [if_neg c1] at hk hd'; exact Or.inl (Or.inr ⟨i', j', d, hd', hk⟩)
    · intro q hq k hk
      refine ⟨?_, hfz _⟩
      rw [hcell _ (by omega), List.getElem?_eq_getElem (by omega)]; rfl
end
end Go.Proofs.YtaodmogcjpainaaDoor.AW
