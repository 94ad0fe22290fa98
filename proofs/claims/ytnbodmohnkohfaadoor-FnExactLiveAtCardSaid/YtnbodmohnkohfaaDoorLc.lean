/- Tables of flags: what they are, both sides; what is used later, in plain words. No condition beyond those named. -/
import Derived.Test.YtnbodmohnkohfaaDoorLb
namespace Go.Proofs.YtnbodmohnkohfaaDoor.AW
open Go.RowKit
set_option maxHeartbeats 8000000
set_option maxRecDepth 100000
set_option linter.unusedSimpArgs false
set_option linter.unusedVariables false

theorem elBoolL : elT Tryd.prog 50 = some 4 := by kernel_rfl
theorem zBoolL : zeroCells Tryd.prog 4 = some [.bool false] := by kernel_rfl
theorem byBoolL : bytesT Tryd.prog 4 = 1 := by kernel_rfl
theorem elBoolSL : elT Tryd.prog 27 = some 50 := by kernel_rfl
theorem rBoolL : isR Tryd.prog 50 = some false := by kernel_rfl
theorem rBoolSL : isR Tryd.prog 27 = some false := by kernel_rfl
theorem szBoolL : szT Tryd.prog 50 = 1 := by kernel_rfl
theorem szBoolSL : szT Tryd.prog 27 = 1 := by kernel_rfl
theorem zBoolSL : zeroCells Tryd.prog 50 = some [.slice none 0 0] := by kernel_rfl
theorem byBoolSL : bytesT Tryd.prog 50 = 24 := by kernel_rfl
attribute [go_sem] elBoolL zBoolL byBoolL elBoolSL rBoolL rBoolSL szBoolL szBoolSL zBoolSL byBoolSL

/-- A row of flags as an element. -/
def tabC (sh : Bool) (l : List Bool) : List D := [.row sh 4 (row1 cB l)]
theorem tabC_sh (sh : Bool) : shF (tabC sh) = tabC true := by funext x; simp [shF, tabC, shL, shD, bools_sh]
theorem tabC_noSh (x : List Bool) : noShL (tabC false x) = true := by simp [tabC, noShL, noSh, bools_noSh]
theorem tabR_noSh (l : List (List Bool)) : noShLL (rows (tabC false) l) = true := rows_noSh tabC_noSh l
attribute [go_sem] tabC_sh tabC_noSh tabR_noSh
def rowF (L : Nat) (g : Nat → Bool) : List Bool := (List.range L).map g
def tabF (W L : Nat) (f : Nat → Nat → Bool) : List (List Bool) := (List.range W).map fun i => rowF L (f i)
theorem rowF_length (L : Nat) (g : Nat → Bool) : (rowF L g).length = L := by simp [rowF]
theorem tabF_length (W L : Nat) (f : Nat → Nat → Bool) : (tabF W L f).length = W := by simp [tabF]
theorem rowF_get {L : Nat} {g : Nat → Bool} {l : Nat} (h : l < (rowF L g).length) : (rowF L g)[l] = g l := by simp [rowF]
theorem tabF_get {W L : Nat} {f : Nat → Nat → Bool} {i : Nat} (h : i < (tabF W L f).length) : (tabF W L f)[i] = rowF L (f i) := by simp [tabF]
theorem tabF_next (i L : Nat) (f : Nat → Nat → Bool) : tabF (i + 1) L f = tabF i L f ++ [rowF L (f i)] := by simp [tabF, List.range_succ]
theorem rowF_false (L : Nat) : List.replicate L [cB false] = row1 cB (rowF L (fun _ => false)) := by
  apply List.ext_getElem
  · simp [row1, rowF]
  · intro j h1 h2
    simp [row1, rowF]
theorem row_cells {L : Nat} {g : Nat → Bool} {l : Nat} (h : l < L) : (row1 cB (rowF L g)).getD l [] = [cB (g l)] := by
  rw [row1_get cB (rowF L g) (by rw [rowF_length]; exact h), rowF_get]
theorem row_cellq {L : Nat} {g : Nat → Bool} {l : Nat} (h : l < L) : (row1 cB (rowF L g))[l]? = some [cB (g l)] := by
  have h2 : l < (rowF L g).length := by rw [rowF_length]; exact h
  have := row1_getq cB (rowF L g) h2
  rw [rowF_get] at this; exact this
theorem tab_cells {W L : Nat} {f : Nat → Nat → Bool} {i : Nat} (h : i < W) : (rows (tabC false) (tabF W L f)).getD i [] = [.row false 4 (row1 cB (rowF L (f i)))] := by
  rw [rows_get _ _ (by rw [tabF_length]; exact h), tabF_get]; rfl
theorem tab_cellq {W L : Nat} {f : Nat → Nat → Bool} {i : Nat} (h : i < W) : (rows (tabC false) (tabF W L f))[i]? = some [.row false 4 (row1 cB (rowF L (f i)))] := by
  rw [rows_getq _ _ (by rw [tabF_length]; exact h), tabF_get]; rfl
theorem tab_cell0 {W L : Nat} {f : Nat → Nat → Bool} {i : Nat} (h : i < W) : cellAt (rows (tabC false) (tabF W L f)) i 0 = some (.row false 4 (row1 cB (rowF L (f i)))) := by
  rw [rows_cell _ _ _ (by rw [tabF_length]; exact h), tabF_get]; rfl
def upd (f : Nat → Nat → Bool) (i l : Nat) : Nat → Nat → Bool := fun a b => if a = i ∧ b = l then true else f a b
theorem row_set {L : Nat} {f : Nat → Nat → Bool} {i l : Nat} : (row1 cB (rowF L (f i))).set l [cB true] = row1 cB (rowF L (upd f i l i)) := by
  rw [row1_set]
  congr 1
  apply List.ext_getElem
  · simp [rowF]
  · intro j h1 h2
    simp only [rowF, List.getElem_set, List.getElem_map, List.getElem_range, upd, true_and]
    by_cases e : l = j
    · subst e; simp
    · rw [if_neg e, if_neg (fun h => e h.symm)]
theorem tab_set {W L : Nat} {f : Nat → Nat → Bool} {i l : Nat} : (rows (tabC false) (tabF W L f)).set i [.row false 4 (row1 cB (rowF L (upd f i l i)))] = rows (tabC false) (tabF W L (upd f i l)) := by
  have h := rows_set (tabC false) (tabF W L f) i (rowF L (upd f i l i))
  simp only [tabC] at h ⊢
  rw [h]
  congr 1
  apply List.ext_getElem
  · simp [tabF]
  · intro j h1 h2
    simp only [tabF, List.getElem_set, List.getElem_map, List.getElem_range]
    by_cases e : i = j
    · subst e; simp
    · rw [if_neg e]
      unfold rowF
      apply List.map_congr_left
      intro b _
      simp only [upd]
      rw [if_neg (fun h => e h.1.symm)]

/-! ### What is used later -/
def wantF (c : CodeD) (f : Nat → Nat → Bool) (i l : Nat) : Bool := (readsI (wAt c i)).contains (l : Int) || (nextI c i).any (fun n => !(writesB (wAt c i) == (l : Int)) && f n.toNat l)
inductive Liv (c : CodeD) : Nat → Nat → Prop
  | read {i l : Nat} (h : (readsI (wAt c i)).contains (l : Int) = true) : Liv c i l
  | next {i l : Nat} {n : Int} (hn : n ∈ nextI c i) (hw : ¬ writesB (wAt c i) = (l : Int)) (h : Liv c n.toNat l) : Liv c i l
open Classical in
noncomputable def livF (c : CodeD) (i l : Nat) : Bool := decide (Liv c i l)
def SubF (c : CodeD) (f : Nat → Nat → Bool) : Prop := ∀ i l, f i l = true → Liv c i l
def ClosedF (c : CodeD) (f : Nat → Nat → Bool) : Prop := ∀ i, i < c.words.length → ∀ l, l < c.locals.length → wantF c f i l = true → f i l = true
theorem want_liv {c : CodeD} {f : Nat → Nat → Bool} (h : SubF c f) {i l : Nat} (hw : wantF c f i l = true) : Liv c i l := by
  unfold wantF at hw
  rw [Bool.or_eq_true] at hw
  rcases hw with hw | hw
  · exact .read hw
  · obtain ⟨n, hn, h1⟩ := List.any_eq_true.1 hw
    rw [Bool.and_eq_true] at h1
    exact .next hn (by simpa using h1.1) (h _ _ h1.2)
theorem next_lt {c : CodeD} {i : Nat} {n : Int} (h : n ∈ nextI c i) : n.toNat < c.words.length := (nextI_mem h).2
theorem closed_liv {c : CodeD} {f : Nat → Nat → Bool} (h : ClosedF c f) {i l : Nat} (hv : Liv c i l) : i < c.words.length → l < c.locals.length → f i l = true := by
  induction hv with
  | read hr => exact fun hi hl => h _ hi _ hl (by unfold wantF; rw [hr]; rfl)
  | @next i l n hn hw hv ih => exact fun hi hl => h _ hi _ hl (by
      unfold wantF
      rw [Bool.or_eq_true]
      right
      refine List.any_eq_true.2 ⟨n, hn, ?_⟩
      rw [Bool.and_eq_true]
      exact ⟨by simpa using hw, ih (next_lt hn) hl⟩)
theorem sub_upd {c : CodeD} {f : Nat → Nat → Bool} (h : SubF c f) {i l : Nat} (hv : Liv c i l) : SubF c (upd f i l) := fun a b hab => by
  unfold upd at hab
  split at hab
  · rename_i e; rw [e.1, e.2]; exact hv
  · exact h a b hab
open Classical in
theorem live_tab {c : CodeD} {f : Nat → Nat → Bool} (h : SubF c f) (hc : ClosedF c f) : tabF c.words.length c.locals.length f = tabF c.words.length c.locals.length (livF c) := by
  unfold tabF
  apply List.map_congr_left
  intro i hi
  unfold rowF
  apply List.map_congr_left
  intro l hl
  have hi2 := List.mem_range.1 hi
  have hl2 := List.mem_range.1 hl
  unfold livF
  cases hf : f i l with
  | true => exact (decide_eq_true (h i l hf)).symm
  | false => exact (decide_eq_false (fun hv => by rw [closed_liv hc hv hi2 hl2] at hf; cases hf)).symm
def cntR (g : Nat → Bool) : Nat → Nat
  | 0 => 0
  | n + 1 => cntR g n + (if g n then 1 else 0)
def cntT (f : Nat → Nat → Bool) (L : Nat) : Nat → Nat
  | 0 => 0
  | n + 1 => cntT f L n + cntR (f n) L
theorem cntR_le (g : Nat → Bool) : ∀ n, cntR g n ≤ n
  | 0 => Nat.le_refl _
  | n + 1 => by have := cntR_le g n; unfold cntR; split <;> omega
theorem cntT_le (f : Nat → Nat → Bool) (L : Nat) : ∀ n, cntT f L n ≤ n * L
  | 0 => by simp [cntT]
  | n + 1 => by have := cntT_le f L n; have h2 := cntR_le (f n) L; unfold cntT; rw [Nat.add_mul]; omega
theorem cntR_upd {f : Nat → Nat → Bool} {i l : Nat} (h : f i l = false) : ∀ n, cntR (upd f i l i) n = cntR (f i) n + (if l < n then 1 else 0)
  | 0 => by simp [cntR]
  | n + 1 => by
    have ih := cntR_upd h n
    unfold cntR
    rw [ih]
    by_cases e : n = l
    · subst e
      simp [upd, h]
    · have e1 : upd f i l i n = f i n := by simp [upd, e]
      rw [e1]
      by_cases h1 : l < n
      · rw [if_pos h1, if_pos (show l < n + 1 by omega)]; omega
      · rw [if_neg h1, if_neg (show ¬ l < n + 1 by omega)]; omega
theorem cntR_same {f : Nat → Nat → Bool} {i l a : Nat} (h : a ≠ i) (n : Nat) : cntR (upd f i l a) n = cntR (f a) n := by
  congr 1
  funext b
  simp [upd, h]
theorem cntT_upd {f : Nat → Nat → Bool} {i l L : Nat} (h : f i l = false) (hl : l < L) : ∀ n, cntT (upd f i l) L n = cntT f L n + (if i < n then 1 else 0)
  | 0 => by simp [cntT]
  | n + 1 => by
    have ih := cntT_upd h hl n
    unfold cntT
    rw [ih]
    by_cases e : n = i
    · subst e
      rw [cntR_upd h, if_pos hl, if_neg (Nat.lt_irrefl n), if_pos (Nat.lt_succ_self n)]; omega
    · rw [cntR_same e]
      by_cases h1 : i < n
      · rw [if_pos h1, if_pos (show i < n + 1 by omega)]; omega
      · rw [if_neg h1, if_neg (show ¬ i < n + 1 by omega)]; omega
theorem cnt_new {f : Nat → Nat → Bool} {i l L W : Nat} (h : f i l = false) (hl : l < L) (hi : i < W) : cntT (upd f i l) L W = cntT f L W + 1 := by rw [cntT_upd h hl, if_pos hi]
theorem cnt_room {f : Nat → Nat → Bool} {i l L W : Nat} (h : f i l = false) (hl : l < L) (hi : i < W) : cntT f L W < W * L := by
  have h1 := cnt_new h hl hi
  have h2 := cntT_le (upd f i l) L W
  omega
noncomputable def liveL (c : CodeD) : List (List Bool) := if codeB c then tabF c.words.length c.locals.length (livF c) else []

theorem tableI_sound (r c : Nat) (hr : r ≤ 1048576) (hc : c ≤ 1048576) : Sound Tryd.prog 20 [.ro (.sc (.int .i64 r)), .ro (.sc (.int .i64 c)), .ro (.sc (.bool false))] (fun rs st => rs = [(false, [.row false 50 (rows (tabC false) (tabF r c (fun _ _ => false)))])]) := by
  refine sound_tri (fn := Tryd.f20) (c := Tryd.f20.body.getD .skip) (res := [.tm 6]) (n := 31) sized (by kernel_rfl) (by rfl) (by kernel_rfl) (by rfl) (by rfl) (by simp [argsV]) (fun uf ub C hpin hpin2 hfull => ?_)
  simp only [Tryd.f20, Option.getD_some]
  have hm1 : ((1 : Nat) : Int) * (c : Int) ≤ 281474976710656 := by omega
  have hm2 : (c : Int) ≤ 140737488355328 := by omega
  have hof := rowF_false c
  simp only [cB] at hof
  refine Tri.step sized ?_
  simp (decide := true) only [row1_length, rows_length, cI, cB, cS, roI, ro64, hpin, go_sem, Nat.reduceAdd, Nat.reduceMul]
  refine Tri.step sized ?_
  simp (decide := true) only [row1_length, rows_length, cI, cB, cS, roI, ro64, hpin, go_sem, Nat.reduceAdd, Nat.reduceMul]
  refine Tri.step sized ?_
  simp (decide := true) only [row1_length, rows_length, cI, cB, cS, roI, ro64, hpin, go_sem, Nat.reduceAdd, Nat.reduceMul]
  refine Tri.loop (ι := Nat) (fun i => i ≤ r) (fun i => ⟨31, [(0, vI r), (1, vI c), (2, vB false), (7, .ref 7 [] i), (10, vI r), (11, vI i)], [(7, .row 50 (rows (tabC false) (tabF i c (fun _ _ => false))))]⟩) (fun i => r - i) 0 (by simp) ?_ ?_
  · refine Ent.weak ?_ ?_ ?_ ?_ <;> simp (decide := true) [subT, subB, hereT, hereV, hereL, St.get, look, vI, vB, vS, cI, cS, cB, codeC, insC, roI, tabF, rows]
  · rintro i hi
    refine code_sound sized _ ?_
    by_cases h' : i < r
    · have e : ((i : Int) < (r : Int)) = True := by simp [h']
      have htl := tabF_length i c (fun _ _ => false)
      have hnx := tabF_next i c (fun _ _ => false)
      simp (decide := true) only [e, h', hm1, hm2, hof, Int.natCast_nonneg, vB, vI, rowF_length, row1_length, rows_length, cI, cB, cS, roI, ro64, hpin, go_sem, Nat.reduceAdd, Nat.reduceMul]
      refine Tri.loop (ι := Nat) (fun k => k ≤ c) (fun k => ⟨31, [(0, vI r), (1, vI c), (2, vB false), (7, .ref 7 [] i), (8, .ref 8 [] c), (10, vI r), (11, vI i), (16, vI c), (17, vI k)], [(7, .row 50 (rows (tabC false) (tabF i c (fun _ _ => false)))), (8, .row 4 (row1 cB (rowF c (fun _ => false))))]⟩) (fun k => c - k) 0 (by simp) ?_ ?_
      · refine Ent.weak ?_ ?_ ?_ ?_ <;> simp (decide := true) [subT, subB, hereT, hereV, hereL, St.get, look, vI, vB, vS, cI, cS, cB, codeC, insC, roI]
      · rintro k hk
        refine code_sound sized _ ?_
        by_cases hk' : k < c
        · have e2 : ((k : Int) < (c : Int)) = True := by simp [hk']
          have hq := row_cellq (g := fun _ => false) hk'
          have hst : (row1 cB (rowF c (fun _ => false))).set k [cB false] = row1 cB (rowF c (fun _ => false)) := by
            rw [row1_set]
            congr 1
            apply List.ext_getElem
            · simp
            · intro j h1 h2
              simp [List.getElem_set, rowF]
          simp only [cB] at hst hq
          simp (decide := true) only [e2, hk', hq, hst, rowF_length, Int.natCast_nonneg, vB, vI, row1_length, rows_length, cI, cB, cS, roI, ro64, hpin, go_sem, Nat.reduceAdd, Nat.reduceMul]
          refine ⟨k + 1, hk', by omega, Ent.weak ?_ ?_ ?_ ?_⟩
          all_goals simp (decide := true) [subT, subB, hereT, hereV, hereL, St.get, look, vI, vB, vS, cI, cS, cB, codeC, insC, roI, hq, hst, w64s (n := c) hk' (by omega)]
        · have hkc : k = c := by omega
          subst hkc
          have e2 : ((k : Int) < (k : Int)) = False := by simp
          have hb1 : i + 1 ≤ 140737488355328 := by omega
          have hb2 : (i + 1) * 24 ≤ 140737488355328 := by omega
          have hsn := rows_snoc (tabC false) (tabF i k (fun _ _ => false)) (rowF k (fun _ => false))
          rw [← hnx] at hsn
          simp only [tabC, cB] at hsn
          simp (decide := true) only [e2, hb1, hb2, htl, hsn, vB, vI, rowF_length, row1_length, rows_length, cI, cB, cS, roI, ro64, hpin, go_sem, Nat.reduceAdd, Nat.reduceMul]
          refine ⟨i + 1, h', by omega, Ent.weak ?_ ?_ ?_ ?_⟩
          all_goals simp (decide := true) [subT, subB, hereT, hereV, hereL, St.get, look, vI, vB, vS, cI, cS, cB, codeC, insC, roI, hsn, w64s (n := r) h' (by omega)]
    · have hir : i = r := by omega
      subst hir
      have e : ((i : Int) < (i : Int)) = False := by simp
      have htl := tabF_length i c (fun _ _ => false)
      simp (decide := true) only [e, htl, vB, vI, row1_length, rows_length, cI, cB, cS, roI, ro64, hpin, go_sem, Nat.reduceAdd, Nat.reduceMul]
      refine code_sound sized _ ?_
      simp (decide := true) only [htl, row1_length, rows_length, cI, cB, cS, roI, ro64, hpin, go_sem, Nat.reduceAdd, Nat.reduceMul]
theorem tableS_sound (r c : Nat) (hr : r ≤ 1048576) (hc : c ≤ 1048576) : Sound Tryd.prog 36 [.ro (.sc (.int .i64 r)), .ro (.sc (.int .i64 c)), .ro (.sc (.bool false))] (fun rs st => rs = [(false, [.row false 50 (rows (tabC false) (tabF r c (fun _ _ => false)))])]) := by
  refine sound_tri (fn := Tryd.f36) (c := Tryd.f36.body.getD .skip) (res := [.tm 6]) (n := 33) sized (by kernel_rfl) (by rfl) (by kernel_rfl) (by rfl) (by rfl) (by simp [argsV]) (fun uf ub C hpin hpin2 hfull => ?_)
  simp only [Tryd.f36, Option.getD_some]
  have hm1 : ((1 : Nat) : Int) * (c : Int) ≤ 281474976710656 := by omega
  have hm2 : (c : Int) ≤ 140737488355328 := by omega
  have hof := rowF_false c
  simp only [cB] at hof
  refine Tri.step sized ?_
  simp (decide := true) only [row1_length, rows_length, cI, cB, cS, roI, ro64, hpin, go_sem, Nat.reduceAdd, Nat.reduceMul]
  refine Tri.step sized ?_
  simp (decide := true) only [row1_length, rows_length, cI, cB, cS, roI, ro64, hpin, go_sem, Nat.reduceAdd, Nat.reduceMul]
  refine Tri.step sized ?_
  simp (decide := true) only [row1_length, rows_length, cI, cB, cS, roI, ro64, hpin, go_sem, Nat.reduceAdd, Nat.reduceMul]
  refine Tri.loop (ι := Nat) (fun i => i ≤ r) (fun i => ⟨33, [(0, vI r), (1, vI c), (2, vB false), (7, .ref 7 [] i), (8, vI i)], [(7, .row 50 (rows (tabC false) (tabF i c (fun _ _ => false))))]⟩) (fun i => r - i) 0 (by simp) ?_ ?_
  · refine Ent.weak ?_ ?_ ?_ ?_ <;> simp (decide := true) [subT, subB, hereT, hereV, hereL, St.get, look, vI, vB, vS, cI, cS, cB, codeC, insC, roI, tabF, rows]
  · rintro i hi
    refine code_sound sized _ ?_
    by_cases h' : i < r
    · have e : ((i : Int) < (r : Int)) = True := by simp [h']
      have htl := tabF_length i c (fun _ _ => false)
      have hnx := tabF_next i c (fun _ _ => false)
      simp (decide := true) only [e, h', hm1, hm2, hof, Int.natCast_nonneg, vB, vI, rowF_length, row1_length, rows_length, cI, cB, cS, roI, ro64, hpin, go_sem, Nat.reduceAdd, Nat.reduceMul]
      refine Tri.loop (ι := Nat) (fun k => k ≤ c) (fun k => ⟨33, [(0, vI r), (1, vI c), (2, vB false), (7, .ref 7 [] i), (9, .ref 9 [] c), (8, vI i), (10, vI k)], [(7, .row 50 (rows (tabC false) (tabF i c (fun _ _ => false)))), (9, .row 4 (row1 cB (rowF c (fun _ => false))))]⟩) (fun k => c - k) 0 (by simp) ?_ ?_
      · refine Ent.weak ?_ ?_ ?_ ?_ <;> simp (decide := true) [subT, subB, hereT, hereV, hereL, St.get, look, vI, vB, vS, cI, cS, cB, codeC, insC, roI]
      · rintro k hk
        refine code_sound sized _ ?_
        by_cases hk' : k < c
        · have e2 : ((k : Int) < (c : Int)) = True := by simp [hk']
          have hq := row_cellq (g := fun _ => false) hk'
          have hst : (row1 cB (rowF c (fun _ => false))).set k [cB false] = row1 cB (rowF c (fun _ => false)) := by
            rw [row1_set]
            congr 1
            apply List.ext_getElem
            · simp
            · intro j h1 h2
              simp [List.getElem_set, rowF]
          simp only [cB] at hst hq
          simp (decide := true) only [e2, hk', hq, hst, rowF_length, Int.natCast_nonneg, vB, vI, row1_length, rows_length, cI, cB, cS, roI, ro64, hpin, go_sem, Nat.reduceAdd, Nat.reduceMul]
          refine ⟨k + 1, hk', by omega, Ent.weak ?_ ?_ ?_ ?_⟩
          all_goals simp (decide := true) [subT, subB, hereT, hereV, hereL, St.get, look, vI, vB, vS, cI, cS, cB, codeC, insC, roI, hq, hst, w64s (n := c) hk' (by omega)]
        · have hkc : k = c := by omega
          subst hkc
          have e2 : ((k : Int) < (k : Int)) = False := by simp
          have hb1 : i + 1 ≤ 140737488355328 := by omega
          have hb2 : (i + 1) * 24 ≤ 140737488355328 := by omega
          have hsn := rows_snoc (tabC false) (tabF i k (fun _ _ => false)) (rowF k (fun _ => false))
          rw [← hnx] at hsn
          simp only [tabC, cB] at hsn
          simp (decide := true) only [e2, hb1, hb2, htl, hsn, vB, vI, rowF_length, row1_length, rows_length, cI, cB, cS, roI, ro64, hpin, go_sem, Nat.reduceAdd, Nat.reduceMul]
          refine ⟨i + 1, h', by omega, Ent.weak ?_ ?_ ?_ ?_⟩
          all_goals simp (decide := true) [subT, subB, hereT, hereV, hereL, St.get, look, vI, vB, vS, cI, cS, cB, codeC, insC, roI, hsn, w64s (n := r) h' (by omega)]
    · have hir : i = r := by omega
      subst hir
      have e : ((i : Int) < (i : Int)) = False := by simp
      have htl := tabF_length i c (fun _ _ => false)
      simp (decide := true) only [e, htl, vB, vI, row1_length, rows_length, cI, cB, cS, roI, ro64, hpin, go_sem, Nat.reduceAdd, Nat.reduceMul]
      refine code_sound sized _ ?_
      simp (decide := true) only [htl, row1_length, rows_length, cI, cB, cS, roI, ro64, hpin, go_sem, Nat.reduceAdd, Nat.reduceMul]
end Go.Proofs.YtnbodmohnkohfaaDoor.AW
