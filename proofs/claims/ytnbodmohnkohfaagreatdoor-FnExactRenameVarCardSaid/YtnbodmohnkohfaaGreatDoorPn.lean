/- Whom a function calls, both sides. No condition beyond those named. -/
import Derived.Test.YtnbodmohnkohfaaGreatDoorPm
namespace Go.Proofs.YtnbodmohnkohfaaGreatDoor.AW
open Go.RowKit
set_option maxHeartbeats 8000000
set_option maxRecDepth 100000
set_option linter.unusedSimpArgs false
set_option linter.unusedVariables false

def addI (l : List Int) (n : Int) : List Int := if l.contains n then l else l ++ [n]
theorem addI_length (l : List Int) (n : Int) : (addI l n).length ≤ l.length + 1 := by unfold addI; split <;> simp
/-- Two rising lists put together, so far. -/
structure Zip (a b : List Int) (i k : Nat) (l : List Int) : Prop where
  ri : l.Pairwise (· < ·)
  mem : ∀ x, x ∈ l ↔ x ∈ a.take i ∨ x ∈ b.take k
  la : ∀ x ∈ l, ∀ y ∈ a.drop i, x < y
  lb : ∀ x ∈ l, ∀ y ∈ b.drop k, x < y
  few : l.length ≤ i + k
theorem rise_snoc {l : List Int} {x : Int} (h : l.Pairwise (· < ·)) (hx : ∀ y ∈ l, y < x) : (l ++ [x]).Pairwise (· < ·) := by
  rw [List.pairwise_append]
  exact ⟨h, by simp, fun a ha b hb => by simp at hb; subst hb; exact hx a ha⟩
theorem rise_drop {a : List Int} (h : a.Pairwise (· < ·)) {i : Nat} (hi : i < a.length) : ∀ y ∈ a.drop (i + 1), a[i] < y := by
  have h2 : (a.drop i).Pairwise (· < ·) := h.sublist (List.drop_sublist _ _)
  rw [List.drop_eq_getElem_cons hi] at h2
  exact (List.pairwise_cons.1 h2).1
theorem drop_mem {a : List Int} {i : Nat} (hi : i < a.length) : ∀ y, y ∈ a.drop i ↔ y = a[i] ∨ y ∈ a.drop (i + 1) := fun y => by
  rw [List.drop_eq_getElem_cons hi, List.mem_cons]
theorem take_mem {a : List Int} {i : Nat} (hi : i < a.length) : ∀ y, y ∈ a.take (i + 1) ↔ y ∈ a.take i ∨ y = a[i] := fun y => by
  rw [List.take_succ_eq_append_getElem hi, List.mem_append, List.mem_singleton]

theorem Zip.left {a b : List Int} (ha : a.Pairwise (· < ·)) (hb : b.Pairwise (· < ·)) {i k : Nat} {l : List Int} (h : Zip a b i k l) (hi : i < a.length) (hk : ∀ y ∈ b.drop k, a[i] < y) : Zip a b (i + 1) k (l ++ [a[i]]) where
  ri := rise_snoc h.ri (fun y hy => h.la y hy _ ((drop_mem hi _).2 (Or.inl rfl)))
  mem := fun x => by rw [List.mem_append, List.mem_singleton, h.mem, take_mem hi]; exact ⟨fun hh => hh.elim (fun hh => hh.elim (fun h1 => Or.inl (Or.inl h1)) Or.inr) (fun h1 => Or.inl (Or.inr h1)), fun hh => hh.elim (fun hh => hh.elim (fun h1 => Or.inl (Or.inl h1)) Or.inr) (fun h1 => Or.inl (Or.inr h1))⟩
  la := fun x hx y hy => by
    rcases List.mem_append.1 hx with hx | hx
    · exact h.la x hx y ((drop_mem hi y).2 (Or.inr hy))
    · simp at hx; subst hx; exact rise_drop ha hi y hy
  lb := fun x hx y hy => by
    rcases List.mem_append.1 hx with hx | hx
    · exact h.lb x hx y hy
    · simp at hx; subst hx; exact hk y hy
  few := by have := h.few; simp; omega
theorem Zip.right {a b : List Int} (ha : a.Pairwise (· < ·)) (hb : b.Pairwise (· < ·)) {i k : Nat} {l : List Int} (h : Zip a b i k l) (hk : k < b.length) (hi : ∀ y ∈ a.drop i, b[k] < y) : Zip a b i (k + 1) (l ++ [b[k]]) where
  ri := rise_snoc h.ri (fun y hy => h.lb y hy _ ((drop_mem hk _).2 (Or.inl rfl)))
  mem := fun x => by rw [List.mem_append, List.mem_singleton, h.mem, take_mem hk, or_assoc]
  la := fun x hx y hy => by
    rcases List.mem_append.1 hx with hx | hx
    · exact h.la x hx y hy
    · simp at hx; subst hx; exact hi y hy
  lb := fun x hx y hy => by
    rcases List.mem_append.1 hx with hx | hx
    · exact h.lb x hx y ((drop_mem hk y).2 (Or.inr hy))
    · simp at hx; subst hx; exact rise_drop hb hk y hy
  few := by have := h.few; simp; omega
theorem Zip.both {a b : List Int} (ha : a.Pairwise (· < ·)) (hb : b.Pairwise (· < ·)) {i k : Nat} {l : List Int} (h : Zip a b i k l) (hi : i < a.length) (hk : k < b.length) (he : a[i] = b[k]) : Zip a b (i + 1) (k + 1) (l ++ [b[k]]) where
  ri := rise_snoc h.ri (fun y hy => h.lb y hy _ ((drop_mem hk _).2 (Or.inl rfl)))
  mem := fun x => by
    rw [List.mem_append, List.mem_singleton, h.mem, take_mem hi, take_mem hk, he]
    exact ⟨fun hh => hh.elim (fun hh => hh.elim (fun h1 => Or.inl (Or.inl h1)) (fun h1 => Or.inr (Or.inl h1))) (fun h1 => Or.inr (Or.inr h1)), fun hh => hh.elim (fun hh => hh.elim (fun h1 => Or.inl (Or.inl h1)) (fun h1 => Or.inr h1)) (fun hh => hh.elim (fun h1 => Or.inl (Or.inr h1)) (fun h1 => Or.inr h1))⟩
  la := fun x hx y hy => by
    rcases List.mem_append.1 hx with hx | hx
    · exact h.la x hx y ((drop_mem hi y).2 (Or.inr hy))
    · simp at hx; subst hx; rw [← he]; exact rise_drop ha hi y hy
  lb := fun x hx y hy => by
    rcases List.mem_append.1 hx with hx | hx
    · exact h.lb x hx y ((drop_mem hk y).2 (Or.inr hy))
    · simp at hx; subst hx; exact rise_drop hb hk y hy
  few := by have := h.few; simp; omega

theorem all_sound (p : ProgramD) (fn : Int) (hf : p.fns.length ≤ 1048576) (hn : p.nodes.length ≤ 1048576) (hk : ∀ x ∈ p.nodes, x.kids.length ≤ 1048576) : Sound Tryz.prog 60 [.ro (programW p), .ro (.sc (.int .i64 fn))] (fun rs st => rs = [(false, [.row false 3 (row1 cI (fnNs p fn))])]) := by
  refine sound_tri (fn := Tryz.f60) (c := Tryz.f60.body.getD .skip) (res := [.tm 4]) (n := 102) sized (by kernel_rfl) (by rfl) (by kernel_rfl) (by rfl) (by rfl) (by simp [argsV]) (fun uf ub C hpin hpin2 hfull => ?_)
  simp only [Tryz.f60, Option.getD_some]
  have w1 : IntKind.i64.wrap ((p.fns.length : Int) - 1) = (p.fns.length : Int) - 1 := w64 (by omega) (by omega)
  have e0 : row1 cI ([] : List Int) = [] := rfl
  refine Tri.step sized ?_
  simp (decide := true) only [programW, programC, drop0, row1_length, rows_length, cI, cB, cS, roI, ro64, hpin, go_sem, Nat.reduceAdd, Nat.reduceMul]
  refine Tri.ent ?_ (Ent.frb hfull 2)
  refine Tri.step sized ?_
  simp (decide := true) only [programW, programC, drop0, row1_length, rows_length, cI, cB, cS, roI, ro64, hpin, go_sem, Nat.reduceAdd, Nat.reduceMul]
  refine Tri.step sized ?_
  simp (decide := true) only [w1, programW, programC, drop0, row1_length, rows_length, cI, cB, cS, roI, ro64, hpin, go_sem, Nat.reduceAdd, Nat.reduceMul]
  refine aCall_det (l01In' fn 0 (p.fns.length - 1)) hpin ?_
  cases h0 : inI fn 0 (p.fns.length - 1) with
  | false =>
    have hz : fnNs p fn = [] := by
      apply List.eq_nil_iff_forall_not_mem.2
      intro x hx
      obtain ⟨k, hkk, _⟩ := (fnNs_mem p fn x).1 hx
      simp [rootsL, h0] at hkk
    simp (decide := true) only [hz, e0, drop0, row1_length, rows_length, cI, cB, cS, roI, ro64, hpin, go_sem, Nat.reduceAdd, Nat.reduceMul]
  | true =>
  have hr := inI_true h0
  obtain ⟨f, rfl⟩ : ∃ f : Nat, fn = f := ⟨fn.toNat, by omega⟩
  have hfl : f < p.fns.length := by omega
  have c1 : ((f : Int) < (p.fns.length : Int)) = True := eq_true (by omega)
  have hmem : ∀ x, x ∈ fnNs p f ↔ x ∈ underP p.nodes p.fns[f].body ∨ x ∈ underP p.nodes p.fns[f].ret := fun x => by
    rw [fnNs_mem]
    unfold rootsL
    rw [h0, if_pos rfl, fAt_nat hfl]
    cases h1 : p.fns[f].ret == -1 with
    | true =>
      have h2 : p.fns[f].ret = -1 := by simpa using h1
      have h3 : underP p.nodes (-1) = [] := by
        have : deepOf p.nodes (-1) = 0 := by unfold deepOf; rw [show inI (-1) 0 (p.nodes.length - 1) = false by simp [inI]]; rfl
        unfold underP; rw [this]; rfl
      rw [h2, h3]; simp
    | false => simp
  have hris : (fnNs p f).Pairwise (· < ·) := pick_rising _ _
  simp (decide := true) only [programW, programC, drop0, row1_length, rows_length, cI, cB, cS, roI, ro64, hpin, go_sem, Nat.reduceAdd, Nat.reduceMul]
  refine Tri.step sized ?_
  simp (decide := true) only [programW, programC, drop0, row1_length, rows_length, cI, cB, cS, roI, ro64, hpin, go_sem, Nat.reduceAdd, Nat.reduceMul]
  refine Tri.sched sized [(1, true), (3, true), (0, true), (2, false), (4, false), (5, false), (6, false), (7, false), (8, false)] mixed (by kernel_rfl) (fun C2 hC2 => ?_)
  have hp2 : ∀ o, isPin o = false → C2.pin o = none := by rw [hC2]; exact hpin
  simp (decide := true) only [c1, rows_get _ _ hfl, fnC, programW, programC, Int.natCast_nonneg, drop0, row1_length, rows_length, cI, cB, cS, roI, ro64, hp2, go_sem, Nat.reduceAdd, Nat.reduceMul]
  refine aCall_det (underS_sound p p.fns[f].body hn hk) hp2 ?_
  simp (decide := true) only [programW, programC, drop0, row1_length, rows_length, cI, cB, cS, roI, ro64, hp2, go_sem, Nat.reduceAdd, Nat.reduceMul]
  refine Tri.ent ?_ (Ent.frz hfull 6)
  refine Tri.step sized ?_
  simp (decide := true) only [programW, programC, drop0, row1_length, rows_length, cI, cB, cS, roI, ro64, hpin, go_sem, Nat.reduceAdd, Nat.reduceMul]
  refine Tri.sched sized [(1, true), (3, true), (0, true), (2, false), (4, false), (5, false), (6, false), (7, false), (8, false)] mixed (by kernel_rfl) (fun C2 hC2 => ?_)
  have hp2 : ∀ o, isPin o = false → C2.pin o = none := by rw [hC2]; exact hpin
  simp (decide := true) only [c1, rows_get _ _ hfl, fnC, programW, programC, Int.natCast_nonneg, drop0, row1_length, rows_length, cI, cB, cS, roI, ro64, hp2, go_sem, Nat.reduceAdd, Nat.reduceMul]
  refine aCall_det (underS_sound p p.fns[f].ret hn hk) hp2 ?_
  simp (decide := true) only [programW, programC, drop0, row1_length, rows_length, cI, cB, cS, roI, ro64, hp2, go_sem, Nat.reduceAdd, Nat.reduceMul]
  refine Tri.ent ?_ (Ent.frz hfull 7)
  have hal := underP_length p.nodes p.fns[f].body
  have hbl := underP_length p.nodes p.fns[f].ret
  have har := underP_rising p.nodes p.fns[f].body
  have hbr := underP_rising p.nodes p.fns[f].ret
  generalize underP p.nodes p.fns[f].body = a at hal har hmem ⊢
  generalize underP p.nodes p.fns[f].ret = b at hbl hbr hmem ⊢
  generalize fnNs p f = Z at hmem hris ⊢
  refine Tri.step sized ?_
  simp (decide := true) only [programW, programC, drop0, row1_length, rows_length, cI, cB, cS, roI, ro64, hpin, go_sem, Nat.reduceAdd, Nat.reduceMul]
  refine Tri.step sized ?_
  simp (decide := true) only [programW, programC, drop0, row1_length, rows_length, cI, cB, cS, roI, ro64, hpin, go_sem, Nat.reduceAdd, Nat.reduceMul]
  refine Tri.step sized ?_
  simp (decide := true) only [programW, programC, drop0, row1_length, rows_length, cI, cB, cS, roI, ro64, hpin, go_sem, Nat.reduceAdd, Nat.reduceMul]
  refine Tri.loop (ι := Nat × Nat × List Int) (fun q => q.1 ≤ a.length ∧ q.2.1 ≤ b.length ∧ Zip a b q.1 q.2.1 q.2.2) (fun q => ⟨102, [(5, .ref 5 [] q.2.2.length), (6, roI a), (7, roI b), (8, vI q.1), (9, vI q.2.1)], [(5, .row 3 (row1 cI q.2.2))]⟩) (fun q => (a.length - q.1) + (b.length - q.2.1)) (0, 0, []) ⟨by simp, by simp, by simp, by simp, by simp, by simp, by simp⟩ ?_ ?_
  · refine Ent.weak ?_ ?_ ?_ ?_ <;> simp (decide := true) [subT, subB, hereT, hereV, hereL, St.get, look, vI, vB, vS, cI, cS, cB, nodeC, roI, row1]
  · rintro ⟨i, k, l⟩ ⟨hi, hkk, hZ⟩
    simp only at hi hkk hZ ⊢
    have hfew := hZ.few
    have hb1 : l.length + 1 ≤ 140737488355328 := by omega
    have hb2 : (l.length + 1) * 8 ≤ 140737488355328 := by omega
    refine code_sound sized _ ?_
    by_cases h' : i < a.length
    · have e1 : ((i : Int) < (a.length : Int)) = True := by simp [h']
      by_cases h2 : k < b.length
      · have e2 : ((k : Int) < (b.length : Int)) = True := by simp [h2]
        have e3 : ((b.length : Int) ≤ (k : Int)) = False := by simp; omega
        simp (decide := true) only [e1, e2, vB, vI, drop0, row1_length, rows_length, cI, cB, cS, roI, ro64, hpin, go_sem, Nat.reduceAdd, Nat.reduceMul]
        refine Tri.sched sized [(0, true), (1, false), (2, false), (3, false), (4, false), (5, true), (6, false), (7, false), (8, false), (9, false), (10, true), (11, true), (12, true), (14, true), (15, true), (16, true), (13, true), (17, false), (18, false), (19, false), (20, false)] mixed (by kernel_rfl) (fun C2 hC2 => ?_)
        have hp2 : ∀ o, isPin o = false → C2.pin o = none := by rw [hC2]; exact hpin
        simp (decide := true) only [e1, e2, e3, row1_get _ _ h', row1_get _ _ h2, Int.natCast_nonneg, vB, vI, drop0, row1_length, rows_length, cI, cB, cS, roI, ro64, hp2, go_sem, Nat.reduceAdd, Nat.reduceMul]
        by_cases hlt : a[i] < b[k]
        · have e4 : (a[i] < b[k]) = True := eq_true hlt
          have hsn := row1_snoc cI l a[i]
          simp only [cI] at hsn
          have hnx := hZ.left har hbr h' (fun y hy => by
            rcases (drop_mem h2 y).1 hy with rfl | hy
            · exact hlt
            · have := rise_drop hbr h2 y hy; omega)
          simp (decide := true) only [e1, e4, hb1, hb2, row1_get _ _ h', Int.natCast_nonneg, drop0, row1_length, rows_length, cI, cB, cS, roI, ro64, hpin, go_sem, Nat.reduceAdd, Nat.reduceMul]
          refine ⟨(i + 1, k, l ++ [a[i]]), ⟨h', hkk, hnx⟩, by simp only; omega, Ent.weak ?_ ?_ ?_ ?_⟩
          all_goals simp (decide := true) [subT, subB, hereT, hereV, hereL, St.get, look, vI, vB, vS, cI, cS, cB, nodeC, roI, hsn, w64s (n := a.length) h' (by omega)]
        · have e4 : (a[i] < b[k]) = False := eq_false hlt
          have hsn := row1_snoc cI l b[k]
          simp only [cI] at hsn
          simp (decide := true) only [e1, e4, vB, vI, drop0, row1_length, rows_length, cI, cB, cS, roI, ro64, hpin, go_sem, Nat.reduceAdd, Nat.reduceMul]
          refine Tri.sched sized [(0, true), (1, false), (2, false), (3, false), (4, false), (5, true), (6, true), (7, true), (9, true), (10, true), (11, true), (8, true), (12, false), (13, false), (14, false)] mixed (by kernel_rfl) (fun C2 hC2 => ?_)
          have hp2 : ∀ o, isPin o = false → C2.pin o = none := by rw [hC2]; exact hpin
          simp (decide := true) only [e1, e2, e3, row1_get _ _ h', row1_get _ _ h2, Int.natCast_nonneg, vB, vI, drop0, row1_length, rows_length, cI, cB, cS, roI, ro64, hp2, go_sem, Nat.reduceAdd, Nat.reduceMul]
          cases heq : a[i] == b[k] with
          | true =>
            have he : a[i] = b[k] := by simpa using heq
            have hnx := hZ.both har hbr h' h2 he
            simp (decide := true) only [e2, heq, hb1, hb2, row1_get _ _ h2, Int.natCast_nonneg, drop0, row1_length, rows_length, cI, cB, cS, roI, ro64, hpin, go_sem, Nat.reduceAdd, Nat.reduceMul]
            refine ⟨(i + 1, k + 1, l ++ [b[k]]), ⟨h', h2, hnx⟩, by simp only; omega, Ent.weak ?_ ?_ ?_ ?_⟩
            all_goals simp (decide := true) [subT, subB, hereT, hereV, hereL, St.get, look, vI, vB, vS, cI, cS, cB, nodeC, roI, hsn, w64s (n := a.length) h' (by omega), w64s (n := b.length) h2 (by omega)]
          | false =>
            have he : a[i] ≠ b[k] := by simpa using heq
            have hnx := hZ.right har hbr h2 (fun y hy => by
              rcases (drop_mem h' y).1 hy with rfl | hy
              · omega
              · have := rise_drop har h' y hy; omega)
            simp (decide := true) only [e2, heq, hb1, hb2, row1_get _ _ h2, Int.natCast_nonneg, drop0, row1_length, rows_length, cI, cB, cS, roI, ro64, hpin, go_sem, Nat.reduceAdd, Nat.reduceMul]
            refine ⟨(i, k + 1, l ++ [b[k]]), ⟨hi, h2, hnx⟩, by simp only; omega, Ent.weak ?_ ?_ ?_ ?_⟩
            all_goals simp (decide := true) [subT, subB, hereT, hereV, hereL, St.get, look, vI, vB, vS, cI, cS, cB, nodeC, roI, hsn, w64s (n := b.length) h2 (by omega)]
      · have hke : k = b.length := by omega
        have e3 : ((b.length : Int) ≤ (k : Int)) = True := by simp; omega
        have houtb : (row1 cI b).getD k [] = [] := by simp [List.getD, List.getElem?_eq_none (show (row1 cI b).length ≤ k by rw [row1_length]; omega)]
        have hsn := row1_snoc cI l a[i]
        simp only [cI] at hsn
        have hnx := hZ.left har hbr h' (fun y hy => by rw [hke, List.drop_length] at hy; simp at hy)
        simp (decide := true) only [e1, vB, vI, drop0, row1_length, rows_length, cI, cB, cS, roI, ro64, hpin, go_sem, Nat.reduceAdd, Nat.reduceMul]
        refine Tri.sched sized [(0, true), (1, false), (2, false), (3, false), (4, false), (5, true), (6, false), (7, false), (8, false), (9, false), (10, true), (11, true), (12, true), (14, true), (15, true), (16, true), (13, true), (17, false), (18, false), (19, false), (20, false)] mixed (by kernel_rfl) (fun C2 hC2 => ?_)
        have hp2 : ∀ o, isPin o = false → C2.pin o = none := by rw [hC2]; exact hpin
        simp (decide := true) only [e1, e3, hb1, hb2, houtb, List.getElem?_nil, Option.map_none, Option.getD_none, row1_get _ _ h', Int.natCast_nonneg, vB, vI, drop0, row1_length, rows_length, cI, cB, cS, roI, ro64, hp2, hpin, go_sem, Nat.reduceAdd, Nat.reduceMul]
        refine ⟨(i + 1, k, l ++ [a[i]]), ⟨h', hkk, hnx⟩, by simp only; omega, Ent.weak ?_ ?_ ?_ ?_⟩
        all_goals simp (decide := true) [subT, subB, hereT, hereV, hereL, St.get, look, vI, vB, vS, cI, cS, cB, nodeC, roI, hsn, w64s (n := a.length) h' (by omega)]
    · have hie : i = a.length := by omega
      have e1 : ((i : Int) < (a.length : Int)) = False := by simp; omega
      have hout : (row1 cI a).getD i [] = [] := by simp [List.getD, List.getElem?_eq_none (show (row1 cI a).length ≤ i by rw [row1_length]; omega)]
      by_cases h2 : k < b.length
      · have e2 : ((k : Int) < (b.length : Int)) = True := by simp [h2]
        have e3 : ((b.length : Int) ≤ (k : Int)) = False := by simp; omega
        have hsn := row1_snoc cI l b[k]
        simp only [cI] at hsn
        have hnx := hZ.right har hbr h2 (fun y hy => by rw [hie, List.drop_length] at hy; simp at hy)
        simp (decide := true) only [e1, e2, vB, vI, drop0, row1_length, rows_length, cI, cB, cS, roI, ro64, hpin, go_sem, Nat.reduceAdd, Nat.reduceMul]
        refine Tri.sched sized [(0, true), (1, false), (2, false), (3, false), (4, false), (5, true), (6, false), (7, false), (8, false), (9, false), (10, true), (11, true), (12, true), (14, true), (15, true), (16, true), (13, true), (17, false), (18, false), (19, false), (20, false)] mixed (by kernel_rfl) (fun C2 hC2 => ?_)
        have hp2 : ∀ o, isPin o = false → C2.pin o = none := by rw [hC2]; exact hpin
        simp (decide := true) only [e1, e2, e3, hout, List.getElem?_nil, Option.map_none, Option.getD_none, row1_get _ _ h2, Int.natCast_nonneg, vB, vI, drop0, row1_length, rows_length, cI, cB, cS, roI, ro64, hp2, go_sem, Nat.reduceAdd, Nat.reduceMul]
        refine Tri.sched sized [(0, true), (1, false), (2, false), (3, false), (4, false), (5, true), (6, true), (7, true), (9, true), (10, true), (11, true), (8, true), (12, false), (13, false), (14, false)] mixed (by kernel_rfl) (fun C3 hC3 => ?_)
        have hp3 : ∀ o, isPin o = false → C3.pin o = none := by rw [hC3]; exact hpin
        simp (decide := true) only [e1, e2, e3, hout, List.getElem?_nil, Option.map_none, Option.getD_none, row1_get _ _ h2, Int.natCast_nonneg, hb1, hb2, vB, vI, drop0, row1_length, rows_length, cI, cB, cS, roI, ro64, hp3, hpin, go_sem, Nat.reduceAdd, Nat.reduceMul]
        refine ⟨(i, k + 1, l ++ [b[k]]), ⟨hi, h2, hnx⟩, by simp only; omega, Ent.weak ?_ ?_ ?_ ?_⟩
        all_goals simp (decide := true) [subT, subB, hereT, hereV, hereL, St.get, look, vI, vB, vS, cI, cS, cB, nodeC, roI, hsn, w64s (n := b.length) h2 (by omega)]
      · have hke : k = b.length := by omega
        have e2 : ((k : Int) < (b.length : Int)) = False := by simp; omega
        have hz : Z = l := rising_eq hris hZ.ri (fun x => by
          rw [hmem x, hZ.mem x, hie, hke, List.take_length, List.take_length])
        simp (decide := true) only [e1, e2, hz, vB, vI, drop0, row1_length, rows_length, cI, cB, cS, roI, ro64, hpin, go_sem, Nat.reduceAdd, Nat.reduceMul]
        refine code_sound sized _ ?_
        simp (decide := true) only [drop0, row1_length, rows_length, cI, cB, cS, roI, ro64, hpin, go_sem, Nat.reduceAdd, Nat.reduceMul]
end Go.Proofs.YtnbodmohnkohfaaGreatDoor.AW
