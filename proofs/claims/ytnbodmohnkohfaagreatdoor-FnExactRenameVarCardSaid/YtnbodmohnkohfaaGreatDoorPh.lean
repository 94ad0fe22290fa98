/- What lies under a node, as the reference tells it. No condition beyond those named. -/
import Derived.Test.YtnbodmohnkohfaaGreatDoorPg
namespace Go.Proofs.YtnbodmohnkohfaaGreatDoor.AW
open Go.RowKit
set_option maxHeartbeats 8000000
set_option maxRecDepth 100000
set_option linter.unusedSimpArgs false
set_option linter.unusedVariables false

open Classical in
/-- Flags of what holds. -/
noncomputable def ofP (n : Nat) (P : Nat → Prop) : List Bool := (List.range n).map fun m => decide (P m)
theorem ofP_length (n : Nat) (P : Nat → Prop) : (ofP n P).length = n := by simp [ofP]
open Classical in
theorem ofP_getq {n : Nat} {P : Nat → Prop} {i : Nat} (h : i < n) : (row1 cB (ofP n P))[i]? = some [cB (decide (P i))] := by simp [row1, ofP, h]
open Classical in
theorem ofP_get {n : Nat} {P : Nat → Prop} {i : Nat} (h : i < n) : (row1 cB (ofP n P)).getD i [] = [cB (decide (P i))] := by simp [List.getD, ofP_getq h]
theorem ofP_congr {n : Nat} {P Q : Nat → Prop} (h : ∀ m, m < n → (P m ↔ Q m)) : ofP n P = ofP n Q := by
  unfold ofP
  apply List.map_congr_left
  intro m hm
  exact decide_eq_decide.2 (h m (List.mem_range.1 hm))
theorem ofP_set {n : Nat} {P : Nat → Prop} {i : Nat} (h : i < n) : (row1 cB (ofP n P)).set i [cB true] = row1 cB (ofP n (fun m => P m ∨ m = i)) := by
  apply List.ext_getElem?
  intro j
  by_cases hj : j < n
  · rw [ofP_getq hj]
    by_cases e : i = j
    · subst e
      rw [List.getElem?_set_self (by rw [row1_length, ofP_length]; exact h)]
      simp
    · rw [List.getElem?_set_ne e, ofP_getq hj]
      congr 3
      exact decide_eq_decide.2 ⟨Or.inl, fun hh => hh.elim id (fun he => (e he.symm).elim)⟩
  · rw [List.getElem?_eq_none (by rw [List.length_set, row1_length, ofP_length]; omega), List.getElem?_eq_none (by rw [row1_length, ofP_length]; omega)]
theorem ofP_false (n : Nat) : List.replicate n [cB false] = row1 cB (ofP n (fun _ => False)) := by
  apply List.ext_getElem?
  intro j
  by_cases hj : j < n
  · rw [ofP_getq hj]; simp [hj]
  · rw [List.getElem?_eq_none (by simp; omega), List.getElem?_eq_none (by rw [row1_length, ofP_length]; omega)]

theorem mark_sound (nodes : List NodeD) (hn : nodes.length ≤ 1048576) (hk : ∀ x ∈ nodes, x.kids.length ≤ 1048576) (n : Nat) : dAt nodes n ≠ 0 → ∀ P : Nat → Prop, (∀ m, m ≤ n → P m → ∀ q, Reach nodes m q → P q) →
    SoundAt Tryz.prog 30 (fun uf => argsV 0 [.ro (.imm 60 (rows (nodeC true) nodes)), .ro (.sc (.int .i64 n)), .ro (.ref 2000 [] nodes.length)]) [(2000, .row 4 (row1 cB (ofP nodes.length P)))]
      (fun rs st => rs = [] ∧ nowIs st.ob [(2000, .row 4 (row1 cB (ofP nodes.length (fun m => P m ∨ Reach nodes n m))))]) := by
  classical
  induction n using Nat.strongRecOn with
  | ind n ih =>
  intro hd P hP
  obtain ⟨hnl, hkid⟩ := kids_lt hd
  have hkx := hk nodes[n] (List.getElem_mem hnl)
  have hrec : ∀ kid ∈ nodes[n].kids, ∀ Q : Nat → Prop, (∀ m, m ≤ kid.toNat → Q m → ∀ q, Reach nodes m q → Q q) →
    SoundAt Tryz.prog 30 (fun uf => argsV 0 [.ro (.imm 60 (rows (nodeC true) nodes)), .ro (.sc (.int .i64 kid)), .ro (.ref 2000 [] nodes.length)]) [(2000, .row 4 (row1 cB (ofP nodes.length Q)))]
      (fun rs st => rs = [] ∧ nowIs st.ob [(2000, .row 4 (row1 cB (ofP nodes.length (fun m => Q m ∨ Reach nodes kid.toNat m))))]) := fun kid hkk Q hQ => by
    obtain ⟨q0, q1, q2⟩ := hkid kid hkk
    have e : kid = (kid.toNat : Int) := by omega
    have := ih kid.toNat q2 (dAt_down nodes (by omega) hd) Q hQ
    rw [← e] at this
    exact this
  have hsub : ∀ kid ∈ nodes[n].kids, ∀ m, Reach nodes kid.toNat m → Reach nodes n m := fun kid hkk m hm => (Reach.step (.refl n) hnl hkk).trans hm
  have hall : ∀ m, Reach nodes n m → n = m ∨ ∃ kid, kid ∈ nodes[n].kids ∧ Reach nodes kid.toNat m := fun m hm => by
    rcases hm.head with h | ⟨_, kid, h1, h2⟩
    · exact Or.inl h
    · exact Or.inr ⟨kid, h1, h2⟩
  generalize hx : nodes[n] = x at hkx hkid hrec hsub hall
  have hc1 : ((n : Int) < (nodes.length : Int)) = True := eq_true (by omega)
  refine sound_of_code (fn := Tryz.f30) (c := Tryz.f30.body.getD .skip) (res := []) (n := 35) sized (by kernel_rfl) (by rfl) (by kernel_rfl) (by rfl) (by rfl) (by simp [argsV]) (fun uf ub C hpin hpin2 hfull => ?_)
  simp (decide := true) only [Tryz.f30, hc1, hnl, ofP_getq hnl, Int.natCast_nonneg, drop0, row1_length, rows_length, ofP_length, cI, cB, cS, roI, ro64, hpin, hpin2, go_sem, Nat.reduceAdd, Nat.reduceMul]
  by_cases hp : P n
  · have hf : ofP nodes.length (fun m => P m ∨ Reach nodes n m) = ofP nodes.length P := ofP_congr (fun m _ => ⟨fun h => h.elim id (fun h => hP n (Nat.le_refl n) hp m h), Or.inl⟩)
    have hp1 : decide (P n) = true := decide_eq_true hp
    simp (decide := true) only [hp1, hf, drop0, row1_length, rows_length, ofP_length, cI, cB, cS, roI, ro64, hpin, hpin2, go_sem, Nat.reduceAdd, Nat.reduceMul]
  have hp1 : decide (P n) = false := decide_eq_false hp
  simp (decide := true) only [hp1, hc1, hnl, ofP_set hnl, Int.natCast_nonneg, drop0, row1_length, rows_length, ofP_length, cI, cB, cS, roI, ro64, hpin, hpin2, go_sem, Nat.reduceAdd, Nat.reduceMul]
  let Q : Nat → Nat → Prop := fun i m => (P m ∨ m = n) ∨ ∃ j, ∃ (hj : j < x.kids.length), j < i ∧ Reach nodes x.kids[j].toNat m
  refine Tri.loop (ι := Nat) (fun i => i ≤ x.kids.length) (fun i => ⟨35, [(0, .imm 60 (rows (nodeC true) nodes)), (1, vI n), (2, .ref 2000 [] nodes.length), (6, vI i)], [(2000, .row 4 (row1 cB (ofP nodes.length (Q i))))]⟩) (fun i => x.kids.length - i) 0 (by simp) ?_ ?_
  · have e0 : ofP nodes.length (Q 0) = ofP nodes.length (fun m => P m ∨ m = n) := ofP_congr (fun m _ => ⟨fun h => h.elim id (fun ⟨j, hj, h0, _⟩ => by omega), Or.inl⟩)
    have hs2 := ofP_set (P := P) hnl
    have hq2 := ofP_getq (P := P) hnl
    simp only [cB] at hs2 hq2
    refine Ent.weak ?_ ?_ ?_ ?_ <;> simp (decide := true) [subT, subB, hereT, hereV, hereL, St.get, look, vI, vB, vS, cI, cS, cB, nodeC, roI, e0, hq2, hs2]
  · rintro i hi
    refine code_sound sized _ ?_
    by_cases h' : i < x.kids.length
    · have e : ((i : Int) < (x.kids.length : Int)) = True := by simp [h']
      have hmem := List.getElem_mem h'
      obtain ⟨q0, q1, q2⟩ := hkid _ hmem
      have hQ : ∀ m, m ≤ x.kids[i].toNat → Q i m → ∀ q, Reach nodes m q → Q i q := fun m hm hq q hr => by
        rcases hq with (hq | hq) | ⟨j, hj, hji, hq⟩
        · exact Or.inl (Or.inl (hP m (by omega) hq q hr))
        · omega
        · exact Or.inr ⟨j, hj, hji, hq.trans hr⟩
      have hnext : ofP nodes.length (fun m => Q i m ∨ Reach nodes x.kids[i].toNat m) = ofP nodes.length (Q (i + 1)) := ofP_congr (fun m _ => by
        constructor
        · rintro ((h | ⟨j, hj, hji, h⟩) | h)
          · exact Or.inl h
          · exact Or.inr ⟨j, hj, by omega, h⟩
          · exact Or.inr ⟨i, h', by omega, h⟩
        · rintro (h | ⟨j, hj, hji, h⟩)
          · exact Or.inl (Or.inl h)
          · by_cases ej : j = i
            · subst ej; exact Or.inr h
            · exact Or.inl (Or.inr ⟨j, hj, by omega, h⟩))
      have hs := hrec x.kids[i] hmem (Q i) hQ
      rw [hnext] at hs
      simp (decide := true) only [e, hc1, rows_get _ _ hnl, hx, nodeC, row1_get _ _ h', Int.natCast_nonneg, vB, vI, drop0, row1_length, rows_length, ofP_length, cI, cB, cS, roI, ro64, hpin, hpin2, go_sem, Nat.reduceAdd, Nat.reduceMul]
      refine aCall_iod hs hpin [(2000, 2000)] ⟨rfl, rfl, rfl⟩ (fun uf => ⟨rfl, rfl⟩) (fun uf => ?_) ?_
      · simp (decide := true) only [drop0, row1_length, rows_length, ofP_length, cI, cB, cS, roI, ro64, hpin, hpin2, go_sem, Nat.reduceAdd, Nat.reduceMul]
      simp (decide := true) only [drop0, row1_length, rows_length, ofP_length, cI, cB, cS, roI, ro64, hpin, hpin2, go_sem, Nat.reduceAdd, Nat.reduceMul]
      refine ⟨i + 1, h', by omega, Ent.weak ?_ ?_ ?_ ?_⟩
      all_goals simp (decide := true) [subT, subB, hereT, hereV, hereL, St.get, look, vI, vB, vS, cI, cS, cB, nodeC, roI, w64s (n := x.kids.length) h' (by omega)]
    · have hil : i = x.kids.length := by omega
      subst hil
      have e : ((x.kids.length : Int) < (x.kids.length : Int)) = False := by simp
      have hf : ofP nodes.length (Q x.kids.length) = ofP nodes.length (fun m => P m ∨ Reach nodes n m) := ofP_congr (fun m _ => by
        constructor
        · rintro ((h | rfl) | ⟨j, hj, _, h⟩)
          · exact Or.inl h
          · exact Or.inr (.refl _)
          · exact Or.inr (hsub _ (List.getElem_mem hj) m h)
        · rintro (h | h)
          · exact Or.inl (Or.inl h)
          · rcases hall m h with rfl | ⟨kid, hkk, hr⟩
            · exact Or.inl (Or.inr rfl)
            · obtain ⟨j, hj, rfl⟩ := List.getElem_of_mem hkk
              exact Or.inr ⟨j, hj, hj, hr⟩)
      rw [hf]
      simp (decide := true) only [e, hc1, rows_get _ _ hnl, hx, nodeC, Int.natCast_nonneg, vB, vI, drop0, row1_length, rows_length, ofP_length, cI, cB, cS, roI, ro64, hpin, hpin2, go_sem, Nat.reduceAdd, Nat.reduceMul]
end Go.Proofs.YtnbodmohnkohfaaGreatDoor.AW
