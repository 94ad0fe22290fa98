/- What lies under a node, as the program tells it. No condition beyond those named. -/
import Derived.Test.YtnbodmohnkohfaaGreatDoorPs
namespace Go.Proofs.YtnbodmohnkohfaaGreatDoor.AW
open Go.RowKit
set_option maxHeartbeats 8000000
set_option maxRecDepth 100000
set_option linter.unusedSimpArgs false
set_option linter.unusedVariables false

theorem deepSS_sound (nodes : List NodeD) (k : Int) (hn : nodes.length ≤ 1048576) (hk : ∀ x ∈ nodes, x.kids.length ≤ 1048576) : Sound Tryz.prog 148 [.ro (.imm 60 (rows (nodeC true) nodes)), .ro (.sc (.int .i64 k))] (fun rs st => rs = [(false, [cI (deepOf nodes k)])]) := by
  refine sound_code (fn := Tryz.f148) (c := Tryz.f148.body.getD .skip) (res := [.tm 4]) (n := 17) sized (by kernel_rfl) (by rfl) (by kernel_rfl) (by rfl) (by rfl) (by simp [argsV]) (fun C hpin hfull => ?_)
  have w1 : IntKind.i64.wrap ((nodes.length : Int) - 1) = (nodes.length : Int) - 1 := w64 (by omega) (by omega)
  simp (decide := true) only [Tryz.f148, w1, drop0, row1_length, rows_length, cI, cB, cS, roI, ro64, hpin, go_sem, Nat.reduceAdd, Nat.reduceMul]
  refine aCall_det (l01In' k 0 (nodes.length - 1)) hpin ?_
  simp (decide := true) only [drop0, row1_length, rows_length, cI, cB, cS, roI, ro64, hpin, go_sem, Nat.reduceAdd, Nat.reduceMul]
  cases h0 : inI k 0 (nodes.length - 1) with
  | false =>
    have hz : deepOf nodes k = 0 := by simp [deepOf, h0]
    simp (decide := true) only [hz, drop0, row1_length, rows_length, cI, cB, cS, roI, ro64, hpin, go_sem, Nat.reduceAdd, Nat.reduceMul]
  | true =>
    have hr := inI_true h0
    obtain ⟨n, rfl⟩ : ∃ n : Nat, k = n := ⟨k.toNat, by omega⟩
    have hl := deeps_length nodes (n + 1)
    have hlt : n < (deeps nodes (n + 1)).length := by omega
    have hg : (deeps nodes (n + 1))[n] = deepOf nodes n := by
      have := deeps_get nodes (show n < n + 1 by omega)
      simp only [List.getD, hlt, List.getElem?_eq_getElem, Option.getD_some] at this
      rw [this]; simp [deepOf, h0, dAt]
    have hc : ((n : Int) < ((n + 1 : Nat) : Int)) = True := eq_true (by omega)
    simp (decide := true) only [drop0, row1_length, rows_length, cI, cB, cS, roI, ro64, hpin, go_sem, Nat.reduceAdd, Nat.reduceMul]
    refine aCall_det (deepsS_sound nodes n (by omega) hn hk) hpin ?_
    simp (decide := true) only [hl, hc, row1_getq' _ _ hlt, hg, Int.natCast_nonneg, drop0, row1_length, rows_length, cI, cB, cS, roI, ro64, hpin, go_sem, Nat.reduceAdd, Nat.reduceMul]

/-- From one node down to another one. -/
inductive Reach (nodes : List NodeD) : Nat → Nat → Prop
  | refl (n : Nat) : Reach nodes n n
  | step {n m : Nat} {kid : Int} (h : Reach nodes n m) (hm : m < nodes.length) (hk : kid ∈ nodes[m].kids) : Reach nodes n kid.toNat

theorem Reach.trans {nodes : List NodeD} {a b c : Nat} (h : Reach nodes a b) (h' : Reach nodes b c) : Reach nodes a c := by
  induction h' with
  | refl => exact h
  | step _ hm hk ih => exact .step ih hm hk
theorem kids_lt {nodes : List NodeD} {n : Nat} (hd : dAt nodes n ≠ 0) : ∃ h : n < nodes.length, ∀ kid ∈ nodes[n].kids, 0 ≤ kid ∧ kid < n ∧ kid.toNat < n := by
  obtain ⟨h, hh⟩ := kid_lt (dAt_node nodes n hd)
  refine ⟨h, fun kid hk => ?_⟩
  obtain ⟨i, hi, rfl⟩ := List.getElem_of_mem hk
  exact hh i hi
theorem Reach.le {nodes : List NodeD} {n m : Nat} (h : Reach nodes n m) (hd : dAt nodes n ≠ 0) : m ≤ n := by
  induction h with
  | refl => exact Nat.le_refl _
  | @step m kid h hm hk ih =>
    obtain ⟨_, hh⟩ := kids_lt (dAt_down nodes ih hd)
    have := hh kid hk
    omega
theorem Reach.head {nodes : List NodeD} {n m : Nat} (h : Reach nodes n m) : n = m ∨ ∃ (hn : n < nodes.length) (kid : Int), kid ∈ nodes[n].kids ∧ Reach nodes kid.toNat m := by
  induction h with
  | refl => exact Or.inl rfl
  | @step m kid h hm hk ih =>
    rcases ih with rfl | ⟨hn, k2, hk2, hr⟩
    · exact Or.inr ⟨hm, kid, hk, .refl _⟩
    · exact Or.inr ⟨hn, k2, hk2, .step hr hm hk⟩
open Classical in
/-- A node and all below it, rising. -/
noncomputable def underN (nodes : List NodeD) (n : Nat) : List Nat := (List.range (n + 1)).filter fun m => decide (Reach nodes n m)
noncomputable def underL (nodes : List NodeD) (n : Nat) : List Int := (underN nodes n).map fun (m : Nat) => (m : Int)
theorem underN_mem {nodes : List NodeD} {n m : Nat} (hd : dAt nodes n ≠ 0) : m ∈ underN nodes n ↔ Reach nodes n m := by
  unfold underN
  simp only [List.mem_filter, List.mem_range, decide_eq_true_eq]
  exact ⟨fun h => h.2, fun h => ⟨by have := h.le hd; omega, h⟩⟩
theorem underN_rising (nodes : List NodeD) (n : Nat) : (underN nodes n).Pairwise (· < ·) := List.Pairwise.filter _ List.pairwise_lt_range
theorem underL_rising (nodes : List NodeD) (n : Nat) : (underL nodes n).Pairwise (· < ·) := by
  unfold underL
  rw [List.pairwise_map]
  exact (underN_rising nodes n).imp (fun h => by omega)
theorem underN_length (nodes : List NodeD) (n : Nat) : (underN nodes n).length ≤ n + 1 := by
  unfold underN
  exact Nat.le_trans (List.length_filter_le _ _) (by simp)
def ints (l : List Nat) : List Int := l.map fun (m : Nat) => (m : Int)
theorem ints_length (l : List Nat) : (ints l).length = l.length := by simp [ints]
theorem ints_mem {l : List Nat} {m : Nat} : (m : Int) ∈ ints l ↔ m ∈ l := by
  unfold ints
  simp only [List.mem_map]
  exact ⟨fun ⟨a, ha, e⟩ => by have : a = m := by omega
                              rw [← this]; exact ha, fun h => ⟨m, h, rfl⟩⟩
theorem ints_take (l : List Nat) : (row1 cI (ints l)).take l.length = row1 cI (ints l) := by
  have := row1_takeL cI (ints l)
  rwa [ints_length] at this
theorem ints_has {l : List Nat} {k : Int} (h : 0 ≤ k) : (ints l).contains k = l.contains k.toNat := by
  rw [Bool.eq_iff_iff]
  simp only [List.contains_iff_mem]
  have e : k = (k.toNat : Int) := by omega
  conv => lhs; rw [e]
  exact ints_mem
theorem ints_snoc (l : List Nat) {k : Int} (h : 0 ≤ k) : row1 cI (ints l) ++ [[cI k]] = row1 cI (ints (l ++ [k.toNat])) := by
  have e : (k.toNat : Int) = k := by omega
  simp [row1, ints, e]
theorem ints_getq (l : List Nat) {i : Nat} (h : i < l.length) : (row1 cI (ints l))[i]? = some [cI (l[i] : Int)] := by simp [row1, ints, h]
theorem nodup_lt : ∀ {n : Nat} {l : List Nat}, l.Nodup → (∀ x ∈ l, x < n) → l.length ≤ n
  | 0, l, _, hl => by
    cases l with
    | nil => simp
    | cons x r => have := hl x List.mem_cons_self; omega
  | n + 1, l, h, hl => by
    by_cases hn : n ∈ l
    · have h1 := nodup_lt (n := n) (l := l.erase n) (h.erase n) (fun x hx => by
        have := h.mem_erase_iff.1 hx
        have h2 := hl x this.2
        have h3 := this.1
        omega)
      rw [List.length_erase_of_mem hn] at h1
      omega
    · have := nodup_lt (n := n) h (fun x hx => by
        have h2 := hl x hx
        have h3 : x ≠ n := fun e => hn (e ▸ hx)
        omega)
      omega
/-- So few can be different. -/
theorem nodup_le {l : List Nat} {n : Nat} (h : l.Nodup) (hl : ∀ x ∈ l, x ≤ n) : l.length ≤ n + 1 := nodup_lt h (fun x hx => by have := hl x hx; omega)

/-- A row that the worklist goes through: what is in it, and whose kids are in it. -/
structure Work (nodes : List NodeD) (n : Nat) (l : List Nat) (i : Nat) : Prop where
  nodup : l.Nodup
  reach : ∀ x ∈ l, Reach nodes n x
  root : n ∈ l
  done : ∀ p (hp : p < l.length), p < i → ∀ (hl : l[p] < nodes.length), ∀ kid ∈ nodes[l[p]].kids, kid.toNat ∈ l
  le : i ≤ l.length

theorem under_sound (nodes : List NodeD) (n : Nat) (hd : dAt nodes n ≠ 0) (hn : nodes.length ≤ 1048576) (hk : ∀ x ∈ nodes, x.kids.length ≤ 1048576) : Sound Tryz.prog 95 [.ro (.imm 60 (rows (nodeC true) nodes)), .ro (.sc (.int .i64 n))] (fun rs st => rs = [(false, [.row false 3 (row1 cI (underL nodes n))])]) := by
  refine sound_tri (fn := Tryz.f95) (c := Tryz.f95.body.getD .skip) (res := [.tm 4]) (n := 42) sized (by kernel_rfl) (by rfl) (by kernel_rfl) (by rfl) (by rfl) (by simp [argsV]) (fun uf ub C hpin hpin2 hfull => ?_)
  simp only [Tryz.f95, Option.getD_some]
  obtain ⟨hnl, _⟩ := kids_lt hd
  refine Tri.step sized ?_
  simp (decide := true) only [drop0, row1_length, rows_length, cI, cB, cS, roI, ro64, hpin, go_sem, Nat.reduceAdd, Nat.reduceMul]
  refine Tri.step sized ?_
  simp (decide := true) only [drop0, row1_length, rows_length, cI, cB, cS, roI, ro64, hpin, go_sem, Nat.reduceAdd, Nat.reduceMul]
  refine Tri.step sized ?_
  simp (decide := true) only [drop0, row1_length, rows_length, cI, cB, cS, roI, ro64, hpin, go_sem, Nat.reduceAdd, Nat.reduceMul]
  have e1 : row1 cI (ints [n]) = [[cI n]] := rfl
  refine Tri.loop (ι := List Nat × Nat) (fun q => Work nodes n q.1 q.2) (fun q => ⟨42, [(0, .imm 60 (rows (nodeC true) nodes)), (1, vI n), (5, .ref 5 [] q.1.length), (6, vI q.2)], [(5, .row 3 (row1 cI (ints q.1)))]⟩) (fun q => n + 1 - q.2) ([n], 0) ⟨by simp, fun x hx => by simp at hx; subst hx; exact .refl _, by simp, fun p hp hp2 => by omega, by simp⟩ ?_ ?_
  · refine Ent.weak ?_ ?_ ?_ ?_ <;> simp (decide := true) [subT, subB, hereT, hereV, hereL, St.get, look, vI, vB, vS, cI, cS, cB, nodeC, roI, ints, row1]
  · rintro ⟨l, i⟩ hW
    simp only at hW ⊢
    have hle : ∀ x ∈ l, x ≤ n := fun x hx => (hW.reach x hx).le hd
    have hll := nodup_le hW.nodup hle
    refine code_sound sized _ ?_
    by_cases h' : i < l.length
    · have e : ((i : Int) < (l.length : Int)) = True := by simp [h']
      have hli := hle l[i] (List.getElem_mem h')
      have hli2 : l[i] < nodes.length := by omega
      obtain ⟨_, hkid⟩ := kids_lt (dAt_down nodes hli hd)
      have hc1 : ((l[i] : Int) < (nodes.length : Int)) = True := eq_true (by omega)
      have hkx := hk nodes[l[i]] (List.getElem_mem hli2)
      generalize hx : nodes[l[i]] = x at hkid hkx
      simp (decide := true) only [e, hc1, h', ints_length, ints_getq l h', rows_get _ _ hli2, hx, nodeC, Int.natCast_nonneg, vB, vI, drop0, row1_length, rows_length, cI, cB, cS, roI, ro64, hpin, go_sem, Nat.reduceAdd, Nat.reduceMul]
      refine Tri.loop (ι := List Nat × Nat) (fun q => q.2 ≤ x.kids.length ∧ Work nodes n q.1 i ∧ l <+: q.1 ∧ ∀ j (hj : j < x.kids.length), j < q.2 → x.kids[j].toNat ∈ q.1) (fun q => ⟨42, [(0, .imm 60 (rows (nodeC true) nodes)), (1, vI n), (5, .ref 5 [] q.1.length), (6, vI i), (24, roI x.kids), (25, vI x.kids.length), (26, vI q.2)], [(5, .row 3 (row1 cI (ints q.1)))]⟩) (fun q => x.kids.length - q.2) (l, 0) ⟨by simp, hW, List.prefix_refl _, fun j hj h0 => by omega⟩ ?_ ?_
      · refine Ent.weak ?_ ?_ ?_ ?_ <;> simp (decide := true) [subT, subB, hereT, hereV, hereL, St.get, look, vI, vB, vS, cI, cS, cB, nodeC, roI]
      · rintro ⟨m, j⟩ ⟨hj, hV, hpre, hin⟩
        simp only at hj hV hpre hin ⊢
        have hle2 : ∀ x ∈ m, x ≤ n := fun x hx => (hV.reach x hx).le hd
        have hml := nodup_le hV.nodup hle2
        refine code_sound sized _ ?_
        have hmi : ∀ (h : i < m.length), m[i] = l[i] := fun h => by
          obtain ⟨t, rfl⟩ := hpre
          rw [List.getElem_append_left h']
        have hlm : l.length ≤ m.length := hpre.length_le
        by_cases hj' : j < x.kids.length
        · have e2 : ((j : Int) < (x.kids.length : Int)) = True := by simp [hj']
          obtain ⟨q0, q1, q2⟩ := hkid x.kids[j] (List.getElem_mem hj')
          simp (decide := true) only [e2, row1_get _ _ hj', ints_length, Int.natCast_nonneg, vB, vI, drop0, row1_length, rows_length, cI, cB, cS, roI, ro64, hpin, go_sem, Nat.reduceAdd, Nat.reduceMul]
          refine aCall_det (hasInt_sound (ints m) x.kids[j] (by rw [ints_length]; omega)) hpin ?_
          simp (decide := true) only [ints_length, ints_take, drop0, row1_length, rows_length, cI, cB, cS, roI, ro64, hpin, go_sem, Nat.reduceAdd, Nat.reduceMul]
          rw [ints_has q0]
          cases hc : m.contains x.kids[j].toNat with
          | true =>
            simp (decide := true) only [hc, drop0, row1_length, rows_length, cI, cB, cS, roI, ro64, hpin, go_sem, Nat.reduceAdd, Nat.reduceMul]
            refine ⟨(m, j + 1), ⟨hj', hV, hpre, fun a ha ha2 => ?_⟩, by simp only; omega, Ent.weak ?_ ?_ ?_ ?_⟩
            · by_cases ea : a = j
              · subst ea; simpa using hc
              · exact hin a ha (by omega)
            all_goals simp (decide := true) [subT, subB, hereT, hereV, hereL, St.get, look, vI, vB, vS, cI, cS, cB, nodeC, roI, w64s (n := x.kids.length) hj' (by omega)]
          | false =>
            have hb1 : m.length + 1 ≤ 140737488355328 := by omega
            have hb2 : (m.length + 1) * 8 ≤ 140737488355328 := by omega
            have hsn := ints_snoc m q0
            simp (decide := true) only [hc, ints_length, hb1, hb2, drop0, row1_length, rows_length, cI, cB, cS, roI, ro64, hpin, go_sem, Nat.reduceAdd, Nat.reduceMul]
            have hnm : x.kids[j].toNat ∉ m := by simpa using hc
            refine ⟨(m ++ [x.kids[j].toNat], j + 1), ⟨hj', ⟨?_, ?_, ?_, ?_, ?_⟩, hpre.trans (List.prefix_append _ _), fun a ha ha2 => ?_⟩, by simp only; omega, Ent.weak ?_ ?_ ?_ ?_⟩
            · rw [List.nodup_append]
              exact ⟨hV.nodup, by simp, fun a ha b hb => by simp at hb; subst hb; exact fun e => hnm (e ▸ ha)⟩
            · intro a ha
              rcases List.mem_append.1 ha with ha | ha
              · exact hV.reach a ha
              · simp at ha; subst ha
                exact .step (hW.reach l[i] (List.getElem_mem h')) hli2 (by rw [hx]; exact List.getElem_mem hj')
            · exact List.mem_append_left _ hV.root
            · intro p hp hp2 hl kid hkk
              have hpm : p < m.length := by omega
              rw [List.getElem_append_left hpm] at hl
              have e5 : (m ++ [x.kids[j].toNat])[p] = m[p] := List.getElem_append_left hpm
              simp only [e5] at hkk
              exact List.mem_append_left _ (hV.done p hpm hp2 hl kid hkk)
            · simp; omega
            · by_cases ea : a = j
              · subst ea; simp
              · exact List.mem_append_left _ (hin a ha (by omega))
            all_goals simp (decide := true) [subT, subB, hereT, hereV, hereL, St.get, look, vI, vB, vS, cI, cS, cB, nodeC, roI, w64s (n := x.kids.length) hj' (by omega), ← hsn, row1, ints, Int.max_eq_left q0]
        · have hjl : j = x.kids.length := by omega
          subst hjl
          have e2 : ((x.kids.length : Int) < (x.kids.length : Int)) = False := by simp
          simp (decide := true) only [e2, vB, vI, drop0, row1_length, rows_length, cI, cB, cS, roI, ro64, hpin, go_sem, Nat.reduceAdd, Nat.reduceMul]
          refine ⟨(m, i + 1), ⟨hV.nodup, hV.reach, hV.root, fun p hp hp2 hl kid hkk => ?_, by simp only; omega⟩, by simp only; omega, Ent.weak ?_ ?_ ?_ ?_⟩
          · by_cases ep : p = i
            · subst ep
              simp only [hmi hp] at hl hkk
              rw [hx] at hkk
              obtain ⟨a, ha, rfl⟩ := List.getElem_of_mem hkk
              exact hin a ha ha
            · exact hV.done p hp (by omega) hl kid hkk
          all_goals simp (decide := true) [subT, subB, hereT, hereV, hereL, St.get, look, vI, vB, vS, cI, cS, cB, nodeC, roI, w64s (n := l.length) h' (by omega)]
    · have hil : i = l.length := by have := hW.le; omega
      subst hil
      have e : ((l.length : Int) < (l.length : Int)) = False := by simp
      have hs : sorted (ints l) = underL nodes n := by
        refine sorted_eq ?_ (underL_rising nodes n) (fun z => ?_)
        · unfold ints
          exact List.Pairwise.map _ (fun a b hab h => hab (by omega)) hW.nodup
        · have key : ∀ m, Reach nodes n m → m ∈ l := fun m hm => by
            induction hm with
            | refl => exact hW.root
            | @step m kid h hm hk ih =>
              obtain ⟨p, hp, rfl⟩ := List.getElem_of_mem ih
              exact hW.done p hp hp hm kid hk
          unfold ints underL
          simp only [List.mem_map]
          exact ⟨fun ⟨m, hm, he⟩ => ⟨m, (underN_mem hd).2 (hW.reach m hm), he⟩, fun ⟨m, hm, he⟩ => ⟨m, key m ((underN_mem hd).1 hm), he⟩⟩
      have hul : (underL nodes n).length = l.length := by rw [← hs, sorted_length, ints_length]
      simp (decide := true) only [e, vB, vI, drop0, row1_length, rows_length, cI, cB, cS, roI, ro64, hpin, go_sem, Nat.reduceAdd, Nat.reduceMul]
      refine Tri.step sized ?_
      simp (decide := true) only [ints_length, drop0, row1_length, rows_length, cI, cB, cS, roI, ro64, hpin, go_sem, Nat.reduceAdd, Nat.reduceMul]
      refine aCall_iod (sortInts_sound (ints l) (by rw [ints_length]; omega)) hpin [(2000, 5)] ⟨rfl, rfl, rfl⟩ (fun uf => ⟨rfl, rfl⟩) (fun uf => ?_) ?_
      · simp (decide := true) only [ints_length, drop0, row1_length, rows_length, cI, cB, cS, roI, ro64, go_sem, Nat.reduceAdd, Nat.reduceMul]
      simp (decide := true) only [ints_length, sorted_length, hs, hul, drop0, row1_length, rows_length, cI, cB, cS, roI, ro64, hpin, go_sem, Nat.reduceAdd, Nat.reduceMul]
      refine code_sound sized _ ?_
      simp (decide := true) only [ints_length, hul, drop0, row1_length, rows_length, cI, cB, cS, roI, ro64, hpin, go_sem, Nat.reduceAdd, Nat.reduceMul]
end Go.Proofs.YtnbodmohnkohfaaGreatDoor.AW
