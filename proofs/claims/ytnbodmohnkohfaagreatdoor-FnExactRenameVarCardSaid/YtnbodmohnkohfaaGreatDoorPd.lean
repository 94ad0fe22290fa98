/- How deep nodes are. No condition beyond those named. -/
import Derived.Test.YtnbodmohnkohfaaGreatDoorPc
namespace Go.Proofs.YtnbodmohnkohfaaGreatDoor.AW
open Go.RowKit
set_option maxHeartbeats 8000000
set_option maxRecDepth 100000
set_option linter.unusedSimpArgs false
set_option linter.unusedVariables false

def deepK (l : List Int) (d : Int) (kids : List Int) : Int := kids.foldl (fun d kid => max d (l.getD kid.toNat 0 + 1)) d
def deepC (d : Int) : Int := if 10 < d then 0 else d
def deepS (nodes : List NodeD) (l : List Int) (n : Nat) : Int := if nodeB nodes n && (n == 0 || !(l.getD (n - 1) 0 == 0)) then deepC (deepK l 1 (nAt nodes n).kids) else 0
def deeps (nodes : List NodeD) : Nat → List Int
  | 0 => []
  | n + 1 => deeps nodes n ++ [deepS nodes (deeps nodes n) n]
theorem deeps_length (nodes : List NodeD) : ∀ n, (deeps nodes n).length = n
  | 0 => rfl
  | n + 1 => by simp [deeps, deeps_length nodes n]
theorem deeps_get (nodes : List NodeD) {n i : Nat} (h : i < n) : (deeps nodes n).getD i 0 = deepS nodes (deeps nodes i) i := by
  induction n with
  | zero => omega
  | succ n ih =>
    simp only [deeps, List.getD]
    by_cases hi : i < n
    · rw [List.getElem?_append_left (by rw [deeps_length]; exact hi)]
      exact ih hi
    · have : i = n := by omega
      subst this
      rw [List.getElem?_append_right (by rw [deeps_length]; omega), deeps_length, Nat.sub_self]; rfl
theorem deepK_ge (l : List Int) : ∀ (kids : List Int) (d : Int), d ≤ deepK l d kids
  | [], d => Int.le_refl d
  | k :: r, d => by
    simp only [deepK, List.foldl_cons]
    exact Int.le_trans (Int.le_max_left _ _) (deepK_ge l r _)
theorem deepK_le (l : List Int) (hl : ∀ i, l.getD i 0 ≤ 10) : ∀ (kids : List Int) (d : Int), d ≤ 11 → deepK l d kids ≤ 11
  | [], d, h => h
  | k :: r, d, h => by
    simp only [deepK, List.foldl_cons]
    have := hl k.toNat
    exact deepK_le l hl r _ (by omega)
theorem deepK_take (l kids : List Int) (d : Int) {i : Nat} (h : i < kids.length) : deepK l d (kids.take (i + 1)) = max (deepK l d (kids.take i)) (l.getD kids[i].toNat 0 + 1) := by
  rw [List.take_succ_eq_append_getElem h]; simp only [deepK, List.foldl_append, List.foldl_cons, List.foldl_nil]
theorem deepS_range (nodes : List NodeD) (l : List Int) (n : Nat) : 0 ≤ deepS nodes l n ∧ deepS nodes l n ≤ 10 := by
  unfold deepS
  split
  · have := deepK_ge l (nAt nodes n).kids 1
    unfold deepC
    split <;> omega
  · omega
theorem deeps_range (nodes : List NodeD) (n i : Nat) : 0 ≤ (deeps nodes n).getD i 0 ∧ (deeps nodes n).getD i 0 ≤ 10 := by
  by_cases h : i < n
  · rw [deeps_get nodes h]; exact deepS_range _ _ _
  · simp [List.getD, List.getElem?_eq_none (show (deeps nodes n).length ≤ i by rw [deeps_length]; omega)]
/-- A node's depth; 0 when it has none. -/
def dAt (nodes : List NodeD) (n : Nat) : Int := deepS nodes (deeps nodes n) n
theorem dAt_step (nodes : List NodeD) (n : Nat) (h : dAt nodes (n + 1) ≠ 0) : dAt nodes n ≠ 0 := by
  intro h0
  apply h
  have : (deeps nodes (n + 1)).getD n 0 = 0 := by rw [deeps_get nodes (Nat.lt_succ_self n)]; exact h0
  unfold dAt deepS
  rw [Nat.add_sub_cancel, this]
  simp
theorem dAt_down (nodes : List NodeD) : ∀ {n i : Nat}, i ≤ n → dAt nodes n ≠ 0 → dAt nodes i ≠ 0
  | 0, i, h, hd => by have : i = 0 := by omega
                      subst this; exact hd
  | n + 1, i, h, hd => by
    by_cases e : i = n + 1
    · subst e; exact hd
    · exact dAt_down nodes (by omega) (dAt_step nodes n hd)
def deepOf (nodes : List NodeD) (k : Int) : Int := if inI k 0 (nodes.length - 1) then dAt nodes k.toNat else 0
theorem dAt_node (nodes : List NodeD) (n : Nat) (h : dAt nodes n ≠ 0) : nodeB nodes n = true := by
  unfold dAt deepS at h
  cases hb : nodeB nodes n with
  | true => rfl
  | false => simp [hb] at h
theorem dAt_val (nodes : List NodeD) (n : Nat) (hb : nodeB nodes n = true) (hd : n = 0 ∨ dAt nodes (n - 1) ≠ 0) : dAt nodes n = deepC (deepK (deeps nodes n) 1 (nAt nodes n).kids) := by
  unfold dAt deepS
  have : (n == 0 || !((deeps nodes n).getD (n - 1) 0 == 0)) = true := by
    rcases hd with hd | hd
    · simp [hd]
    · by_cases h0 : n = 0
      · simp [h0]
      · rw [deeps_get nodes (show n - 1 < n by omega)]
        unfold dAt at hd
        simp [hd]
  rw [hb, this]; rfl
theorem kid_lt {nodes : List NodeD} {n : Nat} (hb : nodeB nodes n = true) : ∃ h : n < nodes.length, ∀ i (hi : i < nodes[n].kids.length), 0 ≤ nodes[n].kids[i] ∧ nodes[n].kids[i] < n ∧ nodes[n].kids[i].toNat < n := by
  unfold nodeB at hb
  simp only [Bool.and_eq_true] at hb
  have hr := inI_true hb.1
  have hl : n < nodes.length := by omega
  refine ⟨hl, fun i hi => ?_⟩
  have h2 := hb.2
  rw [nAt_nat hl] at h2
  unfold nodeXB at h2
  simp only [Bool.and_eq_true] at h2
  have h3 := rangeB_true.1 h2.2.2.2.2 i hi
  unfold kidB at h3
  simp only [Bool.and_eq_true] at h3
  have h4 := inI_true h3.1
  have hg : nodes[n].kids.getD i 0 = nodes[n].kids[i] := by simp [List.getD, hi]
  rw [hg] at h4
  omega

theorem maxI (a b : Int) : (if b > a then b else a) = max a b := by rw [Int.max_def]; split <;> split <;> omega
theorem row1_getq' {α : Type} (f : α → D) (l : List α) {i : Nat} (h : i < l.length) : (row1 f l)[i]? = some [f l[i]] := by simp [row1, h]
theorem snoc_row (l : List Int) (d : Int) : row1 cI l ++ [[cI d]] = row1 cI (l ++ [d]) := by simp [row1]

def okD (nodes : List NodeD) (k : Int) : Bool := !(deepOf nodes k == 0)
def okL (nodes : List NodeD) (k : Int) : List Int := if okD nodes k then deeps nodes (k.toNat + 1) else []

theorem depths_sound (nodes : List NodeD) (k : Int) (hn : nodes.length ≤ 1048576) (hk : ∀ x ∈ nodes, x.kids.length ≤ 1048576) : Sound Tryz.prog 161 [.ro (.imm 60 (rows (nodeC true) nodes)), .ro (.sc (.int .i64 k))] (fun rs st => rs = [(false, [.row false 3 (row1 cI (okL nodes k))]), (false, [cB (okD nodes k)])]) := by
  refine sound_tri (fn := Tryz.f161) (c := Tryz.f161.body.getD .skip) (res := [.tm 4, .tm 5]) (n := 51) sized (by kernel_rfl) (by rfl) (by kernel_rfl) (by rfl) (by rfl) (by simp [argsV]) (fun uf ub C hpin hpin2 hfull => ?_)
  simp only [Tryz.f161, Option.getD_some]
  have w1 : IntKind.i64.wrap ((nodes.length : Int) - 1) = (nodes.length : Int) - 1 := w64 (by omega) (by omega)
  have e0 : row1 cI ([] : List Int) = [] := rfl
  refine Tri.step sized ?_
  simp (decide := true) only [drop0, row1_length, rows_length, cI, cB, cS, roI, ro64, hpin, go_sem, Nat.reduceAdd, Nat.reduceMul]
  refine Tri.step sized ?_
  simp (decide := true) only [w1, drop0, row1_length, rows_length, cI, cB, cS, roI, ro64, hpin, go_sem, Nat.reduceAdd, Nat.reduceMul]
  refine aCall_det (in' k 0 (nodes.length - 1)) hpin ?_
  simp (decide := true) only [drop0, row1_length, rows_length, cI, cB, cS, roI, ro64, hpin, go_sem, Nat.reduceAdd, Nat.reduceMul]
  cases h0 : inI k 0 (nodes.length - 1) with
  | false =>
    have hf : okD nodes k = false := by simp [okD, deepOf, h0]
    have hf2 : okL nodes k = [] := by simp [okL, hf]
    simp (decide := true) only [hf, hf2, e0, drop0, row1_length, rows_length, cI, cB, cS, roI, ro64, hpin, go_sem, Nat.reduceAdd, Nat.reduceMul]
  | true =>
  have hr := inI_true h0
  obtain ⟨n, rfl⟩ : ∃ n : Nat, k = n := ⟨k.toNat, by omega⟩
  have hnl : n < nodes.length := by omega
  have hdo : deepOf nodes (n : Int) = dAt nodes n := by simp [deepOf, h0]
  have bad : ∀ i, i ≤ n → dAt nodes i = 0 → okD nodes n = false ∧ okL nodes n = [] := fun i hi hd => by
    have hz : dAt nodes n = 0 := Classical.byContradiction fun hne => dAt_down nodes hi hne hd
    have hf : okD nodes n = false := by simp [okD, hdo, hz]
    exact ⟨hf, by simp [okL, hf]⟩
  simp (decide := true) only [drop0, row1_length, rows_length, cI, cB, cS, roI, ro64, hpin, go_sem, Nat.reduceAdd, Nat.reduceMul]
  refine Tri.step sized ?_
  simp (decide := true) only [drop0, row1_length, rows_length, cI, cB, cS, roI, ro64, hpin, go_sem, Nat.reduceAdd, Nat.reduceMul]
  refine Tri.step sized ?_
  simp (decide := true) only [drop0, row1_length, rows_length, cI, cB, cS, roI, ro64, hpin, go_sem, Nat.reduceAdd, Nat.reduceMul]
  refine Tri.loop (ι := Nat) (fun i => i ≤ n + 1 ∧ ∀ j, j < i → dAt nodes j ≠ 0) (fun i => ⟨51, [(0, .imm 60 (rows (nodeC true) nodes)), (1, vI n), (6, .ref 6 [] i), (7, vI i)], [(6, .row 3 (row1 cI (deeps nodes i)))]⟩) (fun i => n + 1 - i) 0 ⟨by simp, fun j hj => by omega⟩ ?_ ?_
  · refine Ent.weak ?_ ?_ ?_ ?_ <;> simp (decide := true) [subT, subB, hereT, hereV, hereL, St.get, look, vI, vB, vS, cI, cS, cB, nodeC, roI, deeps, row1]
  · rintro i ⟨hi, hq⟩
    refine code_sound sized _ ?_
    have hlen := deeps_length nodes i
    by_cases h' : i < n + 1
    · have e : ((i : Int) ≤ (n : Int)) = True := by simp; omega
      have hil : i < nodes.length := by omega
      have hc1 : ((i : Int) < (nodes.length : Int)) = True := eq_true (by omega)
      simp (decide := true) only [e, vB, vI, drop0, row1_length, rows_length, cI, cB, cS, roI, ro64, hpin, go_sem, Nat.reduceAdd, Nat.reduceMul]
      refine aCall_det (nodeI_sound nodes i hn hk) hpin ?_
      simp (decide := true) only [drop0, row1_length, rows_length, cI, cB, cS, roI, ro64, hpin, go_sem, Nat.reduceAdd, Nat.reduceMul]
      cases hb : nodeB nodes i with
      | false =>
        obtain ⟨f1, f2⟩ := bad i (by omega) (Classical.byContradiction fun hne => by rw [dAt_node nodes i hne] at hb; cases hb)
        simp (decide := true) only [f1, f2, e0, drop0, row1_length, rows_length, cI, cB, cS, roI, ro64, hpin, go_sem, Nat.reduceAdd, Nat.reduceMul]
      | true =>
      obtain ⟨_, hkid⟩ := kid_lt hb
      have hv := dAt_val nodes i hb (by
        by_cases hz : i = 0
        · exact Or.inl hz
        · exact Or.inr (hq (i - 1) (by omega)))
      rw [nAt_nat hil] at hv
      have hkx := hk nodes[i] (List.getElem_mem hil)
      generalize hx : nodes[i] = x at hv hkid hkx
      simp (decide := true) only [hc1, rows_get _ _ hil, hx, Int.natCast_nonneg, nodeC, drop0, row1_length, rows_length, cI, cB, cS, roI, ro64, hpin, go_sem, Nat.reduceAdd, Nat.reduceMul]
      refine Tri.loop (ι := Nat) (fun j => j ≤ x.kids.length) (fun j => ⟨51, [(0, .imm 60 (rows (nodeC true) nodes)), (1, vI n), (6, .ref 6 [] i), (7, vI i), (8, vI (deepK (deeps nodes i) 1 (x.kids.take j))), (30, roI x.kids), (31, vI x.kids.length), (32, vI j)], [(6, .row 3 (row1 cI (deeps nodes i)))]⟩) (fun j => x.kids.length - j) 0 (by simp) ?_ ?_
      · refine Ent.weak ?_ ?_ ?_ ?_ <;> simp (decide := true) [subT, subB, hereT, hereV, hereL, St.get, look, vI, vB, vS, cI, cS, cB, nodeC, roI, deepK]
      · rintro j hj
        refine code_sound sized _ ?_
        by_cases hj' : j < x.kids.length
        · have e2 : ((j : Int) < (x.kids.length : Int)) = True := by simp [hj']
          obtain ⟨q0, q1, q2⟩ := hkid j hj'
          have z0 : (0 ≤ x.kids[j]) = True := eq_true q0
          have z1 : (x.kids[j] < (i : Int)) = True := eq_true q1
          have z2 : x.kids[j].toNat < (deeps nodes i).length := by rw [hlen]; exact q2
          have hg : (deeps nodes i)[x.kids[j].toNat] = (deeps nodes i).getD x.kids[j].toNat 0 := by simp [List.getD, z2]
          have hrg := deeps_range nodes i x.kids[j].toNat
          have w2 : IntKind.i64.wrap ((deeps nodes i).getD x.kids[j].toNat 0 + 1) = (deeps nodes i).getD x.kids[j].toNat 0 + 1 := w64 (by omega) (by omega)
          simp (decide := true) only [e2, z0, z1, q2, hlen, row1_get _ _ hj', row1_get _ _ z2, row1_getq' _ _ z2, maxI, hg, w2, Int.natCast_nonneg, vB, vI, drop0, row1_length, rows_length, cI, cB, cS, roI, ro64, hpin, go_sem, Nat.reduceAdd, Nat.reduceMul]
          refine ⟨j + 1, hj', by omega, Ent.weak ?_ ?_ ?_ ?_⟩
          all_goals simp (decide := true) [subT, subB, hereT, hereV, hereL, St.get, look, vI, vB, vS, cI, cS, cB, nodeC, roI, w64s (n := x.kids.length) hj' (by omega), deepK_take, hj']
        · have hjl : j = x.kids.length := by omega
          subst hjl
          have e2 : ((x.kids.length : Int) < (x.kids.length : Int)) = False := by simp
          simp (decide := true) only [e2, List.take_length, vB, vI, drop0, row1_length, rows_length, cI, cB, cS, roI, ro64, hpin, go_sem, Nat.reduceAdd, Nat.reduceMul]
          by_cases hd : 10 < deepK (deeps nodes i) 1 x.kids
          · have hd1 : (10 < deepK (deeps nodes i) 1 x.kids) = True := eq_true hd
            obtain ⟨f1, f2⟩ := bad i (by omega) (by rw [hv]; simp [deepC, hd])
            simp (decide := true) only [hd1, f1, f2, e0, drop0, row1_length, rows_length, cI, cB, cS, roI, ro64, hpin, go_sem, Nat.reduceAdd, Nat.reduceMul]
          · have hd1 : (10 < deepK (deeps nodes i) 1 x.kids) = False := eq_false hd
            have hge := deepK_ge (deeps nodes i) x.kids 1
            have hvv : dAt nodes i = deepK (deeps nodes i) 1 x.kids := by rw [hv]; simp [deepC, hd]
            have hb1 : i + 1 ≤ 140737488355328 := by omega
            have hb2 : (i + 1) * 8 ≤ 140737488355328 := by omega
            have hds : deeps nodes (i + 1) = deeps nodes i ++ [deepK (deeps nodes i) 1 x.kids] := by rw [← hvv]; rfl
            simp (decide := true) only [hd1, hlen, hb1, hb2, drop0, row1_length, rows_length, cI, cB, cS, roI, ro64, hpin, go_sem, Nat.reduceAdd, Nat.reduceMul]
            refine ⟨i + 1, ⟨by omega, fun j hj => ?_⟩, by omega, Ent.weak ?_ ?_ ?_ ?_⟩
            · by_cases hji : j = i
              · subst hji; rw [hvv]; omega
              · exact hq j (by omega)
            all_goals simp (decide := true) [subT, subB, hereT, hereV, hereL, St.get, look, vI, vB, vS, cI, cS, cB, nodeC, roI, w64s (n := nodes.length) hil (by omega), hds, row1]
    · have hin : i = n + 1 := by omega
      subst hin
      have e : (((n + 1 : Nat) : Int) ≤ (n : Int)) = False := by simp; omega
      have hnz := hq n (by omega)
      have hf : okD nodes n = true := by simp [okD, hdo, hnz]
      have hf2 : okL nodes n = deeps nodes (n + 1) := by simp [okL, hf]
      simp (decide := true) only [e, hf, hf2, hlen, vB, vI, drop0, row1_length, rows_length, cI, cB, cS, roI, ro64, hpin, go_sem, Nat.reduceAdd, Nat.reduceMul]
      refine code_sound sized _ ?_
      simp (decide := true) only [hlen, drop0, row1_length, rows_length, cI, cB, cS, roI, ro64, hpin, go_sem, Nat.reduceAdd, Nat.reduceMul]

theorem deepI_sound (nodes : List NodeD) (k : Int) (hn : nodes.length ≤ 1048576) (hk : ∀ x ∈ nodes, x.kids.length ≤ 1048576) : Sound Tryz.prog 129 [.ro (.imm 60 (rows (nodeC true) nodes)), .ro (.sc (.int .i64 k))] (fun rs st => rs = [(false, [cI (deepOf nodes k)])]) := by
  refine sound_code (fn := Tryz.f129) (c := Tryz.f129.body.getD .skip) (res := [.tm 4]) (n := 19) sized (by kernel_rfl) (by rfl) (by kernel_rfl) (by rfl) (by rfl) (by simp [argsV]) (fun C hpin hfull => ?_)
  simp (decide := true) only [Tryz.f129, drop0, row1_length, rows_length, cI, cB, cS, roI, ro64, hpin, go_sem, Nat.reduceAdd, Nat.reduceMul]
  refine aCall_det (depths_sound nodes k hn hk) hpin ?_
  simp (decide := true) only [drop0, row1_length, rows_length, cI, cB, cS, roI, ro64, hpin, go_sem, Nat.reduceAdd, Nat.reduceMul]
  cases hd : okD nodes k with
  | false =>
    have h0 : deepOf nodes k = 0 := by simpa [okD] using hd
    simp (decide := true) only [h0, drop0, row1_length, rows_length, cI, cB, cS, roI, ro64, hpin, go_sem, Nat.reduceAdd, Nat.reduceMul]
  | true =>
    have h0 : inI k 0 (nodes.length - 1) = true := by
      cases h : inI k 0 (nodes.length - 1) with
      | true => rfl
      | false => simp [okD, deepOf, h] at hd
    have hr := inI_true h0
    obtain ⟨n, rfl⟩ : ∃ n : Nat, k = n := ⟨k.toNat, by omega⟩
    have hf2 : okL nodes n = deeps nodes (n + 1) := by simp [okL, hd]
    have hl := deeps_length nodes (n + 1)
    have hlt : n < (deeps nodes (n + 1)).length := by omega
    have hg : (deeps nodes (n + 1))[n] = deepOf nodes n := by
      have := deeps_get nodes (show n < n + 1 by omega)
      simp only [List.getD, hlt, List.getElem?_eq_getElem, Option.getD_some] at this
      rw [this]; simp [deepOf, h0, dAt]
    have hc : ((n : Int) < ((n + 1 : Nat) : Int)) = True := eq_true (by omega)
    simp (decide := true) only [hf2, hl, hc, row1_getq' _ _ hlt, hg, Int.natCast_nonneg, drop0, row1_length, rows_length, cI, cB, cS, roI, ro64, hpin, go_sem, Nat.reduceAdd, Nat.reduceMul]

theorem deepsS_sound (nodes : List NodeD) (n : Nat) (hnl : n < nodes.length) (hn : nodes.length ≤ 1048576) (hk : ∀ x ∈ nodes, x.kids.length ≤ 1048576) : Sound Tryz.prog 116 [.ro (.imm 60 (rows (nodeC true) nodes)), .ro (.sc (.int .i64 n))] (fun rs st => rs = [(false, [.row false 3 (row1 cI (deeps nodes (n + 1)))])]) := by
  refine sound_tri (fn := Tryz.f116) (c := Tryz.f116.body.getD .skip) (res := [.tm 4]) (n := 84) sized (by kernel_rfl) (by rfl) (by kernel_rfl) (by rfl) (by rfl) (by simp [argsV]) (fun uf ub C hpin hpin2 hfull => ?_)
  simp only [Tryz.f116, Option.getD_some]
  refine Tri.step sized ?_
  simp (decide := true) only [drop0, row1_length, rows_length, cI, cB, cS, roI, ro64, hpin, go_sem, Nat.reduceAdd, Nat.reduceMul]
  refine Tri.step sized ?_
  simp (decide := true) only [drop0, row1_length, rows_length, cI, cB, cS, roI, ro64, hpin, go_sem, Nat.reduceAdd, Nat.reduceMul]
  refine Tri.step sized ?_
  simp (decide := true) only [drop0, row1_length, rows_length, cI, cB, cS, roI, ro64, hpin, go_sem, Nat.reduceAdd, Nat.reduceMul]
  refine Tri.loop (ι := Nat) (fun i => i ≤ n + 1) (fun i => ⟨84, [(0, .imm 60 (rows (nodeC true) nodes)), (1, vI n), (5, .ref 5 [] i), (6, vI i)], [(5, .row 3 (row1 cI (deeps nodes i)))]⟩) (fun i => n + 1 - i) 0 (by simp) ?_ ?_
  · refine Ent.weak ?_ ?_ ?_ ?_ <;> simp (decide := true) [subT, subB, hereT, hereV, hereL, St.get, look, vI, vB, vS, cI, cS, cB, nodeC, roI, deeps, row1]
  · rintro i hi
    refine code_sound sized _ ?_
    have hlen := deeps_length nodes i
    by_cases h' : i < n + 1
    · have e : ((i : Int) ≤ (n : Int)) = True := by simp; omega
      have hil : i < nodes.length := by omega
      have hc1 : ((i : Int) < (nodes.length : Int)) = True := eq_true (by omega)
      have hkx := hk nodes[i] (List.getElem_mem hil)
      have hb1 : i + 1 ≤ 140737488355328 := by omega
      have hb2 : (i + 1) * 8 ≤ 140737488355328 := by omega
      let g : Bool := nodeB nodes i && (i == 0 || !((deeps nodes i).getD (i - 1) 0 == 0))
      have hds : deeps nodes (i + 1) = deeps nodes i ++ [bif g then deepC (deepK (deeps nodes i) 1 nodes[i].kids) else 0] := by
        simp only [deeps, deepS, nAt_nat hil]
        show _ = deeps nodes i ++ [bif (nodeB nodes i && (i == 0 || !((deeps nodes i).getD (i - 1) 0 == 0))) then _ else _]
        cases (nodeB nodes i && (i == 0 || !((deeps nodes i).getD (i - 1) 0 == 0))) <;> simp
      simp (decide := true) only [e, hc1, vB, vI, drop0, row1_length, rows_length, cI, cB, cS, roI, ro64, hpin, go_sem, Nat.reduceAdd, Nat.reduceMul]
      refine aCall_det (nodeS_sound nodes i hn hk) hpin ?_
      cases hb : nodeB nodes i with
      | false =>
        have hg : g = false := by simp [g, hb]
        by_cases hz : i = 0
        · have hz1 : (0 < (i : Int)) = False := eq_false (by omega)
          have hd0 : deeps nodes i = [] := by rw [hz]; rfl
          have w3 : IntKind.i64.wrap ((i : Int) - 1) = -1 := by rw [hz]; decide
          have hr0 : row1 cI ([] : List Int) = [] := rfl
          simp (decide := true) only [hz1, w3, hd0, hr0, List.getElem?_nil, Option.bind_none, Option.map_none, Option.getD_none, drop0, row1_length, rows_length, cI, cB, cS, roI, ro64, hpin, go_sem, Nat.reduceAdd, Nat.reduceMul]
          rw [hg] at hds
          simp only [cond_false] at hds
          refine Tri.loop (ι := Unit) (fun _ => True) (fun _ => ⟨84, [(0, .imm 60 (rows (nodeC true) nodes)), (1, vI n), (5, .ref 5 [] i), (6, vI i), (7, vI 0), (8, vI 0)], [(5, .row 3 (row1 cI (deeps nodes i)))]⟩) (fun _ => 0) () trivial ?_ ?_
          · refine Ent.weak ?_ ?_ ?_ ?_ <;> simp (decide := true) [subT, subB, hereT, hereV, hereL, St.get, look, vI, vB, vS, cI, cS, cB, nodeC, roI, hd0, row1]
          · rintro _ _
            refine code_sound sized _ ?_
            simp (decide := true) only [vB, vI, hlen, hc1, hb1, hb2, rows_get _ _ hil, nodeC, Int.natCast_nonneg, drop0, row1_length, rows_length, cI, cB, cS, roI, ro64, hpin, go_sem, Nat.reduceAdd, Nat.reduceMul]
            refine ⟨i + 1, by omega, by omega, Ent.weak ?_ ?_ ?_ ?_⟩
            all_goals simp (decide := true) [subT, subB, hereT, hereV, hereL, St.get, look, vI, vB, vS, cI, cS, cB, nodeC, roI, w64s (n := nodes.length) hil (by omega), hds, row1]
        · have hz1 : (0 < (i : Int)) = True := eq_true (by omega)
          have w3 : IntKind.i64.wrap ((i : Int) - 1) = ((i - 1 : Nat) : Int) := by rw [w64 (by omega) (by omega)]; omega
          have z3 : i - 1 < (deeps nodes i).length := by omega
          have z4 : (((i - 1 : Nat) : Int) < (i : Int)) = True := eq_true (by omega)
          have z5 : i - 1 < i := by omega
          simp (decide := true) only [hz1, w3, z4, z5, hlen, row1_getq' _ _ z3, Int.natCast_nonneg, drop0, row1_length, rows_length, cI, cB, cS, roI, ro64, hpin, go_sem, Nat.reduceAdd, Nat.reduceMul]
          rw [hg] at hds
          simp only [cond_false] at hds
          refine Tri.loop (ι := Unit) (fun _ => True) (fun _ => ⟨84, [(0, .imm 60 (rows (nodeC true) nodes)), (1, vI n), (5, .ref 5 [] i), (6, vI i), (7, vI 0), (8, vI 0)], [(5, .row 3 (row1 cI (deeps nodes i)))]⟩) (fun _ => 0) () trivial ?_ ?_
          · refine Ent.weak ?_ ?_ ?_ ?_ <;> simp (decide := true) [subT, subB, hereT, hereV, hereL, St.get, look, vI, vB, vS, cI, cS, cB, nodeC, roI]
          · rintro _ _
            refine code_sound sized _ ?_
            simp (decide := true) only [vB, vI, hlen, hc1, hb1, hb2, rows_get _ _ hil, nodeC, Int.natCast_nonneg, drop0, row1_length, rows_length, cI, cB, cS, roI, ro64, hpin, go_sem, Nat.reduceAdd, Nat.reduceMul]
            refine ⟨i + 1, by omega, by omega, Ent.weak ?_ ?_ ?_ ?_⟩
            all_goals simp (decide := true) [subT, subB, hereT, hereV, hereL, St.get, look, vI, vB, vS, cI, cS, cB, nodeC, roI, w64s (n := nodes.length) hil (by omega), hds, row1]
      | true =>
      by_cases hz : i = 0
      · have hi0 : (i == 0) = true := by simp [hz]
        have hg : g = true := by simp only [g, hb, hi0]; rfl
        have hz1 : (0 < (i : Int)) = False := eq_false (by omega)
        have hd0 : deeps nodes i = [] := by rw [hz]; rfl
        have w3 : IntKind.i64.wrap ((i : Int) - 1) = -1 := by rw [hz]; decide
        have hr0 : row1 cI ([] : List Int) = [] := rfl
        simp (decide := true) only [hz1, w3, hd0, hr0, List.getElem?_nil, Option.bind_none, Option.map_none, Option.getD_none, drop0, row1_length, rows_length, cI, cB, cS, roI, ro64, hpin, go_sem, Nat.reduceAdd, Nat.reduceMul]
        rw [hg] at hds
        simp only [cond_true] at hds
        obtain ⟨_, hkid⟩ := kid_lt hb
        generalize hx : nodes[i] = x at hds hkid hkx
        refine Tri.loop (ι := Nat) (fun j => j ≤ x.kids.length) (fun j => ⟨84, [(0, .imm 60 (rows (nodeC true) nodes)), (1, vI n), (5, .ref 5 [] i), (6, vI i), (7, vI (deepK (deeps nodes i) 1 (x.kids.take j))), (8, vI j)], [(5, .row 3 (row1 cI (deeps nodes i)))]⟩) (fun j => x.kids.length - j) 0 (by simp) ?_ ?_
        · refine Ent.weak ?_ ?_ ?_ ?_ <;> simp (decide := true) [subT, subB, hereT, hereV, hereL, St.get, look, vI, vB, vS, cI, cS, cB, nodeC, roI, deepK, hd0, row1]
        · rintro j hj
          refine code_sound sized _ ?_
          have hpos : (0 < deepK (deeps nodes i) 1 (x.kids.take j)) = True := eq_true (by have := deepK_ge (deeps nodes i) (x.kids.take j) 1; omega)
          by_cases hj' : j < x.kids.length
          · have e2 : ((j : Int) < (x.kids.length : Int)) = True := by simp [hj']
            obtain ⟨q0, q1, q2⟩ := hkid j hj'
            have z0 : (0 ≤ x.kids[j]) = True := eq_true q0
            have z1 : (x.kids[j] < (i : Int)) = True := eq_true q1
            have z2 : x.kids[j].toNat < (deeps nodes i).length := by rw [hlen]; exact q2
            have hgg : (deeps nodes i)[x.kids[j].toNat] = (deeps nodes i).getD x.kids[j].toNat 0 := by simp [List.getD, z2]
            have hrg := deeps_range nodes i x.kids[j].toNat
            have w2 : IntKind.i64.wrap ((deeps nodes i).getD x.kids[j].toNat 0 + 1) = (deeps nodes i).getD x.kids[j].toNat 0 + 1 := w64 (by omega) (by omega)
            have htk := deepK_take (deeps nodes i) x.kids 1 hj'
            simp (decide := true) only [hpos, e2, hc1, z0, z1, q2, hlen, hx, rows_get _ _ hil, nodeC, row1_get _ _ hj', row1_getq' _ _ z2, hgg, w2, Int.natCast_nonneg, vB, vI, drop0, row1_length, rows_length, cI, cB, cS, roI, ro64, hpin, go_sem, Nat.reduceAdd, Nat.reduceMul]
            by_cases hm : (deeps nodes i).getD x.kids[j].toNat 0 + 1 > deepK (deeps nodes i) 1 (x.kids.take j)
            · have hm1 : ((deeps nodes i).getD x.kids[j].toNat 0 + 1 > deepK (deeps nodes i) 1 (x.kids.take j)) = True := eq_true hm
              have hm2 : (deepK (deeps nodes i) 1 (x.kids.take j) < (deeps nodes i).getD x.kids[j].toNat 0 + 1) = True := eq_true hm
              rw [show max (deepK (deeps nodes i) 1 (x.kids.take j)) ((deeps nodes i).getD x.kids[j].toNat 0 + 1) = (deeps nodes i).getD x.kids[j].toNat 0 + 1 by rw [Int.max_def]; split <;> omega] at htk
              simp (decide := true) only [hm1, hm2, hpos, e2, hc1, z0, z1, q2, hlen, hx, rows_get _ _ hil, nodeC, row1_get _ _ hj', row1_getq' _ _ z2, hgg, w2, Int.natCast_nonneg, vB, vI, drop0, row1_length, rows_length, cI, cB, cS, roI, ro64, hpin, go_sem, Nat.reduceAdd, Nat.reduceMul]
              refine ⟨j + 1, hj', by omega, Ent.weak ?_ ?_ ?_ ?_⟩
              all_goals simp (decide := true) [subT, subB, hereT, hereV, hereL, St.get, look, vI, vB, vS, cI, cS, cB, nodeC, roI, w64s (n := x.kids.length) hj' (by omega), htk]
            · have hm1 : ((deeps nodes i).getD x.kids[j].toNat 0 + 1 > deepK (deeps nodes i) 1 (x.kids.take j)) = False := eq_false hm
              have hm2 : (deepK (deeps nodes i) 1 (x.kids.take j) < (deeps nodes i).getD x.kids[j].toNat 0 + 1) = False := eq_false hm
              rw [show max (deepK (deeps nodes i) 1 (x.kids.take j)) ((deeps nodes i).getD x.kids[j].toNat 0 + 1) = deepK (deeps nodes i) 1 (x.kids.take j) by rw [Int.max_def]; split <;> omega] at htk
              simp (decide := true) only [hm1, hm2, hpos, e2, hc1, drop0, row1_length, rows_length, cI, cB, cS, roI, ro64, hpin, go_sem, Nat.reduceAdd, Nat.reduceMul]
              refine ⟨j + 1, hj', by omega, Ent.weak ?_ ?_ ?_ ?_⟩
              all_goals simp (decide := true) [subT, subB, hereT, hereV, hereL, St.get, look, vI, vB, vS, cI, cS, cB, nodeC, roI, w64s (n := x.kids.length) hj' (by omega), htk]
          · have hjl : j = x.kids.length := by omega
            subst hjl
            have e2 : ((x.kids.length : Int) < (x.kids.length : Int)) = False := by simp
            rw [List.take_length] at hpos
            simp (decide := true) only [e2, hpos, hc1, hx, rows_get _ _ hil, nodeC, List.take_length, Int.natCast_nonneg, vB, vI, drop0, row1_length, rows_length, cI, cB, cS, roI, ro64, hpin, go_sem, Nat.reduceAdd, Nat.reduceMul]
            by_cases hd : 10 < deepK (deeps nodes i) 1 x.kids
            · have hd1 : (10 < deepK (deeps nodes i) 1 x.kids) = True := eq_true hd
              have hv : deepC (deepK (deeps nodes i) 1 x.kids) = 0 := by simp [deepC, hd]
              rw [hv] at hds
              simp (decide := true) only [hd1, hlen, hb1, hb2, drop0, row1_length, rows_length, cI, cB, cS, roI, ro64, hpin, go_sem, Nat.reduceAdd, Nat.reduceMul]
              refine ⟨i + 1, by omega, by omega, Ent.weak ?_ ?_ ?_ ?_⟩
              all_goals simp (decide := true) [subT, subB, hereT, hereV, hereL, St.get, look, vI, vB, vS, cI, cS, cB, nodeC, roI, w64s (n := nodes.length) hil (by omega), hds, row1]
            · have hd1 : (10 < deepK (deeps nodes i) 1 x.kids) = False := eq_false hd
              have hv : deepC (deepK (deeps nodes i) 1 x.kids) = deepK (deeps nodes i) 1 x.kids := by simp [deepC, hd]
              rw [hv] at hds
              simp (decide := true) only [hd1, hlen, hb1, hb2, drop0, row1_length, rows_length, cI, cB, cS, roI, ro64, hpin, go_sem, Nat.reduceAdd, Nat.reduceMul]
              refine ⟨i + 1, by omega, by omega, Ent.weak ?_ ?_ ?_ ?_⟩
              all_goals simp (decide := true) [subT, subB, hereT, hereV, hereL, St.get, look, vI, vB, vS, cI, cS, cB, nodeC, roI, w64s (n := nodes.length) hil (by omega), hds, row1]
      · have hz1 : (0 < (i : Int)) = True := eq_true (by omega)
        have w3 : IntKind.i64.wrap ((i : Int) - 1) = ((i - 1 : Nat) : Int) := by rw [w64 (by omega) (by omega)]; omega
        have z3 : i - 1 < (deeps nodes i).length := by omega
        have z4 : (((i - 1 : Nat) : Int) < (i : Int)) = True := eq_true (by omega)
        have z5 : i - 1 < i := by omega
        have hg3 : (deeps nodes i)[i - 1] = (deeps nodes i).getD (i - 1) 0 := by simp [List.getD, z3]
        have hi0 : (i == 0) = false := by simp [hz]
        simp (decide := true) only [hz1, w3, z4, z5, hlen, row1_getq' _ _ z3, hg3, Int.natCast_nonneg, drop0, row1_length, rows_length, cI, cB, cS, roI, ro64, hpin, go_sem, Nat.reduceAdd, Nat.reduceMul]
        cases hq : (deeps nodes i).getD (i - 1) 0 == 0 with
        | true =>
          have hg : g = false := by simp only [g, hb, hi0, hq]; rfl
          simp (decide := true) only [hq, drop0, row1_length, rows_length, cI, cB, cS, roI, ro64, hpin, go_sem, Nat.reduceAdd, Nat.reduceMul]
          rw [hg] at hds
          simp only [cond_false] at hds
          refine Tri.loop (ι := Unit) (fun _ => True) (fun _ => ⟨84, [(0, .imm 60 (rows (nodeC true) nodes)), (1, vI n), (5, .ref 5 [] i), (6, vI i), (7, vI 0), (8, vI 0)], [(5, .row 3 (row1 cI (deeps nodes i)))]⟩) (fun _ => 0) () trivial ?_ ?_
          · refine Ent.weak ?_ ?_ ?_ ?_ <;> simp (decide := true) [subT, subB, hereT, hereV, hereL, St.get, look, vI, vB, vS, cI, cS, cB, nodeC, roI]
          · rintro _ _
            refine code_sound sized _ ?_
            simp (decide := true) only [vB, vI, hlen, hc1, hb1, hb2, rows_get _ _ hil, nodeC, Int.natCast_nonneg, drop0, row1_length, rows_length, cI, cB, cS, roI, ro64, hpin, go_sem, Nat.reduceAdd, Nat.reduceMul]
            refine ⟨i + 1, by omega, by omega, Ent.weak ?_ ?_ ?_ ?_⟩
            all_goals simp (decide := true) [subT, subB, hereT, hereV, hereL, St.get, look, vI, vB, vS, cI, cS, cB, nodeC, roI, w64s (n := nodes.length) hil (by omega), hds, row1]
        | false =>
          have hg : g = true := by simp only [g, hb, hi0, hq]; rfl
          simp (decide := true) only [hq, drop0, row1_length, rows_length, cI, cB, cS, roI, ro64, hpin, go_sem, Nat.reduceAdd, Nat.reduceMul]
          rw [hg] at hds
          simp only [cond_true] at hds
          obtain ⟨_, hkid⟩ := kid_lt hb
          generalize hx : nodes[i] = x at hds hkid hkx
          refine Tri.loop (ι := Nat) (fun j => j ≤ x.kids.length) (fun j => ⟨84, [(0, .imm 60 (rows (nodeC true) nodes)), (1, vI n), (5, .ref 5 [] i), (6, vI i), (7, vI (deepK (deeps nodes i) 1 (x.kids.take j))), (8, vI j)], [(5, .row 3 (row1 cI (deeps nodes i)))]⟩) (fun j => x.kids.length - j) 0 (by simp) ?_ ?_
          · refine Ent.weak ?_ ?_ ?_ ?_ <;> simp (decide := true) [subT, subB, hereT, hereV, hereL, St.get, look, vI, vB, vS, cI, cS, cB, nodeC, roI, deepK]
          · rintro j hj
            refine code_sound sized _ ?_
            have hpos : (0 < deepK (deeps nodes i) 1 (x.kids.take j)) = True := eq_true (by have := deepK_ge (deeps nodes i) (x.kids.take j) 1; omega)
            by_cases hj' : j < x.kids.length
            · have e2 : ((j : Int) < (x.kids.length : Int)) = True := by simp [hj']
              obtain ⟨q0, q1, q2⟩ := hkid j hj'
              have z0 : (0 ≤ x.kids[j]) = True := eq_true q0
              have z1 : (x.kids[j] < (i : Int)) = True := eq_true q1
              have z2 : x.kids[j].toNat < (deeps nodes i).length := by rw [hlen]; exact q2
              have hgg : (deeps nodes i)[x.kids[j].toNat] = (deeps nodes i).getD x.kids[j].toNat 0 := by simp [List.getD, z2]
              have hrg := deeps_range nodes i x.kids[j].toNat
              have w2 : IntKind.i64.wrap ((deeps nodes i).getD x.kids[j].toNat 0 + 1) = (deeps nodes i).getD x.kids[j].toNat 0 + 1 := w64 (by omega) (by omega)
              have htk := deepK_take (deeps nodes i) x.kids 1 hj'
              simp (decide := true) only [hpos, e2, hc1, z0, z1, q2, hlen, hx, rows_get _ _ hil, nodeC, row1_get _ _ hj', row1_getq' _ _ z2, hgg, w2, Int.natCast_nonneg, vB, vI, drop0, row1_length, rows_length, cI, cB, cS, roI, ro64, hpin, go_sem, Nat.reduceAdd, Nat.reduceMul]
              by_cases hm : (deeps nodes i).getD x.kids[j].toNat 0 + 1 > deepK (deeps nodes i) 1 (x.kids.take j)
              · have hm1 : ((deeps nodes i).getD x.kids[j].toNat 0 + 1 > deepK (deeps nodes i) 1 (x.kids.take j)) = True := eq_true hm
                have hm2 : (deepK (deeps nodes i) 1 (x.kids.take j) < (deeps nodes i).getD x.kids[j].toNat 0 + 1) = True := eq_true hm
                rw [show max (deepK (deeps nodes i) 1 (x.kids.take j)) ((deeps nodes i).getD x.kids[j].toNat 0 + 1) = (deeps nodes i).getD x.kids[j].toNat 0 + 1 by rw [Int.max_def]; split <;> omega] at htk
                simp (decide := true) only [hm1, hm2, hpos, e2, hc1, z0, z1, q2, hlen, hx, rows_get _ _ hil, nodeC, row1_get _ _ hj', row1_getq' _ _ z2, hgg, w2, Int.natCast_nonneg, vB, vI, drop0, row1_length, rows_length, cI, cB, cS, roI, ro64, hpin, go_sem, Nat.reduceAdd, Nat.reduceMul]
                refine ⟨j + 1, hj', by omega, Ent.weak ?_ ?_ ?_ ?_⟩
                all_goals simp (decide := true) [subT, subB, hereT, hereV, hereL, St.get, look, vI, vB, vS, cI, cS, cB, nodeC, roI, w64s (n := x.kids.length) hj' (by omega), htk]
              · have hm1 : ((deeps nodes i).getD x.kids[j].toNat 0 + 1 > deepK (deeps nodes i) 1 (x.kids.take j)) = False := eq_false hm
                have hm2 : (deepK (deeps nodes i) 1 (x.kids.take j) < (deeps nodes i).getD x.kids[j].toNat 0 + 1) = False := eq_false hm
                rw [show max (deepK (deeps nodes i) 1 (x.kids.take j)) ((deeps nodes i).getD x.kids[j].toNat 0 + 1) = deepK (deeps nodes i) 1 (x.kids.take j) by rw [Int.max_def]; split <;> omega] at htk
                simp (decide := true) only [hm1, hm2, hpos, e2, hc1, drop0, row1_length, rows_length, cI, cB, cS, roI, ro64, hpin, go_sem, Nat.reduceAdd, Nat.reduceMul]
                refine ⟨j + 1, hj', by omega, Ent.weak ?_ ?_ ?_ ?_⟩
                all_goals simp (decide := true) [subT, subB, hereT, hereV, hereL, St.get, look, vI, vB, vS, cI, cS, cB, nodeC, roI, w64s (n := x.kids.length) hj' (by omega), htk]
            · have hjl : j = x.kids.length := by omega
              subst hjl
              have e2 : ((x.kids.length : Int) < (x.kids.length : Int)) = False := by simp
              rw [List.take_length] at hpos
              simp (decide := true) only [e2, hpos, hc1, hx, rows_get _ _ hil, nodeC, List.take_length, Int.natCast_nonneg, vB, vI, drop0, row1_length, rows_length, cI, cB, cS, roI, ro64, hpin, go_sem, Nat.reduceAdd, Nat.reduceMul]
              by_cases hd : 10 < deepK (deeps nodes i) 1 x.kids
              · have hd1 : (10 < deepK (deeps nodes i) 1 x.kids) = True := eq_true hd
                have hv : deepC (deepK (deeps nodes i) 1 x.kids) = 0 := by simp [deepC, hd]
                rw [hv] at hds
                simp (decide := true) only [hd1, hlen, hb1, hb2, drop0, row1_length, rows_length, cI, cB, cS, roI, ro64, hpin, go_sem, Nat.reduceAdd, Nat.reduceMul]
                refine ⟨i + 1, by omega, by omega, Ent.weak ?_ ?_ ?_ ?_⟩
                all_goals simp (decide := true) [subT, subB, hereT, hereV, hereL, St.get, look, vI, vB, vS, cI, cS, cB, nodeC, roI, w64s (n := nodes.length) hil (by omega), hds, row1]
              · have hd1 : (10 < deepK (deeps nodes i) 1 x.kids) = False := eq_false hd
                have hv : deepC (deepK (deeps nodes i) 1 x.kids) = deepK (deeps nodes i) 1 x.kids := by simp [deepC, hd]
                rw [hv] at hds
                simp (decide := true) only [hd1, hlen, hb1, hb2, drop0, row1_length, rows_length, cI, cB, cS, roI, ro64, hpin, go_sem, Nat.reduceAdd, Nat.reduceMul]
                refine ⟨i + 1, by omega, by omega, Ent.weak ?_ ?_ ?_ ?_⟩
                all_goals simp (decide := true) [subT, subB, hereT, hereV, hereL, St.get, look, vI, vB, vS, cI, cS, cB, nodeC, roI, w64s (n := nodes.length) hil (by omega), hds, row1]
    · have hin : i = n + 1 := by omega
      subst hin
      have e : (((n + 1 : Nat) : Int) ≤ (n : Int)) = False := by simp; omega
      simp (decide := true) only [e, hlen, vB, vI, drop0, row1_length, rows_length, cI, cB, cS, roI, ro64, hpin, go_sem, Nat.reduceAdd, Nat.reduceMul]
      refine code_sound sized _ ?_
      simp (decide := true) only [hlen, drop0, row1_length, rows_length, cI, cB, cS, roI, ro64, hpin, go_sem, Nat.reduceAdd, Nat.reduceMul]
end Go.Proofs.YtnbodmohnkohfaaGreatDoor.AW
