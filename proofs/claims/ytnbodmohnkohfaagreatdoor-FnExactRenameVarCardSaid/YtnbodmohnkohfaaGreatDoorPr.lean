/- Whether a program is right, both sides. No condition beyond those named. -/
import Derived.Test.YtnbodmohnkohfaaGreatDoorPq
namespace Go.Proofs.YtnbodmohnkohfaaGreatDoor.AW
open Go.RowKit
set_option maxHeartbeats 8000000
set_option maxRecDepth 100000
set_option linter.unusedSimpArgs false
set_option linter.unusedVariables false

/-- A row of numbers, told by its places. -/
def tabI (n : Nat) (f : Nat → Int) : List Int := (List.range n).map f
theorem tabI_length (n : Nat) (f : Nat → Int) : (tabI n f).length = n := by simp [tabI]
theorem tabI_getq {n : Nat} {f : Nat → Int} {i : Nat} (h : i < n) : (row1 cI (tabI n f))[i]? = some [cI (f i)] := by simp [row1, tabI, h]
theorem tabI_get {n : Nat} {f : Nat → Int} {i : Nat} (h : i < n) : (row1 cI (tabI n f)).getD i [] = [cI (f i)] := by simp [List.getD, tabI_getq h]
theorem tabI_congr {n : Nat} {f g : Nat → Int} (h : ∀ m, m < n → f m = g m) : tabI n f = tabI n g := by
  unfold tabI
  apply List.map_congr_left
  intro m hm
  exact h m (List.mem_range.1 hm)
theorem tabI_set {n : Nat} {f : Nat → Int} {i : Nat} (h : i < n) (v : Int) : (row1 cI (tabI n f)).set i [cI v] = row1 cI (tabI n (fun m => if m = i then v else f m)) := by
  apply List.ext_getElem?
  intro j
  by_cases hj : j < n
  · rw [tabI_getq hj]
    by_cases e : i = j
    · subst e
      rw [List.getElem?_set_self (by rw [row1_length, tabI_length]; exact h)]
      simp
    · rw [List.getElem?_set_ne e, tabI_getq hj, if_neg (fun he => e he.symm)]
  · rw [List.getElem?_eq_none (by rw [List.length_set, row1_length, tabI_length]; omega), List.getElem?_eq_none (by rw [row1_length, tabI_length]; omega)]
theorem tabI_zero (n : Nat) : List.replicate n [cI 0] = row1 cI (tabI n (fun _ => 0)) := by
  apply List.ext_getElem?
  intro j
  by_cases hj : j < n
  · rw [tabI_getq hj]; simp [hj]
  · rw [List.getElem?_eq_none (by simp; omega), List.getElem?_eq_none (by rw [row1_length, tabI_length]; omega)]

/-- How often a node is a kid of the first ones. -/
def cntK (nodes : List NodeD) (i m : Nat) : Nat := sumN (fun x => x.kids.count (m : Int)) (nodes.take i)
def cntF (nodes : List NodeD) (x : NodeD) (i j : Nat) : Nat → Int := fun m => (cntK nodes i m : Int) + ((x.kids.take j).count (m : Int) : Int)
theorem cntK_succ {nodes : List NodeD} {i : Nat} (h : i < nodes.length) (m : Nat) : cntK nodes (i + 1) m = cntK nodes i m + nodes[i].kids.count (m : Int) := by
  unfold cntK sumN
  rw [List.take_succ_eq_append_getElem h, List.map_append, List.sum_append]
  simp only [List.map_cons, List.map_nil, List.sum_cons, List.sum_nil, Nat.add_zero]
theorem cntK_le {nodes : List NodeD} (hd : ∀ x ∈ nodes, x.kids.Nodup) (m : Nat) : ∀ i, i ≤ nodes.length → cntK nodes i m ≤ i
  | 0, _ => by simp [cntK, sumN]
  | i + 1, h => by
    rw [cntK_succ h]
    have h1 := cntK_le hd m i (by omega)
    have h2 := List.nodup_iff_count.1 (hd nodes[i] (List.getElem_mem h)) (m : Int)
    omega
theorem cntF_zero (nodes : List NodeD) (x : NodeD) (i m : Nat) : cntF nodes x i 0 m = cntK nodes i m := by simp [cntF]
theorem cntF_last {nodes : List NodeD} {i : Nat} (h : i < nodes.length) (m : Nat) : cntF nodes nodes[i] i nodes[i].kids.length m = cntK nodes (i + 1) m := by
  unfold cntF; rw [List.take_length, cntK_succ h]; simp
theorem cntF_next {nodes : List NodeD} {x : NodeD} {i j : Nat} (h : j < x.kids.length) (h0 : 0 ≤ x.kids[j]) : (fun m => if m = x.kids[j].toNat then cntF nodes x i j x.kids[j].toNat + 1 else cntF nodes x i j m) = cntF nodes x i (j + 1) := by
  funext m
  unfold cntF
  rw [List.take_succ_eq_append_getElem h, List.count_append]
  by_cases e : m = x.kids[j].toNat
  · subst e
    have e2 : ((x.kids[j].toNat : Nat) : Int) = x.kids[j] := by omega
    rw [if_pos rfl, e2]
    simp; omega
  · rw [if_neg e]
    have e2 : (x.kids[j] == (m : Int)) = false := by
      apply Bool.eq_false_iff.2; intro hh; have := eq_of_beq hh; omega
    simp [List.count_cons, e2]
theorem cntF_range {nodes : List NodeD} {x : NodeD} (hd : ∀ x ∈ nodes, x.kids.Nodup) (hx : x.kids.Nodup) {i : Nat} (hi : i ≤ nodes.length) (j m : Nat) : 0 ≤ cntF nodes x i j m ∧ cntF nodes x i j m ≤ (i : Int) + 1 := by
  have h1 := cntK_le hd m i hi
  have h2 := List.nodup_iff_count.1 (hx.sublist (List.take_sublist j x.kids)) (m : Int)
  unfold cntF
  omega

/-- The roots of functions. -/
def rts (f : FnD) : List Int := [f.body, f.ret]
def rtsP (f : FnD) (b : Nat) : List Int := ((rts f).take b).filter (fun k => decide (0 ≤ k))
def allR (fns : List FnD) : List Int := fns.flatMap (fun f => rtsP f 2)
theorem allR_succ {fns : List FnD} {i : Nat} (h : i < fns.length) : allR (fns.take (i + 1)) = allR (fns.take i) ++ rtsP fns[i] 2 := by
  unfold allR
  rw [List.take_succ_eq_append_getElem h, List.flatMap_append]
  simp
theorem allR_sub {fns : List FnD} {i : Nat} (h : i < fns.length) (b : Nat) : (allR (fns.take i) ++ rtsP fns[i] b).Sublist (allR fns) := by
  have e : allR fns = allR (fns.take i) ++ (rtsP fns[i] 2 ++ allR (fns.drop (i + 1))) := by
    conv => lhs; rw [← List.take_append_drop i fns, List.drop_eq_getElem_cons h]
    unfold allR
    rw [List.flatMap_append, List.flatMap_cons]
  rw [e]
  refine (List.Sublist.refl _).append (List.Sublist.trans ?_ (List.sublist_append_left _ _))
  unfold rtsP
  refine List.Sublist.filter _ ?_
  have : (rts fns[i]).take 2 = rts fns[i] := rfl
  rw [this]
  exact List.take_sublist _ _
theorem rtsP_skip (f : FnD) {b : Nat} (h : b < (rts f).length) (hk : (rts f)[b] < 0) : rtsP f (b + 1) = rtsP f b := by
  unfold rtsP
  rw [List.take_succ_eq_append_getElem h, List.filter_append]
  have : ¬ (0 ≤ (rts f)[b]) := by omega
  simp [this]
theorem rtsP_take (f : FnD) {b : Nat} (h : b < (rts f).length) (hk : 0 ≤ (rts f)[b]) : rtsP f (b + 1) = rtsP f b ++ [(rts f)[b]] := by
  unfold rtsP
  rw [List.take_succ_eq_append_getElem h, List.filter_append]
  simp [hk]
theorem rtsP_length (f : FnD) (b : Nat) : (rtsP f b).length ≤ 2 := by
  unfold rtsP
  refine Nat.le_trans (List.length_filter_le _ _) ?_
  rw [List.length_take]; simp [rts]; omega
theorem allR_length : ∀ fns : List FnD, (allR fns).length ≤ 2 * fns.length
  | [] => by simp [allR]
  | f :: r => by
    have h1 := allR_length r
    have h2 := rtsP_length f 2
    unfold allR at h1 ⊢
    rw [List.flatMap_cons, List.length_append, List.length_cons]
    omega

def onceB (p : ProgramD) (m : Nat) : Bool := (((cntK p.nodes p.nodes.length m : Nat) : Int) + 1000 * ((allR p.fns).count (m : Int) : Int) == 1) || (((cntK p.nodes p.nodes.length m : Nat) : Int) + 1000 * ((allR p.fns).count (m : Int) : Int) == 1000)
def fnRightB (p : ProgramD) (i : Nat) : Bool := fnOkB p (fAt p.fns i) && fnAtP p.fns (fAt p.fns i).name == (i : Int)
def programB (p : ProgramD) : Bool := inI p.nodes.length 1 300 && (inI p.fns.length 1 8 && (!(deepOf p.nodes (p.nodes.length - 1) == 0) && (rangeB (fnRightB p) p.fns.length && rangeB (onceB p) p.nodes.length)))

theorem nodeB_nodup {nodes : List NodeD} {k : Nat} (h : nodeB nodes k = true) : (nAt nodes k).kids.Nodup := by
  unfold nodeB at h
  simp only [Bool.and_eq_true, nodeXB] at h
  obtain ⟨_, _, _, _, _, h⟩ := h
  rw [rangeB_true] at h
  rw [List.Nodup, List.pairwise_iff_getElem]
  intro i j hi hj hij e
  have := h j hj
  simp only [kidB, Bool.and_eq_true] at this
  have h2 := this.2.1
  have hg : (nAt nodes k).kids.getD j 0 = (nAt nodes k).kids[j] := by simp [List.getD, hj]
  rw [hg, ← e] at h2
  have : (nAt nodes k).kids[i] ∈ (nAt nodes k).kids.take j := by
    rw [List.mem_take_iff_getElem]
    exact ⟨i, by omega, rfl⟩
  simp [this] at h2

/-- What is so where all nodes are right. -/
structure Deep (nodes : List NodeD) : Prop where
  pos : 0 < nodes.length
  deep : ∀ n, n < nodes.length → dAt nodes n ≠ 0
theorem deep_of {nodes : List NodeD} (h : (deepOf nodes (nodes.length - 1) == 0) = false) : Deep nodes := by
  obtain ⟨n, hn, hl, hd⟩ := deep_nat h
  exact ⟨by omega, fun m hm => dAt_down nodes (by omega) hd⟩
theorem Deep.nodup {nodes : List NodeD} (h : Deep nodes) : ∀ x ∈ nodes, x.kids.Nodup := fun x hx => by
  obtain ⟨i, hi, rfl⟩ := List.getElem_of_mem hx
  have := nodeB_nodup (dAt_node nodes i (h.deep i hi))
  rwa [nAt_nat hi] at this
theorem Deep.kid {nodes : List NodeD} (h : Deep nodes) {i : Nat} (hi : i < nodes.length) : ∀ kid ∈ nodes[i].kids, 0 ≤ kid ∧ kid < i ∧ kid.toNat < i := (kids_lt (h.deep i hi)).2
theorem fnOk_roots {p : ProgramD} {f : FnD} (h : fnOkB p f = true) : (0 ≤ f.body ∧ f.body.toNat < p.nodes.length) ∧ (f.ret < 0 ∨ (0 ≤ f.ret ∧ f.ret.toNat < p.nodes.length)) := by
  simp only [fnOkB, Bool.and_eq_true, fnBodyB] at h
  obtain ⟨_, _, _, _, ⟨hb, _⟩, hr⟩ := h
  have hb := inI_true hb
  refine ⟨⟨hb.1, by omega⟩, ?_⟩
  unfold fnRetB at hr
  split at hr
  · left; have := eq_of_beq hr; omega
  · simp only [Bool.and_eq_true] at hr
    have := inI_true hr.1
    right; omega
end Go.Proofs.YtnbodmohnkohfaaGreatDoor.AW
