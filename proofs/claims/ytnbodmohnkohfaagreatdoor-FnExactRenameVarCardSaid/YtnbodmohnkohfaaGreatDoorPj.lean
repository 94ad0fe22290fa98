/- What lies under a node without a block between, both sides. No condition beyond those named. -/
import Derived.Test.YtnbodmohnkohfaaGreatDoorPi
namespace Go.Proofs.YtnbodmohnkohfaaGreatDoor.AW
open Go.RowKit
set_option maxHeartbeats 8000000
set_option maxRecDepth 100000
set_option linter.unusedSimpArgs false
set_option linter.unusedVariables false

/-- A call of whose results this is known. -/
theorem aCall_ex {P : Program} {C : Cx} {st : St} {K : St → Prop} {f : FuncId} {ags : List Arg} {ι : Type} {Inv : ι → Prop} {R : ι → List RV} (hs : Sound P f ags (fun rs _ => ∃ i, Inv i ∧ rs = R i)) (hpin : ∀ o, isPin o = false → C.pin o = none) {vs : List V} {d : Option Nat}
    (h1 : (takeM st vs ags).1 ∧ lendAll ⟨[], fun _ => undef, pvOf C, (takeM st vs ags).2.ob, argsOb 0 ags⟩ vs ags) (h : ∀ i, Inv i → noShR (R i) = true ∧ ev (b := ⟨K⟩) (after (takeM st vs ags).2 d (R i))) : aCallB (b := ⟨K⟩) P C st f vs d :=
  aCall_of_sound hs (pin3 hpin) h1.1 h1.2 (fun rs _ ⟨i, hi, hr⟩ => by rw [hr]; exact (h i hi).1) (fun rs _ ⟨i, hi, hr⟩ => by rw [hr]; exact (h i hi).2)

/-- From one node down to another one, by way of no block. -/
inductive RB (nodes : List NodeD) : Nat → Nat → Prop
  | refl (n : Nat) : RB nodes n n
  | step {n m : Nat} {kid : Int} (h : RB nodes n m) (hm : m < nodes.length) (hk : kid ∈ nodes[m].kids) (hb : (nAt nodes kid).kind ≠ 20) : RB nodes n kid.toNat
theorem RB.trans {nodes : List NodeD} {a b c : Nat} (h : RB nodes a b) (h' : RB nodes b c) : RB nodes a c := by
  induction h' with
  | refl => exact h
  | step _ hm hk hb ih => exact .step ih hm hk hb
theorem RB.reach {nodes : List NodeD} {a b : Nat} (h : RB nodes a b) : Reach nodes a b := by
  induction h with
  | refl => exact .refl _
  | step _ hm hk hb ih => exact .step ih hm hk
theorem RB.head {nodes : List NodeD} {n m : Nat} (h : RB nodes n m) : n = m ∨ ∃ (hn : n < nodes.length) (kid : Int), kid ∈ nodes[n].kids ∧ (nAt nodes kid).kind ≠ 20 ∧ RB nodes kid.toNat m := by
  induction h with
  | refl => exact Or.inl rfl
  | @step m kid h hm hk hb ih =>
    rcases ih with rfl | ⟨hn, k2, hk2, hb2, hr⟩
    · exact Or.inr ⟨hm, kid, hk, hb, .refl _⟩
    · exact Or.inr ⟨hn, k2, hk2, hb2, .step hr hm hk hb⟩

theorem shape_le (k : Int) : (shapeI k).2 ≤ 12 := by
  have key : ∀ (c : Bool) (a b : Int × Int), a.2 ≤ 12 → b.2 ≤ 12 → (if c = true then a else b).2 ≤ 12 := fun c a b ha hb => by cases c <;> simp [ha, hb]
  unfold shapeI
  repeat' apply key
  all_goals decide
theorem kids_few {nodes : List NodeD} {n : Nat} (hd : dAt nodes n ≠ 0) (hn : n < nodes.length) : nodes[n].kids.length ≤ 12 := by
  have hb := dAt_node nodes n hd
  unfold nodeB at hb
  simp only [Bool.and_eq_true, nAt_nat hn] at hb
  have h2 := hb.2
  unfold nodeXB at h2
  simp only [Bool.and_eq_true] at h2
  have h3 := inI_true h2.2.1
  have h4 := shape_le nodes[n].kind
  omega
theorem deepK_mem (l : List Int) : ∀ (kids : List Int) (d : Int) (kid : Int), kid ∈ kids → l.getD kid.toNat 0 + 1 ≤ deepK l d kids
  | [], d, kid, h => by simp at h
  | k :: r, d, kid, h => by
    simp only [deepK, List.foldl_cons]
    rcases List.mem_cons.1 h with e | e
    · subst e
      exact Int.le_trans (Int.le_max_right _ _) (deepK_ge l r _)
    · exact deepK_mem l r _ kid e
theorem dAt_kid {nodes : List NodeD} {n : Nat} (hd : dAt nodes n ≠ 0) (hn : n < nodes.length) {kid : Int} (hk : kid ∈ nodes[n].kids) : dAt nodes kid.toNat + 1 ≤ dAt nodes n ∧ dAt nodes kid.toNat ≠ 0 := by
  obtain ⟨_, hh⟩ := kids_lt hd
  obtain ⟨q0, q1, q2⟩ := hh kid hk
  have hv := dAt_val nodes n (dAt_node nodes n hd) (by
    by_cases h0 : n = 0
    · exact Or.inl h0
    · exact Or.inr (dAt_down nodes (by omega) hd))
  rw [nAt_nat hn] at hv
  have hm := deepK_mem (deeps nodes n) nodes[n].kids 1 kid hk
  rw [deeps_get nodes q2] at hm
  refine ⟨?_, dAt_down nodes (by omega) hd⟩
  have e : dAt nodes kid.toNat = deepS nodes (deeps nodes kid.toNat) kid.toNat := rfl
  unfold deepC at hv
  split at hv
  · exact (hd hv).elim
  · omega
theorem dAt_range (nodes : List NodeD) (n : Nat) : 0 ≤ dAt nodes n ∧ dAt nodes n ≤ 10 := deepS_range _ _ _

/-- How heavy a node is: no less than it and all ways down from it. -/
def W (nodes : List NodeD) (n : Nat) : Nat := 13 ^ (dAt nodes n).toNat
def Ws (nodes : List NodeD) (l : List Nat) : Nat := (l.map (W nodes)).sum
theorem W_pos (nodes : List NodeD) (n : Nat) : 1 ≤ W nodes n := Nat.one_le_pow _ _ (by omega)
theorem W_le (nodes : List NodeD) (n : Nat) : W nodes n ≤ 137858491849 := by
  have h := dAt_range nodes n
  have : W nodes n ≤ 13 ^ 10 := Nat.pow_le_pow_right (by omega) (by omega)
  exact Nat.le_trans this (by decide)
theorem Ws_length (nodes : List NodeD) : ∀ l : List Nat, l.length ≤ Ws nodes l
  | [] => by simp [Ws]
  | x :: r => by
    have := Ws_length nodes r
    have h2 := W_pos nodes x
    simp only [Ws, List.map_cons, List.sum_cons, List.length_cons] at this ⊢
    omega
theorem Ws_append (nodes : List NodeD) (l m : List Nat) : Ws nodes (l ++ m) = Ws nodes l + Ws nodes m := by simp [Ws]
/-- The kids that are no blocks. -/
def nbKids (nodes : List NodeD) (kids : List Int) : List Nat := (kids.filter fun kid => !((nAt nodes kid).kind == 20)).map Int.toNat
theorem nbKids_take {nodes : List NodeD} {kids : List Int} {j : Nat} (h : j < kids.length) : nbKids nodes (kids.take (j + 1)) = nbKids nodes (kids.take j) ++ (if (nAt nodes kids[j]).kind == 20 then [] else [kids[j].toNat]) := by
  rw [List.take_succ_eq_append_getElem h]
  unfold nbKids
  rw [List.filter_append, List.map_append]
  cases hk : (nAt nodes kids[j]).kind == 20 <;> simp [hk]
theorem nbKids_mem {nodes : List NodeD} {kids : List Int} {m : Nat} : m ∈ nbKids nodes kids ↔ ∃ kid ∈ kids, (nAt nodes kid).kind ≠ 20 ∧ kid.toNat = m := by
  unfold nbKids
  simp only [List.mem_map, List.mem_filter]
  constructor
  · rintro ⟨kid, ⟨h1, h2⟩, rfl⟩; exact ⟨kid, h1, by simpa using h2, rfl⟩
  · rintro ⟨kid, h1, h2, rfl⟩; exact ⟨kid, ⟨h1, by simpa using h2⟩, rfl⟩
theorem Ws_bound {nodes : List NodeD} {b : Nat} : ∀ l : List Nat, (∀ x ∈ l, W nodes x ≤ b) → Ws nodes l ≤ l.length * b
  | [], _ => by simp [Ws]
  | x :: r, h => by
    have h1 := Ws_bound r (fun y hy => h y (List.mem_cons_of_mem _ hy))
    have h2 := h x List.mem_cons_self
    simp only [Ws, List.map_cons, List.sum_cons, List.length_cons, Nat.add_mul, Nat.one_mul] at h1 ⊢
    omega
theorem Ws_kids {nodes : List NodeD} {n : Nat} (hd : dAt nodes n ≠ 0) (hn : n < nodes.length) : Ws nodes (nbKids nodes nodes[n].kids) + 1 ≤ W nodes n := by
  have hr := dAt_range nodes n
  have hl : (nbKids nodes nodes[n].kids).length ≤ 12 := by
    have h1 := kids_few hd hn
    have h2 : (nbKids nodes nodes[n].kids).length ≤ nodes[n].kids.length := by unfold nbKids; rw [List.length_map]; exact List.length_filter_le _ _
    omega
  have hb := Ws_bound (nodes := nodes) (b := 13 ^ ((dAt nodes n).toNat - 1)) (nbKids nodes nodes[n].kids) (fun x hx => by
    obtain ⟨kid, hk, _, rfl⟩ := nbKids_mem.1 hx
    have h1 := (dAt_kid hd hn hk).1
    have h2 := dAt_range nodes kid.toNat
    exact Nat.pow_le_pow_right (by omega) (by omega))
  have h3 : (nbKids nodes nodes[n].kids).length * 13 ^ ((dAt nodes n).toNat - 1) ≤ 12 * 13 ^ ((dAt nodes n).toNat - 1) := Nat.mul_le_mul_right _ hl
  have h4 : 1 ≤ 13 ^ ((dAt nodes n).toNat - 1) := Nat.one_le_pow _ _ (by omega)
  have h5 : W nodes n = 13 * 13 ^ ((dAt nodes n).toNat - 1) := by
    unfold W
    obtain ⟨e, he⟩ : ∃ e, (dAt nodes n).toNat = e + 1 := ⟨(dAt nodes n).toNat - 1, by omega⟩
    rw [he, Nat.add_sub_cancel, Nat.pow_succ, Nat.mul_comm]
  omega

end Go.Proofs.YtnbodmohnkohfaaGreatDoor.AW
