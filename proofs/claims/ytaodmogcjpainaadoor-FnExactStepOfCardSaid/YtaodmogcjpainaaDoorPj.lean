/- What lies under a node without a block between, both sides. No condition beyond those named. -/
import Derived.Test.YtaodmogcjpainaaDoorPi
namespace Go.Proofs.YtaodmogcjpainaaDoor.AW
open Go.RowKit
set_option maxHeartbeats 8000000
set_option maxRecDepth 100000
set_option linter.unusedSimpArgs false
set_option linter.unusedVariables false

/-- A call of whose results this is known. -/
theorem aCall_ex {P : Program} {C : Cx} {st : St} {K : St → Prop} {f : FuncId} {ags : List Arg} {ι : Type} {Inv : ι → Prop} {R : ι → List RV} (hs : Sound P f ags (fun rs _ => ∃ i, Inv i ∧ rs = R i)) (hpin : ∀ o, isPin o = false → C.pin o = none) {vs : List V} {d : Option Nat}
    (h1 : (takeM st vs ags).1 ∧ lendAll ⟨[], fun _ => undef, pvOf C, (takeM st vs ags).2.ob, argsOb 0 ags⟩ vs ags) (h : ∀ i, Inv i → noShR (R i) = true ∧ ev (b := ⟨K⟩) (after (takeM st vs ags).2 d (R i))) : aCallB (b := ⟨K⟩) P C st f vs d :=
  aCall_of_sound hs (pin3 hpin) h1.1 h1.2 (fun rs _ ⟨i, hi, hr⟩ => by rw [hr]; exact (h i hi).1) (fun rs _ ⟨i, hi, hr⟩ => by rw [hr]; exact (h i hi).2)

/-- From one node down to another one, by way of no block. -/
inductive RB (nodes : List NodeD) : Nat → Nat → Prop
  | refl (n : Nat) : RB nodes n n
  | step {n m : Nat} {kid : Int} (h : RB nodes n m) (hm : m < nodes.length) (hk : kid ∈ nodes[m].kids) (hb : (nAt nodes kid).kind ≠ 20) : RB nodes n kid.toNat
theorem RB.trans {nodes : List NodeD} {a b c : Nat} (h : RB nodes a b) (h' : RB nodes b c) : RB nodes a c := by
  induction h' with
  | refl => exact h
  | step _ hm hk hb ih => exact .step ih hm hk hb
theorem RB.reach {nodes : List NodeD} {a b : Nat} (h : RB nodes a b) : Reach nodes a b := by
  induction h with
  | refl => exact .refl _
  | step _ hm hk hb ih => exact .step ih hm hk
theorem RB.head {nodes : List NodeD} {n m : Nat} (h : RB nodes n m) : n = m ∨ ∃ (hn : n < nodes.length) (kid : Int), kid ∈ nodes[n].kids ∧ (nAt nodes kid).kind ≠ 20 ∧ RB nodes kid.toNat m := by
  induction h with
  | refl => exact Or.inl rfl
  | @step m kid h hm hk hb ih =>
    rcases ih with rfl | ⟨hn, k2, hk2, hb2, hr⟩
    · exact Or.inr ⟨hm, kid, hk, hb, .refl _⟩
    · exact Or.inr ⟨hn, k2, hk2, hb2, .step hr hm hk hb⟩

theorem shape_le (k : Int) : (shapeI k).2 ≤ 12 := by
  have key : ∀ (c : Bool) (a b : Int × Int), a.2 ≤ 12 → b.2 ≤ 12 → (if c = true then a else b).2 ≤ 12 := fun c a b ha hb => by cases c <;> simp [ha, hb]
  unfold shapeI
  repeat' apply key
  all_goals decide
theorem kids_few {nodes : List NodeD} {n : Nat} (hd : dAt nodes n ≠ 0) (hn : n < nodes.length) : nodes[n].kids.length ≤ 12 := by
  have hb := dAt_node nodes n hd
  unfold nodeB at hb
  simp only [Bool.and_eq_true, nAt_nat hn] at hb
  have h2 := hb.2
  unfold nodeXB at h2
  simp only [Bool.and_eq_true] at h2
  have h3 := inI_true h2.2.1
  have h4 := shape_le nodes[n].kind
  omega
theorem deepK_mem (l : List Int) : ∀ (kids : List Int) (d : Int) (kid : Int), kid ∈ kids → l.getD kid.toNat 0 + 1 ≤ deepK l d kids
  | [], d, kid, h => by simp at h
  | k :: r, d, kid, h => by
    simp only [deepK, List.foldl_cons]
    rcases List.mem_cons.1 h with e | e
    · subst e
      exact Int.le_trans (Int.le_max_right _ _) (deepK_ge l r _)
    · exact deepK_mem l r _ kid e
theorem dAt_kid {nodes : List NodeD} {n : Nat} (hd : dAt nodes n ≠ 0) (hn : n < nodes.length) {kid : Int} (hk : kid ∈ nodes[n].kids) : dAt nodes kid.toNat + 1 ≤ dAt nodes n ∧ dAt nodes kid.toNat ≠ 0 := by
  obtain ⟨_, hh⟩ := kids_lt hd
  obtain ⟨q0, q1, q2⟩ := hh kid hk
  have hv := dAt_val nodes n (dAt_node nodes n hd) (by
    by_cases h0 : n = 0
    · exact Or.inl h0
    · exact Or.inr (dAt_down nodes (by omega) hd))
  rw [nAt_nat hn] at hv
  have hm := deepK_mem (deeps nodes n) nodes[n].kids 1 kid hk
  rw [deeps_get nodes q2] at hm
  refine ⟨?_, dAt_down nodes (by omega) hd⟩
  have e : dAt nodes kid.toNat = deepS nodes (deeps nodes kid.toNat) kid.toNat := rfl
  unfold deepC at hv
  split at hv
  · exact (hd hv).elim
  · omega
theorem dAt_range (nodes : List NodeD) (n : Nat) : 0 ≤ dAt nodes n ∧ dAt nodes n ≤ 10 := deepS_range _ _ _

/-- How heavy a node is: no less than it and all ways down from it. -/
def W (nodes : List NodeD) (n : Nat) : Nat := 13 ^ (dAt nodes n).toNat
def Ws (nodes : List NodeD) (l : List Nat) : Nat := (l.map (W nodes)).sum
theorem W_pos (nodes : List NodeD) (n : Nat) : 1 ≤ W nodes n := Nat.one_le_pow _ _ (by omega)
theorem W_le (nodes : List NodeD) (n : Nat) : W nodes n ≤ 137858491849 := by
  have h := dAt_range nodes n
  have : W nodes n ≤ 13 ^ 10 := Nat.pow_le_pow_right (by omega) (by omega)
  exact Nat.le_trans this (by decide)
theorem Ws_length (nodes : List NodeD) : ∀ l : List Nat, l.length ≤ Ws nodes l
  | [] => by simp [Ws]
  | x :: r => by
    have := Ws_length nodes r
    have h2 := W_pos nodes x
    simp only [Ws, List.map_cons, List.sum_cons, List.length_cons] at this ⊢
    omega
theorem Ws_append (nodes : List NodeD) (l m : List Nat) : Ws nodes (l ++ m) = Ws nodes l + Ws nodes m := by simp [Ws]
/-- The kids that are no blocks. -/
def nbKids (nodes : List NodeD) (kids : List Int) : List Nat := (kids.filter fun kid => !((nAt nodes kid).kind == 20)).map Int.toNat
theorem nbKids_take {nodes : List NodeD} {kids : List Int} {j : Nat} (h : j < kids.length) : nbKids nodes (kids.take (j + 1)) = nbKids nodes (kids.take j) ++ (if (nAt nodes kids[j]).kind == 20 then [] else [kids[j].toNat]) := by
  rw [List.take_succ_eq_append_getElem h]
  unfold nbKids
  rw [List.filter_append, List.map_append]
  cases hk : (nAt nodes kids[j]).kind == 20 <;> simp [hk]
theorem nbKids_mem {nodes : List NodeD} {kids : List Int} {m : Nat} : m ∈ nbKids nodes kids ↔ ∃ kid ∈ kids, (nAt nodes kid).kind ≠ 20 ∧ kid.toNat = m := by
  unfold nbKids
  simp only [List.mem_map, List.mem_filter]
  constructor
  · rintro ⟨kid, ⟨h1, h2⟩, rfl⟩; exact ⟨kid, h1, by simpa using h2, rfl⟩
  · rintro ⟨kid, h1, h2, rfl⟩; exact ⟨kid, ⟨h1, by simpa using h2⟩, rfl⟩
theorem Ws_bound {nodes : List NodeD} {b : Nat} : ∀ l : List Nat, (∀ x ∈ l, W nodes x ≤ b) → Ws nodes l ≤ l.length * b
  | [], _ => by simp [Ws]
  | x :: r, h => by
    have h1 := Ws_bound r (fun y hy => h y (List.mem_cons_of_mem _ hy))
    have h2 := h x List.mem_cons_self
    simp only [Ws, List.map_cons, List.sum_cons, List.length_cons, Nat.add_mul, Nat.one_mul] at h1 ⊢
    omega
theorem Ws_kids {nodes : List NodeD} {n : Nat} (hd : dAt nodes n ≠ 0) (hn : n < nodes.length) : Ws nodes (nbKids nodes nodes[n].kids) + 1 ≤ W nodes n := by
  have hr := dAt_range nodes n
  have hl : (nbKids nodes nodes[n].kids).length ≤ 12 := by
    have h1 := kids_few hd hn
    have h2 : (nbKids nodes nodes[n].kids).length ≤ nodes[n].kids.length := by unfold nbKids; rw [List.length_map]; exact List.length_filter_le _ _
    omega
  have hb := Ws_bound (nodes := nodes) (b := 13 ^ ((dAt nodes n).toNat - 1)) (nbKids nodes nodes[n].kids) (fun x hx => by
    obtain ⟨kid, hk, _, rfl⟩ := nbKids_mem.1 hx
    have h1 := (dAt_kid hd hn hk).1
    have h2 := dAt_range nodes kid.toNat
    exact Nat.pow_le_pow_right (by omega) (by omega))
  have h3 : (nbKids nodes nodes[n].kids).length * 13 ^ ((dAt nodes n).toNat - 1) ≤ 12 * 13 ^ ((dAt nodes n).toNat - 1) := Nat.mul_le_mul_right _ hl
  have h4 : 1 ≤ 13 ^ ((dAt nodes n).toNat - 1) := Nat.one_le_pow _ _ (by omega)
  have h5 : W nodes n = 13 * 13 ^ ((dAt nodes n).toNat - 1) := by
    unfold W
    obtain ⟨e, he⟩ : ∃ e, (dAt nodes n).toNat = e + 1 := ⟨(dAt nodes n).toNat - 1, by omega⟩
    rw [he, Nat.add_sub_cancel, Nat.pow_succ, Nat.mul_comm]
  omega

structure Walk (nodes : List NodeD) (s : Nat) (l : List Nat) (i : Nat) : Prop where
  reach : ∀ x ∈ l, RB nodes s x
  root : s ∈ l
  done : ∀ p (hp : p < l.length), p < i → ∀ (hl : l[p] < nodes.length), ∀ kid ∈ nodes[l[p]].kids, (nAt nodes kid).kind ≠ 20 → kid.toNat ∈ l
  le : i ≤ l.length
  few : i + Ws nodes (l.drop i) ≤ W nodes s

theorem reachI_sound (p : ProgramD) (s : Nat) (hd : dAt p.nodes s ≠ 0) (hn : p.nodes.length ≤ 1048576) (hk : ∀ x ∈ p.nodes, x.kids.length ≤ 1048576) : Sound Tryd.prog 29 [.ro (programW p), .ro (.sc (.int .i64 s))] (fun rs st => ∃ l : List Nat, ((∀ m, m ∈ l ↔ RB p.nodes s m) ∧ l.length ≤ 137858491849) ∧ rs = [(false, [.row false 3 (row1 cI (ints l))])]) := by
  refine sound_tri (fn := Tryd.f29) (c := Tryd.f29.body.getD .skip) (res := [.tm 4]) (n := 44) sized (by kernel_rfl) (by rfl) (by kernel_rfl) (by rfl) (by rfl) (by simp [argsV]) (fun uf ub C hpin hpin2 hfull => ?_)
  simp only [Tryd.f29, Option.getD_some]
  obtain ⟨hsl, _⟩ := kids_lt hd
  refine Tri.step sized ?_
  simp (decide := true) only [programW, programC, drop0, row1_length, rows_length, cI, cB, cS, roI, ro64, hpin, go_sem, Nat.reduceAdd, Nat.reduceMul]
  refine Tri.ent ?_ (Ent.frb hfull 2)
  refine Tri.step sized ?_
  simp (decide := true) only [programW, programC, drop0, row1_length, rows_length, cI, cB, cS, roI, ro64, hpin, go_sem, Nat.reduceAdd, Nat.reduceMul]
  refine Tri.step sized ?_
  simp (decide := true) only [programW, programC, drop0, row1_length, rows_length, cI, cB, cS, roI, ro64, hpin, go_sem, Nat.reduceAdd, Nat.reduceMul]
  refine Tri.loop (ι := List Nat × Nat) (fun q => Walk p.nodes s q.1 q.2) (fun q => ⟨44, [(2, .ip (programC true p) 0), (5, .ref 5 [] q.1.length), (6, vI q.2)], [(5, .row 3 (row1 cI (ints q.1)))]⟩) (fun q => Ws p.nodes (q.1.drop q.2)) ([s], 0) ⟨fun x hx => by simp at hx; subst hx; exact .refl _, by simp, fun p hp hp2 => by omega, by simp, by simp [Ws]⟩ ?_ ?_
  · refine Ent.weak ?_ ?_ ?_ ?_ <;> simp (decide := true) [subT, subB, hereT, hereV, hereL, St.get, look, vI, vB, vS, cI, cS, cB, nodeC, roI, programC, ints, row1]
  · rintro ⟨l, i⟩ hW
    simp only at hW ⊢
    have hle : ∀ x ∈ l, x ≤ s := fun x hx => (hW.reach x hx).reach.le hd
    have hWs := W_le p.nodes s
    refine code_sound sized _ ?_
    by_cases h' : i < l.length
    · have e : ((i : Int) < (l.length : Int)) = True := by simp [h']
      have hli := hle l[i] (List.getElem_mem h')
      have hli2 : l[i] < p.nodes.length := by omega
      have hdi := dAt_down p.nodes hli hd
      obtain ⟨_, hkid⟩ := kids_lt hdi
      have hwk := Ws_kids hdi hli2
      have hc1 : ((l[i] : Int) < (p.nodes.length : Int)) = True := eq_true (by omega)
      have hkx := hk p.nodes[l[i]] (List.getElem_mem hli2)
      have hstep : ∀ kid ∈ p.nodes[l[i]].kids, (nAt p.nodes kid).kind ≠ 20 → RB p.nodes s kid.toNat := fun kid h1 h2 => .step (hW.reach l[i] (List.getElem_mem h')) hli2 h1 h2
      have hdrop : l.drop i = l[i] :: l.drop (i + 1) := List.drop_eq_getElem_cons h'
      have hsum : Ws p.nodes (l.drop i) = W p.nodes l[i] + Ws p.nodes (l.drop (i + 1)) := by unfold Ws; rw [hdrop, List.map_cons, List.sum_cons]
      have hfew := hW.few
      generalize hx : p.nodes[l[i]] = x at hkid hkx hwk hstep
      simp (decide := true) only [e, vB, vI, drop0, row1_length, rows_length, cI, cB, cS, roI, ro64, hpin, go_sem, Nat.reduceAdd, Nat.reduceMul]
      refine Tri.sched sized [(0, true), (2, true), (3, true), (4, true), (10, true), (1, true), (5, false), (6, false), (7, false), (8, false), (9, false)] mixed (by kernel_rfl) (fun C2 hC2 => ?_)
      have hp2 : ∀ o, isPin o = false → C2.pin o = none := by rw [hC2]; exact hpin
      simp (decide := true) only [e, hc1, h', ints_length, ints_getq l h', rows_get _ _ hli2, hx, nodeC, programC, Int.natCast_nonneg, drop0, row1_length, rows_length, cI, cB, cS, roI, ro64, hp2, go_sem, Nat.reduceAdd, Nat.reduceMul]
      refine Tri.loop (ι := Nat × List Nat) (fun q => q.1 ≤ x.kids.length ∧ q.2 = l ++ nbKids p.nodes (x.kids.take q.1)) (fun q => ⟨44, [(2, .ip (programC true p) 0), (5, .ref 5 [] q.2.length), (6, vI i), (25, roI x.kids), (26, vI x.kids.length), (27, vI q.1)], [(5, .row 3 (row1 cI (ints q.2)))]⟩) (fun q => x.kids.length - q.1) (0, l) ⟨by simp, by simp [nbKids]⟩ ?_ ?_
      · refine Ent.weak ?_ ?_ ?_ ?_ <;> simp (decide := true) [subT, subB, hereT, hereV, hereL, St.get, look, vI, vB, vS, cI, cS, cB, nodeC, roI, programC]
      · rintro ⟨j, L⟩ ⟨hj, hL⟩
        simp only at hj hL ⊢
        refine code_sound sized _ ?_
        have hnb : (nbKids p.nodes (x.kids.take j)).length ≤ x.kids.length := by unfold nbKids; rw [List.length_map]; exact Nat.le_trans (List.length_filter_le _ _) (by simp; omega)
        have hlen : L.length ≤ 137858491849 + 1048576 := by
          have h1 := Ws_length p.nodes (l.drop i)
          rw [List.length_drop] at h1
          rw [hL, List.length_append]
          omega
        by_cases hj' : j < x.kids.length
        · have e2 : ((j : Int) < (x.kids.length : Int)) = True := by simp [hj']
          obtain ⟨q0, q1, q2⟩ := hkid x.kids[j] (List.getElem_mem hj')
          have z0 : (0 ≤ x.kids[j]) = True := eq_true q0
          have z1 : (x.kids[j] < (p.nodes.length : Int)) = True := eq_true (by omega)
          have z2 : x.kids[j].toNat < p.nodes.length := by omega
          have htk := nbKids_take (nodes := p.nodes) hj'
          rw [nAt_get z2] at htk
          have hb1 : L.length + 1 ≤ 140737488355328 := by omega
          have hb2 : (L.length + 1) * 8 ≤ 140737488355328 := by omega
          have hsn := ints_snoc L q0
          simp (decide := true) only [e2, z0, z1, row1_get _ _ hj', rows_get _ _ z2, ints_length, nodeC, programC, Int.natCast_nonneg, bne, vB, vI, drop0, row1_length, rows_length, cI, cB, cS, roI, ro64, hpin, go_sem, Nat.reduceAdd, Nat.reduceMul]
          cases hc : p.nodes[x.kids[j].toNat].kind == 20 with
          | true =>
            rw [hc, if_pos rfl, List.append_nil] at htk
            simp (decide := true) only [hc, drop0, row1_length, rows_length, cI, cB, cS, roI, ro64, hpin, go_sem, Nat.reduceAdd, Nat.reduceMul]
            refine ⟨(j + 1, L), ⟨hj', by rw [hL, htk]⟩, by simp only; omega, Ent.weak ?_ ?_ ?_ ?_⟩
            all_goals simp (decide := true) [subT, subB, hereT, hereV, hereL, St.get, look, vI, vB, vS, cI, cS, cB, nodeC, roI, programC, w64s (n := x.kids.length) hj' (by omega)]
          | false =>
            rw [hc, if_neg (by decide)] at htk
            simp (decide := true) only [hc, ints_length, hb1, hb2, drop0, row1_length, rows_length, cI, cB, cS, roI, ro64, hpin, go_sem, Nat.reduceAdd, Nat.reduceMul]
            refine ⟨(j + 1, L ++ [x.kids[j].toNat]), ⟨hj', by rw [htk, ← List.append_assoc, ← hL]⟩, by simp only; omega, Ent.weak ?_ ?_ ?_ ?_⟩
            all_goals simp (decide := true) [subT, subB, hereT, hereV, hereL, St.get, look, vI, vB, vS, cI, cS, cB, nodeC, roI, programC, w64s (n := x.kids.length) hj' (by omega), ← hsn, row1, ints, Int.max_eq_left q0]
        · have hjl : j = x.kids.length := by omega
          subst hjl
          have e2 : ((x.kids.length : Int) < (x.kids.length : Int)) = False := by simp
          rw [List.take_length] at hL
          simp (decide := true) only [e2, vB, vI, drop0, row1_length, rows_length, cI, cB, cS, roI, ro64, hpin, go_sem, Nat.reduceAdd, Nat.reduceMul]
          have hd2 : L.drop (i + 1) = l.drop (i + 1) ++ nbKids p.nodes x.kids := by rw [hL]; exact List.drop_append_of_le_length (by omega)
          have hlL : l.length ≤ L.length := by rw [hL]; simp
          refine ⟨(L, i + 1), ⟨?_, by rw [hL]; exact List.mem_append_left _ hW.root, ?_, ?_, ?_⟩, ?_, Ent.weak ?_ ?_ ?_ ?_⟩
          · intro y hy
            rw [hL] at hy
            rcases List.mem_append.1 hy with hy | hy
            · exact hW.reach y hy
            · obtain ⟨kid, h1, h2, rfl⟩ := nbKids_mem.1 hy
              exact hstep kid h1 h2
          · intro q hq hq2 hl kid hkk hkb
            have hql : q < l.length := by omega
            have e5 : L[q] = l[q] := by simp only [hL]; exact List.getElem_append_left hql
            simp only [e5] at hl hkk
            rw [hL]
            by_cases eq : q = i
            · subst eq
              rw [hx] at hkk
              exact List.mem_append_right _ (nbKids_mem.2 ⟨kid, hkk, hkb, rfl⟩)
            · exact List.mem_append_left _ (hW.done q hql (by omega) hl kid hkk hkb)
          · simp only; omega
          · simp only [hd2, Ws_append]; omega
          · simp only [hd2, Ws_append]; omega
          all_goals simp (decide := true) [subT, subB, hereT, hereV, hereL, St.get, look, vI, vB, vS, cI, cS, cB, nodeC, roI, programC, w64s (n := l.length) h' (by have h1 := Ws_length p.nodes (l.drop i); rw [List.length_drop] at h1; omega)]
    · have hil : i = l.length := by have := hW.le; omega
      subst hil
      have e : ((l.length : Int) < (l.length : Int)) = False := by simp
      have hfew := hW.few
      have hall : (∀ m, m ∈ l ↔ RB p.nodes s m) ∧ l.length ≤ 137858491849 := ⟨fun m => ⟨hW.reach m, fun hm => by
        induction hm with
        | refl => exact hW.root
        | @step m kid h hm hk hb ih =>
          obtain ⟨q, hq, rfl⟩ := List.getElem_of_mem ih
          exact hW.done q hq hq hm kid hk hb⟩, by omega⟩
      simp (decide := true) only [e, vB, vI, drop0, row1_length, rows_length, cI, cB, cS, roI, ro64, hpin, go_sem, Nat.reduceAdd, Nat.reduceMul]
      refine code_sound sized _ ?_
      simp (decide := true) only [ints_length, drop0, row1_length, rows_length, cI, cB, cS, roI, ro64, hpin, go_sem, Nat.reduceAdd, Nat.reduceMul]
      exact ⟨l, hall, rfl⟩

open Classical in
theorem hasB_sound (nodes : List NodeD) (k : Nat) (hn : nodes.length ≤ 1048576) (hk : ∀ x ∈ nodes, x.kids.length ≤ 1048576) (n : Nat) : dAt nodes n ≠ 0 → Sound Tryd.prog 24 [.ro (.imm 51 (rows (nodeC true) nodes)), .ro (.sc (.int .i64 n)), .ro (.sc (.int .i64 k))] (fun rs st => rs = [(false, [cB (decide (RB nodes n k))])]) := by
  induction n using Nat.strongRecOn with
  | ind n ih =>
  intro hd
  obtain ⟨hnl, hkid⟩ := kids_lt hd
  have hkx := hk nodes[n] (List.getElem_mem hnl)
  have sub : ∀ kid ∈ nodes[n].kids, (nAt nodes kid).kind ≠ 20 → RB nodes kid.toNat k → RB nodes n k := fun kid h1 h2 h3 => (RB.step (.refl n) hnl h1 h2).trans h3
  have non : n ≠ k → (∀ kid ∈ nodes[n].kids, (nAt nodes kid).kind ≠ 20 → ¬ RB nodes kid.toNat k) → ¬ RB nodes n k := fun h1 h2 h3 => by
    rcases h3.head with h | ⟨_, kid, g1, g2, g3⟩
    · exact h1 h
    · exact h2 kid g1 g2 g3
  have hrec : ∀ kid ∈ nodes[n].kids, Sound Tryd.prog 24 [.ro (.imm 51 (rows (nodeC true) nodes)), .ro (.sc (.int .i64 kid)), .ro (.sc (.int .i64 k))] (fun rs st => rs = [(false, [cB (decide (RB nodes kid.toNat k))])]) := fun kid hkk => by
    obtain ⟨q0, q1, q2⟩ := hkid kid hkk
    have e : kid = (kid.toNat : Int) := by omega
    have := ih kid.toNat q2 (dAt_down nodes (by omega) hd)
    rw [← e] at this
    exact this
  generalize hx : nodes[n] = x at hkx hkid sub non hrec
  have hc1 : ((n : Int) < (nodes.length : Int)) = True := eq_true (by omega)
  refine sound_tri (fn := Tryd.f24) (c := Tryd.f24.body.getD .skip) (res := [.tm 6]) (n := 42) sized (by kernel_rfl) (by rfl) (by kernel_rfl) (by rfl) (by rfl) (by simp [argsV]) (fun uf ub C hpin hpin2 hfull => ?_)
  simp only [Tryd.f24, Option.getD_some]
  refine Tri.step sized ?_
  simp (decide := true) only [drop0, row1_length, rows_length, cI, cB, cS, roI, ro64, hpin, go_sem, Nat.reduceAdd, Nat.reduceMul]
  refine Tri.step sized ?_
  simp (decide := true) only [drop0, row1_length, rows_length, cI, cB, cS, roI, ro64, hpin, go_sem, Nat.reduceAdd, Nat.reduceMul]
  cases hnk : (n : Int) == (k : Int) with
  | true =>
    have : n = k := by have h1 : (n : Int) = k := by simpa using hnk
                       omega
    subst this
    have hR : decide (RB nodes n n) = true := decide_eq_true (.refl n)
    simp (decide := true) only [hnk, hR, drop0, row1_length, rows_length, cI, cB, cS, roI, ro64, hpin, go_sem, Nat.reduceAdd, Nat.reduceMul]
  | false =>
  have hne : n ≠ k := fun h => by rw [h] at hnk; simp at hnk
  simp (decide := true) only [drop0, row1_length, rows_length, cI, cB, cS, roI, ro64, hpin, go_sem, Nat.reduceAdd, Nat.reduceMul]
  refine code_sound sized _ ?_
  simp (decide := true) only [drop0, row1_length, rows_length, cI, cB, cS, roI, ro64, hpin, go_sem, Nat.reduceAdd, Nat.reduceMul]
  refine Tri.loop (ι := Nat) (fun i => i ≤ x.kids.length ∧ ∀ j (hj : j < x.kids.length), j < i → (nAt nodes x.kids[j]).kind ≠ 20 → ¬ RB nodes x.kids[j].toNat k) (fun i => ⟨42, [(0, .imm 51 (rows (nodeC true) nodes)), (1, vI n), (2, vI k), (6, vB false), (7, vI i)], []⟩) (fun i => x.kids.length - i) 0 ⟨by simp, fun j hj h0 => by omega⟩ ?_ ?_
  · refine Ent.weak ?_ ?_ ?_ ?_ <;> simp (decide := true) [subT, subB, hereT, hereV, hereL, St.get, look, vI, vB, vS, cI, cS, cB, nodeC, roI]
  · rintro i ⟨hi, hq2⟩
    refine code_sound sized _ ?_
    by_cases h' : i < x.kids.length
    · have e : ((i : Int) < (x.kids.length : Int)) = True := by simp [h']
      have hmem := List.getElem_mem h'
      obtain ⟨q0, q1, q2⟩ := hkid x.kids[i] hmem
      have z0 : (0 ≤ x.kids[i]) = True := eq_true q0
      have z1 : (x.kids[i] < (nodes.length : Int)) = True := eq_true (by omega)
      have z2 : x.kids[i].toNat < nodes.length := by omega
      have hat : nAt nodes x.kids[i] = nodes[x.kids[i].toNat] := nAt_get z2
      simp (decide := true) only [e, hc1, z0, z1, rows_get _ _ hnl, hx, row1_get _ _ h', rows_get _ _ z2, bne, nodeC, Int.natCast_nonneg, vB, vI, drop0, row1_length, rows_length, cI, cB, cS, roI, ro64, hpin, go_sem, Nat.reduceAdd, Nat.reduceMul]
      cases hc : nodes[x.kids[i].toNat].kind == 20 with
      | true =>
        simp (decide := true) only [hc, drop0, row1_length, rows_length, cI, cB, cS, roI, ro64, hpin, go_sem, Nat.reduceAdd, Nat.reduceMul]
        refine ⟨i + 1, ⟨h', fun j hj hj2 hjb => ?_⟩, by omega, Ent.weak ?_ ?_ ?_ ?_⟩
        · by_cases ej : j = i
          · subst ej; rw [hat] at hjb; exact (hjb (by simpa using hc)).elim
          · exact hq2 j hj (by omega) hjb
        all_goals simp (decide := true) [subT, subB, hereT, hereV, hereL, St.get, look, vI, vB, vS, cI, cS, cB, nodeC, roI, w64s (n := x.kids.length) h' (by omega)]
      | false =>
        have hnb : (nAt nodes x.kids[i]).kind ≠ 20 := by rw [hat]; simpa using hc
        simp (decide := true) only [hc, drop0, row1_length, rows_length, cI, cB, cS, roI, ro64, hpin, go_sem, Nat.reduceAdd, Nat.reduceMul]
        refine aCall_det (hrec x.kids[i] hmem) hpin ?_
        simp (decide := true) only [drop0, row1_length, rows_length, cI, cB, cS, roI, ro64, hpin, go_sem, Nat.reduceAdd, Nat.reduceMul]
        by_cases hR : RB nodes x.kids[i].toNat k
        · have h1 : decide (RB nodes x.kids[i].toNat k) = true := decide_eq_true hR
          have h2 : decide (RB nodes n k) = true := decide_eq_true (sub _ hmem hnb hR)
          simp (decide := true) only [h1, h2, drop0, row1_length, rows_length, cI, cB, cS, roI, ro64, hpin, go_sem, Nat.reduceAdd, Nat.reduceMul]
        · have h1 : decide (RB nodes x.kids[i].toNat k) = false := decide_eq_false hR
          simp (decide := true) only [h1, drop0, row1_length, rows_length, cI, cB, cS, roI, ro64, hpin, go_sem, Nat.reduceAdd, Nat.reduceMul]
          refine ⟨i + 1, ⟨h', fun j hj hj2 hjb => ?_⟩, by omega, Ent.weak ?_ ?_ ?_ ?_⟩
          · by_cases ej : j = i
            · subst ej; exact hR
            · exact hq2 j hj (by omega) hjb
          all_goals simp (decide := true) [subT, subB, hereT, hereV, hereL, St.get, look, vI, vB, vS, cI, cS, cB, nodeC, roI, w64s (n := x.kids.length) h' (by omega)]
    · have hil : i = x.kids.length := by omega
      subst hil
      have e : ((x.kids.length : Int) < (x.kids.length : Int)) = False := by simp
      have h2 : decide (RB nodes n k) = false := decide_eq_false (non hne (fun kid hkk hkb => by
        obtain ⟨j, hj, rfl⟩ := List.getElem_of_mem hkk
        exact hq2 j hj hj hkb))
      simp (decide := true) only [e, h2, hc1, rows_get _ _ hnl, hx, nodeC, Int.natCast_nonneg, vB, vI, drop0, row1_length, rows_length, cI, cB, cS, roI, ro64, hpin, go_sem, Nat.reduceAdd, Nat.reduceMul]
end Go.Proofs.YtaodmogcjpainaaDoor.AW
