/- Whether a value looks alone, as the program tells it and as the reference does. No condition beyond those named. -/
import Derived.Test.YtaodmogcjpainaaDoorPe
namespace Go.Proofs.YtaodmogcjpainaaDoor.AW
open Go.RowKit
set_option maxHeartbeats 8000000
set_option maxRecDepth 100000
set_option linter.unusedSimpArgs false
set_option linter.unusedVariables false

noncomputable def underP (nodes : List NodeD) (k : Int) : List Int := if deepOf nodes k == 0 then [] else underL nodes k.toNat
theorem deep_nat {nodes : List NodeD} {k : Int} (h : (deepOf nodes k == 0) = false) : ∃ n : Nat, k = n ∧ n < nodes.length ∧ dAt nodes n ≠ 0 := by
  have hd : deepOf nodes k ≠ 0 := by simpa using h
  unfold deepOf at hd
  cases h0 : inI k 0 (nodes.length - 1) with
  | false => simp [h0] at hd
  | true =>
    have hr := inI_true h0
    rw [h0, if_pos rfl] at hd
    exact ⟨k.toNat, by omega, by omega, hd⟩
theorem underP_mem {nodes : List NodeD} {k x : Int} (h : x ∈ underP nodes k) : 0 ≤ x ∧ x.toNat < nodes.length ∧ Reach nodes k.toNat x.toNat := by
  unfold underP at h
  cases hd : deepOf nodes k == 0 with
  | true => simp [hd] at h
  | false =>
    obtain ⟨n, rfl, hn, hdn⟩ := deep_nat hd
    simp only [hd, Bool.false_eq_true, if_false, underL, List.mem_map] at h
    obtain ⟨m, hm, rfl⟩ := h
    have hr := (underN_mem hdn).1 hm
    have := hr.le hdn
    exact ⟨by omega, by simp; omega, by simpa using hr⟩
theorem underP_length (nodes : List NodeD) (k : Int) : (underP nodes k).length ≤ nodes.length := by
  unfold underP
  cases hd : deepOf nodes k == 0 with
  | true => simp
  | false =>
    obtain ⟨n, rfl, hn, hdn⟩ := deep_nat hd
    have := underN_length nodes n
    simp [underL]; omega

theorem underI_sound (p : ProgramD) (k : Int) (hn : p.nodes.length ≤ 1048576) (hk : ∀ x ∈ p.nodes, x.kids.length ≤ 1048576) : Sound Tryd.prog 27 [.ro (programW p), .ro (.sc (.int .i64 k))] (fun rs st => rs = [(false, [.row false 3 (row1 cI (underP p.nodes k))])]) := by
  refine sound_tri (fn := Tryd.f27) (c := Tryd.f27.body.getD .skip) (res := [.tm 4]) (n := 14) sized (by kernel_rfl) (by rfl) (by kernel_rfl) (by rfl) (by rfl) (by simp [argsV]) (fun uf ub C hpin hpin2 hfull => ?_)
  simp only [Tryd.f27, Option.getD_some]
  refine Tri.step sized ?_
  simp (decide := true) only [programW, programC, drop0, row1_length, rows_length, cI, cB, cS, roI, ro64, hpin, go_sem, Nat.reduceAdd, Nat.reduceMul]
  refine Tri.ent ?_ (Ent.frb hfull 2)
  refine Tri.step sized ?_
  simp (decide := true) only [programW, programC, drop0, row1_length, rows_length, cI, cB, cS, roI, ro64, hpin, go_sem, Nat.reduceAdd, Nat.reduceMul]
  refine aCall_det (deepI_sound p.nodes k hn hk) hpin ?_
  simp (decide := true) only [programW, programC, drop0, row1_length, rows_length, cI, cB, cS, roI, ro64, hpin, go_sem, Nat.reduceAdd, Nat.reduceMul]
  cases hd : deepOf p.nodes k == 0 with
  | true =>
    have hu : underP p.nodes k = [] := by simp [underP, hd]
    have e0 : row1 cI ([] : List Int) = [] := rfl
    simp (decide := true) only [hu, e0, drop0, row1_length, rows_length, cI, cB, cS, roI, ro64, hpin, go_sem, Nat.reduceAdd, Nat.reduceMul]
  | false =>
    obtain ⟨n, rfl, hnl, hdn⟩ := deep_nat hd
    have hu : underP p.nodes n = underL p.nodes n := by simp [underP, hd]
    rw [hu]
    simp (decide := true) only [programW, programC, drop0, row1_length, rows_length, cI, cB, cS, roI, ro64, hpin, go_sem, Nat.reduceAdd, Nat.reduceMul]
    refine code_sound sized _ ?_
    simp (decide := true) only [programW, programC, drop0, row1_length, rows_length, cI, cB, cS, roI, ro64, hpin, go_sem, Nat.reduceAdd, Nat.reduceMul]
    refine aCall_det (under_sound p.nodes n hdn hn hk) hpin ?_
    simp (decide := true) only [programW, programC, drop0, row1_length, rows_length, cI, cB, cS, roI, ro64, hpin, go_sem, Nat.reduceAdd, Nat.reduceMul]

/-- Of these kinds alone. -/
noncomputable def onlyB (nodes : List NodeD) (kinds : List Int) (k : Int) : Bool := (underP nodes k).all (fun x => kinds.contains (nAt nodes x).kind) && !(deepOf nodes k == 0)

theorem onlyK_sound (p : ProgramD) (k : Int) (kinds : List Int) (hkl : kinds.length ≤ 1048576) (hn : p.nodes.length ≤ 1048576) (hk : ∀ x ∈ p.nodes, x.kids.length ≤ 1048576) : Sound Tryd.prog 18 [.ro (programW p), .ro (.sc (.int .i64 k)), .ro (roI kinds)] (fun rs st => rs = [(false, [cB (onlyB p.nodes kinds k)])]) := by
  refine sound_tri (fn := Tryd.f18) (c := Tryd.f18.body.getD .skip) (res := [.tm 6]) (n := 32) sized (by kernel_rfl) (by rfl) (by kernel_rfl) (by rfl) (by rfl) (by simp [argsV]) (fun uf ub C hpin hpin2 hfull => ?_)
  simp only [Tryd.f18, Option.getD_some]
  refine Tri.step sized ?_
  simp (decide := true) only [programW, programC, drop0, row1_length, rows_length, cI, cB, cS, roI, ro64, hpin, go_sem, Nat.reduceAdd, Nat.reduceMul]
  refine Tri.ent ?_ (Ent.frb hfull 3)
  refine Tri.step sized ?_
  simp (decide := true) only [programW, programC, drop0, row1_length, rows_length, cI, cB, cS, roI, ro64, hpin, go_sem, Nat.reduceAdd, Nat.reduceMul]
  refine aCall_det (underI_sound p k hn hk) hpin ?_
  simp (decide := true) only [programW, programC, drop0, row1_length, rows_length, cI, cB, cS, roI, ro64, hpin, go_sem, Nat.reduceAdd, Nat.reduceMul]
  have hul := underP_length p.nodes k
  have hmem : ∀ i (hi : i < (underP p.nodes k).length), 0 ≤ (underP p.nodes k)[i] ∧ (underP p.nodes k)[i].toNat < p.nodes.length := fun i hi => by
    have := underP_mem (List.getElem_mem hi)
    exact ⟨this.1, this.2.1⟩
  have hne : (0 < ((underP p.nodes k).length : Int)) = !(deepOf p.nodes k == 0) := by
    unfold underP
    cases hd : deepOf p.nodes k == 0 with
    | true => simp
    | false =>
      obtain ⟨n, rfl, hnl, hdn⟩ := deep_nat hd
      have h1 := (underN_mem hdn).2 (Reach.refl n)
      have h2 := List.length_pos_of_mem h1
      simp [underL]; exact h2
  unfold onlyB
  generalize hl : underP p.nodes k = l at hul hmem hne ⊢
  generalize (deepOf p.nodes k == 0) = z at hne ⊢
  refine Tri.ent ?_ (Ent.frz hfull 7)
  refine Tri.step sized ?_
  simp (decide := true) only [programW, programC, drop0, row1_length, rows_length, cI, cB, cS, roI, ro64, hpin, go_sem, Nat.reduceAdd, Nat.reduceMul]
  refine Tri.loop (ι := Nat) (fun i => i ≤ l.length ∧ (l.take i).all (fun x => kinds.contains (nAt p.nodes x).kind) = true) (fun i => ⟨32, [(2, roI kinds), (3, .ip (programC true p) 0), (7, roI l), (13, roI l), (14, vI l.length), (15, vI i)], []⟩) (fun i => l.length - i) 0 (by simp) ?_ ?_
  · refine Ent.weak ?_ ?_ ?_ ?_ <;> simp (decide := true) [subT, subB, hereT, hereV, hereL, St.get, look, vI, vB, vS, cI, cS, cB, nodeC, roI, programC]
  · rintro i ⟨hi, hq⟩
    refine code_sound sized _ ?_
    by_cases h' : i < l.length
    · have e : ((i : Int) < (l.length : Int)) = True := by simp [h']
      obtain ⟨g0, g1⟩ := hmem i h'
      have z0 : (0 ≤ l[i]) = True := eq_true g0
      have z1 : (l[i] < (p.nodes.length : Int)) = True := eq_true (by omega)
      have hat : nAt p.nodes l[i] = p.nodes[l[i].toNat] := nAt_get g1
      simp (decide := true) only [e, z0, z1, row1_get _ _ h', rows_get _ _ g1, nodeC, programC, Int.natCast_nonneg, vB, vI, drop0, row1_length, rows_length, cI, cB, cS, roI, ro64, hpin, go_sem, Nat.reduceAdd, Nat.reduceMul]
      refine aCall_det (hasInt_sound kinds p.nodes[l[i].toNat].kind (by omega)) hpin ?_
      simp (decide := true) only [programW, programC, drop0, row1_length, rows_length, cI, cB, cS, roI, ro64, hpin, go_sem, Nat.reduceAdd, Nat.reduceMul]
      cases hc : kinds.contains p.nodes[l[i].toNat].kind with
      | false =>
        have hf : l.all (fun x => kinds.contains (nAt p.nodes x).kind) = false := by
          rw [List.all_eq_false]; exact ⟨l[i], List.getElem_mem h', by simp only [hat, hc]; decide⟩
        simp (decide := true) only [hf, Bool.false_and, drop0, row1_length, rows_length, cI, cB, cS, roI, ro64, hpin, go_sem, Nat.reduceAdd, Nat.reduceMul]
      | true =>
        simp (decide := true) only [programW, programC, drop0, row1_length, rows_length, cI, cB, cS, roI, ro64, hpin, go_sem, Nat.reduceAdd, Nat.reduceMul]
        refine ⟨i + 1, ⟨h', ?_⟩, by omega, Ent.weak ?_ ?_ ?_ ?_⟩
        · rw [List.take_succ_eq_append_getElem h', List.all_append, hq]
          simp only [List.all_cons, List.all_nil, hat, hc]; rfl
        all_goals simp (decide := true) [subT, subB, hereT, hereV, hereL, St.get, look, vI, vB, vS, cI, cS, cB, nodeC, roI, programC, w64s (n := l.length) h' (by omega)]
    · have hil : i = l.length := by omega
      subst hil
      have e : ((l.length : Int) < (l.length : Int)) = False := by simp
      rw [List.take_length] at hq
      simp (decide := true) only [e, hq, vB, vI, programC, drop0, row1_length, rows_length, cI, cB, cS, roI, ro64, hpin, go_sem, Nat.reduceAdd, Nat.reduceMul]
      refine code_sound sized _ ?_
      simp (decide := true) only [hne, Bool.true_and, Bool.decide_eq_true, drop0, row1_length, rows_length, cI, cB, cS, roI, ro64, hpin, go_sem, Nat.reduceAdd, Nat.reduceMul]

def quietB (still : Bool) (kind : Int) : Bool := kind == 1 || kind == 2 || kind == 10 || kind == 11 || (!still && (kind == 3 || kind == 9))
open Classical in
/-- Whether a value looks alone. -/
noncomputable def quietP (nodes : List NodeD) (still : Bool) (k : Int) : Bool := !(deepOf nodes k == 0) && decide (∀ m, Reach nodes k.toNat m → quietB still (nAt nodes m).kind = true)

open Classical in
theorem only_quiet {nodes : List NodeD} {kinds : List Int} {still : Bool} (h : ∀ c, kinds.contains c = quietB still c) (k : Int) : onlyB nodes kinds k = quietP nodes still k := by
  unfold onlyB quietP
  rw [Bool.and_comm]
  cases hd : deepOf nodes k == 0 with
  | true => rfl
  | false =>
    simp only [Bool.not_false, Bool.true_and]
    obtain ⟨n, rfl, hnl, hdn⟩ := deep_nat hd
    rw [Bool.eq_iff_iff, decide_eq_true_iff, List.all_eq_true]
    simp only [underP, hd, Bool.false_eq_true, if_false, Int.toNat_natCast, h]
    constructor
    · intro hh m hm
      exact hh m (List.mem_map.2 ⟨m, (underN_mem hdn).2 hm, rfl⟩)
    · intro hh x hx
      obtain ⟨m, hm, rfl⟩ := List.mem_map.1 hx
      exact hh m ((underN_mem hdn).1 hm)

open Classical in
theorem onlyS_sound (nodes : List NodeD) (still : Bool) (hn : nodes.length ≤ 1048576) (hk : ∀ x ∈ nodes, x.kids.length ≤ 1048576) (n : Nat) : dAt nodes n ≠ 0 → Sound Tryd.prog 15 [.ro (.imm 51 (rows (nodeC true) nodes)), .ro (.sc (.int .i64 n)), .ro (.sc (.bool still))] (fun rs st => rs = [(false, [cB (decide (∀ m, Reach nodes n m → quietB still (nAt nodes m).kind = true))])]) := by
  induction n using Nat.strongRecOn with
  | ind n ih =>
  intro hd
  obtain ⟨hnl, hkid⟩ := kids_lt hd
  have hkx := hk nodes[n] (List.getElem_mem hnl)
  have hat : nAt nodes (n : Int) = nodes[n] := nAt_nat hnl
  have own : quietB still nodes[n].kind = false → decide (∀ m, Reach nodes n m → quietB still (nAt nodes m).kind = true) = false := fun hq => by
    rw [decide_eq_false_iff_not]
    intro hall
    have := hall n (.refl n)
    rw [hat, hq] at this; cases this
  have sub : ∀ kid ∈ nodes[n].kids, decide (∀ m, Reach nodes kid.toNat m → quietB still (nAt nodes m).kind = true) = false → decide (∀ m, Reach nodes n m → quietB still (nAt nodes m).kind = true) = false := fun kid hkk hq => by
    rw [decide_eq_false_iff_not] at hq ⊢
    intro hall
    exact hq (fun m hm => hall m ((Reach.step (.refl n) hnl hkk).trans hm))
  have all : quietB still nodes[n].kind = true → (∀ kid ∈ nodes[n].kids, ∀ m, Reach nodes kid.toNat m → quietB still (nAt nodes m).kind = true) → decide (∀ m, Reach nodes n m → quietB still (nAt nodes m).kind = true) = true := fun hq hh => by
    rw [decide_eq_true_iff]
    intro m hm
    rcases hm.head with rfl | ⟨_, kid, hkk, hr⟩
    · rw [hat]; exact hq
    · exact hh kid hkk m hr
  have hrec : ∀ kid ∈ nodes[n].kids, Sound Tryd.prog 15 [.ro (.imm 51 (rows (nodeC true) nodes)), .ro (.sc (.int .i64 kid)), .ro (.sc (.bool still))] (fun rs st => rs = [(false, [cB (decide (∀ m, Reach nodes kid.toNat m → quietB still (nAt nodes m).kind = true))])]) := fun kid hkk => by
    obtain ⟨q0, q1, q2⟩ := hkid kid hkk
    have e : kid = (kid.toNat : Int) := by omega
    have := ih kid.toNat q2 (dAt_down nodes (by omega) hd)
    rw [← e] at this
    exact this
  generalize hx : nodes[n] = x at hkx hkid own sub all hrec
  generalize hR : decide (∀ m, Reach nodes n m → quietB still (nAt nodes m).kind = true) = R at own sub all
  have hc1 : ((n : Int) < (nodes.length : Int)) = True := eq_true (by omega)
  refine sound_tri (fn := Tryd.f15) (c := Tryd.f15.body.getD .skip) (res := [.tm 6]) (n := 40) sized (by kernel_rfl) (by rfl) (by kernel_rfl) (by rfl) (by rfl) (by simp [argsV]) (fun uf ub C hpin hpin2 hfull => ?_)
  simp only [Tryd.f15, Option.getD_some]
  refine Tri.step sized ?_
  simp (decide := true) only [drop0, row1_length, rows_length, cI, cB, cS, roI, ro64, hpin, go_sem, Nat.reduceAdd, Nat.reduceMul]
  refine Tri.step sized ?_
  simp (decide := true) only [hc1, rows_get _ _ hnl, hx, nodeC, Int.natCast_nonneg, drop0, row1_length, rows_length, cI, cB, cS, roI, ro64, hpin, go_sem, Nat.reduceAdd, Nat.reduceMul]
  refine Tri.ent ?_ (Ent.frb hfull 7)
  cases hq : quietB still x.kind with
  | false =>
    have hRf := own hq
    have n1 : (x.kind == 1) = false := by cases h : x.kind == 1 with | false => rfl | true => simp [quietB, h] at hq
    have n2 : (x.kind == 2) = false := by cases h : x.kind == 2 with | false => rfl | true => simp [quietB, h] at hq
    have n10 : (x.kind == 10) = false := by cases h : x.kind == 10 with | false => rfl | true => simp [quietB, h] at hq
    have n11 : (x.kind == 11) = false := by cases h : x.kind == 11 with | false => rfl | true => simp [quietB, h] at hq
    refine Tri.step sized ?_
    simp (decide := true) only [n1, n2, n10, n11, hRf, drop0, row1_length, rows_length, cI, cB, cS, roI, ro64, hpin, go_sem, Nat.reduceAdd, Nat.reduceMul]
    cases h3 : x.kind == 3 with
    | true =>
      have hst : still = true := by cases still with | true => rfl | false => simp [quietB, h3] at hq
      simp (decide := true) only [hst, hRf, h3, drop0, row1_length, rows_length, cI, cB, cS, roI, ro64, hpin, go_sem, Nat.reduceAdd, Nat.reduceMul]
    | false =>
      simp (decide := true) only [h3, drop0, row1_length, rows_length, cI, cB, cS, roI, ro64, hpin, go_sem, Nat.reduceAdd, Nat.reduceMul]
      cases h9 : x.kind == 9 with
      | true =>
        have hst : still = true := by cases still with | true => rfl | false => simp [quietB, h9] at hq
        simp (decide := true) only [hst, hRf, h9, drop0, row1_length, rows_length, cI, cB, cS, roI, ro64, hpin, go_sem, Nat.reduceAdd, Nat.reduceMul]
      | false => simp (decide := true) only [hRf, h9, drop0, row1_length, rows_length, cI, cB, cS, roI, ro64, hpin, go_sem, Nat.reduceAdd, Nat.reduceMul]
  | true =>
  refine Tri.stop sized ⟨40, [(0, .imm 51 (rows (nodeC true) nodes)), (1, vI n), (2, vB still), (6, vB false), (7, .ip (nodeC true x) 0)], []⟩ ?_ ?_
  · simp (decide := true) only [drop0, row1_length, rows_length, cI, cB, cS, roI, ro64, hpin, go_sem, Nat.reduceAdd, Nat.reduceMul]
    cases h1 : x.kind == 1 with
    | true => simp (decide := true) only [h1, drop0, row1_length, rows_length, cI, cB, cS, roI, ro64, hpin, go_sem, Nat.reduceAdd, Nat.reduceMul]; refine Ent.weak ?_ ?_ ?_ ?_ <;> simp (decide := true) [subT, subB, hereT, hereV, hereL, St.get, look, vI, vB, vS, cI, cS, cB, nodeC, roI]
    | false =>
    simp (decide := true) only [h1, drop0, row1_length, rows_length, cI, cB, cS, roI, ro64, hpin, go_sem, Nat.reduceAdd, Nat.reduceMul]
    cases h2 : x.kind == 2 with
    | true => simp (decide := true) only [h2, drop0, row1_length, rows_length, cI, cB, cS, roI, ro64, hpin, go_sem, Nat.reduceAdd, Nat.reduceMul]; refine Ent.weak ?_ ?_ ?_ ?_ <;> simp (decide := true) [subT, subB, hereT, hereV, hereL, St.get, look, vI, vB, vS, cI, cS, cB, nodeC, roI]
    | false =>
    simp (decide := true) only [h2, drop0, row1_length, rows_length, cI, cB, cS, roI, ro64, hpin, go_sem, Nat.reduceAdd, Nat.reduceMul]
    cases h10 : x.kind == 10 with
    | true => simp (decide := true) only [h10, drop0, row1_length, rows_length, cI, cB, cS, roI, ro64, hpin, go_sem, Nat.reduceAdd, Nat.reduceMul]; refine Ent.weak ?_ ?_ ?_ ?_ <;> simp (decide := true) [subT, subB, hereT, hereV, hereL, St.get, look, vI, vB, vS, cI, cS, cB, nodeC, roI]
    | false =>
    simp (decide := true) only [h10, drop0, row1_length, rows_length, cI, cB, cS, roI, ro64, hpin, go_sem, Nat.reduceAdd, Nat.reduceMul]
    cases h11 : x.kind == 11 with
    | true => simp (decide := true) only [h11, drop0, row1_length, rows_length, cI, cB, cS, roI, ro64, hpin, go_sem, Nat.reduceAdd, Nat.reduceMul]; refine Ent.weak ?_ ?_ ?_ ?_ <;> simp (decide := true) [subT, subB, hereT, hereV, hereL, St.get, look, vI, vB, vS, cI, cS, cB, nodeC, roI]
    | false =>
    have hst : still = false := by cases still with | false => rfl | true => simp [quietB, h1, h2, h10, h11] at hq
    simp (decide := true) only [h11, hst, drop0, row1_length, rows_length, cI, cB, cS, roI, ro64, hpin, go_sem, Nat.reduceAdd, Nat.reduceMul]
    cases h3 : x.kind == 3 with
    | true => simp (decide := true) only [h3, drop0, row1_length, rows_length, cI, cB, cS, roI, ro64, hpin, go_sem, Nat.reduceAdd, Nat.reduceMul]; refine Ent.weak ?_ ?_ ?_ ?_ <;> simp (decide := true) [subT, subB, hereT, hereV, hereL, St.get, look, vI, vB, vS, cI, cS, cB, nodeC, roI, hst]
    | false =>
    simp (decide := true) only [h3, drop0, row1_length, rows_length, cI, cB, cS, roI, ro64, hpin, go_sem, Nat.reduceAdd, Nat.reduceMul]
    cases h9 : x.kind == 9 with
    | true => simp (decide := true) only [h9, drop0, row1_length, rows_length, cI, cB, cS, roI, ro64, hpin, go_sem, Nat.reduceAdd, Nat.reduceMul]; refine Ent.weak ?_ ?_ ?_ ?_ <;> simp (decide := true) [subT, subB, hereT, hereV, hereL, St.get, look, vI, vB, vS, cI, cS, cB, nodeC, roI, hst]
    | false => simp [quietB, hst, h1, h2, h10, h11, h3, h9] at hq
  refine code_sound sized _ ?_
  simp (decide := true) only [vB, vI, drop0, row1_length, rows_length, cI, cB, cS, roI, ro64, hpin, go_sem, Nat.reduceAdd, Nat.reduceMul]
  refine Tri.loop (ι := Nat) (fun i => i ≤ x.kids.length ∧ ∀ j (hj : j < x.kids.length), j < i → ∀ m, Reach nodes x.kids[j].toNat m → quietB still (nAt nodes m).kind = true) (fun i => ⟨40, [(0, .imm 51 (rows (nodeC true) nodes)), (1, vI n), (2, vB still), (6, vB false), (7, .ip (nodeC true x) 0), (8, vI i)], []⟩) (fun i => x.kids.length - i) 0 ⟨by simp, fun j hj h0 => by omega⟩ ?_ ?_
  · refine Ent.weak ?_ ?_ ?_ ?_ <;> simp (decide := true) [subT, subB, hereT, hereV, hereL, St.get, look, vI, vB, vS, cI, cS, cB, nodeC, roI]
  · rintro i ⟨hi, hq2⟩
    refine code_sound sized _ ?_
    by_cases h' : i < x.kids.length
    · have e : ((i : Int) < (x.kids.length : Int)) = True := by simp [h']
      have hmem := List.getElem_mem h'
      simp (decide := true) only [e, row1_get _ _ h', nodeC, Int.natCast_nonneg, vB, vI, drop0, row1_length, rows_length, cI, cB, cS, roI, ro64, hpin, go_sem, Nat.reduceAdd, Nat.reduceMul]
      refine aCall_det (hrec x.kids[i] hmem) hpin ?_
      simp (decide := true) only [drop0, row1_length, rows_length, cI, cB, cS, roI, ro64, hpin, go_sem, Nat.reduceAdd, Nat.reduceMul]
      cases hc : decide (∀ m, Reach nodes x.kids[i].toNat m → quietB still (nAt nodes m).kind = true) with
      | false =>
        have hRf := sub _ hmem hc
        simp (decide := true) only [hRf, drop0, row1_length, rows_length, cI, cB, cS, roI, ro64, hpin, go_sem, Nat.reduceAdd, Nat.reduceMul]
      | true =>
        simp (decide := true) only [drop0, row1_length, rows_length, cI, cB, cS, roI, ro64, hpin, go_sem, Nat.reduceAdd, Nat.reduceMul]
        refine ⟨i + 1, ⟨h', fun j hj hj2 => ?_⟩, by omega, Ent.weak ?_ ?_ ?_ ?_⟩
        · by_cases ej : j = i
          · subst ej; exact of_decide_eq_true hc
          · exact hq2 j hj (by omega)
        all_goals simp (decide := true) [subT, subB, hereT, hereV, hereL, St.get, look, vI, vB, vS, cI, cS, cB, nodeC, roI, w64s (n := x.kids.length) h' (by omega)]
    · have hil : i = x.kids.length := by omega
      subst hil
      have e : ((x.kids.length : Int) < (x.kids.length : Int)) = False := by simp
      have hRt : R = true := all hq (fun kid hkk m hm => by
        obtain ⟨j, hj, rfl⟩ := List.getElem_of_mem hkk
        exact hq2 j hj hj m hm)
      simp (decide := true) only [e, hRt, nodeC, vB, vI, drop0, row1_length, rows_length, cI, cB, cS, roI, ro64, hpin, go_sem, Nat.reduceAdd, Nat.reduceMul]
end Go.Proofs.YtaodmogcjpainaaDoor.AW
