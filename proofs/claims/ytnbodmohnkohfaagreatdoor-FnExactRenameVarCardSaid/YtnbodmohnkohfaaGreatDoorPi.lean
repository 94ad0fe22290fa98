/- What lies under a node, as the reference tells it. No condition beyond those named. -/
import Derived.Test.YtnbodmohnkohfaaGreatDoorPh
namespace Go.Proofs.YtnbodmohnkohfaaGreatDoor.AW
open Go.RowKit
set_option maxHeartbeats 8000000
set_option maxRecDepth 100000
set_option linter.unusedSimpArgs false
set_option linter.unusedVariables false

theorem elBoolS : elT Tryz.prog 56 = some 4 := by kernel_rfl
theorem zBool : zeroCells Tryz.prog 4 = some [.bool false] := by kernel_rfl
theorem byBool : bytesT Tryz.prog 4 = 1 := by kernel_rfl
attribute [go_sem] elBoolS zBool byBool

open Classical in
/-- Those below i of which it holds. -/
noncomputable def pick (P : Nat → Prop) (i : Nat) : List Nat := (List.range i).filter fun m => decide (P m)
theorem pick_length (P : Nat → Prop) (i : Nat) : (pick P i).length ≤ i := by
  unfold pick; exact Nat.le_trans (List.length_filter_le _ _) (by simp)
theorem pick_true {P : Nat → Prop} {i : Nat} (h : P i) : pick P (i + 1) = pick P i ++ [i] := by
  unfold pick; rw [List.range_succ, List.filter_append]; simp [h]
theorem pick_false {P : Nat → Prop} {i : Nat} (h : ¬ P i) : pick P (i + 1) = pick P i := by
  unfold pick; rw [List.range_succ, List.filter_append]; simp [h]
theorem pick_mem {P : Nat → Prop} {i m : Nat} : m ∈ pick P i ↔ m < i ∧ P m := by
  unfold pick; simp
theorem pick_rising (P : Nat → Prop) (i : Nat) : (ints (pick P i)).Pairwise (· < ·) := by
  unfold ints pick
  rw [List.pairwise_map]
  exact (List.Pairwise.filter _ List.pairwise_lt_range).imp (fun h => by omega)
theorem ints_memI {l : List Nat} {x : Int} : x ∈ ints l ↔ 0 ≤ x ∧ x.toNat ∈ l := by
  unfold ints
  simp only [List.mem_map]
  exact ⟨fun ⟨a, ha, e⟩ => by subst e; exact ⟨by omega, by simpa using ha⟩, fun ⟨h0, h⟩ => ⟨x.toNat, h, by omega⟩⟩
theorem under_pick {nodes : List NodeD} {n : Nat} (hd : dAt nodes n ≠ 0) : ints (pick (fun m => Reach nodes n m) nodes.length) = underL nodes n := by
  refine rising_eq (pick_rising _ _) (underL_rising nodes n) (fun x => ?_)
  show x ∈ ints _ ↔ x ∈ ints (underN nodes n)
  rw [ints_memI, ints_memI, pick_mem, underN_mem hd]
  obtain ⟨hnl, _⟩ := kids_lt hd
  exact ⟨fun ⟨h0, _, h⟩ => ⟨h0, h⟩, fun ⟨h0, h⟩ => ⟨h0, by have := h.le hd; omega, h⟩⟩

open Classical in
theorem underS_sound (p : ProgramD) (k : Int) (hn : p.nodes.length ≤ 1048576) (hk : ∀ x ∈ p.nodes, x.kids.length ≤ 1048576) : Sound Tryz.prog 105 [.ro (programW p), .ro (.sc (.int .i64 k))] (fun rs st => rs = [(false, [.row false 3 (row1 cI (underP p.nodes k))])]) := by
  refine sound_tri (fn := Tryz.f105) (c := Tryz.f105.body.getD .skip) (res := [.tm 4]) (n := 39) sized (by kernel_rfl) (by rfl) (by kernel_rfl) (by rfl) (by rfl) (by simp [argsV]) (fun uf ub C hpin hpin2 hfull => ?_)
  simp only [Tryz.f105, Option.getD_some]
  refine Tri.step sized ?_
  simp (decide := true) only [programW, programC, drop0, row1_length, rows_length, ofP_length, cI, cB, cS, roI, ro64, hpin, go_sem, Nat.reduceAdd, Nat.reduceMul]
  refine Tri.ent ?_ (Ent.frb hfull 2)
  refine Tri.step sized ?_
  simp (decide := true) only [programW, programC, drop0, row1_length, rows_length, ofP_length, cI, cB, cS, roI, ro64, hpin, go_sem, Nat.reduceAdd, Nat.reduceMul]
  refine Tri.step sized ?_
  simp (decide := true) only [programW, programC, drop0, row1_length, rows_length, ofP_length, cI, cB, cS, roI, ro64, hpin, go_sem, Nat.reduceAdd, Nat.reduceMul]
  refine aCall_det (deepSS_sound p.nodes k hn hk) hpin ?_
  simp (decide := true) only [programW, programC, drop0, row1_length, rows_length, ofP_length, cI, cB, cS, roI, ro64, hpin, go_sem, Nat.reduceAdd, Nat.reduceMul]
  cases hd : deepOf p.nodes k == 0 with
  | true =>
    have hu : underP p.nodes k = [] := by simp [underP, hd]
    have e0 : row1 cI ([] : List Int) = [] := rfl
    simp (decide := true) only [hu, e0, drop0, row1_length, rows_length, ofP_length, cI, cB, cS, roI, ro64, hpin, go_sem, Nat.reduceAdd, Nat.reduceMul]
  | false =>
  obtain ⟨n, rfl, hnl, hdn⟩ := deep_nat hd
  have hu : underP p.nodes n = underL p.nodes n := by simp [underP, hd]
  rw [hu]
  have hm1 : ((1 : Nat) : Int) * (p.nodes.length : Int) ≤ 281474976710656 := by omega
  have hm2 : (p.nodes.length : Int) ≤ 140737488355328 := by omega
  have hof := ofP_false p.nodes.length
  simp only [cB] at hof
  simp (decide := true) only [programW, programC, drop0, row1_length, rows_length, ofP_length, cI, cB, cS, roI, ro64, hpin, go_sem, Nat.reduceAdd, Nat.reduceMul]
  refine Tri.step sized ?_
  simp (decide := true) only [hm1, hm2, hof, Int.natCast_nonneg, programC, drop0, row1_length, rows_length, ofP_length, cI, cB, cS, roI, ro64, hpin, go_sem, Nat.reduceAdd, Nat.reduceMul]
  refine Tri.step sized ?_
  simp (decide := true) only [programC, drop0, row1_length, rows_length, ofP_length, cI, cB, cS, roI, ro64, hpin, go_sem, Nat.reduceAdd, Nat.reduceMul]
  have hmk := mark_sound p.nodes hn hk n hdn (fun _ => False) (fun m _ h => h.elim)
  have e9 : (fun m => False ∨ Reach p.nodes n m) = fun m => Reach p.nodes n m := by funext m; simp
  rw [e9] at hmk
  have htk : List.take p.nodes.length (row1 cB (ofP p.nodes.length (fun m => Reach p.nodes n m))) = row1 cB (ofP p.nodes.length (fun m => Reach p.nodes n m)) := by
    have := row1_takeL cB (ofP p.nodes.length (fun m => Reach p.nodes n m))
    rwa [ofP_length] at this
  refine aCall_iod hmk hpin [(2000, 6)] ⟨rfl, rfl, rfl⟩ (fun uf => ⟨rfl, rfl⟩) (fun uf => ?_) ?_
  · simp (decide := true) only [drop0, row1_length, rows_length, ofP_length, cI, cB, cS, roI, ro64, hpin, go_sem, Nat.reduceAdd, Nat.reduceMul]
  simp (decide := true) only [drop0, row1_length, rows_length, ofP_length, cI, cB, cS, roI, ro64, hpin, go_sem, Nat.reduceAdd, Nat.reduceMul]
  refine Tri.ent ?_ (Ent.frz hfull 6)
  refine code_sound sized _ ?_
  simp (decide := true) only [htk, bools_sh, drop0, row1_length, rows_length, ofP_length, cI, cB, cS, roI, ro64, hpin, go_sem, Nat.reduceAdd, Nat.reduceMul]
  have hfin := under_pick hdn
  generalize hP : (fun m => Reach p.nodes n m) = P at hfin htk ⊢
  refine Tri.loop (ι := Nat) (fun i => i ≤ p.nodes.length) (fun i => ⟨39, [(2, .ip (programC true p) 0), (5, .ref 5 [] (pick P i).length), (6, .imm 4 (row1 cB (ofP p.nodes.length P))), (7, vI i)], [(5, .row 3 (row1 cI (ints (pick P i))))]⟩) (fun i => p.nodes.length - i) 0 (by simp) ?_ ?_
  · refine Ent.weak ?_ ?_ ?_ ?_ <;> simp (decide := true) [subT, subB, hereT, hereV, hereL, St.get, look, vI, vB, vS, cI, cS, cB, nodeC, roI, programC, pick, ints, htk, bools_sh]
    all_goals rfl
  · rintro i hi
    refine code_sound sized _ ?_
    have hpl := pick_length P i
    by_cases h' : i < p.nodes.length
    · have e : ((i : Int) < (p.nodes.length : Int)) = True := by simp [h']
      have hb1 : (pick P i).length + 1 ≤ 140737488355328 := by omega
      have hb2 : ((pick P i).length + 1) * 8 ≤ 140737488355328 := by omega
      simp (decide := true) only [e, ofP_get h', Int.natCast_nonneg, vB, vI, drop0, row1_length, rows_length, ofP_length, cI, cB, cS, roI, ro64, hpin, go_sem, Nat.reduceAdd, Nat.reduceMul]
      by_cases hp : P i
      · have hp1 : decide (P i) = true := decide_eq_true hp
        have hpk := pick_true hp
        simp (decide := true) only [hp1, ints_length, hb1, hb2, drop0, row1_length, rows_length, ofP_length, cI, cB, cS, roI, ro64, hpin, go_sem, Nat.reduceAdd, Nat.reduceMul]
        refine ⟨i + 1, h', by omega, Ent.weak ?_ ?_ ?_ ?_⟩
        all_goals simp (decide := true) [subT, subB, hereT, hereV, hereL, St.get, look, vI, vB, vS, cI, cS, cB, nodeC, roI, hpk, ints, row1, w64s (n := p.nodes.length) h' (by omega)]
      · have hp1 : decide (P i) = false := decide_eq_false hp
        have hpk := pick_false hp
        simp (decide := true) only [hp1, drop0, row1_length, rows_length, ofP_length, cI, cB, cS, roI, ro64, hpin, go_sem, Nat.reduceAdd, Nat.reduceMul]
        refine ⟨i + 1, h', by omega, Ent.weak ?_ ?_ ?_ ?_⟩
        all_goals simp (decide := true) [subT, subB, hereT, hereV, hereL, St.get, look, vI, vB, vS, cI, cS, cB, nodeC, roI, hpk, w64s (n := p.nodes.length) h' (by omega)]
    · have hil : i = p.nodes.length := by omega
      subst hil
      have e : ((p.nodes.length : Int) < (p.nodes.length : Int)) = False := by simp
      have hul : (underL p.nodes n).length = (pick P p.nodes.length).length := by rw [← hfin, ints_length]
      simp (decide := true) only [e, hfin, hul, vB, vI, drop0, row1_length, rows_length, ofP_length, cI, cB, cS, roI, ro64, hpin, go_sem, Nat.reduceAdd, Nat.reduceMul]
end Go.Proofs.YtnbodmohnkohfaaGreatDoor.AW
