/- Whether a value looks alone, as the program tells it and as the reference does. No condition beyond those named. -/
import Derived.Test.YtnbodmohnkohfaaGreatDoorPe
namespace Go.Proofs.YtnbodmohnkohfaaGreatDoor.AW
open Go.RowKit
set_option maxHeartbeats 8000000
set_option maxRecDepth 100000
set_option linter.unusedSimpArgs false
set_option linter.unusedVariables false

noncomputable def underP (nodes : List NodeD) (k : Int) : List Int := if deepOf nodes k == 0 then [] else underL nodes k.toNat
theorem deep_nat {nodes : List NodeD} {k : Int} (h : (deepOf nodes k == 0) = false) : ∃ n : Nat, k = n ∧ n < nodes.length ∧ dAt nodes n ≠ 0 := by
  have hd : deepOf nodes k ≠ 0 := by simpa using h
  unfold deepOf at hd
  cases h0 : inI k 0 (nodes.length - 1) with
  | false => simp [h0] at hd
  | true =>
    have hr := inI_true h0
    rw [h0, if_pos rfl] at hd
    exact ⟨k.toNat, by omega, by omega, hd⟩
theorem underP_mem {nodes : List NodeD} {k x : Int} (h : x ∈ underP nodes k) : 0 ≤ x ∧ x.toNat < nodes.length ∧ Reach nodes k.toNat x.toNat := by
  unfold underP at h
  cases hd : deepOf nodes k == 0 with
  | true => simp [hd] at h
  | false =>
    obtain ⟨n, rfl, hn, hdn⟩ := deep_nat hd
    simp only [hd, Bool.false_eq_true, if_false, underL, List.mem_map] at h
    obtain ⟨m, hm, rfl⟩ := h
    have hr := (underN_mem hdn).1 hm
    have := hr.le hdn
    exact ⟨by omega, by simp; omega, by simpa using hr⟩
theorem underP_length (nodes : List NodeD) (k : Int) : (underP nodes k).length ≤ nodes.length := by
  unfold underP
  cases hd : deepOf nodes k == 0 with
  | true => simp
  | false =>
    obtain ⟨n, rfl, hn, hdn⟩ := deep_nat hd
    have := underN_length nodes n
    simp [underL]; omega

theorem underI_sound (p : ProgramD) (k : Int) (hn : p.nodes.length ≤ 1048576) (hk : ∀ x ∈ p.nodes, x.kids.length ≤ 1048576) : Sound Tryz.prog 82 [.ro (programW p), .ro (.sc (.int .i64 k))] (fun rs st => rs = [(false, [.row false 3 (row1 cI (underP p.nodes k))])]) := by
  refine sound_tri (fn := Tryz.f82) (c := Tryz.f82.body.getD .skip) (res := [.tm 4]) (n := 14) sized (by kernel_rfl) (by rfl) (by kernel_rfl) (by rfl) (by rfl) (by simp [argsV]) (fun uf ub C hpin hpin2 hfull => ?_)
  simp only [Tryz.f82, Option.getD_some]
  refine Tri.step sized ?_
  simp (decide := true) only [programW, programC, drop0, row1_length, rows_length, cI, cB, cS, roI, ro64, hpin, go_sem, Nat.reduceAdd, Nat.reduceMul]
  refine Tri.ent ?_ (Ent.frb hfull 2)
  refine Tri.step sized ?_
  simp (decide := true) only [programW, programC, drop0, row1_length, rows_length, cI, cB, cS, roI, ro64, hpin, go_sem, Nat.reduceAdd, Nat.reduceMul]
  refine aCall_det (deepI_sound p.nodes k hn hk) hpin ?_
  simp (decide := true) only [programW, programC, drop0, row1_length, rows_length, cI, cB, cS, roI, ro64, hpin, go_sem, Nat.reduceAdd, Nat.reduceMul]
  cases hd : deepOf p.nodes k == 0 with
  | true =>
    have hu : underP p.nodes k = [] := by simp [underP, hd]
    have e0 : row1 cI ([] : List Int) = [] := rfl
    simp (decide := true) only [hu, e0, drop0, row1_length, rows_length, cI, cB, cS, roI, ro64, hpin, go_sem, Nat.reduceAdd, Nat.reduceMul]
  | false =>
    obtain ⟨n, rfl, hnl, hdn⟩ := deep_nat hd
    have hu : underP p.nodes n = underL p.nodes n := by simp [underP, hd]
    rw [hu]
    simp (decide := true) only [programW, programC, drop0, row1_length, rows_length, cI, cB, cS, roI, ro64, hpin, go_sem, Nat.reduceAdd, Nat.reduceMul]
    refine code_sound sized _ ?_
    simp (decide := true) only [programW, programC, drop0, row1_length, rows_length, cI, cB, cS, roI, ro64, hpin, go_sem, Nat.reduceAdd, Nat.reduceMul]
    refine aCall_det (under_sound p.nodes n hdn hn hk) hpin ?_
    simp (decide := true) only [programW, programC, drop0, row1_length, rows_length, cI, cB, cS, roI, ro64, hpin, go_sem, Nat.reduceAdd, Nat.reduceMul]

end Go.Proofs.YtnbodmohnkohfaaGreatDoor.AW
