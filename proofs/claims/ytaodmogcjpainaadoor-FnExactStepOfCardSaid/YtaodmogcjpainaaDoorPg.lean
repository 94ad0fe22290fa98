/- Quiet and Still, as the program tells them and as the reference does. No condition beyond those named. -/
import Derived.Test.YtaodmogcjpainaaDoorPf
namespace Go.Proofs.YtaodmogcjpainaaDoor.AW
open Go.RowKit
set_option maxHeartbeats 8000000
set_option maxRecDepth 100000
set_option linter.unusedSimpArgs false
set_option linter.unusedVariables false

theorem kinds_quiet (c : Int) : ([1, 2, 3, 9, 10, 11] : List Int).contains c = quietB false c := by
  simp only [quietB, List.contains_cons, List.contains_nil, Bool.or_false, Bool.not_false, Bool.true_and]
  cases c == 1 <;> cases c == 2 <;> cases c == 3 <;> cases c == 9 <;> cases c == 10 <;> cases c == 11 <;> rfl
theorem kinds_still (c : Int) : ([1, 2, 10, 11] : List Int).contains c = quietB true c := by
  simp only [quietB, List.contains_cons, List.contains_nil, Bool.or_false, Bool.not_true, Bool.false_and]
  cases c == 1 <;> cases c == 2 <;> cases c == 10 <;> cases c == 11 <;> rfl
theorem stillI_sound (p : ProgramD) (k : Int) (hn : p.nodes.length ≤ 1048576) (hk : ∀ x ∈ p.nodes, x.kids.length ≤ 1048576) : Sound Tryd.prog 8 [.ro (programW p), .ro (.sc (.int .i64 k))] (fun rs st => rs = [(false, [cB (quietP p.nodes true k)])]) := by
  refine sound_tri (fn := Tryd.f8) (c := Tryd.f8.body.getD .skip) (res := [.tm 4]) (n := 9) sized (by kernel_rfl) (by rfl) (by kernel_rfl) (by rfl) (by rfl) (by simp [argsV]) (fun uf ub C hpin hpin2 hfull => ?_)
  simp only [Tryd.f8, Option.getD_some]
  refine Tri.step sized ?_
  simp (decide := true) only [programW, programC, drop0, row1_length, rows_length, cI, cB, cS, roI, ro64, hpin, go_sem, Nat.reduceAdd, Nat.reduceMul]
  refine Tri.ent ?_ (Ent.frb hfull 2)
  refine code_sound sized _ ?_
  simp (decide := true) only [programW, programC, drop0, row1_length, rows_length, cI, cB, cS, roI, ro64, hpin, go_sem, Nat.reduceAdd, Nat.reduceMul]
  refine aCall_det (onlyK_sound p k [1, 2, 10, 11] (by decide) hn hk) hpin ?_
  simp (decide := true) only [programW, programC, row1, only_quiet kinds_still k, drop0, row1_length, rows_length, cI, cB, cS, roI, ro64, hpin, go_sem, Nat.reduceAdd, Nat.reduceMul]
  rfl
open Classical in
theorem stillS_sound (p : ProgramD) (k : Int) (hn : p.nodes.length ≤ 1048576) (hk : ∀ x ∈ p.nodes, x.kids.length ≤ 1048576) : Sound Tryd.prog 6 [.ro (programW p), .ro (.sc (.int .i64 k))] (fun rs st => rs = [(false, [cB (quietP p.nodes true k)])]) := by
  refine sound_tri (fn := Tryd.f6) (c := Tryd.f6.body.getD .skip) (res := [.tm 4]) (n := 16) sized (by kernel_rfl) (by rfl) (by kernel_rfl) (by rfl) (by rfl) (by simp [argsV]) (fun uf ub C hpin hpin2 hfull => ?_)
  simp only [Tryd.f6, Option.getD_some]
  refine Tri.step sized ?_
  simp (decide := true) only [programW, programC, drop0, row1_length, rows_length, cI, cB, cS, roI, ro64, hpin, go_sem, Nat.reduceAdd, Nat.reduceMul]
  refine Tri.ent ?_ (Ent.frb hfull 2)
  refine code_sound sized _ ?_
  simp (decide := true) only [programW, programC, drop0, row1_length, rows_length, cI, cB, cS, roI, ro64, hpin, go_sem, Nat.reduceAdd, Nat.reduceMul]
  refine aCall_det (deepSS_sound p.nodes k hn hk) hpin ?_
  have hge : 0 ≤ deepOf p.nodes k := by
    unfold deepOf
    split
    · exact (deepS_range _ _ _).1
    · exact Int.le_refl 0
  cases hd : deepOf p.nodes k == 0 with
  | true =>
    have h0 : deepOf p.nodes k = 0 := by simpa using hd
    have hq : quietP p.nodes true k = false := by simp [quietP, hd]
    simp (decide := true) only [h0, hq, drop0, row1_length, rows_length, cI, cB, cS, roI, ro64, hpin, go_sem, Nat.reduceAdd, Nat.reduceMul]
  | false =>
    have h9 : deepOf p.nodes k ≠ 0 := by simpa using hd
    have h0 : (0 < deepOf p.nodes k) = True := eq_true (by omega)
    obtain ⟨n, rfl, hnl, hdn⟩ := deep_nat hd
    simp (decide := true) only [h0, programC, drop0, row1_length, rows_length, cI, cB, cS, roI, ro64, hpin, go_sem, Nat.reduceAdd, Nat.reduceMul]
    refine aCall_det (onlyS_sound p.nodes true hn hk n hdn) hpin ?_
    have hq : quietP p.nodes true n = decide (∀ m, Reach p.nodes n m → quietB true (nAt p.nodes m).kind = true) := by simp [quietP, hd]
    simp (decide := true) only [h0, hq, programC, drop0, row1_length, rows_length, cI, cB, cS, roI, ro64, hpin, go_sem, Nat.reduceAdd, Nat.reduceMul]
theorem program_kids {p : ProgramD} (h : programCost p ≤ 1048576) : p.nodes.length ≤ 1048576 ∧ ∀ x ∈ p.nodes, x.kids.length ≤ 1048576 := by
  unfold programCost at h
  refine ⟨by omega, fun y hy => ?_⟩
  obtain ⟨i, hi, rfl⟩ := List.getElem_of_mem hy
  have h1 := sumN_mem nodeCost hi
  have h3 : p.nodes[i].kids.length ≤ nodeCost p.nodes[i] := by unfold nodeCost; omega
  omega
end Go.Proofs.YtaodmogcjpainaaDoor.AW
