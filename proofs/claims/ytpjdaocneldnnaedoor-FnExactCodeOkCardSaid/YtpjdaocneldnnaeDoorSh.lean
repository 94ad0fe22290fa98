/- The statement FnExactCodeOk: what its code does. No condition beyond those named. -/
import Derived.Test.YtpjdaocneldnnaeDoorSg
namespace Go.Proofs.YtpjdaocneldnnaeDoor.AW
open Go.RowKit
set_option maxHeartbeats 8000000
set_option maxRecDepth 100000
set_option linter.unusedSimpArgs false
set_option linter.unusedVariables false

theorem uBool : Tryd.prog.underlying 4 = some .bool := by kernel_rfl
theorem code_args {c : CodeD} (h : codeCost c ≤ 1048576) : ∀ y ∈ c.words, y.args.length ≤ 1048576 := by
  intro y hy
  obtain ⟨i, hi, rfl⟩ := List.getElem_of_mem hy
  have h1 := sumN_mem insCost hi
  have h2 : sumN insCost c.words ≤ 1048576 := by unfold codeCost at h; omega
  have h3 : c.words[i].args.length ≤ insCost c.words[i] := by unfold insCost; omega
  omega

theorem law_sound (c : CodeD) (hc : codeSmall c) : Sound Tryd.prog 3 [.ro (codeV c)] (fun rs st => rs = [(false, [cB true])]) := by
  refine sound_tri (fn := Tryd.f3) (c := Tryd.f3.body.getD .skip) (res := [.tm 2]) (n := 27) sized (by kernel_rfl) (by rfl) (by kernel_rfl) (by rfl) (by rfl) (by simp [argsV]) (fun uf C hpin hpin2 hfull => ?_)
  simp only [Tryd.f3, Option.getD_some]
  refine Tri.step sized ?_
  simp (decide := true) only [codeV, insV, codeW, insW, codeC, insC, row1_length, rows_length, cI, cB, cS, roI, ro64, hpin, go_sem, Nat.reduceAdd, Nat.reduceMul]
  refine Tri.ent ?_ (Ent.frb hfull 1)
  refine Tri.step sized ?_
  simp (decide := true) only [row1_length, rows_length, cI, cB, cS, roI, ro64, hpin, go_sem, Nat.reduceAdd, Nat.reduceMul]
  refine Tri.step sized ?_
  simp (decide := true) only [row1_length, rows_length, cI, cB, cS, roI, ro64, hpin, go_sem, Nat.reduceAdd, Nat.reduceMul]
  refine aCall_det (szCode_sound c 1048576 (by decide) (by decide) hc) hpin ?_
  by_cases h1 : (1048576 : Int) - ((codeCost c : Nat) : Int) < 0
  · rw [sub_neg h1]
    simp (decide := true) only [codeV, insV, codeW, insW, codeC, insC, row1_length, rows_length, cI, cB, cS, roI, ro64, hpin, go_sem, Nat.reduceAdd, Nat.reduceMul]
    refine code_sound sized _ ?_
    simp (decide := true) only [row1_length, rows_length, cI, cB, cS, roI, ro64, hpin, go_sem, Nat.reduceAdd, Nat.reduceMul]
  rw [sub_pos h1]
  have n1 : ((1048576 : Int) - ((codeCost c : Nat) : Int) < 0) = False := by simpa using h1
  have hcc : codeCost c ≤ 1048576 := by omega
  have k1 : c.locals.length ≤ 1048576 := by unfold codeCost at hcc; omega
  have k2 : c.words.length ≤ 1048576 := by unfold codeCost at hcc; omega
  simp (decide := true) only [codeV, insV, codeW, insW, codeC, insC, row1_length, rows_length, cI, cB, cS, roI, ro64, hpin, go_sem, Nat.reduceAdd, Nat.reduceMul]
  refine Tri.step sized ?_
  simp (decide := true) only [n1, row1_length, rows_length, cI, cB, cS, roI, ro64, hpin, go_sem, Nat.reduceAdd, Nat.reduceMul]
  refine Tri.step sized ?_
  simp (decide := true) only [row1_length, rows_length, cI, cB, cS, roI, ro64, hpin, go_sem, Nat.reduceAdd, Nat.reduceMul]
  refine aCall_det (toCode_sound c hcc) hpin ?_
  simp (decide := true) only [codeV, insV, codeW, insW, codeC, insC, row1_length, rows_length, cI, cB, cS, roI, ro64, hpin, go_sem, Nat.reduceAdd, Nat.reduceMul]
  refine aCall_det (codeS_sound c k1 k2 (code_args hcc)) hpin ?_
  simp (decide := true) only [codeV, insV, codeW, insW, codeC, insC, row1_length, rows_length, cI, cB, cS, roI, ro64, hpin, go_sem, Nat.reduceAdd, Nat.reduceMul]
  refine Tri.step sized ?_
  simp (decide := true) only [row1_length, rows_length, cI, cB, cS, roI, ro64, hpin, go_sem, Nat.reduceAdd, Nat.reduceMul]
  refine aCall_det (toCode_sound c hcc) hpin ?_
  simp (decide := true) only [codeV, insV, codeW, insW, codeC, insC, row1_length, rows_length, cI, cB, cS, roI, ro64, hpin, go_sem, Nat.reduceAdd, Nat.reduceMul]
  refine Tri.ent ?_ (Ent.frb hfull 5)
  refine Tri.step sized ?_
  simp (decide := true) only [row1_length, rows_length, cI, cB, cS, roI, ro64, hpin, go_sem, Nat.reduceAdd, Nat.reduceMul]
  refine aCall_det (codeI_sound c k1 k2 (code_args hcc)) hpin ?_
  simp (decide := true) only [codeV, insV, codeW, insW, codeC, insC, row1_length, rows_length, cI, cB, cS, roI, ro64, hpin, go_sem, Nat.reduceAdd, Nat.reduceMul]
  refine Tri.step sized ?_
  simp (decide := true) only [bne_self_eq_false, uBool, row1_length, rows_length, cI, cB, cS, roI, ro64, hpin, go_sem, Nat.reduceAdd, Nat.reduceMul]
  refine code_sound sized _ ?_
  simp (decide := true) only [row1_length, rows_length, cI, cB, cS, roI, ro64, hpin, go_sem, Nat.reduceAdd, Nat.reduceMul]
  refine Tri.sched sized [(0, true), (1, true), (2, false), (3, false), (4, false)] mixed (by kernel_rfl) (fun C2 hC2 => ?_)
  have hp2 : ∀ o, isPin o = false → C2.pin o = none := by rw [hC2]; exact hpin
  simp (decide := true) only [codeV, insV, codeW, insW, codeC, insC, row1_length, rows_length, cI, cB, cS, roI, ro64, hp2, go_sem, Nat.reduceAdd, Nat.reduceMul]
  refine aCall_det (toCode_sound c hcc) hp2 ?_
  simp (decide := true) only [codeV, insV, codeW, insW, codeC, insC, row1_length, rows_length, cI, cB, cS, roI, ro64, hp2, go_sem, Nat.reduceAdd, Nat.reduceMul]
  refine aCall_det (eqCode_sound c hcc) hp2 ?_
  simp (decide := true) only [codeV, insV, codeW, insW, codeC, insC, row1_length, rows_length, cI, cB, cS, roI, ro64, hp2, go_sem, Nat.reduceAdd, Nat.reduceMul]
end Go.Proofs.YtpjdaocneldnnaeDoor.AW
