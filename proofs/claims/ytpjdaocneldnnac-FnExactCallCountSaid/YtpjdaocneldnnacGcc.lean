/- CallCount, the program's and the reference's; and the statement. No condition beyond those named. -/
import Derived.Test.YtpjdaocneldnnacTc
namespace Go.Proofs.Ytpjdaocneldnnac.AW
open Go.RowKit
set_option maxHeartbeats 4000000
set_option maxRecDepth 100000
set_option linter.unusedSimpArgs false
set_option linter.unusedVariables false

def isCall (s : ByteArray) (x : NodeD) : Bool := x.kind == 12 && decide (x.name = s)
def ccN (l : List NodeD) (s : ByteArray) : Nat := sumN (fun x => if isCall s x then 1 else 0) l
theorem ccN_le (l : List NodeD) (s : ByteArray) : ccN l s ≤ l.length := by
  induction l with
  | nil => simp [ccN, sumN]
  | cons x r ih =>
    simp only [ccN, sumN, List.map_cons, List.sum_cons, List.length_cons] at ih ⊢
    split <;> omega

theorem specCC_sound (p : ProgramD) (s : ByteArray) (hp : p.nodes.length ≤ 1048576) : Sound Try.prog 5 [.ro (programW p), .ro (.sc (.string s))] (fun rs st => rs = [(false, [cI (ccN p.nodes s)])]) := by
  refine sound_code (fn := Try.f5) (c := Try.f5.body.getD .skip) (res := [.tm 4]) (n := 34) sized (by kernel_rfl) (by rfl) (by kernel_rfl) (by rfl) (by rfl) (by simp [argsV]) (fun C hpin hfull => ?_)
  simp (decide := true) only [Try.f5, programW, row1_length, cI, cB, cS, roI, ro64, hpin, go_sem, Nat.reduceAdd, Nat.reduceMul]
  refine Tri.loop (ι := Nat) (fun i => i ≤ p.nodes.length) (fun i => ⟨34, [(1, vS s), (2, .bp 2 0), (5, vI (ccN (p.nodes.take i) s)), (6, vI i)], [(2, .box (programC true p))]⟩) (fun i => p.nodes.length - i) 0 (by simp) ?_ ?_
  · refine Ent.weak ?_ ?_ ?_ ?_ <;> simp (decide := true) [subT, subB, hereT, hereV, hereL, St.get, look, vI, vB, vS, programC, ccN, sumN]
  · rintro i hi
    refine code_sound sized _ ?_
    by_cases h : i < p.nodes.length
    · have e : ((i : Int) < (p.nodes.length : Int)) = True := by simp [h]
      have ht := sumN_take (fun x => if isCall s x then 1 else 0) p.nodes h
      have hl := ccN_le (p.nodes.take i) s
      have hl2 : (p.nodes.take i).length ≤ i := by simp; omega
      simp (decide := true) only [e, rows_get _ _ h, Int.natCast_nonneg, vI, vS, programC, nodeC, row1_length, cI, cB, cS, roI, ro64, hpin, go_sem, Nat.reduceAdd, Nat.reduceMul]
      have w1 : IntKind.i64.wrap (((ccN (p.nodes.take i) s : Nat) : Int) + 1) = ((ccN (p.nodes.take i) s + 1 : Nat) : Int) := by rw [w64 (by omega) (by omega)]; omega
      cases hk : p.nodes[i].kind == 12 with
      | false =>
        have e1 : ccN (p.nodes.take (i + 1)) s = ccN (p.nodes.take i) s := by unfold ccN; rw [ht]; simp [isCall, hk]
        simp (decide := true) only [row1_length, cI, cB, cS, roI, ro64, hpin, go_sem, Nat.reduceAdd, Nat.reduceMul]
        refine ⟨i + 1, h, by omega, Ent.weak ?_ ?_ ?_ ?_⟩ <;> simp (decide := true) [subT, subB, hereT, hereV, St.get, look, w64s (n := p.nodes.length) h (by omega), vI, vB, vS, e1, cI, cS, programC]
      | true =>
        cases hn : decide (p.nodes[i].name = s) with
        | false =>
          have hn' := of_decide_eq_false hn
          have e1 : ccN (p.nodes.take (i + 1)) s = ccN (p.nodes.take i) s := by unfold ccN; rw [ht]; simp [isCall, hk, of_decide_eq_false, of_decide_eq_true, hn']
          simp (decide := true) only [hn, row1_length, cI, cB, cS, roI, ro64, hpin, go_sem, Nat.reduceAdd, Nat.reduceMul]
          refine ⟨i + 1, h, by omega, Ent.weak ?_ ?_ ?_ ?_⟩ <;> simp (decide := true) [subT, subB, hereT, hereV, St.get, look, w64s (n := p.nodes.length) h (by omega), vI, vB, vS, e1, cI, cS, programC]
        | true =>
          have hn' := of_decide_eq_true hn
          have e1 : ccN (p.nodes.take (i + 1)) s = ccN (p.nodes.take i) s + 1 := by unfold ccN; rw [ht]; simp [isCall, hk, of_decide_eq_false, of_decide_eq_true, hn']
          simp (decide := true) only [hn, w1, row1_length, cI, cB, cS, roI, ro64, hpin, go_sem, Nat.reduceAdd, Nat.reduceMul]
          refine ⟨i + 1, h, by omega, Ent.weak ?_ ?_ ?_ ?_⟩ <;> simp (decide := true) [subT, subB, hereT, hereV, St.get, look, w64s (n := p.nodes.length) h (by omega), vI, vB, vS, e1, cI, cS, programC]
    · have hil : i = p.nodes.length := by omega
      subst hil
      have e : ((p.nodes.length : Int) < (p.nodes.length : Int)) = False := by simp
      simp (decide := true) only [e, List.take_length, vI, vS, programC, row1_length, cI, cB, cS, roI, ro64, hpin, go_sem, Nat.reduceAdd, Nat.reduceMul]

theorem implCC_sound (p : ProgramD) (s : ByteArray) (hp : p.nodes.length ≤ 1048576) : Sound Try.prog 7 [.ro (programW p), .ro (.sc (.string s))] (fun rs st => rs = [(false, [cI (ccN p.nodes s)])]) := by
  refine sound_code (fn := Try.f7) (c := Try.f7.body.getD .skip) (res := [.tm 4]) (n := 28) sized (by kernel_rfl) (by rfl) (by kernel_rfl) (by rfl) (by rfl) (by simp [argsV]) (fun C hpin hfull => ?_)
  simp (decide := true) only [Try.f7, programW, row1_length, cI, cB, cS, roI, ro64, hpin, go_sem, Nat.reduceAdd, Nat.reduceMul]
  refine Tri.loop (ι := Nat) (fun i => i ≤ p.nodes.length) (fun i => ⟨28, [(1, vS s), (5, vI (ccN (p.nodes.take i) s)), (9, .imm 39 (rows (nodeC true) p.nodes)), (10, vI p.nodes.length), (11, vI i)], []⟩) (fun i => p.nodes.length - i) 0 (by simp) ?_ ?_
  · refine Ent.weak ?_ ?_ ?_ ?_ <;> simp (decide := true) [subT, subB, hereT, hereV, hereL, St.get, look, vI, vB, vS, programC, ccN, sumN]
  · rintro i hi
    refine code_sound sized _ ?_
    by_cases h : i < p.nodes.length
    · have e : ((i : Int) < (p.nodes.length : Int)) = True := by simp [h]
      have ht := sumN_take (fun x => if isCall s x then 1 else 0) p.nodes h
      have hl := ccN_le (p.nodes.take i) s
      have hl2 : (p.nodes.take i).length ≤ i := by simp; omega
      simp (decide := true) only [e, rows_get _ _ h, Int.natCast_nonneg, vI, vS, programC, nodeC, row1_length, cI, cB, cS, roI, ro64, hpin, go_sem, Nat.reduceAdd, Nat.reduceMul]
      have w1 : IntKind.i64.wrap (((ccN (p.nodes.take i) s : Nat) : Int) + 1) = ((ccN (p.nodes.take i) s + 1 : Nat) : Int) := by rw [w64 (by omega) (by omega)]; omega
      cases hk : p.nodes[i].kind == 12 with
      | false =>
        have e1 : ccN (p.nodes.take (i + 1)) s = ccN (p.nodes.take i) s := by unfold ccN; rw [ht]; simp [isCall, hk]
        simp (decide := true) only [row1_length, cI, cB, cS, roI, ro64, hpin, go_sem, Nat.reduceAdd, Nat.reduceMul]
        refine ⟨i + 1, h, by omega, Ent.weak ?_ ?_ ?_ ?_⟩ <;> simp (decide := true) [subT, subB, hereT, hereV, St.get, look, w64s (n := p.nodes.length) h (by omega), vI, vB, vS, e1, cI, cS, programC]
      | true =>
        cases hn : decide (p.nodes[i].name = s) with
        | false =>
          have hn' := of_decide_eq_false hn
          have e1 : ccN (p.nodes.take (i + 1)) s = ccN (p.nodes.take i) s := by unfold ccN; rw [ht]; simp [isCall, hk, of_decide_eq_false, of_decide_eq_true, hn']
          simp (decide := true) only [hn, row1_length, cI, cB, cS, roI, ro64, hpin, go_sem, Nat.reduceAdd, Nat.reduceMul]
          refine ⟨i + 1, h, by omega, Ent.weak ?_ ?_ ?_ ?_⟩ <;> simp (decide := true) [subT, subB, hereT, hereV, St.get, look, w64s (n := p.nodes.length) h (by omega), vI, vB, vS, e1, cI, cS, programC]
        | true =>
          have hn' := of_decide_eq_true hn
          have e1 : ccN (p.nodes.take (i + 1)) s = ccN (p.nodes.take i) s + 1 := by unfold ccN; rw [ht]; simp [isCall, hk, of_decide_eq_false, of_decide_eq_true, hn']
          simp (decide := true) only [hn, w1, row1_length, cI, cB, cS, roI, ro64, hpin, go_sem, Nat.reduceAdd, Nat.reduceMul]
          refine ⟨i + 1, h, by omega, Ent.weak ?_ ?_ ?_ ?_⟩ <;> simp (decide := true) [subT, subB, hereT, hereV, St.get, look, w64s (n := p.nodes.length) h (by omega), vI, vB, vS, e1, cI, cS, programC]
    · have hil : i = p.nodes.length := by omega
      subst hil
      have e : ((p.nodes.length : Int) < (p.nodes.length : Int)) = False := by simp
      simp (decide := true) only [e, List.take_length, vI, vS, programC, row1_length, cI, cB, cS, roI, ro64, hpin, go_sem, Nat.reduceAdd, Nat.reduceMul]

theorem law_sound (p : ProgramD) (s : ByteArray) (hs : s.size < 1152921504606846976) (hp : programSmall p) : Sound Try.prog 3 [.ro (programV p), .ro (.sc (.string s))] (fun rs st => rs = [(false, [cB true])]) := by
  refine sound_tri (fn := Try.f3) (c := Try.f3.body.getD .skip) (res := [.tm 4]) (n := 34) sized (by kernel_rfl) (by rfl) (by kernel_rfl) (by rfl) (by rfl) (by simp [argsV]) (fun uf C hpin hpin2 hfull => ?_)
  simp only [Try.f3, Option.getD_some]
  refine Tri.step sized ?_
  simp (decide := true) only [programV, row1_length, cI, cB, cS, roI, ro64, hpin, go_sem, Nat.reduceAdd, Nat.reduceMul]
  refine Tri.ent ?_ (Ent.frb hfull 2)
  refine Tri.step sized ?_
  simp (decide := true) only [row1_length, cI, cB, cS, roI, ro64, hpin, go_sem, Nat.reduceAdd, Nat.reduceMul]
  by_cases hb : (1048576 : Int) < (s.size : Int)
  · have hb1 : decide ((1048576 : Int) < (s.size : Int)) = true := by simpa using hb
    simp (decide := true) only [hb, hb1, row1_length, cI, cB, cS, roI, ro64, hpin, go_sem, Nat.reduceAdd, Nat.reduceMul]
  have hb2 : ((1048576 : Int) < (s.size : Int)) = False := by simpa using hb
  simp (decide := true) only [hb2, row1_length, cI, cB, cS, roI, ro64, hpin, go_sem, Nat.reduceAdd, Nat.reduceMul]
  refine Tri.step sized ?_
  simp (decide := true) only [row1_length, cI, cB, cS, roI, ro64, hpin, go_sem, Nat.reduceAdd, Nat.reduceMul]
  refine Tri.step sized ?_
  simp (decide := true) only [row1_length, cI, cB, cS, roI, ro64, hpin, go_sem, Nat.reduceAdd, Nat.reduceMul]
  refine aCall_det (szProgram_sound p 1048576 (by decide) (by decide) hp) hpin ?_
  by_cases h1 : (1048576 : Int) - ((programCost p : Nat) : Int) < 0
  · rw [sub_neg h1]
    simp (decide := true) only [programV, row1_length, cI, cB, cS, roI, ro64, hpin, go_sem, Nat.reduceAdd, Nat.reduceMul]
    refine code_sound sized _ ?_
    simp (decide := true) only [row1_length, cI, cB, cS, roI, ro64, hpin, go_sem, Nat.reduceAdd, Nat.reduceMul]
  rw [sub_pos h1]
  have n1 : ((1048576 : Int) - ((programCost p : Nat) : Int) < 0) = False := by simpa using h1
  have hc : programCost p ≤ 1048576 := by omega
  have hn : p.nodes.length ≤ 1048576 := by unfold programCost at hc; omega
  simp (decide := true) only [programV, row1_length, cI, cB, cS, roI, ro64, hpin, go_sem, Nat.reduceAdd, Nat.reduceMul]
  refine Tri.step sized ?_
  simp (decide := true) only [n1, row1_length, cI, cB, cS, roI, ro64, hpin, go_sem, Nat.reduceAdd, Nat.reduceMul]
  refine Tri.step sized ?_
  simp (decide := true) only [row1_length, cI, cB, cS, roI, ro64, hpin, go_sem, Nat.reduceAdd, Nat.reduceMul]
  refine aCall_det (toProgram_sound p hc) hpin ?_
  simp (decide := true) only [programV, programC, row1_length, cI, cB, cS, roI, ro64, hpin, go_sem, Nat.reduceAdd, Nat.reduceMul]
  refine aCall_det (specCC_sound p s hn) hpin ?_
  simp (decide := true) only [programW, row1_length, cI, cB, cS, roI, ro64, hpin, go_sem, Nat.reduceAdd, Nat.reduceMul]
  refine Tri.step sized ?_
  simp (decide := true) only [row1_length, cI, cB, cS, roI, ro64, hpin, go_sem, Nat.reduceAdd, Nat.reduceMul]
  refine aCall_det (toProgram_sound p hc) hpin ?_
  simp (decide := true) only [programV, programC, row1_length, cI, cB, cS, roI, ro64, hpin, go_sem, Nat.reduceAdd, Nat.reduceMul]
  refine Tri.ent ?_ (Ent.frb hfull 7)
  refine Tri.step sized ?_
  simp (decide := true) only [row1_length, cI, cB, cS, roI, ro64, hpin, go_sem, Nat.reduceAdd, Nat.reduceMul]
  refine aCall_det (implCC_sound p s hn) hpin ?_
  simp (decide := true) only [programW, row1_length, cI, cB, cS, roI, ro64, hpin, go_sem, Nat.reduceAdd, Nat.reduceMul]
  refine Tri.step sized ?_
  simp (decide := true) only [bne_self_eq_false, row1_length, cI, cB, cS, roI, ro64, hpin, go_sem, Nat.reduceAdd, Nat.reduceMul]
  refine code_sound sized _ ?_
  simp (decide := true) only [row1_length, cI, cB, cS, roI, ro64, hpin, go_sem, Nat.reduceAdd, Nat.reduceMul]
  refine Tri.sched sized [(0, true), (1, true), (2, false), (3, false), (4, false)] mixed (by kernel_rfl) (fun C2 hC2 => ?_)
  have hp2 : ∀ o, isPin o = false → C2.pin o = none := by rw [hC2]; exact hpin
  simp (decide := true) only [row1_length, cI, cB, cS, roI, ro64, hp2, go_sem, Nat.reduceAdd, Nat.reduceMul]
  refine aCall_det (toProgram_sound p hc) hp2 ?_
  simp (decide := true) only [programV, programC, row1_length, cI, cB, cS, roI, ro64, hp2, go_sem, Nat.reduceAdd, Nat.reduceMul]
  refine aCall_det (eqProgram_sound p hc) hp2 ?_
  simp (decide := true) only [programW, row1_length, cI, cB, cS, roI, ro64, hp2, go_sem, Nat.reduceAdd, Nat.reduceMul]
end Go.Proofs.Ytpjdaocneldnnac.AW
