/- What each data type has: its size, a copy, whether two are alike. No condition beyond those named. -/
import Derived.Test.YtnbodmohnkohfaaDoorTa
namespace Go.Proofs.YtnbodmohnkohfaaDoor.AW
open Go.RowKit
set_option maxHeartbeats 4000000
set_option maxRecDepth 100000
set_option linter.unusedSimpArgs false
set_option linter.unusedVariables false
theorem szIns_sound (x : InsD) (left : Int) (h0 : 0 ≤ left) (h1 : left < 1152921504606846976) (hs : insSmall x) : Sound Tryd.prog 32 [.ro (insV x), .ro (.sc (.int .i64 left))] (fun rs st => rs = [(false, [cI (sub left (insCost x))])]) := by
  refine sound_code (fn := Tryd.f32) (c := Tryd.f32.body.getD .skip) (res := [.tm 4]) (n := 19) sized (by kernel_rfl) (by rfl) (by kernel_rfl) (by rfl) (by rfl) (by simp [argsV]) (fun C hpin hfull => ?_)
  obtain ⟨s0, s1⟩ := hs
  have w0 : IntKind.i64.wrap (left - (x.name.size : Int)) = left - x.name.size := w64 (by omega) (by omega)
  simp (decide := true) only [Tryd.f32, insV, w0, row1_length, cI, cB, cS, roI, ro64, hpin, go_sem, Nat.reduceAdd, Nat.reduceMul]
  by_cases h0_ : left - ((x.name.size : Nat) : Int) < 0
  · have e : sub left (insCost x) = -1 := sub_neg (by unfold insCost; omega)
    rw [e]
    simp (decide := true) only [h0_, row1_length, cI, cB, cS, roI, ro64, hpin, go_sem, Nat.reduceAdd, Nat.reduceMul]
  have n0 : (left - ((x.name.size : Nat) : Int) < 0) = False := by simpa using h0_
  simp (decide := true) only [n0, row1_length, cI, cB, cS, roI, ro64, hpin, go_sem, Nat.reduceAdd, Nat.reduceMul]
  refine aCall_det (szI_sound x.args (left - ((x.name.size : Nat) : Int)) (by omega) (by omega) s1) hpin ?_
  by_cases h1_ : left - ((x.name.size : Nat) : Int) - ((x.args.length : Nat) : Int) < 0
  · have e : sub left (insCost x) = -1 := sub_neg (by unfold insCost; omega)
    rw [e]
    rw [sub_neg h1_]
    simp (decide := true) only [h1_, row1_length, cI, cB, cS, roI, ro64, hpin, go_sem, Nat.reduceAdd, Nat.reduceMul]
  rw [sub_pos h1_]
  have n1 : (left - ((x.name.size : Nat) : Int) - ((x.args.length : Nat) : Int) < 0) = False := by simpa using h1_
  have e : sub left (insCost x) = left - ((x.name.size : Nat) : Int) - ((x.args.length : Nat) : Int) := by rw [sub_pos (by unfold insCost; omega)]; unfold insCost; omega
  rw [e]
  simp (decide := true) only [n1, row1_length, cI, cB, cS, roI, ro64, hpin, go_sem, Nat.reduceAdd, Nat.reduceMul]
theorem szInsS_sound (l : List InsD) (left : Int) (h0 : 0 ≤ left) (h1 : left < 1152921504606846976) (hl : l.length < 1152921504606846976) (hs : ∀ y ∈ l, insSmall y) : Sound Tryd.prog 14 [.ro (.imm 57 (rows insL l)), .ro (.sc (.int .i64 left))] (fun rs st => rs = [(false, [cI (sub left (l.length + sumN insCost l))])]) := by
  refine sound_code (fn := Tryd.f14) (c := Tryd.f14.body.getD .skip) (res := [.tm 4]) (n := 27) sized (by kernel_rfl) (by rfl) (by kernel_rfl) (by rfl) (by rfl) (by simp [argsV]) (fun C hpin hfull => ?_)
  have w0 : IntKind.i64.wrap (left - (l.length : Int)) = left - l.length := w64 (by omega) (by omega)
  simp (decide := true) only [Tryd.f14, w0, row1_length, cI, cB, cS, roI, ro64, hpin, go_sem, Nat.reduceAdd, Nat.reduceMul]
  by_cases hn : left - (l.length : Int) < 0
  · have e : sub left (l.length + sumN insCost l) = -1 := sub_neg (by omega)
    rw [e]
    simp (decide := true) only [hn, row1_length, cI, cB, cS, roI, ro64, hpin, go_sem, Nat.reduceAdd, Nat.reduceMul]
  have nn : (left - (l.length : Int) < 0) = False := by simpa using hn
  simp (decide := true) only [nn, row1_length, cI, cB, cS, roI, ro64, hpin, go_sem, Nat.reduceAdd, Nat.reduceMul]
  refine Tri.loop (ι := Nat) (fun i => i ≤ l.length ∧ 0 ≤ left - l.length - (sumN insCost (l.take i) : Nat)) (fun i => ⟨27, [(0, .imm 57 (rows insL l)), (1, vI (left - l.length - (sumN insCost (l.take i) : Nat))), (5, vI i)], []⟩) (fun i => l.length - i) 0 ⟨Nat.zero_le _, by rw [sumN_nil]; omega⟩ ?_ ?_
  · refine Ent.weak ?_ ?_ ?_ ?_ <;> simp (decide := true) [subT, subB, hereT, hereV, hereL, St.get, look, vI, vB, vS, sumN]
  · rintro i ⟨hi, hp⟩
    refine code_sound sized _ ?_
    by_cases h : i < l.length
    · have e : ((i : Int) < (l.length : Int)) = True := by simp [h]
      simp (decide := true) only [e, rows_get _ _ h, Int.natCast_nonneg, vI, insL, row1_length, cI, cB, cS, roI, ro64, hpin, go_sem, Nat.reduceAdd, Nat.reduceMul]
      refine aCall_det (szIns_sound l[i] (left - l.length - (sumN insCost (l.take i) : Nat)) hp (by omega) (hs _ (List.getElem_mem h))) hpin ?_
      have hle := sumN_le insCost l (i + 1)
      have htk := sumN_take insCost l h
      by_cases h3 : left - l.length - (sumN insCost (l.take i) : Nat) - ((insCost l[i] : Nat) : Int) < 0
      · have e : sub left (l.length + sumN insCost l) = -1 := sub_neg (by omega)
        rw [e, sub_neg h3]
        simp (decide := true) only [insV, row1_length, cI, cB, cS, roI, ro64, hpin, go_sem, Nat.reduceAdd, Nat.reduceMul]
      · rw [sub_pos h3]
        have n3 : (left - l.length - (sumN insCost (l.take i) : Nat) - ((insCost l[i] : Nat) : Int) < 0) = False := by simpa using h3
        simp (decide := true) only [n3, insV, row1_length, cI, cB, cS, roI, ro64, hpin, go_sem, Nat.reduceAdd, Nat.reduceMul]
        have e4 : left - l.length - (sumN insCost (l.take i) : Nat) - ((insCost l[i] : Nat) : Int) = left - l.length - (sumN insCost (l.take (i + 1)) : Nat) := by omega
        rw [e4]
        exact ⟨i + 1, ⟨h, by omega⟩, by omega, Ent.weak (by simp (decide := true) [subT, St.get, look, w64s (n := l.length) h (by omega), vI]) (by simp [subB]) (by simp) (by simp [hereT, hereV, vI])⟩
    · have hil : i = l.length := by omega
      subst hil
      have e : ((l.length : Int) < (l.length : Int)) = False := by simp
      have e2 : sub left (l.length + sumN insCost l) = left - l.length - (sumN insCost l : Nat) := by
        rw [List.take_length] at hp
        rw [sub_pos (by omega)]; omega
      rw [e2]
      simp (decide := true) only [e, List.take_length, vI, row1_length, cI, cB, cS, roI, ro64, hpin, go_sem, Nat.reduceAdd, Nat.reduceMul]
theorem toIns_sound (x : InsD) (h : insCost x ≤ 1048576) : Sound Tryd.prog 40 [.ro (insV x)] (fun rs st => rs = [(true, insC false x)]) := by
  unfold insCost at h
  refine sound_code (fn := Tryd.f40) (c := Tryd.f40.body.getD .skip) (res := [.ce 2 45]) (n := 27) sized (by kernel_rfl) (by rfl) (by kernel_rfl) (by rfl) (by rfl) (by simp [argsV]) (fun C hpin hfull => ?_)
  simp (decide := true) only [Tryd.f40, insV, row1_length, cI, cB, cS, roI, ro64, hpin, go_sem, Nat.reduceAdd, Nat.reduceMul]
  refine aCall_det (toI_sound x.args (by omega)) hpin ?_
  simp (decide := true) only [insC, row1_length, cI, cB, cS, roI, ro64, hpin, go_sem, Nat.reduceAdd, Nat.reduceMul]
theorem toInsS_sound (l : List InsD) (h : l.length + sumN insCost l ≤ 1048576) : Sound Tryd.prog 18 [.ro (.imm 57 (rows insL l))] (fun rs st => rs = [(false, [.row false 45 (rows (insC false) l)])]) := by
  refine sound_code (fn := Tryd.f18) (c := Tryd.f18.body.getD .skip) (res := [.tm 2]) (n := 23) sized (by kernel_rfl) (by rfl) (by kernel_rfl) (by rfl) (by rfl) (by simp [argsV]) (fun C hpin hfull => ?_)
  have e1 : (80 : Nat) * (l.length : Int) ≤ 281474976710656 := by omega
  simp (decide := true) only [Tryd.f18, row1_length, cI, cB, cS, roI, ro64, hpin, go_sem, Nat.reduceAdd, Nat.reduceMul]
  refine ⟨by omega, by omega, by omega, ?_⟩
  let Z : List D := [.sc (.int .i64 0), .sc (.int .i64 0), .sc (.int .i64 0), .sc (.int .i64 0), .sc (.int .i64 0), .sc (.string ⟨#[]⟩), .sc (.slice none 0 0)]
  refine Tri.loop (ι := Nat) (fun i => i ≤ l.length) (fun i => ⟨23, [(0, .imm 57 (rows insL l)), (2, .ref 2 [] 0), (3, .ref 3 [] l.length), (4, vI i)], [(3, .row 45 (fillR (insC false) Z l i)), (2, .row 45 [])]⟩) (fun i => l.length - i) 0 (by simp) ?_ ?_
  · refine Ent.weak ?_ ?_ ?_ ?_ <;> simp (decide := true) [subT, subB, hereT, hereV, St.get, look, vI, vB, Z, fillR_zero]
  · rintro i hi
    refine code_sound sized _ ?_
    by_cases h' : i < l.length
    · have e : ((i : Int) < (l.length : Int)) = True := by simp [h']
      have hc := sumN_mem insCost h'
      simp (decide := true) only [e, h', rows_get _ _ h', Int.natCast_nonneg, vI, insL, row1_length, cI, cB, cS, roI, ro64, hpin, go_sem, Nat.reduceAdd, Nat.reduceMul]
      refine aCall_det (toIns_sound l[i] (by omega)) hpin ?_
      simp (decide := true) only [e, h', insV, insC, fillR_length (insC false) Z l hi, fillR_get (insC false) Z l h', Int.natCast_nonneg, Z, row1_length, cI, cB, cS, roI, ro64, hpin, go_sem, Nat.reduceAdd, Nat.reduceMul]
      have e4 := fillR_set (insC false) Z l h'
      simp only [insC, cI, cS, cB] at e4
      refine ⟨i + 1, h', by omega, Ent.weak ?_ ?_ ?_ ?_⟩
      · simp (decide := true) [subT, St.get, look, w64s (n := l.length) h' (by omega), vI, vB]
      · simp (decide := true) [subB, look, e4, cI, Z]
      all_goals simp (decide := true) [hereT, hereV, look, vI]
    · have hil : i = l.length := by omega
      subst hil
      have e : ((l.length : Int) < (l.length : Int)) = False := by simp
      simp (decide := true) only [e, fillR_length (insC false) Z l (Nat.le_refl _), fillR_end, vI, row1_length, cI, cB, cS, roI, ro64, hpin, go_sem, Nat.reduceAdd, Nat.reduceMul]
theorem eqIns_sound (x : InsD) (h : insCost x ≤ 1048576) : Sound Tryd.prog 44 [.ro (insW x), .ro (insW x)] (fun rs st => rs = [(false, [cB true])]) := by
  unfold insCost at h
  refine sound_code (fn := Tryd.f44) (c := Tryd.f44.body.getD .skip) (res := [.tm 4]) (n := 41) sized (by kernel_rfl) (by rfl) (by kernel_rfl) (by rfl) (by rfl) (by simp [argsV]) (fun C hpin hfull => ?_)
  simp (decide := true) only [Tryd.f44, insW, bne_self_eq_false, row1_length, cI, cB, cS, roI, ro64, hpin, go_sem, Nat.reduceAdd, Nat.reduceMul]
  refine aCall_det (eqI_sound x.args (by omega)) hpin ?_
  simp (decide := true) only [bne_self_eq_false, row1_length, cI, cB, cS, roI, ro64, hpin, go_sem, Nat.reduceAdd, Nat.reduceMul]
theorem eqInsS_sound (l : List InsD) (h : l.length + sumN insCost l ≤ 1048576) : Sound Tryd.prog 27 [.ro (.imm 45 (rows (insC true) l)), .ro (.imm 45 (rows (insC true) l))] (fun rs st => rs = [(false, [cB true])]) := by
  refine sound_code (fn := Tryd.f27) (c := Tryd.f27.body.getD .skip) (res := [.tm 4]) (n := 27) sized (by kernel_rfl) (by rfl) (by kernel_rfl) (by rfl) (by rfl) (by simp [argsV]) (fun C hpin hfull => ?_)
  simp (decide := true) only [Tryd.f27, bne_self_eq_false, row1_length, cI, cB, cS, roI, ro64, hpin, go_sem, Nat.reduceAdd, Nat.reduceMul]
  refine Tri.loop (ι := Nat) (fun i => i ≤ l.length) (fun i => ⟨27, [(0, .imm 45 (rows (insC true) l)), (1, .imm 45 (rows (insC true) l)), (5, vI i)], []⟩) (fun i => l.length - i) 0 (by simp) ?_ ?_
  · refine Ent.weak ?_ ?_ ?_ ?_ <;> simp (decide := true) [subT, subB, hereT, hereV, St.get, look, vI, vB]
  · rintro i hi
    refine code_sound sized _ ?_
    by_cases h' : i < l.length
    · have e : ((i : Int) < (l.length : Int)) = True := by simp [h']
      have hc := sumN_mem insCost h'
      simp (decide := true) only [e, vI, row1_length, cI, cB, cS, roI, ro64, hpin, go_sem, Nat.reduceAdd, Nat.reduceMul]
      refine Tri.sched sized [(0, true), (1, true), (4, true), (5, true), (2, true), (6, true), (3, true), (7, true), (8, false), (9, false)] mixed (by kernel_rfl) (fun C2 hC2 => ?_)
      have hp2 : ∀ o, isPin o = false → C2.pin o = none := by rw [hC2]; exact hpin
      simp (decide := true) only [e, h', rows_get _ _ h', Int.natCast_nonneg, vI, insC, hp2, row1_length, cI, cB, cS, roI, ro64, go_sem, Nat.reduceAdd, Nat.reduceMul]
      refine aCall_det (eqIns_sound l[i] (by omega)) hp2 ?_
      simp (decide := true) only [insW, row1_length, cI, cB, cS, roI, ro64, hp2, go_sem, Nat.reduceAdd, Nat.reduceMul]
      refine ⟨i + 1, h', by omega, Ent.weak ?_ ?_ ?_ ?_⟩ <;> simp (decide := true) [subT, subB, hereT, hereV, St.get, look, w64s (n := l.length) h' (by omega), vI, vB]
    · have hil : i = l.length := by omega
      subst hil
      have e : ((l.length : Int) < (l.length : Int)) = False := by simp
      simp (decide := true) only [e, vI, row1_length, cI, cB, cS, roI, ro64, hpin, go_sem, Nat.reduceAdd, Nat.reduceMul]
theorem szCode_sound (x : CodeD) (left : Int) (h0 : 0 ≤ left) (h1 : left < 1152921504606846976) (hs : codeSmall x) : Sound Tryd.prog 4 [.ro (codeV x), .ro (.sc (.int .i64 left))] (fun rs st => rs = [(false, [cI (sub left (codeCost x))])]) := by
  refine sound_code (fn := Tryd.f4) (c := Tryd.f4.body.getD .skip) (res := [.tm 4]) (n := 25) sized (by kernel_rfl) (by rfl) (by kernel_rfl) (by rfl) (by rfl) (by simp [argsV]) (fun C hpin hfull => ?_)
  obtain ⟨s0, s1, s2, q2⟩ := hs
  have w0 : IntKind.i64.wrap (left - (x.name.size : Int)) = left - x.name.size := w64 (by omega) (by omega)
  simp (decide := true) only [Tryd.f4, codeV, w0, row1_length, cI, cB, cS, roI, ro64, hpin, go_sem, Nat.reduceAdd, Nat.reduceMul]
  by_cases h0_ : left - ((x.name.size : Nat) : Int) < 0
  · have e : sub left (codeCost x) = -1 := sub_neg (by unfold codeCost; omega)
    rw [e]
    simp (decide := true) only [h0_, row1_length, cI, cB, cS, roI, ro64, hpin, go_sem, Nat.reduceAdd, Nat.reduceMul]
  have n0 : (left - ((x.name.size : Nat) : Int) < 0) = False := by simpa using h0_
  simp (decide := true) only [n0, row1_length, cI, cB, cS, roI, ro64, hpin, go_sem, Nat.reduceAdd, Nat.reduceMul]
  refine aCall_det (szI_sound x.locals (left - ((x.name.size : Nat) : Int)) (by omega) (by omega) s1) hpin ?_
  by_cases h1_ : left - ((x.name.size : Nat) : Int) - ((x.locals.length : Nat) : Int) < 0
  · have e : sub left (codeCost x) = -1 := sub_neg (by unfold codeCost; omega)
    rw [e]
    rw [sub_neg h1_]
    simp (decide := true) only [h1_, row1_length, cI, cB, cS, roI, ro64, hpin, go_sem, Nat.reduceAdd, Nat.reduceMul]
  rw [sub_pos h1_]
  have n1 : (left - ((x.name.size : Nat) : Int) - ((x.locals.length : Nat) : Int) < 0) = False := by simpa using h1_
  simp (decide := true) only [n1, row1_length, cI, cB, cS, roI, ro64, hpin, go_sem, Nat.reduceAdd, Nat.reduceMul]
  refine aCall_det (szInsS_sound x.words (left - ((x.name.size : Nat) : Int) - ((x.locals.length : Nat) : Int)) (by omega) (by omega) s2 q2) hpin ?_
  by_cases h2_ : left - ((x.name.size : Nat) : Int) - ((x.locals.length : Nat) : Int) - (((x.words.length + sumN insCost x.words) : Nat) : Int) < 0
  · have e : sub left (codeCost x) = -1 := sub_neg (by unfold codeCost; omega)
    rw [e]
    rw [sub_neg h2_]
    simp (decide := true) only [h2_, row1_length, cI, cB, cS, roI, ro64, hpin, go_sem, Nat.reduceAdd, Nat.reduceMul]
  rw [sub_pos h2_]
  have n2 : (left - ((x.name.size : Nat) : Int) - ((x.locals.length : Nat) : Int) - (((x.words.length + sumN insCost x.words) : Nat) : Int) < 0) = False := by simpa using h2_
  have e : sub left (codeCost x) = left - ((x.name.size : Nat) : Int) - ((x.locals.length : Nat) : Int) - (((x.words.length + sumN insCost x.words) : Nat) : Int) := by rw [sub_pos (by unfold codeCost; omega)]; unfold codeCost; omega
  rw [e]
  simp (decide := true) only [n2, row1_length, cI, cB, cS, roI, ro64, hpin, go_sem, Nat.reduceAdd, Nat.reduceMul]
theorem toCode_sound (x : CodeD) (h : codeCost x ≤ 1048576) : Sound Tryd.prog 6 [.ro (codeV x)] (fun rs st => rs = [(true, codeC false x)]) := by
  unfold codeCost at h
  refine sound_code (fn := Tryd.f6) (c := Tryd.f6.body.getD .skip) (res := [.ce 2 31]) (n := 19) sized (by kernel_rfl) (by rfl) (by kernel_rfl) (by rfl) (by rfl) (by simp [argsV]) (fun C hpin hfull => ?_)
  simp (decide := true) only [Tryd.f6, codeV, row1_length, cI, cB, cS, roI, ro64, hpin, go_sem, Nat.reduceAdd, Nat.reduceMul]
  refine aCall_det (toI_sound x.locals (by omega)) hpin ?_
  simp (decide := true) only [row1_length, cI, cB, cS, roI, ro64, hpin, go_sem, Nat.reduceAdd, Nat.reduceMul]
  refine aCall_det (toInsS_sound x.words (by omega)) hpin ?_
  simp (decide := true) only [codeC, row1_length, cI, cB, cS, roI, ro64, hpin, go_sem, Nat.reduceAdd, Nat.reduceMul]
theorem eqCode_sound (x : CodeD) (h : codeCost x ≤ 1048576) : Sound Tryd.prog 9 [.ro (codeW x), .ro (codeW x)] (fun rs st => rs = [(false, [cB true])]) := by
  unfold codeCost at h
  refine sound_code (fn := Tryd.f9) (c := Tryd.f9.body.getD .skip) (res := [.tm 4]) (n := 27) sized (by kernel_rfl) (by rfl) (by kernel_rfl) (by rfl) (by rfl) (by simp [argsV]) (fun C hpin hfull => ?_)
  simp (decide := true) only [Tryd.f9, codeW, bne_self_eq_false, row1_length, cI, cB, cS, roI, ro64, hpin, go_sem, Nat.reduceAdd, Nat.reduceMul]
  refine aCall_det (eqI_sound x.locals (by omega)) hpin ?_
  simp (decide := true) only [bne_self_eq_false, row1_length, cI, cB, cS, roI, ro64, hpin, go_sem, Nat.reduceAdd, Nat.reduceMul]
  refine aCall_det (eqInsS_sound x.words (by omega)) hpin ?_
  simp (decide := true) only [bne_self_eq_false, row1_length, cI, cB, cS, roI, ro64, hpin, go_sem, Nat.reduceAdd, Nat.reduceMul]
end Go.Proofs.YtnbodmohnkohfaaDoor.AW
