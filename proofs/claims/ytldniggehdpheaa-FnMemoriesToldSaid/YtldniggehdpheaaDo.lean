/- A memory's methods, both sides. No condition beyond those named. -/
import Derived.Test.YtldniggehdpheaaDm
namespace Go.Proofs.Ytldniggehdpheaa.AW
open Go.RowKit
set_option maxHeartbeats 8000000
set_option maxRecDepth 100000
set_option linter.unusedSimpArgs false
set_option linter.unusedVariables false

theorem askedI_sound (m : MemoryD) (hil : m.input.length ≤ 1048576) : SoundAtN Try.prog 43 (fun uf => argsV 0 [.ro (.bp 2000 0)]) [(2000, .box (memB true m))]
    (fun rs st => rs = [(false, [cI (askedM m).2])] ∧ nowIs st.ob [(2000, .box (memB true (askedM m).1))]) := by
  generalize hR : askedM m = R
  unfold askedM at hR
  refine sound_triN (fn := Try.f43) (c := Try.f43.body.getD .skip) (res := [.tm 2]) (n := 33) sized (by kernel_rfl) (by rfl) (by kernel_rfl) (by rfl) (by rfl) (by simp [argsV]) (fun uf ub C hpin hpin2 => ?_)
  simp only [Try.f43, Option.getD_some]
  refine Tri.step sized ?_
  simp (decide := true) only [drop0, row1_length, rows_length, memB, MemoryD.fail, vI, vB, vS, cI, cB, cS, roI, ro64, List.cons_append, List.nil_append, hpin, hpin2, go_sem, Nat.reduceAdd, Nat.reduceMul]
  refine Tri.step sized ?_
  cases hb : m.bad == 0 with
  | false =>
    simp only [hb, if_true, if_false, Bool.false_eq_true, Bool.true_and, Bool.false_and] at hR; subst hR
    simp (decide := true) only [hb, bne, drop0, row1_length, rows_length, memB, MemoryD.fail, vI, vB, vS, cI, cB, cS, roI, ro64, List.cons_append, List.nil_append, hpin, hpin2, go_sem, Nat.reduceAdd, Nat.reduceMul]
  | true =>
  simp (decide := true) only [hb, bne, drop0, row1_length, rows_length, memB, MemoryD.fail, vI, vB, vS, cI, cB, cS, roI, ro64, List.cons_append, List.nil_append, hpin, hpin2, go_sem, Nat.reduceAdd, Nat.reduceMul]
  refine Tri.step sized ?_
  cases hi : m.input with
  | nil =>
    simp only [hb, hi, if_true] at hR; subst hR
    have hz : (((0 : Nat) : Int) == 0) = true := rfl
    simp (decide := true) only [hi, hz, row1_nil0, List.length_nil, drop0, row1_length, rows_length, memB, MemoryD.fail, vI, vB, vS, cI, cB, cS, roI, ro64, List.cons_append, List.nil_append, hpin, hpin2, go_sem, Nat.reduceAdd, Nat.reduceMul]
  | cons x r =>
    simp only [hb, hi, if_true] at hR; subst hR
    rw [hi, List.length_cons] at hil
    have hne : (((r.length + 1 : Nat) : Int) == 0) = false := by rw [beq_eq_false_iff_ne]; omega
    have hlt : ((0 : Int) < ((r.length + 1 : Nat) : Int)) = True := eq_true (by omega)
    have hle : ((1 : Int) ≤ ((r.length + 1 : Nat) : Int)) = True := eq_true (by omega)
    have hll : (((r.length + 1 : Nat) : Int) ≤ ((r.length + 1 : Nat) : Int)) = True := eq_true (by omega)
    have hd : List.drop (Int.toNat 1) (List.take (r.length + 1) ([D.sc (Value.int IntKind.i64 x)] :: row1 cI r)) = row1 cI r := by rw [List.take_of_length_le (by simp [row1])]; rfl
    simp (decide := true) only [hi, hne, List.length_cons, row1_cons0, drop0, row1_length, rows_length, memB, MemoryD.fail, vI, vB, vS, cI, cB, cS, roI, ro64, List.cons_append, List.nil_append, hpin, hpin2, go_sem, Nat.reduceAdd, Nat.reduceMul]
    refine Tri.step sized ?_
    simp (decide := true) only [hlt, row1_cons0, getD_z, List.length_cons, drop0, row1_length, rows_length, memB, MemoryD.fail, vI, vB, vS, cI, cB, cS, roI, ro64, List.cons_append, List.nil_append, hpin, hpin2, go_sem, Nat.reduceAdd, Nat.reduceMul]
    refine Tri.step sized ?_
    simp (decide := true) only [hlt, hle, hll, hd, row1_cons0, getD_z, List.length_cons, drop0, row1_length, rows_length, memB, MemoryD.fail, vI, vB, vS, cI, cB, cS, roI, ro64, List.cons_append, List.nil_append, hpin, hpin2, go_sem, Nat.reduceAdd, Nat.reduceMul]
    refine code_sound sized _ ?_
    simp (decide := true) only [row1_cons0, drop0, row1_length, rows_length, memB, MemoryD.fail, vI, vB, vS, cI, cB, cS, roI, ro64, List.cons_append, List.nil_append, hpin, hpin2, go_sem, Nat.reduceAdd, Nat.reduceMul]
theorem askedS_sound (m : MemoryD) (hil : m.input.length ≤ 1048576) : SoundAt Try.prog 44 (fun uf => argsV 0 [.ro (.bp 2000 0)]) [(2000, .box (memB true m))]
    (fun rs st => rs = [(false, [cI (askedM m).2])] ∧ nowIs st.ob [(2000, .box (memB true (askedM m).1))]) := by
  generalize hR : askedM m = R
  unfold askedM at hR
  refine sound_tri (fn := Try.f44) (c := Try.f44.body.getD .skip) (res := [.tm 2]) (n := 35) sized (by kernel_rfl) (by rfl) (by kernel_rfl) (by rfl) (by rfl) (by simp [argsV]) (fun uf ub C hpin hpin2 hfull => ?_)
  simp only [Try.f44, Option.getD_some]
  refine Tri.step sized ?_
  simp (decide := true) only [drop0, row1_length, rows_length, memB, MemoryD.fail, vI, vB, vS, cI, cB, cS, roI, ro64, List.cons_append, List.nil_append, hpin, hpin2, go_sem, Nat.reduceAdd, Nat.reduceMul]
  refine Tri.step sized ?_
  cases hb : m.bad == 0 with
  | false =>
    simp only [hb, if_true, if_false, Bool.false_eq_true, Bool.true_and, Bool.false_and] at hR; subst hR
    simp (decide := true) only [hb, bne, drop0, row1_length, rows_length, memB, MemoryD.fail, vI, vB, vS, cI, cB, cS, roI, ro64, List.cons_append, List.nil_append, hpin, hpin2, go_sem, Nat.reduceAdd, Nat.reduceMul]
  | true =>
  simp (decide := true) only [hb, bne, drop0, row1_length, rows_length, memB, MemoryD.fail, vI, vB, vS, cI, cB, cS, roI, ro64, List.cons_append, List.nil_append, hpin, hpin2, go_sem, Nat.reduceAdd, Nat.reduceMul]
  refine Tri.step sized ?_
  cases hi : m.input with
  | nil =>
    simp only [hb, hi, if_true] at hR; subst hR
    have hz : (((0 : Nat) : Int) == 0) = true := rfl
    simp (decide := true) only [hi, hz, row1_nil0, List.length_nil, drop0, row1_length, rows_length, memB, MemoryD.fail, vI, vB, vS, cI, cB, cS, roI, ro64, List.cons_append, List.nil_append, hpin, hpin2, go_sem, Nat.reduceAdd, Nat.reduceMul]
  | cons x r =>
    simp only [hb, hi, if_true] at hR; subst hR
    rw [hi, List.length_cons] at hil
    have hne : (((r.length + 1 : Nat) : Int) == 0) = false := by rw [beq_eq_false_iff_ne]; omega
    have hlt : ((0 : Int) < ((r.length + 1 : Nat) : Int)) = True := eq_true (by omega)
    have hle : ((1 : Int) ≤ ((r.length + 1 : Nat) : Int)) = True := eq_true (by omega)
    have hll : (((r.length + 1 : Nat) : Int) ≤ ((r.length + 1 : Nat) : Int)) = True := eq_true (by omega)
    have hd : List.drop (Int.toNat 1) (List.take (r.length + 1) ([D.sc (Value.int IntKind.i64 x)] :: row1 cI r)) = row1 cI r := by rw [List.take_of_length_le (by simp [row1])]; rfl
    simp (decide := true) only [hi, hne, List.length_cons, row1_cons0, drop0, row1_length, rows_length, memB, MemoryD.fail, vI, vB, vS, cI, cB, cS, roI, ro64, List.cons_append, List.nil_append, hpin, hpin2, go_sem, Nat.reduceAdd, Nat.reduceMul]
    refine Tri.step sized ?_
    simp (decide := true) only [hlt, row1_cons0, getD_z, List.length_cons, drop0, row1_length, rows_length, memB, MemoryD.fail, vI, vB, vS, cI, cB, cS, roI, ro64, List.cons_append, List.nil_append, hpin, hpin2, go_sem, Nat.reduceAdd, Nat.reduceMul]
    refine Tri.step sized ?_
    have hf := ints_fr r
    have hb1 : r.length ≤ 140737488355328 := by omega
    have hb2 : r.length * 8 ≤ 140737488355328 := by omega
    simp (decide := true) only [hlt, hle, hll, hd, hf, hb1, hb2, row1_cons0, getD_z, List.length_cons, drop0, row1_length, rows_length, memB, MemoryD.fail, vI, vB, vS, cI, cB, cS, roI, ro64, List.cons_append, List.nil_append, hpin, hpin2, go_sem, Nat.reduceAdd, Nat.reduceMul]
    refine Tri.ent ?_ (Ent.shc hfull 2000 (0 + 1))
    refine code_sound sized _ ?_
    simp (decide := true) only [row1_cons0, ints_sh, List.getElem?_cons_zero, List.getElem?_cons_succ, drop0, row1_length, rows_length, memB, MemoryD.fail, vI, vB, vS, cI, cB, cS, roI, ro64, List.cons_append, List.nil_append, hpin, hpin2, go_sem, Nat.reduceAdd, Nat.reduceMul]
end Go.Proofs.Ytldniggehdpheaa.AW
