/- A memory's methods, both sides. No condition beyond those named. -/
import Derived.Test.YtldniggehdpheaaDn
namespace Go.Proofs.Ytldniggehdpheaa.AW
open Go.RowKit
set_option maxHeartbeats 8000000
set_option maxRecDepth 100000
set_option linter.unusedSimpArgs false
set_option linter.unusedVariables false

theorem spendI_sound (sh : Bool) (m : MemoryD) (h1 : m.fuel < 9223372036854775808) : SoundAtN Try.prog 48 (fun uf => argsV 0 [.ro (.bp 2000 0)]) [(2000, .box (memB sh m))]
    (fun rs st => rs = [] ∧ nowIs st.ob [(2000, .box (memB sh (spendM m)))]) := by
  unfold spendM
  refine sound_triN (fn := Try.f48) (c := Try.f48.body.getD .skip) (res := []) (n := 24) sized (by kernel_rfl) (by rfl) (by kernel_rfl) (by rfl) (by rfl) (by simp [argsV]) (fun uf ub C hpin hpin2 => ?_)
  refine code_sound sized _ ?_
  simp only [Try.f48, Option.getD_some]
  cases hb : m.bad == 0 with
  | false => simp (decide := true) only [hb, bne, if_false, drop0, row1_length, rows_length, memB, MemoryD.fail, vI, vB, vS, cI, cB, cS, roI, ro64, List.cons_append, List.nil_append, hpin, hpin2, go_sem, Nat.reduceAdd, Nat.reduceMul]
  | true =>
    by_cases hf : 0 < m.fuel
    · have e : (0 < m.fuel) = True := eq_true hf
      have w1 : IntKind.i64.wrap (m.fuel - 1) = m.fuel - 1 := w64 (by omega) (by omega)
      simp (decide := true) only [hb, e, w1, bne, gt_iff_lt, if_true, drop0, row1_length, rows_length, memB, MemoryD.fail, vI, vB, vS, cI, cB, cS, roI, ro64, List.cons_append, List.nil_append, hpin, hpin2, go_sem, Nat.reduceAdd, Nat.reduceMul]
    · have e : (0 < m.fuel) = False := eq_false hf
      simp (decide := true) only [hb, e, bne, gt_iff_lt, if_true, if_false, drop0, row1_length, rows_length, memB, MemoryD.fail, vI, vB, vS, cI, cB, cS, roI, ro64, List.cons_append, List.nil_append, hpin, hpin2, go_sem, Nat.reduceAdd, Nat.reduceMul]
theorem spendS_sound (sh : Bool) (m : MemoryD) (h1 : m.fuel < 9223372036854775808) : SoundAtN Try.prog 49 (fun uf => argsV 0 [.ro (.bp 2000 0)]) [(2000, .box (memB sh m))]
    (fun rs st => rs = [] ∧ nowIs st.ob [(2000, .box (memB sh (spendM m)))]) := by
  unfold spendM
  refine sound_triN (fn := Try.f49) (c := Try.f49.body.getD .skip) (res := []) (n := 22) sized (by kernel_rfl) (by rfl) (by kernel_rfl) (by rfl) (by rfl) (by simp [argsV]) (fun uf ub C hpin hpin2 => ?_)
  refine code_sound sized _ ?_
  simp only [Try.f49, Option.getD_some]
  cases hb : m.bad == 0 with
  | false => simp (decide := true) only [hb, bne, if_false, drop0, row1_length, rows_length, memB, MemoryD.fail, vI, vB, vS, cI, cB, cS, roI, ro64, List.cons_append, List.nil_append, hpin, hpin2, go_sem, Nat.reduceAdd, Nat.reduceMul]
  | true =>
    by_cases hf : 0 < m.fuel
    · have e : (0 < m.fuel) = True := eq_true hf
      have e2 : (m.fuel ≤ 0) = False := eq_false (by omega)
      have w1 : IntKind.i64.wrap (m.fuel - 1) = m.fuel - 1 := w64 (by omega) (by omega)
      simp (decide := true) only [hb, e, e2, w1, bne, if_true, drop0, row1_length, rows_length, memB, MemoryD.fail, vI, vB, vS, cI, cB, cS, roI, ro64, List.cons_append, List.nil_append, hpin, hpin2, go_sem, Nat.reduceAdd, Nat.reduceMul]
    · have e : (0 < m.fuel) = False := eq_false hf
      have e2 : (m.fuel ≤ 0) = True := eq_true (by omega)
      simp (decide := true) only [hb, e, e2, bne, if_true, if_false, drop0, row1_length, rows_length, memB, MemoryD.fail, vI, vB, vS, cI, cB, cS, roI, ro64, List.cons_append, List.nil_append, hpin, hpin2, go_sem, Nat.reduceAdd, Nat.reduceMul]
theorem freshI_sound (sh : Bool) (m : MemoryD) (n : Int) (hm : m.cells.length ≤ 1048576) : SoundAtN Try.prog 36 (fun uf => argsV 0 [.ro (.bp 2000 0), .ro (.sc (.int .i64 n))]) [(2000, .box (memB sh m))]
    (fun rs st => rs = [(true, valueC false (freshM m n).2)] ∧ nowIs st.ob [(2000, .box (memB sh (freshM m n).1))]) := by
  generalize hR : freshM m n = R
  unfold freshM at hR
  have hb1 : m.cells.length + 1 ≤ 140737488355328 := by omega
  have hb2 : (m.cells.length + 1) * 16 ≤ 140737488355328 := by omega
  have hsn := rows_snoc (cellC false) m.cells ⟨true, n⟩
  simp only [cellC, cB, cI] at hsn
  have w1 : IntKind.i64.wrap (((m.cells.length + 1 : Nat) : Int) - 1) = m.cells.length := by rw [show (((m.cells.length + 1 : Nat) : Int) - 1) = m.cells.length by omega]; exact w64 (by omega) (by omega)
  refine sound_triN (fn := Try.f36) (c := Try.f36.body.getD .skip) (res := [.ce 4 32]) (n := 29) sized (by kernel_rfl) (by rfl) (by kernel_rfl) (by rfl) (by rfl) (by simp [argsV]) (fun uf ub C hpin hpin2 => ?_)
  simp only [Try.f36, Option.getD_some]
  refine Tri.step sized ?_
  simp (decide := true) only [drop0, row1_length, rows_length, memB, MemoryD.fail, vI, vB, vS, cI, cB, cS, roI, ro64, List.cons_append, List.nil_append, hpin, hpin2, go_sem, Nat.reduceAdd, Nat.reduceMul]
  refine Tri.step sized ?_
  cases hb : m.bad == 0 with
  | false =>
    simp only [hb, if_true, if_false, Bool.false_eq_true, Bool.true_and, Bool.false_and] at hR; subst hR
    simp (decide := true) only [hb, bne, zV, valueC, drop0, row1_length, rows_length, memB, MemoryD.fail, vI, vB, vS, cI, cB, cS, roI, ro64, List.cons_append, List.nil_append, hpin, hpin2, go_sem, Nat.reduceAdd, Nat.reduceMul]
  | true =>
    simp only [hb, if_true, if_false, Bool.false_eq_true, Bool.true_and, Bool.false_and] at hR; subst hR
    simp (decide := true) only [hb, bne, drop0, row1_length, rows_length, memB, MemoryD.fail, vI, vB, vS, cI, cB, cS, roI, ro64, List.cons_append, List.nil_append, hpin, hpin2, go_sem, Nat.reduceAdd, Nat.reduceMul]
    refine Tri.step sized ?_
    simp (decide := true) only [hb1, hb2, hsn, drop0, row1_length, rows_length, memB, MemoryD.fail, vI, vB, vS, cI, cB, cS, roI, ro64, List.cons_append, List.nil_append, hpin, hpin2, go_sem, Nat.reduceAdd, Nat.reduceMul]
    refine code_sound sized _ ?_
    simp (decide := true) only [w1, valueC, List.length_append, List.length_singleton, drop0, row1_length, rows_length, memB, MemoryD.fail, vI, vB, vS, cI, cB, cS, roI, ro64, List.cons_append, List.nil_append, hpin, hpin2, go_sem, Nat.reduceAdd, Nat.reduceMul]
theorem freshS_sound (sh : Bool) (m : MemoryD) (n : Int) (hm : m.cells.length ≤ 1048576) : SoundAtN Try.prog 38 (fun uf => argsV 0 [.ro (.bp 2000 0), .ro (.sc (.int .i64 n))]) [(2000, .box (memB sh m))]
    (fun rs st => rs = [(true, valueC false (freshM m n).2)] ∧ nowIs st.ob [(2000, .box (memB sh (freshM m n).1))]) := by
  generalize hR : freshM m n = R
  unfold freshM at hR
  have hb1 : m.cells.length + 1 ≤ 140737488355328 := by omega
  have hb2 : (m.cells.length + 1) * 16 ≤ 140737488355328 := by omega
  have hsn := rows_snoc (cellC false) m.cells ⟨true, n⟩
  simp only [cellC, cB, cI] at hsn
  have w1 : IntKind.i64.wrap (((m.cells.length + 1 : Nat) : Int) - 1) = m.cells.length := by rw [show (((m.cells.length + 1 : Nat) : Int) - 1) = m.cells.length by omega]; exact w64 (by omega) (by omega)
  refine sound_triN (fn := Try.f38) (c := Try.f38.body.getD .skip) (res := [.ce 4 32]) (n := 29) sized (by kernel_rfl) (by rfl) (by kernel_rfl) (by rfl) (by rfl) (by simp [argsV]) (fun uf ub C hpin hpin2 => ?_)
  simp only [Try.f38, Option.getD_some]
  refine Tri.step sized ?_
  simp (decide := true) only [drop0, row1_length, rows_length, memB, MemoryD.fail, vI, vB, vS, cI, cB, cS, roI, ro64, List.cons_append, List.nil_append, hpin, hpin2, go_sem, Nat.reduceAdd, Nat.reduceMul]
  refine Tri.step sized ?_
  cases hb : m.bad == 0 with
  | false =>
    simp only [hb, if_true, if_false, Bool.false_eq_true, Bool.true_and, Bool.false_and] at hR; subst hR
    simp (decide := true) only [hb, bne, zV, valueC, drop0, row1_length, rows_length, memB, MemoryD.fail, vI, vB, vS, cI, cB, cS, roI, ro64, List.cons_append, List.nil_append, hpin, hpin2, go_sem, Nat.reduceAdd, Nat.reduceMul]
  | true =>
    simp only [hb, if_true, if_false, Bool.false_eq_true, Bool.true_and, Bool.false_and] at hR; subst hR
    simp (decide := true) only [hb, bne, drop0, row1_length, rows_length, memB, MemoryD.fail, vI, vB, vS, cI, cB, cS, roI, ro64, List.cons_append, List.nil_append, hpin, hpin2, go_sem, Nat.reduceAdd, Nat.reduceMul]
    refine Tri.step sized ?_
    simp (decide := true) only [hb1, hb2, hsn, drop0, row1_length, rows_length, memB, MemoryD.fail, vI, vB, vS, cI, cB, cS, roI, ro64, List.cons_append, List.nil_append, hpin, hpin2, go_sem, Nat.reduceAdd, Nat.reduceMul]
    refine code_sound sized _ ?_
    simp (decide := true) only [w1, valueC, List.length_append, List.length_singleton, drop0, row1_length, rows_length, memB, MemoryD.fail, vI, vB, vS, cI, cB, cS, roI, ro64, List.cons_append, List.nil_append, hpin, hpin2, go_sem, Nat.reduceAdd, Nat.reduceMul]
theorem liveI_sound (sh : Bool) (m : MemoryD) (k : Int) (hm : m.cells.length ≤ 1048576) : SoundAtN Try.prog 60 (fun uf => argsV 0 [.ro (.bp 2000 0), .ro (.sc (.int .i64 k))]) [(2000, .box (memB sh m))]
    (fun rs st => rs = [(false, [cB (liveM m k)])] ∧ nowIs st.ob [(2000, .box (memB sh m))]) := by
  generalize hR : liveM m k = R
  unfold liveM at hR
  have w1 : IntKind.i64.wrap ((m.cells.length : Int) - 1) = (m.cells.length : Int) - 1 := w64 (by omega) (by omega)
  have hin : (decide (0 ≤ k) && decide (k ≤ (m.cells.length : Int) - 1)) = inMem m k := rfl
  refine sound_triN (fn := Try.f60) (c := Try.f60.body.getD .skip) (res := [.tm 4]) (n := 23) sized (by kernel_rfl) (by rfl) (by kernel_rfl) (by rfl) (by rfl) (by simp [argsV]) (fun uf ub C hpin hpin2 => ?_)
  simp only [Try.f60, Option.getD_some]
  refine Tri.step sized ?_
  simp (decide := true) only [drop0, row1_length, rows_length, memB, MemoryD.fail, vI, vB, vS, cI, cB, cS, roI, ro64, List.cons_append, List.nil_append, hpin, hpin2, go_sem, Nat.reduceAdd, Nat.reduceMul]
  refine code_sound sized _ ?_
  simp (decide := true) only [w1, drop0, row1_length, rows_length, memB, MemoryD.fail, vI, vB, vS, cI, cB, cS, roI, ro64, List.cons_append, List.nil_append, hpin, hpin2, go_sem, Nat.reduceAdd, Nat.reduceMul]
  refine aCall_det (in_sound k 0 ((m.cells.length : Int) - 1)) hpin ?_
  rw [hin]
  cases hb : inMem m k with
  | false =>
    simp only [hb, if_true, if_false, Bool.false_eq_true, Bool.true_and, Bool.false_and] at hR; subst hR
    rcases cells_any m.cells k.toNat with ⟨x, y, hy⟩ | hy
    all_goals
      try simp only [cB, cI] at hy
      simp (decide := true) only [hy, Option.bind_none, Option.map_none, Option.getD_none, drop0, row1_length, rows_length, memB, MemoryD.fail, vI, vB, vS, cI, cB, cS, roI, ro64, List.cons_append, List.nil_append, hpin, hpin2, go_sem, Nat.reduceAdd, Nat.reduceMul]
  | true =>
    obtain ⟨n, rfl, hn⟩ := inMem_true hb
    have hk : ((n : Int) < (m.cells.length : Int)) = True := eq_true (by omega)
    have h0 := cell_q false hn
    simp only [cB, cI] at h0
    simp only [hb, if_true, if_false, Bool.false_eq_true, Bool.true_and, Bool.false_and] at hR; subst hR
    simp (decide := true) only [hk, hn, h0, Int.toNat_natCast, Int.natCast_nonneg, drop0, row1_length, rows_length, memB, MemoryD.fail, vI, vB, vS, cI, cB, cS, roI, ro64, List.cons_append, List.nil_append, hpin, hpin2, go_sem, Nat.reduceAdd, Nat.reduceMul]
theorem movedI_sound (sh : Bool) (m : MemoryD) (v : ValueD) (hm : m.cells.length ≤ 1048576) : SoundAtN Try.prog 39 (fun uf => argsV 0 [.ro (.bp 2000 0), .ro (valueW v)]) [(2000, .box (memB sh m))]
    (fun rs st => rs = [(true, valueC false (movedM m v).2)] ∧ nowIs st.ob [(2000, .box (memB sh (movedM m v).1))]) := by
  generalize hR : movedM m v = R
  unfold movedM at hR
  have hli := liveI_sound sh m v.num hm
  simp only [memB, cB, cI, List.cons_append, List.nil_append] at hli
  refine sound_triN (fn := Try.f39) (c := Try.f39.body.getD .skip) (res := [.ce 4 32]) (n := 46) sized (by kernel_rfl) (by rfl) (by kernel_rfl) (by rfl) (by rfl) (by simp [argsV]) (fun uf ub C hpin hpin2 => ?_)
  simp only [Try.f39, Option.getD_some]
  refine Tri.step sized ?_
  simp (decide := true) only [valueW, drop0, row1_length, rows_length, memB, MemoryD.fail, vI, vB, vS, cI, cB, cS, roI, ro64, List.cons_append, List.nil_append, hpin, hpin2, go_sem, Nat.reduceAdd, Nat.reduceMul]
  refine Tri.step sized ?_
  cases hb : m.bad == 0 with
  | false =>
    simp only [hb, if_true, if_false, Bool.false_eq_true, Bool.true_and, Bool.false_and] at hR; subst hR
    simp (decide := true) only [hb, bne, zV, valueC, drop0, row1_length, rows_length, memB, MemoryD.fail, vI, vB, vS, cI, cB, cS, roI, ro64, List.cons_append, List.nil_append, hpin, hpin2, go_sem, Nat.reduceAdd, Nat.reduceMul]
  | true =>
  cases hb1 : v.type == 2 with
  | false =>
    simp only [hb, hb1, if_true, if_false, Bool.false_eq_true] at hR; subst hR
    simp (decide := true) only [hb, hb1, bne, valueC, drop0, row1_length, rows_length, memB, MemoryD.fail, vI, vB, vS, cI, cB, cS, roI, ro64, List.cons_append, List.nil_append, hpin, hpin2, go_sem, Nat.reduceAdd, Nat.reduceMul]
  | true =>
  simp (decide := true) only [hb, hb1, bne, drop0, row1_length, rows_length, memB, MemoryD.fail, vI, vB, vS, cI, cB, cS, roI, ro64, List.cons_append, List.nil_append, hpin, hpin2, go_sem, Nat.reduceAdd, Nat.reduceMul]
  refine aCall_bxdN hli hpin [(2000, 2000)] [] [(2000, 2000)] ⟨rfl, rfl, rfl, rfl⟩ (fun uf => ?_) ?_
  · simp (decide := true) only [drop0, row1_length, rows_length, memB, MemoryD.fail, vI, vB, vS, cI, cB, cS, roI, ro64, List.cons_append, List.nil_append, hpin, hpin2, go_sem, Nat.reduceAdd, Nat.reduceMul]
  cases hb2 : liveM m v.num with
  | false =>
    simp only [hb, hb1, hb2, if_true, if_false, Bool.false_eq_true] at hR; subst hR
    simp (decide := true) only [hb2, zV, valueC, drop0, row1_length, rows_length, memB, MemoryD.fail, vI, vB, vS, cI, cB, cS, roI, ro64, List.cons_append, List.nil_append, hpin, hpin2, go_sem, Nat.reduceAdd, Nat.reduceMul]
  | true =>
  simp only [hb, hb1, hb2, if_true, if_false, Bool.false_eq_true] at hR
  have hb3 : inMem m v.num = true := by unfold liveM at hb2; exact (Bool.and_eq_true_iff.1 hb2).1
  obtain ⟨n, hn0, hn⟩ := inMem_true hb3
  rw [hn0] at hR
  have hk : ((n : Int) < (m.cells.length : Int)) = True := eq_true (by omega)
  have h0 := cell_q false hn
  simp only [cB, cI] at h0
  have hs0 := cell_set0 hn
  unfold setCellAt at hs0
  have hfr := freshI_sound sh (deadM m n) (cAt m.cells n).num (by simpa [deadM] using hm)
  have hq2 : (rows (cellC false) (m.cells.set n ⟨false, (cAt m.cells n).num⟩))[n]? = some [cB false, cI (cAt m.cells n).num] := by
    rw [cell_q false (by simpa using hn), cAt_get (by simpa using hn)]; simp
  simp only [cB, cI] at hq2
  rw [hR] at hfr
  simp only [deadM, Int.toNat_natCast, memB, cB, cI, List.cons_append, List.nil_append] at hfr
  simp (decide := true) only [hb2, hn0, hk, hn, h0, Int.toNat_natCast, Int.natCast_nonneg, drop0, row1_length, rows_length, memB, MemoryD.fail, vI, vB, vS, cI, cB, cS, roI, ro64, List.cons_append, List.nil_append, hpin, hpin2, go_sem, Nat.reduceAdd, Nat.reduceMul]
  refine Tri.step sized ?_
  refine Tri.fork sized (.one 0 true (.one 1 true (.one 2 true (.one 4 true (.two 3 (.one 5 false (.one 6 false (.one 7 false (.one 8 false .done)))) 5 (.one 3 false (.one 6 false (.one 7 false (.one 8 false .done))))))))) mixed (by kernel_rfl) (fun C2 hC2 => ?_)
  have hp2 : ∀ o, isPin o = false → C2.pin o = none := by rw [hC2]; exact hpin
  simp (decide := true) only [hn0, hk, hn, h0, hs0, Int.toNat_natCast, Int.natCast_nonneg, drop0, row1_length, rows_length, memB, MemoryD.fail, vI, vB, vS, cI, cB, cS, roI, ro64, List.cons_append, List.nil_append, hp2, hpin, hpin2, go_sem, Nat.reduceAdd, Nat.reduceMul]
  refine ⟨?_, ?_⟩
  all_goals
    refine Tri.step sized ?_
    refine Tri.fork sized (.one 0 true (.one 1 true (.one 2 true (.one 3 true (.one 5 true (.two 4 (.one 6 false (.one 7 false (.one 8 false (.one 9 false (.one 10 false (.one 11 false .done)))))) 6 (.one 4 false (.one 7 false (.one 8 false (.one 9 false (.one 10 false (.one 11 false .done)))))))))))) mixed (by kernel_rfl) (fun C3 hC3 => ?_)
    have hp3 : ∀ o, isPin o = false → C3.pin o = none := by rw [hC3]; exact hpin
    simp (decide := true) only [hn0, hk, hn, hq2, List.length_set, Int.toNat_natCast, Int.natCast_nonneg, drop0, row1_length, rows_length, memB, MemoryD.fail, vI, vB, vS, cI, cB, cS, roI, ro64, List.cons_append, List.nil_append, hp3, hpin, hpin2, go_sem, Nat.reduceAdd, Nat.reduceMul]
    refine ⟨?_, ?_⟩
    all_goals
      refine aCall_bxdN hfr hp3 [(2000, 2000)] [] [(2000, 2000)] ⟨rfl, rfl, rfl, rfl⟩ (fun uf => ?_) ?_
      · simp (decide := true) only [drop0, row1_length, rows_length, memB, MemoryD.fail, vI, vB, vS, cI, cB, cS, roI, ro64, List.cons_append, List.nil_append, hpin, hpin2, go_sem, Nat.reduceAdd, Nat.reduceMul]
      simp (decide := true) only [valueC, drop0, row1_length, rows_length, memB, MemoryD.fail, vI, vB, vS, cI, cB, cS, roI, ro64, List.cons_append, List.nil_append, hp3, hpin, hpin2, go_sem, Nat.reduceAdd, Nat.reduceMul]
      refine code_sound sized _ ?_
      simp (decide := true) only [valueC, drop0, row1_length, rows_length, memB, MemoryD.fail, vI, vB, vS, cI, cB, cS, roI, ro64, List.cons_append, List.nil_append, hp3, hpin, hpin2, go_sem, Nat.reduceAdd, Nat.reduceMul]
theorem l09Live_sound (m : MemoryD) (v : ValueD) (hm : m.cells.length ≤ 1048576) : Sound Try.prog 61 [.ro (memoryW m), .ro (valueW v)] (fun rs st => rs = [(false, [cB (holdsM m v)])]) := by
  generalize hR : holdsM m v = R
  unfold holdsM liveM at hR
  have w1 : IntKind.i64.wrap ((m.cells.length : Int) - 1) = (m.cells.length : Int) - 1 := w64 (by omega) (by omega)
  have hin : (decide (0 ≤ v.num) && decide (v.num ≤ (m.cells.length : Int) - 1)) = inMem m v.num := rfl
  have hin2 : (decide (2 ≤ v.type) && decide (v.type ≤ 4)) = inJ v.type 2 4 := rfl
  refine sound_code (fn := Try.f61) (c := Try.f61.body.getD .skip) (res := [.tm 4]) (n := 26) sized (by kernel_rfl) (by rfl) (by kernel_rfl) (by rfl) (by rfl) (by simp [argsV]) (fun C hpin hfull => ?_)
  simp (decide := true) only [Try.f61, memoryW, valueW, drop0, row1_length, rows_length, memB, MemoryD.fail, vI, vB, vS, cI, cB, cS, roI, ro64, List.cons_append, List.nil_append, hpin, go_sem, Nat.reduceAdd, Nat.reduceMul]
  refine aCall_det (l01In_sound v.type 2 4) hpin ?_
  rw [hin2]
  have any : ∀ k : Nat, (∃ b n, (rows (cellC true) m.cells).getD k [] = [cB b, cI n]) ∨ (rows (cellC true) m.cells).getD k [] = [] := fun k => by
    by_cases h : k < m.cells.length
    · exact Or.inl ⟨_, _, by rw [List.getD, cell_q true h]; rfl⟩
    · exact Or.inr (by rw [List.getD, List.getElem?_eq_none (by rw [rows_length]; omega)]; rfl)
  cases hb : inJ v.type 2 4 with
  | false =>
    simp only [hb, if_true, if_false, Bool.false_eq_true, Bool.true_and, Bool.false_and] at hR; subst hR
    rcases any v.num.toNat with ⟨x, y, hy⟩ | hy
    all_goals
      try simp only [cB, cI] at hy
      simp (decide := true) only [hy, w1, drop0, row1_length, rows_length, memB, MemoryD.fail, vI, vB, vS, cI, cB, cS, roI, ro64, List.cons_append, List.nil_append, hpin, go_sem, Nat.reduceAdd, Nat.reduceMul]
  | true =>
  simp (decide := true) only [w1, drop0, row1_length, rows_length, memB, MemoryD.fail, vI, vB, vS, cI, cB, cS, roI, ro64, List.cons_append, List.nil_append, hpin, go_sem, Nat.reduceAdd, Nat.reduceMul]
  refine aCall_det (l01In_sound v.num 0 ((m.cells.length : Int) - 1)) hpin ?_
  rw [hin]
  cases hb2 : inMem m v.num with
  | false =>
    simp only [hb, hb2, if_true, if_false, Bool.false_eq_true, Bool.true_and, Bool.false_and] at hR; subst hR
    rcases any v.num.toNat with ⟨x, y, hy⟩ | hy
    all_goals
      try simp only [cB, cI] at hy
      simp (decide := true) only [hy, drop0, row1_length, rows_length, memB, MemoryD.fail, vI, vB, vS, cI, cB, cS, roI, ro64, List.cons_append, List.nil_append, hpin, go_sem, Nat.reduceAdd, Nat.reduceMul]
  | true =>
  obtain ⟨n, hn0, hn⟩ := inMem_true hb2
  have hk : ((n : Int) < (m.cells.length : Int)) = True := eq_true (by omega)
  have h0 : (rows (cellC true) m.cells).getD n [] = [cB (cAt m.cells n).live, cI (cAt m.cells n).num] := by rw [List.getD, cell_q true hn]; rfl
  simp only [cB, cI] at h0
  rw [hn0] at hb2
  simp only [hb, hb2, hn0, Bool.true_and] at hR; subst hR
  simp (decide := true) only [hn0, hk, hn, h0, Int.toNat_natCast, Int.natCast_nonneg, drop0, row1_length, rows_length, memB, MemoryD.fail, vI, vB, vS, cI, cB, cS, roI, ro64, List.cons_append, List.nil_append, hpin, go_sem, Nat.reduceAdd, Nat.reduceMul]
theorem movedS_f_sound (m : MemoryD) (v : ValueD) (hm : m.cells.length ≤ 1048576) : SoundAtN Try.prog 40 (fun uf => argsV 0 [.ro (.bp 2000 0), .ro (valueW v)]) [(2000, .box (memB false m))]
    (fun rs st => rs = [(true, valueC false (movedM m v).2)] ∧ nowIs st.ob [(2000, .box (memB false (movedM m v).1))]) := by
  generalize hR : movedM m v = R
  unfold movedM at hR
  have hli := l09Live_sound m v hm
  simp only [memoryW, valueW] at hli
  refine sound_triN (fn := Try.f40) (c := Try.f40.body.getD .skip) (res := [.ce 4 32]) (n := 46) sized (by kernel_rfl) (by rfl) (by kernel_rfl) (by rfl) (by rfl) (by simp [argsV]) (fun uf ub C hpin hpin2 => ?_)
  simp only [Try.f40, Option.getD_some]
  refine Tri.step sized ?_
  simp (decide := true) only [valueW, drop0, row1_length, rows_length, memB, MemoryD.fail, vI, vB, vS, cI, cB, cS, roI, ro64, List.cons_append, List.nil_append, hpin, hpin2, go_sem, Nat.reduceAdd, Nat.reduceMul]
  refine Tri.step sized ?_
  cases hb : m.bad == 0 with
  | false =>
    simp only [hb, if_true, if_false, Bool.false_eq_true, Bool.true_and, Bool.false_and] at hR; subst hR
    simp (decide := true) only [hb, bne, zV, valueC, drop0, row1_length, rows_length, memB, MemoryD.fail, vI, vB, vS, cI, cB, cS, roI, ro64, List.cons_append, List.nil_append, hpin, hpin2, go_sem, Nat.reduceAdd, Nat.reduceMul]
  | true =>
  simp (decide := true) only [hb, bne, drop0, row1_length, rows_length, memB, MemoryD.fail, vI, vB, vS, cI, cB, cS, roI, ro64, List.cons_append, List.nil_append, hpin, hpin2, go_sem, Nat.reduceAdd, Nat.reduceMul]
  refine Tri.step sized ?_
  cases hb1 : v.type == 2 with
  | false =>
    simp only [hb, hb1, if_true, if_false, Bool.false_eq_true] at hR; subst hR
    simp (decide := true) only [hb, hb1, bne, valueC, drop0, row1_length, rows_length, memB, MemoryD.fail, vI, vB, vS, cI, cB, cS, roI, ro64, List.cons_append, List.nil_append, hpin, hpin2, go_sem, Nat.reduceAdd, Nat.reduceMul]
  | true =>
  simp (decide := true) only [hb, hb1, bne, drop0, row1_length, rows_length, memB, MemoryD.fail, vI, vB, vS, cI, cB, cS, roI, ro64, List.cons_append, List.nil_append, hpin, hpin2, go_sem, Nat.reduceAdd, Nat.reduceMul]
  have hho : holdsM m v = liveM m v.num := by unfold holdsM inJ; rw [eq_of_beq hb1]; simp
  rw [hho] at hli
  refine Tri.step sized ?_
  simp (decide := true) only [drop0, row1_length, rows_length, memB, MemoryD.fail, vI, vB, vS, cI, cB, cS, roI, ro64, List.cons_append, List.nil_append, hpin, hpin2, go_sem, Nat.reduceAdd, Nat.reduceMul]
  refine Tri.fork sized (.one 0 true (.one 1 true (.two 2 (.one 3 false (.one 4 false (.one 5 false .done))) 3 (.one 2 false (.one 4 false (.one 5 false .done)))))) mixed (by kernel_rfl) (fun C2 hC2 => ?_)
  have hp2 : ∀ o, isPin o = false → C2.pin o = none := by rw [hC2]; exact hpin
  simp (decide := true) only [drop0, row1_length, rows_length, memB, MemoryD.fail, vI, vB, vS, cI, cB, cS, roI, ro64, List.cons_append, List.nil_append, hp2, hpin, hpin2, go_sem, Nat.reduceAdd, Nat.reduceMul]
  refine ⟨?_, ?_⟩
  all_goals
    refine aCall_det hli hp2 ?_
    cases hb2 : liveM m v.num with
    | false =>
      simp only [hb, hb1, hb2, if_true, if_false, Bool.false_eq_true] at hR; subst hR
      simp (decide := true) only [hb2, zV, valueC, drop0, row1_length, rows_length, memB, MemoryD.fail, vI, vB, vS, cI, cB, cS, roI, ro64, List.cons_append, List.nil_append, hp2, hpin, hpin2, go_sem, Nat.reduceAdd, Nat.reduceMul]
    | true =>
    simp only [hb, hb1, hb2, if_true, if_false, Bool.false_eq_true] at hR
    have hb3 : inMem m v.num = true := by unfold liveM at hb2; exact (Bool.and_eq_true_iff.1 hb2).1
    obtain ⟨n, hn0, hn⟩ := inMem_true hb3
    rw [hn0] at hR
    have hk : ((n : Int) < (m.cells.length : Int)) = True := eq_true (by omega)
    have h0 := cell_q false hn
    simp only [cB, cI] at h0
    have hs0 := cell_set0 hn
    unfold setCellAt at hs0
    have hfr := freshS_sound false (deadM m n) (cAt m.cells n).num (by simpa [deadM] using hm)
    rw [hR] at hfr
    simp only [deadM, Int.toNat_natCast, memB, cB, cI, List.cons_append, List.nil_append] at hfr
    simp (decide := true) only [hb2, hn0, hk, hn, h0, Int.toNat_natCast, Int.natCast_nonneg, drop0, row1_length, rows_length, memB, MemoryD.fail, vI, vB, vS, cI, cB, cS, roI, ro64, List.cons_append, List.nil_append, hp2, hpin, hpin2, go_sem, Nat.reduceAdd, Nat.reduceMul]
    refine Tri.step sized ?_
    refine Tri.draw sized mixed (by kernel_rfl) ?_
    simp (decide := true) only [hn0, hk, hn, h0, Int.toNat_natCast, Int.natCast_nonneg, drop0, row1_length, rows_length, memB, MemoryD.fail, vI, vB, vS, cI, cB, cS, roI, ro64, List.cons_append, List.nil_append, hp2, hpin, hpin2, go_sem, Nat.reduceAdd, Nat.reduceMul]
    refine Tri.step sized ?_
    refine Tri.fork sized (.one 0 true (.one 1 true (.one 2 true (.one 4 true (.two 3 (.one 5 false (.one 6 false (.one 7 false (.one 8 false .done)))) 5 (.one 3 false (.one 6 false (.one 7 false (.one 8 false .done))))))))) mixed (by kernel_rfl) (fun C3 hC3 => ?_)
    have hp3 : ∀ o, isPin o = false → C3.pin o = none := by rw [hC3]; exact hpin
    simp (decide := true) only [hn0, hk, hn, h0, hs0, hp3, Int.toNat_natCast, Int.natCast_nonneg, drop0, row1_length, rows_length, memB, MemoryD.fail, vI, vB, vS, cI, cB, cS, roI, ro64, List.cons_append, List.nil_append, hp2, hpin, hpin2, go_sem, Nat.reduceAdd, Nat.reduceMul]
    refine ⟨?_, ?_⟩
    all_goals
      refine code_sound sized _ ?_
      simp (decide := true) only [hn0, Int.toNat_natCast, Int.natCast_nonneg, drop0, row1_length, rows_length, memB, MemoryD.fail, vI, vB, vS, cI, cB, cS, roI, ro64, List.cons_append, List.nil_append, hpin, hpin2, go_sem, Nat.reduceAdd, Nat.reduceMul]
      refine aCall_bxdN hfr hpin [(2000, 2000)] [] [(2000, 2000)] ⟨rfl, rfl, rfl, rfl⟩ (fun uf => ?_) ?_
      · simp (decide := true) only [drop0, row1_length, rows_length, memB, MemoryD.fail, vI, vB, vS, cI, cB, cS, roI, ro64, List.cons_append, List.nil_append, hpin, hpin2, go_sem, Nat.reduceAdd, Nat.reduceMul]
      simp (decide := true) only [valueC, drop0, row1_length, rows_length, memB, MemoryD.fail, vI, vB, vS, cI, cB, cS, roI, ro64, List.cons_append, List.nil_append, hpin, hpin2, go_sem, Nat.reduceAdd, Nat.reduceMul]
theorem movedS_t_sound (m : MemoryD) (v : ValueD) (hm : m.cells.length ≤ 1048576) : SoundAtN Try.prog 40 (fun uf => argsV 0 [.ro (.bp 2000 0), .ro (valueW v)]) [(2000, .box (memB true m))]
    (fun rs st => rs = [(true, valueC false (movedM m v).2)] ∧ nowIs st.ob [(2000, .box (memB true (movedM m v).1))]) := by
  generalize hR : movedM m v = R
  unfold movedM at hR
  have hli := l09Live_sound m v hm
  simp only [memoryW, valueW] at hli
  refine sound_triN (fn := Try.f40) (c := Try.f40.body.getD .skip) (res := [.ce 4 32]) (n := 46) sized (by kernel_rfl) (by rfl) (by kernel_rfl) (by rfl) (by rfl) (by simp [argsV]) (fun uf ub C hpin hpin2 => ?_)
  simp only [Try.f40, Option.getD_some]
  refine Tri.step sized ?_
  simp (decide := true) only [valueW, drop0, row1_length, rows_length, memB, MemoryD.fail, vI, vB, vS, cI, cB, cS, roI, ro64, List.cons_append, List.nil_append, hpin, hpin2, go_sem, Nat.reduceAdd, Nat.reduceMul]
  refine Tri.step sized ?_
  cases hb : m.bad == 0 with
  | false =>
    simp only [hb, if_true, if_false, Bool.false_eq_true, Bool.true_and, Bool.false_and] at hR; subst hR
    simp (decide := true) only [hb, bne, zV, valueC, drop0, row1_length, rows_length, memB, MemoryD.fail, vI, vB, vS, cI, cB, cS, roI, ro64, List.cons_append, List.nil_append, hpin, hpin2, go_sem, Nat.reduceAdd, Nat.reduceMul]
  | true =>
  simp (decide := true) only [hb, bne, drop0, row1_length, rows_length, memB, MemoryD.fail, vI, vB, vS, cI, cB, cS, roI, ro64, List.cons_append, List.nil_append, hpin, hpin2, go_sem, Nat.reduceAdd, Nat.reduceMul]
  refine Tri.step sized ?_
  cases hb1 : v.type == 2 with
  | false =>
    simp only [hb, hb1, if_true, if_false, Bool.false_eq_true] at hR; subst hR
    simp (decide := true) only [hb, hb1, bne, valueC, drop0, row1_length, rows_length, memB, MemoryD.fail, vI, vB, vS, cI, cB, cS, roI, ro64, List.cons_append, List.nil_append, hpin, hpin2, go_sem, Nat.reduceAdd, Nat.reduceMul]
  | true =>
  simp (decide := true) only [hb, hb1, bne, drop0, row1_length, rows_length, memB, MemoryD.fail, vI, vB, vS, cI, cB, cS, roI, ro64, List.cons_append, List.nil_append, hpin, hpin2, go_sem, Nat.reduceAdd, Nat.reduceMul]
  have hho : holdsM m v = liveM m v.num := by unfold holdsM inJ; rw [eq_of_beq hb1]; simp
  rw [hho] at hli
  refine Tri.step sized ?_
  simp (decide := true) only [drop0, row1_length, rows_length, memB, MemoryD.fail, vI, vB, vS, cI, cB, cS, roI, ro64, List.cons_append, List.nil_append, hpin, hpin2, go_sem, Nat.reduceAdd, Nat.reduceMul]
  refine Tri.fork sized (.one 0 true (.one 1 true (.two 2 (.one 3 false (.one 4 false (.one 5 false .done))) 3 (.one 2 false (.one 4 false (.one 5 false .done)))))) mixed (by kernel_rfl) (fun C2 hC2 => ?_)
  have hp2 : ∀ o, isPin o = false → C2.pin o = none := by rw [hC2]; exact hpin
  simp (decide := true) only [drop0, row1_length, rows_length, memB, MemoryD.fail, vI, vB, vS, cI, cB, cS, roI, ro64, List.cons_append, List.nil_append, hp2, hpin, hpin2, go_sem, Nat.reduceAdd, Nat.reduceMul]
  refine ⟨?_, ?_⟩
  all_goals
    refine aCall_det hli hp2 ?_
    cases hb2 : liveM m v.num with
    | false =>
      simp only [hb, hb1, hb2, if_true, if_false, Bool.false_eq_true] at hR; subst hR
      simp (decide := true) only [hb2, zV, valueC, drop0, row1_length, rows_length, memB, MemoryD.fail, vI, vB, vS, cI, cB, cS, roI, ro64, List.cons_append, List.nil_append, hp2, hpin, hpin2, go_sem, Nat.reduceAdd, Nat.reduceMul]
    | true =>
    simp only [hb, hb1, hb2, if_true, if_false, Bool.false_eq_true] at hR
    have hb3 : inMem m v.num = true := by unfold liveM at hb2; exact (Bool.and_eq_true_iff.1 hb2).1
    obtain ⟨n, hn0, hn⟩ := inMem_true hb3
    rw [hn0] at hR
    have hk : ((n : Int) < (m.cells.length : Int)) = True := eq_true (by omega)
    have h0 := cell_q false hn
    simp only [cB, cI] at h0
    have hs0 := cell_set0 hn
    unfold setCellAt at hs0
    have hfr := freshS_sound true (deadM m n) (cAt m.cells n).num (by simpa [deadM] using hm)
    rw [hR] at hfr
    simp only [deadM, Int.toNat_natCast, memB, cB, cI, List.cons_append, List.nil_append] at hfr
    simp (decide := true) only [hb2, hn0, hk, hn, h0, Int.toNat_natCast, Int.natCast_nonneg, drop0, row1_length, rows_length, memB, MemoryD.fail, vI, vB, vS, cI, cB, cS, roI, ro64, List.cons_append, List.nil_append, hp2, hpin, hpin2, go_sem, Nat.reduceAdd, Nat.reduceMul]
    refine Tri.step sized ?_
    refine Tri.draw sized mixed (by kernel_rfl) ?_
    simp (decide := true) only [hn0, hk, hn, h0, Int.toNat_natCast, Int.natCast_nonneg, drop0, row1_length, rows_length, memB, MemoryD.fail, vI, vB, vS, cI, cB, cS, roI, ro64, List.cons_append, List.nil_append, hp2, hpin, hpin2, go_sem, Nat.reduceAdd, Nat.reduceMul]
    refine Tri.step sized ?_
    refine Tri.fork sized (.one 0 true (.one 1 true (.one 2 true (.one 4 true (.two 3 (.one 5 false (.one 6 false (.one 7 false (.one 8 false .done)))) 5 (.one 3 false (.one 6 false (.one 7 false (.one 8 false .done))))))))) mixed (by kernel_rfl) (fun C3 hC3 => ?_)
    have hp3 : ∀ o, isPin o = false → C3.pin o = none := by rw [hC3]; exact hpin
    simp (decide := true) only [hn0, hk, hn, h0, hs0, hp3, Int.toNat_natCast, Int.natCast_nonneg, drop0, row1_length, rows_length, memB, MemoryD.fail, vI, vB, vS, cI, cB, cS, roI, ro64, List.cons_append, List.nil_append, hp2, hpin, hpin2, go_sem, Nat.reduceAdd, Nat.reduceMul]
    refine ⟨?_, ?_⟩
    all_goals
      refine code_sound sized _ ?_
      simp (decide := true) only [hn0, Int.toNat_natCast, Int.natCast_nonneg, drop0, row1_length, rows_length, memB, MemoryD.fail, vI, vB, vS, cI, cB, cS, roI, ro64, List.cons_append, List.nil_append, hpin, hpin2, go_sem, Nat.reduceAdd, Nat.reduceMul]
      refine aCall_bxdN hfr hpin [(2000, 2000)] [] [(2000, 2000)] ⟨rfl, rfl, rfl, rfl⟩ (fun uf => ?_) ?_
      · simp (decide := true) only [drop0, row1_length, rows_length, memB, MemoryD.fail, vI, vB, vS, cI, cB, cS, roI, ro64, List.cons_append, List.nil_append, hpin, hpin2, go_sem, Nat.reduceAdd, Nat.reduceMul]
      simp (decide := true) only [valueC, drop0, row1_length, rows_length, memB, MemoryD.fail, vI, vB, vS, cI, cB, cS, roI, ro64, List.cons_append, List.nil_append, hpin, hpin2, go_sem, Nat.reduceAdd, Nat.reduceMul]
theorem movedS_sound (sh : Bool) (m : MemoryD) (v : ValueD) (hm : m.cells.length ≤ 1048576) : SoundAtN Try.prog 40 (fun uf => argsV 0 [.ro (.bp 2000 0), .ro (valueW v)]) [(2000, .box (memB sh m))]
    (fun rs st => rs = [(true, valueC false (movedM m v).2)] ∧ nowIs st.ob [(2000, .box (memB sh (movedM m v).1))]) := by
  cases sh with
  | false => exact movedS_f_sound m v hm
  | true => exact movedS_t_sound m v hm
theorem freedI_sound (sh : Bool) (m : MemoryD) (v : ValueD) (hm : m.cells.length ≤ 1048576) : SoundAtN Try.prog 50 (fun uf => argsV 0 [.ro (.bp 2000 0), .ro (valueW v)]) [(2000, .box (memB sh m))]
    (fun rs st => rs = [] ∧ nowIs st.ob [(2000, .box (memB sh (freedM m v)))]) := by
  generalize hR : freedM m v = R
  unfold freedM at hR
  have w1 : IntKind.i64.wrap ((m.cells.length : Int) - 1) = (m.cells.length : Int) - 1 := w64 (by omega) (by omega)
  have hin : (decide (0 ≤ v.num) && decide (v.num ≤ (m.cells.length : Int) - 1)) = inMem m v.num := rfl
  have hcall := in_sound v.num 0 ((m.cells.length : Int) - 1)
  rw [hin] at hcall
  refine sound_triN (fn := Try.f50) (c := Try.f50.body.getD .skip) (res := []) (n := 33) sized (by kernel_rfl) (by rfl) (by kernel_rfl) (by rfl) (by rfl) (by simp [argsV]) (fun uf ub C hpin hpin2 => ?_)
  simp only [Try.f50, Option.getD_some]
  refine Tri.step sized ?_
  simp (decide := true) only [valueW, drop0, row1_length, rows_length, memB, MemoryD.fail, vI, vB, vS, cI, cB, cS, roI, ro64, List.cons_append, List.nil_append, hpin, hpin2, go_sem, Nat.reduceAdd, Nat.reduceMul]
  refine code_sound sized _ ?_
  simp (decide := true) only [drop0, row1_length, rows_length, memB, MemoryD.fail, vI, vB, vS, cI, cB, cS, roI, ro64, List.cons_append, List.nil_append, hpin, hpin2, go_sem, Nat.reduceAdd, Nat.reduceMul]
  refine Tri.fork sized (.one 0 false (.one 1 false (.one 2 false (.one 3 false (.one 4 false (.one 5 false (.one 6 false (.one 7 false (.one 8 false (.one 9 false (.one 10 false (.one 11 true (.one 13 true (.one 14 true (.one 15 true (.two 12 (.one 16 false (.one 17 false (.one 18 false (.one 19 false (.one 20 false .done))))) 16 (.one 17 true (.one 18 true (.one 12 false (.one 19 false (.one 20 false .done))))))))))))))))))))) mixed (by kernel_rfl) (fun C2 hC2 => ?_)
  have hp2 : ∀ o, isPin o = false → C2.pin o = none := by rw [hC2]; exact hpin
  cases hb : m.bad == 0 with
  | false =>
    simp only [hb, if_true, if_false, Bool.false_eq_true, Bool.true_and, Bool.false_and] at hR; subst hR
    simp (decide := true) only [hb, w1, drop0, row1_length, rows_length, memB, MemoryD.fail, vI, vB, vS, cI, cB, cS, roI, ro64, List.cons_append, List.nil_append, hp2, hpin, hpin2, go_sem, Nat.reduceAdd, Nat.reduceMul]
  | true =>
  cases hb1 : v.type == 2 with
  | false =>
    simp only [hb, hb1, if_true, if_false, Bool.false_eq_true, Bool.true_and, Bool.false_and] at hR; subst hR
    simp (decide := true) only [hb, hb1, w1, drop0, row1_length, rows_length, memB, MemoryD.fail, vI, vB, vS, cI, cB, cS, roI, ro64, List.cons_append, List.nil_append, hp2, hpin, hpin2, go_sem, Nat.reduceAdd, Nat.reduceMul]
  | true =>
  simp (decide := true) only [hb, hb1, w1, drop0, row1_length, rows_length, memB, MemoryD.fail, vI, vB, vS, cI, cB, cS, roI, ro64, List.cons_append, List.nil_append, hp2, hpin, hpin2, go_sem, Nat.reduceAdd, Nat.reduceMul]
  refine ⟨?_, ?_⟩
  all_goals
    refine aCall_det hcall hp2 ?_
    cases hb2 : inMem m v.num with
    | false =>
      simp only [hb, hb1, hb2, if_true, if_false, Bool.false_eq_true, Bool.true_and, Bool.and_false, Bool.false_and] at hR; subst hR
      simp (decide := true) only [hb2, drop0, row1_length, rows_length, memB, MemoryD.fail, vI, vB, vS, cI, cB, cS, roI, ro64, List.cons_append, List.nil_append, hp2, hpin, hpin2, go_sem, Nat.reduceAdd, Nat.reduceMul]
    | true =>
    simp only [hb, hb1, hb2, if_true, if_false, Bool.false_eq_true, Bool.true_and, Bool.and_true] at hR
    obtain ⟨n, hn0, hn⟩ := inMem_true hb2
    rw [hn0] at hR
    have hk : ((n : Int) < (m.cells.length : Int)) = True := eq_true (by omega)
    have h0 := cell_q false hn
    simp only [cB, cI] at h0
    have hs0 := cell_set0 hn
    unfold setCellAt at hs0
    subst hR
    simp (decide := true) only [hb2, hn0, hk, hn, h0, Int.toNat_natCast, Int.natCast_nonneg, drop0, row1_length, rows_length, memB, MemoryD.fail, vI, vB, vS, cI, cB, cS, roI, ro64, List.cons_append, List.nil_append, hp2, hpin, hpin2, go_sem, Nat.reduceAdd, Nat.reduceMul]
    refine Tri.fork sized (.one 0 true (.one 1 true (.one 2 true (.one 4 true (.two 3 (.one 5 false (.one 6 false (.one 7 false (.one 8 false .done)))) 5 (.one 3 false (.one 6 false (.one 7 false (.one 8 false .done))))))))) mixed (by kernel_rfl) (fun C3 hC3 => ?_)
    have hp3 : ∀ o, isPin o = false → C3.pin o = none := by rw [hC3]; exact hpin
    simp (decide := true) only [hn0, hk, hn, h0, hs0, hp3, deadM, Int.toNat_natCast, Int.natCast_nonneg, drop0, row1_length, rows_length, memB, MemoryD.fail, vI, vB, vS, cI, cB, cS, roI, ro64, List.cons_append, List.nil_append, hp2, hpin, hpin2, go_sem, Nat.reduceAdd, Nat.reduceMul]
theorem freedS_sound (sh : Bool) (m : MemoryD) (v : ValueD) (hm : m.cells.length ≤ 1048576) : SoundAtN Try.prog 51 (fun uf => argsV 0 [.ro (.bp 2000 0), .ro (valueW v)]) [(2000, .box (memB sh m))]
    (fun rs st => rs = [] ∧ nowIs st.ob [(2000, .box (memB sh (freedM m v)))]) := by
  generalize hR : freedM m v = R
  unfold freedM at hR
  have w1 : IntKind.i64.wrap ((m.cells.length : Int) - 1) = (m.cells.length : Int) - 1 := w64 (by omega) (by omega)
  have hin : (decide (0 ≤ v.num) && decide (v.num ≤ (m.cells.length : Int) - 1)) = inMem m v.num := rfl
  have hcall := l01In_sound v.num 0 ((m.cells.length : Int) - 1)
  rw [hin] at hcall
  refine sound_triN (fn := Try.f51) (c := Try.f51.body.getD .skip) (res := []) (n := 33) sized (by kernel_rfl) (by rfl) (by kernel_rfl) (by rfl) (by rfl) (by simp [argsV]) (fun uf ub C hpin hpin2 => ?_)
  simp only [Try.f51, Option.getD_some]
  refine Tri.step sized ?_
  simp (decide := true) only [valueW, drop0, row1_length, rows_length, memB, MemoryD.fail, vI, vB, vS, cI, cB, cS, roI, ro64, List.cons_append, List.nil_append, hpin, hpin2, go_sem, Nat.reduceAdd, Nat.reduceMul]
  refine code_sound sized _ ?_
  simp (decide := true) only [drop0, row1_length, rows_length, memB, MemoryD.fail, vI, vB, vS, cI, cB, cS, roI, ro64, List.cons_append, List.nil_append, hpin, hpin2, go_sem, Nat.reduceAdd, Nat.reduceMul]
  refine Tri.fork sized (.one 0 false (.one 1 false (.one 2 false (.one 3 false (.one 4 false (.one 5 false (.one 6 false (.one 7 false (.one 8 false (.one 9 false (.one 10 false (.one 11 true (.one 13 true (.one 14 true (.one 15 true (.two 12 (.one 16 false (.one 17 false (.one 18 false (.one 19 false (.one 20 false .done))))) 16 (.one 17 true (.one 18 true (.one 12 false (.one 19 false (.one 20 false .done))))))))))))))))))))) mixed (by kernel_rfl) (fun C2 hC2 => ?_)
  have hp2 : ∀ o, isPin o = false → C2.pin o = none := by rw [hC2]; exact hpin
  cases hb : m.bad == 0 with
  | false =>
    simp only [hb, if_true, if_false, Bool.false_eq_true, Bool.true_and, Bool.false_and] at hR; subst hR
    simp (decide := true) only [hb, w1, drop0, row1_length, rows_length, memB, MemoryD.fail, vI, vB, vS, cI, cB, cS, roI, ro64, List.cons_append, List.nil_append, hp2, hpin, hpin2, go_sem, Nat.reduceAdd, Nat.reduceMul]
  | true =>
  cases hb1 : v.type == 2 with
  | false =>
    simp only [hb, hb1, if_true, if_false, Bool.false_eq_true, Bool.true_and, Bool.false_and] at hR; subst hR
    simp (decide := true) only [hb, hb1, w1, drop0, row1_length, rows_length, memB, MemoryD.fail, vI, vB, vS, cI, cB, cS, roI, ro64, List.cons_append, List.nil_append, hp2, hpin, hpin2, go_sem, Nat.reduceAdd, Nat.reduceMul]
  | true =>
  simp (decide := true) only [hb, hb1, w1, drop0, row1_length, rows_length, memB, MemoryD.fail, vI, vB, vS, cI, cB, cS, roI, ro64, List.cons_append, List.nil_append, hp2, hpin, hpin2, go_sem, Nat.reduceAdd, Nat.reduceMul]
  refine ⟨?_, ?_⟩
  all_goals
    refine aCall_det hcall hp2 ?_
    cases hb2 : inMem m v.num with
    | false =>
      simp only [hb, hb1, hb2, if_true, if_false, Bool.false_eq_true, Bool.true_and, Bool.and_false, Bool.false_and] at hR; subst hR
      simp (decide := true) only [hb2, drop0, row1_length, rows_length, memB, MemoryD.fail, vI, vB, vS, cI, cB, cS, roI, ro64, List.cons_append, List.nil_append, hp2, hpin, hpin2, go_sem, Nat.reduceAdd, Nat.reduceMul]
    | true =>
    simp only [hb, hb1, hb2, if_true, if_false, Bool.false_eq_true, Bool.true_and, Bool.and_true] at hR
    obtain ⟨n, hn0, hn⟩ := inMem_true hb2
    rw [hn0] at hR
    have hk : ((n : Int) < (m.cells.length : Int)) = True := eq_true (by omega)
    have h0 := cell_q false hn
    simp only [cB, cI] at h0
    have hs0 := cell_set0 hn
    unfold setCellAt at hs0
    subst hR
    simp (decide := true) only [hb2, hn0, hk, hn, h0, Int.toNat_natCast, Int.natCast_nonneg, drop0, row1_length, rows_length, memB, MemoryD.fail, vI, vB, vS, cI, cB, cS, roI, ro64, List.cons_append, List.nil_append, hp2, hpin, hpin2, go_sem, Nat.reduceAdd, Nat.reduceMul]
    refine Tri.fork sized (.one 0 true (.one 1 true (.one 2 true (.one 4 true (.two 3 (.one 5 false (.one 6 false (.one 7 false (.one 8 false .done)))) 5 (.one 3 false (.one 6 false (.one 7 false (.one 8 false .done))))))))) mixed (by kernel_rfl) (fun C3 hC3 => ?_)
    have hp3 : ∀ o, isPin o = false → C3.pin o = none := by rw [hC3]; exact hpin
    simp (decide := true) only [hn0, hk, hn, h0, hs0, hp3, deadM, Int.toNat_natCast, Int.natCast_nonneg, drop0, row1_length, rows_length, memB, MemoryD.fail, vI, vB, vS, cI, cB, cS, roI, ro64, List.cons_append, List.nil_append, hp2, hpin, hpin2, go_sem, Nat.reduceAdd, Nat.reduceMul]
def holdM (m : MemoryD) (v : ValueD) : Bool × MemoryD := if m.bad == 0 then (if holdsM m v then (true, m) else (false, m.fail 5)) else (false, m)
theorem holdI_sound (sh : Bool) (m : MemoryD) (v : ValueD) (hm : m.cells.length ≤ 1048576) : SoundAtN Try.prog 62 (fun uf => argsV 0 [.ro (.bp 2000 0), .ro (valueW v)]) [(2000, .box (memB sh m))]
    (fun rs st => rs = [(false, [cB (holdM m v).1])] ∧ nowIs st.ob [(2000, .box (memB sh (holdM m v).2))]) := by
  generalize hR : holdM m v = R
  unfold holdM holdsM at hR
  have hli := liveI_sound sh m v.num hm
  simp only [memB, cB, cI, List.cons_append, List.nil_append] at hli
  have hin2 : (decide (2 ≤ v.type) && decide (v.type ≤ 4)) = inJ v.type 2 4 := rfl
  refine sound_triN (fn := Try.f62) (c := Try.f62.body.getD .skip) (res := [.tm 4]) (n := 24) sized (by kernel_rfl) (by rfl) (by kernel_rfl) (by rfl) (by rfl) (by simp [argsV]) (fun uf ub C hpin hpin2 => ?_)
  simp only [Try.f62, Option.getD_some]
  refine Tri.step sized ?_
  simp (decide := true) only [valueW, drop0, row1_length, rows_length, memB, MemoryD.fail, vI, vB, vS, cI, cB, cS, roI, ro64, List.cons_append, List.nil_append, hpin, hpin2, go_sem, Nat.reduceAdd, Nat.reduceMul]
  refine Tri.step sized ?_
  cases hb : m.bad == 0 with
  | false =>
    simp only [hb, if_true, if_false, Bool.false_eq_true, Bool.true_and, Bool.false_and] at hR; subst hR
    simp (decide := true) only [hb, bne, drop0, row1_length, rows_length, memB, MemoryD.fail, vI, vB, vS, cI, cB, cS, roI, ro64, List.cons_append, List.nil_append, hpin, hpin2, go_sem, Nat.reduceAdd, Nat.reduceMul]
  | true =>
  simp (decide := true) only [hb, bne, drop0, row1_length, rows_length, memB, MemoryD.fail, vI, vB, vS, cI, cB, cS, roI, ro64, List.cons_append, List.nil_append, hpin, hpin2, go_sem, Nat.reduceAdd, Nat.reduceMul]
  refine Tri.step sized ?_
  simp (decide := true) only [drop0, row1_length, rows_length, memB, MemoryD.fail, vI, vB, vS, cI, cB, cS, roI, ro64, List.cons_append, List.nil_append, hpin, hpin2, go_sem, Nat.reduceAdd, Nat.reduceMul]
  refine aCall_det (in_sound v.type 2 4) hpin ?_
  rw [hin2]
  cases hb1 : inJ v.type 2 4 with
  | false =>
    simp only [hb, hb1, if_true, if_false, Bool.false_eq_true, Bool.true_and, Bool.false_and] at hR; subst hR
    simp (decide := true) only [hb1, drop0, row1_length, rows_length, memB, MemoryD.fail, vI, vB, vS, cI, cB, cS, roI, ro64, List.cons_append, List.nil_append, hpin, hpin2, go_sem, Nat.reduceAdd, Nat.reduceMul]
  | true =>
  simp (decide := true) only [hb1, drop0, row1_length, rows_length, memB, MemoryD.fail, vI, vB, vS, cI, cB, cS, roI, ro64, List.cons_append, List.nil_append, hpin, hpin2, go_sem, Nat.reduceAdd, Nat.reduceMul]
  refine aCall_bxdN hli hpin [(2000, 2000)] [] [(2000, 2000)] ⟨rfl, rfl, rfl, rfl⟩ (fun uf => ?_) ?_
  · simp (decide := true) only [drop0, row1_length, rows_length, memB, MemoryD.fail, vI, vB, vS, cI, cB, cS, roI, ro64, List.cons_append, List.nil_append, hpin, hpin2, go_sem, Nat.reduceAdd, Nat.reduceMul]
  cases hb2 : liveM m v.num with
  | false =>
    simp only [hb, hb1, hb2, if_true, if_false, Bool.false_eq_true, Bool.true_and, Bool.false_and] at hR; subst hR
    simp (decide := true) only [hb2, drop0, row1_length, rows_length, memB, MemoryD.fail, vI, vB, vS, cI, cB, cS, roI, ro64, List.cons_append, List.nil_append, hpin, hpin2, go_sem, Nat.reduceAdd, Nat.reduceMul]
  | true =>
  simp only [hb, hb1, hb2, if_true, if_false, Bool.false_eq_true, Bool.true_and, Bool.false_and] at hR; subst hR
  simp (decide := true) only [hb2, drop0, row1_length, rows_length, memB, MemoryD.fail, vI, vB, vS, cI, cB, cS, roI, ro64, List.cons_append, List.nil_append, hpin, hpin2, go_sem, Nat.reduceAdd, Nat.reduceMul]
  refine code_sound sized _ ?_
  simp (decide := true) only [drop0, row1_length, rows_length, memB, MemoryD.fail, vI, vB, vS, cI, cB, cS, roI, ro64, List.cons_append, List.nil_append, hpin, hpin2, go_sem, Nat.reduceAdd, Nat.reduceMul]
theorem holds_cell {m : MemoryD} {v : ValueD} (h : holdsM m v = true) : ∃ n : Nat, v.num = n ∧ n < m.cells.length := by
  unfold holdsM liveM at h
  exact inMem_true (Bool.and_eq_true_iff.1 (Bool.and_eq_true_iff.1 h).2).1
theorem lookedI_sound (sh : Bool) (m : MemoryD) (v : ValueD) (hm : m.cells.length ≤ 1048576) : SoundAtN Try.prog 41 (fun uf => argsV 0 [.ro (.bp 2000 0), .ro (valueW v)]) [(2000, .box (memB sh m))]
    (fun rs st => rs = [(false, [cI (lookedM m v).2])] ∧ nowIs st.ob [(2000, .box (memB sh (lookedM m v).1))]) := by
  generalize hR : lookedM m v = R
  unfold lookedM at hR
  have hho := holdI_sound sh m v hm
  unfold holdM at hho
  refine sound_triN (fn := Try.f41) (c := Try.f41.body.getD .skip) (res := [.tm 4]) (n := 18) sized (by kernel_rfl) (by rfl) (by kernel_rfl) (by rfl) (by rfl) (by simp [argsV]) (fun uf ub C hpin hpin2 => ?_)
  simp only [Try.f41, Option.getD_some]
  refine Tri.step sized ?_
  simp (decide := true) only [valueW, drop0, row1_length, rows_length, memB, MemoryD.fail, vI, vB, vS, cI, cB, cS, roI, ro64, List.cons_append, List.nil_append, hpin, hpin2, go_sem, Nat.reduceAdd, Nat.reduceMul]
  refine Tri.step sized ?_
  cases hb : m.bad == 0 with
  | false =>
    simp only [hb, if_true, if_false, Bool.false_eq_true, Bool.true_and, Bool.false_and] at hR; subst hR
    simp only [hb, if_true, if_false, Bool.false_eq_true, memB, valueW, MemoryD.fail, cB, cI, List.cons_append, List.nil_append] at hho
    simp (decide := true) only [hb, drop0, row1_length, rows_length, memB, MemoryD.fail, vI, vB, vS, cI, cB, cS, roI, ro64, List.cons_append, List.nil_append, hpin, hpin2, go_sem, Nat.reduceAdd, Nat.reduceMul]
    refine aCall_bxdN hho hpin [(2000, 2000)] [] [(2000, 2000)] ⟨rfl, rfl, rfl, rfl⟩ (fun uf => ?_) ?_
    · simp (decide := true) only [drop0, row1_length, rows_length, memB, MemoryD.fail, vI, vB, vS, cI, cB, cS, roI, ro64, List.cons_append, List.nil_append, hpin, hpin2, go_sem, Nat.reduceAdd, Nat.reduceMul]
    simp (decide := true) only [drop0, row1_length, rows_length, memB, MemoryD.fail, vI, vB, vS, cI, cB, cS, roI, ro64, List.cons_append, List.nil_append, hpin, hpin2, go_sem, Nat.reduceAdd, Nat.reduceMul]
  | true =>
  cases hb1 : holdsM m v with
  | false =>
    simp only [hb, hb1, if_true, if_false, Bool.false_eq_true] at hR; subst hR
    simp only [hb, hb1, if_true, if_false, Bool.false_eq_true, memB, valueW, MemoryD.fail, cB, cI, List.cons_append, List.nil_append] at hho
    simp (decide := true) only [hb, drop0, row1_length, rows_length, memB, MemoryD.fail, vI, vB, vS, cI, cB, cS, roI, ro64, List.cons_append, List.nil_append, hpin, hpin2, go_sem, Nat.reduceAdd, Nat.reduceMul]
    refine aCall_bxdN hho hpin [(2000, 2000)] [] [(2000, 2000)] ⟨rfl, rfl, rfl, rfl⟩ (fun uf => ?_) ?_
    · simp (decide := true) only [drop0, row1_length, rows_length, memB, MemoryD.fail, vI, vB, vS, cI, cB, cS, roI, ro64, List.cons_append, List.nil_append, hpin, hpin2, go_sem, Nat.reduceAdd, Nat.reduceMul]
    simp (decide := true) only [drop0, row1_length, rows_length, memB, MemoryD.fail, vI, vB, vS, cI, cB, cS, roI, ro64, List.cons_append, List.nil_append, hpin, hpin2, go_sem, Nat.reduceAdd, Nat.reduceMul]
  | true =>
  obtain ⟨n, hn0, hn⟩ := holds_cell hb1
  simp only [hb, hb1, hn0, if_true, Int.toNat_natCast] at hR; subst hR
  simp only [hb, hb1, if_true, memB, valueW, MemoryD.fail, cB, cI, List.cons_append, List.nil_append] at hho
  have hk : ((n : Int) < (m.cells.length : Int)) = True := eq_true (by omega)
  have h0 := cell_q false hn
  simp only [cB, cI] at h0
  simp (decide := true) only [hb, drop0, row1_length, rows_length, memB, MemoryD.fail, vI, vB, vS, cI, cB, cS, roI, ro64, List.cons_append, List.nil_append, hpin, hpin2, go_sem, Nat.reduceAdd, Nat.reduceMul]
  refine aCall_bxdN hho hpin [(2000, 2000)] [] [(2000, 2000)] ⟨rfl, rfl, rfl, rfl⟩ (fun uf => ?_) ?_
  · simp (decide := true) only [drop0, row1_length, rows_length, memB, MemoryD.fail, vI, vB, vS, cI, cB, cS, roI, ro64, List.cons_append, List.nil_append, hpin, hpin2, go_sem, Nat.reduceAdd, Nat.reduceMul]
  simp (decide := true) only [hn0, drop0, row1_length, rows_length, memB, MemoryD.fail, vI, vB, vS, cI, cB, cS, roI, ro64, List.cons_append, List.nil_append, hpin, hpin2, go_sem, Nat.reduceAdd, Nat.reduceMul]
  refine Tri.step sized ?_
  refine Tri.draw sized mixed (by kernel_rfl) ?_
  simp (decide := true) only [hn0, hk, hn, h0, Int.toNat_natCast, Int.natCast_nonneg, drop0, row1_length, rows_length, memB, MemoryD.fail, vI, vB, vS, cI, cB, cS, roI, ro64, List.cons_append, List.nil_append, hpin, hpin2, go_sem, Nat.reduceAdd, Nat.reduceMul]
  refine code_sound sized _ ?_
  simp (decide := true) only [drop0, row1_length, rows_length, memB, MemoryD.fail, vI, vB, vS, cI, cB, cS, roI, ro64, List.cons_append, List.nil_append, hpin, hpin2, go_sem, Nat.reduceAdd, Nat.reduceMul]
theorem writtenI_sound (sh : Bool) (m : MemoryD) (v : ValueD) (n1 : Int) (hm : m.cells.length ≤ 1048576) : SoundAtN Try.prog 52 (fun uf => argsV 0 [.ro (.bp 2000 0), .ro (valueW v), .ro (.sc (.int .i64 n1))]) [(2000, .box (memB sh m))]
    (fun rs st => rs = [] ∧ nowIs st.ob [(2000, .box (memB sh (writtenM m v n1)))]) := by
  generalize hR : writtenM m v n1 = R
  unfold writtenM at hR
  have hho := holdI_sound sh m v hm
  unfold holdM at hho
  refine sound_triN (fn := Try.f52) (c := Try.f52.body.getD .skip) (res := []) (n := 18) sized (by kernel_rfl) (by rfl) (by kernel_rfl) (by rfl) (by rfl) (by simp [argsV]) (fun uf ub C hpin hpin2 => ?_)
  simp only [Try.f52, Option.getD_some]
  refine Tri.step sized ?_
  simp (decide := true) only [valueW, drop0, row1_length, rows_length, memB, MemoryD.fail, vI, vB, vS, cI, cB, cS, roI, ro64, List.cons_append, List.nil_append, hpin, hpin2, go_sem, Nat.reduceAdd, Nat.reduceMul]
  refine code_sound sized _ ?_
  cases hb : m.bad == 0 with
  | false =>
    simp only [hb, if_true, if_false, Bool.false_eq_true, Bool.true_and, Bool.false_and] at hR; subst hR
    simp only [hb, if_true, if_false, Bool.false_eq_true, memB, valueW, MemoryD.fail, cB, cI, List.cons_append, List.nil_append] at hho
    simp (decide := true) only [hb, drop0, row1_length, rows_length, memB, MemoryD.fail, vI, vB, vS, cI, cB, cS, roI, ro64, List.cons_append, List.nil_append, hpin, hpin2, go_sem, Nat.reduceAdd, Nat.reduceMul]
    refine aCall_bxdN hho hpin [(2000, 2000)] [] [(2000, 2000)] ⟨rfl, rfl, rfl, rfl⟩ (fun uf => ?_) ?_
    · simp (decide := true) only [drop0, row1_length, rows_length, memB, MemoryD.fail, vI, vB, vS, cI, cB, cS, roI, ro64, List.cons_append, List.nil_append, hpin, hpin2, go_sem, Nat.reduceAdd, Nat.reduceMul]
    simp (decide := true) only [drop0, row1_length, rows_length, memB, MemoryD.fail, vI, vB, vS, cI, cB, cS, roI, ro64, List.cons_append, List.nil_append, hpin, hpin2, go_sem, Nat.reduceAdd, Nat.reduceMul]
  | true =>
  cases hb1 : holdsM m v with
  | false =>
    simp only [hb, hb1, if_true, if_false, Bool.false_eq_true] at hR; subst hR
    simp only [hb, hb1, if_true, if_false, Bool.false_eq_true, memB, valueW, MemoryD.fail, cB, cI, List.cons_append, List.nil_append] at hho
    simp (decide := true) only [hb, drop0, row1_length, rows_length, memB, MemoryD.fail, vI, vB, vS, cI, cB, cS, roI, ro64, List.cons_append, List.nil_append, hpin, hpin2, go_sem, Nat.reduceAdd, Nat.reduceMul]
    refine aCall_bxdN hho hpin [(2000, 2000)] [] [(2000, 2000)] ⟨rfl, rfl, rfl, rfl⟩ (fun uf => ?_) ?_
    · simp (decide := true) only [drop0, row1_length, rows_length, memB, MemoryD.fail, vI, vB, vS, cI, cB, cS, roI, ro64, List.cons_append, List.nil_append, hpin, hpin2, go_sem, Nat.reduceAdd, Nat.reduceMul]
    simp (decide := true) only [drop0, row1_length, rows_length, memB, MemoryD.fail, vI, vB, vS, cI, cB, cS, roI, ro64, List.cons_append, List.nil_append, hpin, hpin2, go_sem, Nat.reduceAdd, Nat.reduceMul]
  | true =>
  obtain ⟨n, hn0, hn⟩ := holds_cell hb1
  simp only [hb, hb1, hn0, if_true, Int.toNat_natCast] at hR; subst hR
  simp only [hb, hb1, if_true, memB, valueW, MemoryD.fail, cB, cI, List.cons_append, List.nil_append] at hho
  have hk : ((n : Int) < (m.cells.length : Int)) = True := eq_true (by omega)
  have h0 := cell_q false hn
  simp only [cB, cI] at h0
  have hs1 := cell_set1 n1 hn
  unfold setCellAt at hs1
  simp (decide := true) only [hb, drop0, row1_length, rows_length, memB, MemoryD.fail, vI, vB, vS, cI, cB, cS, roI, ro64, List.cons_append, List.nil_append, hpin, hpin2, go_sem, Nat.reduceAdd, Nat.reduceMul]
  refine aCall_bxdN hho hpin [(2000, 2000)] [] [(2000, 2000)] ⟨rfl, rfl, rfl, rfl⟩ (fun uf => ?_) ?_
  · simp (decide := true) only [drop0, row1_length, rows_length, memB, MemoryD.fail, vI, vB, vS, cI, cB, cS, roI, ro64, List.cons_append, List.nil_append, hpin, hpin2, go_sem, Nat.reduceAdd, Nat.reduceMul]
  simp (decide := true) only [hn0, drop0, row1_length, rows_length, memB, MemoryD.fail, vI, vB, vS, cI, cB, cS, roI, ro64, List.cons_append, List.nil_append, hpin, hpin2, go_sem, Nat.reduceAdd, Nat.reduceMul]
  refine Tri.fork sized (.one 0 true (.one 1 true (.one 2 true (.one 4 true (.one 6 true (.two 3 (.one 5 false (.one 7 false (.one 8 false (.one 9 false .done)))) 5 (.one 3 false (.one 7 false (.one 8 false (.one 9 false .done)))))))))) mixed (by kernel_rfl) (fun C3 hC3 => ?_)
  have hp3 : ∀ o, isPin o = false → C3.pin o = none := by rw [hC3]; exact hpin
  simp (decide := true) only [hn0, hk, hn, h0, hs1, hp3, Int.toNat_natCast, Int.natCast_nonneg, drop0, row1_length, rows_length, memB, MemoryD.fail, vI, vB, vS, cI, cB, cS, roI, ro64, List.cons_append, List.nil_append, hpin, hpin2, go_sem, Nat.reduceAdd, Nat.reduceMul]
theorem lookedS_f_sound (m : MemoryD) (v : ValueD) (hm : m.cells.length ≤ 1048576) : SoundAtN Try.prog 42 (fun uf => argsV 0 [.ro (.bp 2000 0), .ro (valueW v)]) [(2000, .box (memB false m))]
    (fun rs st => rs = [(false, [cI (lookedM m v).2])] ∧ nowIs st.ob [(2000, .box (memB false (lookedM m v).1))]) := by
  generalize hR : lookedM m v = R
  unfold lookedM at hR
  have hli := l09Live_sound m v hm
  simp only [memoryW, valueW] at hli
  refine sound_triN (fn := Try.f42) (c := Try.f42.body.getD .skip) (res := [.tm 4]) (n := 28) sized (by kernel_rfl) (by rfl) (by kernel_rfl) (by rfl) (by rfl) (by simp [argsV]) (fun uf ub C hpin hpin2 => ?_)
  simp only [Try.f42, Option.getD_some]
  refine Tri.step sized ?_
  simp (decide := true) only [valueW, drop0, row1_length, rows_length, memB, MemoryD.fail, vI, vB, vS, cI, cB, cS, roI, ro64, List.cons_append, List.nil_append, hpin, hpin2, go_sem, Nat.reduceAdd, Nat.reduceMul]
  refine Tri.step sized ?_
  cases hb : m.bad == 0 with
  | false =>
    simp only [hb, if_true, if_false, Bool.false_eq_true, Bool.true_and, Bool.false_and] at hR; subst hR
    simp (decide := true) only [hb, bne, drop0, row1_length, rows_length, memB, MemoryD.fail, vI, vB, vS, cI, cB, cS, roI, ro64, List.cons_append, List.nil_append, hpin, hpin2, go_sem, Nat.reduceAdd, Nat.reduceMul]
  | true =>
  simp (decide := true) only [hb, bne, drop0, row1_length, rows_length, memB, MemoryD.fail, vI, vB, vS, cI, cB, cS, roI, ro64, List.cons_append, List.nil_append, hpin, hpin2, go_sem, Nat.reduceAdd, Nat.reduceMul]
  refine Tri.step sized ?_
  simp (decide := true) only [drop0, row1_length, rows_length, memB, MemoryD.fail, vI, vB, vS, cI, cB, cS, roI, ro64, List.cons_append, List.nil_append, hpin, hpin2, go_sem, Nat.reduceAdd, Nat.reduceMul]
  refine Tri.fork sized (.one 0 true (.one 1 true (.two 2 (.one 3 false (.one 4 false (.one 5 false .done))) 3 (.one 2 false (.one 4 false (.one 5 false .done)))))) mixed (by kernel_rfl) (fun C2 hC2 => ?_)
  have hp2 : ∀ o, isPin o = false → C2.pin o = none := by rw [hC2]; exact hpin
  simp (decide := true) only [drop0, row1_length, rows_length, memB, MemoryD.fail, vI, vB, vS, cI, cB, cS, roI, ro64, List.cons_append, List.nil_append, hp2, hpin, hpin2, go_sem, Nat.reduceAdd, Nat.reduceMul]
  refine ⟨?_, ?_⟩
  all_goals
    refine aCall_det hli hp2 ?_
    cases hb1 : holdsM m v with
    | false =>
      simp only [hb, hb1, if_true, if_false, Bool.false_eq_true] at hR; subst hR
      simp (decide := true) only [hb1, drop0, row1_length, rows_length, memB, MemoryD.fail, vI, vB, vS, cI, cB, cS, roI, ro64, List.cons_append, List.nil_append, hp2, hpin, hpin2, go_sem, Nat.reduceAdd, Nat.reduceMul]
    | true =>
    obtain ⟨n, hn0, hn⟩ := holds_cell hb1
    simp only [hb, hb1, hn0, if_true, Int.toNat_natCast] at hR; subst hR
    have hk : ((n : Int) < (m.cells.length : Int)) = True := eq_true (by omega)
    have h0 := cell_q false hn
    simp only [cB, cI] at h0
    simp (decide := true) only [hb1, hn0, drop0, row1_length, rows_length, memB, MemoryD.fail, vI, vB, vS, cI, cB, cS, roI, ro64, List.cons_append, List.nil_append, hp2, hpin, hpin2, go_sem, Nat.reduceAdd, Nat.reduceMul]
    refine Tri.step sized ?_
    refine Tri.draw sized mixed (by kernel_rfl) ?_
    simp (decide := true) only [hn0, hk, hn, h0, Int.toNat_natCast, Int.natCast_nonneg, drop0, row1_length, rows_length, memB, MemoryD.fail, vI, vB, vS, cI, cB, cS, roI, ro64, List.cons_append, List.nil_append, hpin, hpin2, go_sem, Nat.reduceAdd, Nat.reduceMul]
    refine code_sound sized _ ?_
    simp (decide := true) only [drop0, row1_length, rows_length, memB, MemoryD.fail, vI, vB, vS, cI, cB, cS, roI, ro64, List.cons_append, List.nil_append, hpin, hpin2, go_sem, Nat.reduceAdd, Nat.reduceMul]
theorem lookedS_t_sound (m : MemoryD) (v : ValueD) (hm : m.cells.length ≤ 1048576) : SoundAtN Try.prog 42 (fun uf => argsV 0 [.ro (.bp 2000 0), .ro (valueW v)]) [(2000, .box (memB true m))]
    (fun rs st => rs = [(false, [cI (lookedM m v).2])] ∧ nowIs st.ob [(2000, .box (memB true (lookedM m v).1))]) := by
  generalize hR : lookedM m v = R
  unfold lookedM at hR
  have hli := l09Live_sound m v hm
  simp only [memoryW, valueW] at hli
  refine sound_triN (fn := Try.f42) (c := Try.f42.body.getD .skip) (res := [.tm 4]) (n := 28) sized (by kernel_rfl) (by rfl) (by kernel_rfl) (by rfl) (by rfl) (by simp [argsV]) (fun uf ub C hpin hpin2 => ?_)
  simp only [Try.f42, Option.getD_some]
  refine Tri.step sized ?_
  simp (decide := true) only [valueW, drop0, row1_length, rows_length, memB, MemoryD.fail, vI, vB, vS, cI, cB, cS, roI, ro64, List.cons_append, List.nil_append, hpin, hpin2, go_sem, Nat.reduceAdd, Nat.reduceMul]
  refine Tri.step sized ?_
  cases hb : m.bad == 0 with
  | false =>
    simp only [hb, if_true, if_false, Bool.false_eq_true, Bool.true_and, Bool.false_and] at hR; subst hR
    simp (decide := true) only [hb, bne, drop0, row1_length, rows_length, memB, MemoryD.fail, vI, vB, vS, cI, cB, cS, roI, ro64, List.cons_append, List.nil_append, hpin, hpin2, go_sem, Nat.reduceAdd, Nat.reduceMul]
  | true =>
  simp (decide := true) only [hb, bne, drop0, row1_length, rows_length, memB, MemoryD.fail, vI, vB, vS, cI, cB, cS, roI, ro64, List.cons_append, List.nil_append, hpin, hpin2, go_sem, Nat.reduceAdd, Nat.reduceMul]
  refine Tri.step sized ?_
  simp (decide := true) only [drop0, row1_length, rows_length, memB, MemoryD.fail, vI, vB, vS, cI, cB, cS, roI, ro64, List.cons_append, List.nil_append, hpin, hpin2, go_sem, Nat.reduceAdd, Nat.reduceMul]
  refine Tri.fork sized (.one 0 true (.one 1 true (.two 2 (.one 3 false (.one 4 false (.one 5 false .done))) 3 (.one 2 false (.one 4 false (.one 5 false .done)))))) mixed (by kernel_rfl) (fun C2 hC2 => ?_)
  have hp2 : ∀ o, isPin o = false → C2.pin o = none := by rw [hC2]; exact hpin
  simp (decide := true) only [drop0, row1_length, rows_length, memB, MemoryD.fail, vI, vB, vS, cI, cB, cS, roI, ro64, List.cons_append, List.nil_append, hp2, hpin, hpin2, go_sem, Nat.reduceAdd, Nat.reduceMul]
  refine ⟨?_, ?_⟩
  all_goals
    refine aCall_det hli hp2 ?_
    cases hb1 : holdsM m v with
    | false =>
      simp only [hb, hb1, if_true, if_false, Bool.false_eq_true] at hR; subst hR
      simp (decide := true) only [hb1, drop0, row1_length, rows_length, memB, MemoryD.fail, vI, vB, vS, cI, cB, cS, roI, ro64, List.cons_append, List.nil_append, hp2, hpin, hpin2, go_sem, Nat.reduceAdd, Nat.reduceMul]
    | true =>
    obtain ⟨n, hn0, hn⟩ := holds_cell hb1
    simp only [hb, hb1, hn0, if_true, Int.toNat_natCast] at hR; subst hR
    have hk : ((n : Int) < (m.cells.length : Int)) = True := eq_true (by omega)
    have h0 := cell_q false hn
    simp only [cB, cI] at h0
    simp (decide := true) only [hb1, hn0, drop0, row1_length, rows_length, memB, MemoryD.fail, vI, vB, vS, cI, cB, cS, roI, ro64, List.cons_append, List.nil_append, hp2, hpin, hpin2, go_sem, Nat.reduceAdd, Nat.reduceMul]
    refine Tri.step sized ?_
    refine Tri.draw sized mixed (by kernel_rfl) ?_
    simp (decide := true) only [hn0, hk, hn, h0, Int.toNat_natCast, Int.natCast_nonneg, drop0, row1_length, rows_length, memB, MemoryD.fail, vI, vB, vS, cI, cB, cS, roI, ro64, List.cons_append, List.nil_append, hpin, hpin2, go_sem, Nat.reduceAdd, Nat.reduceMul]
    refine code_sound sized _ ?_
    simp (decide := true) only [drop0, row1_length, rows_length, memB, MemoryD.fail, vI, vB, vS, cI, cB, cS, roI, ro64, List.cons_append, List.nil_append, hpin, hpin2, go_sem, Nat.reduceAdd, Nat.reduceMul]
theorem lookedS_sound (sh : Bool) (m : MemoryD) (v : ValueD) (hm : m.cells.length ≤ 1048576) : SoundAtN Try.prog 42 (fun uf => argsV 0 [.ro (.bp 2000 0), .ro (valueW v)]) [(2000, .box (memB sh m))]
    (fun rs st => rs = [(false, [cI (lookedM m v).2])] ∧ nowIs st.ob [(2000, .box (memB sh (lookedM m v).1))]) := by
  cases sh with
  | false => exact lookedS_f_sound m v hm
  | true => exact lookedS_t_sound m v hm
theorem writtenS_f_sound (m : MemoryD) (v : ValueD) (n1 : Int) (hm : m.cells.length ≤ 1048576) : SoundAtN Try.prog 53 (fun uf => argsV 0 [.ro (.bp 2000 0), .ro (valueW v), .ro (.sc (.int .i64 n1))]) [(2000, .box (memB false m))]
    (fun rs st => rs = [] ∧ nowIs st.ob [(2000, .box (memB false (writtenM m v n1)))]) := by
  generalize hR : writtenM m v n1 = R
  unfold writtenM at hR
  have hli := l09Live_sound m v hm
  simp only [memoryW, valueW] at hli
  refine sound_triN (fn := Try.f53) (c := Try.f53.body.getD .skip) (res := []) (n := 29) sized (by kernel_rfl) (by rfl) (by kernel_rfl) (by rfl) (by rfl) (by simp [argsV]) (fun uf ub C hpin hpin2 => ?_)
  simp only [Try.f53, Option.getD_some]
  refine Tri.step sized ?_
  simp (decide := true) only [valueW, drop0, row1_length, rows_length, memB, MemoryD.fail, vI, vB, vS, cI, cB, cS, roI, ro64, List.cons_append, List.nil_append, hpin, hpin2, go_sem, Nat.reduceAdd, Nat.reduceMul]
  refine Tri.step sized ?_
  cases hb : m.bad == 0 with
  | false =>
    simp only [hb, if_true, if_false, Bool.false_eq_true, Bool.true_and, Bool.false_and] at hR; subst hR
    simp (decide := true) only [hb, bne, drop0, row1_length, rows_length, memB, MemoryD.fail, vI, vB, vS, cI, cB, cS, roI, ro64, List.cons_append, List.nil_append, hpin, hpin2, go_sem, Nat.reduceAdd, Nat.reduceMul]
  | true =>
  simp (decide := true) only [hb, bne, drop0, row1_length, rows_length, memB, MemoryD.fail, vI, vB, vS, cI, cB, cS, roI, ro64, List.cons_append, List.nil_append, hpin, hpin2, go_sem, Nat.reduceAdd, Nat.reduceMul]
  refine Tri.step sized ?_
  simp (decide := true) only [drop0, row1_length, rows_length, memB, MemoryD.fail, vI, vB, vS, cI, cB, cS, roI, ro64, List.cons_append, List.nil_append, hpin, hpin2, go_sem, Nat.reduceAdd, Nat.reduceMul]
  refine Tri.fork sized (.one 0 true (.one 1 true (.two 2 (.one 3 false (.one 4 false (.one 5 false .done))) 3 (.one 2 false (.one 4 false (.one 5 false .done)))))) mixed (by kernel_rfl) (fun C2 hC2 => ?_)
  have hp2 : ∀ o, isPin o = false → C2.pin o = none := by rw [hC2]; exact hpin
  simp (decide := true) only [drop0, row1_length, rows_length, memB, MemoryD.fail, vI, vB, vS, cI, cB, cS, roI, ro64, List.cons_append, List.nil_append, hp2, hpin, hpin2, go_sem, Nat.reduceAdd, Nat.reduceMul]
  refine ⟨?_, ?_⟩
  all_goals
    refine aCall_det hli hp2 ?_
    cases hb1 : holdsM m v with
    | false =>
      simp only [hb, hb1, if_true, if_false, Bool.false_eq_true] at hR; subst hR
      simp (decide := true) only [hb1, drop0, row1_length, rows_length, memB, MemoryD.fail, vI, vB, vS, cI, cB, cS, roI, ro64, List.cons_append, List.nil_append, hp2, hpin, hpin2, go_sem, Nat.reduceAdd, Nat.reduceMul]
    | true =>
    obtain ⟨n, hn0, hn⟩ := holds_cell hb1
    simp only [hb, hb1, hn0, if_true, Int.toNat_natCast] at hR; subst hR
    have hk : ((n : Int) < (m.cells.length : Int)) = True := eq_true (by omega)
    have h0 := cell_q false hn
    simp only [cB, cI] at h0
    have hs1 := cell_set1 n1 hn
    unfold setCellAt at hs1
    simp (decide := true) only [hb1, hn0, drop0, row1_length, rows_length, memB, MemoryD.fail, vI, vB, vS, cI, cB, cS, roI, ro64, List.cons_append, List.nil_append, hp2, hpin, hpin2, go_sem, Nat.reduceAdd, Nat.reduceMul]
    refine Tri.fork sized (.one 0 true (.one 1 true (.one 2 true (.one 4 true (.one 6 true (.two 3 (.one 5 false (.one 7 false (.one 8 false (.one 9 false .done)))) 5 (.one 3 false (.one 7 false (.one 8 false (.one 9 false .done)))))))))) mixed (by kernel_rfl) (fun C3 hC3 => ?_)
    have hp3 : ∀ o, isPin o = false → C3.pin o = none := by rw [hC3]; exact hpin
    simp (decide := true) only [hn0, hk, hn, h0, hs1, hp3, Int.toNat_natCast, Int.natCast_nonneg, drop0, row1_length, rows_length, memB, MemoryD.fail, vI, vB, vS, cI, cB, cS, roI, ro64, List.cons_append, List.nil_append, hpin, hpin2, go_sem, Nat.reduceAdd, Nat.reduceMul]
theorem writtenS_t_sound (m : MemoryD) (v : ValueD) (n1 : Int) (hm : m.cells.length ≤ 1048576) : SoundAtN Try.prog 53 (fun uf => argsV 0 [.ro (.bp 2000 0), .ro (valueW v), .ro (.sc (.int .i64 n1))]) [(2000, .box (memB true m))]
    (fun rs st => rs = [] ∧ nowIs st.ob [(2000, .box (memB true (writtenM m v n1)))]) := by
  generalize hR : writtenM m v n1 = R
  unfold writtenM at hR
  have hli := l09Live_sound m v hm
  simp only [memoryW, valueW] at hli
  refine sound_triN (fn := Try.f53) (c := Try.f53.body.getD .skip) (res := []) (n := 29) sized (by kernel_rfl) (by rfl) (by kernel_rfl) (by rfl) (by rfl) (by simp [argsV]) (fun uf ub C hpin hpin2 => ?_)
  simp only [Try.f53, Option.getD_some]
  refine Tri.step sized ?_
  simp (decide := true) only [valueW, drop0, row1_length, rows_length, memB, MemoryD.fail, vI, vB, vS, cI, cB, cS, roI, ro64, List.cons_append, List.nil_append, hpin, hpin2, go_sem, Nat.reduceAdd, Nat.reduceMul]
  refine Tri.step sized ?_
  cases hb : m.bad == 0 with
  | false =>
    simp only [hb, if_true, if_false, Bool.false_eq_true, Bool.true_and, Bool.false_and] at hR; subst hR
    simp (decide := true) only [hb, bne, drop0, row1_length, rows_length, memB, MemoryD.fail, vI, vB, vS, cI, cB, cS, roI, ro64, List.cons_append, List.nil_append, hpin, hpin2, go_sem, Nat.reduceAdd, Nat.reduceMul]
  | true =>
  simp (decide := true) only [hb, bne, drop0, row1_length, rows_length, memB, MemoryD.fail, vI, vB, vS, cI, cB, cS, roI, ro64, List.cons_append, List.nil_append, hpin, hpin2, go_sem, Nat.reduceAdd, Nat.reduceMul]
  refine Tri.step sized ?_
  simp (decide := true) only [drop0, row1_length, rows_length, memB, MemoryD.fail, vI, vB, vS, cI, cB, cS, roI, ro64, List.cons_append, List.nil_append, hpin, hpin2, go_sem, Nat.reduceAdd, Nat.reduceMul]
  refine Tri.fork sized (.one 0 true (.one 1 true (.two 2 (.one 3 false (.one 4 false (.one 5 false .done))) 3 (.one 2 false (.one 4 false (.one 5 false .done)))))) mixed (by kernel_rfl) (fun C2 hC2 => ?_)
  have hp2 : ∀ o, isPin o = false → C2.pin o = none := by rw [hC2]; exact hpin
  simp (decide := true) only [drop0, row1_length, rows_length, memB, MemoryD.fail, vI, vB, vS, cI, cB, cS, roI, ro64, List.cons_append, List.nil_append, hp2, hpin, hpin2, go_sem, Nat.reduceAdd, Nat.reduceMul]
  refine ⟨?_, ?_⟩
  all_goals
    refine aCall_det hli hp2 ?_
    cases hb1 : holdsM m v with
    | false =>
      simp only [hb, hb1, if_true, if_false, Bool.false_eq_true] at hR; subst hR
      simp (decide := true) only [hb1, drop0, row1_length, rows_length, memB, MemoryD.fail, vI, vB, vS, cI, cB, cS, roI, ro64, List.cons_append, List.nil_append, hp2, hpin, hpin2, go_sem, Nat.reduceAdd, Nat.reduceMul]
    | true =>
    obtain ⟨n, hn0, hn⟩ := holds_cell hb1
    simp only [hb, hb1, hn0, if_true, Int.toNat_natCast] at hR; subst hR
    have hk : ((n : Int) < (m.cells.length : Int)) = True := eq_true (by omega)
    have h0 := cell_q false hn
    simp only [cB, cI] at h0
    have hs1 := cell_set1 n1 hn
    unfold setCellAt at hs1
    simp (decide := true) only [hb1, hn0, drop0, row1_length, rows_length, memB, MemoryD.fail, vI, vB, vS, cI, cB, cS, roI, ro64, List.cons_append, List.nil_append, hp2, hpin, hpin2, go_sem, Nat.reduceAdd, Nat.reduceMul]
    refine Tri.fork sized (.one 0 true (.one 1 true (.one 2 true (.one 4 true (.one 6 true (.two 3 (.one 5 false (.one 7 false (.one 8 false (.one 9 false .done)))) 5 (.one 3 false (.one 7 false (.one 8 false (.one 9 false .done)))))))))) mixed (by kernel_rfl) (fun C3 hC3 => ?_)
    have hp3 : ∀ o, isPin o = false → C3.pin o = none := by rw [hC3]; exact hpin
    simp (decide := true) only [hn0, hk, hn, h0, hs1, hp3, Int.toNat_natCast, Int.natCast_nonneg, drop0, row1_length, rows_length, memB, MemoryD.fail, vI, vB, vS, cI, cB, cS, roI, ro64, List.cons_append, List.nil_append, hpin, hpin2, go_sem, Nat.reduceAdd, Nat.reduceMul]
theorem writtenS_sound (sh : Bool) (m : MemoryD) (v : ValueD) (n1 : Int) (hm : m.cells.length ≤ 1048576) : SoundAtN Try.prog 53 (fun uf => argsV 0 [.ro (.bp 2000 0), .ro (valueW v), .ro (.sc (.int .i64 n1))]) [(2000, .box (memB sh m))]
    (fun rs st => rs = [] ∧ nowIs st.ob [(2000, .box (memB sh (writtenM m v n1)))]) := by
  cases sh with
  | false => exact writtenS_f_sound m v n1 hm
  | true => exact writtenS_t_sound m v n1 hm
theorem toldI_sound (sh : Bool) (m : MemoryD) (n : Int) (ho : m.out.length ≤ 1048576) : SoundAtN Try.prog 54 (fun uf => argsV 0 [.ro (.bp 2000 0), .ro (.sc (.int .i64 n))]) [(2000, .box (memB sh m))]
    (fun rs st => rs = [] ∧ nowIs st.ob [(2000, .box (memB sh (toldM m n)))]) := by
  generalize hR : toldM m n = R
  unfold toldM at hR
  have hb1 : m.out.length + 1 ≤ 140737488355328 := by omega
  have hb2 : (m.out.length + 1) * 8 ≤ 140737488355328 := by omega
  have hsn := row1_snoc cI m.out n
  simp only [cI] at hsn
  refine sound_triN (fn := Try.f54) (c := Try.f54.body.getD .skip) (res := []) (n := 19) sized (by kernel_rfl) (by rfl) (by kernel_rfl) (by rfl) (by rfl) (by simp [argsV]) (fun uf ub C hpin hpin2 => ?_)
  refine code_sound sized _ ?_
  simp only [Try.f54, Option.getD_some]
  cases hb : m.bad == 0 with
  | false =>
    simp only [hb, if_true, if_false, Bool.false_eq_true, Bool.true_and, Bool.false_and] at hR; subst hR
    simp (decide := true) only [hb, drop0, row1_length, rows_length, memB, MemoryD.fail, vI, vB, vS, cI, cB, cS, roI, ro64, List.cons_append, List.nil_append, hpin, hpin2, go_sem, Nat.reduceAdd, Nat.reduceMul]
  | true =>
    simp only [hb, if_true, if_false, Bool.false_eq_true, Bool.true_and, Bool.false_and] at hR; subst hR
    simp (decide := true) only [hb, hb1, hb2, hsn, drop0, row1_length, rows_length, memB, MemoryD.fail, vI, vB, vS, cI, cB, cS, roI, ro64, List.cons_append, List.nil_append, hpin, hpin2, go_sem, Nat.reduceAdd, Nat.reduceMul]
theorem toldS_sound (sh : Bool) (m : MemoryD) (n : Int) (ho : m.out.length ≤ 1048576) : SoundAtN Try.prog 55 (fun uf => argsV 0 [.ro (.bp 2000 0), .ro (.sc (.int .i64 n))]) [(2000, .box (memB sh m))]
    (fun rs st => rs = [] ∧ nowIs st.ob [(2000, .box (memB sh (toldM m n)))]) := by
  generalize hR : toldM m n = R
  unfold toldM at hR
  have hb1 : m.out.length + 1 ≤ 140737488355328 := by omega
  have hb2 : (m.out.length + 1) * 8 ≤ 140737488355328 := by omega
  have hsn := row1_snoc cI m.out n
  simp only [cI] at hsn
  refine sound_triN (fn := Try.f55) (c := Try.f55.body.getD .skip) (res := []) (n := 19) sized (by kernel_rfl) (by rfl) (by kernel_rfl) (by rfl) (by rfl) (by simp [argsV]) (fun uf ub C hpin hpin2 => ?_)
  refine code_sound sized _ ?_
  simp only [Try.f55, Option.getD_some]
  cases hb : m.bad == 0 with
  | false =>
    simp only [hb, if_true, if_false, Bool.false_eq_true, Bool.true_and, Bool.false_and] at hR; subst hR
    simp (decide := true) only [hb, drop0, row1_length, rows_length, memB, MemoryD.fail, vI, vB, vS, cI, cB, cS, roI, ro64, List.cons_append, List.nil_append, hpin, hpin2, go_sem, Nat.reduceAdd, Nat.reduceMul]
  | true =>
    simp only [hb, if_true, if_false, Bool.false_eq_true, Bool.true_and, Bool.false_and] at hR; subst hR
    simp (decide := true) only [hb, hb1, hb2, hsn, drop0, row1_length, rows_length, memB, MemoryD.fail, vI, vB, vS, cI, cB, cS, roI, ro64, List.cons_append, List.nil_append, hpin, hpin2, go_sem, Nat.reduceAdd, Nat.reduceMul]
theorem summedI_sound (sh : Bool) (m : MemoryD) (a b : Int) : SoundAtN Try.prog 45 (fun uf => argsV 0 [.ro (.bp 2000 0), .ro (.sc (.int .i64 a)), .ro (.sc (.int .i64 b))]) [(2000, .box (memB sh m))]
    (fun rs st => rs = [(false, [cI (summedM m a b).2])] ∧ nowIs st.ob [(2000, .box (memB sh (summedM m a b).1))]) := by
  generalize hR : summedM m a b = R
  unfold summedM at hR
  have ha : (decide (0 ≤ a) && decide (a ≤ 1000000000)) = inJ a 0 1000000000 := rfl
  have hbb : (decide (0 ≤ b) && decide (b ≤ 1000000000)) = inJ b 0 1000000000 := rfl
  refine sound_triN (fn := Try.f45) (c := Try.f45.body.getD .skip) (res := [.tm 6]) (n := 32) sized (by kernel_rfl) (by rfl) (by kernel_rfl) (by rfl) (by rfl) (by simp [argsV]) (fun uf ub C hpin hpin2 => ?_)
  simp only [Try.f45, Option.getD_some]
  refine Tri.step sized ?_
  simp (decide := true) only [drop0, row1_length, rows_length, memB, MemoryD.fail, vI, vB, vS, cI, cB, cS, roI, ro64, List.cons_append, List.nil_append, hpin, hpin2, go_sem, Nat.reduceAdd, Nat.reduceMul]
  refine Tri.step sized ?_
  cases hb : m.bad == 0 with
  | false =>
    simp only [hb, if_true, if_false, Bool.false_eq_true, Bool.true_and, Bool.false_and] at hR; subst hR
    simp (decide := true) only [hb, bne, drop0, row1_length, rows_length, memB, MemoryD.fail, vI, vB, vS, cI, cB, cS, roI, ro64, List.cons_append, List.nil_append, hpin, hpin2, go_sem, Nat.reduceAdd, Nat.reduceMul]
  | true =>
  simp (decide := true) only [hb, bne, drop0, row1_length, rows_length, memB, MemoryD.fail, vI, vB, vS, cI, cB, cS, roI, ro64, List.cons_append, List.nil_append, hpin, hpin2, go_sem, Nat.reduceAdd, Nat.reduceMul]
  refine Tri.step sized ?_
  simp (decide := true) only [drop0, row1_length, rows_length, memB, MemoryD.fail, vI, vB, vS, cI, cB, cS, roI, ro64, List.cons_append, List.nil_append, hpin, hpin2, go_sem, Nat.reduceAdd, Nat.reduceMul]
  refine aCall_det (in_sound a 0 1000000000) hpin ?_
  rw [ha]
  cases hb1 : inJ a 0 1000000000 with
  | false =>
    simp only [hb, hb1, if_true, if_false, Bool.false_eq_true, Bool.true_and, Bool.false_and] at hR; subst hR
    simp (decide := true) only [hb1, drop0, row1_length, rows_length, memB, MemoryD.fail, vI, vB, vS, cI, cB, cS, roI, ro64, List.cons_append, List.nil_append, hpin, hpin2, go_sem, Nat.reduceAdd, Nat.reduceMul]
  | true =>
  simp (decide := true) only [hb1, drop0, row1_length, rows_length, memB, MemoryD.fail, vI, vB, vS, cI, cB, cS, roI, ro64, List.cons_append, List.nil_append, hpin, hpin2, go_sem, Nat.reduceAdd, Nat.reduceMul]
  refine aCall_det (in_sound b 0 1000000000) hpin ?_
  rw [hbb]
  cases hb2 : inJ b 0 1000000000 with
  | false =>
    simp only [hb, hb1, hb2, if_true, if_false, Bool.false_eq_true, Bool.true_and, Bool.false_and] at hR; subst hR
    simp (decide := true) only [hb2, drop0, row1_length, rows_length, memB, MemoryD.fail, vI, vB, vS, cI, cB, cS, roI, ro64, List.cons_append, List.nil_append, hpin, hpin2, go_sem, Nat.reduceAdd, Nat.reduceMul]
  | true =>
  have ra : 0 ≤ a ∧ a ≤ 1000000000 := by unfold inJ at hb1; simpa using hb1
  have rb : 0 ≤ b ∧ b ≤ 1000000000 := by unfold inJ at hb2; simpa using hb2
  have w1 : IntKind.i64.wrap (a + b) = a + b := w64 (by omega) (by omega)
  by_cases hs : a + b ≤ 1000000000
  · have e1 : (a + b ≤ 1000000000) = True := eq_true hs
    have e2 : (1000000000 < a + b) = False := eq_false (by omega)
    simp only [hb, hb1, hb2, e1, decide_true, if_true, Bool.true_and] at hR; subst hR
    simp (decide := true) only [hb2, w1, e1, e2, gt_iff_lt, drop0, row1_length, rows_length, memB, MemoryD.fail, vI, vB, vS, cI, cB, cS, roI, ro64, List.cons_append, List.nil_append, hpin, hpin2, go_sem, Nat.reduceAdd, Nat.reduceMul]
    refine code_sound sized _ ?_
    simp (decide := true) only [w1, drop0, row1_length, rows_length, memB, MemoryD.fail, vI, vB, vS, cI, cB, cS, roI, ro64, List.cons_append, List.nil_append, hpin, hpin2, go_sem, Nat.reduceAdd, Nat.reduceMul]
  · have e1 : (a + b ≤ 1000000000) = False := eq_false hs
    have e2 : (1000000000 < a + b) = True := eq_true (by omega)
    simp only [hb, hb1, hb2, e1, decide_false, if_true, if_false, Bool.false_eq_true, Bool.true_and, Bool.and_false] at hR; subst hR
    simp (decide := true) only [hb2, w1, e1, e2, gt_iff_lt, drop0, row1_length, rows_length, memB, MemoryD.fail, vI, vB, vS, cI, cB, cS, roI, ro64, List.cons_append, List.nil_append, hpin, hpin2, go_sem, Nat.reduceAdd, Nat.reduceMul]
theorem summedS_sound (sh : Bool) (m : MemoryD) (a b : Int) : SoundAtN Try.prog 46 (fun uf => argsV 0 [.ro (.bp 2000 0), .ro (.sc (.int .i64 a)), .ro (.sc (.int .i64 b))]) [(2000, .box (memB sh m))]
    (fun rs st => rs = [(false, [cI (summedM m a b).2])] ∧ nowIs st.ob [(2000, .box (memB sh (summedM m a b).1))]) := by
  generalize hR : summedM m a b = R
  unfold summedM at hR
  have ha : (decide (0 ≤ a) && decide (a ≤ 1000000000)) = inJ a 0 1000000000 := rfl
  have hbb : (decide (0 ≤ b) && decide (b ≤ 1000000000)) = inJ b 0 1000000000 := rfl
  refine sound_triN (fn := Try.f46) (c := Try.f46.body.getD .skip) (res := [.tm 6]) (n := 32) sized (by kernel_rfl) (by rfl) (by kernel_rfl) (by rfl) (by rfl) (by simp [argsV]) (fun uf ub C hpin hpin2 => ?_)
  simp only [Try.f46, Option.getD_some]
  refine Tri.step sized ?_
  simp (decide := true) only [drop0, row1_length, rows_length, memB, MemoryD.fail, vI, vB, vS, cI, cB, cS, roI, ro64, List.cons_append, List.nil_append, hpin, hpin2, go_sem, Nat.reduceAdd, Nat.reduceMul]
  refine Tri.step sized ?_
  cases hb : m.bad == 0 with
  | false =>
    simp only [hb, if_true, if_false, Bool.false_eq_true, Bool.true_and, Bool.false_and] at hR; subst hR
    simp (decide := true) only [hb, bne, drop0, row1_length, rows_length, memB, MemoryD.fail, vI, vB, vS, cI, cB, cS, roI, ro64, List.cons_append, List.nil_append, hpin, hpin2, go_sem, Nat.reduceAdd, Nat.reduceMul]
  | true =>
  simp (decide := true) only [hb, bne, drop0, row1_length, rows_length, memB, MemoryD.fail, vI, vB, vS, cI, cB, cS, roI, ro64, List.cons_append, List.nil_append, hpin, hpin2, go_sem, Nat.reduceAdd, Nat.reduceMul]
  refine Tri.step sized ?_
  simp (decide := true) only [drop0, row1_length, rows_length, memB, MemoryD.fail, vI, vB, vS, cI, cB, cS, roI, ro64, List.cons_append, List.nil_append, hpin, hpin2, go_sem, Nat.reduceAdd, Nat.reduceMul]
  refine aCall_det (l01In_sound a 0 1000000000) hpin ?_
  rw [ha]
  cases hb1 : inJ a 0 1000000000 with
  | false =>
    simp only [hb, hb1, if_true, if_false, Bool.false_eq_true, Bool.true_and, Bool.false_and] at hR; subst hR
    simp (decide := true) only [hb1, drop0, row1_length, rows_length, memB, MemoryD.fail, vI, vB, vS, cI, cB, cS, roI, ro64, List.cons_append, List.nil_append, hpin, hpin2, go_sem, Nat.reduceAdd, Nat.reduceMul]
  | true =>
  simp (decide := true) only [hb1, drop0, row1_length, rows_length, memB, MemoryD.fail, vI, vB, vS, cI, cB, cS, roI, ro64, List.cons_append, List.nil_append, hpin, hpin2, go_sem, Nat.reduceAdd, Nat.reduceMul]
  refine aCall_det (l01In_sound b 0 1000000000) hpin ?_
  rw [hbb]
  cases hb2 : inJ b 0 1000000000 with
  | false =>
    simp only [hb, hb1, hb2, if_true, if_false, Bool.false_eq_true, Bool.true_and, Bool.false_and] at hR; subst hR
    simp (decide := true) only [hb2, drop0, row1_length, rows_length, memB, MemoryD.fail, vI, vB, vS, cI, cB, cS, roI, ro64, List.cons_append, List.nil_append, hpin, hpin2, go_sem, Nat.reduceAdd, Nat.reduceMul]
  | true =>
  have ra : 0 ≤ a ∧ a ≤ 1000000000 := by unfold inJ at hb1; simpa using hb1
  have rb : 0 ≤ b ∧ b ≤ 1000000000 := by unfold inJ at hb2; simpa using hb2
  have w1 : IntKind.i64.wrap (a + b) = a + b := w64 (by omega) (by omega)
  by_cases hs : a + b ≤ 1000000000
  · have e1 : (a + b ≤ 1000000000) = True := eq_true hs
    have e2 : (1000000000 < a + b) = False := eq_false (by omega)
    simp only [hb, hb1, hb2, e1, decide_true, if_true, Bool.true_and] at hR; subst hR
    simp (decide := true) only [hb2, w1, e1, e2, gt_iff_lt, drop0, row1_length, rows_length, memB, MemoryD.fail, vI, vB, vS, cI, cB, cS, roI, ro64, List.cons_append, List.nil_append, hpin, hpin2, go_sem, Nat.reduceAdd, Nat.reduceMul]
    refine code_sound sized _ ?_
    simp (decide := true) only [w1, drop0, row1_length, rows_length, memB, MemoryD.fail, vI, vB, vS, cI, cB, cS, roI, ro64, List.cons_append, List.nil_append, hpin, hpin2, go_sem, Nat.reduceAdd, Nat.reduceMul]
  · have e1 : (a + b ≤ 1000000000) = False := eq_false hs
    have e2 : (1000000000 < a + b) = True := eq_true (by omega)
    simp only [hb, hb1, hb2, e1, decide_false, if_true, if_false, Bool.false_eq_true, Bool.true_and, Bool.and_false] at hR; subst hR
    simp (decide := true) only [hb2, w1, e1, e2, gt_iff_lt, drop0, row1_length, rows_length, memB, MemoryD.fail, vI, vB, vS, cI, cB, cS, roI, ro64, List.cons_append, List.nil_append, hpin, hpin2, go_sem, Nat.reduceAdd, Nat.reduceMul]
end Go.Proofs.Ytldniggehdpheaa.AW
