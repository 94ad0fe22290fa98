/- Drawn memories and values. No condition beyond those named. -/
import Derived.Test.YtldniggehdpheaaDq
import Derived.Test.YtldniggehdpheaaDc
namespace Go.Proofs.Ytldniggehdpheaa.AW
open Go.RowKit
set_option maxHeartbeats 8000000
set_option maxRecDepth 100000
set_option linter.unusedSimpArgs false
set_option linter.unusedVariables false

theorem memNewI_sound (l : List Int) (n : Int) (hl : l.length ≤ 1048576) : Sound Try.prog 30 [.ro (roI l), .ro (.sc (.int .i64 n))] (fun rs st => rs = [(true, [.sc (.slice none 0 0), .row false 3 (row1 cI l), .sc (.slice none 0 0), cI n, cI 0])]) := by
  have hc := copyIntsD_sound l hl
  refine sound_tri (fn := Try.f30) (c := Try.f30.body.getD .skip) (res := [.ce 4 27]) (n := 9) sized (by kernel_rfl) (by rfl) (by kernel_rfl) (by rfl) (by rfl) (by simp [argsV]) (fun uf ub C hpin hpin2 hfull => ?_)
  simp only [Try.f30, Option.getD_some]
  refine Tri.step sized ?_
  simp (decide := true) only [drop0, row1_length, rows_length, curC, memB, memoryW, memoryC, valueC, valueW, MemoryD.fail, vI, vB, vS, cI, cB, cS, roI, ro64, List.cons_append, List.nil_append, hpin, go_sem, Nat.reduceAdd, Nat.reduceMul]
  refine code_sound sized _ ?_
  simp (decide := true) only [drop0, row1_length, rows_length, curC, memB, memoryW, memoryC, valueC, valueW, MemoryD.fail, vI, vB, vS, cI, cB, cS, roI, ro64, List.cons_append, List.nil_append, hpin, go_sem, Nat.reduceAdd, Nat.reduceMul]
  refine aCall_det hc hpin ?_
  simp (decide := true) only [drop0, row1_length, rows_length, curC, memB, memoryW, memoryC, valueC, valueW, MemoryD.fail, vI, vB, vS, cI, cB, cS, roI, ro64, List.cons_append, List.nil_append, hpin, go_sem, Nat.reduceAdd, Nat.reduceMul]
theorem memNewS_sound (l : List Int) (n : Int) (hl : l.length ≤ 1048576) : Sound Try.prog 66 [.ro (roI l), .ro (.sc (.int .i64 n))] (fun rs st => rs = [(true, [.sc (.slice none 0 0), .row false 3 (row1 cI l), .sc (.slice none 0 0), cI n, cI 0])]) := by
  have hf := ints_fr l
  have hb1 : l.length ≤ 140737488355328 := by omega
  have hb2 : l.length * 8 ≤ 140737488355328 := by omega
  refine sound_tri (fn := Try.f66) (c := Try.f66.body.getD .skip) (res := [.ce 4 27]) (n := 10) sized (by kernel_rfl) (by rfl) (by kernel_rfl) (by rfl) (by rfl) (by simp [argsV]) (fun uf ub C hpin hpin2 hfull => ?_)
  simp only [Try.f66, Option.getD_some]
  refine Tri.step sized ?_
  simp (decide := true) only [drop0, row1_length, rows_length, curC, memB, memoryW, memoryC, valueC, valueW, MemoryD.fail, vI, vB, vS, cI, cB, cS, roI, ro64, List.cons_append, List.nil_append, hpin, go_sem, Nat.reduceAdd, Nat.reduceMul]
  refine code_sound sized _ ?_
  simp (decide := true) only [hf, hb1, hb2, drop0, row1_length, rows_length, curC, memB, memoryW, memoryC, valueC, valueW, MemoryD.fail, vI, vB, vS, cI, cB, cS, roI, ro64, List.cons_append, List.nil_append, hpin, go_sem, Nat.reduceAdd, Nat.reduceMul]
/-- A drawn memory. -/
def DrM (m : MemoryD) : Prop := m.cells.length ≤ 6 ∧ m.input.length ≤ 2 ∧ m.out.length = 0 ∧ m.fuel < 1048576
theorem DrM.small {m : MemoryD} (h : DrM m) : SmallM m := by obtain ⟨h1, h2, h3, h4⟩ := h; exact ⟨by omega, by omega, by omega, by omega⟩
theorem freedM_keep (m : MemoryD) (v : ValueD) : (freedM m v).cells.length = m.cells.length ∧ (freedM m v).input = m.input ∧ (freedM m v).out = m.out ∧ (freedM m v).fuel = m.fuel ∧ (freedM m v).bad = m.bad := by
  unfold freedM deadM
  split <;> simp
theorem memDrawn_sound (b : List Int) (i : Nat) (h : Int) (hi : i ≤ b.length) (hb : b.length ≤ 1048576) : SoundQN Try.prog 58 [] (fun uf => argsV 0 [.ro (.bp 2000 0)]) [(2000, .box (curC b i h))]
    (fun rs st => ∃ q : MemoryD × Nat × Int, (DrM q.1 ∧ q.2.1 ≤ b.length) ∧ rs = [(true, memB false q.1)] ∧ nowIs st.ob [(2000, .box (curC b q.2.1 q.2.2))]) := by
  have hc := fun i h n hi hn => curBelow_sound b i h n hi hb hn
  have ho := fun i h hi => curOnce_sound b i h 3 hi hb (by omega)
  simp only [curC, cI, cB] at hc ho
  refine sound_triQN (fn := Try.f58) (c := Try.f58.body.getD .skip) (res := [.ce 2 27]) (n := 23) sized (by kernel_rfl) (by rfl) (by kernel_rfl) (by rfl) (by rfl) (by simp [argsV]) (fun uf ub C hpin hpin2 hqs => ?_)
  simp only [Try.f58, Option.getD_some]
  refine Tri.step sized ?_
  simp (decide := true) only [drop0, row1_length, rows_length, curC, memB, memoryW, memoryC, valueC, valueW, MemoryD.fail, vI, vB, vS, cI, cB, cS, roI, ro64, List.cons_append, List.nil_append, hpin, go_sem, Nat.reduceAdd, Nat.reduceMul]
  refine Tri.step sized ?_
  simp (decide := true) only [drop0, row1_length, rows_length, curC, memB, memoryW, memoryC, valueC, valueW, MemoryD.fail, vI, vB, vS, cI, cB, cS, roI, ro64, List.cons_append, List.nil_append, hpin, go_sem, Nat.reduceAdd, Nat.reduceMul]
  refine aCall_qeN (hc i h 4 hi (by omega)) hpin [(2000, 2000)] [] [(2000, 2000)] ⟨rfl, rfl, rfl, rfl⟩ (fun uf => ?_) ?_
  · simp (decide := true) only [drop0, row1_length, rows_length, curC, memB, memoryW, memoryC, valueC, valueW, MemoryD.fail, vI, vB, vS, cI, cB, cS, roI, ro64, List.cons_append, List.nil_append, hpin, hpin2, go_sem, Nat.reduceAdd, Nat.reduceMul]
  simp (decide := true) only [drop0, row1_length, rows_length, curC, memB, memoryW, memoryC, valueC, valueW, MemoryD.fail, vI, vB, vS, cI, cB, cS, roI, ro64, List.cons_append, List.nil_append, hpin, go_sem, Nat.reduceAdd, Nat.reduceMul]
  rintro ⟨x1, i1, h1⟩ ⟨p1, r1, s1⟩
  simp only at p1 r1 s1
  have hmn := memNewS_sound [5, 6] x1 (by simp)
  have hr56 : row1 cI [5, 6] = [[.sc (.int .i64 5)], [.sc (.int .i64 6)]] := rfl
  simp only [hr56, cI] at hmn
  simp (decide := true) only [drop0, row1_length, rows_length, curC, memB, memoryW, memoryC, valueC, valueW, MemoryD.fail, vI, vB, vS, cI, cB, cS, roI, ro64, List.cons_append, List.nil_append, hpin, go_sem, Nat.reduceAdd, Nat.reduceMul]
  refine aCall_det hmn hpin ?_
  simp (decide := true) only [hr56, drop0, row1_length, rows_length, curC, memB, memoryW, memoryC, valueC, valueW, MemoryD.fail, vI, vB, vS, cI, cB, cS, roI, ro64, List.cons_append, List.nil_append, hpin, go_sem, Nat.reduceAdd, Nat.reduceMul]
  refine ⟨rfl, ?_⟩
  refine Tri.ent ?_ (Ent.nilr 3 0 67)
  refine Tri.ent ?_ (Ent.nilr 3 2 3)
  refine Tri.step sized ?_
  have hs56 : [[D.sc (Value.int IntKind.i64 5)], [D.sc (Value.int IntKind.i64 6)]] = row1 cI [5, 6] := rfl
  simp (decide := true) only [St.nilr, hs56, List.getElem?_cons_zero, List.getElem?_cons_succ, drop0, row1_length, rows_length, curC, memB, memoryW, memoryC, valueC, valueW, MemoryD.fail, vI, vB, vS, cI, cB, cS, roI, ro64, List.cons_append, List.nil_append, hpin, go_sem, Nat.reduceAdd, Nat.reduceMul]
  refine Tri.loop (ι := Nat × MemoryD × Nat × Int) (fun q => q.1 ≤ 5 ∧ q.2.1.cells.length = q.1 ∧ q.2.1.input.length ≤ 2 ∧ q.2.1.out = [] ∧ q.2.1.fuel < 1048576 ∧ q.2.1.bad = 0 ∧ q.2.2.1 ≤ b.length)
    (fun q => ⟨23, [(0, .bp 2000 0), (2, .bp 2 0), (3, .bp 3 0), (4, vI q.1)], [(2000, .box (curC b q.2.2.1 q.2.2.2)), (3, .box (memB false q.2.1)), (2, .box [.sc (.slice none 0 0), .sc (.slice none 0 0), .sc (.slice none 0 0), cI 0, cI 0])]⟩) (fun q => 6 - q.1) (0, ⟨[], [5, 6], [], x1, 0⟩, i1, h1) ⟨by simp, rfl, by simp, rfl, by show x1 < 1048576; omega, rfl, s1⟩ ?_ ?_
  · refine Ent.weak ?_ ?_ ?_ ?_ <;> simp (decide := true) [subT, subB, hereT, hereV, hereL, St.get, look, vI, vB, vS, cI, cS, cB, curC, memB, roI, rows, row1]
  · rintro ⟨k, m, j, g⟩ ⟨k1, k2, k3, k4, k5, k6, k7⟩
    simp only at k1 k2 k3 k4 k5 k6 k7 ⊢
    refine code_sound sized _ ?_
    simp (decide := true) only [drop0, row1_length, rows_length, curC, memB, memoryW, memoryC, valueC, valueW, MemoryD.fail, vI, vB, vS, cI, cB, cS, roI, ro64, List.cons_append, List.nil_append, hpin, go_sem, Nat.reduceAdd, Nat.reduceMul]
    refine aCall_qeN (hc j g 6 k7 (by omega)) hpin [(2000, 2000)] [] [(2000, 2000)] ⟨rfl, rfl, rfl, rfl⟩ (fun uf => ?_) ?_
    · simp (decide := true) only [drop0, row1_length, rows_length, curC, memB, memoryW, memoryC, valueC, valueW, MemoryD.fail, vI, vB, vS, cI, cB, cS, roI, ro64, List.cons_append, List.nil_append, hpin, hpin2, go_sem, Nat.reduceAdd, Nat.reduceMul]
    simp (decide := true) only [drop0, row1_length, rows_length, curC, memB, memoryW, memoryC, valueC, valueW, MemoryD.fail, vI, vB, vS, cI, cB, cS, roI, ro64, List.cons_append, List.nil_append, hpin, go_sem, Nat.reduceAdd, Nat.reduceMul]
    rintro ⟨x2, i2, h2⟩ ⟨p2, r2, s2⟩
    simp only at p2 r2 s2
    by_cases hk : (k : Int) < x2
    · have e : ((k : Int) < x2) = True := eq_true hk
      have hfr := freshS_sound false m k (by omega)
      have hfm : freshM m k = ({ m with cells := m.cells ++ [⟨true, k⟩] }, ⟨2, m.cells.length⟩) := by unfold freshM; rw [k6]; rfl
      rw [hfm] at hfr
      simp only [memB, valueC, cB, cI] at hfr
      simp (decide := true) only [e, drop0, row1_length, rows_length, curC, memB, memoryW, memoryC, valueC, valueW, MemoryD.fail, vI, vB, vS, cI, cB, cS, roI, ro64, List.cons_append, List.nil_append, hpin, go_sem, Nat.reduceAdd, Nat.reduceMul]
      refine aCall_bxdN hfr hpin [(2000, 3)] [] [(2000, 3)] ⟨rfl, rfl, rfl, rfl⟩ (fun uf => ?_) ?_
      · simp (decide := true) only [drop0, row1_length, rows_length, curC, memB, memoryW, memoryC, valueC, valueW, MemoryD.fail, vI, vB, vS, cI, cB, cS, roI, ro64, List.cons_append, List.nil_append, hpin, hpin2, go_sem, Nat.reduceAdd, Nat.reduceMul]
      simp (decide := true) only [drop0, row1_length, rows_length, curC, memB, memoryW, memoryC, valueC, valueW, MemoryD.fail, vI, vB, vS, cI, cB, cS, roI, ro64, List.cons_append, List.nil_append, hpin, go_sem, Nat.reduceAdd, Nat.reduceMul]
      refine aCall_qeN (ho i2 h2 s2) hpin [(2000, 2000)] [] [(2000, 2000)] ⟨rfl, rfl, rfl, rfl⟩ (fun uf => ?_) ?_
      · simp (decide := true) only [drop0, row1_length, rows_length, curC, memB, memoryW, memoryC, valueC, valueW, MemoryD.fail, vI, vB, vS, cI, cB, cS, roI, ro64, List.cons_append, List.nil_append, hpin, hpin2, go_sem, Nat.reduceAdd, Nat.reduceMul]
      simp (decide := true) only [drop0, row1_length, rows_length, curC, memB, memoryW, memoryC, valueC, valueW, MemoryD.fail, vI, vB, vS, cI, cB, cS, roI, ro64, List.cons_append, List.nil_append, hpin, go_sem, Nat.reduceAdd, Nat.reduceMul]
      rintro ⟨x3, i3, h3⟩ s3
      simp only at s3
      have hk5 : k + 1 ≤ 5 := by omega
      have wk : IntKind.i64.wrap ((k : Int) + 1) = ((k + 1 : Nat) : Int) := by rw [w64 (by omega) (by omega)]; omega
      cases x3 with
      | false =>
        simp (decide := true) only [drop0, row1_length, rows_length, curC, memB, memoryW, memoryC, valueC, valueW, MemoryD.fail, vI, vB, vS, cI, cB, cS, roI, ro64, List.cons_append, List.nil_append, hpin, go_sem, Nat.reduceAdd, Nat.reduceMul]
        refine ⟨(k + 1, { m with cells := m.cells ++ [⟨true, k⟩] }, i3, h3), ⟨hk5, by simp [k2], k3, k4, k5, k6, s3⟩, by show 6 - (k + 1) < 6 - k; omega, Ent.weak ?_ ?_ ?_ ?_⟩
        all_goals simp (decide := true) [subT, subB, hereT, hereV, hereL, St.get, look, vI, vB, vS, cI, cS, cB, curC, memB, roI, wk]
      | true =>
        have hfd := freedS_sound false { m with cells := m.cells ++ [⟨true, k⟩] } ⟨2, m.cells.length⟩ (by simp; omega)
        obtain ⟨q1, q2, q3, q4, q5⟩ := freedM_keep { m with cells := m.cells ++ [⟨true, k⟩] } ⟨2, m.cells.length⟩
        generalize freedM { m with cells := m.cells ++ [⟨true, k⟩] } ⟨2, m.cells.length⟩ = F at hfd q1 q2 q3 q4 q5
        simp only at q1 q2 q3 q4 q5
        simp only [memB, valueC, valueW, cB, cI] at hfd
        simp (decide := true) only [drop0, row1_length, rows_length, curC, memB, memoryW, memoryC, valueC, valueW, MemoryD.fail, vI, vB, vS, cI, cB, cS, roI, ro64, List.cons_append, List.nil_append, hpin, go_sem, Nat.reduceAdd, Nat.reduceMul]
        refine aCall_bxdN hfd hpin [(2000, 3)] [] [(2000, 3)] ⟨rfl, rfl, rfl, rfl⟩ (fun uf => ?_) ?_
        · simp (decide := true) only [drop0, row1_length, rows_length, curC, memB, memoryW, memoryC, valueC, valueW, MemoryD.fail, vI, vB, vS, cI, cB, cS, roI, ro64, List.cons_append, List.nil_append, hpin, hpin2, go_sem, Nat.reduceAdd, Nat.reduceMul]
        simp (decide := true) only [drop0, row1_length, rows_length, curC, memB, memoryW, memoryC, valueC, valueW, MemoryD.fail, vI, vB, vS, cI, cB, cS, roI, ro64, List.cons_append, List.nil_append, hpin, go_sem, Nat.reduceAdd, Nat.reduceMul]
        refine ⟨(k + 1, F, i3, h3), ⟨hk5, by show F.cells.length = k + 1; rw [q1]; simp [k2], by show F.input.length ≤ 2; rw [q2]; exact k3, by show F.out = []; rw [q3]; exact k4, by show F.fuel < _; rw [q4]; exact k5, by show F.bad = 0; rw [q5]; exact k6, s3⟩, by show 6 - (k + 1) < 6 - k; omega, Ent.weak ?_ ?_ ?_ ?_⟩
        all_goals simp (decide := true) [subT, subB, hereT, hereV, hereL, St.get, look, vI, vB, vS, cI, cS, cB, curC, memB, roI, wk]
    · have e : ((k : Int) < x2) = False := eq_false hk
      simp (decide := true) only [e, drop0, row1_length, rows_length, curC, memB, memoryW, memoryC, valueC, valueW, MemoryD.fail, vI, vB, vS, cI, cB, cS, roI, ro64, List.cons_append, List.nil_append, hpin, go_sem, Nat.reduceAdd, Nat.reduceMul]
      refine code_sound sized _ ?_
      simp (decide := true) only [drop0, row1_length, rows_length, curC, memB, memoryW, memoryC, valueC, valueW, MemoryD.fail, vI, vB, vS, cI, cB, cS, roI, ro64, List.cons_append, List.nil_append, hpin, go_sem, Nat.reduceAdd, Nat.reduceMul]
      exact ⟨(m, i2, h2), ⟨⟨by show m.cells.length ≤ 6; omega, k3, by show m.out.length = 0; rw [k4]; rfl, k5⟩, s2⟩, rfl, rfl⟩
theorem memAny_sound (b : List Int) (i : Nat) (h : Int) (hi : i ≤ b.length) (hb : b.length ≤ 1048576) : SoundQN Try.prog 31 [] (fun uf => argsV 0 [.ro (.bp 2000 0)]) [(2000, .box (curC b i h))]
    (fun rs st => ∃ q : MemoryD × Nat × Int, (DrM q.1 ∧ q.2.1 ≤ b.length) ∧ rs = [(true, memoryC false q.1)] ∧ nowIs st.ob [(2000, .box (curC b q.2.1 q.2.2))]) := by
  have hc := fun i h n hi hn => curBelow_sound b i h n hi hb hn
  have hm := fun i h hi => memDrawn_sound b i h hi hb
  have hp := fun i h hi => curPickInt_sound b i h [0, -1, -9223372036854775808] hi hb (by simp) (by simp)
  have hrp : row1 cI [0, -1, -9223372036854775808] = [[.sc (.int .i64 0)], [.sc (.int .i64 (-1))], [.sc (.int .i64 (-9223372036854775808))]] := rfl
  simp only [curC, cI, cB, memB, hrp] at hc hm hp
  refine sound_triQN (fn := Try.f31) (c := Try.f31.body.getD .skip) (res := [.ce 2 27]) (n := 27) sized (by kernel_rfl) (by rfl) (by kernel_rfl) (by rfl) (by rfl) (by simp [argsV]) (fun uf ub C hpin hpin2 hqs => ?_)
  simp only [Try.f31, Option.getD_some]
  refine Tri.step sized ?_
  simp (decide := true) only [drop0, row1_length, rows_length, curC, memB, memoryW, memoryC, valueC, valueW, MemoryD.fail, vI, vB, vS, cI, cB, cS, roI, ro64, List.cons_append, List.nil_append, hpin, go_sem, Nat.reduceAdd, Nat.reduceMul]
  refine Tri.step sized ?_
  simp (decide := true) only [drop0, row1_length, rows_length, curC, memB, memoryW, memoryC, valueC, valueW, MemoryD.fail, vI, vB, vS, cI, cB, cS, roI, ro64, List.cons_append, List.nil_append, hpin, go_sem, Nat.reduceAdd, Nat.reduceMul]
  refine aCall_qeN (hc i h 8 hi (by omega)) hpin [(2000, 2000)] [] [(2000, 2000)] ⟨rfl, rfl, rfl, rfl⟩ (fun uf => ?_) ?_
  · simp (decide := true) only [drop0, row1_length, rows_length, curC, memB, memoryW, memoryC, valueC, valueW, MemoryD.fail, vI, vB, vS, cI, cB, cS, roI, ro64, List.cons_append, List.nil_append, hpin, hpin2, go_sem, Nat.reduceAdd, Nat.reduceMul]
  simp (decide := true) only [drop0, row1_length, rows_length, curC, memB, memoryW, memoryC, valueC, valueW, MemoryD.fail, vI, vB, vS, cI, cB, cS, roI, ro64, List.cons_append, List.nil_append, hpin, go_sem, Nat.reduceAdd, Nat.reduceMul]
  rintro ⟨x1, i1, h1⟩ ⟨p1, r1, s1⟩
  simp only at p1 r1 s1
  refine Tri.step sized ?_
  simp (decide := true) only [drop0, row1_length, rows_length, curC, memB, memoryW, memoryC, valueC, valueW, MemoryD.fail, vI, vB, vS, cI, cB, cS, roI, ro64, List.cons_append, List.nil_append, hpin, go_sem, Nat.reduceAdd, Nat.reduceMul]
  refine aCall_qeN (hm i1 h1 s1) hpin [(2000, 2000)] [] [(2000, 2000)] ⟨rfl, rfl, rfl, rfl⟩ (fun uf => ?_) ?_
  · simp (decide := true) only [drop0, row1_length, rows_length, curC, memB, memoryW, memoryC, valueC, valueW, MemoryD.fail, vI, vB, vS, cI, cB, cS, roI, ro64, List.cons_append, List.nil_append, hpin, hpin2, go_sem, Nat.reduceAdd, Nat.reduceMul]
  simp (decide := true) only [drop0, row1_length, rows_length, curC, memB, memoryW, memoryC, valueC, valueW, MemoryD.fail, vI, vB, vS, cI, cB, cS, roI, ro64, List.cons_append, List.nil_append, hpin, go_sem, Nat.reduceAdd, Nat.reduceMul]
  rintro ⟨m, i2, h2⟩ ⟨p2, s2⟩
  simp only at p2 s2
  have hcp := l09Copy_sound m p2.small
  simp only [memoryW, memoryC, cI] at hcp
  simp (decide := true) only [drop0, row1_length, rows_length, curC, memB, memoryW, memoryC, valueC, valueW, MemoryD.fail, vI, vB, vS, cI, cB, cS, roI, ro64, List.cons_append, List.nil_append, hpin, go_sem, Nat.reduceAdd, Nat.reduceMul]
  refine aCall_det hcp hpin ?_
  simp (decide := true) only [drop0, row1_length, rows_length, curC, memB, memoryW, memoryC, valueC, valueW, MemoryD.fail, vI, vB, vS, cI, cB, cS, roI, ro64, List.cons_append, List.nil_append, hpin, go_sem, Nat.reduceAdd, Nat.reduceMul]
  refine Tri.step sized ?_
  cases z0 : x1 == 0 with
  | true =>
    simp (decide := true) only [z0, drop0, row1_length, rows_length, curC, memB, memoryW, memoryC, valueC, valueW, MemoryD.fail, vI, vB, vS, cI, cB, cS, roI, ro64, List.cons_append, List.nil_append, hpin, go_sem, Nat.reduceAdd, Nat.reduceMul]
    refine aCall_qeN (hc i2 h2 7 s2 (by omega)) hpin [(2000, 2000)] [] [(2000, 2000)] ⟨rfl, rfl, rfl, rfl⟩ (fun uf => ?_) ?_
    · simp (decide := true) only [drop0, row1_length, rows_length, curC, memB, memoryW, memoryC, valueC, valueW, MemoryD.fail, vI, vB, vS, cI, cB, cS, roI, ro64, List.cons_append, List.nil_append, hpin, hpin2, go_sem, Nat.reduceAdd, Nat.reduceMul]
    simp (decide := true) only [drop0, row1_length, rows_length, curC, memB, memoryW, memoryC, valueC, valueW, MemoryD.fail, vI, vB, vS, cI, cB, cS, roI, ro64, List.cons_append, List.nil_append, hpin, go_sem, Nat.reduceAdd, Nat.reduceMul]
    rintro ⟨x3, i3, h3⟩ ⟨p3, r3, s3⟩
    refine code_sound sized _ ?_
    simp (decide := true) only [drop0, row1_length, rows_length, curC, memB, memoryW, memoryC, valueC, valueW, MemoryD.fail, vI, vB, vS, cI, cB, cS, roI, ro64, List.cons_append, List.nil_append, hpin, go_sem, Nat.reduceAdd, Nat.reduceMul]
    exact ⟨({ m with bad := x3 }, i3, h3), ⟨p2, s3⟩, rfl, rfl⟩
  | false =>
  cases z1 : x1 == 1 with
  | true =>
    simp (decide := true) only [z0, z1, drop0, row1_length, rows_length, curC, memB, memoryW, memoryC, valueC, valueW, MemoryD.fail, vI, vB, vS, cI, cB, cS, roI, ro64, List.cons_append, List.nil_append, hpin, go_sem, Nat.reduceAdd, Nat.reduceMul]
    refine aCall_qeN (hp i2 h2 s2) hpin [(2001, 3019), (2000, 2000)] [(2001, 3019)] [(2000, 2000)] ⟨rfl, rfl, rfl, rfl⟩ (fun uf => ?_) ?_
    · simp (decide := true) only [drop0, row1_length, rows_length, curC, memB, memoryW, memoryC, valueC, valueW, MemoryD.fail, vI, vB, vS, cI, cB, cS, roI, ro64, List.cons_append, List.nil_append, hpin, hpin2, go_sem, Nat.reduceAdd, Nat.reduceMul]
    simp (decide := true) only [drop0, row1_length, rows_length, curC, memB, memoryW, memoryC, valueC, valueW, MemoryD.fail, vI, vB, vS, cI, cB, cS, roI, ro64, List.cons_append, List.nil_append, hpin, go_sem, Nat.reduceAdd, Nat.reduceMul]
    rintro ⟨x3, i3, h3⟩ ⟨p3, s3⟩
    refine code_sound sized _ ?_
    simp (decide := true) only [drop0, row1_length, rows_length, curC, memB, memoryW, memoryC, valueC, valueW, MemoryD.fail, vI, vB, vS, cI, cB, cS, roI, ro64, List.cons_append, List.nil_append, hpin, go_sem, Nat.reduceAdd, Nat.reduceMul]
    refine ⟨({ m with fuel := x3 }, i3, h3), ⟨⟨p2.1, p2.2.1, p2.2.2.1, ?_⟩, s3⟩, rfl, rfl⟩
    simp only at p3 ⊢
    simp only [List.mem_cons, List.not_mem_nil, or_false] at p3
    rcases p3 with rfl | rfl | rfl <;> decide
  | false =>
  cases z2 : x1 == 2 with
  | true =>
    simp (decide := true) only [z0, z1, z2, drop0, row1_length, rows_length, curC, memB, memoryW, memoryC, valueC, valueW, MemoryD.fail, vI, vB, vS, cI, cB, cS, roI, ro64, List.cons_append, List.nil_append, hpin, go_sem, Nat.reduceAdd, Nat.reduceMul]
    refine code_sound sized _ ?_
    simp (decide := true) only [drop0, row1_length, rows_length, curC, memB, memoryW, memoryC, valueC, valueW, MemoryD.fail, vI, vB, vS, cI, cB, cS, roI, ro64, List.cons_append, List.nil_append, hpin, go_sem, Nat.reduceAdd, Nat.reduceMul]
    exact ⟨({ m with input := [] }, i2, h2), ⟨⟨p2.1, by simp, p2.2.2.1, p2.2.2.2⟩, s2⟩, rfl, rfl⟩
  | false =>
    simp (decide := true) only [z0, z1, z2, drop0, row1_length, rows_length, curC, memB, memoryW, memoryC, valueC, valueW, MemoryD.fail, vI, vB, vS, cI, cB, cS, roI, ro64, List.cons_append, List.nil_append, hpin, go_sem, Nat.reduceAdd, Nat.reduceMul]
    refine code_sound sized _ ?_
    simp (decide := true) only [drop0, row1_length, rows_length, curC, memB, memoryW, memoryC, valueC, valueW, MemoryD.fail, vI, vB, vS, cI, cB, cS, roI, ro64, List.cons_append, List.nil_append, hpin, go_sem, Nat.reduceAdd, Nat.reduceMul]
    exact ⟨(m, i2, h2), ⟨p2, s2⟩, rfl, rfl⟩
theorem valAny_sound (b : List Int) (i : Nat) (h : Int) (hi : i ≤ b.length) (hb : b.length ≤ 1048576) : SoundQN Try.prog 59 [] (fun uf => argsV 0 [.ro (.bp 2000 0)]) [(2000, .box (curC b i h))]
    (fun rs st => ∃ q : ValueD × Nat × Int, q.2.1 ≤ b.length ∧ rs = [(true, valueC false q.1)] ∧ nowIs st.ob [(2000, .box (curC b q.2.1 q.2.2))]) := by
  have hp := fun i h hi => curPickInt_sound b i h [2, 2, 3, 4, 1, 0, 9] hi hb (by simp) (by simp)
  have hp2 := fun i h hi => curPickInt_sound b i h [0, 1, 2, 5, -1, 7] hi hb (by simp) (by simp)
  have hrp : row1 cI [2, 2, 3, 4, 1, 0, 9] = [[.sc (.int .i64 2)], [.sc (.int .i64 2)], [.sc (.int .i64 3)], [.sc (.int .i64 4)], [.sc (.int .i64 1)], [.sc (.int .i64 0)], [.sc (.int .i64 9)]] := rfl
  have hrp2 : row1 cI [0, 1, 2, 5, -1, 7] = [[.sc (.int .i64 0)], [.sc (.int .i64 1)], [.sc (.int .i64 2)], [.sc (.int .i64 5)], [.sc (.int .i64 (-1))], [.sc (.int .i64 7)]] := rfl
  simp only [curC, cI, cB, hrp] at hp
  simp only [curC, cI, cB, hrp2] at hp2
  refine sound_triQN (fn := Try.f59) (c := Try.f59.body.getD .skip) (res := [.ce 2 32]) (n := 12) sized (by kernel_rfl) (by rfl) (by kernel_rfl) (by rfl) (by rfl) (by simp [argsV]) (fun uf ub C hpin hpin2 hqs => ?_)
  simp only [Try.f59, Option.getD_some]
  refine Tri.step sized ?_
  simp (decide := true) only [drop0, row1_length, rows_length, curC, memB, memoryW, memoryC, valueC, valueW, MemoryD.fail, vI, vB, vS, cI, cB, cS, roI, ro64, List.cons_append, List.nil_append, hpin, go_sem, Nat.reduceAdd, Nat.reduceMul]
  refine Tri.step sized ?_
  simp (decide := true) only [drop0, row1_length, rows_length, curC, memB, memoryW, memoryC, valueC, valueW, MemoryD.fail, vI, vB, vS, cI, cB, cS, roI, ro64, List.cons_append, List.nil_append, hpin, go_sem, Nat.reduceAdd, Nat.reduceMul]
  refine aCall_qeN (hp i h hi) hpin [(2001, 3005), (2000, 2000)] [(2001, 3005)] [(2000, 2000)] ⟨rfl, rfl, rfl, rfl⟩ (fun uf => ?_) ?_
  · simp (decide := true) only [drop0, row1_length, rows_length, curC, memB, memoryW, memoryC, valueC, valueW, MemoryD.fail, vI, vB, vS, cI, cB, cS, roI, ro64, List.cons_append, List.nil_append, hpin, hpin2, go_sem, Nat.reduceAdd, Nat.reduceMul]
  simp (decide := true) only [drop0, row1_length, rows_length, curC, memB, memoryW, memoryC, valueC, valueW, MemoryD.fail, vI, vB, vS, cI, cB, cS, roI, ro64, List.cons_append, List.nil_append, hpin, go_sem, Nat.reduceAdd, Nat.reduceMul]
  rintro ⟨x1, i1, h1⟩ ⟨p1, s1⟩
  simp only at s1
  refine code_sound sized _ ?_
  simp (decide := true) only [drop0, row1_length, rows_length, curC, memB, memoryW, memoryC, valueC, valueW, MemoryD.fail, vI, vB, vS, cI, cB, cS, roI, ro64, List.cons_append, List.nil_append, hpin, go_sem, Nat.reduceAdd, Nat.reduceMul]
  refine aCall_qeN (hp2 i1 h1 s1) hpin [(2001, 3009), (2000, 2000)] [(2001, 3009)] [(2000, 2000)] ⟨rfl, rfl, rfl, rfl⟩ (fun uf => ?_) ?_
  · simp (decide := true) only [drop0, row1_length, rows_length, curC, memB, memoryW, memoryC, valueC, valueW, MemoryD.fail, vI, vB, vS, cI, cB, cS, roI, ro64, List.cons_append, List.nil_append, hpin, hpin2, go_sem, Nat.reduceAdd, Nat.reduceMul]
  simp (decide := true) only [drop0, row1_length, rows_length, curC, memB, memoryW, memoryC, valueC, valueW, MemoryD.fail, vI, vB, vS, cI, cB, cS, roI, ro64, List.cons_append, List.nil_append, hpin, go_sem, Nat.reduceAdd, Nat.reduceMul]
  rintro ⟨x2, i2, h2⟩ ⟨p2, s2⟩
  exact ⟨(⟨x1, x2⟩, i2, h2), s2, rfl, rfl⟩
end Go.Proofs.Ytldniggehdpheaa.AW
