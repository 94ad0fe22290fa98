/- A cursor over drawn bytes: what comes of it is in its range. No condition beyond those named. -/
import Derived.Test.YtldniggehdpheaaDb
namespace Go.Proofs.Ytldniggehdpheaa.AW
open Go.RowKit
set_option maxHeartbeats 8000000
set_option maxRecDepth 100000
set_option linter.unusedSimpArgs false
set_option linter.unusedVariables false

def cU (n : Int) : D := .sc (.int .u8 n)
theorem bytes_sh (l : List Int) : shLL (row1 cU l) = row1 cU l := by simp [shLL_map, row1, shL, shD, cU]
theorem fCur0 : fo Try.prog 78 0 = some 0 := by kernel_rfl
theorem fCur1 : fo Try.prog 78 1 = some 1 := by kernel_rfl
theorem fCur2 : fo Try.prog 78 2 = some 2 := by kernel_rfl
theorem rCur : isR Try.prog 78 = some true := by kernel_rfl
theorem sCur : szT Try.prog 78 = 3 := by kernel_rfl
theorem zCur : zeroCells Try.prog 78 = some [.slice none 0 0, .int .i64 0, .int .i64 0] := by kernel_rfl
theorem plCur : placesT Try.prog 78 = some [(0, 1), (1, 1), (2, 1)] := by kernel_rfl
theorem rCurP : isR Try.prog 51 = some false := by kernel_rfl
theorem elBy : elT Try.prog 22 = some 5 := by kernel_rfl
theorem rByS : isR Try.prog 22 = some false := by kernel_rfl
theorem rBy : isR Try.prog 5 = some false := by kernel_rfl
theorem szBy : szT Try.prog 5 = 1 := by kernel_rfl
theorem szByS : szT Try.prog 22 = 1 := by kernel_rfl
theorem uIntK : Try.prog.underlying 3 = some (.int .i64) := by kernel_rfl
attribute [go_sem] uIntK fCur0 fCur1 fCur2 rCur sCur zCur plCur rCurP elBy rByS rBy szBy szByS bytes_sh

/-- A cursor's cells. -/
def curC (b : List Int) (i : Nat) (h : Int) : List D := [.row true 5 (row1 cU b), cI i, cI h]

theorem and255 (a : Int) : 0 ≤ bits .and .i64 a 255 ∧ bits .and .i64 a 255 ≤ 255 := by
  show 0 ≤ IntKind.i64.wrap ((BitVec.ofInt 64 a &&& BitVec.ofInt 64 255).toNat : Int) ∧ IntKind.i64.wrap ((BitVec.ofInt 64 a &&& BitVec.ofInt 64 255).toNat : Int) ≤ 255
  have h : (BitVec.ofInt 64 a &&& BitVec.ofInt 64 255).toNat ≤ 255 := by
    rw [BitVec.toNat_and]
    have : (BitVec.ofInt 64 255).toNat = 255 := by decide
    rw [this]
    exact Nat.and_le_right
  rw [w64 (by omega) (by omega)]
  omega

theorem curNew_sound (b : List Int) (hb : b.length ≤ 1048576) : SoundP Try.prog 32 [.imm 5 (row1 cU b)] (newBox (fun cs => ∃ h, cs = curC b 0 h)) := by
  refine sound_triP (fn := Try.f32) (c := Try.f32.body.getD .skip) (n := 32) (t := 2) sized (by kernel_rfl) (by rfl) (by kernel_rfl) (by rfl) (by rfl) (by simp) (fun C hpin hfull => ?_)
  simp only [Try.f32, Option.getD_some]
  refine Tri.step sized ?_
  simp (decide := true) only [drop0, row1_length, rows_length, curC, cU, vI, vB, vS, cI, cB, cS, roI, ro64, hpin, go_sem, Nat.reduceAdd, Nat.reduceMul]
  refine Tri.step sized ?_
  simp (decide := true) only [drop0, row1_length, rows_length, curC, cU, vI, vB, vS, cI, cB, cS, roI, ro64, hpin, go_sem, Nat.reduceAdd, Nat.reduceMul]
  generalize IntKind.i64.wrap (78201 + (b.length : Int)) = h0
  refine Tri.step sized ?_
  simp (decide := true) only [drop0, row1_length, rows_length, curC, cU, vI, vB, vS, cI, cB, cS, roI, ro64, hpin, go_sem, Nat.reduceAdd, Nat.reduceMul]
  refine Tri.loop (ι := Nat × Int) (fun q => q.1 ≤ b.length) (fun q => ⟨32, [(0, .imm 5 (row1 cU b)), (3, vI q.2), (4, vI q.1)], []⟩) (fun q => b.length - q.1) (0, h0) (by simp) ?_ ?_
  · refine Ent.weak ?_ ?_ ?_ ?_ <;> simp (decide := true) [subT, subB, hereT, hereV, hereL, St.get, look, vI, vB, vS, cI, cS, cB, cU, curC, roI]
  · rintro ⟨i, h⟩ hi
    simp only at hi ⊢
    refine code_sound sized _ ?_
    by_cases h' : i < b.length
    · have e : ((i : Int) < (b.length : Int)) = True := by simp [h']
      by_cases h4 : (i : Int) < 4000
      · have e4 : ((i : Int) < 4000) = True := eq_true h4
        simp (decide := true) only [e, e4, h', row1_get _ _ h', Int.natCast_nonneg, drop0, row1_length, rows_length, curC, cU, vI, vB, vS, cI, cB, cS, roI, ro64, hpin, go_sem, Nat.reduceAdd, Nat.reduceMul]
        refine ⟨(i + 1, bits .and .i64 (IntKind.i64.wrap (IntKind.i64.wrap (IntKind.i64.wrap (h * 131) + IntKind.i64.wrap b[i]) + 7)) 1073741823), h', by show b.length - (i + 1) < b.length - i; omega, Ent.weak ?_ ?_ ?_ ?_⟩
        all_goals simp (decide := true) [subT, subB, hereT, hereV, hereL, St.get, look, vI, vB, vS, cI, cS, cB, cU, curC, roI, w64s (n := b.length) h' (by omega)]
      · have e4 : ((i : Int) < 4000) = False := eq_false h4
        simp (decide := true) only [e, e4, h', Int.natCast_nonneg, drop0, row1_length, rows_length, curC, cU, vI, vB, vS, cI, cB, cS, roI, ro64, hpin, go_sem, Nat.reduceAdd, Nat.reduceMul]
        refine code_sound sized _ ?_
        simp (decide := true) only [drop0, row1_length, rows_length, curC, cU, vI, vB, vS, cI, cB, cS, roI, ro64, hpin, go_sem, Nat.reduceAdd, Nat.reduceMul]
        exact ⟨h, rfl⟩
    · have hil : i = b.length := by omega
      subst hil
      have e : ((b.length : Int) < (b.length : Int)) = False := by simp
      simp (decide := true) only [e, drop0, row1_length, rows_length, curC, cU, vI, vB, vS, cI, cB, cS, roI, ro64, hpin, go_sem, Nat.reduceAdd, Nat.reduceMul]
      refine code_sound sized _ ?_
      simp (decide := true) only [drop0, row1_length, rows_length, curC, cU, vI, vB, vS, cI, cB, cS, roI, ro64, hpin, go_sem, Nat.reduceAdd, Nat.reduceMul]
      exact ⟨h, rfl⟩

/-- What is known of a byte drawn, and of the cursor behind it. -/
def CurN (b : List Int) (n : Int) (q : Int × Nat × Int) : Prop := 0 ≤ q.1 ∧ q.1 < n ∧ q.2.1 ≤ b.length
theorem curByte_sound (b : List Int) (i : Nat) (h : Int) (hi : i ≤ b.length) (hb : b.length ≤ 1048576) : SoundQN Try.prog 65 [] (fun uf => argsV 0 [.ro (.bp 2000 0)]) [(2000, .box (curC b i h))]
    (fun rs st => ∃ q : Int × Nat × Int, CurN b 256 q ∧ rs = [(false, [cI q.1])] ∧ nowIs st.ob [(2000, .box (curC b q.2.1 q.2.2))]) := by
  unfold CurN
  refine sound_triQN (fn := Try.f65) (c := Try.f65.body.getD .skip) (res := [.tm 2]) (n := 58) sized (by kernel_rfl) (by rfl) (by kernel_rfl) (by rfl) (by rfl) (by simp [argsV]) (fun uf ub C hpin hpin2 hqs => ?_)
  simp only [Try.f65, Option.getD_some]
  refine Tri.step sized ?_
  simp (decide := true) only [drop0, row1_length, rows_length, curC, cU, vI, vB, vS, cI, cB, cS, roI, ro64, hpin, hpin2, go_sem, Nat.reduceAdd, Nat.reduceMul]
  refine Tri.step sized ?_
  simp (decide := true) only [drop0, row1_length, rows_length, curC, cU, vI, vB, vS, cI, cB, cS, roI, ro64, hpin, hpin2, go_sem, Nat.reduceAdd, Nat.reduceMul]
  generalize IntKind.i64.wrap (IntKind.i64.wrap (h * 6364136223846793005) + 1442695040888963407) = h2
  refine Tri.step sized ?_
  refine Tri.draw sized mixed (by kernel_rfl) ?_
  simp (decide := true) only [drop0, row1_length, rows_length, curC, cU, vI, vB, vS, cI, cB, cS, roI, ro64, hpin, hpin2, go_sem, Nat.reduceAdd, Nat.reduceMul]
  have hx := and255 (bits .xor .i64 (h2.fdiv (2 ^ min (Int.toNat 33) 64)) (h2.fdiv (2 ^ min (Int.toNat 45) 64)))
  generalize bits .and .i64 (bits .xor .i64 (h2.fdiv (2 ^ min (Int.toNat 33) 64)) (h2.fdiv (2 ^ min (Int.toNat 45) 64))) 255 = x at hx ⊢
  refine Tri.step sized ?_
  simp (decide := true) only [drop0, row1_length, rows_length, curC, cU, vI, vB, vS, cI, cB, cS, roI, ro64, hpin, hpin2, go_sem, Nat.reduceAdd, Nat.reduceMul]
  refine Tri.draw sized mixed (by kernel_rfl) ?_
  simp (decide := true) only [drop0, row1_length, rows_length, curC, cU, vI, vB, vS, cI, cB, cS, roI, ro64, hpin, hpin2, go_sem, Nat.reduceAdd, Nat.reduceMul]
  by_cases h' : i < b.length
  · have e : ((i : Int) < (b.length : Int)) = True := by simp [h']
    simp (decide := true) only [e, drop0, row1_length, rows_length, curC, cU, vI, vB, vS, cI, cB, cS, roI, ro64, hpin, hpin2, go_sem, Nat.reduceAdd, Nat.reduceMul]
    refine Tri.draw sized mixed (by kernel_rfl) ?_
    simp (decide := true) only [h', row1_get _ _ h', Int.natCast_nonneg, drop0, row1_length, rows_length, curC, cU, vI, vB, vS, cI, cB, cS, roI, ro64, hpin, hpin2, go_sem, Nat.reduceAdd, Nat.reduceMul]
    have hy := and255 (IntKind.i64.wrap (x + IntKind.i64.wrap b[i]))
    generalize bits .and .i64 (IntKind.i64.wrap (x + IntKind.i64.wrap b[i])) 255 = y at hy ⊢
    refine ⟨by omega, ?_⟩
    refine code_sound sized _ ?_
    simp (decide := true) only [w64s (n := b.length) h' (by omega), drop0, row1_length, rows_length, curC, cU, vI, vB, vS, cI, cB, cS, roI, ro64, hpin, hpin2, go_sem, Nat.reduceAdd, Nat.reduceMul]
    exact ⟨(y, i + 1, h2), ⟨hy.1, by show y < 256; omega, h'⟩, rfl, rfl⟩
  · have e : ((i : Int) < (b.length : Int)) = False := by simpa using h'
    simp (decide := true) only [e, drop0, row1_length, rows_length, curC, cU, vI, vB, vS, cI, cB, cS, roI, ro64, hpin, hpin2, go_sem, Nat.reduceAdd, Nat.reduceMul]
    refine code_sound sized _ ?_
    simp (decide := true) only [drop0, row1_length, rows_length, curC, cU, vI, vB, vS, cI, cB, cS, roI, ro64, hpin, hpin2, go_sem, Nat.reduceAdd, Nat.reduceMul]
    exact ⟨(x, i, h2), ⟨hx.1, by show x < 256; omega, hi⟩, rfl, rfl⟩

theorem curBelow_sound (b : List Int) (i : Nat) (h : Int) (n : Int) (hi : i ≤ b.length) (hb : b.length ≤ 1048576) (hn : 0 < n) : SoundQN Try.prog 57 [] (fun uf => argsV 0 [.ro (.bp 2000 0), .ro (.sc (.int .i64 n))]) [(2000, .box (curC b i h))]
    (fun rs st => ∃ q : Int × Nat × Int, CurN b n q ∧ rs = [(false, [cI q.1])] ∧ nowIs st.ob [(2000, .box (curC b q.2.1 q.2.2))]) := by
  unfold CurN
  have hc := fun i h hi => curByte_sound b i h hi hb
  simp only [curC, cI] at hc
  refine sound_triQN (fn := Try.f57) (c := Try.f57.body.getD .skip) (res := [.tm 4]) (n := 37) sized (by kernel_rfl) (by rfl) (by kernel_rfl) (by rfl) (by rfl) (by simp [argsV]) (fun uf ub C hpin hpin2 hqs => ?_)
  simp only [Try.f57, Option.getD_some]
  have e0 : (n ≤ 0) = False := eq_false (by omega)
  have hn0 : n ≠ 0 := by omega
  refine Tri.step sized ?_
  simp (decide := true) only [drop0, row1_length, rows_length, curC, cU, vI, vB, vS, cI, cB, cS, roI, ro64, hpin, hpin2, go_sem, Nat.reduceAdd, Nat.reduceMul]
  refine Tri.step sized ?_
  simp (decide := true) only [e0, drop0, row1_length, rows_length, curC, cU, vI, vB, vS, cI, cB, cS, roI, ro64, hpin, hpin2, go_sem, Nat.reduceAdd, Nat.reduceMul]
  refine Tri.step sized ?_
  by_cases h2 : n ≤ 256
  · have e1 : (n ≤ 256) = True := eq_true h2
    simp (decide := true) only [e1, drop0, row1_length, rows_length, curC, cU, vI, vB, vS, cI, cB, cS, roI, ro64, hpin, hpin2, go_sem, Nat.reduceAdd, Nat.reduceMul]
    refine aCall_qeN (hc i h hi) hpin [(2000, 2000)] [] [(2000, 2000)] ⟨rfl, rfl, rfl, rfl⟩ (fun uf => ?_) ?_
    · simp (decide := true) only [drop0, row1_length, rows_length, curC, cU, vI, vB, vS, cI, cB, cS, roI, ro64, hpin, hpin2, go_sem, Nat.reduceAdd, Nat.reduceMul]
    simp (decide := true) only [drop0, row1_length, rows_length, curC, cU, vI, vB, vS, cI, cB, cS, roI, ro64, hpin, hpin2, go_sem, Nat.reduceAdd, Nat.reduceMul]
    intro q hq
    obtain ⟨q0, q1, q2⟩ := hq
    obtain ⟨x, j, g⟩ := q
    exact ⟨hn0, (x.tmod n, j, g), ⟨Int.tmod_nonneg _ q0, Int.tmod_lt_of_pos _ hn, q2⟩, rfl, rfl⟩
  · have e1 : (n ≤ 256) = False := eq_false h2
    simp (decide := true) only [e1, drop0, row1_length, rows_length, curC, cU, vI, vB, vS, cI, cB, cS, roI, ro64, hpin, hpin2, go_sem, Nat.reduceAdd, Nat.reduceMul]
    refine Tri.step sized ?_
    simp (decide := true) only [drop0, row1_length, rows_length, curC, cU, vI, vB, vS, cI, cB, cS, roI, ro64, hpin, hpin2, go_sem, Nat.reduceAdd, Nat.reduceMul]
    refine aCall_qeN (hc i h hi) hpin [(2000, 2000)] [] [(2000, 2000)] ⟨rfl, rfl, rfl, rfl⟩ (fun uf => ?_) ?_
    · simp (decide := true) only [drop0, row1_length, rows_length, curC, cU, vI, vB, vS, cI, cB, cS, roI, ro64, hpin, hpin2, go_sem, Nat.reduceAdd, Nat.reduceMul]
    simp (decide := true) only [drop0, row1_length, rows_length, curC, cU, vI, vB, vS, cI, cB, cS, roI, ro64, hpin, hpin2, go_sem, Nat.reduceAdd, Nat.reduceMul]
    rintro ⟨x1, i1, h1⟩ ⟨p1, r1, s1⟩
    refine Tri.step sized ?_
    simp (decide := true) only [drop0, row1_length, rows_length, curC, cU, vI, vB, vS, cI, cB, cS, roI, ro64, hpin, hpin2, go_sem, Nat.reduceAdd, Nat.reduceMul]
    refine aCall_qeN (hc i1 h1 s1) hpin [(2000, 2000)] [] [(2000, 2000)] ⟨rfl, rfl, rfl, rfl⟩ (fun uf => ?_) ?_
    · simp (decide := true) only [drop0, row1_length, rows_length, curC, cU, vI, vB, vS, cI, cB, cS, roI, ro64, hpin, hpin2, go_sem, Nat.reduceAdd, Nat.reduceMul]
    simp (decide := true) only [drop0, row1_length, rows_length, curC, cU, vI, vB, vS, cI, cB, cS, roI, ro64, hpin, hpin2, go_sem, Nat.reduceAdd, Nat.reduceMul]
    rintro ⟨x2, i2, h2⟩ ⟨p2, r2, s2⟩
    refine Tri.step sized ?_
    simp (decide := true) only [drop0, row1_length, rows_length, curC, cU, vI, vB, vS, cI, cB, cS, roI, ro64, hpin, hpin2, go_sem, Nat.reduceAdd, Nat.reduceMul]
    refine aCall_qeN (hc i2 h2 s2) hpin [(2000, 2000)] [] [(2000, 2000)] ⟨rfl, rfl, rfl, rfl⟩ (fun uf => ?_) ?_
    · simp (decide := true) only [drop0, row1_length, rows_length, curC, cU, vI, vB, vS, cI, cB, cS, roI, ro64, hpin, hpin2, go_sem, Nat.reduceAdd, Nat.reduceMul]
    simp (decide := true) only [drop0, row1_length, rows_length, curC, cU, vI, vB, vS, cI, cB, cS, roI, ro64, hpin, hpin2, go_sem, Nat.reduceAdd, Nat.reduceMul]
    rintro ⟨x3, i3, h3⟩ ⟨p3, r3, s3⟩
    refine Tri.step sized ?_
    simp (decide := true) only [drop0, row1_length, rows_length, curC, cU, vI, vB, vS, cI, cB, cS, roI, ro64, hpin, hpin2, go_sem, Nat.reduceAdd, Nat.reduceMul]
    refine aCall_qeN (hc i3 h3 s3) hpin [(2000, 2000)] [] [(2000, 2000)] ⟨rfl, rfl, rfl, rfl⟩ (fun uf => ?_) ?_
    · simp (decide := true) only [drop0, row1_length, rows_length, curC, cU, vI, vB, vS, cI, cB, cS, roI, ro64, hpin, hpin2, go_sem, Nat.reduceAdd, Nat.reduceMul]
    simp (decide := true) only [drop0, row1_length, rows_length, curC, cU, vI, vB, vS, cI, cB, cS, roI, ro64, hpin, hpin2, go_sem, Nat.reduceAdd, Nat.reduceMul]
    rintro ⟨x4, i4, h4⟩ ⟨p4, r4, s4⟩
    simp only at p1 r1 s1 p2 r2 s2 p3 r3 s3 p4 r4 s4
    refine code_sound sized _ ?_
    have w1 : IntKind.i64.wrap (x1 * 16777216) = x1 * 16777216 := w64 (by omega) (by omega)
    have w2 : IntKind.i64.wrap (x2 * 65536) = x2 * 65536 := w64 (by omega) (by omega)
    have w3 : IntKind.i64.wrap (x3 * 256) = x3 * 256 := w64 (by omega) (by omega)
    have w4 : IntKind.i64.wrap (x1 * 16777216 + x2 * 65536) = x1 * 16777216 + x2 * 65536 := w64 (by omega) (by omega)
    have w5 : IntKind.i64.wrap (x1 * 16777216 + x2 * 65536 + x3 * 256) = x1 * 16777216 + x2 * 65536 + x3 * 256 := w64 (by omega) (by omega)
    have w6 : IntKind.i64.wrap (x1 * 16777216 + x2 * 65536 + x3 * 256 + x4) = x1 * 16777216 + x2 * 65536 + x3 * 256 + x4 := w64 (by omega) (by omega)
    simp (decide := true) only [w1, w2, w3, w4, w5, w6, drop0, row1_length, rows_length, curC, cU, vI, vB, vS, cI, cB, cS, roI, ro64, hpin, hpin2, go_sem, Nat.reduceAdd, Nat.reduceMul]
    exact ⟨hn0, ((x1 * 16777216 + x2 * 65536 + x3 * 256 + x4).tmod n, i4, h4), ⟨Int.tmod_nonneg _ (by omega), Int.tmod_lt_of_pos _ hn, s4⟩, rfl, rfl⟩

theorem curOnce_sound (b : List Int) (i : Nat) (h : Int) (n : Int) (hi : i ≤ b.length) (hb : b.length ≤ 1048576) (hn : 0 < n) : SoundQN Try.prog 67 [] (fun uf => argsV 0 [.ro (.bp 2000 0), .ro (.sc (.int .i64 n))]) [(2000, .box (curC b i h))]
    (fun rs st => ∃ q : Bool × Nat × Int, q.2.1 ≤ b.length ∧ rs = [(false, [cB q.1])] ∧ nowIs st.ob [(2000, .box (curC b q.2.1 q.2.2))]) := by
  have hc := curBelow_sound b i h n hi hb hn
  simp only [curC, cI] at hc
  refine sound_triQN (fn := Try.f67) (c := Try.f67.body.getD .skip) (res := [.tm 4]) (n := 9) sized (by kernel_rfl) (by rfl) (by kernel_rfl) (by rfl) (by rfl) (by simp [argsV]) (fun uf ub C hpin hpin2 hqs => ?_)
  simp only [Try.f67, Option.getD_some]
  refine Tri.step sized ?_
  simp (decide := true) only [drop0, row1_length, rows_length, curC, cU, vI, vB, vS, cI, cB, cS, roI, ro64, hpin, hpin2, go_sem, Nat.reduceAdd, Nat.reduceMul]
  refine code_sound sized _ ?_
  simp (decide := true) only [drop0, row1_length, rows_length, curC, cU, vI, vB, vS, cI, cB, cS, roI, ro64, hpin, hpin2, go_sem, Nat.reduceAdd, Nat.reduceMul]
  refine aCall_qeN hc hpin [(2000, 2000)] [] [(2000, 2000)] ⟨rfl, rfl, rfl, rfl⟩ (fun uf => ?_) ?_
  · simp (decide := true) only [drop0, row1_length, rows_length, curC, cU, vI, vB, vS, cI, cB, cS, roI, ro64, hpin, hpin2, go_sem, Nat.reduceAdd, Nat.reduceMul]
  simp (decide := true) only [drop0, row1_length, rows_length, curC, cU, vI, vB, vS, cI, cB, cS, roI, ro64, hpin, hpin2, go_sem, Nat.reduceAdd, Nat.reduceMul]
  rintro ⟨x, j, g⟩ ⟨p1, r1, s1⟩
  exact ⟨(x == 0, j, g), s1, rfl, rfl⟩

theorem curPickInt_sound (b : List Int) (i : Nat) (h : Int) (l : List Int) (hi : i ≤ b.length) (hb : b.length ≤ 1048576) (hl : 0 < l.length) (hl2 : l.length ≤ 1048576) : SoundQN Try.prog 33 [] (fun uf => argsV 0 [.ro (.bp 2000 0), .ro (.ref 2001 [] l.length)]) [(2001, .row 3 (row1 cI l)), (2000, .box (curC b i h))]
    (fun rs st => ∃ q : Int × Nat × Int, (q.1 ∈ l ∧ q.2.1 ≤ b.length) ∧ rs = [(false, [cI q.1])] ∧ nowIs st.ob [(2001, .row 3 (row1 cI l)), (2000, .box (curC b q.2.1 q.2.2))]) := by
  have hc := curBelow_sound b i h l.length hi hb (by omega)
  simp only [curC, cI] at hc
  refine sound_triQN (fn := Try.f33) (c := Try.f33.body.getD .skip) (res := [.tm 4]) (n := 12) sized (by kernel_rfl) (by rfl) (by kernel_rfl) (by rfl) (by rfl) (by simp [argsV]) (fun uf ub C hpin hpin2 hqs => ?_)
  simp only [Try.f33, Option.getD_some]
  refine Tri.step sized ?_
  simp (decide := true) only [drop0, row1_length, rows_length, curC, cU, vI, vB, vS, cI, cB, cS, roI, ro64, hpin, hpin2, go_sem, Nat.reduceAdd, Nat.reduceMul]
  refine code_sound sized _ ?_
  simp (decide := true) only [drop0, row1_length, rows_length, curC, cU, vI, vB, vS, cI, cB, cS, roI, ro64, hpin, hpin2, go_sem, Nat.reduceAdd, Nat.reduceMul]
  refine aCall_qeN hc hpin [(2000, 2000)] [] [(2000, 2000)] ⟨rfl, rfl, rfl, rfl⟩ (fun uf => ?_) ?_
  · simp (decide := true) only [drop0, row1_length, rows_length, curC, cU, vI, vB, vS, cI, cB, cS, roI, ro64, hpin, hpin2, go_sem, Nat.reduceAdd, Nat.reduceMul]
  simp (decide := true) only [drop0, row1_length, rows_length, curC, cU, vI, vB, vS, cI, cB, cS, roI, ro64, hpin, hpin2, go_sem, Nat.reduceAdd, Nat.reduceMul]
  rintro ⟨x, j, g⟩ ⟨p1, r1, s1⟩
  simp only at p1 r1 s1
  obtain ⟨k, rfl⟩ : ∃ k : Nat, x = k := ⟨x.toNat, by omega⟩
  have hk : k < l.length := by omega
  have hkt : ((k : Int) < (l.length : Int)) = True := eq_true r1
  simp (decide := true) only [hkt, hk, Int.toNat_natCast, row1_getq' _ _ hk, Int.natCast_nonneg, drop0, row1_length, rows_length, curC, cU, vI, vB, vS, cI, cB, cS, roI, ro64, hpin, hpin2, go_sem, Nat.reduceAdd, Nat.reduceMul]

  exact ⟨(l[k], j, g), ⟨List.getElem_mem hk, s1⟩, rfl, rfl⟩
end Go.Proofs.Ytldniggehdpheaa.AW
