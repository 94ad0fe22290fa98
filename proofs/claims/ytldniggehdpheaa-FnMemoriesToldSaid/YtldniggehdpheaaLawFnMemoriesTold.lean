/- What is told of a drawn memory is told alike by both sides: FnMemoriesTold answers true. No condition beyond those named. -/
import Derived.Test.YtldniggehdpheaaDs
namespace Go.Proofs.Ytldniggehdpheaa.AW
open Go.RowKit
set_option maxHeartbeats 16000000
set_option maxRecDepth 100000
set_option linter.unusedSimpArgs false
set_option linter.unusedVariables false

noncomputable def FM : Array Field := Try.prog.fieldsOf 27
noncomputable def FM3 : Field := (FM[3]?).get (by kernel_rfl)
theorem fmu : Try.prog.underlying 27 = some (.struct FM) := by kernel_rfl
theorem fm3 : FM[3]? = some FM3 := by kernel_rfl
theorem fmr : isR Try.prog FM3.type = some false := by kernel_rfl
theorem fmo : FM3.offset = 3 := by kernel_rfl
theorem mids {m : MemoryD} (h : DrM m) : SmallM m ∧ SmallM (spendM m) ∧ (∀ n, SmallM (freshM m n).1) ∧ (∀ v, SmallM (movedM m v).1) ∧ (∀ v, SmallM (freedM m v)) ∧ (∀ v, SmallM (lookedM m v).1) ∧ (∀ v n, SmallM (writtenM m v n)) ∧ SmallM (askedM m).1 ∧ (∀ n, SmallM (toldM m n)) ∧ (∀ a b, SmallM (summedM m a b).1) := by
  obtain ⟨h1, h2, h3, h4⟩ := h
  have h0 : SmallM m := ⟨by omega, by omega, by omega, by omega⟩
  have hf : ∀ k, SmallM (m.fail k) := fun k => h0
  have hfr : ∀ (m : MemoryD) n, m.cells.length ≤ 6 → m.input.length ≤ 2 → m.out.length = 0 → m.fuel < 1048576 → SmallM (freshM m n).1 := fun m n g1 g2 g3 g4 => by
    unfold freshM; split
    · exact ⟨by show (m.cells ++ _).length ≤ _; simp; omega, by show m.input.length ≤ _; omega, by show m.out.length ≤ _; omega, by show m.fuel < _; omega⟩
    · exact ⟨by show m.cells.length ≤ _; omega, by show m.input.length ≤ _; omega, by show m.out.length ≤ _; omega, by show m.fuel < _; omega⟩
  have hdead : ∀ k, SmallM (deadM m k) := fun k => ⟨by show (m.cells.set _ _).length ≤ _; simp; omega, h0.2⟩
  refine ⟨h0, ?_, fun n => hfr m n h1 h2 h3 h4, fun v => ?_, fun v => ?_, fun v => ?_, fun v n => ?_, ?_, fun n => ?_, fun a b => ?_⟩
  · unfold spendM; split
    · split
      · exact ⟨h0.1, h0.2.1, h0.2.2.1, by show m.fuel - 1 < _; omega⟩
      · exact hf 1
    · exact h0
  · unfold movedM; split
    · split
      · split
        · exact hfr _ _ (by show (m.cells.set _ _).length ≤ _; simp; omega) h2 h3 h4
        · exact hf 5
      · exact h0
    · exact h0
  · unfold freedM; split
    · exact hdead _
    · exact h0
  · unfold lookedM; split
    · split
      · exact h0
      · exact hf 5
    · exact h0
  · unfold writtenM; split
    · split
      · exact ⟨by show (m.cells.set _ _).length ≤ _; simp; omega, h0.2⟩
      · exact hf 5
    · exact h0
  · unfold askedM; split
    · split
      · exact hf 2
      · rename_i x r hi
        rw [hi] at h2
        simp only [List.length_cons] at h2
        exact ⟨h0.1, by show r.length ≤ _; omega, h0.2.2⟩
    · exact h0
  · unfold toldM; split
    · exact ⟨h0.1, h0.2.1, by show (m.out ++ _).length ≤ _; simp; omega, h0.2.2.2⟩
    · exact h0
  · unfold summedM; split
    · split
      · exact h0
      · exact hf 3
    · exact h0
theorem big_sound (b : List Int) : Sound Try.prog 4 [.ro (.imm 5 (row1 cU b))] (fun rs st => rs = [(false, [cB (decide (1048576 < (b.length : Int)))])]) := by
  refine sound_tri (fn := Try.f4) (c := Try.f4.body.getD .skip) (res := [.tm 2]) (n := 6) sized (by kernel_rfl) (by rfl) (by kernel_rfl) (by rfl) (by rfl) (by simp [argsV]) (fun uf ub C hpin hpin2 hfull => ?_)
  simp only [Try.f4, Option.getD_some]
  refine Tri.step sized ?_
  simp (decide := true) only [drop0, row1_length, rows_length, memB, memoryC, memoryW, valueC, valueW, vI, vB, vS, cI, cB, cS, roI, ro64, List.cons_append, List.nil_append, hpin, go_sem, Nat.reduceAdd, Nat.reduceMul]
  refine code_sound sized _ ?_
  simp (decide := true) only [gt_iff_lt, drop0, row1_length, rows_length, memB, memoryC, memoryW, valueC, valueW, vI, vB, vS, cI, cB, cS, roI, ro64, List.cons_append, List.nil_append, hpin, go_sem, Nat.reduceAdd, Nat.reduceMul]
noncomputable def R19 : Array Oper := opsOf 19 (Try.f3.body.getD .skip)
theorem R19_a : Region.noSelect R19 = true := by kernel_rfl
theorem R19_b : (([(0, true), (2, true), (1, false), (3, false), (4, false), (5, false), (6, true), (7, false), (8, false), (9, false), (10, false), (11, true), (12, false), (13, false), (14, false), (15, false), (16, true), (17, false), (18, false), (19, false), (20, false), (21, true), (22, false), (23, false), (24, false), (25, false), (26, true), (27, false), (28, false), (29, false), (30, false), (31, true), (32, false), (33, false), (34, false), (35, false), (36, true), (37, true), (39, true), (40, true), (38, false), (41, false), (42, false), (43, false), (44, false), (47, true), (51, true), (45, true), (46, true), (49, true), (50, true), (48, false), (52, false), (53, false), (54, false), (55, false), (56, true), (57, false), (58, false), (59, false), (60, false), (61, true), (62, false), (63, false), (64, false), (65, false), (67, true), (70, true), (66, true), (69, true), (68, false), (71, false), (72, false), (73, false), (74, false), (75, true), (76, false), (77, false), (78, false), (79, false), (80, true), (81, false), (82, false), (83, false), (84, false), (85, false), (86, false), (87, false), (88, false), (89, false), (90, false)] : List (Nat × Bool)).length == R19.size) = true := by kernel_rfl
theorem R19_c : Array.replicate R19.size false = #[false, false, false, false, false, false, false, false, false, false, false, false, false, false, false, false, false, false, false, false, false, false, false, false, false, false, false, false, false, false, false, false, false, false, false, false, false, false, false, false, false, false, false, false, false, false, false, false, false, false, false, false, false, false, false, false, false, false, false, false, false, false, false, false, false, false, false, false, false, false, false, false, false, false, false, false, false, false, false, false, false, false, false, false, false, false, false, false, false, false, false] := by kernel_rfl
theorem R19_0 : schedC R19 [(0, true), (2, true), (1, false), (3, false), (4, false), (5, false)] #[false, false, false, false, false, false, false, false, false, false, false, false, false, false, false, false, false, false, false, false, false, false, false, false, false, false, false, false, false, false, false, false, false, false, false, false, false, false, false, false, false, false, false, false, false, false, false, false, false, false, false, false, false, false, false, false, false, false, false, false, false, false, false, false, false, false, false, false, false, false, false, false, false, false, false, false, false, false, false, false, false, false, false, false, false, false, false, false, false, false, false] = true := by kernel_rfl
theorem R19_1 : schedC R19 [(6, true), (7, false), (8, false), (9, false), (10, false), (11, true)] #[true, true, true, true, true, true, false, false, false, false, false, false, false, false, false, false, false, false, false, false, false, false, false, false, false, false, false, false, false, false, false, false, false, false, false, false, false, false, false, false, false, false, false, false, false, false, false, false, false, false, false, false, false, false, false, false, false, false, false, false, false, false, false, false, false, false, false, false, false, false, false, false, false, false, false, false, false, false, false, false, false, false, false, false, false, false, false, false, false, false, false] = true := by kernel_rfl
theorem R19_2 : schedC R19 [(12, false), (13, false), (14, false), (15, false), (16, true), (17, false)] #[true, true, true, true, true, true, true, true, true, true, true, true, false, false, false, false, false, false, false, false, false, false, false, false, false, false, false, false, false, false, false, false, false, false, false, false, false, false, false, false, false, false, false, false, false, false, false, false, false, false, false, false, false, false, false, false, false, false, false, false, false, false, false, false, false, false, false, false, false, false, false, false, false, false, false, false, false, false, false, false, false, false, false, false, false, false, false, false, false, false, false] = true := by kernel_rfl
theorem R19_3 : schedC R19 [(18, false), (19, false), (20, false), (21, true), (22, false), (23, false)] #[true, true, true, true, true, true, true, true, true, true, true, true, true, true, true, true, true, true, false, false, false, false, false, false, false, false, false, false, false, false, false, false, false, false, false, false, false, false, false, false, false, false, false, false, false, false, false, false, false, false, false, false, false, false, false, false, false, false, false, false, false, false, false, false, false, false, false, false, false, false, false, false, false, false, false, false, false, false, false, false, false, false, false, false, false, false, false, false, false, false, false] = true := by kernel_rfl
theorem R19_4 : schedC R19 [(24, false), (25, false), (26, true), (27, false), (28, false), (29, false)] #[true, true, true, true, true, true, true, true, true, true, true, true, true, true, true, true, true, true, true, true, true, true, true, true, false, false, false, false, false, false, false, false, false, false, false, false, false, false, false, false, false, false, false, false, false, false, false, false, false, false, false, false, false, false, false, false, false, false, false, false, false, false, false, false, false, false, false, false, false, false, false, false, false, false, false, false, false, false, false, false, false, false, false, false, false, false, false, false, false, false, false] = true := by kernel_rfl
theorem R19_5 : schedC R19 [(30, false), (31, true), (32, false), (33, false), (34, false), (35, false)] #[true, true, true, true, true, true, true, true, true, true, true, true, true, true, true, true, true, true, true, true, true, true, true, true, true, true, true, true, true, true, false, false, false, false, false, false, false, false, false, false, false, false, false, false, false, false, false, false, false, false, false, false, false, false, false, false, false, false, false, false, false, false, false, false, false, false, false, false, false, false, false, false, false, false, false, false, false, false, false, false, false, false, false, false, false, false, false, false, false, false, false] = true := by kernel_rfl
theorem R19_6 : schedC R19 [(36, true), (37, true), (39, true), (40, true), (38, false), (41, false)] #[true, true, true, true, true, true, true, true, true, true, true, true, true, true, true, true, true, true, true, true, true, true, true, true, true, true, true, true, true, true, true, true, true, true, true, true, false, false, false, false, false, false, false, false, false, false, false, false, false, false, false, false, false, false, false, false, false, false, false, false, false, false, false, false, false, false, false, false, false, false, false, false, false, false, false, false, false, false, false, false, false, false, false, false, false, false, false, false, false, false, false] = true := by kernel_rfl
theorem R19_7 : schedC R19 [(42, false), (43, false), (44, false), (47, true), (51, true), (45, true)] #[true, true, true, true, true, true, true, true, true, true, true, true, true, true, true, true, true, true, true, true, true, true, true, true, true, true, true, true, true, true, true, true, true, true, true, true, true, true, true, true, true, true, false, false, false, false, false, false, false, false, false, false, false, false, false, false, false, false, false, false, false, false, false, false, false, false, false, false, false, false, false, false, false, false, false, false, false, false, false, false, false, false, false, false, false, false, false, false, false, false, false] = true := by kernel_rfl
theorem R19_8 : schedC R19 [(46, true), (49, true), (50, true), (48, false), (52, false), (53, false)] #[true, true, true, true, true, true, true, true, true, true, true, true, true, true, true, true, true, true, true, true, true, true, true, true, true, true, true, true, true, true, true, true, true, true, true, true, true, true, true, true, true, true, true, true, true, true, false, true, false, false, false, true, false, false, false, false, false, false, false, false, false, false, false, false, false, false, false, false, false, false, false, false, false, false, false, false, false, false, false, false, false, false, false, false, false, false, false, false, false, false, false] = true := by kernel_rfl
theorem R19_9 : schedC R19 [(54, false), (55, false), (56, true), (57, false), (58, false), (59, false)] #[true, true, true, true, true, true, true, true, true, true, true, true, true, true, true, true, true, true, true, true, true, true, true, true, true, true, true, true, true, true, true, true, true, true, true, true, true, true, true, true, true, true, true, true, true, true, true, true, true, true, true, true, true, true, false, false, false, false, false, false, false, false, false, false, false, false, false, false, false, false, false, false, false, false, false, false, false, false, false, false, false, false, false, false, false, false, false, false, false, false, false] = true := by kernel_rfl
theorem R19_10 : schedC R19 [(60, false), (61, true), (62, false), (63, false), (64, false), (65, false)] #[true, true, true, true, true, true, true, true, true, true, true, true, true, true, true, true, true, true, true, true, true, true, true, true, true, true, true, true, true, true, true, true, true, true, true, true, true, true, true, true, true, true, true, true, true, true, true, true, true, true, true, true, true, true, true, true, true, true, true, true, false, false, false, false, false, false, false, false, false, false, false, false, false, false, false, false, false, false, false, false, false, false, false, false, false, false, false, false, false, false, false] = true := by kernel_rfl
theorem R19_11 : schedC R19 [(67, true), (70, true), (66, true), (69, true), (68, false), (71, false)] #[true, true, true, true, true, true, true, true, true, true, true, true, true, true, true, true, true, true, true, true, true, true, true, true, true, true, true, true, true, true, true, true, true, true, true, true, true, true, true, true, true, true, true, true, true, true, true, true, true, true, true, true, true, true, true, true, true, true, true, true, true, true, true, true, true, true, false, false, false, false, false, false, false, false, false, false, false, false, false, false, false, false, false, false, false, false, false, false, false, false, false] = true := by kernel_rfl
theorem R19_12 : schedC R19 [(72, false), (73, false), (74, false), (75, true), (76, false), (77, false)] #[true, true, true, true, true, true, true, true, true, true, true, true, true, true, true, true, true, true, true, true, true, true, true, true, true, true, true, true, true, true, true, true, true, true, true, true, true, true, true, true, true, true, true, true, true, true, true, true, true, true, true, true, true, true, true, true, true, true, true, true, true, true, true, true, true, true, true, true, true, true, true, true, false, false, false, false, false, false, false, false, false, false, false, false, false, false, false, false, false, false, false] = true := by kernel_rfl
theorem R19_13 : schedC R19 [(78, false), (79, false), (80, true), (81, false), (82, false), (83, false)] #[true, true, true, true, true, true, true, true, true, true, true, true, true, true, true, true, true, true, true, true, true, true, true, true, true, true, true, true, true, true, true, true, true, true, true, true, true, true, true, true, true, true, true, true, true, true, true, true, true, true, true, true, true, true, true, true, true, true, true, true, true, true, true, true, true, true, true, true, true, true, true, true, true, true, true, true, true, true, false, false, false, false, false, false, false, false, false, false, false, false, false] = true := by kernel_rfl
theorem R19_14 : schedC R19 [(84, false), (85, false), (86, false), (87, false), (88, false), (89, false)] #[true, true, true, true, true, true, true, true, true, true, true, true, true, true, true, true, true, true, true, true, true, true, true, true, true, true, true, true, true, true, true, true, true, true, true, true, true, true, true, true, true, true, true, true, true, true, true, true, true, true, true, true, true, true, true, true, true, true, true, true, true, true, true, true, true, true, true, true, true, true, true, true, true, true, true, true, true, true, true, true, true, true, true, true, false, false, false, false, false, false, false] = true := by kernel_rfl
theorem R19_15 : schedC R19 [(90, false)] #[true, true, true, true, true, true, true, true, true, true, true, true, true, true, true, true, true, true, true, true, true, true, true, true, true, true, true, true, true, true, true, true, true, true, true, true, true, true, true, true, true, true, true, true, true, true, true, true, true, true, true, true, true, true, true, true, true, true, true, true, true, true, true, true, true, true, true, true, true, true, true, true, true, true, true, true, true, true, true, true, true, true, true, true, true, true, true, true, true, true, false] = true := by kernel_rfl
theorem R19_z : schedB R19 [] #[true, true, true, true, true, true, true, true, true, true, true, true, true, true, true, true, true, true, true, true, true, true, true, true, true, true, true, true, true, true, true, true, true, true, true, true, true, true, true, true, true, true, true, true, true, true, true, true, true, true, true, true, true, true, true, true, true, true, true, true, true, true, true, true, true, true, true, true, true, true, true, true, true, true, true, true, true, true, true, true, true, true, true, true, true, true, true, true, true, true, true] = true := by kernel_rfl
theorem R19_ok : schedOk R19 [(0, true), (2, true), (1, false), (3, false), (4, false), (5, false), (6, true), (7, false), (8, false), (9, false), (10, false), (11, true), (12, false), (13, false), (14, false), (15, false), (16, true), (17, false), (18, false), (19, false), (20, false), (21, true), (22, false), (23, false), (24, false), (25, false), (26, true), (27, false), (28, false), (29, false), (30, false), (31, true), (32, false), (33, false), (34, false), (35, false), (36, true), (37, true), (39, true), (40, true), (38, false), (41, false), (42, false), (43, false), (44, false), (47, true), (51, true), (45, true), (46, true), (49, true), (50, true), (48, false), (52, false), (53, false), (54, false), (55, false), (56, true), (57, false), (58, false), (59, false), (60, false), (61, true), (62, false), (63, false), (64, false), (65, false), (67, true), (70, true), (66, true), (69, true), (68, false), (71, false), (72, false), (73, false), (74, false), (75, true), (76, false), (77, false), (78, false), (79, false), (80, true), (81, false), (82, false), (83, false), (84, false), (85, false), (86, false), (87, false), (88, false), (89, false), (90, false)] = true := by
  refine schedOk_of R19_a R19_b R19_c ?_
  refine schedB_split [(0, true), (2, true), (1, false), (3, false), (4, false), (5, false)] (s2 := [(6, true), (7, false), (8, false), (9, false), (10, false), (11, true), (12, false), (13, false), (14, false), (15, false), (16, true), (17, false), (18, false), (19, false), (20, false), (21, true), (22, false), (23, false), (24, false), (25, false), (26, true), (27, false), (28, false), (29, false), (30, false), (31, true), (32, false), (33, false), (34, false), (35, false), (36, true), (37, true), (39, true), (40, true), (38, false), (41, false), (42, false), (43, false), (44, false), (47, true), (51, true), (45, true), (46, true), (49, true), (50, true), (48, false), (52, false), (53, false), (54, false), (55, false), (56, true), (57, false), (58, false), (59, false), (60, false), (61, true), (62, false), (63, false), (64, false), (65, false), (67, true), (70, true), (66, true), (69, true), (68, false), (71, false), (72, false), (73, false), (74, false), (75, true), (76, false), (77, false), (78, false), (79, false), (80, true), (81, false), (82, false), (83, false), (84, false), (85, false), (86, false), (87, false), (88, false), (89, false), (90, false)]) (l2 := #[true, true, true, true, true, true, false, false, false, false, false, false, false, false, false, false, false, false, false, false, false, false, false, false, false, false, false, false, false, false, false, false, false, false, false, false, false, false, false, false, false, false, false, false, false, false, false, false, false, false, false, false, false, false, false, false, false, false, false, false, false, false, false, false, false, false, false, false, false, false, false, false, false, false, false, false, false, false, false, false, false, false, false, false, false, false, false, false, false, false, false]) rfl R19_0 (by kernel_rfl) ?_
  refine schedB_split [(6, true), (7, false), (8, false), (9, false), (10, false), (11, true)] (s2 := [(12, false), (13, false), (14, false), (15, false), (16, true), (17, false), (18, false), (19, false), (20, false), (21, true), (22, false), (23, false), (24, false), (25, false), (26, true), (27, false), (28, false), (29, false), (30, false), (31, true), (32, false), (33, false), (34, false), (35, false), (36, true), (37, true), (39, true), (40, true), (38, false), (41, false), (42, false), (43, false), (44, false), (47, true), (51, true), (45, true), (46, true), (49, true), (50, true), (48, false), (52, false), (53, false), (54, false), (55, false), (56, true), (57, false), (58, false), (59, false), (60, false), (61, true), (62, false), (63, false), (64, false), (65, false), (67, true), (70, true), (66, true), (69, true), (68, false), (71, false), (72, false), (73, false), (74, false), (75, true), (76, false), (77, false), (78, false), (79, false), (80, true), (81, false), (82, false), (83, false), (84, false), (85, false), (86, false), (87, false), (88, false), (89, false), (90, false)]) (l2 := #[true, true, true, true, true, true, true, true, true, true, true, true, false, false, false, false, false, false, false, false, false, false, false, false, false, false, false, false, false, false, false, false, false, false, false, false, false, false, false, false, false, false, false, false, false, false, false, false, false, false, false, false, false, false, false, false, false, false, false, false, false, false, false, false, false, false, false, false, false, false, false, false, false, false, false, false, false, false, false, false, false, false, false, false, false, false, false, false, false, false, false]) rfl R19_1 (by kernel_rfl) ?_
  refine schedB_split [(12, false), (13, false), (14, false), (15, false), (16, true), (17, false)] (s2 := [(18, false), (19, false), (20, false), (21, true), (22, false), (23, false), (24, false), (25, false), (26, true), (27, false), (28, false), (29, false), (30, false), (31, true), (32, false), (33, false), (34, false), (35, false), (36, true), (37, true), (39, true), (40, true), (38, false), (41, false), (42, false), (43, false), (44, false), (47, true), (51, true), (45, true), (46, true), (49, true), (50, true), (48, false), (52, false), (53, false), (54, false), (55, false), (56, true), (57, false), (58, false), (59, false), (60, false), (61, true), (62, false), (63, false), (64, false), (65, false), (67, true), (70, true), (66, true), (69, true), (68, false), (71, false), (72, false), (73, false), (74, false), (75, true), (76, false), (77, false), (78, false), (79, false), (80, true), (81, false), (82, false), (83, false), (84, false), (85, false), (86, false), (87, false), (88, false), (89, false), (90, false)]) (l2 := #[true, true, true, true, true, true, true, true, true, true, true, true, true, true, true, true, true, true, false, false, false, false, false, false, false, false, false, false, false, false, false, false, false, false, false, false, false, false, false, false, false, false, false, false, false, false, false, false, false, false, false, false, false, false, false, false, false, false, false, false, false, false, false, false, false, false, false, false, false, false, false, false, false, false, false, false, false, false, false, false, false, false, false, false, false, false, false, false, false, false, false]) rfl R19_2 (by kernel_rfl) ?_
  refine schedB_split [(18, false), (19, false), (20, false), (21, true), (22, false), (23, false)] (s2 := [(24, false), (25, false), (26, true), (27, false), (28, false), (29, false), (30, false), (31, true), (32, false), (33, false), (34, false), (35, false), (36, true), (37, true), (39, true), (40, true), (38, false), (41, false), (42, false), (43, false), (44, false), (47, true), (51, true), (45, true), (46, true), (49, true), (50, true), (48, false), (52, false), (53, false), (54, false), (55, false), (56, true), (57, false), (58, false), (59, false), (60, false), (61, true), (62, false), (63, false), (64, false), (65, false), (67, true), (70, true), (66, true), (69, true), (68, false), (71, false), (72, false), (73, false), (74, false), (75, true), (76, false), (77, false), (78, false), (79, false), (80, true), (81, false), (82, false), (83, false), (84, false), (85, false), (86, false), (87, false), (88, false), (89, false), (90, false)]) (l2 := #[true, true, true, true, true, true, true, true, true, true, true, true, true, true, true, true, true, true, true, true, true, true, true, true, false, false, false, false, false, false, false, false, false, false, false, false, false, false, false, false, false, false, false, false, false, false, false, false, false, false, false, false, false, false, false, false, false, false, false, false, false, false, false, false, false, false, false, false, false, false, false, false, false, false, false, false, false, false, false, false, false, false, false, false, false, false, false, false, false, false, false]) rfl R19_3 (by kernel_rfl) ?_
  refine schedB_split [(24, false), (25, false), (26, true), (27, false), (28, false), (29, false)] (s2 := [(30, false), (31, true), (32, false), (33, false), (34, false), (35, false), (36, true), (37, true), (39, true), (40, true), (38, false), (41, false), (42, false), (43, false), (44, false), (47, true), (51, true), (45, true), (46, true), (49, true), (50, true), (48, false), (52, false), (53, false), (54, false), (55, false), (56, true), (57, false), (58, false), (59, false), (60, false), (61, true), (62, false), (63, false), (64, false), (65, false), (67, true), (70, true), (66, true), (69, true), (68, false), (71, false), (72, false), (73, false), (74, false), (75, true), (76, false), (77, false), (78, false), (79, false), (80, true), (81, false), (82, false), (83, false), (84, false), (85, false), (86, false), (87, false), (88, false), (89, false), (90, false)]) (l2 := #[true, true, true, true, true, true, true, true, true, true, true, true, true, true, true, true, true, true, true, true, true, true, true, true, true, true, true, true, true, true, false, false, false, false, false, false, false, false, false, false, false, false, false, false, false, false, false, false, false, false, false, false, false, false, false, false, false, false, false, false, false, false, false, false, false, false, false, false, false, false, false, false, false, false, false, false, false, false, false, false, false, false, false, false, false, false, false, false, false, false, false]) rfl R19_4 (by kernel_rfl) ?_
  refine schedB_split [(30, false), (31, true), (32, false), (33, false), (34, false), (35, false)] (s2 := [(36, true), (37, true), (39, true), (40, true), (38, false), (41, false), (42, false), (43, false), (44, false), (47, true), (51, true), (45, true), (46, true), (49, true), (50, true), (48, false), (52, false), (53, false), (54, false), (55, false), (56, true), (57, false), (58, false), (59, false), (60, false), (61, true), (62, false), (63, false), (64, false), (65, false), (67, true), (70, true), (66, true), (69, true), (68, false), (71, false), (72, false), (73, false), (74, false), (75, true), (76, false), (77, false), (78, false), (79, false), (80, true), (81, false), (82, false), (83, false), (84, false), (85, false), (86, false), (87, false), (88, false), (89, false), (90, false)]) (l2 := #[true, true, true, true, true, true, true, true, true, true, true, true, true, true, true, true, true, true, true, true, true, true, true, true, true, true, true, true, true, true, true, true, true, true, true, true, false, false, false, false, false, false, false, false, false, false, false, false, false, false, false, false, false, false, false, false, false, false, false, false, false, false, false, false, false, false, false, false, false, false, false, false, false, false, false, false, false, false, false, false, false, false, false, false, false, false, false, false, false, false, false]) rfl R19_5 (by kernel_rfl) ?_
  refine schedB_split [(36, true), (37, true), (39, true), (40, true), (38, false), (41, false)] (s2 := [(42, false), (43, false), (44, false), (47, true), (51, true), (45, true), (46, true), (49, true), (50, true), (48, false), (52, false), (53, false), (54, false), (55, false), (56, true), (57, false), (58, false), (59, false), (60, false), (61, true), (62, false), (63, false), (64, false), (65, false), (67, true), (70, true), (66, true), (69, true), (68, false), (71, false), (72, false), (73, false), (74, false), (75, true), (76, false), (77, false), (78, false), (79, false), (80, true), (81, false), (82, false), (83, false), (84, false), (85, false), (86, false), (87, false), (88, false), (89, false), (90, false)]) (l2 := #[true, true, true, true, true, true, true, true, true, true, true, true, true, true, true, true, true, true, true, true, true, true, true, true, true, true, true, true, true, true, true, true, true, true, true, true, true, true, true, true, true, true, false, false, false, false, false, false, false, false, false, false, false, false, false, false, false, false, false, false, false, false, false, false, false, false, false, false, false, false, false, false, false, false, false, false, false, false, false, false, false, false, false, false, false, false, false, false, false, false, false]) rfl R19_6 (by kernel_rfl) ?_
  refine schedB_split [(42, false), (43, false), (44, false), (47, true), (51, true), (45, true)] (s2 := [(46, true), (49, true), (50, true), (48, false), (52, false), (53, false), (54, false), (55, false), (56, true), (57, false), (58, false), (59, false), (60, false), (61, true), (62, false), (63, false), (64, false), (65, false), (67, true), (70, true), (66, true), (69, true), (68, false), (71, false), (72, false), (73, false), (74, false), (75, true), (76, false), (77, false), (78, false), (79, false), (80, true), (81, false), (82, false), (83, false), (84, false), (85, false), (86, false), (87, false), (88, false), (89, false), (90, false)]) (l2 := #[true, true, true, true, true, true, true, true, true, true, true, true, true, true, true, true, true, true, true, true, true, true, true, true, true, true, true, true, true, true, true, true, true, true, true, true, true, true, true, true, true, true, true, true, true, true, false, true, false, false, false, true, false, false, false, false, false, false, false, false, false, false, false, false, false, false, false, false, false, false, false, false, false, false, false, false, false, false, false, false, false, false, false, false, false, false, false, false, false, false, false]) rfl R19_7 (by kernel_rfl) ?_
  refine schedB_split [(46, true), (49, true), (50, true), (48, false), (52, false), (53, false)] (s2 := [(54, false), (55, false), (56, true), (57, false), (58, false), (59, false), (60, false), (61, true), (62, false), (63, false), (64, false), (65, false), (67, true), (70, true), (66, true), (69, true), (68, false), (71, false), (72, false), (73, false), (74, false), (75, true), (76, false), (77, false), (78, false), (79, false), (80, true), (81, false), (82, false), (83, false), (84, false), (85, false), (86, false), (87, false), (88, false), (89, false), (90, false)]) (l2 := #[true, true, true, true, true, true, true, true, true, true, true, true, true, true, true, true, true, true, true, true, true, true, true, true, true, true, true, true, true, true, true, true, true, true, true, true, true, true, true, true, true, true, true, true, true, true, true, true, true, true, true, true, true, true, false, false, false, false, false, false, false, false, false, false, false, false, false, false, false, false, false, false, false, false, false, false, false, false, false, false, false, false, false, false, false, false, false, false, false, false, false]) rfl R19_8 (by kernel_rfl) ?_
  refine schedB_split [(54, false), (55, false), (56, true), (57, false), (58, false), (59, false)] (s2 := [(60, false), (61, true), (62, false), (63, false), (64, false), (65, false), (67, true), (70, true), (66, true), (69, true), (68, false), (71, false), (72, false), (73, false), (74, false), (75, true), (76, false), (77, false), (78, false), (79, false), (80, true), (81, false), (82, false), (83, false), (84, false), (85, false), (86, false), (87, false), (88, false), (89, false), (90, false)]) (l2 := #[true, true, true, true, true, true, true, true, true, true, true, true, true, true, true, true, true, true, true, true, true, true, true, true, true, true, true, true, true, true, true, true, true, true, true, true, true, true, true, true, true, true, true, true, true, true, true, true, true, true, true, true, true, true, true, true, true, true, true, true, false, false, false, false, false, false, false, false, false, false, false, false, false, false, false, false, false, false, false, false, false, false, false, false, false, false, false, false, false, false, false]) rfl R19_9 (by kernel_rfl) ?_
  refine schedB_split [(60, false), (61, true), (62, false), (63, false), (64, false), (65, false)] (s2 := [(67, true), (70, true), (66, true), (69, true), (68, false), (71, false), (72, false), (73, false), (74, false), (75, true), (76, false), (77, false), (78, false), (79, false), (80, true), (81, false), (82, false), (83, false), (84, false), (85, false), (86, false), (87, false), (88, false), (89, false), (90, false)]) (l2 := #[true, true, true, true, true, true, true, true, true, true, true, true, true, true, true, true, true, true, true, true, true, true, true, true, true, true, true, true, true, true, true, true, true, true, true, true, true, true, true, true, true, true, true, true, true, true, true, true, true, true, true, true, true, true, true, true, true, true, true, true, true, true, true, true, true, true, false, false, false, false, false, false, false, false, false, false, false, false, false, false, false, false, false, false, false, false, false, false, false, false, false]) rfl R19_10 (by kernel_rfl) ?_
  refine schedB_split [(67, true), (70, true), (66, true), (69, true), (68, false), (71, false)] (s2 := [(72, false), (73, false), (74, false), (75, true), (76, false), (77, false), (78, false), (79, false), (80, true), (81, false), (82, false), (83, false), (84, false), (85, false), (86, false), (87, false), (88, false), (89, false), (90, false)]) (l2 := #[true, true, true, true, true, true, true, true, true, true, true, true, true, true, true, true, true, true, true, true, true, true, true, true, true, true, true, true, true, true, true, true, true, true, true, true, true, true, true, true, true, true, true, true, true, true, true, true, true, true, true, true, true, true, true, true, true, true, true, true, true, true, true, true, true, true, true, true, true, true, true, true, false, false, false, false, false, false, false, false, false, false, false, false, false, false, false, false, false, false, false]) rfl R19_11 (by kernel_rfl) ?_
  refine schedB_split [(72, false), (73, false), (74, false), (75, true), (76, false), (77, false)] (s2 := [(78, false), (79, false), (80, true), (81, false), (82, false), (83, false), (84, false), (85, false), (86, false), (87, false), (88, false), (89, false), (90, false)]) (l2 := #[true, true, true, true, true, true, true, true, true, true, true, true, true, true, true, true, true, true, true, true, true, true, true, true, true, true, true, true, true, true, true, true, true, true, true, true, true, true, true, true, true, true, true, true, true, true, true, true, true, true, true, true, true, true, true, true, true, true, true, true, true, true, true, true, true, true, true, true, true, true, true, true, true, true, true, true, true, true, false, false, false, false, false, false, false, false, false, false, false, false, false]) rfl R19_12 (by kernel_rfl) ?_
  refine schedB_split [(78, false), (79, false), (80, true), (81, false), (82, false), (83, false)] (s2 := [(84, false), (85, false), (86, false), (87, false), (88, false), (89, false), (90, false)]) (l2 := #[true, true, true, true, true, true, true, true, true, true, true, true, true, true, true, true, true, true, true, true, true, true, true, true, true, true, true, true, true, true, true, true, true, true, true, true, true, true, true, true, true, true, true, true, true, true, true, true, true, true, true, true, true, true, true, true, true, true, true, true, true, true, true, true, true, true, true, true, true, true, true, true, true, true, true, true, true, true, true, true, true, true, true, true, false, false, false, false, false, false, false]) rfl R19_13 (by kernel_rfl) ?_
  refine schedB_split [(84, false), (85, false), (86, false), (87, false), (88, false), (89, false)] (s2 := [(90, false)]) (l2 := #[true, true, true, true, true, true, true, true, true, true, true, true, true, true, true, true, true, true, true, true, true, true, true, true, true, true, true, true, true, true, true, true, true, true, true, true, true, true, true, true, true, true, true, true, true, true, true, true, true, true, true, true, true, true, true, true, true, true, true, true, true, true, true, true, true, true, true, true, true, true, true, true, true, true, true, true, true, true, true, true, true, true, true, true, true, true, true, true, true, true, false]) rfl R19_14 (by kernel_rfl) ?_
  refine schedB_split [(90, false)] (s2 := []) (l2 := #[true, true, true, true, true, true, true, true, true, true, true, true, true, true, true, true, true, true, true, true, true, true, true, true, true, true, true, true, true, true, true, true, true, true, true, true, true, true, true, true, true, true, true, true, true, true, true, true, true, true, true, true, true, true, true, true, true, true, true, true, true, true, true, true, true, true, true, true, true, true, true, true, true, true, true, true, true, true, true, true, true, true, true, true, true, true, true, true, true, true, true]) rfl R19_15 (by kernel_rfl) ?_
  exact R19_z
theorem law_sound (b : List Int) : Sound Try.prog 3 [.ro (.imm 5 (row1 cU b))] (fun rs st => rs = [(false, [cB true])]) := by
  refine sound_tri (fn := Try.f3) (c := Try.f3.body.getD .skip) (res := [.tm 2]) (n := 213) sized (by kernel_rfl) (by rfl) (by kernel_rfl) (by rfl) (by rfl) (by simp [argsV]) (fun uf ub C hpin hpin2 hfull => ?_)
  simp only [Try.f3, Option.getD_some, List.append_eq, List.cons_append, List.nil_append]
  refine Tri.step sized ?_
  simp (decide := true) only [drop0, row1_length, rows_length, memB, memoryC, memoryW, valueC, valueW, vI, vB, vS, cI, cB, cS, roI, ro64, List.cons_append, List.nil_append, hpin, go_sem, Nat.reduceAdd, Nat.reduceMul]
  refine Tri.step sized ?_
  simp (decide := true) only [drop0, row1_length, rows_length, memB, memoryC, memoryW, valueC, valueW, vI, vB, vS, cI, cB, cS, roI, ro64, List.cons_append, List.nil_append, hpin, go_sem, Nat.reduceAdd, Nat.reduceMul]
  refine aCall_det (big_sound b) hpin ?_
  by_cases hb0 : 1048576 < (b.length : Int)
  · have hd : decide (1048576 < (b.length : Int)) = true := decide_eq_true hb0
    simp (decide := true) only [hd, drop0, row1_length, rows_length, memB, memoryC, memoryW, valueC, valueW, vI, vB, vS, cI, cB, cS, roI, ro64, List.cons_append, List.nil_append, hpin, go_sem, Nat.reduceAdd, Nat.reduceMul]
  have hd : decide (1048576 < (b.length : Int)) = false := decide_eq_false hb0
  simp (decide := true) only [hd, drop0, row1_length, rows_length, memB, memoryC, memoryW, valueC, valueW, vI, vB, vS, cI, cB, cS, roI, ro64, List.cons_append, List.nil_append, hpin, go_sem, Nat.reduceAdd, Nat.reduceMul]
  have hb : b.length ≤ 1048576 := by omega
  refine Tri.step sized ?_
  simp (decide := true) only [drop0, row1_length, rows_length, memB, memoryC, memoryW, valueC, valueW, vI, vB, vS, cI, cB, cS, roI, ro64, List.cons_append, List.nil_append, hpin, go_sem, Nat.reduceAdd, Nat.reduceMul]
  refine aCall_qe (drawSpend_sound b hb) hpin hfull [] [] [] ⟨rfl, rfl, rfl, rfl⟩ (fun uf => ?_) ?_
  · simp (decide := true) only [drop0, row1_length, rows_length, memB, memoryC, memoryW, valueC, valueW, vI, vB, vS, cI, cB, cS, roI, ro64, List.cons_append, List.nil_append, hpin, hpin2, go_sem, Nat.reduceAdd, Nat.reduceMul]
  simp (decide := true) only [drop0, row1_length, rows_length, memB, memoryC, memoryW, valueC, valueW, vI, vB, vS, cI, cB, cS, roI, ro64, List.cons_append, List.nil_append, hpin, go_sem, Nat.reduceAdd, Nat.reduceMul]
  intro a ha
  refine Tri.ent ?_ (Ent.frb hfull 3)
  refine Tri.step sized ?_
  simp (decide := true) only [drop0, row1_length, rows_length, memB, memoryC, memoryW, valueC, valueW, vI, vB, vS, cI, cB, cS, roI, ro64, List.cons_append, List.nil_append, hpin, go_sem, Nat.reduceAdd, Nat.reduceMul]
  refine aCall_qe (drawFresh_sound b hb) hpin hfull [] [] [] ⟨rfl, rfl, rfl, rfl⟩ (fun uf => ?_) ?_
  · simp (decide := true) only [drop0, row1_length, rows_length, memB, memoryC, memoryW, valueC, valueW, vI, vB, vS, cI, cB, cS, roI, ro64, List.cons_append, List.nil_append, hpin, hpin2, go_sem, Nat.reduceAdd, Nat.reduceMul]
  simp (decide := true) only [drop0, row1_length, rows_length, memB, memoryC, memoryW, valueC, valueW, vI, vB, vS, cI, cB, cS, roI, ro64, List.cons_append, List.nil_append, hpin, go_sem, Nat.reduceAdd, Nat.reduceMul]
  rintro ⟨bm, n⟩ hbm
  simp only at hbm
  refine Tri.ent ?_ (Ent.frb hfull 4)
  refine Tri.step sized ?_
  simp (decide := true) only [drop0, row1_length, rows_length, memB, memoryC, memoryW, valueC, valueW, vI, vB, vS, cI, cB, cS, roI, ro64, List.cons_append, List.nil_append, hpin, go_sem, Nat.reduceAdd, Nat.reduceMul]
  refine aCall_qe (drawMoved_sound b hb) hpin hfull [] [] [] ⟨rfl, rfl, rfl, rfl⟩ (fun uf => ?_) ?_
  · simp (decide := true) only [drop0, row1_length, rows_length, memB, memoryC, memoryW, valueC, valueW, vI, vB, vS, cI, cB, cS, roI, ro64, List.cons_append, List.nil_append, hpin, hpin2, go_sem, Nat.reduceAdd, Nat.reduceMul]
  simp (decide := true) only [drop0, row1_length, rows_length, memB, memoryC, memoryW, valueC, valueW, vI, vB, vS, cI, cB, cS, roI, ro64, List.cons_append, List.nil_append, hpin, go_sem, Nat.reduceAdd, Nat.reduceMul]
  rintro ⟨c, v⟩ hc
  simp only at hc
  refine Tri.ent ?_ (Ent.frb hfull 6)
  refine Tri.ent ?_ (Ent.frb hfull 7)
  refine Tri.step sized ?_
  simp (decide := true) only [drop0, row1_length, rows_length, memB, memoryC, memoryW, valueC, valueW, vI, vB, vS, cI, cB, cS, roI, ro64, List.cons_append, List.nil_append, hpin, go_sem, Nat.reduceAdd, Nat.reduceMul]
  refine aCall_qe (drawWritten_sound b hb) hpin hfull [] [] [] ⟨rfl, rfl, rfl, rfl⟩ (fun uf => ?_) ?_
  · simp (decide := true) only [drop0, row1_length, rows_length, memB, memoryC, memoryW, valueC, valueW, vI, vB, vS, cI, cB, cS, roI, ro64, List.cons_append, List.nil_append, hpin, hpin2, go_sem, Nat.reduceAdd, Nat.reduceMul]
  simp (decide := true) only [drop0, row1_length, rows_length, memB, memoryC, memoryW, valueC, valueW, vI, vB, vS, cI, cB, cS, roI, ro64, List.cons_append, List.nil_append, hpin, go_sem, Nat.reduceAdd, Nat.reduceMul]
  rintro ⟨d, w, k⟩ hdm
  simp only at hdm
  refine Tri.ent ?_ (Ent.frb hfull 8)
  refine Tri.ent ?_ (Ent.frb hfull 9)
  refine Tri.step sized ?_
  simp (decide := true) only [drop0, row1_length, rows_length, memB, memoryC, memoryW, valueC, valueW, vI, vB, vS, cI, cB, cS, roI, ro64, List.cons_append, List.nil_append, hpin, go_sem, Nat.reduceAdd, Nat.reduceMul]
  refine aCall_qe (drawAsked_sound b hb) hpin hfull [] [] [] ⟨rfl, rfl, rfl, rfl⟩ (fun uf => ?_) ?_
  · simp (decide := true) only [drop0, row1_length, rows_length, memB, memoryC, memoryW, valueC, valueW, vI, vB, vS, cI, cB, cS, roI, ro64, List.cons_append, List.nil_append, hpin, hpin2, go_sem, Nat.reduceAdd, Nat.reduceMul]
  simp (decide := true) only [drop0, row1_length, rows_length, memB, memoryC, memoryW, valueC, valueW, vI, vB, vS, cI, cB, cS, roI, ro64, List.cons_append, List.nil_append, hpin, go_sem, Nat.reduceAdd, Nat.reduceMul]
  intro e he
  refine Tri.ent ?_ (Ent.frb hfull 11)
  refine Tri.step sized ?_
  simp (decide := true) only [drop0, row1_length, rows_length, memB, memoryC, memoryW, valueC, valueW, vI, vB, vS, cI, cB, cS, roI, ro64, List.cons_append, List.nil_append, hpin, go_sem, Nat.reduceAdd, Nat.reduceMul]
  refine aCall_qe (drawSummed_sound b hb) hpin hfull [] [] [] ⟨rfl, rfl, rfl, rfl⟩ (fun uf => ?_) ?_
  · simp (decide := true) only [drop0, row1_length, rows_length, memB, memoryC, memoryW, valueC, valueW, vI, vB, vS, cI, cB, cS, roI, ro64, List.cons_append, List.nil_append, hpin, hpin2, go_sem, Nat.reduceAdd, Nat.reduceMul]
  simp (decide := true) only [drop0, row1_length, rows_length, memB, memoryC, memoryW, valueC, valueW, vI, vB, vS, cI, cB, cS, roI, ro64, List.cons_append, List.nil_append, hpin, go_sem, Nat.reduceAdd, Nat.reduceMul]
  rintro ⟨f, x, y⟩ hf
  simp only at hf
  refine Tri.ent ?_ (Ent.frb hfull 12)
  obtain ⟨a0, a1, -⟩ := mids ha
  obtain ⟨b0, -, b2, -, -, -, -, -, b8, -⟩ := mids hbm
  obtain ⟨c0, -, -, c3, c4, c5, -⟩ := mids hc
  obtain ⟨d0, -, -, -, -, -, d6, -⟩ := mids hdm
  obtain ⟨e0, -, -, -, -, -, -, e7, -⟩ := mids he
  obtain ⟨f0, -, -, -, -, -, -, -, -, f9⟩ := mids hf
  have b2 := b2 n
  have b8 := b8 n
  have c3 := c3 v
  have c4 := c4 v
  have c5 := c5 v
  have d6 := d6 w k
  have f9 := f9 x y
  have qs1 := spendWI_sound a a0
  have qs2 := spendWS_sound a a0
  have qf1 := freshWI_sound bm n b0
  have qf2 := freshWS_sound bm n b0
  have qm1 := movedWI_sound c v c0
  have qm2 := movedWS_sound c v c0
  have ql1 := lookedWI_sound c v c0
  have ql2 := lookedWS_sound c v c0
  have qd1 := freedWI_sound c v c0
  have qd2 := freedWS_sound c v c0
  have qw1 := writtenWI_sound d w k d0
  have qw2 := writtenWS_sound d w k d0
  have qa1 := askedWI_sound e e0
  have qa2 := askedWS_sound e e0
  have qt1 := toldWI_sound bm n b0
  have qt2 := toldWS_sound bm n b0
  have qu1 := summedWI_sound f x y f0
  have qu2 := summedWS_sound f x y f0
  have zs := sameMemory_sound _ a1
  have zf := sameMemory_sound _ b2
  have zm := sameMemory_sound _ c3
  have zl := sameMemory_sound _ c5
  have zd := sameMemory_sound _ c4
  have zw := sameMemory_sound _ d6
  have za := sameMemory_sound _ e7
  have zt := sameMemory_sound _ b8
  have zu := sameMemory_sound _ f9
  clear a1 b2 b8 c3 c4 c5 d6 e7 f9
  generalize spendM a = A at qs1 qs2 zs
  generalize freshM bm n = B at qf1 qf2 zf
  generalize movedM c v = M at qm1 qm2 zm
  generalize lookedM c v = L at ql1 ql2 zl
  generalize freedM c v = G at qd1 qd2 zd
  generalize writtenM d w k = W at qw1 qw2 zw
  generalize askedM e = E at qa1 qa2 za
  generalize toldM bm n = T at qt1 qt2 zt
  generalize summedM f x y = U at qu1 qu2 zu
  obtain ⟨B1, B2⟩ := B
  obtain ⟨M1, M2⟩ := M
  obtain ⟨L1, L2⟩ := L
  obtain ⟨E1, E2⟩ := E
  obtain ⟨U1, U2⟩ := U
  simp only [memoryW, valueW, memB, valueC, cI] at qs1 qs2 qf1 qf2 qm1 qm2 ql1 ql2 qd1 qd2 qw1 qw2 qa1 qa2 qt1 qt2 qu1 qu2 zs zf zm zl zd zw za zt zu
  refine Tri.step sized ?_
  simp (decide := true) only [drop0, row1_length, rows_length, memB, memoryC, memoryW, valueC, valueW, vI, vB, vS, cI, cB, cS, roI, ro64, List.cons_append, List.nil_append, hpin, go_sem, Nat.reduceAdd, Nat.reduceMul]
  refine aCall_det qf1 hpin ?_
  simp (decide := true) only [drop0, row1_length, rows_length, memB, memoryC, memoryW, valueC, valueW, vI, vB, vS, cI, cB, cS, roI, ro64, List.cons_append, List.nil_append, hpin, go_sem, Nat.reduceAdd, Nat.reduceMul]
  refine Tri.ent ?_ (Ent.frb hfull 15)
  refine Tri.ent ?_ (Ent.frb hfull 16)
  refine Tri.step sized ?_
  simp (decide := true) only [drop0, row1_length, rows_length, memB, memoryC, memoryW, valueC, valueW, vI, vB, vS, cI, cB, cS, roI, ro64, List.cons_append, List.nil_append, hpin, go_sem, Nat.reduceAdd, Nat.reduceMul]
  refine aCall_det qf2 hpin ?_
  simp (decide := true) only [drop0, row1_length, rows_length, memB, memoryC, memoryW, valueC, valueW, vI, vB, vS, cI, cB, cS, roI, ro64, List.cons_append, List.nil_append, hpin, go_sem, Nat.reduceAdd, Nat.reduceMul]
  refine Tri.ent ?_ (Ent.frb hfull 17)
  refine Tri.ent ?_ (Ent.frb hfull 18)
  refine Tri.step sized ?_
  simp (decide := true) only [drop0, row1_length, rows_length, memB, memoryC, memoryW, valueC, valueW, vI, vB, vS, cI, cB, cS, roI, ro64, List.cons_append, List.nil_append, hpin, go_sem, Nat.reduceAdd, Nat.reduceMul]
  refine aCall_det qm1 hpin ?_
  simp (decide := true) only [drop0, row1_length, rows_length, memB, memoryC, memoryW, valueC, valueW, vI, vB, vS, cI, cB, cS, roI, ro64, List.cons_append, List.nil_append, hpin, go_sem, Nat.reduceAdd, Nat.reduceMul]
  refine Tri.ent ?_ (Ent.frb hfull 19)
  refine Tri.ent ?_ (Ent.frb hfull 20)
  refine Tri.step sized ?_
  simp (decide := true) only [drop0, row1_length, rows_length, memB, memoryC, memoryW, valueC, valueW, vI, vB, vS, cI, cB, cS, roI, ro64, List.cons_append, List.nil_append, hpin, go_sem, Nat.reduceAdd, Nat.reduceMul]
  refine aCall_det qm2 hpin ?_
  simp (decide := true) only [drop0, row1_length, rows_length, memB, memoryC, memoryW, valueC, valueW, vI, vB, vS, cI, cB, cS, roI, ro64, List.cons_append, List.nil_append, hpin, go_sem, Nat.reduceAdd, Nat.reduceMul]
  refine Tri.ent ?_ (Ent.frb hfull 21)
  refine Tri.ent ?_ (Ent.frb hfull 22)
  refine Tri.step sized ?_
  simp (decide := true) only [drop0, row1_length, rows_length, memB, memoryC, memoryW, valueC, valueW, vI, vB, vS, cI, cB, cS, roI, ro64, List.cons_append, List.nil_append, hpin, go_sem, Nat.reduceAdd, Nat.reduceMul]
  refine aCall_det ql1 hpin ?_
  simp (decide := true) only [drop0, row1_length, rows_length, memB, memoryC, memoryW, valueC, valueW, vI, vB, vS, cI, cB, cS, roI, ro64, List.cons_append, List.nil_append, hpin, go_sem, Nat.reduceAdd, Nat.reduceMul]
  refine Tri.ent ?_ (Ent.frb hfull 23)
  refine Tri.step sized ?_
  simp (decide := true) only [drop0, row1_length, rows_length, memB, memoryC, memoryW, valueC, valueW, vI, vB, vS, cI, cB, cS, roI, ro64, List.cons_append, List.nil_append, hpin, go_sem, Nat.reduceAdd, Nat.reduceMul]
  refine aCall_det ql2 hpin ?_
  simp (decide := true) only [drop0, row1_length, rows_length, memB, memoryC, memoryW, valueC, valueW, vI, vB, vS, cI, cB, cS, roI, ro64, List.cons_append, List.nil_append, hpin, go_sem, Nat.reduceAdd, Nat.reduceMul]
  refine Tri.ent ?_ (Ent.frb hfull 25)
  refine Tri.step sized ?_
  simp (decide := true) only [drop0, row1_length, rows_length, memB, memoryC, memoryW, valueC, valueW, vI, vB, vS, cI, cB, cS, roI, ro64, List.cons_append, List.nil_append, hpin, go_sem, Nat.reduceAdd, Nat.reduceMul]
  refine aCall_bxd qa1 hpin hfull [] [] [] ⟨rfl, rfl, rfl, rfl⟩ (fun uf => ?_) ?_
  · simp (decide := true) only [drop0, row1_length, rows_length, memB, memoryC, memoryW, valueC, valueW, vI, vB, vS, cI, cB, cS, roI, ro64, List.cons_append, List.nil_append, hpin, hpin2, go_sem, Nat.reduceAdd, Nat.reduceMul]
  simp (decide := true) only [drop0, row1_length, rows_length, memB, memoryC, memoryW, valueC, valueW, vI, vB, vS, cI, cB, cS, roI, ro64, List.cons_append, List.nil_append, hpin, go_sem, Nat.reduceAdd, Nat.reduceMul]
  refine Tri.ent ?_ (Ent.frb hfull 27)
  refine Tri.step sized ?_
  simp (decide := true) only [drop0, row1_length, rows_length, memB, memoryC, memoryW, valueC, valueW, vI, vB, vS, cI, cB, cS, roI, ro64, List.cons_append, List.nil_append, hpin, go_sem, Nat.reduceAdd, Nat.reduceMul]
  refine aCall_bxd qa2 hpin hfull [] [] [] ⟨rfl, rfl, rfl, rfl⟩ (fun uf => ?_) ?_
  · simp (decide := true) only [drop0, row1_length, rows_length, memB, memoryC, memoryW, valueC, valueW, vI, vB, vS, cI, cB, cS, roI, ro64, List.cons_append, List.nil_append, hpin, hpin2, go_sem, Nat.reduceAdd, Nat.reduceMul]
  simp (decide := true) only [drop0, row1_length, rows_length, memB, memoryC, memoryW, valueC, valueW, vI, vB, vS, cI, cB, cS, roI, ro64, List.cons_append, List.nil_append, hpin, go_sem, Nat.reduceAdd, Nat.reduceMul]
  refine Tri.ent ?_ (Ent.frb hfull 29)
  refine Tri.step sized ?_
  simp (decide := true) only [drop0, row1_length, rows_length, memB, memoryC, memoryW, valueC, valueW, vI, vB, vS, cI, cB, cS, roI, ro64, List.cons_append, List.nil_append, hpin, go_sem, Nat.reduceAdd, Nat.reduceMul]
  refine aCall_det qu1 hpin ?_
  simp (decide := true) only [drop0, row1_length, rows_length, memB, memoryC, memoryW, valueC, valueW, vI, vB, vS, cI, cB, cS, roI, ro64, List.cons_append, List.nil_append, hpin, go_sem, Nat.reduceAdd, Nat.reduceMul]
  refine Tri.ent ?_ (Ent.frb hfull 31)
  refine Tri.step sized ?_
  simp (decide := true) only [drop0, row1_length, rows_length, memB, memoryC, memoryW, valueC, valueW, vI, vB, vS, cI, cB, cS, roI, ro64, List.cons_append, List.nil_append, hpin, go_sem, Nat.reduceAdd, Nat.reduceMul]
  refine aCall_det qu2 hpin ?_
  simp (decide := true) only [drop0, row1_length, rows_length, memB, memoryC, memoryW, valueC, valueW, vI, vB, vS, cI, cB, cS, roI, ro64, List.cons_append, List.nil_append, hpin, go_sem, Nat.reduceAdd, Nat.reduceMul]
  refine Tri.ent ?_ (Ent.frb hfull 33)
  refine Tri.ent (st' := ⟨213, [(3, .ip (memoryC true a) 0), (4, .ip (memoryC true bm) 0), (5, vI n), (6, .ip (memoryC true c) 0), (7, .ip (valueC true v) 0), (8, .ip (memoryC true d) 0), (9, .ip (valueC true w) 0), (10, vI k), (15, .ip (memoryC true B1) 0), (16, .ip (valueC true B2) 0), (17, .ip (memoryC true B1) 0), (18, .ip (valueC true B2) 0), (19, .ip (memoryC true M1) 0), (20, .ip (valueC true M2) 0), (21, .ip (memoryC true M1) 0), (22, .ip (valueC true M2) 0), (23, .ip (memoryC true L1) 0), (24, vI L2), (25, .ip (memoryC true L1) 0), (26, vI L2), (27, .ip (memoryC true E1) 0), (28, vI E2), (29, .ip (memoryC true E1) 0), (30, vI E2), (31, .ip (memoryC true U1) 0), (32, vI U2), (33, .ip (memoryC true U1) 0), (34, vI U2)], []⟩) ?_ ?_
  case refine_2 =>
    simp (decide := true) only [drop0, row1_length, rows_length, memB, memoryC, memoryW, valueC, valueW, vI, vB, vS, cI, cB, cS, roI, ro64, List.cons_append, List.nil_append, hpin, go_sem, Nat.reduceAdd, Nat.reduceMul]
    refine Ent.weak ?_ ?_ ?_ ?_ <;> simp (decide := true) [subT, subB, hereT, hereV, hereL, St.get, look, cellC]
  have hr1 : row1 cI [1] = [[.sc (.int .i64 1)]] := rfl
  have hmn := memNewI_sound [1] 5 (by simp)
  simp only [roI, hr1, cI] at hmn
  refine Tri.step sized ?_
  refine Tri.sched sized [(0, true), (2, true), (1, false), (3, false), (4, false), (5, false), (6, true), (7, false), (8, false), (9, false), (10, false), (11, true), (12, false), (13, false), (14, false), (15, false), (16, true), (17, false), (18, false), (19, false), (20, false), (21, true), (22, false), (23, false), (24, false), (25, false), (26, true), (27, false), (28, false), (29, false), (30, false), (31, true), (32, false), (33, false), (34, false), (35, false), (36, true), (37, true), (39, true), (40, true), (38, false), (41, false), (42, false), (43, false), (44, false), (47, true), (51, true), (45, true), (46, true), (49, true), (50, true), (48, false), (52, false), (53, false), (54, false), (55, false), (56, true), (57, false), (58, false), (59, false), (60, false), (61, true), (62, false), (63, false), (64, false), (65, false), (67, true), (70, true), (66, true), (69, true), (68, false), (71, false), (72, false), (73, false), (74, false), (75, true), (76, false), (77, false), (78, false), (79, false), (80, true), (81, false), (82, false), (83, false), (84, false), (85, false), (86, false), (87, false), (88, false), (89, false), (90, false)] mixed (Eq.trans (congrArg (fun o => schedOk o [(0, true), (2, true), (1, false), (3, false), (4, false), (5, false), (6, true), (7, false), (8, false), (9, false), (10, false), (11, true), (12, false), (13, false), (14, false), (15, false), (16, true), (17, false), (18, false), (19, false), (20, false), (21, true), (22, false), (23, false), (24, false), (25, false), (26, true), (27, false), (28, false), (29, false), (30, false), (31, true), (32, false), (33, false), (34, false), (35, false), (36, true), (37, true), (39, true), (40, true), (38, false), (41, false), (42, false), (43, false), (44, false), (47, true), (51, true), (45, true), (46, true), (49, true), (50, true), (48, false), (52, false), (53, false), (54, false), (55, false), (56, true), (57, false), (58, false), (59, false), (60, false), (61, true), (62, false), (63, false), (64, false), (65, false), (67, true), (70, true), (66, true), (69, true), (68, false), (71, false), (72, false), (73, false), (74, false), (75, true), (76, false), (77, false), (78, false), (79, false), (80, true), (81, false), (82, false), (83, false), (84, false), (85, false), (86, false), (87, false), (88, false), (89, false), (90, false)]) (by kernel_rfl)) R19_ok) (fun C2 hC2 => ?_)
  have hp2 : ∀ o, isPin o = false → C2.pin o = none := by rw [hC2]; exact hpin
  simp (decide := true) (maxSteps := 4000000) only [beq_self_eq_true, Bool.and_self, drop0, row1_length, rows_length, memB, memoryC, memoryW, valueC, valueW, vI, vB, vS, cI, cB, cS, roI, ro64, List.cons_append, List.nil_append, hp2, hpin, go_sem, Nat.reduceAdd, Nat.reduceMul]
  refine aCall_det qs1 hp2 ?_
  simp (decide := true) (maxSteps := 4000000) only [beq_self_eq_true, Bool.and_self, drop0, row1_length, rows_length, memB, memoryC, memoryW, valueC, valueW, vI, vB, vS, cI, cB, cS, roI, ro64, List.cons_append, List.nil_append, hp2, hpin, go_sem, Nat.reduceAdd, Nat.reduceMul]
  refine aCall_det qs2 hp2 ?_
  simp (decide := true) (maxSteps := 4000000) only [beq_self_eq_true, Bool.and_self, drop0, row1_length, rows_length, memB, memoryC, memoryW, valueC, valueW, vI, vB, vS, cI, cB, cS, roI, ro64, List.cons_append, List.nil_append, hp2, hpin, go_sem, Nat.reduceAdd, Nat.reduceMul]
  refine aCall_det zs hp2 ?_
  simp (decide := true) (maxSteps := 4000000) only [beq_self_eq_true, Bool.and_self, drop0, row1_length, rows_length, memB, memoryC, memoryW, valueC, valueW, vI, vB, vS, cI, cB, cS, roI, ro64, List.cons_append, List.nil_append, hp2, hpin, go_sem, Nat.reduceAdd, Nat.reduceMul]
  refine aCall_det zf hp2 ?_
  simp (decide := true) (maxSteps := 4000000) only [beq_self_eq_true, Bool.and_self, drop0, row1_length, rows_length, memB, memoryC, memoryW, valueC, valueW, vI, vB, vS, cI, cB, cS, roI, ro64, List.cons_append, List.nil_append, hp2, hpin, go_sem, Nat.reduceAdd, Nat.reduceMul]
  refine aCall_det zm hp2 ?_
  simp (decide := true) (maxSteps := 4000000) only [beq_self_eq_true, Bool.and_self, drop0, row1_length, rows_length, memB, memoryC, memoryW, valueC, valueW, vI, vB, vS, cI, cB, cS, roI, ro64, List.cons_append, List.nil_append, hp2, hpin, go_sem, Nat.reduceAdd, Nat.reduceMul]
  refine aCall_det zl hp2 ?_
  simp (decide := true) (maxSteps := 4000000) only [beq_self_eq_true, Bool.and_self, drop0, row1_length, rows_length, memB, memoryC, memoryW, valueC, valueW, vI, vB, vS, cI, cB, cS, roI, ro64, List.cons_append, List.nil_append, hp2, hpin, go_sem, Nat.reduceAdd, Nat.reduceMul]
  refine aCall_det qd1 hp2 ?_
  simp (decide := true) (maxSteps := 4000000) only [beq_self_eq_true, Bool.and_self, drop0, row1_length, rows_length, memB, memoryC, memoryW, valueC, valueW, vI, vB, vS, cI, cB, cS, roI, ro64, List.cons_append, List.nil_append, hp2, hpin, go_sem, Nat.reduceAdd, Nat.reduceMul]
  refine aCall_det qd2 hp2 ?_
  simp (decide := true) (maxSteps := 4000000) only [beq_self_eq_true, Bool.and_self, drop0, row1_length, rows_length, memB, memoryC, memoryW, valueC, valueW, vI, vB, vS, cI, cB, cS, roI, ro64, List.cons_append, List.nil_append, hp2, hpin, go_sem, Nat.reduceAdd, Nat.reduceMul]
  refine aCall_det zd hp2 ?_
  simp (decide := true) (maxSteps := 4000000) only [beq_self_eq_true, Bool.and_self, drop0, row1_length, rows_length, memB, memoryC, memoryW, valueC, valueW, vI, vB, vS, cI, cB, cS, roI, ro64, List.cons_append, List.nil_append, hp2, hpin, go_sem, Nat.reduceAdd, Nat.reduceMul]
  refine aCall_det qw1 hp2 ?_
  simp (decide := true) (maxSteps := 4000000) only [beq_self_eq_true, Bool.and_self, drop0, row1_length, rows_length, memB, memoryC, memoryW, valueC, valueW, vI, vB, vS, cI, cB, cS, roI, ro64, List.cons_append, List.nil_append, hp2, hpin, go_sem, Nat.reduceAdd, Nat.reduceMul]
  refine aCall_det qw2 hp2 ?_
  simp (decide := true) (maxSteps := 4000000) only [beq_self_eq_true, Bool.and_self, drop0, row1_length, rows_length, memB, memoryC, memoryW, valueC, valueW, vI, vB, vS, cI, cB, cS, roI, ro64, List.cons_append, List.nil_append, hp2, hpin, go_sem, Nat.reduceAdd, Nat.reduceMul]
  refine aCall_det zw hp2 ?_
  simp (decide := true) (maxSteps := 4000000) only [beq_self_eq_true, Bool.and_self, drop0, row1_length, rows_length, memB, memoryC, memoryW, valueC, valueW, vI, vB, vS, cI, cB, cS, roI, ro64, List.cons_append, List.nil_append, hp2, hpin, go_sem, Nat.reduceAdd, Nat.reduceMul]
  refine aCall_det za hp2 ?_
  simp (decide := true) (maxSteps := 4000000) only [beq_self_eq_true, Bool.and_self, drop0, row1_length, rows_length, memB, memoryC, memoryW, valueC, valueW, vI, vB, vS, cI, cB, cS, roI, ro64, List.cons_append, List.nil_append, hp2, hpin, go_sem, Nat.reduceAdd, Nat.reduceMul]
  refine aCall_det qt1 hp2 ?_
  simp (decide := true) (maxSteps := 4000000) only [beq_self_eq_true, Bool.and_self, drop0, row1_length, rows_length, memB, memoryC, memoryW, valueC, valueW, vI, vB, vS, cI, cB, cS, roI, ro64, List.cons_append, List.nil_append, hp2, hpin, go_sem, Nat.reduceAdd, Nat.reduceMul]
  refine aCall_det qt2 hp2 ?_
  simp (decide := true) (maxSteps := 4000000) only [beq_self_eq_true, Bool.and_self, drop0, row1_length, rows_length, memB, memoryC, memoryW, valueC, valueW, vI, vB, vS, cI, cB, cS, roI, ro64, List.cons_append, List.nil_append, hp2, hpin, go_sem, Nat.reduceAdd, Nat.reduceMul]
  refine aCall_det zt hp2 ?_
  simp (decide := true) (maxSteps := 4000000) only [beq_self_eq_true, Bool.and_self, drop0, row1_length, rows_length, memB, memoryC, memoryW, valueC, valueW, vI, vB, vS, cI, cB, cS, roI, ro64, List.cons_append, List.nil_append, hp2, hpin, go_sem, Nat.reduceAdd, Nat.reduceMul]
  refine aCall_det zu hp2 ?_
  simp (decide := true) (maxSteps := 4000000) only [beq_self_eq_true, Bool.and_self, drop0, row1_length, rows_length, memB, memoryC, memoryW, valueC, valueW, vI, vB, vS, cI, cB, cS, roI, ro64, List.cons_append, List.nil_append, hp2, hpin, go_sem, Nat.reduceAdd, Nat.reduceMul]
  refine aCall_det hmn hp2 ?_
  simp (decide := true) (maxSteps := 4000000) only [beq_self_eq_true, Bool.and_self, drop0, row1_length, rows_length, memB, memoryC, memoryW, valueC, valueW, vI, vB, vS, cI, cB, cS, roI, ro64, List.cons_append, List.nil_append, hp2, hpin, go_sem, Nat.reduceAdd, Nat.reduceMul]
  refine ⟨rfl, ?_⟩
  have h35 : ((3 : Nat) < 5) = True := by simp
  simp (decide := true) only [fmu, fm3, fmr, fmo, h35, drop0, row1_length, rows_length, memB, memoryC, memoryW, valueC, valueW, vI, vB, vS, cI, cB, cS, roI, ro64, List.cons_append, List.nil_append, hp2, hpin, go_sem, Nat.reduceAdd, Nat.reduceMul]
  refine code_sound sized _ ?_
  simp (decide := true) only [drop0, row1_length, rows_length, memB, memoryC, memoryW, valueC, valueW, vI, vB, vS, cI, cB, cS, roI, ro64, List.cons_append, List.nil_append, hpin, go_sem, Nat.reduceAdd, Nat.reduceMul]
  rfl
end Go.Proofs.Ytldniggehdpheaa.AW
