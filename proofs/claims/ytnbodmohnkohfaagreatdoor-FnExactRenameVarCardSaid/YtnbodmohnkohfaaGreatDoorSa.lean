/- Texts cut at a byte: the library's functions for it. No condition beyond those named. -/
import Derived.Test.YtnbodmohnkohfaaGreatDoorTm
namespace Go.Proofs.YtnbodmohnkohfaaGreatDoor.AW
open Go.RowKit
set_option maxHeartbeats 4000000
set_option maxRecDepth 100000
set_option linter.unusedSimpArgs false
set_option linter.unusedVariables false

/-- A text of one byte. -/
def sp1 (c : UInt8) : ByteArray := ⟨#[c]⟩
theorem sp1_len (c : UInt8) : (((sp1 c).size : Nat) : Int) = 1 := rfl
theorem i10 : ((1 : Int) == 0) = false := rfl
theorem im0 : ((-1 : Int) == 0) = false := rfl
theorem i11 : ((1 : Int) == 1) = true := rfl
theorem sp1_get (c : UInt8) : (sp1 c).data.toList.getD (Int.toNat 0) 0 = c := rfl

theorem ixByte_sound (s : ByteArray) (c : UInt8) : Sound Tryz.prog 216 [.ro (.sc (.string s)), .ro (.sc (.int .u8 (c.toNat : Int)))] (fun rs st => rs = [(false, [cI (Lib.indexByte s.data.toList c)])]) := by
  refine sound_code (fn := Tryz.f216) (c := Tryz.f216.body.getD .skip) (res := [.tm 4]) (n := 8) sized (by kernel_rfl) (by rfl) (by kernel_rfl) (by rfl) (by rfl) (by simp [argsV]) (fun C hpin hfull => ?_)
  simp (decide := true) only [Tryz.f216, row1_length, cI, cB, cS, roI, ro64, hpin, go_sem, Nat.reduceAdd, Nat.reduceMul]
  refine aCall_nat (fn := Tryz.f220) (e := Extern.BytealgIndexByte.indexByte) (us := [.string s, .int .u8 (c.toNat : Int)]) (r := .int .i64 (Lib.indexByte s.data.toList c)) (by kernel_rfl) (by kernel_rfl) (by kernel_rfl) (by kernel_rfl) (by kernel_rfl) (fun w => by have := Lib.run_indexByteString (P := Tryz.prog) s (c.toNat : Int) w; simpa using this) rfl rfl ?_
  simp (decide := true) only [row1_length, cI, cB, cS, roI, ro64, hpin, go_sem, Nat.reduceAdd, Nat.reduceMul]

theorem ix_self (c : UInt8) : Lib.indexByte (sp1 c).data.toList c = 0 := by simp [sp1, Lib.indexByte]
theorem ix1_sound (s : ByteArray) (c : UInt8) : Sound Tryz.prog 212 [.ro (.sc (.string s)), .ro (.sc (.string (sp1 c)))] (fun rs st => rs = [(false, [cI (Lib.indexByte s.data.toList c)])]) := by
  refine sound_code (fn := Tryz.f212) (c := Tryz.f212.body.getD .skip) (res := [.tm 4]) (n := 143) sized (by kernel_rfl) (by rfl) (by kernel_rfl) (by rfl) (by rfl) (by simp [argsV]) (fun C hpin hfull => ?_)
  simp (decide := true) only [Tryz.f212, sp1_len, sp1_get, i10, i11, row1_length, cI, cB, cS, roI, ro64, hpin, go_sem, Nat.reduceAdd, Nat.reduceMul]
  cases h : decide (sp1 c = s) with
  | true =>
    have h' := of_decide_eq_true h
    subst h'
    simp (decide := true) only [row1_length, cI, cB, cS, roI, ro64, hpin, go_sem, Nat.reduceAdd, Nat.reduceMul]
    rw [ix_self]
  | false =>
    simp (decide := true) only [sp1_len, sp1_get, i10, i11, row1_length, cI, cB, cS, roI, ro64, hpin, go_sem, Nat.reduceAdd, Nat.reduceMul]
    refine aCall_det (ixByte_sound s c) hpin ?_
    simp (decide := true) only [row1_length, cI, cB, cS, roI, ro64, hpin, go_sem, Nat.reduceAdd, Nat.reduceMul]

theorem index1_sound (s : ByteArray) (c : UInt8) : Sound Tryz.prog 200 [.ro (.sc (.string s)), .ro (.sc (.string (sp1 c)))] (fun rs st => rs = [(false, [cI (Lib.indexByte s.data.toList c)])]) := by
  refine sound_code (fn := Tryz.f200) (c := Tryz.f200.body.getD .skip) (res := [.tm 4]) (n := 8) sized (by kernel_rfl) (by rfl) (by kernel_rfl) (by rfl) (by rfl) (by simp [argsV]) (fun C hpin hfull => ?_)
  simp (decide := true) only [Tryz.f200, row1_length, cI, cB, cS, roI, ro64, hpin, go_sem, Nat.reduceAdd, Nat.reduceMul]
  refine aCall_det (ix1_sound s c) hpin ?_
  simp (decide := true) only [row1_length, cI, cB, cS, roI, ro64, hpin, go_sem, Nat.reduceAdd, Nat.reduceMul]

theorem count1_sound (s : ByteArray) (c : UInt8) : Sound Tryz.prog 199 [.ro (.sc (.string s)), .ro (.sc (.string (sp1 c)))] (fun rs st => rs = [(false, [cI ((s.data.toList.count c : Nat) : Int)])]) := by
  refine sound_code (fn := Tryz.f199) (c := Tryz.f199.body.getD .skip) (res := [.tm 4]) (n := 34) sized (by kernel_rfl) (by rfl) (by kernel_rfl) (by rfl) (by rfl) (by simp [argsV]) (fun C hpin hfull => ?_)
  simp (decide := true) only [Tryz.f199, sp1_len, sp1_get, i10, i11, row1_length, cI, cB, cS, roI, ro64, hpin, go_sem, Nat.reduceAdd, Nat.reduceMul]
  refine aCall_nat (fn := Tryz.f211) (e := Extern.BytealgCount.count) (us := [.string s, .int .u8 (c.toNat : Int)]) (r := .int .i64 ((s.data.toList.count c : Nat) : Int)) (by kernel_rfl) (by kernel_rfl) (by kernel_rfl) (by kernel_rfl) (by kernel_rfl) (fun w => by have := Lib.run_countString (P := Tryz.prog) s (c.toNat : Int) w; simpa [Lib.countByte] using this) rfl rfl ?_
  simp (decide := true) only [row1_length, cI, cB, cS, roI, ro64, hpin, go_sem, Nat.reduceAdd, Nat.reduceMul]

theorem sizeS (s : ByteArray) : s.data.toList.length = s.size := by cases s; rfl

theorem ext_take (s : ByteArray) (m : Nat) : s.extract 0 m = bytesS (s.data.toList.take m) := by
  apply ByteArray.ext
  rw [ByteArray.data_extract]
  apply Array.toList_inj.1
  rw [Array.toList_extract, List.extract_eq_take_drop]
  simp [bytesS]
theorem ext_drop (s : ByteArray) (k : Nat) : (s.extract k s.size).data.toList = s.data.toList.drop k := by
  rw [ByteArray.data_extract, Array.toList_extract, List.extract_eq_take_drop, ← sizeS, List.take_of_length_le (by simp)]
theorem ext_size (s : ByteArray) (k : Nat) : (s.extract k s.size).size = s.size - k := by simp

/-- What is filled in so far. -/
def parts (done : List (List UInt8)) (N : Nat) : List ByteArray := done.map bytesS ++ List.replicate (N - done.length) ⟨#[]⟩
theorem parts_length {done : List (List UInt8)} {N : Nat} (h : done.length ≤ N) : (parts done N).length = N := by simp [parts]; omega
theorem parts_set {done : List (List UInt8)} {N : Nat} (h : done.length < N) (x : List UInt8) : (parts done N).set done.length (bytesS x) = parts (done ++ [x]) N := by
  unfold parts
  rw [List.set_append_right _ _ (by simp), List.length_map, Nat.sub_self]
  obtain ⟨m, hm⟩ : ∃ m, N - done.length = m + 1 := ⟨N - done.length - 1, by omega⟩
  rw [hm, List.replicate_succ, List.set_cons_zero]
  have hm2 : N - (done ++ [x]).length = m := by simp; omega
  rw [hm2]
  simp only [List.map_append, List.map_cons, List.map_nil, List.append_assoc, List.cons_append, List.nil_append]

theorem genSplit_sound (s : ByteArray) (c : UInt8) (hs : s.size ≤ 1048576) : Sound Tryz.prog 178 [.ro (.sc (.string s)), .ro (.sc (.string (sp1 c))), .ro (.sc (.int .i64 0)), .ro (.sc (.int .i64 (-1)))] (fun rs st => rs = [(false, [.row false 9 (row1 cS (splitS s c))])]) := by
  refine sound_code (fn := Tryz.f178) (c := Tryz.f178.body.getD .skip) (res := [.tm 8]) (n := 66) sized (by kernel_rfl) (by rfl) (by kernel_rfl) (by rfl) (by rfl) (by simp [argsV]) (fun C hpin hfull => ?_)
  have hc : s.data.toList.count c ≤ s.size := by rw [← sizeS]; exact List.count_le_length
  have w1 : IntKind.i64.wrap (((s.data.toList.count c : Nat) : Int) + 1) = ((s.data.toList.count c + 1 : Nat) : Int) := by rw [w64 (by omega) (by omega)]; omega
  have w2 : IntKind.i64.wrap (((s.size : Nat) : Int) + 1) = ((s.size + 1 : Nat) : Int) := by rw [w64 (by omega) (by omega)]; omega
  have e0 : ¬ sp1 c = (⟨#[]⟩ : ByteArray) := by intro h; have := congrArg ByteArray.size h; simp [sp1, ByteArray.size] at this
  simp (decide := true) only [Tryz.f178, e0, im0, decide_false, sp1_len, row1_length, cI, cB, cS, roI, ro64, hpin, go_sem, Nat.reduceAdd, Nat.reduceMul]
  refine aCall_det (count1_sound s c) hpin ?_
  have em : ((((s.size + 1 : Nat) : Int)) < ((s.data.toList.count c + 1 : Nat) : Int)) = False := eq_false (by omega)
  have w3 : IntKind.i64.wrap (((s.data.toList.count c + 1 : Nat) : Int) - 1) = ((s.data.toList.count c : Nat) : Int) := by rw [w64 (by omega) (by omega)]; omega
  simp (decide := true) only [w1, w2, w3, em, e0, im0, decide_false, sp1_len, row1_length, cI, cB, cS, roI, ro64, hpin, go_sem, Nat.reduceAdd, Nat.reduceMul]
  refine ⟨by omega, by omega, by omega, ?_⟩
  let n0 := s.data.toList.count c
  refine Tri.loop (ι := List (List UInt8) × ByteArray) (fun q => splitL s.data.toList c = q.1 ++ splitL q.2.data.toList c ∧ q.1.length + q.2.data.toList.count c = n0 ∧ q.2.size ≤ 1048576) (fun q => ⟨66, [(0, vS q.2), (1, vS (sp1 c)), (2, vI 0), (3, vI n0), (8, .ref 8 [] 0), (9, .ref 9 [] (n0 + 1)), (10, vI q.1.length)], [(9, .row 9 (row1 cS (parts q.1 (n0 + 1)))), (8, .row 9 [])]⟩) (fun q => n0 - q.1.length) ([], s) ⟨by simp, by simp [n0], hs⟩ ?_ ?_
  · refine Ent.weak ?_ ?_ ?_ ?_ <;> simp (decide := true) [subT, subB, hereT, hereV, hereL, St.get, look, vI, vB, vS, cS, parts, row1, n0]
  · rintro ⟨done, cur⟩ ⟨hq1, hq2, hq3⟩
    simp only at hq1 hq2 hq3 ⊢
    refine code_sound sized _ ?_
    have hcc : cur.data.toList.count c ≤ cur.size := by rw [← sizeS]; exact List.count_le_length
    by_cases h : done.length < n0
    · have e : ((done.length : Int) < (n0 : Int)) = True := by simpa using h
      have hpl := parts_length (done := done) (N := n0 + 1) (by omega)
      simp (decide := true) only [e, hpl, vI, vS, row1_length, cI, cB, cS, roI, ro64, hpin, go_sem, Nat.reduceAdd, Nat.reduceMul]
      refine aCall_det (index1_sound cur c) hpin ?_
      have hm : 0 ≤ Lib.indexByte cur.data.toList c := by
        have h1 := Lib.indexByte_ge cur.data.toList c
        by_cases h2 : Lib.indexByte cur.data.toList c = -1
        · have h3 := splitL_length cur.data.toList c
          rw [splitL_none h2] at h3
          simp only [List.length_singleton] at h3
          omega
        · omega
      obtain ⟨g1, g2, g3⟩ := splitL_some hm
      generalize hmm : Lib.indexByte cur.data.toList c = m at hm g1 g2 g3 ⊢
      have en : (m < 0) = False := by simpa using hm
      have hlt : m.toNat < cur.size := by rw [← sizeS]; exact g1
      have w4 : IntKind.i64.wrap (m + 0) = m := by rw [w64 (by omega) (by omega)]; omega
      have w5 : IntKind.i64.wrap (m + 1) = m + 1 := w64 (by omega) (by omega)
      have hi : done.length < (parts done (n0 + 1)).length := by rw [hpl]; omega
      simp (decide := true) only [e, en, hpl, w4, w5, sp1_len, row1_get _ _ hi, vI, vS, row1_length, cI, cB, cS, roI, ro64, hpin, go_sem, Nat.reduceAdd, Nat.reduceMul]
      have e5 := row1_set cS (parts done (n0 + 1)) done.length (bytesS (cur.data.toList.take m.toNat))
      rw [parts_set (by omega)] at e5
      have e6 : cur.extract (Int.toNat 0) m.toNat = bytesS (cur.data.toList.take m.toNat) := ext_take cur m.toNat
      have e7 : (m + 1).toNat = m.toNat + 1 := by omega
      simp only [cS] at e5
      rw [e6, e5]
      refine ⟨by omega, by omega, by omega, by omega, (done ++ [cur.data.toList.take m.toNat], cur.extract (m.toNat + 1) cur.size), ⟨?_, ?_, ?_⟩, ?_, Ent.weak ?_ ?_ ?_ ?_⟩
      · simp only [ext_drop]; rw [hq1, g2]; simp
      · simp only [ext_drop, List.length_append, List.length_singleton]; omega
      · simp only [ext_size]; omega
      · simp only [List.length_append, List.length_singleton]; omega
      · have w6 : IntKind.i64.wrap ((done.length : Int) + 1) = ((done.length + 1 : Nat) : Int) := by rw [w64 (by omega) (by omega)]; omega
        simp (decide := true) [subT, St.get, look, vI, vS, w6, e7]
      · simp (decide := true) [subB, look, cS]
      all_goals simp (decide := true) [hereT, hereV, look, vI, vS]
    · have hd : done.length = n0 := by omega
      have e : ((done.length : Int) < (n0 : Int)) = False := by simp; omega
      have hpl := parts_length (done := done) (N := n0 + 1) (by omega)
      have hi : done.length < (parts done (n0 + 1)).length := by rw [hpl]; omega
      have w6 : IntKind.i64.wrap ((done.length : Int) + 1) = ((done.length + 1 : Nat) : Int) := by rw [w64 (by omega) (by omega)]; omega
      have hx : splitL cur.data.toList c = [cur.data.toList] := by
        refine splitL_none ?_
        have h1 := Lib.indexByte_ge cur.data.toList c
        by_cases h2 : 0 ≤ Lib.indexByte cur.data.toList c
        · have := (splitL_some h2).2.2
          omega
        · omega
      have e5 := row1_set cS (parts done (n0 + 1)) done.length (bytesS cur.data.toList)
      rw [parts_set (by omega), bytesS_data] at e5
      simp only [cS] at e5
      have e6 : parts (done ++ [cur.data.toList]) (n0 + 1) = splitS s c := by
        unfold splitS parts
        rw [hq1, hx]
        have : n0 + 1 - (done ++ [cur.data.toList]).length = 0 := by simp; omega
        rw [this]; simp
      rw [e6] at e5
      have e7 : (splitS s c).length = n0 + 1 := by unfold splitS; rw [List.length_map, splitL_length]
      simp (decide := true) only [e, hpl, row1_get _ _ hi, w6, e5, vI, vS, row1_length, cI, cB, cS, roI, ro64, hpin, go_sem, Nat.reduceAdd, Nat.reduceMul]
      exact ⟨by omega, by omega, by omega, by omega⟩

theorem split_sound (s : ByteArray) (c : UInt8) (hs : s.size ≤ 1048576) : Sound Tryz.prog 156 [.ro (.sc (.string s)), .ro (.sc (.string (sp1 c)))] (fun rs st => rs = [(false, [.row false 9 (row1 cS (splitS s c))])]) := by
  refine sound_code (fn := Tryz.f156) (c := Tryz.f156.body.getD .skip) (res := [.tm 4]) (n := 8) sized (by kernel_rfl) (by rfl) (by kernel_rfl) (by rfl) (by rfl) (by simp [argsV]) (fun C hpin hfull => ?_)
  simp (decide := true) only [Tryz.f156, row1_length, cI, cB, cS, roI, ro64, hpin, go_sem, Nat.reduceAdd, Nat.reduceMul]
  refine aCall_det (genSplit_sound s c hs) hpin ?_
  simp (decide := true) only [row1_length, cI, cB, cS, roI, ro64, hpin, go_sem, Nat.reduceAdd, Nat.reduceMul]
end Go.Proofs.YtnbodmohnkohfaaGreatDoor.AW
