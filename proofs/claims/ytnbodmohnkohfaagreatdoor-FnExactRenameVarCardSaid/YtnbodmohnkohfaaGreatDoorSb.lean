/- Names and key words. No condition beyond those named. -/
import Derived.Test.YtnbodmohnkohfaaGreatDoorSa
namespace Go.Proofs.YtnbodmohnkohfaaGreatDoor.AW
open Go.RowKit
set_option maxHeartbeats 4000000
set_option maxRecDepth 100000
set_option linter.unusedSimpArgs false
set_option linter.unusedVariables false

def inI (n lo hi : Int) : Bool := decide (lo ≤ n) && decide (n ≤ hi)
theorem in' (n lo hi : Int) : Sound Tryz.prog 61 [.ro (.sc (.int .i64 n)), .ro (.sc (.int .i64 lo)), .ro (.sc (.int .i64 hi))] (fun rs st => rs = [(false, [cB (inI n lo hi)])]) := in_sound n lo hi
theorem l01In' (n lo hi : Int) : Sound Tryz.prog 29 [.ro (.sc (.int .i64 n)), .ro (.sc (.int .i64 lo)), .ro (.sc (.int .i64 hi))] (fun rs st => rs = [(false, [cB (inI n lo hi)])]) := l01In_sound n lo hi
def letB (n : Int) : Bool := decide (97 ≤ n) && decide (n ≤ 122)
theorem isLetter_sound (n : Int) : Sound Tryz.prog 100 [.ro (.sc (.int .u8 n))] (fun rs st => rs = [(false, [cB (letB n)])]) := by
  refine sound_code (fn := Tryz.f100) (c := Tryz.f100.body.getD .skip) (res := [.tm 2]) (n := 9) sized (by kernel_rfl) (by rfl) (by kernel_rfl) (by rfl) (by rfl) (by simp [argsV]) (fun C hpin hfull => ?_)
  simp (decide := true) only [Tryz.f100, row1_length, cI, cB, cS, roI, ro64, hpin, go_sem, Nat.reduceAdd, Nat.reduceMul]
  by_cases h : 97 ≤ n <;> simp [h, letB]

theorem l03Letter_sound (n : Int) : Sound Tryz.prog 92 [.ro (.sc (.int .u8 n))] (fun rs st => rs = [(false, [cB (letB n)])]) := by
  refine sound_code (fn := Tryz.f92) (c := Tryz.f92.body.getD .skip) (res := [.tm 2]) (n := 9) sized (by kernel_rfl) (by rfl) (by kernel_rfl) (by rfl) (by rfl) (by simp [argsV]) (fun C hpin hfull => ?_)
  simp (decide := true) only [Tryz.f92, row1_length, cI, cB, cS, roI, ro64, hpin, go_sem, Nat.reduceAdd, Nat.reduceMul]
  by_cases h : 97 ≤ n <;> simp [h, letB]

def figB (n : Int) : Bool := decide (48 ≤ n) && decide (n ≤ 57)
theorem isFigure_sound (n : Int) : Sound Tryz.prog 101 [.ro (.sc (.int .u8 n))] (fun rs st => rs = [(false, [cB (figB n)])]) := by
  refine sound_code (fn := Tryz.f101) (c := Tryz.f101.body.getD .skip) (res := [.tm 2]) (n := 9) sized (by kernel_rfl) (by rfl) (by kernel_rfl) (by rfl) (by rfl) (by simp [argsV]) (fun C hpin hfull => ?_)
  simp (decide := true) only [Tryz.f101, row1_length, cI, cB, cS, roI, ro64, hpin, go_sem, Nat.reduceAdd, Nat.reduceMul]
  by_cases h : 48 ≤ n <;> simp [h, figB]

theorem l03Figure_sound (n : Int) : Sound Tryz.prog 94 [.ro (.sc (.int .u8 n))] (fun rs st => rs = [(false, [cB (figB n)])]) := by
  refine sound_code (fn := Tryz.f94) (c := Tryz.f94.body.getD .skip) (res := [.tm 2]) (n := 9) sized (by kernel_rfl) (by rfl) (by kernel_rfl) (by rfl) (by rfl) (by simp [argsV]) (fun C hpin hfull => ?_)
  simp (decide := true) only [Tryz.f94, row1_length, cI, cB, cS, roI, ro64, hpin, go_sem, Nat.reduceAdd, Nat.reduceMul]
  by_cases h : 48 ≤ n <;> simp [h, figB]

def keyList : List ByteArray := [⟨#[102, 110]⟩, ⟨#[108, 101, 116]⟩, ⟨#[105, 102]⟩, ⟨#[101, 108, 115, 101]⟩, ⟨#[119, 104, 105, 108, 101]⟩, ⟨#[112, 114, 105, 110, 116]⟩, ⟨#[100, 111]⟩, ⟨#[110, 101, 119]⟩, ⟨#[99, 108, 111, 110, 101]⟩, ⟨#[109, 117, 116]⟩, ⟨#[105, 110, 112, 117, 116]⟩, ⟨#[105, 110, 116]⟩, ⟨#[98, 111, 120]⟩, ⟨#[114, 101, 116]⟩]
def keyText : ByteArray := ⟨#[102, 110, 32, 108, 101, 116, 32, 105, 102, 32, 101, 108, 115, 101, 32, 119, 104, 105, 108, 101, 32, 112, 114, 105, 110, 116, 32, 100, 111, 32, 110, 101, 119, 32, 99, 108, 111, 110, 101, 32, 109, 117, 116, 32, 105, 110, 112, 117, 116, 32, 105, 110, 116, 32, 98, 111, 120, 32, 114, 101, 116]⟩
theorem keyText_split : splitS keyText 32 = keyList := by kernel_rfl
def anyEq (l : List ByteArray) (s : ByteArray) : Bool := l.any fun w => decide (w = s)
theorem anyEq_take {l : List ByteArray} {s : ByteArray} {i : Nat} (h : i < l.length) : anyEq (l.take (i + 1)) s = (anyEq (l.take i) s || decide (l[i] = s)) := by
  unfold anyEq
  rw [List.take_succ_eq_append_getElem h, List.any_append]; simp
theorem anyEq_true {l : List ByteArray} {s : ByteArray} {i : Nat} (h : i < l.length) (he : decide (l[i] = s) = true) : anyEq l s = true := by
  unfold anyEq
  rw [List.any_eq_true]
  exact ⟨l[i], List.getElem_mem h, he⟩

theorem oneOf_sound (s t : ByteArray) (ht : t.size ≤ 1048576) : Sound Tryz.prog 147 [.ro (.sc (.string s)), .ro (.sc (.string t))] (fun rs st => rs = [(false, [cB (anyEq (splitS t 32) s)])]) := by
  refine sound_code (fn := Tryz.f147) (c := Tryz.f147.body.getD .skip) (res := [.tm 4]) (n := 18) sized (by kernel_rfl) (by rfl) (by kernel_rfl) (by rfl) (by rfl) (by simp [argsV]) (fun C hpin hfull => ?_)
  have hl : (splitS t 32).length ≤ 1048577 := by
    unfold splitS; rw [List.length_map, splitL_length]
    have : t.data.toList.count 32 ≤ t.size := by rw [← sizeS]; exact List.count_le_length
    omega
  simp (decide := true) only [Tryz.f147, row1_length, cI, cB, cS, roI, ro64, hpin, go_sem, Nat.reduceAdd, Nat.reduceMul]
  refine aCall_det (split_sound t 32 ht) hpin ?_
  simp (decide := true) only [sp1, row1_length, cI, cB, cS, roI, ro64, hpin, go_sem, Nat.reduceAdd, Nat.reduceMul]
  generalize splitS t 32 = l at hl ⊢
  refine Tri.loop (ι := Nat) (fun i => i ≤ l.length ∧ anyEq (l.take i) s = false) (fun i => ⟨18, [(0, vS s), (4, vB false), (8, .ref 3008 [] l.length), (9, vI l.length), (10, vI i)], [(3008, .row 9 (row1 cS l))]⟩) (fun i => l.length - i) 0 (by simp [anyEq]) ?_ ?_
  · refine Ent.weak ?_ ?_ ?_ ?_ <;> simp (decide := true) [subT, subB, hereT, hereV, hereL, St.get, look, vI, vB, vS, cS]
  · rintro i ⟨hi, hn⟩
    refine code_sound sized _ ?_
    by_cases h : i < l.length
    · have e : ((i : Int) < (l.length : Int)) = True := by simp [h]
      simp (decide := true) only [e, row1_get _ _ h, row1_getq _ _ h, Int.natCast_nonneg, vI, vB, vS, row1_length, cI, cB, cS, roI, ro64, hpin, go_sem, Nat.reduceAdd, Nat.reduceMul]
      cases hq : decide (l[i] = s) with
      | true =>
        simp (decide := true) only [vI, vB, vS, anyEq_true h hq, row1_length, cI, cB, cS, roI, ro64, hpin, go_sem, Nat.reduceAdd, Nat.reduceMul]
      | false =>
        simp (decide := true) only [vI, vB, vS, row1_length, cI, cB, cS, roI, ro64, hpin, go_sem, Nat.reduceAdd, Nat.reduceMul]
        refine ⟨i + 1, ⟨h, by rw [anyEq_take h, hn, hq]; rfl⟩, by omega, Ent.weak ?_ ?_ ?_ ?_⟩
        all_goals simp (decide := true) [subT, subB, hereT, hereV, St.get, look, w64s (n := l.length) h (by omega), vI, vB, vS, cS]
    · have hil : i = l.length := by omega
      subst hil
      have e : ((l.length : Int) < (l.length : Int)) = False := by simp
      rw [List.take_length] at hn
      simp (decide := true) only [e, hn, vI, vB, vS, row1_length, cI, cB, cS, roI, ro64, hpin, go_sem, Nat.reduceAdd, Nat.reduceMul]

theorem keyWordI_sound (s : ByteArray) : Sound Tryz.prog 102 [.ro (.sc (.string s))] (fun rs st => rs = [(false, [cB (anyEq keyList s)])]) := by
  refine sound_code (fn := Tryz.f102) (c := Tryz.f102.body.getD .skip) (res := [.tm 2]) (n := 5) sized (by kernel_rfl) (by rfl) (by kernel_rfl) (by rfl) (by rfl) (by simp [argsV]) (fun C hpin hfull => ?_)
  simp (decide := true) only [Tryz.f102, row1_length, cI, cB, cS, roI, ro64, hpin, go_sem, Nat.reduceAdd, Nat.reduceMul]
  have := oneOf_sound s keyText (by decide)
  rw [keyText_split] at this
  refine aCall_det this hpin ?_
  simp (decide := true) only [keyText, row1_length, cI, cB, cS, roI, ro64, hpin, go_sem, Nat.reduceAdd, Nat.reduceMul]

theorem keys_sound : Sound Tryz.prog 144 [] (fun rs st => rs = [(false, [.row false 9 (row1 cS keyList)])]) := by
  refine sound_code (fn := Tryz.f144) (c := Tryz.f144.body.getD .skip) (res := [.tm 0]) (n := 2) sized (by kernel_rfl) (by rfl) (by kernel_rfl) (by rfl) (by rfl) (by simp [argsV]) (fun C hpin hfull => ?_)
  simp (decide := true) only [Tryz.f144, row1_length, cI, cB, cS, roI, ro64, hpin, go_sem, Nat.reduceAdd, Nat.reduceMul]
  rfl

theorem keyWordS_sound (s : ByteArray) : Sound Tryz.prog 93 [.ro (.sc (.string s))] (fun rs st => rs = [(false, [cB (anyEq keyList s)])]) := by
  refine sound_code (fn := Tryz.f93) (c := Tryz.f93.body.getD .skip) (res := [.tm 2]) (n := 18) sized (by kernel_rfl) (by rfl) (by kernel_rfl) (by rfl) (by rfl) (by simp [argsV]) (fun C hpin hfull => ?_)
  simp (decide := true) only [Tryz.f93, row1_length, cI, cB, cS, roI, ro64, hpin, go_sem, Nat.reduceAdd, Nat.reduceMul]
  refine aCall_det keys_sound hpin ?_
  simp (decide := true) only [row1_length, cI, cB, cS, roI, ro64, hpin, go_sem, Nat.reduceAdd, Nat.reduceMul]
  have hl : keyList.length ≤ 14 := by decide
  generalize keyList = l at hl ⊢
  refine Tri.loop (ι := Nat) (fun i => i ≤ l.length ∧ anyEq (l.take i) s = false) (fun i => ⟨18, [(0, vS s), (2, vB false), (3, .ref 3 [] l.length), (4, vI i)], [(3, .row 9 (row1 cS l))]⟩) (fun i => l.length - i) 0 (by simp [anyEq]) ?_ ?_
  · refine Ent.weak ?_ ?_ ?_ ?_ <;> simp (decide := true) [subT, subB, hereT, hereV, hereL, St.get, look, vI, vB, vS, cS]
  · rintro i ⟨hi, hn⟩
    refine code_sound sized _ ?_
    by_cases h : i < l.length
    · have e : ((i : Int) < (l.length : Int)) = True := by simp [h]
      simp (decide := true) only [e, row1_get _ _ h, row1_getq _ _ h, Int.natCast_nonneg, vI, vB, vS, row1_length, cI, cB, cS, roI, ro64, hpin, go_sem, Nat.reduceAdd, Nat.reduceMul]
      cases hq : decide (l[i] = s) with
      | true =>
        simp (decide := true) only [vI, vB, vS, anyEq_true h hq, row1_length, cI, cB, cS, roI, ro64, hpin, go_sem, Nat.reduceAdd, Nat.reduceMul]
      | false =>
        simp (decide := true) only [vI, vB, vS, row1_length, cI, cB, cS, roI, ro64, hpin, go_sem, Nat.reduceAdd, Nat.reduceMul]
        refine ⟨i + 1, ⟨h, by rw [anyEq_take h, hn, hq]; rfl⟩, by omega, Ent.weak ?_ ?_ ?_ ?_⟩
        all_goals simp (decide := true) [subT, subB, hereT, hereV, St.get, look, w64s (n := l.length) h (by omega), vI, vB, vS, cS]
    · have hil : i = l.length := by omega
      subst hil
      have e : ((l.length : Int) < (l.length : Int)) = False := by simp
      rw [List.take_length] at hn
      simp (decide := true) only [e, hn, vI, vB, vS, row1_length, cI, cB, cS, roI, ro64, hpin, go_sem, Nat.reduceAdd, Nat.reduceMul]

def chB (n : Nat) : Bool := letB n || figB n
def charsB (s : ByteArray) (i : Nat) : Bool := (s.data.toList.take i).all fun b => chB b.toNat
def nameB (s : ByteArray) : Bool := inI s.size 1 8 && (letB (((s.data.toList.getD (Int.toNat 0) 0).toNat : Nat) : Int) && (!anyEq keyList s && charsB s s.size))
theorem chars_take {s : ByteArray} {i : Nat} (h : i < s.size) : charsB s (i + 1) = (charsB s i && chB (s.data.toList.getD i 0).toNat) := by
  have h' : i < s.data.toList.length := by rw [sizeS]; exact h
  unfold charsB
  have e : s.data.toList.getD i 0 = s.data.toList[i] := by rw [List.getD_eq_getElem?_getD, List.getElem?_eq_getElem h']; rfl
  rw [List.take_succ_eq_append_getElem h', List.all_append, e]
  simp only [List.all_cons, List.all_nil, Bool.and_true]
theorem chars_false {s : ByteArray} {i : Nat} (h : i < s.size) (hc : charsB s (i + 1) = false) : charsB s s.size = false := by
  have h2 : s.data.toList.take s.size = s.data.toList.take (i + 1) ++ (s.data.toList.drop (i + 1)).take (s.size - (i + 1)) := by
    rw [← List.take_add]; congr 1; omega
  unfold charsB at hc ⊢
  rw [h2, List.all_append, hc]; rfl

theorem nameI_sound (s : ByteArray) : Sound Tryz.prog 53 [.ro (.sc (.string s))] (fun rs st => rs = [(false, [cB (nameB s)])]) := by
  refine sound_code (fn := Tryz.f53) (c := Tryz.f53.body.getD .skip) (res := [.tm 2]) (n := 35) sized (by kernel_rfl) (by rfl) (by kernel_rfl) (by rfl) (by rfl) (by simp [argsV]) (fun C hpin hfull => ?_)
  simp (decide := true) only [Tryz.f53, row1_length, cI, cB, cS, roI, ro64, hpin, go_sem, Nat.reduceAdd, Nat.reduceMul]
  refine aCall_det (in' s.size 1 8) hpin ?_
  simp (decide := true) only [row1_length, cI, cB, cS, roI, ro64, hpin, go_sem, Nat.reduceAdd, Nat.reduceMul]
  unfold nameB
  cases h1 : inI s.size 1 8 with
  | false =>
    simp (decide := true) only [Bool.false_and, row1_length, cI, cB, cS, roI, ro64, hpin, go_sem, Nat.reduceAdd, Nat.reduceMul]
  | true =>
    have hs : 1 ≤ s.size ∧ s.size ≤ 8 := by simp [inI] at h1; omega
    have e0 : ((0 : Int) < (s.size : Int)) = True := by simp; omega
    simp (decide := true) only [e0, row1_length, cI, cB, cS, roI, ro64, hpin, go_sem, Nat.reduceAdd, Nat.reduceMul]
    refine aCall_det (isLetter_sound (((s.data.toList.getD (Int.toNat 0) 0).toNat : Nat) : Int)) hpin ?_
    simp (decide := true) only [row1_length, cI, cB, cS, roI, ro64, hpin, go_sem, Nat.reduceAdd, Nat.reduceMul]
    cases h2 : letB (((s.data.toList.getD (Int.toNat 0) 0).toNat : Nat) : Int) with
    | false =>
      simp (decide := true) only [Bool.false_and, Bool.true_and, row1_length, cI, cB, cS, roI, ro64, hpin, go_sem, Nat.reduceAdd, Nat.reduceMul]
    | true =>
      simp (decide := true) only [Bool.true_and, row1_length, cI, cB, cS, roI, ro64, hpin, go_sem, Nat.reduceAdd, Nat.reduceMul]
      refine Tri.loop (ι := Nat) (fun i => i ≤ s.size ∧ charsB s i = true) (fun i => ⟨35, [(0, vS s), (2, vB false), (3, vI i)], []⟩) (fun i => s.size - i) 0 (by simp [charsB]) ?_ ?_
      · refine Ent.weak ?_ ?_ ?_ ?_ <;> simp (decide := true) [subT, subB, hereT, hereV, hereL, St.get, look, vI, vB, vS, cS]
      · rintro i ⟨hi, hn⟩
        refine code_sound sized _ ?_
        by_cases h : i < s.size
        · have e : ((i : Int) < (s.size : Int)) = True := by simp [h]
          simp (decide := true) only [e, Int.natCast_nonneg, vI, vB, vS, row1_length, cI, cB, cS, roI, ro64, hpin, go_sem, Nat.reduceAdd, Nat.reduceMul]
          refine aCall_det (isLetter_sound (((s.data.toList.getD i 0).toNat : Nat) : Int)) hpin ?_
          simp (decide := true) only [e, Int.natCast_nonneg, vI, vB, vS, row1_length, cI, cB, cS, roI, ro64, hpin, go_sem, Nat.reduceAdd, Nat.reduceMul]
          cases hl : letB (((s.data.toList.getD i 0).toNat : Nat) : Int) with
          | true =>
            simp (decide := true) only [vI, vB, vS, row1_length, cI, cB, cS, roI, ro64, hpin, go_sem, Nat.reduceAdd, Nat.reduceMul]
            refine ⟨i + 1, ⟨h, by rw [chars_take h, hn, chB, hl]; rfl⟩, by omega, Ent.weak ?_ ?_ ?_ ?_⟩
            all_goals simp (decide := true) [subT, subB, hereT, hereV, St.get, look, w64s (n := s.size) h (by omega), vI, vB, vS, cS]
          | false =>
            simp (decide := true) only [e, Int.natCast_nonneg, vI, vB, vS, row1_length, cI, cB, cS, roI, ro64, hpin, go_sem, Nat.reduceAdd, Nat.reduceMul]
            refine aCall_det (isFigure_sound (((s.data.toList.getD i 0).toNat : Nat) : Int)) hpin ?_
            simp (decide := true) only [vI, vB, vS, row1_length, cI, cB, cS, roI, ro64, hpin, go_sem, Nat.reduceAdd, Nat.reduceMul]
            cases hf : figB (((s.data.toList.getD i 0).toNat : Nat) : Int) with
            | true =>
              simp (decide := true) only [vI, vB, vS, row1_length, cI, cB, cS, roI, ro64, hpin, go_sem, Nat.reduceAdd, Nat.reduceMul]
              refine ⟨i + 1, ⟨h, by rw [chars_take h, hn, chB, hl, hf]; rfl⟩, by omega, Ent.weak ?_ ?_ ?_ ?_⟩
              all_goals simp (decide := true) [subT, subB, hereT, hereV, St.get, look, w64s (n := s.size) h (by omega), vI, vB, vS, cS]
            | false =>
              have hx := chars_false h (by rw [chars_take h, hn, chB, hl, hf]; rfl)
              simp (decide := true) only [hx, vI, vB, vS, row1_length, cI, cB, cS, roI, ro64, hpin, go_sem, Nat.reduceAdd, Nat.reduceMul]
        · have hil : i = s.size := by omega
          subst hil
          have e : ((s.size : Int) < (s.size : Int)) = False := by simp
          simp (decide := true) only [e, hn, vI, vB, vS, row1_length, cI, cB, cS, roI, ro64, hpin, go_sem, Nat.reduceAdd, Nat.reduceMul]
          refine aCall_det (keyWordI_sound s) hpin ?_
          simp (decide := true) only [vI, vB, vS, row1_length, cI, cB, cS, roI, ro64, hpin, go_sem, Nat.reduceAdd, Nat.reduceMul]
          simp [hn]

theorem nameS_sound (s : ByteArray) : Sound Tryz.prog 49 [.ro (.sc (.string s))] (fun rs st => rs = [(false, [cB (nameB s)])]) := by
  refine sound_code (fn := Tryz.f49) (c := Tryz.f49.body.getD .skip) (res := [.tm 2]) (n := 36) sized (by kernel_rfl) (by rfl) (by kernel_rfl) (by rfl) (by rfl) (by simp [argsV]) (fun C hpin hfull => ?_)
  simp (decide := true) only [Tryz.f49, row1_length, cI, cB, cS, roI, ro64, hpin, go_sem, Nat.reduceAdd, Nat.reduceMul]
  refine aCall_det (l01In' s.size 1 8) hpin ?_
  simp (decide := true) only [row1_length, cI, cB, cS, roI, ro64, hpin, go_sem, Nat.reduceAdd, Nat.reduceMul]
  unfold nameB
  cases h1 : inI s.size 1 8 with
  | false =>
    simp (decide := true) only [Bool.false_and, row1_length, cI, cB, cS, roI, ro64, hpin, go_sem, Nat.reduceAdd, Nat.reduceMul]
  | true =>
    have hs : 1 ≤ s.size ∧ s.size ≤ 8 := by simp [inI] at h1; omega
    have e0 : ((0 : Int) < (s.size : Int)) = True := by simp; omega
    simp (decide := true) only [e0, row1_length, cI, cB, cS, roI, ro64, hpin, go_sem, Nat.reduceAdd, Nat.reduceMul]
    refine aCall_det (l03Letter_sound (((s.data.toList.getD (Int.toNat 0) 0).toNat : Nat) : Int)) hpin ?_
    simp (decide := true) only [row1_length, cI, cB, cS, roI, ro64, hpin, go_sem, Nat.reduceAdd, Nat.reduceMul]
    cases h2 : letB (((s.data.toList.getD (Int.toNat 0) 0).toNat : Nat) : Int) with
    | false =>
      simp (decide := true) only [Bool.false_and, Bool.true_and, row1_length, cI, cB, cS, roI, ro64, hpin, go_sem, Nat.reduceAdd, Nat.reduceMul]
    | true =>
      simp (decide := true) only [Bool.true_and, row1_length, cI, cB, cS, roI, ro64, hpin, go_sem, Nat.reduceAdd, Nat.reduceMul]
      refine aCall_det (keyWordS_sound s) hpin ?_
      simp (decide := true) only [Bool.true_and, row1_length, cI, cB, cS, roI, ro64, hpin, go_sem, Nat.reduceAdd, Nat.reduceMul]
      cases h3 : anyEq keyList s with
      | true => simp (decide := true) only [Bool.false_and, row1_length, cI, cB, cS, roI, ro64, hpin, go_sem, Nat.reduceAdd, Nat.reduceMul]
      | false =>
      simp (decide := true) only [Bool.true_and, row1_length, cI, cB, cS, roI, ro64, hpin, go_sem, Nat.reduceAdd, Nat.reduceMul]
      refine Tri.loop (ι := Nat) (fun i => i ≤ s.size ∧ charsB s i = true) (fun i => ⟨36, [(0, vS s), (2, vB false), (3, vI i)], []⟩) (fun i => s.size - i) 0 (by simp [charsB]) ?_ ?_
      · refine Ent.weak ?_ ?_ ?_ ?_ <;> simp (decide := true) [subT, subB, hereT, hereV, hereL, St.get, look, vI, vB, vS, cS]
      · rintro i ⟨hi, hn⟩
        refine code_sound sized _ ?_
        by_cases h : i < s.size
        · have e : ((i : Int) < (s.size : Int)) = True := by simp [h]
          simp (decide := true) only [e, Int.natCast_nonneg, vI, vB, vS, row1_length, cI, cB, cS, roI, ro64, hpin, go_sem, Nat.reduceAdd, Nat.reduceMul]
          refine aCall_det (l03Letter_sound (((s.data.toList.getD i 0).toNat : Nat) : Int)) hpin ?_
          simp (decide := true) only [e, Int.natCast_nonneg, vI, vB, vS, row1_length, cI, cB, cS, roI, ro64, hpin, go_sem, Nat.reduceAdd, Nat.reduceMul]
          cases hl : letB (((s.data.toList.getD i 0).toNat : Nat) : Int) with
          | true =>
            simp (decide := true) only [vI, vB, vS, row1_length, cI, cB, cS, roI, ro64, hpin, go_sem, Nat.reduceAdd, Nat.reduceMul]
            refine ⟨i + 1, ⟨h, by rw [chars_take h, hn, chB, hl]; rfl⟩, by omega, Ent.weak ?_ ?_ ?_ ?_⟩
            all_goals simp (decide := true) [subT, subB, hereT, hereV, St.get, look, w64s (n := s.size) h (by omega), vI, vB, vS, cS]
          | false =>
            simp (decide := true) only [e, Int.natCast_nonneg, vI, vB, vS, row1_length, cI, cB, cS, roI, ro64, hpin, go_sem, Nat.reduceAdd, Nat.reduceMul]
            refine aCall_det (l03Figure_sound (((s.data.toList.getD i 0).toNat : Nat) : Int)) hpin ?_
            simp (decide := true) only [vI, vB, vS, row1_length, cI, cB, cS, roI, ro64, hpin, go_sem, Nat.reduceAdd, Nat.reduceMul]
            cases hf : figB (((s.data.toList.getD i 0).toNat : Nat) : Int) with
            | true =>
              simp (decide := true) only [vI, vB, vS, row1_length, cI, cB, cS, roI, ro64, hpin, go_sem, Nat.reduceAdd, Nat.reduceMul]
              refine ⟨i + 1, ⟨h, by rw [chars_take h, hn, chB, hl, hf]; rfl⟩, by omega, Ent.weak ?_ ?_ ?_ ?_⟩
              all_goals simp (decide := true) [subT, subB, hereT, hereV, St.get, look, w64s (n := s.size) h (by omega), vI, vB, vS, cS]
            | false =>
              have hx := chars_false h (by rw [chars_take h, hn, chB, hl, hf]; rfl)
              simp (decide := true) only [hx, vI, vB, vS, row1_length, cI, cB, cS, roI, ro64, hpin, go_sem, Nat.reduceAdd, Nat.reduceMul]
        · have hil : i = s.size := by omega
          subst hil
          have e : ((s.size : Int) < (s.size : Int)) = False := by simp
          simp (decide := true) only [e, hn, vI, vB, vS, row1_length, cI, cB, cS, roI, ro64, hpin, go_sem, Nat.reduceAdd, Nat.reduceMul]
end Go.Proofs.YtnbodmohnkohfaaGreatDoor.AW
