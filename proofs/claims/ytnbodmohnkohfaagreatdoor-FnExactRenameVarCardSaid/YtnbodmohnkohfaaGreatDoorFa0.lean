/- Facts of the types, and functions on rows of numbers. No condition beyond those named. -/
import Derived.Test.YtnbodmohnkohfaaGreatDoorB4
import Derived.Test.YtnbodmohnkohfaaGreatDoorProg
import Derived.KernelRfl
namespace Go.Proofs.YtnbodmohnkohfaaGreatDoor.AW
open Go.RowKit
set_option maxHeartbeats 4000000
set_option maxRecDepth 100000
set_option linter.unusedSimpArgs false
set_option linter.unusedVariables false

theorem sized : Sized Tryz.prog := sized_of (by kernel_rfl)
theorem mixed : Tryz.prog.follows .mixedOrders = true := by kernel_rfl
theorem elIntS : elT Tryz.prog 26 = some 3 := by kernel_rfl
theorem rIntS : isR Tryz.prog 26 = some false := by kernel_rfl
theorem szIntS' : szT Tryz.prog 26 = 1 := by kernel_rfl
attribute [go_sem] elIntS rIntS szIntS'
theorem rInt : isR Tryz.prog 3 = some false := by kernel_rfl
theorem szInt : szT Tryz.prog 3 = 1 := by kernel_rfl
theorem zInt : zeroCells Tryz.prog 3 = some [.int .i64 0] := by kernel_rfl
theorem byInt : bytesT Tryz.prog 3 = 8 := by kernel_rfl
attribute [go_sem] rInt szInt zInt byInt
theorem rStr : isR Tryz.prog 9 = some false := by kernel_rfl
theorem uStr : Tryz.prog.underlying 9 = some .string := by kernel_rfl
theorem szStr : szT Tryz.prog 9 = 1 := by kernel_rfl
theorem byStr : bytesT Tryz.prog 9 = 16 := by kernel_rfl
attribute [go_sem] rStr uStr szStr byStr
theorem elStrS : elT Tryz.prog 145 = some 9 := by kernel_rfl
theorem rStrS : isR Tryz.prog 145 = some false := by kernel_rfl
theorem szStrS : szT Tryz.prog 145 = 1 := by kernel_rfl
theorem zStr : zeroCells Tryz.prog 9 = some [.string ⟨#[]⟩] := by kernel_rfl
attribute [go_sem] elStrS rStrS szStrS zStr
theorem rBool : isR Tryz.prog 4 = some false := by kernel_rfl
theorem szBool : szT Tryz.prog 4 = 1 := by kernel_rfl
theorem uBool : Tryz.prog.underlying 4 = some .bool := by kernel_rfl
attribute [go_sem] rBool szBool uBool
/-- Numbers, to be looked at. -/
abbrev roI (l : List Int) : V := .imm 3 (row1 cI l)
abbrev ro64 (n : Int) : V := .sc (.int .i64 n)

/-- What a row is marked with. -/
def marks (k : Int) (n : Nat) : List Int := (List.range n).map fun (i : Nat) => k + i
theorem marks_length (k : Int) (n : Nat) : (marks k n).length = n := by simp [marks]
theorem marks_get (k : Int) (n i : Nat) (h : i < (marks k n).length) : (marks k n)[i] = k + i := by simp [marks]

theorem hasInt_sound (l : List Int) (n : Int) (hl : l.length < 9223372036854775807) : Sound Tryz.prog 83 [.ro (roI l), .ro (.sc (.int .i64 n))] (fun rs st => rs = [(false, [cB (l.contains n)])]) := by
  refine sound_code (fn := Tryz.f83) (c := Tryz.f83.body.getD .skip) (res := [.tm 4]) (n := 17) sized (by kernel_rfl) (by rfl) (by kernel_rfl) (by rfl) (by rfl) (by simp [argsV]) (fun C hpin hfull => ?_)
  simp (decide := true) only [Tryz.f83, elIntS, rInt, row1_length, go_sem, Nat.reduceAdd, Nat.reduceMul]
  refine Tri.loop (ι := Nat) (fun i => i ≤ l.length ∧ (l.take i).contains n = false) (fun i => ⟨17, [(0, roI l), (1, vI n), (4, vB false), (7, roI l), (8, vI l.length), (9, vI i)], []⟩) (fun i => l.length - i) 0 (by simp) ?_ ?_
  · refine Ent.weak ?_ ?_ ?_ ?_ <;> simp (decide := true) [subT, subB, hereT, hereV, hereL, St.get, look, vI, vB, vS]
  · rintro i ⟨hi, hn⟩
    refine code_sound sized _ ?_
    by_cases h : i < l.length
    · have e : ((i : Int) < (l.length : Int)) = True := by simp [h]
      simp (decide := true) only [elIntS, rInt, e, row1_length, row1_get _ _ h, Int.natCast_nonneg, vI, vB, cI, cB, go_sem, Nat.reduceAdd, Nat.reduceMul]
      cases hq : (l[i] == n) with
      | true =>
        simp (decide := true) only [cB, vB, go_sem, Nat.reduceAdd, Nat.reduceMul]
        have : l.contains n = true := by simp at hq ⊢; exact hq ▸ List.getElem_mem h
        rw [this]
      | false =>
        simp (decide := true) only [cB, vB, go_sem, Nat.reduceAdd, Nat.reduceMul]
        refine ⟨i + 1, ⟨h, ?_⟩, by omega, Ent.weak ?_ ?_ ?_ ?_⟩
        · rw [List.take_succ_eq_append_getElem h, List.contains_append]
          simp at hn hq ⊢
          exact ⟨hn, fun e => hq e.symm⟩
        all_goals simp (decide := true) [subT, subB, hereT, hereV, St.get, look, w64s (n := l.length) h (by omega), vI, vB]
    · have hil : i = l.length := by omega
      have e : ((i : Int) < (l.length : Int)) = False := by simp; omega
      rw [hil, List.take_length] at hn
      simp (decide := true) only [e, hn, vI, vB, cI, cB, decide_false, go_sem, Nat.reduceAdd, Nat.reduceMul]

theorem markInt_sound (l : List Int) (k : Int) (hl : l.length < 9223372036854775807) (h0 : 0 ≤ k) (h1 : k + l.length < 9223372036854775807) :
    SoundAt Tryz.prog 16 (fun uf => argsV 0 [.ro (.ref 2000 [] l.length), .ro (.sc (.int .i64 k))]) [(2000, .row 3 (row1 cI l))]
      (fun rs st => rs = [(false, [cI (k + l.length)])] ∧ nowIs st.ob [(2000, .row 3 (row1 cI (marks k l.length)))]) := by
  refine sound_of_code (fn := Tryz.f16) (c := Tryz.f16.body.getD .skip) (res := [.tm 4]) (n := 19) sized (by kernel_rfl) (by rfl) (by kernel_rfl) (by rfl) (by rfl) (by simp [argsV]) (fun uf ub C hpin hpin2 hfull => ?_)
  simp (decide := true) only [Tryz.f16, elIntS, rInt, row1_length, go_sem, Nat.reduceAdd, Nat.reduceMul]
  let L : Nat → List Int := fun i => marks k i ++ l.drop i
  have hL : ∀ i, i ≤ l.length → (L i).length = l.length := fun i hi => by simp [L, marks]; omega
  refine Tri.loop (ι := Nat) (fun i => i ≤ l.length) (fun i => ⟨19, [(0, .ref 2000 [] l.length), (1, vI (k + i)), (5, vI i)], [(2000, .row 3 (row1 cI (L i)))]⟩) (fun i => l.length - i) 0 (by simp) ?_ ?_
  · refine Ent.weak ?_ ?_ ?_ ?_ <;> simp (decide := true) [subT, subB, hereT, hereV, St.get, look, vI, vB, L, marks]
  · rintro i hi
    refine code_sound sized _ ?_
    by_cases h : i < l.length
    · have e : ((i : Int) < (l.length : Int)) = True := by simp [h]
      have e2 : i < (L i).length := by rw [hL i hi]; exact h
      simp (decide := true) only [elIntS, rInt, szInt, e, row1_length, hL i hi, row1_get _ _ e2, Int.natCast_nonneg, vI, vB, go_sem, Nat.reduceAdd, Nat.reduceMul]
      refine ⟨h, i + 1, h, by omega, Ent.weak ?_ ?_ ?_ ?_⟩
      · have e3 : IntKind.i64.wrap (k + i + 1) = k + ((i + 1 : Nat) : Int) := by rw [w64 (by omega) (by omega)]; omega
        simp (decide := true) [subT, St.get, look, w64s (n := l.length) h (by omega), e3, vI, vB]
      · have e4 : (row1 cI (L i)).set i [D.sc (.int .i64 (k + i))] = row1 cI (L (i + 1)) := by
          have := row1_set cI (L i) i (k + i)
          simp only [cI] at this ⊢
          rw [this]
          congr 1
          apply List.ext_getElem
          · simp [L, marks]; omega
          · intro j h1 h2
            simp only [L, marks, List.getElem_set, List.getElem_append, List.length_map, List.length_range, List.getElem_map, List.getElem_range, List.getElem_drop]
            by_cases e1 : i = j
            · subst e1; simp
            · rw [if_neg e1]
              by_cases e2 : j < i
              · rw [dif_pos e2, dif_pos (by omega)]
              · rw [dif_neg e2, dif_neg (by omega)]; congr 1; omega
        simp (decide := true) [subB, look, e4, cI]
      all_goals simp (decide := true) [hereT, hereV, look, vI]
    · have hil : i = l.length := by omega
      subst hil
      have e : ((l.length : Int) < (l.length : Int)) = False := by simp
      simp (decide := true) only [e, row1_length, vI, vB, cI, cB, decide_false, go_sem, Nat.reduceAdd, Nat.reduceMul]
      simp [L, marks]

theorem heldInt_sound (l : List Int) (k : Int) (hl : l.length < 9223372036854775807) (h0 : 0 ≤ k) (h1 : k + l.length < 9223372036854775807) :
    Sound Tryz.prog 103 [.ro (roI l), .ro (.sc (.int .i64 k))] (fun rs st => rs = [(false, [cI (if l = marks k l.length then k + l.length else -1)])]) := by
  refine sound_code (fn := Tryz.f103) (c := Tryz.f103.body.getD .skip) (res := [.tm 4]) (n := 21) sized (by kernel_rfl) (by rfl) (by kernel_rfl) (by rfl) (by rfl) (by simp [argsV]) (fun C hpin hfull => ?_)
  simp (decide := true) only [Tryz.f103, elIntS, rInt, row1_length, go_sem, Nat.reduceAdd, Nat.reduceMul]
  refine Tri.loop (ι := Nat) (fun i => i ≤ l.length ∧ l.take i = marks k i) (fun i => ⟨21, [(0, roI l), (1, vI (k + i)), (5, vI i)], []⟩) (fun i => l.length - i) 0 (by simp [marks]) ?_ ?_
  · refine Ent.weak ?_ ?_ ?_ ?_ <;> simp (decide := true) [subT, subB, hereT, hereV, hereL, St.get, look, vI, vB, vS]
  · rintro i ⟨hi, hn⟩
    refine code_sound sized _ ?_
    by_cases h : i < l.length
    · have e : ((i : Int) < (l.length : Int)) = True := by simp [h]
      simp (decide := true) only [elIntS, rInt, e, row1_length, row1_get _ _ h, Int.natCast_nonneg, vI, vB, cI, cB, go_sem, Nat.reduceAdd, Nat.reduceMul]
      cases hq : (l[i] != k + i) with
      | true =>
        simp (decide := true) only [cI, vI, go_sem, Nat.reduceAdd, Nat.reduceMul]
        have : ¬ l = marks k l.length := fun e1 => by
          have e2 : l[i] = k + i := by
            have := List.getElem_of_eq e1 h
            rw [this, marks_get]
          simp [e2] at hq
        rw [if_neg this]
      | false =>
        simp (decide := true) only [cI, vI, go_sem, Nat.reduceAdd, Nat.reduceMul]
        refine ⟨i + 1, ⟨h, ?_⟩, by omega, Ent.weak ?_ ?_ ?_ ?_⟩
        · rw [List.take_succ_eq_append_getElem h, hn]
          simp at hq
          simp [marks, List.range_succ, hq]
        · have e3 : IntKind.i64.wrap (k + i + 1) = k + ((i + 1 : Nat) : Int) := by rw [w64 (by omega) (by omega)]; omega
          simp (decide := true) [subT, St.get, look, w64s (n := l.length) h (by omega), e3, vI, vB]
        all_goals simp (decide := true) [subB, hereT, hereV, look, vI]
    · have hil : i = l.length := by omega
      subst hil
      have e : ((l.length : Int) < (l.length : Int)) = False := by simp
      rw [List.take_length] at hn
      simp (decide := true) only [e, row1_length, vI, vB, cI, cB, decide_false, go_sem, Nat.reduceAdd, Nat.reduceMul]
      rw [if_pos hn]

theorem eqInt_sound (l l' : List Int) (hl : l.length < 9223372036854775807) : Sound Tryz.prog 14 [.ro (roI l), .ro (roI l')] (fun rs st => rs = [(false, [cB (decide (l = l'))])]) := by
  refine sound_code (fn := Tryz.f14) (c := Tryz.f14.body.getD .skip) (res := [.tm 4]) (n := 26) sized (by kernel_rfl) (by rfl) (by kernel_rfl) (by rfl) (by rfl) (by simp [argsV]) (fun C hpin hfull => ?_)
  by_cases hlen : l.length = l'.length
  · have e0 : ((l.length : Int) != (l'.length : Int)) = false := by simp [hlen]
    simp (decide := true) only [Tryz.f14, elIntS, rInt, row1_length, e0, go_sem, Nat.reduceAdd, Nat.reduceMul]
    refine Tri.loop (ι := Nat) (fun i => i ≤ l.length ∧ l.take i = l'.take i) (fun i => ⟨26, [(0, roI l), (1, roI l'), (5, vI i)], []⟩) (fun i => l.length - i) 0 (by simp) ?_ ?_
    · refine Ent.weak ?_ ?_ ?_ ?_ <;> simp (decide := true) [subT, subB, hereT, hereV, hereL, St.get, look, vI, vB, vS]
    · rintro i ⟨hi, hn⟩
      refine code_sound sized _ ?_
      by_cases h : i < l.length
      · have e : ((i : Int) < (l.length : Int)) = True := by simp [h]
        have h' : i < l'.length := by omega
        have e' : ((i : Int) < (l'.length : Int)) = True := by simp [h']
        simp (decide := true) only [elIntS, rInt, e, row1_length, vI, vB, cI, cB, go_sem, Nat.reduceAdd, Nat.reduceMul]
        refine Tri.draw sized mixed (by kernel_rfl) ?_
        simp (decide := true) only [elIntS, rInt, e, e', row1_length, row1_get _ _ h, row1_get _ _ h', Int.natCast_nonneg, vI, vB, cI, cB, go_sem, Nat.reduceAdd, Nat.reduceMul]
        cases hq : (l[i] != l'[i]) with
        | true =>
          simp (decide := true) only [cI, vI, cB, vB, go_sem, Nat.reduceAdd, Nat.reduceMul]
          have : ¬ l = l' := fun e1 => by subst e1; simp at hq
          simp [this]
        | false =>
          simp (decide := true) only [cI, vI, go_sem, Nat.reduceAdd, Nat.reduceMul]
          refine ⟨i + 1, ⟨h, ?_⟩, by omega, Ent.weak ?_ ?_ ?_ ?_⟩
          · rw [List.take_succ_eq_append_getElem h, List.take_succ_eq_append_getElem h', hn]
            simp at hq; rw [hq]
          all_goals simp (decide := true) [subT, subB, hereT, hereV, St.get, look, w64s (n := l.length) h (by omega), vI, vB]
      · have hil : i = l.length := by omega
        subst hil
        have e : ((l.length : Int) < (l.length : Int)) = False := by simp
        simp (decide := true) only [e, row1_length, vI, vB, cI, cB, decide_false, go_sem, Nat.reduceAdd, Nat.reduceMul]
        rw [List.take_length, hlen, List.take_length] at hn
        simp [hn]
  · have e0 : ((l.length : Int) != (l'.length : Int)) = true := by simp; omega
    have e1 : ¬ l = l' := fun e => hlen (by rw [e])
    simp (decide := true) only [Tryz.f14, elIntS, rInt, row1_length, e0, e1, cB, go_sem, Nat.reduceAdd, Nat.reduceMul]

theorem in_sound (n lo hi : Int) : Sound Tryz.prog 61 [.ro (.sc (.int .i64 n)), .ro (.sc (.int .i64 lo)), .ro (.sc (.int .i64 hi))] (fun rs st => rs = [(false, [cB (decide (lo ≤ n) && decide (n ≤ hi))])]) := by
  refine sound_code (fn := Tryz.f61) (c := Tryz.f61.body.getD .skip) (res := [.tm 6]) (n := 15) sized (by kernel_rfl) (by rfl) (by kernel_rfl) (by rfl) (by rfl) (by simp [argsV]) (fun C hpin hfull => ?_)
  simp (decide := true) only [Tryz.f61, cB, go_sem, Nat.reduceAdd, Nat.reduceMul]
  by_cases h : lo ≤ n <;> simp [h]

theorem l01In_sound (n lo hi : Int) : Sound Tryz.prog 29 [.ro (.sc (.int .i64 n)), .ro (.sc (.int .i64 lo)), .ro (.sc (.int .i64 hi))] (fun rs st => rs = [(false, [cB (decide (lo ≤ n) && decide (n ≤ hi))])]) := by
  refine sound_code (fn := Tryz.f29) (c := Tryz.f29.body.getD .skip) (res := [.tm 6]) (n := 15) sized (by kernel_rfl) (by rfl) (by kernel_rfl) (by rfl) (by rfl) (by simp [argsV]) (fun C hpin hfull => ?_)
  simp (decide := true) only [Tryz.f29, cB, go_sem, Nat.reduceAdd, Nat.reduceMul]
  by_cases h : lo ≤ n <;> simp [h]

theorem szIntS_sound (l : List Int) (x : Int) (hl : l.length < 4611686018427387904) (h0 : -4611686018427387904 < x) (h1 : x < 4611686018427387904) : Sound Tryz.prog 131 [.ro (roI l), .ro (.sc (.int .i64 x))] (fun rs st => rs = [(false, [cI (if x - l.length < 0 then -1 else x - l.length)])]) := by
  refine sound_code (fn := Tryz.f131) (c := Tryz.f131.body.getD .skip) (res := [.tm 4]) (n := 12) sized (by kernel_rfl) (by rfl) (by kernel_rfl) (by rfl) (by rfl) (by simp [argsV]) (fun C hpin hfull => ?_)
  have e : IntKind.i64.wrap (x - (l.length : Int)) = x - l.length := w64 (by omega) (by omega)
  simp (decide := true) only [Tryz.f131, elIntS, row1_length, e, cI, go_sem, Nat.reduceAdd, Nat.reduceMul]
  by_cases h : x - (l.length : Int) < 0
  · have e2 : (x - (l.length : Int) < 0) = True := by simp [h]
    simp (decide := true) only [e2, cI, go_sem, Nat.reduceAdd, Nat.reduceMul]
  · have e2 : (x - (l.length : Int) < 0) = False := by simp; omega
    simp (decide := true) only [e2, cI, go_sem, Nat.reduceAdd, Nat.reduceMul]

theorem toIntS_sound (l : List Int) (hl : l.length ≤ 35184372088832) : Sound Tryz.prog 10 [.ro (roI l)] (fun rs st => rs = [(false, [.row false 3 (row1 cI l)])]) := by
  refine sound_code (fn := Tryz.f10) (c := Tryz.f10.body.getD .skip) (res := [.tm 2]) (n := 22) sized (by kernel_rfl) (by rfl) (by kernel_rfl) (by rfl) (by rfl) (by simp [argsV]) (fun C hpin hfull => ?_)
  have e1 : (8 : Nat) * (l.length : Int) ≤ 281474976710656 := by omega
  simp (decide := true) only [Tryz.f10, elIntS, rInt, zInt, szInt, byInt, row1_length, hpin, go_sem, Nat.reduceAdd, Nat.reduceMul]
  refine ⟨by omega, by omega, by omega, ?_⟩
  let L : Nat → List Int := fun i => l.take i ++ List.replicate (l.length - i) 0
  have hL : ∀ i, i ≤ l.length → (L i).length = l.length := fun i hi => by simp [L]; omega
  refine Tri.loop (ι := Nat) (fun i => i ≤ l.length) (fun i => ⟨22, [(0, roI l), (2, .ref 2 [] 0), (3, .ref 3 [] l.length), (4, vI i)], [(3, .row 3 (row1 cI (L i))), (2, .row 3 [])]⟩) (fun i => l.length - i) 0 (by simp) ?_ ?_
  · refine Ent.weak ?_ ?_ ?_ ?_ <;> simp (decide := true) [subT, subB, hereT, hereV, St.get, look, vI, vB, L, row1, cI]
  · rintro i hi
    refine code_sound sized _ ?_
    by_cases h : i < l.length
    · have e : ((i : Int) < (l.length : Int)) = True := by simp [h]
      have e2 : i < (L i).length := by rw [hL i hi]; exact h
      simp (decide := true) only [elIntS, rInt, szInt, e, h, row1_length, hL i hi, row1_get _ _ h, row1_get _ _ e2, Int.natCast_nonneg, vI, vB, cI, go_sem, Nat.reduceAdd, Nat.reduceMul]
      refine ⟨i + 1, h, by omega, Ent.weak ?_ ?_ ?_ ?_⟩
      · simp (decide := true) [subT, St.get, look, w64s (n := l.length) h (by omega), vI, vB]
      · have e4 : (row1 cI (L i)).set i [D.sc (.int .i64 l[i])] = row1 cI (L (i + 1)) := by
          have := row1_set cI (L i) i l[i]
          simp only [cI] at this ⊢
          rw [this]
          congr 1
          apply List.ext_getElem
          · simp [L]; omega
          · intro j h1 h2
            simp only [L, List.getElem_set, List.getElem_append, List.length_take, List.getElem_take, List.getElem_replicate]
            by_cases e1 : i = j
            · subst e1; simp; omega
            · rw [if_neg e1]
              by_cases e2 : j < i
              · rw [dif_pos (by omega), dif_pos (by omega)]
              · rw [dif_neg (by omega), dif_neg (by omega)]
        simp (decide := true) [subB, look, e4, cI]
      all_goals simp (decide := true) [hereT, hereV, look, vI]
    · have hil : i = l.length := by omega
      subst hil
      have e : ((l.length : Int) < (l.length : Int)) = False := by simp
      simp (decide := true) only [e, hL l.length (Nat.le_refl _), row1_length, hpin, vI, vB, cI, cB, decide_false, go_sem, Nat.reduceAdd, Nat.reduceMul]
      simp [L]

theorem szI_sound (l : List Int) (left : Int) (h0 : 0 ≤ left) (h1 : left < 1152921504606846976) (hl : l.length < 1152921504606846976) : Sound Tryz.prog 131 [.ro (roI l), .ro (.sc (.int .i64 left))] (fun rs st => rs = [(false, [cI (sub left l.length)])]) := by
  have := szIntS_sound l left (by omega) (by omega) (by omega)
  exact this

theorem toI_sound (l : List Int) (hl : l.length ≤ 1048576) : Sound Tryz.prog 10 [.ro (roI l)] (fun rs st => rs = [(false, [.row false 3 (row1 cI l)])]) := toIntS_sound l (by omega)

theorem eqI_sound (l : List Int) (hl : l.length ≤ 1048576) : Sound Tryz.prog 14 [.ro (roI l), .ro (roI l)] (fun rs st => rs = [(false, [cB true])]) := by
  have := eqInt_sound l l (by omega)
  simpa using this
end Go.Proofs.YtnbodmohnkohfaaGreatDoor.AW
