/- What is marked, and how it is found again. No condition beyond those named. -/
import Derived.Test.YtnbodmohnkohfaaDoorTc
namespace Go.Proofs.YtnbodmohnkohfaaDoor.AW
open Go.RowKit
set_option maxHeartbeats 4000000
set_option maxRecDepth 100000
set_option linter.unusedSimpArgs false
set_option linter.unusedVariables false

theorem sumN_ge {α : Type} {f : α → Nat} (hf : ∀ x, 1 ≤ f x) : ∀ l : List α, l.length ≤ sumN f l
  | [] => by simp [sumN]
  | x :: r => by
    have h1 := sumN_ge hf r
    have h2 := hf x
    simp only [sumN, List.map_cons, List.sum_cons, List.length_cons] at h1 ⊢
    omega
theorem mid_get {EA EB : List (List D)} {x : List D} {i : Nat} (hA : EA.length = i) : (EA ++ x :: EB).getD i [] = x := by
  subst hA; simp [List.getD]
theorem mid_getq {EA EB : List (List D)} {x : List D} {i : Nat} (hA : EA.length = i) : (EA ++ x :: EB)[i]? = some x := by
  subst hA; simp
theorem mid_set {EA EB : List (List D)} {x y : List D} {i : Nat} (hA : EA.length = i) : (EA ++ x :: EB).set i y = EA ++ y :: EB := by
  subst hA; simp
theorem mid_cell {EA EB : List (List D)} {x : List D} {i j : Nat} (hA : EA.length = i) : cellAt (EA ++ x :: EB) i j = x[j]? := by
  unfold cellAt; rw [mid_getq hA]; rfl
theorem mid_setc {EA EB : List (List D)} {x : List D} {i j : Nat} {d : D} (hA : EA.length = i) : setCellAt (EA ++ x :: EB) i j d = EA ++ x.set j d :: EB := by
  unfold setCellAt; rw [mid_get hA, mid_set hA]
theorem marks_self2 (k : Int) (n : Nat) : (if marks k n = marks k (marks k n).length then k + ((marks k n).length : Nat) else -1) = k + n := by simp [marks_length]
theorem uU8 : Tryd.prog.underlying 5 = some (.int .u8) := by kernel_rfl
theorem rU8 : isR Tryd.prog 5 = some false := by kernel_rfl
theorem sU8 : szT Tryd.prog 5 = 1 := by kernel_rfl
theorem zU8 : zeroCells Tryd.prog 5 = some [.int .u8 0] := by kernel_rfl
theorem eU8 : elT Tryd.prog 69 = some 5 := by kernel_rfl
theorem rU8S : isR Tryd.prog 69 = some false := by kernel_rfl
theorem uI64 : (Tryd.prog.underlying 3).isSome = true := by kernel_rfl
def mbool (q : Int) : Bool := q.tmod 3 == 0

def digB (k : Int) : ByteArray := strOfNums [IntKind.u8.wrap (IntKind.i64.wrap (48 + k.tmod 10))]
def digs (k : Int) (s : ByteArray) : ByteArray := if h : 0 < k then digs (k.tdiv 10) (digB k ++ s) else s
termination_by k.toNat
decreasing_by rw [Int.tdiv_eq_ediv_of_nonneg (by omega)]; omega
/-- The text of a mark. -/
def mtext (k : Int) : ByteArray := if k ≤ 0 then ⟨#[109, 48]⟩ else ⟨#[109]⟩ ++ digs k ⟨#[]⟩
theorem digs_size (n : Nat) : ∀ (k : Int) (s : ByteArray), k.toNat ≤ n → (digs k s).size ≤ s.size + k.toNat := by
  induction n with
  | zero => intro k s hk; rw [digs, dif_neg (by omega)]; omega
  | succ n ih =>
    intro k s hk
    rw [digs]
    by_cases h : 0 < k
    · rw [dif_pos h]
      have e : k.tdiv 10 = k / 10 := Int.tdiv_eq_ediv_of_nonneg (by omega)
      have := ih (k.tdiv 10) (digB k ++ s) (by rw [e]; omega)
      have e2 : (digB k ++ s).size = 1 + s.size := by rw [ByteArray.size_append]; simp [digB, strOfNums_size]
      rw [e] at this ⊢
      omega
    · rw [dif_neg h]; omega
theorem markText_sound (k : Int) (h0 : 0 ≤ k) (h1 : k < 4611686018427387904) : Sound Tryd.prog 45 [.ro (.sc (.int .i64 k))] (fun rs st => rs = [(false, [cS (mtext k)])]) := by
  refine sound_code (fn := Tryd.f45) (c := Tryd.f45.body.getD .skip) (res := [.tm 2]) (n := 20) sized (by kernel_rfl) (by rfl) (by kernel_rfl) (by rfl) (by rfl) (by simp [argsV]) (fun C hpin hfull => ?_)
  simp (decide := true) only [Tryd.f45, row1_length, cI, cB, cS, roI, ro64, hpin, go_sem, Nat.reduceAdd, Nat.reduceMul]
  by_cases hk : k ≤ 0
  · have e1 : mtext k = ⟨#[109, 48]⟩ := by rw [mtext, if_pos hk]
    have e2 : (k ≤ 0) = True := by simp [hk]
    simp (decide := true) only [e1, e2, row1_length, cI, cB, cS, roI, ro64, hpin, go_sem, Nat.reduceAdd, Nat.reduceMul]
  have e1 : mtext k = ⟨#[109]⟩ ++ digs k ⟨#[]⟩ := by rw [mtext, if_neg hk]
  have e2 : (k ≤ 0) = False := by simp; omega
  simp (decide := true) only [e1, e2, row1_length, cI, cB, cS, roI, ro64, hpin, go_sem, Nat.reduceAdd, Nat.reduceMul]
  refine Tri.loop (ι := Int × ByteArray) (fun p => 0 ≤ p.1 ∧ p.1 ≤ k ∧ p.2.size + p.1.toNat ≤ k.toNat ∧ digs p.1 p.2 = digs k ⟨#[]⟩) (fun p => ⟨20, [(0, vI p.1), (3, vS p.2)], []⟩) (fun p => p.1.toNat) (k, ⟨#[]⟩) ⟨h0, by simp, by show (0 : Nat) + _ ≤ _; simp, rfl⟩ ?_ ?_
  · refine Ent.weak ?_ ?_ ?_ ?_ <;> simp (decide := true) [subT, subB, hereT, hereV, hereL, St.get, look, vI, vB, vS]
  · rintro ⟨q, s⟩ ⟨q0, q1, q2, q3⟩
    refine code_sound sized _ ?_
    by_cases hq : 0 < q
    · have e3 : (0 < q) = True := by simp [hq]
      have e4 : (digB q).size + s.size ≤ 9223372036854775807 := by simp [digB, strOfNums_size]; simp at q2; omega
      have e6 : q.tdiv 10 = q / 10 := Int.tdiv_eq_ediv_of_nonneg q0
      have e5 : IntKind.i64.wrap (q.tdiv 10) = q.tdiv 10 := w64 (by rw [e6]; omega) (by rw [e6]; omega)
      have e7 : strOfNums [IntKind.u8.wrap (IntKind.i64.wrap (48 + q.tmod 10))] = digB q := rfl
      simp (decide := true) only [e3, e4, e5, e7, vI, vS, uU8, rU8, sU8, zU8, eU8, rU8S, uI64, uStr, row1_length, cI, cB, cS, roI, ro64, hpin, go_sem, Nat.reduceAdd, Nat.reduceMul]
      refine ⟨(q.tdiv 10, digB q ++ s), ⟨?_, ?_, ?_, ?_⟩, ?_, Ent.weak ?_ ?_ ?_ ?_⟩
      · simp only [e6]; omega
      · simp only [e6]; omega
      · simp only [e6, ByteArray.size_append, digB, strOfNums_size, List.length_cons, List.length_nil]; simp at q2; omega
      · rw [← q3, digs.eq_def q s, dif_pos hq]
      · simp only [e6]; omega
      all_goals simp (decide := true) [subT, subB, hereT, hereV, hereL, St.get, look, vI, vB, vS]
    · have e3 : (0 < q) = False := by simp [hq]
      have e4 : digs q s = s := by rw [digs, dif_neg hq]
      simp only [e4] at q3
      have e5 : 1 + s.size ≤ 9223372036854775807 := by rw [q3]; have := digs_size k.toNat k ⟨#[]⟩ (Nat.le_refl _); have e9 : (⟨#[]⟩ : ByteArray).size = 0 := rfl; rw [e9] at this; omega
      have e6 : (⟨#[109]⟩ : ByteArray).size + s.size ≤ 9223372036854775807 := e5
      simp (decide := true) only [e1, e3, e6, ← q3, vI, vS, row1_length, cI, cB, cS, roI, ro64, hpin, go_sem, Nat.reduceAdd, Nat.reduceMul]
def insN (x : InsD) : Nat := 6 + x.args.length
def insM (q : Int) (x : InsD) : InsD := ⟨q, (q + 1), ((q + 1) + 1), (((q + 1) + 1) + 1), ((((q + 1) + 1) + 1) + 1), mtext (((((q + 1) + 1) + 1) + 1) + 1), marks ((((((q + 1) + 1) + 1) + 1) + 1) + 1) x.args.length⟩
def insML : Int → List InsD → List InsD
  | _, [] => []
  | q, x :: r => insM q x :: insML (q + (insN x : Nat)) r
theorem insML_length : ∀ (q : Int) (l : List InsD), (insML q l).length = l.length
  | _, [] => rfl
  | q, x :: r => by simp [insML, insML_length]
theorem insML_append : ∀ (q : Int) (l l2 : List InsD), insML q (l ++ l2) = insML q l ++ insML (q + (sumN insN l : Nat)) l2
  | q, [], l2 => by simp [insML, sumN]
  | q, x :: r, l2 => by
    have e : q + (insN x : Nat) + (sumN insN r : Nat) = q + (sumN insN (x :: r) : Nat) := by simp only [sumN, List.map_cons, List.sum_cons]; omega
    simp only [insML, List.cons_append, insML_append, e]
theorem insML_take (q : Int) (l : List InsD) {i : Nat} (h : i < l.length) : insML q (l.take (i + 1)) = insML q (l.take i) ++ [insM (q + (sumN insN (l.take i) : Nat)) l[i]] := by
  rw [List.take_succ_eq_append_getElem h, insML_append]; rfl
theorem insML_get (q : Int) (l : List InsD) {i : Nat} (h : i < l.length) (h2 : i < (insML q l).length) : (insML q l)[i] = insM (q + (sumN insN (l.take i) : Nat)) l[i] := by
  have e : l = l.take (i + 1) ++ l.drop (i + 1) := (List.take_append_drop _ _).symm
  have hl : (insML q (l.take i)).length = i := by rw [insML_length]; simp; omega
  have e2 : (insML q l)[i]? = some (insM (q + (sumN insN (l.take i) : Nat)) l[i]) := by
    conv => lhs; rw [e, insML_append, insML_take q l h, List.append_assoc]
    rw [List.getElem?_append_right (by omega), hl, Nat.sub_self]; rfl
  exact (List.getElem?_eq_some_iff.1 e2).2
attribute [go_sem] insML_length
theorem markInsS_sound (l : List InsD) (k : Int) (h0 : 0 ≤ k) (h1 : k + (sumN insN l : Nat) < 4611686018427387904) :
    SoundAt Tryd.prog 29 (fun uf => argsV 0 [.ro (.ref 2000 [] l.length), .ro (.sc (.int .i64 k))]) [(2000, .row 45 (rows (insC false) l))]
      (fun rs st => rs = [(false, [cI (k + (sumN insN l : Nat))])] ∧ nowIs st.ob [(2000, .row 45 (rows (insC false) (insML k l)))]) := by
  have hll := sumN_ge (f := insN) (fun x => by unfold insN; omega) l
  refine sound_of_code (fn := Tryd.f29) (c := Tryd.f29.body.getD .skip) (res := [.tm 4]) (n := 63) sized (by kernel_rfl) (by rfl) (by kernel_rfl) (by rfl) (by rfl) (by simp [argsV]) (fun uf ub C hpin hpin2 hfull => ?_)
  simp (decide := true) only [Tryd.f29, row1_length, cI, cB, cS, roI, ro64, hpin, go_sem, Nat.reduceAdd, Nat.reduceMul]
  refine Tri.loop (ι := Nat) (fun i => i ≤ l.length) (fun i => ⟨63, [(0, .ref 2000 [] l.length), (1, vI (k + (sumN insN (l.take i) : Nat))), (5, vI i)], [(2000, .row 45 (rows (insC false) (insML k (l.take i)) ++ rows (insC false) (l.drop i)))]⟩) (fun i => l.length - i) 0 (by simp) ?_ ?_
  · refine Ent.weak ?_ ?_ ?_ ?_ <;> simp (decide := true) [subT, subB, hereT, hereV, St.get, look, vI, vB, rows, sumN, insML]
  · rintro i hi
    refine code_sound sized _ ?_
    by_cases h' : i < l.length
    · have e : ((i : Int) < (l.length : Int)) = True := by simp [h']
      have hs1 := sumN_take insN l h'
      have hs2 := sumN_le insN l (i + 1)
      have hu : insN l[i] = 6 + l[i].args.length := rfl
      rw [List.drop_eq_getElem_cons h']
      obtain ⟨EA, hEA⟩ : ∃ E, E = rows (insC false) (insML k (l.take i)) := ⟨_, rfl⟩
      obtain ⟨EB, hEB⟩ : ∃ E, E = rows (insC false) (l.drop (i + 1)) := ⟨_, rfl⟩
      obtain ⟨q, hq⟩ : ∃ q, q = k + (sumN insN (l.take i) : Nat) := ⟨_, rfl⟩
      have e4 : EA ++ insC false (insM q l[i]) :: EB = rows (insC false) (insML k (l.take (i + 1))) ++ rows (insC false) (l.drop (i + 1)) := by
        rw [hEA, hEB, hq, insML_take k l h']; simp [rows]
      have hA : EA.length = i := by rw [hEA, rows_length, insML_length]; simp; omega
      have hn : EA.length + (EB.length + 1) = l.length := by rw [hA, hEB, rows_length, List.length_drop]; omega
      have e0 : rows (insC false) (insML k (l.take i)) ++ rows (insC false) (l[i] :: l.drop (i + 1)) = EA ++ insC false l[i] :: EB := by rw [hEA, hEB]; rfl
      rw [e0, ← hq]
      have hq0 : 0 ≤ q := by omega
      have w0 : IntKind.i64.wrap (q + 1) = q + 1 := w64 (by omega) (by omega)
      have w1 : IntKind.i64.wrap ((q + 1) + 1) = (q + 1) + 1 := w64 (by omega) (by omega)
      have w2 : IntKind.i64.wrap (((q + 1) + 1) + 1) = ((q + 1) + 1) + 1 := w64 (by omega) (by omega)
      have w3 : IntKind.i64.wrap ((((q + 1) + 1) + 1) + 1) = (((q + 1) + 1) + 1) + 1 := w64 (by omega) (by omega)
      have w4 : IntKind.i64.wrap (((((q + 1) + 1) + 1) + 1) + 1) = ((((q + 1) + 1) + 1) + 1) + 1 := w64 (by omega) (by omega)
      have w5 : IntKind.i64.wrap ((((((q + 1) + 1) + 1) + 1) + 1) + 1) = (((((q + 1) + 1) + 1) + 1) + 1) + 1 := w64 (by omega) (by omega)
      simp (decide := true) only [e, h', hn, mid_get hA, mid_getq hA, mid_set hA, mid_cell hA, mid_setc hA, Int.natCast_nonneg, vI, insC, w0, w1, w2, w3, w4, w5, row1_length, cI, cB, cS, roI, ro64, hpin, go_sem, Nat.reduceAdd, Nat.reduceMul]
      refine aCall_det (markText_sound (((((q + 1) + 1) + 1) + 1) + 1) (by omega) (by omega)) hpin ?_
      simp (decide := true) only [e, h', hn, mid_get hA, mid_getq hA, mid_set hA, mid_cell hA, mid_setc hA, Int.natCast_nonneg, vI, insC, w0, w1, w2, w3, w4, w5, row1_length, cI, cB, cS, roI, ro64, hpin, go_sem, Nat.reduceAdd, Nat.reduceMul]
      refine aCall_nest 2000 [(i, 6)] 1000 (x := ?x) (e := 3) (es := row1 cI l[i].args) ?ho ?hs (by simp) (by decide) ?ho2 (hpin 1000 rfl) (fun z => ?_)
      case ho => exact rfl
      case hs => simp [subO, subD, mid_cell hA]
      case ho2 => exact rfl
      simp (decide := true) only [e, h', hn, mid_get hA, mid_getq hA, mid_set hA, mid_cell hA, mid_setc hA, Int.natCast_nonneg, vI, insC, w0, w1, w2, w3, w4, w5, outV, outL, St.out, look, subO, subD, setO, setD, drop, row1_length, cI, cB, cS, roI, ro64, hpin, go_sem, Nat.reduceAdd, Nat.reduceMul]
      refine aCall_iod3 (markInt_sound l[i].args ((((((q + 1) + 1) + 1) + 1) + 1) + 1) (by omega) (by omega) (by omega)) (pinned3 (pin3 hpin) (by decide)) [(2000, 1000)] ⟨rfl, rfl, rfl⟩ (fun uf => ⟨rfl, rfl⟩) (fun uf => ?_) ?_
      · simp (decide := true) only [e, h', hn, mid_get hA, mid_getq hA, mid_set hA, mid_cell hA, mid_setc hA, Int.natCast_nonneg, vI, insC, w0, w1, w2, w3, w4, w5, Cx.pinned, marks_length, row1_length, cI, cB, cS, roI, ro64, hpin, go_sem, Nat.reduceAdd, Nat.reduceMul]
      simp (decide := true) only [e, h', hn, mid_get hA, mid_getq hA, mid_set hA, mid_cell hA, mid_setc hA, Int.natCast_nonneg, vI, insC, w0, w1, w2, w3, w4, w5, Cx.pinned, marks_length, row1_length, cI, cB, cS, roI, ro64, hpin, go_sem, Nat.reduceAdd, Nat.reduceMul]
      refine ⟨i + 1, h', by omega, Ent.weak ?_ ?_ ?_ ?_⟩
      · have e5 : k + (sumN insN (l.take (i + 1)) : Nat) = (((((((q + 1) + 1) + 1) + 1) + 1) + 1) + l[i].args.length) := by omega
        simp (decide := true) [subT, St.get, look, w64s (n := l.length) h' (by omega), vI, vB, e5, hn]
      · rw [← e4]; simp (decide := true) [subB, look, insC, insM, cI, cS, cB, mbool]
      all_goals simp (decide := true) [hereT, hereV, look, vI, hn]
    · have hil : i = l.length := by omega
      subst hil
      have e : ((l.length : Int) < (l.length : Int)) = False := by simp
      have e6 : rows (insC false) (insML k (l.take l.length)) ++ rows (insC false) (l.drop l.length) = rows (insC false) (insML k l) := by simp [rows]
      rw [e6]
      simp (decide := true) only [e, vI, row1_length, cI, cB, cS, roI, ro64, hpin, go_sem, Nat.reduceAdd, Nat.reduceMul]
def codeN (x : CodeD) : Nat := 2 + x.locals.length + sumN insN x.words
def codeM (q : Int) (x : CodeD) : CodeD := ⟨mtext q, (q + 1), marks ((q + 1) + 1) x.locals.length, insML (((q + 1) + 1) + x.locals.length) x.words⟩
def codeML : Int → List CodeD → List CodeD
  | _, [] => []
  | q, x :: r => codeM q x :: codeML (q + (codeN x : Nat)) r
theorem codeML_length : ∀ (q : Int) (l : List CodeD), (codeML q l).length = l.length
  | _, [] => rfl
  | q, x :: r => by simp [codeML, codeML_length]
theorem codeML_append : ∀ (q : Int) (l l2 : List CodeD), codeML q (l ++ l2) = codeML q l ++ codeML (q + (sumN codeN l : Nat)) l2
  | q, [], l2 => by simp [codeML, sumN]
  | q, x :: r, l2 => by
    have e : q + (codeN x : Nat) + (sumN codeN r : Nat) = q + (sumN codeN (x :: r) : Nat) := by simp only [sumN, List.map_cons, List.sum_cons]; omega
    simp only [codeML, List.cons_append, codeML_append, e]
theorem codeML_take (q : Int) (l : List CodeD) {i : Nat} (h : i < l.length) : codeML q (l.take (i + 1)) = codeML q (l.take i) ++ [codeM (q + (sumN codeN (l.take i) : Nat)) l[i]] := by
  rw [List.take_succ_eq_append_getElem h, codeML_append]; rfl
theorem codeML_get (q : Int) (l : List CodeD) {i : Nat} (h : i < l.length) (h2 : i < (codeML q l).length) : (codeML q l)[i] = codeM (q + (sumN codeN (l.take i) : Nat)) l[i] := by
  have e : l = l.take (i + 1) ++ l.drop (i + 1) := (List.take_append_drop _ _).symm
  have hl : (codeML q (l.take i)).length = i := by rw [codeML_length]; simp; omega
  have e2 : (codeML q l)[i]? = some (codeM (q + (sumN codeN (l.take i) : Nat)) l[i]) := by
    conv => lhs; rw [e, codeML_append, codeML_take q l h, List.append_assoc]
    rw [List.getElem?_append_right (by omega), hl, Nat.sub_self]; rfl
  exact (List.getElem?_eq_some_iff.1 e2).2
attribute [go_sem] codeML_length
theorem markCode_sound (x : CodeD) (k : Int) (h0 : 0 ≤ k) (h1 : k + x.locals.length + x.words.length + (sumN insN x.words : Nat) < 4611686018427387904) :
    SoundAt Tryd.prog 10 (fun uf => argsV 0 [.ro (.agg [.sc (.string x.name), .sc (.int .i64 x.params), .sc (uf 2000), .sc (uf 2001)]), .ro (.sc (.int .i64 k))]) [(2000, .row 3 (row1 cI (x.locals))), (2001, .row 45 (rows (insC false) (x.words)))]
      (fun rs st => rs = [(false, [cI ((k + x.locals.length) + (sumN insN x.words : Nat))])] ∧ nowIs st.ob [(2000, .row 3 (row1 cI (marks k x.locals.length))), (2001, .row 45 (rows (insC false) (insML (k + x.locals.length) x.words)))]) := by
  refine sound_of_code (fn := Tryd.f10) (c := Tryd.f10.body.getD .skip) (res := [.tm 4]) (n := 14) sized (by kernel_rfl) (by rfl) (by kernel_rfl) (by rfl) (by rfl) (by simp [argsV]) (fun uf ub C hpin hpin2 hfull => ?_)
  simp (decide := true) only [Tryd.f10, row1_length, cI, cB, cS, roI, ro64, hpin, hpin2, go_sem, Nat.reduceAdd, Nat.reduceMul]
  refine aCall_iod (markInt_sound x.locals k (by omega) (by omega) (by omega)) hpin [(2000, 2000)] ⟨rfl, rfl, rfl⟩ (fun uf => ⟨rfl, rfl⟩) (fun uf => ?_) ?_
  · simp (decide := true) only [hpin2, row1_length, cI, cB, cS, roI, ro64, go_sem, Nat.reduceAdd, Nat.reduceMul]
  simp (decide := true) only [hpin, hpin2, marks_length, row1_length, cI, cB, cS, roI, ro64, go_sem, Nat.reduceAdd, Nat.reduceMul]
  refine aCall_iod (markInsS_sound x.words (k + x.locals.length) (by omega) (by omega)) hpin [(2000, 2001)] ⟨rfl, rfl, rfl⟩ (fun uf => ⟨rfl, rfl⟩) (fun uf => ?_) ?_
  · simp (decide := true) only [hpin2, row1_length, cI, cB, cS, roI, ro64, go_sem, Nat.reduceAdd, Nat.reduceMul]
  simp (decide := true) only [hpin, hpin2, marks_length, row1_length, cI, cB, cS, roI, ro64, go_sem, Nat.reduceAdd, Nat.reduceMul]
end Go.Proofs.YtnbodmohnkohfaaDoor.AW
