/- What is marked, and how it is found again. No condition beyond those named. -/
import Derived.Test.YtnbodmohnkohfaaGreatDoorTc
namespace Go.Proofs.YtnbodmohnkohfaaGreatDoor.AW
open Go.RowKit
set_option maxHeartbeats 4000000
set_option maxRecDepth 100000
set_option linter.unusedSimpArgs false
set_option linter.unusedVariables false

theorem sumN_ge {α : Type} {f : α → Nat} (hf : ∀ x, 1 ≤ f x) : ∀ l : List α, l.length ≤ sumN f l
  | [] => by simp [sumN]
  | x :: r => by
    have h1 := sumN_ge hf r
    have h2 := hf x
    simp only [sumN, List.map_cons, List.sum_cons, List.length_cons] at h1 ⊢
    omega
theorem mid_get {EA EB : List (List D)} {x : List D} {i : Nat} (hA : EA.length = i) : (EA ++ x :: EB).getD i [] = x := by
  subst hA; simp [List.getD]
theorem mid_getq {EA EB : List (List D)} {x : List D} {i : Nat} (hA : EA.length = i) : (EA ++ x :: EB)[i]? = some x := by
  subst hA; simp
theorem mid_set {EA EB : List (List D)} {x y : List D} {i : Nat} (hA : EA.length = i) : (EA ++ x :: EB).set i y = EA ++ y :: EB := by
  subst hA; simp
theorem mid_cell {EA EB : List (List D)} {x : List D} {i j : Nat} (hA : EA.length = i) : cellAt (EA ++ x :: EB) i j = x[j]? := by
  unfold cellAt; rw [mid_getq hA]; rfl
theorem mid_setc {EA EB : List (List D)} {x : List D} {i j : Nat} {d : D} (hA : EA.length = i) : setCellAt (EA ++ x :: EB) i j d = EA ++ x.set j d :: EB := by
  unfold setCellAt; rw [mid_get hA, mid_set hA]
theorem marks_self2 (k : Int) (n : Nat) : (if marks k n = marks k (marks k n).length then k + ((marks k n).length : Nat) else -1) = k + n := by simp [marks_length]
theorem uU8 : Tryz.prog.underlying 5 = some (.int .u8) := by kernel_rfl
theorem rU8 : isR Tryz.prog 5 = some false := by kernel_rfl
theorem sU8 : szT Tryz.prog 5 = 1 := by kernel_rfl
theorem zU8 : zeroCells Tryz.prog 5 = some [.int .u8 0] := by kernel_rfl
theorem eU8 : elT Tryz.prog 115 = some 5 := by kernel_rfl
theorem rU8S : isR Tryz.prog 115 = some false := by kernel_rfl
theorem uI64 : (Tryz.prog.underlying 3).isSome = true := by kernel_rfl
def mbool (q : Int) : Bool := q.tmod 3 == 0

def digB (k : Int) : ByteArray := strOfNums [IntKind.u8.wrap (IntKind.i64.wrap (48 + k.tmod 10))]
def digs (k : Int) (s : ByteArray) : ByteArray := if h : 0 < k then digs (k.tdiv 10) (digB k ++ s) else s
termination_by k.toNat
decreasing_by rw [Int.tdiv_eq_ediv_of_nonneg (by omega)]; omega
/-- The text of a mark. -/
def mtext (k : Int) : ByteArray := if k ≤ 0 then ⟨#[109, 48]⟩ else ⟨#[109]⟩ ++ digs k ⟨#[]⟩
theorem digs_size (n : Nat) : ∀ (k : Int) (s : ByteArray), k.toNat ≤ n → (digs k s).size ≤ s.size + k.toNat := by
  induction n with
  | zero => intro k s hk; rw [digs, dif_neg (by omega)]; omega
  | succ n ih =>
    intro k s hk
    rw [digs]
    by_cases h : 0 < k
    · rw [dif_pos h]
      have e : k.tdiv 10 = k / 10 := Int.tdiv_eq_ediv_of_nonneg (by omega)
      have := ih (k.tdiv 10) (digB k ++ s) (by rw [e]; omega)
      have e2 : (digB k ++ s).size = 1 + s.size := by rw [ByteArray.size_append]; simp [digB, strOfNums_size]
      rw [e] at this ⊢
      omega
    · rw [dif_neg h]; omega
theorem markText_sound (k : Int) (h0 : 0 ≤ k) (h1 : k < 4611686018427387904) : Sound Tryz.prog 45 [.ro (.sc (.int .i64 k))] (fun rs st => rs = [(false, [cS (mtext k)])]) := by
  refine sound_code (fn := Tryz.f45) (c := Tryz.f45.body.getD .skip) (res := [.tm 2]) (n := 20) sized (by kernel_rfl) (by rfl) (by kernel_rfl) (by rfl) (by rfl) (by simp [argsV]) (fun C hpin hfull => ?_)
  simp (decide := true) only [Tryz.f45, row1_length, cI, cB, cS, roI, ro64, hpin, go_sem, Nat.reduceAdd, Nat.reduceMul]
  by_cases hk : k ≤ 0
  · have e1 : mtext k = ⟨#[109, 48]⟩ := by rw [mtext, if_pos hk]
    have e2 : (k ≤ 0) = True := by simp [hk]
    simp (decide := true) only [e1, e2, row1_length, cI, cB, cS, roI, ro64, hpin, go_sem, Nat.reduceAdd, Nat.reduceMul]
  have e1 : mtext k = ⟨#[109]⟩ ++ digs k ⟨#[]⟩ := by rw [mtext, if_neg hk]
  have e2 : (k ≤ 0) = False := by simp; omega
  simp (decide := true) only [e1, e2, row1_length, cI, cB, cS, roI, ro64, hpin, go_sem, Nat.reduceAdd, Nat.reduceMul]
  refine Tri.loop (ι := Int × ByteArray) (fun p => 0 ≤ p.1 ∧ p.1 ≤ k ∧ p.2.size + p.1.toNat ≤ k.toNat ∧ digs p.1 p.2 = digs k ⟨#[]⟩) (fun p => ⟨20, [(0, vI p.1), (3, vS p.2)], []⟩) (fun p => p.1.toNat) (k, ⟨#[]⟩) ⟨h0, by simp, by show (0 : Nat) + _ ≤ _; simp, rfl⟩ ?_ ?_
  · refine Ent.weak ?_ ?_ ?_ ?_ <;> simp (decide := true) [subT, subB, hereT, hereV, hereL, St.get, look, vI, vB, vS]
  · rintro ⟨q, s⟩ ⟨q0, q1, q2, q3⟩
    refine code_sound sized _ ?_
    by_cases hq : 0 < q
    · have e3 : (0 < q) = True := by simp [hq]
      have e4 : (digB q).size + s.size ≤ 9223372036854775807 := by simp [digB, strOfNums_size]; simp at q2; omega
      have e6 : q.tdiv 10 = q / 10 := Int.tdiv_eq_ediv_of_nonneg q0
      have e5 : IntKind.i64.wrap (q.tdiv 10) = q.tdiv 10 := w64 (by rw [e6]; omega) (by rw [e6]; omega)
      have e7 : strOfNums [IntKind.u8.wrap (IntKind.i64.wrap (48 + q.tmod 10))] = digB q := rfl
      simp (decide := true) only [e3, e4, e5, e7, vI, vS, uU8, rU8, sU8, zU8, eU8, rU8S, uI64, uStr, row1_length, cI, cB, cS, roI, ro64, hpin, go_sem, Nat.reduceAdd, Nat.reduceMul]
      refine ⟨(q.tdiv 10, digB q ++ s), ⟨?_, ?_, ?_, ?_⟩, ?_, Ent.weak ?_ ?_ ?_ ?_⟩
      · simp only [e6]; omega
      · simp only [e6]; omega
      · simp only [e6, ByteArray.size_append, digB, strOfNums_size, List.length_cons, List.length_nil]; simp at q2; omega
      · rw [← q3, digs.eq_def q s, dif_pos hq]
      · simp only [e6]; omega
      all_goals simp (decide := true) [subT, subB, hereT, hereV, hereL, St.get, look, vI, vB, vS]
    · have e3 : (0 < q) = False := by simp [hq]
      have e4 : digs q s = s := by rw [digs, dif_neg hq]
      simp only [e4] at q3
      have e5 : 1 + s.size ≤ 9223372036854775807 := by rw [q3]; have := digs_size k.toNat k ⟨#[]⟩ (Nat.le_refl _); have e9 : (⟨#[]⟩ : ByteArray).size = 0 := rfl; rw [e9] at this; omega
      have e6 : (⟨#[109]⟩ : ByteArray).size + s.size ≤ 9223372036854775807 := e5
      simp (decide := true) only [e1, e3, e6, ← q3, vI, vS, row1_length, cI, cB, cS, roI, ro64, hpin, go_sem, Nat.reduceAdd, Nat.reduceMul]
def nodeN (x : NodeD) : Nat := 3 + x.kids.length
def nodeM (q : Int) (x : NodeD) : NodeD := ⟨q, (q + 1), mtext ((q + 1) + 1), marks (((q + 1) + 1) + 1) x.kids.length⟩
def nodeML : Int → List NodeD → List NodeD
  | _, [] => []
  | q, x :: r => nodeM q x :: nodeML (q + (nodeN x : Nat)) r
theorem nodeML_length : ∀ (q : Int) (l : List NodeD), (nodeML q l).length = l.length
  | _, [] => rfl
  | q, x :: r => by simp [nodeML, nodeML_length]
theorem nodeML_append : ∀ (q : Int) (l l2 : List NodeD), nodeML q (l ++ l2) = nodeML q l ++ nodeML (q + (sumN nodeN l : Nat)) l2
  | q, [], l2 => by simp [nodeML, sumN]
  | q, x :: r, l2 => by
    have e : q + (nodeN x : Nat) + (sumN nodeN r : Nat) = q + (sumN nodeN (x :: r) : Nat) := by simp only [sumN, List.map_cons, List.sum_cons]; omega
    simp only [nodeML, List.cons_append, nodeML_append, e]
theorem nodeML_take (q : Int) (l : List NodeD) {i : Nat} (h : i < l.length) : nodeML q (l.take (i + 1)) = nodeML q (l.take i) ++ [nodeM (q + (sumN nodeN (l.take i) : Nat)) l[i]] := by
  rw [List.take_succ_eq_append_getElem h, nodeML_append]; rfl
theorem nodeML_get (q : Int) (l : List NodeD) {i : Nat} (h : i < l.length) (h2 : i < (nodeML q l).length) : (nodeML q l)[i] = nodeM (q + (sumN nodeN (l.take i) : Nat)) l[i] := by
  have e : l = l.take (i + 1) ++ l.drop (i + 1) := (List.take_append_drop _ _).symm
  have hl : (nodeML q (l.take i)).length = i := by rw [nodeML_length]; simp; omega
  have e2 : (nodeML q l)[i]? = some (nodeM (q + (sumN nodeN (l.take i) : Nat)) l[i]) := by
    conv => lhs; rw [e, nodeML_append, nodeML_take q l h, List.append_assoc]
    rw [List.getElem?_append_right (by omega), hl, Nat.sub_self]; rfl
  exact (List.getElem?_eq_some_iff.1 e2).2
attribute [go_sem] nodeML_length
theorem markNodeS_sound (l : List NodeD) (k : Int) (h0 : 0 ≤ k) (h1 : k + (sumN nodeN l : Nat) < 4611686018427387904) :
    SoundAt Tryz.prog 43 (fun uf => argsV 0 [.ro (.ref 2000 [] l.length), .ro (.sc (.int .i64 k))]) [(2000, .row 60 (rows (nodeC false) l))]
      (fun rs st => rs = [(false, [cI (k + (sumN nodeN l : Nat))])] ∧ nowIs st.ob [(2000, .row 60 (rows (nodeC false) (nodeML k l)))]) := by
  have hll := sumN_ge (f := nodeN) (fun x => by unfold nodeN; omega) l
  refine sound_of_code (fn := Tryz.f43) (c := Tryz.f43.body.getD .skip) (res := [.tm 4]) (n := 42) sized (by kernel_rfl) (by rfl) (by kernel_rfl) (by rfl) (by rfl) (by simp [argsV]) (fun uf ub C hpin hpin2 hfull => ?_)
  simp (decide := true) only [Tryz.f43, row1_length, cI, cB, cS, roI, ro64, hpin, go_sem, Nat.reduceAdd, Nat.reduceMul]
  refine Tri.loop (ι := Nat) (fun i => i ≤ l.length) (fun i => ⟨42, [(0, .ref 2000 [] l.length), (1, vI (k + (sumN nodeN (l.take i) : Nat))), (5, vI i)], [(2000, .row 60 (rows (nodeC false) (nodeML k (l.take i)) ++ rows (nodeC false) (l.drop i)))]⟩) (fun i => l.length - i) 0 (by simp) ?_ ?_
  · refine Ent.weak ?_ ?_ ?_ ?_ <;> simp (decide := true) [subT, subB, hereT, hereV, St.get, look, vI, vB, rows, sumN, nodeML]
  · rintro i hi
    refine code_sound sized _ ?_
    by_cases h' : i < l.length
    · have e : ((i : Int) < (l.length : Int)) = True := by simp [h']
      have hs1 := sumN_take nodeN l h'
      have hs2 := sumN_le nodeN l (i + 1)
      have hu : nodeN l[i] = 3 + l[i].kids.length := rfl
      rw [List.drop_eq_getElem_cons h']
      obtain ⟨EA, hEA⟩ : ∃ E, E = rows (nodeC false) (nodeML k (l.take i)) := ⟨_, rfl⟩
      obtain ⟨EB, hEB⟩ : ∃ E, E = rows (nodeC false) (l.drop (i + 1)) := ⟨_, rfl⟩
      obtain ⟨q, hq⟩ : ∃ q, q = k + (sumN nodeN (l.take i) : Nat) := ⟨_, rfl⟩
      have e4 : EA ++ nodeC false (nodeM q l[i]) :: EB = rows (nodeC false) (nodeML k (l.take (i + 1))) ++ rows (nodeC false) (l.drop (i + 1)) := by
        rw [hEA, hEB, hq, nodeML_take k l h']; simp [rows]
      have hA : EA.length = i := by rw [hEA, rows_length, nodeML_length]; simp; omega
      have hn : EA.length + (EB.length + 1) = l.length := by rw [hA, hEB, rows_length, List.length_drop]; omega
      have e0 : rows (nodeC false) (nodeML k (l.take i)) ++ rows (nodeC false) (l[i] :: l.drop (i + 1)) = EA ++ nodeC false l[i] :: EB := by rw [hEA, hEB]; rfl
      rw [e0, ← hq]
      have hq0 : 0 ≤ q := by omega
      have w0 : IntKind.i64.wrap (q + 1) = q + 1 := w64 (by omega) (by omega)
      have w1 : IntKind.i64.wrap ((q + 1) + 1) = (q + 1) + 1 := w64 (by omega) (by omega)
      have w2 : IntKind.i64.wrap (((q + 1) + 1) + 1) = ((q + 1) + 1) + 1 := w64 (by omega) (by omega)
      simp (decide := true) only [e, h', hn, mid_get hA, mid_getq hA, mid_set hA, mid_cell hA, mid_setc hA, Int.natCast_nonneg, vI, nodeC, w0, w1, w2, row1_length, cI, cB, cS, roI, ro64, hpin, go_sem, Nat.reduceAdd, Nat.reduceMul]
      refine aCall_det (markText_sound ((q + 1) + 1) (by omega) (by omega)) hpin ?_
      simp (decide := true) only [e, h', hn, mid_get hA, mid_getq hA, mid_set hA, mid_cell hA, mid_setc hA, Int.natCast_nonneg, vI, nodeC, w0, w1, w2, row1_length, cI, cB, cS, roI, ro64, hpin, go_sem, Nat.reduceAdd, Nat.reduceMul]
      refine aCall_nest 2000 [(i, 3)] 1000 (x := ?x) (e := 3) (es := row1 cI l[i].kids) ?ho ?hs (by simp) (by decide) ?ho2 (hpin 1000 rfl) (fun z => ?_)
      case ho => exact rfl
      case hs => simp [subO, subD, mid_cell hA]
      case ho2 => exact rfl
      simp (decide := true) only [e, h', hn, mid_get hA, mid_getq hA, mid_set hA, mid_cell hA, mid_setc hA, Int.natCast_nonneg, vI, nodeC, w0, w1, w2, outV, outL, St.out, look, subO, subD, setO, setD, drop, row1_length, cI, cB, cS, roI, ro64, hpin, go_sem, Nat.reduceAdd, Nat.reduceMul]
      refine aCall_iod3 (markInt_sound l[i].kids (((q + 1) + 1) + 1) (by omega) (by omega) (by omega)) (pinned3 (pin3 hpin) (by decide)) [(2000, 1000)] ⟨rfl, rfl, rfl⟩ (fun uf => ⟨rfl, rfl⟩) (fun uf => ?_) ?_
      · simp (decide := true) only [e, h', hn, mid_get hA, mid_getq hA, mid_set hA, mid_cell hA, mid_setc hA, Int.natCast_nonneg, vI, nodeC, w0, w1, w2, Cx.pinned, marks_length, row1_length, cI, cB, cS, roI, ro64, hpin, go_sem, Nat.reduceAdd, Nat.reduceMul]
      simp (decide := true) only [e, h', hn, mid_get hA, mid_getq hA, mid_set hA, mid_cell hA, mid_setc hA, Int.natCast_nonneg, vI, nodeC, w0, w1, w2, Cx.pinned, marks_length, row1_length, cI, cB, cS, roI, ro64, hpin, go_sem, Nat.reduceAdd, Nat.reduceMul]
      refine ⟨i + 1, h', by omega, Ent.weak ?_ ?_ ?_ ?_⟩
      · have e5 : k + (sumN nodeN (l.take (i + 1)) : Nat) = ((((q + 1) + 1) + 1) + l[i].kids.length) := by omega
        simp (decide := true) [subT, St.get, look, w64s (n := l.length) h' (by omega), vI, vB, e5, hn]
      · rw [← e4]; simp (decide := true) [subB, look, nodeC, nodeM, cI, cS, cB, mbool]
      all_goals simp (decide := true) [hereT, hereV, look, vI, hn]
    · have hil : i = l.length := by omega
      subst hil
      have e : ((l.length : Int) < (l.length : Int)) = False := by simp
      have e6 : rows (nodeC false) (nodeML k (l.take l.length)) ++ rows (nodeC false) (l.drop l.length) = rows (nodeC false) (nodeML k l) := by simp [rows]
      rw [e6]
      simp (decide := true) only [e, vI, row1_length, cI, cB, cS, roI, ro64, hpin, go_sem, Nat.reduceAdd, Nat.reduceMul]
theorem heldNodeS_sound (l : List NodeD) (k : Int) (h0 : 0 ≤ k) (h1 : k + (sumN nodeN l : Nat) < 4611686018427387904) :
    Sound Tryz.prog 56 [.ro (.imm 60 (rows (nodeC true) (nodeML k l))), .ro (.sc (.int .i64 k))] (fun rs st => rs = [(false, [cI (k + (sumN nodeN l : Nat))])]) := by
  have hll := sumN_ge (f := nodeN) (fun x => by unfold nodeN; omega) l
  refine sound_code (fn := Tryz.f56) (c := Tryz.f56.body.getD .skip) (res := [.tm 4]) (n := 50) sized (by kernel_rfl) (by rfl) (by kernel_rfl) (by rfl) (by rfl) (by simp [argsV]) (fun C hpin hfull => ?_)
  simp (decide := true) only [Tryz.f56, row1_length, cI, cB, cS, roI, ro64, hpin, go_sem, Nat.reduceAdd, Nat.reduceMul]
  refine Tri.loop (ι := Nat) (fun i => i ≤ l.length) (fun i => ⟨50, [(0, .imm 60 (rows (nodeC true) (nodeML k l))), (1, vI (k + (sumN nodeN (l.take i) : Nat))), (5, vI i)], []⟩) (fun i => l.length - i) 0 (by simp) ?_ ?_
  · refine Ent.weak ?_ ?_ ?_ ?_ <;> simp (decide := true) [subT, subB, hereT, hereV, St.get, look, vI, vB, rows, sumN]
  · rintro i hi
    refine code_sound sized _ ?_
    by_cases h' : i < l.length
    · have e : ((i : Int) < (l.length : Int)) = True := by simp [h']
      have hs1 := sumN_take nodeN l h'
      have hs2 := sumN_le nodeN l (i + 1)
      have hu : nodeN l[i] = 3 + l[i].kids.length := rfl
      have h2 : i < (nodeML k l).length := by rw [nodeML_length]; exact h'
      have hg : (rows (nodeC true) (nodeML k l)).getD i [] = nodeC true (nodeM (k + (sumN nodeN (l.take i) : Nat)) l[i]) := by rw [rows_get _ _ h2, nodeML_get k l h' h2]
      obtain ⟨q, hq⟩ : ∃ q, q = k + (sumN nodeN (l.take i) : Nat) := ⟨_, rfl⟩
      rw [← hq] at hg ⊢
      have hq0 : 0 ≤ q := by omega
      have w0 : IntKind.i64.wrap (q + 1) = q + 1 := w64 (by omega) (by omega)
      have w1 : IntKind.i64.wrap ((q + 1) + 1) = (q + 1) + 1 := w64 (by omega) (by omega)
      have w2 : IntKind.i64.wrap (((q + 1) + 1) + 1) = ((q + 1) + 1) + 1 := w64 (by omega) (by omega)
      simp (decide := true) only [e, h', hg, mbool, bne_self_eq_false, Int.natCast_nonneg, vI, nodeC, nodeM, w0, w1, w2, row1_length, cI, cB, cS, roI, ro64, hpin, go_sem, Nat.reduceAdd, Nat.reduceMul]
      refine Tri.sched sized [(0, true), (1, true), (2, true), (3, true), (5, true), (4, true), (6, false), (7, false)] mixed (by kernel_rfl) (fun C2 hC2 => ?_)
      have hp2 : ∀ o, isPin o = false → C2.pin o = none := by rw [hC2]; exact hpin
      simp (decide := true) only [e, h', hg, mbool, bne_self_eq_false, Int.natCast_nonneg, vI, nodeC, nodeM, w0, w1, w2, row1_length, cI, cB, cS, roI, ro64, hp2, go_sem, Nat.reduceAdd, Nat.reduceMul]
      refine aCall_det (markText_sound ((q + 1) + 1) (by omega) (by omega)) hp2 ?_
      simp (decide := true) only [e, h', hg, mbool, bne_self_eq_false, Int.natCast_nonneg, vI, nodeC, nodeM, w0, w1, w2, row1_length, cI, cB, cS, roI, ro64, hp2, go_sem, Nat.reduceAdd, Nat.reduceMul]
      try simp (decide := true) only [e, h', hg, mbool, bne_self_eq_false, Int.natCast_nonneg, vI, nodeC, nodeM, w0, w1, w2, row1_length, cI, cB, cS, roI, ro64, hpin, go_sem, Nat.reduceAdd, Nat.reduceMul]
      refine aCall_det (heldInt_sound (marks (((q + 1) + 1) + 1) l[i].kids.length) (((q + 1) + 1) + 1) (by rw [marks_length]; omega) (by omega) (by rw [marks_length]; omega)) hpin ?_
      rw [marks_self2]
      have n3 : (((((q + 1) + 1) + 1) + l[i].kids.length : Int) < 0) = False := by simp; omega
      try simp (decide := true) only [e, h', hg, mbool, bne_self_eq_false, Int.natCast_nonneg, vI, nodeC, nodeM, w0, w1, w2, n3, row1_length, cI, cB, cS, roI, ro64, hpin, go_sem, Nat.reduceAdd, Nat.reduceMul]
      have e5 : k + (sumN nodeN (l.take (i + 1)) : Nat) = ((((q + 1) + 1) + 1) + l[i].kids.length) := by omega
      refine ⟨i + 1, h', by omega, Ent.weak ?_ ?_ ?_ ?_⟩
      · simp (decide := true) [subT, St.get, look, w64s (n := l.length) h' (by omega), vI, vB, e5]
      all_goals simp (decide := true) [subB, hereT, hereV, look, vI]
    · have hil : i = l.length := by omega
      subst hil
      have e : ((l.length : Int) < (l.length : Int)) = False := by simp
      simp (decide := true) only [e, vI, row1_length, cI, cB, cS, roI, ro64, hpin, go_sem, Nat.reduceAdd, Nat.reduceMul]
def paramN (x : ParamD) : Nat := 2
def paramM (q : Int) (x : ParamD) : ParamD := ⟨mtext q, (q + 1)⟩
def paramML : Int → List ParamD → List ParamD
  | _, [] => []
  | q, x :: r => paramM q x :: paramML (q + (paramN x : Nat)) r
theorem paramML_length : ∀ (q : Int) (l : List ParamD), (paramML q l).length = l.length
  | _, [] => rfl
  | q, x :: r => by simp [paramML, paramML_length]
theorem paramML_append : ∀ (q : Int) (l l2 : List ParamD), paramML q (l ++ l2) = paramML q l ++ paramML (q + (sumN paramN l : Nat)) l2
  | q, [], l2 => by simp [paramML, sumN]
  | q, x :: r, l2 => by
    have e : q + (paramN x : Nat) + (sumN paramN r : Nat) = q + (sumN paramN (x :: r) : Nat) := by simp only [sumN, List.map_cons, List.sum_cons]; omega
    simp only [paramML, List.cons_append, paramML_append, e]
theorem paramML_take (q : Int) (l : List ParamD) {i : Nat} (h : i < l.length) : paramML q (l.take (i + 1)) = paramML q (l.take i) ++ [paramM (q + (sumN paramN (l.take i) : Nat)) l[i]] := by
  rw [List.take_succ_eq_append_getElem h, paramML_append]; rfl
theorem paramML_get (q : Int) (l : List ParamD) {i : Nat} (h : i < l.length) (h2 : i < (paramML q l).length) : (paramML q l)[i] = paramM (q + (sumN paramN (l.take i) : Nat)) l[i] := by
  have e : l = l.take (i + 1) ++ l.drop (i + 1) := (List.take_append_drop _ _).symm
  have hl : (paramML q (l.take i)).length = i := by rw [paramML_length]; simp; omega
  have e2 : (paramML q l)[i]? = some (paramM (q + (sumN paramN (l.take i) : Nat)) l[i]) := by
    conv => lhs; rw [e, paramML_append, paramML_take q l h, List.append_assoc]
    rw [List.getElem?_append_right (by omega), hl, Nat.sub_self]; rfl
  exact (List.getElem?_eq_some_iff.1 e2).2
attribute [go_sem] paramML_length
theorem markParamS_sound (l : List ParamD) (k : Int) (h0 : 0 ≤ k) (h1 : k + (sumN paramN l : Nat) < 4611686018427387904) :
    SoundAt Tryz.prog 88 (fun uf => argsV 0 [.ro (.ref 2000 [] l.length), .ro (.sc (.int .i64 k))]) [(2000, .row 86 (rows (paramC false) l))]
      (fun rs st => rs = [(false, [cI (k + (sumN paramN l : Nat))])] ∧ nowIs st.ob [(2000, .row 86 (rows (paramC false) (paramML k l)))]) := by
  have hll := sumN_ge (f := paramN) (fun x => by unfold paramN; omega) l
  refine sound_of_code (fn := Tryz.f88) (c := Tryz.f88.body.getD .skip) (res := [.tm 4]) (n := 28) sized (by kernel_rfl) (by rfl) (by kernel_rfl) (by rfl) (by rfl) (by simp [argsV]) (fun uf ub C hpin hpin2 hfull => ?_)
  simp (decide := true) only [Tryz.f88, row1_length, cI, cB, cS, roI, ro64, hpin, go_sem, Nat.reduceAdd, Nat.reduceMul]
  refine Tri.loop (ι := Nat) (fun i => i ≤ l.length) (fun i => ⟨28, [(0, .ref 2000 [] l.length), (1, vI (k + (sumN paramN (l.take i) : Nat))), (5, vI i)], [(2000, .row 86 (rows (paramC false) (paramML k (l.take i)) ++ rows (paramC false) (l.drop i)))]⟩) (fun i => l.length - i) 0 (by simp) ?_ ?_
  · refine Ent.weak ?_ ?_ ?_ ?_ <;> simp (decide := true) [subT, subB, hereT, hereV, St.get, look, vI, vB, rows, sumN, paramML]
  · rintro i hi
    refine code_sound sized _ ?_
    by_cases h' : i < l.length
    · have e : ((i : Int) < (l.length : Int)) = True := by simp [h']
      have hs1 := sumN_take paramN l h'
      have hs2 := sumN_le paramN l (i + 1)
      have hu : paramN l[i] = 2 := rfl
      rw [List.drop_eq_getElem_cons h']
      obtain ⟨EA, hEA⟩ : ∃ E, E = rows (paramC false) (paramML k (l.take i)) := ⟨_, rfl⟩
      obtain ⟨EB, hEB⟩ : ∃ E, E = rows (paramC false) (l.drop (i + 1)) := ⟨_, rfl⟩
      obtain ⟨q, hq⟩ : ∃ q, q = k + (sumN paramN (l.take i) : Nat) := ⟨_, rfl⟩
      have e4 : EA ++ paramC false (paramM q l[i]) :: EB = rows (paramC false) (paramML k (l.take (i + 1))) ++ rows (paramC false) (l.drop (i + 1)) := by
        rw [hEA, hEB, hq, paramML_take k l h']; simp [rows]
      have hA : EA.length = i := by rw [hEA, rows_length, paramML_length]; simp; omega
      have hn : EA.length + (EB.length + 1) = l.length := by rw [hA, hEB, rows_length, List.length_drop]; omega
      have e0 : rows (paramC false) (paramML k (l.take i)) ++ rows (paramC false) (l[i] :: l.drop (i + 1)) = EA ++ paramC false l[i] :: EB := by rw [hEA, hEB]; rfl
      rw [e0, ← hq]
      have hq0 : 0 ≤ q := by omega
      have w0 : IntKind.i64.wrap (q + 1) = q + 1 := w64 (by omega) (by omega)
      have w1 : IntKind.i64.wrap ((q + 1) + 1) = (q + 1) + 1 := w64 (by omega) (by omega)
      simp (decide := true) only [e, h', hn, mid_get hA, mid_getq hA, mid_set hA, mid_cell hA, mid_setc hA, Int.natCast_nonneg, vI, paramC, w0, w1, row1_length, cI, cB, cS, roI, ro64, hpin, go_sem, Nat.reduceAdd, Nat.reduceMul]
      refine aCall_det (markText_sound q (by omega) (by omega)) hpin ?_
      simp (decide := true) only [e, h', hn, mid_get hA, mid_getq hA, mid_set hA, mid_cell hA, mid_setc hA, Int.natCast_nonneg, vI, paramC, w0, w1, row1_length, cI, cB, cS, roI, ro64, hpin, go_sem, Nat.reduceAdd, Nat.reduceMul]
      refine ⟨i + 1, h', by omega, Ent.weak ?_ ?_ ?_ ?_⟩
      · have e5 : k + (sumN paramN (l.take (i + 1)) : Nat) = ((q + 1) + 1) := by omega
        simp (decide := true) [subT, St.get, look, w64s (n := l.length) h' (by omega), vI, vB, e5, hn]
      · rw [← e4]; simp (decide := true) [subB, look, paramC, paramM, cI, cS, cB, mbool]
      all_goals simp (decide := true) [hereT, hereV, look, vI, hn]
    · have hil : i = l.length := by omega
      subst hil
      have e : ((l.length : Int) < (l.length : Int)) = False := by simp
      have e6 : rows (paramC false) (paramML k (l.take l.length)) ++ rows (paramC false) (l.drop l.length) = rows (paramC false) (paramML k l) := by simp [rows]
      rw [e6]
      simp (decide := true) only [e, vI, row1_length, cI, cB, cS, roI, ro64, hpin, go_sem, Nat.reduceAdd, Nat.reduceMul]
theorem heldParamS_sound (l : List ParamD) (k : Int) (h0 : 0 ≤ k) (h1 : k + (sumN paramN l : Nat) < 4611686018427387904) :
    Sound Tryz.prog 104 [.ro (.imm 86 (rows (paramC true) (paramML k l))), .ro (.sc (.int .i64 k))] (fun rs st => rs = [(false, [cI (k + (sumN paramN l : Nat))])]) := by
  have hll := sumN_ge (f := paramN) (fun x => by unfold paramN; omega) l
  refine sound_code (fn := Tryz.f104) (c := Tryz.f104.body.getD .skip) (res := [.tm 4]) (n := 32) sized (by kernel_rfl) (by rfl) (by kernel_rfl) (by rfl) (by rfl) (by simp [argsV]) (fun C hpin hfull => ?_)
  simp (decide := true) only [Tryz.f104, row1_length, cI, cB, cS, roI, ro64, hpin, go_sem, Nat.reduceAdd, Nat.reduceMul]
  refine Tri.loop (ι := Nat) (fun i => i ≤ l.length) (fun i => ⟨32, [(0, .imm 86 (rows (paramC true) (paramML k l))), (1, vI (k + (sumN paramN (l.take i) : Nat))), (5, vI i)], []⟩) (fun i => l.length - i) 0 (by simp) ?_ ?_
  · refine Ent.weak ?_ ?_ ?_ ?_ <;> simp (decide := true) [subT, subB, hereT, hereV, St.get, look, vI, vB, rows, sumN]
  · rintro i hi
    refine code_sound sized _ ?_
    by_cases h' : i < l.length
    · have e : ((i : Int) < (l.length : Int)) = True := by simp [h']
      have hs1 := sumN_take paramN l h'
      have hs2 := sumN_le paramN l (i + 1)
      have hu : paramN l[i] = 2 := rfl
      have h2 : i < (paramML k l).length := by rw [paramML_length]; exact h'
      have hg : (rows (paramC true) (paramML k l)).getD i [] = paramC true (paramM (k + (sumN paramN (l.take i) : Nat)) l[i]) := by rw [rows_get _ _ h2, paramML_get k l h' h2]
      obtain ⟨q, hq⟩ : ∃ q, q = k + (sumN paramN (l.take i) : Nat) := ⟨_, rfl⟩
      rw [← hq] at hg ⊢
      have hq0 : 0 ≤ q := by omega
      have w0 : IntKind.i64.wrap (q + 1) = q + 1 := w64 (by omega) (by omega)
      have w1 : IntKind.i64.wrap ((q + 1) + 1) = (q + 1) + 1 := w64 (by omega) (by omega)
      simp (decide := true) only [e, h', hg, mbool, bne_self_eq_false, Int.natCast_nonneg, vI, paramC, paramM, w0, w1, row1_length, cI, cB, cS, roI, ro64, hpin, go_sem, Nat.reduceAdd, Nat.reduceMul]
      refine Tri.sched sized [(0, true), (1, true), (2, true), (3, true), (5, true), (4, true), (6, false), (7, false)] mixed (by kernel_rfl) (fun C2 hC2 => ?_)
      have hp2 : ∀ o, isPin o = false → C2.pin o = none := by rw [hC2]; exact hpin
      simp (decide := true) only [e, h', hg, mbool, bne_self_eq_false, Int.natCast_nonneg, vI, paramC, paramM, w0, w1, row1_length, cI, cB, cS, roI, ro64, hp2, go_sem, Nat.reduceAdd, Nat.reduceMul]
      refine aCall_det (markText_sound q (by omega) (by omega)) hp2 ?_
      simp (decide := true) only [e, h', hg, mbool, bne_self_eq_false, Int.natCast_nonneg, vI, paramC, paramM, w0, w1, row1_length, cI, cB, cS, roI, ro64, hp2, go_sem, Nat.reduceAdd, Nat.reduceMul]
      try simp (decide := true) only [e, h', hg, mbool, bne_self_eq_false, Int.natCast_nonneg, vI, paramC, paramM, w0, w1, row1_length, cI, cB, cS, roI, ro64, hpin, go_sem, Nat.reduceAdd, Nat.reduceMul]
      have e5 : k + (sumN paramN (l.take (i + 1)) : Nat) = ((q + 1) + 1) := by omega
      refine ⟨i + 1, h', by omega, Ent.weak ?_ ?_ ?_ ?_⟩
      · simp (decide := true) [subT, St.get, look, w64s (n := l.length) h' (by omega), vI, vB, e5]
      all_goals simp (decide := true) [subB, hereT, hereV, look, vI]
    · have hil : i = l.length := by omega
      subst hil
      have e : ((l.length : Int) < (l.length : Int)) = False := by simp
      simp (decide := true) only [e, vI, row1_length, cI, cB, cS, roI, ro64, hpin, go_sem, Nat.reduceAdd, Nat.reduceMul]
def fnN (x : FnD) : Nat := 4 + sumN paramN x.params
def fnM (q : Int) (x : FnD) : FnD := ⟨mtext q, paramML (q + 1) x.params, ((q + 1) + (sumN paramN x.params : Nat)), (((q + 1) + (sumN paramN x.params : Nat)) + 1), ((((q + 1) + (sumN paramN x.params : Nat)) + 1) + 1)⟩
def fnML : Int → List FnD → List FnD
  | _, [] => []
  | q, x :: r => fnM q x :: fnML (q + (fnN x : Nat)) r
theorem fnML_length : ∀ (q : Int) (l : List FnD), (fnML q l).length = l.length
  | _, [] => rfl
  | q, x :: r => by simp [fnML, fnML_length]
theorem fnML_append : ∀ (q : Int) (l l2 : List FnD), fnML q (l ++ l2) = fnML q l ++ fnML (q + (sumN fnN l : Nat)) l2
  | q, [], l2 => by simp [fnML, sumN]
  | q, x :: r, l2 => by
    have e : q + (fnN x : Nat) + (sumN fnN r : Nat) = q + (sumN fnN (x :: r) : Nat) := by simp only [sumN, List.map_cons, List.sum_cons]; omega
    simp only [fnML, List.cons_append, fnML_append, e]
theorem fnML_take (q : Int) (l : List FnD) {i : Nat} (h : i < l.length) : fnML q (l.take (i + 1)) = fnML q (l.take i) ++ [fnM (q + (sumN fnN (l.take i) : Nat)) l[i]] := by
  rw [List.take_succ_eq_append_getElem h, fnML_append]; rfl
theorem fnML_get (q : Int) (l : List FnD) {i : Nat} (h : i < l.length) (h2 : i < (fnML q l).length) : (fnML q l)[i] = fnM (q + (sumN fnN (l.take i) : Nat)) l[i] := by
  have e : l = l.take (i + 1) ++ l.drop (i + 1) := (List.take_append_drop _ _).symm
  have hl : (fnML q (l.take i)).length = i := by rw [fnML_length]; simp; omega
  have e2 : (fnML q l)[i]? = some (fnM (q + (sumN fnN (l.take i) : Nat)) l[i]) := by
    conv => lhs; rw [e, fnML_append, fnML_take q l h, List.append_assoc]
    rw [List.getElem?_append_right (by omega), hl, Nat.sub_self]; rfl
  exact (List.getElem?_eq_some_iff.1 e2).2
attribute [go_sem] fnML_length
theorem markFnS_sound (l : List FnD) (k : Int) (h0 : 0 ≤ k) (h1 : k + (sumN fnN l : Nat) < 4611686018427387904) :
    SoundAt Tryz.prog 44 (fun uf => argsV 0 [.ro (.ref 2000 [] l.length), .ro (.sc (.int .i64 k))]) [(2000, .row 80 (rows (fnC false) l))]
      (fun rs st => rs = [(false, [cI (k + (sumN fnN l : Nat))])] ∧ nowIs st.ob [(2000, .row 80 (rows (fnC false) (fnML k l)))]) := by
  have hll := sumN_ge (f := fnN) (fun x => by unfold fnN; omega) l
  refine sound_of_code (fn := Tryz.f44) (c := Tryz.f44.body.getD .skip) (res := [.tm 4]) (n := 49) sized (by kernel_rfl) (by rfl) (by kernel_rfl) (by rfl) (by rfl) (by simp [argsV]) (fun uf ub C hpin hpin2 hfull => ?_)
  simp (decide := true) only [Tryz.f44, row1_length, cI, cB, cS, roI, ro64, hpin, go_sem, Nat.reduceAdd, Nat.reduceMul]
  refine Tri.loop (ι := Nat) (fun i => i ≤ l.length) (fun i => ⟨49, [(0, .ref 2000 [] l.length), (1, vI (k + (sumN fnN (l.take i) : Nat))), (5, vI i)], [(2000, .row 80 (rows (fnC false) (fnML k (l.take i)) ++ rows (fnC false) (l.drop i)))]⟩) (fun i => l.length - i) 0 (by simp) ?_ ?_
  · refine Ent.weak ?_ ?_ ?_ ?_ <;> simp (decide := true) [subT, subB, hereT, hereV, St.get, look, vI, vB, rows, sumN, fnML]
  · rintro i hi
    refine code_sound sized _ ?_
    by_cases h' : i < l.length
    · have e : ((i : Int) < (l.length : Int)) = True := by simp [h']
      have hs1 := sumN_take fnN l h'
      have hs2 := sumN_le fnN l (i + 1)
      have hu : fnN l[i] = 4 + sumN paramN l[i].params := rfl
      rw [List.drop_eq_getElem_cons h']
      obtain ⟨EA, hEA⟩ : ∃ E, E = rows (fnC false) (fnML k (l.take i)) := ⟨_, rfl⟩
      obtain ⟨EB, hEB⟩ : ∃ E, E = rows (fnC false) (l.drop (i + 1)) := ⟨_, rfl⟩
      obtain ⟨q, hq⟩ : ∃ q, q = k + (sumN fnN (l.take i) : Nat) := ⟨_, rfl⟩
      have e4 : EA ++ fnC false (fnM q l[i]) :: EB = rows (fnC false) (fnML k (l.take (i + 1))) ++ rows (fnC false) (l.drop (i + 1)) := by
        rw [hEA, hEB, hq, fnML_take k l h']; simp [rows]
      have hA : EA.length = i := by rw [hEA, rows_length, fnML_length]; simp; omega
      have hn : EA.length + (EB.length + 1) = l.length := by rw [hA, hEB, rows_length, List.length_drop]; omega
      have e0 : rows (fnC false) (fnML k (l.take i)) ++ rows (fnC false) (l[i] :: l.drop (i + 1)) = EA ++ fnC false l[i] :: EB := by rw [hEA, hEB]; rfl
      rw [e0, ← hq]
      have hq0 : 0 ≤ q := by omega
      have w0 : IntKind.i64.wrap (q + 1) = q + 1 := w64 (by omega) (by omega)
      have w1 : IntKind.i64.wrap (((q + 1) + (sumN paramN l[i].params : Nat)) + 1) = ((q + 1) + (sumN paramN l[i].params : Nat)) + 1 := w64 (by omega) (by omega)
      have w2 : IntKind.i64.wrap ((((q + 1) + (sumN paramN l[i].params : Nat)) + 1) + 1) = (((q + 1) + (sumN paramN l[i].params : Nat)) + 1) + 1 := w64 (by omega) (by omega)
      have w3 : IntKind.i64.wrap (((((q + 1) + (sumN paramN l[i].params : Nat)) + 1) + 1) + 1) = ((((q + 1) + (sumN paramN l[i].params : Nat)) + 1) + 1) + 1 := w64 (by omega) (by omega)
      simp (decide := true) only [e, h', hn, mid_get hA, mid_getq hA, mid_set hA, mid_cell hA, mid_setc hA, Int.natCast_nonneg, vI, fnC, w0, w1, w2, w3, row1_length, cI, cB, cS, roI, ro64, hpin, go_sem, Nat.reduceAdd, Nat.reduceMul]
      refine aCall_det (markText_sound q (by omega) (by omega)) hpin ?_
      simp (decide := true) only [e, h', hn, mid_get hA, mid_getq hA, mid_set hA, mid_cell hA, mid_setc hA, Int.natCast_nonneg, vI, fnC, w0, w1, w2, w3, row1_length, cI, cB, cS, roI, ro64, hpin, go_sem, Nat.reduceAdd, Nat.reduceMul]
      refine aCall_nest 2000 [(i, 1)] 1000 (x := ?x) (e := 86) (es := rows (paramC false) l[i].params) ?ho ?hs (by simp) (by decide) ?ho2 (hpin 1000 rfl) (fun z => ?_)
      case ho => exact rfl
      case hs => simp [subO, subD, mid_cell hA]
      case ho2 => exact rfl
      simp (decide := true) only [e, h', hn, mid_get hA, mid_getq hA, mid_set hA, mid_cell hA, mid_setc hA, Int.natCast_nonneg, vI, fnC, w0, w1, w2, w3, outV, outL, St.out, look, subO, subD, setO, setD, drop, row1_length, cI, cB, cS, roI, ro64, hpin, go_sem, Nat.reduceAdd, Nat.reduceMul]
      have hgeparams := sumN_ge (f := paramN) (fun x => by unfold paramN; omega) l[i].params
      refine aCall_iod3 (markParamS_sound l[i].params (q + 1) (by omega) (by omega)) (pinned3 (pin3 hpin) (by decide)) [(2000, 1000)] ⟨rfl, rfl, rfl⟩ (fun uf => ⟨rfl, rfl⟩) (fun uf => ?_) ?_
      · simp (decide := true) only [e, h', hn, mid_get hA, mid_getq hA, mid_set hA, mid_cell hA, mid_setc hA, Int.natCast_nonneg, vI, fnC, w0, w1, w2, w3, Cx.pinned, row1_length, cI, cB, cS, roI, ro64, hpin, go_sem, Nat.reduceAdd, Nat.reduceMul]
      simp (decide := true) only [e, h', hn, mid_get hA, mid_getq hA, mid_set hA, mid_cell hA, mid_setc hA, Int.natCast_nonneg, vI, fnC, w0, w1, w2, w3, Cx.pinned, row1_length, cI, cB, cS, roI, ro64, hpin, go_sem, Nat.reduceAdd, Nat.reduceMul]
      refine ⟨i + 1, h', by omega, Ent.weak ?_ ?_ ?_ ?_⟩
      · have e5 : k + (sumN fnN (l.take (i + 1)) : Nat) = (((((q + 1) + (sumN paramN l[i].params : Nat)) + 1) + 1) + 1) := by omega
        simp (decide := true) [subT, St.get, look, w64s (n := l.length) h' (by omega), vI, vB, e5, hn]
      · rw [← e4]; simp (decide := true) [subB, look, fnC, fnM, cI, cS, cB, mbool]
      all_goals simp (decide := true) [hereT, hereV, look, vI, hn]
    · have hil : i = l.length := by omega
      subst hil
      have e : ((l.length : Int) < (l.length : Int)) = False := by simp
      have e6 : rows (fnC false) (fnML k (l.take l.length)) ++ rows (fnC false) (l.drop l.length) = rows (fnC false) (fnML k l) := by simp [rows]
      rw [e6]
      simp (decide := true) only [e, vI, row1_length, cI, cB, cS, roI, ro64, hpin, go_sem, Nat.reduceAdd, Nat.reduceMul]
theorem heldFnS_sound (l : List FnD) (k : Int) (h0 : 0 ≤ k) (h1 : k + (sumN fnN l : Nat) < 4611686018427387904) :
    Sound Tryz.prog 57 [.ro (.imm 80 (rows (fnC true) (fnML k l))), .ro (.sc (.int .i64 k))] (fun rs st => rs = [(false, [cI (k + (sumN fnN l : Nat))])]) := by
  have hll := sumN_ge (f := fnN) (fun x => by unfold fnN; omega) l
  refine sound_code (fn := Tryz.f57) (c := Tryz.f57.body.getD .skip) (res := [.tm 4]) (n := 59) sized (by kernel_rfl) (by rfl) (by kernel_rfl) (by rfl) (by rfl) (by simp [argsV]) (fun C hpin hfull => ?_)
  simp (decide := true) only [Tryz.f57, row1_length, cI, cB, cS, roI, ro64, hpin, go_sem, Nat.reduceAdd, Nat.reduceMul]
  refine Tri.loop (ι := Nat) (fun i => i ≤ l.length) (fun i => ⟨59, [(0, .imm 80 (rows (fnC true) (fnML k l))), (1, vI (k + (sumN fnN (l.take i) : Nat))), (5, vI i)], []⟩) (fun i => l.length - i) 0 (by simp) ?_ ?_
  · refine Ent.weak ?_ ?_ ?_ ?_ <;> simp (decide := true) [subT, subB, hereT, hereV, St.get, look, vI, vB, rows, sumN]
  · rintro i hi
    refine code_sound sized _ ?_
    by_cases h' : i < l.length
    · have e : ((i : Int) < (l.length : Int)) = True := by simp [h']
      have hs1 := sumN_take fnN l h'
      have hs2 := sumN_le fnN l (i + 1)
      have hu : fnN l[i] = 4 + sumN paramN l[i].params := rfl
      have h2 : i < (fnML k l).length := by rw [fnML_length]; exact h'
      have hg : (rows (fnC true) (fnML k l)).getD i [] = fnC true (fnM (k + (sumN fnN (l.take i) : Nat)) l[i]) := by rw [rows_get _ _ h2, fnML_get k l h' h2]
      obtain ⟨q, hq⟩ : ∃ q, q = k + (sumN fnN (l.take i) : Nat) := ⟨_, rfl⟩
      rw [← hq] at hg ⊢
      have hq0 : 0 ≤ q := by omega
      have w0 : IntKind.i64.wrap (q + 1) = q + 1 := w64 (by omega) (by omega)
      have w1 : IntKind.i64.wrap (((q + 1) + (sumN paramN l[i].params : Nat)) + 1) = ((q + 1) + (sumN paramN l[i].params : Nat)) + 1 := w64 (by omega) (by omega)
      have w2 : IntKind.i64.wrap ((((q + 1) + (sumN paramN l[i].params : Nat)) + 1) + 1) = (((q + 1) + (sumN paramN l[i].params : Nat)) + 1) + 1 := w64 (by omega) (by omega)
      have w3 : IntKind.i64.wrap (((((q + 1) + (sumN paramN l[i].params : Nat)) + 1) + 1) + 1) = ((((q + 1) + (sumN paramN l[i].params : Nat)) + 1) + 1) + 1 := w64 (by omega) (by omega)
      simp (decide := true) only [e, h', hg, mbool, bne_self_eq_false, Int.natCast_nonneg, vI, fnC, fnM, w0, w1, w2, w3, row1_length, cI, cB, cS, roI, ro64, hpin, go_sem, Nat.reduceAdd, Nat.reduceMul]
      refine Tri.sched sized [(0, true), (1, true), (2, true), (3, true), (5, true), (4, true), (6, false), (7, false)] mixed (by kernel_rfl) (fun C2 hC2 => ?_)
      have hp2 : ∀ o, isPin o = false → C2.pin o = none := by rw [hC2]; exact hpin
      simp (decide := true) only [e, h', hg, mbool, bne_self_eq_false, Int.natCast_nonneg, vI, fnC, fnM, w0, w1, w2, w3, row1_length, cI, cB, cS, roI, ro64, hp2, go_sem, Nat.reduceAdd, Nat.reduceMul]
      refine aCall_det (markText_sound q (by omega) (by omega)) hp2 ?_
      simp (decide := true) only [e, h', hg, mbool, bne_self_eq_false, Int.natCast_nonneg, vI, fnC, fnM, w0, w1, w2, w3, row1_length, cI, cB, cS, roI, ro64, hp2, go_sem, Nat.reduceAdd, Nat.reduceMul]
      try simp (decide := true) only [e, h', hg, mbool, bne_self_eq_false, Int.natCast_nonneg, vI, fnC, fnM, w0, w1, w2, w3, row1_length, cI, cB, cS, roI, ro64, hpin, go_sem, Nat.reduceAdd, Nat.reduceMul]
      refine aCall_det (heldParamS_sound l[i].params (q + 1) (by omega) (by omega)) hpin ?_
      have n1 : (((q + 1) + (sumN paramN l[i].params : Nat) : Int) < 0) = False := by simp; omega
      try simp (decide := true) only [e, h', hg, mbool, bne_self_eq_false, Int.natCast_nonneg, vI, fnC, fnM, w0, w1, w2, w3, n1, row1_length, cI, cB, cS, roI, ro64, hpin, go_sem, Nat.reduceAdd, Nat.reduceMul]
      have e5 : k + (sumN fnN (l.take (i + 1)) : Nat) = (((((q + 1) + (sumN paramN l[i].params : Nat)) + 1) + 1) + 1) := by omega
      refine ⟨i + 1, h', by omega, Ent.weak ?_ ?_ ?_ ?_⟩
      · simp (decide := true) [subT, St.get, look, w64s (n := l.length) h' (by omega), vI, vB, e5]
      all_goals simp (decide := true) [subB, hereT, hereV, look, vI]
    · have hil : i = l.length := by omega
      subst hil
      have e : ((l.length : Int) < (l.length : Int)) = False := by simp
      simp (decide := true) only [e, vI, row1_length, cI, cB, cS, roI, ro64, hpin, go_sem, Nat.reduceAdd, Nat.reduceMul]
def programN (x : ProgramD) : Nat := 0 + sumN nodeN x.nodes + sumN fnN x.fns
def programM (q : Int) (x : ProgramD) : ProgramD := ⟨nodeML q x.nodes, fnML (q + (sumN nodeN x.nodes : Nat)) x.fns⟩
def programML : Int → List ProgramD → List ProgramD
  | _, [] => []
  | q, x :: r => programM q x :: programML (q + (programN x : Nat)) r
theorem programML_length : ∀ (q : Int) (l : List ProgramD), (programML q l).length = l.length
  | _, [] => rfl
  | q, x :: r => by simp [programML, programML_length]
theorem programML_append : ∀ (q : Int) (l l2 : List ProgramD), programML q (l ++ l2) = programML q l ++ programML (q + (sumN programN l : Nat)) l2
  | q, [], l2 => by simp [programML, sumN]
  | q, x :: r, l2 => by
    have e : q + (programN x : Nat) + (sumN programN r : Nat) = q + (sumN programN (x :: r) : Nat) := by simp only [sumN, List.map_cons, List.sum_cons]; omega
    simp only [programML, List.cons_append, programML_append, e]
theorem programML_take (q : Int) (l : List ProgramD) {i : Nat} (h : i < l.length) : programML q (l.take (i + 1)) = programML q (l.take i) ++ [programM (q + (sumN programN (l.take i) : Nat)) l[i]] := by
  rw [List.take_succ_eq_append_getElem h, programML_append]; rfl
theorem programML_get (q : Int) (l : List ProgramD) {i : Nat} (h : i < l.length) (h2 : i < (programML q l).length) : (programML q l)[i] = programM (q + (sumN programN (l.take i) : Nat)) l[i] := by
  have e : l = l.take (i + 1) ++ l.drop (i + 1) := (List.take_append_drop _ _).symm
  have hl : (programML q (l.take i)).length = i := by rw [programML_length]; simp; omega
  have e2 : (programML q l)[i]? = some (programM (q + (sumN programN (l.take i) : Nat)) l[i]) := by
    conv => lhs; rw [e, programML_append, programML_take q l h, List.append_assoc]
    rw [List.getElem?_append_right (by omega), hl, Nat.sub_self]; rfl
  exact (List.getElem?_eq_some_iff.1 e2).2
attribute [go_sem] programML_length
theorem markProgram_sound (x : ProgramD) (k : Int) (h0 : 0 ≤ k) (h1 : k + x.nodes.length + x.fns.length + (sumN nodeN x.nodes : Nat) + (sumN fnN x.fns : Nat) < 4611686018427387904) :
    SoundAt Tryz.prog 15 (fun uf => argsV 0 [.ro (.agg [.sc (uf 2000), .sc (uf 2001)]), .ro (.sc (.int .i64 k))]) [(2000, .row 60 (rows (nodeC false) (x.nodes))), (2001, .row 80 (rows (fnC false) (x.fns)))]
      (fun rs st => rs = [(false, [cI ((k + (sumN nodeN x.nodes : Nat)) + (sumN fnN x.fns : Nat))])] ∧ nowIs st.ob [(2000, .row 60 (rows (nodeC false) (nodeML k x.nodes))), (2001, .row 80 (rows (fnC false) (fnML (k + (sumN nodeN x.nodes : Nat)) x.fns)))]) := by
  refine sound_of_code (fn := Tryz.f15) (c := Tryz.f15.body.getD .skip) (res := [.tm 4]) (n := 14) sized (by kernel_rfl) (by rfl) (by kernel_rfl) (by rfl) (by rfl) (by simp [argsV]) (fun uf ub C hpin hpin2 hfull => ?_)
  simp (decide := true) only [Tryz.f15, row1_length, cI, cB, cS, roI, ro64, hpin, hpin2, go_sem, Nat.reduceAdd, Nat.reduceMul]
  refine aCall_iod (markNodeS_sound x.nodes k (by omega) (by omega)) hpin [(2000, 2000)] ⟨rfl, rfl, rfl⟩ (fun uf => ⟨rfl, rfl⟩) (fun uf => ?_) ?_
  · simp (decide := true) only [hpin2, row1_length, cI, cB, cS, roI, ro64, go_sem, Nat.reduceAdd, Nat.reduceMul]
  simp (decide := true) only [hpin, hpin2, marks_length, row1_length, cI, cB, cS, roI, ro64, go_sem, Nat.reduceAdd, Nat.reduceMul]
  refine aCall_iod (markFnS_sound x.fns (k + (sumN nodeN x.nodes : Nat)) (by omega) (by omega)) hpin [(2000, 2001)] ⟨rfl, rfl, rfl⟩ (fun uf => ⟨rfl, rfl⟩) (fun uf => ?_) ?_
  · simp (decide := true) only [hpin2, row1_length, cI, cB, cS, roI, ro64, go_sem, Nat.reduceAdd, Nat.reduceMul]
  simp (decide := true) only [hpin, hpin2, marks_length, row1_length, cI, cB, cS, roI, ro64, go_sem, Nat.reduceAdd, Nat.reduceMul]
def varN (x : VarD) : Nat := 3
def varM (q : Int) (x : VarD) : VarD := ⟨mtext q, (q + 1), ((q + 1) + 1)⟩
def varML : Int → List VarD → List VarD
  | _, [] => []
  | q, x :: r => varM q x :: varML (q + (varN x : Nat)) r
theorem varML_length : ∀ (q : Int) (l : List VarD), (varML q l).length = l.length
  | _, [] => rfl
  | q, x :: r => by simp [varML, varML_length]
theorem varML_append : ∀ (q : Int) (l l2 : List VarD), varML q (l ++ l2) = varML q l ++ varML (q + (sumN varN l : Nat)) l2
  | q, [], l2 => by simp [varML, sumN]
  | q, x :: r, l2 => by
    have e : q + (varN x : Nat) + (sumN varN r : Nat) = q + (sumN varN (x :: r) : Nat) := by simp only [sumN, List.map_cons, List.sum_cons]; omega
    simp only [varML, List.cons_append, varML_append, e]
theorem varML_take (q : Int) (l : List VarD) {i : Nat} (h : i < l.length) : varML q (l.take (i + 1)) = varML q (l.take i) ++ [varM (q + (sumN varN (l.take i) : Nat)) l[i]] := by
  rw [List.take_succ_eq_append_getElem h, varML_append]; rfl
theorem varML_get (q : Int) (l : List VarD) {i : Nat} (h : i < l.length) (h2 : i < (varML q l).length) : (varML q l)[i] = varM (q + (sumN varN (l.take i) : Nat)) l[i] := by
  have e : l = l.take (i + 1) ++ l.drop (i + 1) := (List.take_append_drop _ _).symm
  have hl : (varML q (l.take i)).length = i := by rw [varML_length]; simp; omega
  have e2 : (varML q l)[i]? = some (varM (q + (sumN varN (l.take i) : Nat)) l[i]) := by
    conv => lhs; rw [e, varML_append, varML_take q l h, List.append_assoc]
    rw [List.getElem?_append_right (by omega), hl, Nat.sub_self]; rfl
  exact (List.getElem?_eq_some_iff.1 e2).2
attribute [go_sem] varML_length
def effectN (x : EffectD) : Nat := 2
def effectM (q : Int) (x : EffectD) : EffectD := ⟨mtext q, (q + 1)⟩
def effectML : Int → List EffectD → List EffectD
  | _, [] => []
  | q, x :: r => effectM q x :: effectML (q + (effectN x : Nat)) r
theorem effectML_length : ∀ (q : Int) (l : List EffectD), (effectML q l).length = l.length
  | _, [] => rfl
  | q, x :: r => by simp [effectML, effectML_length]
theorem effectML_append : ∀ (q : Int) (l l2 : List EffectD), effectML q (l ++ l2) = effectML q l ++ effectML (q + (sumN effectN l : Nat)) l2
  | q, [], l2 => by simp [effectML, sumN]
  | q, x :: r, l2 => by
    have e : q + (effectN x : Nat) + (sumN effectN r : Nat) = q + (sumN effectN (x :: r) : Nat) := by simp only [sumN, List.map_cons, List.sum_cons]; omega
    simp only [effectML, List.cons_append, effectML_append, e]
theorem effectML_take (q : Int) (l : List EffectD) {i : Nat} (h : i < l.length) : effectML q (l.take (i + 1)) = effectML q (l.take i) ++ [effectM (q + (sumN effectN (l.take i) : Nat)) l[i]] := by
  rw [List.take_succ_eq_append_getElem h, effectML_append]; rfl
theorem effectML_get (q : Int) (l : List EffectD) {i : Nat} (h : i < l.length) (h2 : i < (effectML q l).length) : (effectML q l)[i] = effectM (q + (sumN effectN (l.take i) : Nat)) l[i] := by
  have e : l = l.take (i + 1) ++ l.drop (i + 1) := (List.take_append_drop _ _).symm
  have hl : (effectML q (l.take i)).length = i := by rw [effectML_length]; simp; omega
  have e2 : (effectML q l)[i]? = some (effectM (q + (sumN effectN (l.take i) : Nat)) l[i]) := by
    conv => lhs; rw [e, effectML_append, effectML_take q l h, List.append_assoc]
    rw [List.getElem?_append_right (by omega), hl, Nat.sub_self]; rfl
  exact (List.getElem?_eq_some_iff.1 e2).2
attribute [go_sem] effectML_length
theorem markEffectS_sound (l : List EffectD) (k : Int) (h0 : 0 ≤ k) (h1 : k + (sumN effectN l : Nat) < 4611686018427387904) :
    SoundAt Tryz.prog 17 (fun uf => argsV 0 [.ro (.ref 2000 [] l.length), .ro (.sc (.int .i64 k))]) [(2000, .row 65 (rows (effectC false) l))]
      (fun rs st => rs = [(false, [cI (k + (sumN effectN l : Nat))])] ∧ nowIs st.ob [(2000, .row 65 (rows (effectC false) (effectML k l)))]) := by
  have hll := sumN_ge (f := effectN) (fun x => by unfold effectN; omega) l
  refine sound_of_code (fn := Tryz.f17) (c := Tryz.f17.body.getD .skip) (res := [.tm 4]) (n := 28) sized (by kernel_rfl) (by rfl) (by kernel_rfl) (by rfl) (by rfl) (by simp [argsV]) (fun uf ub C hpin hpin2 hfull => ?_)
  simp (decide := true) only [Tryz.f17, row1_length, cI, cB, cS, roI, ro64, hpin, go_sem, Nat.reduceAdd, Nat.reduceMul]
  refine Tri.loop (ι := Nat) (fun i => i ≤ l.length) (fun i => ⟨28, [(0, .ref 2000 [] l.length), (1, vI (k + (sumN effectN (l.take i) : Nat))), (5, vI i)], [(2000, .row 65 (rows (effectC false) (effectML k (l.take i)) ++ rows (effectC false) (l.drop i)))]⟩) (fun i => l.length - i) 0 (by simp) ?_ ?_
  · refine Ent.weak ?_ ?_ ?_ ?_ <;> simp (decide := true) [subT, subB, hereT, hereV, St.get, look, vI, vB, rows, sumN, effectML]
  · rintro i hi
    refine code_sound sized _ ?_
    by_cases h' : i < l.length
    · have e : ((i : Int) < (l.length : Int)) = True := by simp [h']
      have hs1 := sumN_take effectN l h'
      have hs2 := sumN_le effectN l (i + 1)
      have hu : effectN l[i] = 2 := rfl
      rw [List.drop_eq_getElem_cons h']
      obtain ⟨EA, hEA⟩ : ∃ E, E = rows (effectC false) (effectML k (l.take i)) := ⟨_, rfl⟩
      obtain ⟨EB, hEB⟩ : ∃ E, E = rows (effectC false) (l.drop (i + 1)) := ⟨_, rfl⟩
      obtain ⟨q, hq⟩ : ∃ q, q = k + (sumN effectN (l.take i) : Nat) := ⟨_, rfl⟩
      have e4 : EA ++ effectC false (effectM q l[i]) :: EB = rows (effectC false) (effectML k (l.take (i + 1))) ++ rows (effectC false) (l.drop (i + 1)) := by
        rw [hEA, hEB, hq, effectML_take k l h']; simp [rows]
      have hA : EA.length = i := by rw [hEA, rows_length, effectML_length]; simp; omega
      have hn : EA.length + (EB.length + 1) = l.length := by rw [hA, hEB, rows_length, List.length_drop]; omega
      have e0 : rows (effectC false) (effectML k (l.take i)) ++ rows (effectC false) (l[i] :: l.drop (i + 1)) = EA ++ effectC false l[i] :: EB := by rw [hEA, hEB]; rfl
      rw [e0, ← hq]
      have hq0 : 0 ≤ q := by omega
      have w0 : IntKind.i64.wrap (q + 1) = q + 1 := w64 (by omega) (by omega)
      have w1 : IntKind.i64.wrap ((q + 1) + 1) = (q + 1) + 1 := w64 (by omega) (by omega)
      simp (decide := true) only [e, h', hn, mid_get hA, mid_getq hA, mid_set hA, mid_cell hA, mid_setc hA, Int.natCast_nonneg, vI, effectC, w0, w1, row1_length, cI, cB, cS, roI, ro64, hpin, go_sem, Nat.reduceAdd, Nat.reduceMul]
      refine aCall_det (markText_sound q (by omega) (by omega)) hpin ?_
      simp (decide := true) only [e, h', hn, mid_get hA, mid_getq hA, mid_set hA, mid_cell hA, mid_setc hA, Int.natCast_nonneg, vI, effectC, w0, w1, row1_length, cI, cB, cS, roI, ro64, hpin, go_sem, Nat.reduceAdd, Nat.reduceMul]
      refine ⟨i + 1, h', by omega, Ent.weak ?_ ?_ ?_ ?_⟩
      · have e5 : k + (sumN effectN (l.take (i + 1)) : Nat) = ((q + 1) + 1) := by omega
        simp (decide := true) [subT, St.get, look, w64s (n := l.length) h' (by omega), vI, vB, e5, hn]
      · rw [← e4]; simp (decide := true) [subB, look, effectC, effectM, cI, cS, cB, mbool]
      all_goals simp (decide := true) [hereT, hereV, look, vI, hn]
    · have hil : i = l.length := by omega
      subst hil
      have e : ((l.length : Int) < (l.length : Int)) = False := by simp
      have e6 : rows (effectC false) (effectML k (l.take l.length)) ++ rows (effectC false) (l.drop l.length) = rows (effectC false) (effectML k l) := by simp [rows]
      rw [e6]
      simp (decide := true) only [e, vI, row1_length, cI, cB, cS, roI, ro64, hpin, go_sem, Nat.reduceAdd, Nat.reduceMul]
theorem heldEffectS_sound (l : List EffectD) (k : Int) (h0 : 0 ≤ k) (h1 : k + (sumN effectN l : Nat) < 4611686018427387904) :
    Sound Tryz.prog 18 [.ro (.imm 65 (rows (effectC true) (effectML k l))), .ro (.sc (.int .i64 k))] (fun rs st => rs = [(false, [cI (k + (sumN effectN l : Nat))])]) := by
  have hll := sumN_ge (f := effectN) (fun x => by unfold effectN; omega) l
  refine sound_code (fn := Tryz.f18) (c := Tryz.f18.body.getD .skip) (res := [.tm 4]) (n := 32) sized (by kernel_rfl) (by rfl) (by kernel_rfl) (by rfl) (by rfl) (by simp [argsV]) (fun C hpin hfull => ?_)
  simp (decide := true) only [Tryz.f18, row1_length, cI, cB, cS, roI, ro64, hpin, go_sem, Nat.reduceAdd, Nat.reduceMul]
  refine Tri.loop (ι := Nat) (fun i => i ≤ l.length) (fun i => ⟨32, [(0, .imm 65 (rows (effectC true) (effectML k l))), (1, vI (k + (sumN effectN (l.take i) : Nat))), (5, vI i)], []⟩) (fun i => l.length - i) 0 (by simp) ?_ ?_
  · refine Ent.weak ?_ ?_ ?_ ?_ <;> simp (decide := true) [subT, subB, hereT, hereV, St.get, look, vI, vB, rows, sumN]
  · rintro i hi
    refine code_sound sized _ ?_
    by_cases h' : i < l.length
    · have e : ((i : Int) < (l.length : Int)) = True := by simp [h']
      have hs1 := sumN_take effectN l h'
      have hs2 := sumN_le effectN l (i + 1)
      have hu : effectN l[i] = 2 := rfl
      have h2 : i < (effectML k l).length := by rw [effectML_length]; exact h'
      have hg : (rows (effectC true) (effectML k l)).getD i [] = effectC true (effectM (k + (sumN effectN (l.take i) : Nat)) l[i]) := by rw [rows_get _ _ h2, effectML_get k l h' h2]
      obtain ⟨q, hq⟩ : ∃ q, q = k + (sumN effectN (l.take i) : Nat) := ⟨_, rfl⟩
      rw [← hq] at hg ⊢
      have hq0 : 0 ≤ q := by omega
      have w0 : IntKind.i64.wrap (q + 1) = q + 1 := w64 (by omega) (by omega)
      have w1 : IntKind.i64.wrap ((q + 1) + 1) = (q + 1) + 1 := w64 (by omega) (by omega)
      simp (decide := true) only [e, h', hg, mbool, bne_self_eq_false, Int.natCast_nonneg, vI, effectC, effectM, w0, w1, row1_length, cI, cB, cS, roI, ro64, hpin, go_sem, Nat.reduceAdd, Nat.reduceMul]
      refine Tri.sched sized [(0, true), (1, true), (2, true), (3, true), (5, true), (4, true), (6, false), (7, false)] mixed (by kernel_rfl) (fun C2 hC2 => ?_)
      have hp2 : ∀ o, isPin o = false → C2.pin o = none := by rw [hC2]; exact hpin
      simp (decide := true) only [e, h', hg, mbool, bne_self_eq_false, Int.natCast_nonneg, vI, effectC, effectM, w0, w1, row1_length, cI, cB, cS, roI, ro64, hp2, go_sem, Nat.reduceAdd, Nat.reduceMul]
      refine aCall_det (markText_sound q (by omega) (by omega)) hp2 ?_
      simp (decide := true) only [e, h', hg, mbool, bne_self_eq_false, Int.natCast_nonneg, vI, effectC, effectM, w0, w1, row1_length, cI, cB, cS, roI, ro64, hp2, go_sem, Nat.reduceAdd, Nat.reduceMul]
      try simp (decide := true) only [e, h', hg, mbool, bne_self_eq_false, Int.natCast_nonneg, vI, effectC, effectM, w0, w1, row1_length, cI, cB, cS, roI, ro64, hpin, go_sem, Nat.reduceAdd, Nat.reduceMul]
      have e5 : k + (sumN effectN (l.take (i + 1)) : Nat) = ((q + 1) + 1) := by omega
      refine ⟨i + 1, h', by omega, Ent.weak ?_ ?_ ?_ ?_⟩
      · simp (decide := true) [subT, St.get, look, w64s (n := l.length) h' (by omega), vI, vB, e5]
      all_goals simp (decide := true) [subB, hereT, hereV, look, vI]
    · have hil : i = l.length := by omega
      subst hil
      have e : ((l.length : Int) < (l.length : Int)) = False := by simp
      simp (decide := true) only [e, vI, row1_length, cI, cB, cS, roI, ro64, hpin, go_sem, Nat.reduceAdd, Nat.reduceMul]
end Go.Proofs.YtnbodmohnkohfaaGreatDoor.AW
