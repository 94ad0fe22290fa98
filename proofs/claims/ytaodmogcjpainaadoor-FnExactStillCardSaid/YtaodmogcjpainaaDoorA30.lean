/- Rows of elements of several cells; and what is reckoned by: one set of equations. No condition. -/
import Derived.Test.YtaodmogcjpainaaDoorA29
namespace Go.Proofs.YtaodmogcjpainaaDoor.AW
open Go.RowKit

/-- Rows whose elements have several cells. -/
def rows {α : Type} (f : α → List D) (l : List α) : List (List D) := l.map f
theorem rows_length {α : Type} (f : α → List D) (l : List α) : (rows f l).length = l.length := by simp [rows]
theorem rows_get {α : Type} (f : α → List D) (l : List α) {i : Nat} (h : i < l.length) : (rows f l).getD i [] = f l[i] := by simp [rows, List.getD, h]
theorem rows_getq {α : Type} (f : α → List D) (l : List α) {i : Nat} (h : i < l.length) : (rows f l)[i]? = some (f l[i]) := by simp [rows, h]
theorem rows_cell {α : Type} (f : α → List D) (l : List α) {i : Nat} (j : Nat) (h : i < l.length) : cellAt (rows f l) i j = (f l[i])[j]? := by simp [cellAt, rows_getq f l h]
theorem rows_nil {α : Type} (f : α → List D) : rows f [] = [] := rfl
theorem rows_snoc {α : Type} (f : α → List D) (l : List α) (x : α) : rows f l ++ [f x] = rows f (l ++ [x]) := by simp [rows]
theorem rows_set {α : Type} (f : α → List D) (l : List α) (i : Nat) (x : α) : (rows f l).set i (f x) = rows f (l.set i x) := by simp [rows, List.map_set]
theorem rows_take {α : Type} (f : α → List D) (l : List α) (n : Nat) : (rows f l).take n = rows f (l.take n) := by simp [rows, List.map_take]
theorem rows_takeL {α : Type} (f : α → List D) (l : List α) : (rows f l).take l.length = rows f l := by rw [← rows_length f l, List.take_length]
def shF {α : Type} (f : α → List D) : α → List D := fun x => shL (f x)
theorem rows_sh {α : Type} (f : α → List D) (l : List α) : shLL (rows f l) = rows (shF f) l := by rw [shLL_map]; simp [rows, shF]
theorem rows_noSh {α : Type} {f : α → List D} (hf : ∀ x, noShL (f x) = true) (l : List α) : noShLL (rows f l) = true := by
  induction l with
  | nil => rfl
  | cons x r ih => simp only [rows, List.map_cons, noShLL, hf, Bool.true_and]; exact ih

/-- A row that is filled from its beginning. -/
def fillR {α : Type} (f : α → List D) (z : List D) (l : List α) (i : Nat) : List (List D) := rows f (l.take i) ++ List.replicate (l.length - i) z
theorem fillR_length {α : Type} (f : α → List D) (z : List D) (l : List α) {i : Nat} (h : i ≤ l.length) : (fillR f z l i).length = l.length := by simp [fillR, rows]; omega
theorem fillR_get {α : Type} (f : α → List D) (z : List D) (l : List α) {i : Nat} (h : i < l.length) : (fillR f z l i).getD i [] = z := by
  have e : (rows f (l.take i)).length = i := by simp [rows]; omega
  simp only [fillR, List.getD]
  rw [List.getElem?_append_right (by omega), e, Nat.sub_self, List.getElem?_replicate, if_pos (by omega)]; rfl
theorem fillR_set {α : Type} (f : α → List D) (z : List D) (l : List α) {i : Nat} (h : i < l.length) : (fillR f z l i).set i (f l[i]) = fillR f z l (i + 1) := by
  have e : (rows f (l.take i)).length = i := by simp [rows]; omega
  unfold fillR
  rw [List.set_append_right _ _ (by omega), e, Nat.sub_self]
  obtain ⟨m, hm⟩ : ∃ m, l.length - i = m + 1 := ⟨l.length - i - 1, by omega⟩
  rw [hm, List.replicate_succ, List.set_cons_zero, List.take_succ_eq_append_getElem h]
  have hm2 : l.length - (i + 1) = m := by omega
  rw [hm2]
  simp only [rows, List.map_append, List.map_cons, List.map_nil, List.append_assoc, List.cons_append, List.nil_append]
theorem fillR_zero {α : Type} (f : α → List D) (z : List D) (l : List α) : fillR f z l 0 = List.replicate l.length z := by simp [fillR, rows]
theorem fillR_end {α : Type} (f : α → List D) (z : List D) (l : List α) : fillR f z l l.length = rows f l := by simp [fillR]

/-- What is left. -/
def sub (left : Int) (c : Nat) : Int := if left - c < 0 then -1 else left - c
theorem sub_neg {left : Int} {c : Nat} (h : left - c < 0) : sub left c = -1 := by simp [sub, h]
theorem sub_pos {left : Int} {c : Nat} (h : ¬ left - c < 0) : sub left c = left - c := by simp [sub, h]
def sumN {α : Type} (f : α → Nat) (l : List α) : Nat := (l.map f).sum
theorem sumN_take {α : Type} (f : α → Nat) (l : List α) {i : Nat} (h : i < l.length) : sumN f (l.take (i + 1)) = sumN f (l.take i) + f l[i] := by
  unfold sumN
  rw [List.take_succ_eq_append_getElem h, List.map_append, List.sum_append]
  simp only [List.map_cons, List.map_nil, List.sum_cons, List.sum_nil, Nat.add_zero]
theorem sumN_le {α : Type} (f : α → Nat) (l : List α) (i : Nat) : sumN f (l.take i) ≤ sumN f l := by
  have : sumN f l = sumN f (l.take i) + sumN f (l.drop i) := by
    unfold sumN
    rw [← List.sum_append, ← List.map_append, List.take_append_drop]
  omega
theorem sumN_mem {α : Type} (f : α → Nat) {l : List α} {i : Nat} (h : i < l.length) : f l[i] ≤ sumN f l := by
  have := sumN_le f l (i + 1)
  rw [sumN_take f l h] at this; omega
theorem sumN_nil {α : Type} (f : α → Nat) (l : List α) : sumN f (l.take 0) = 0 := rfl

attribute [go_sem ↓] aSched br_true br_false aStore aAlloc aBox aBuildSlice aMake aAppend aCode aDraw aOps aOper aOp1 Exit.seq Exit.blk gOp aEff aAssign FinE Fin finV
attribute [go_sem] convQ aConv bytesD ev_eq bytes_eq row1_takeL imp_self pinAs pinRow or_true true_or or_false false_or eq_self pvOf strip outV outL St.out St.inn innOk Cx.pinned List.append_nil List.nil_append List.cons_append List.getD_cons_zero List.getD_cons_succ Nat.mul_zero okP okX lensAre sOper sOp St.frb frbV frbL St.frz frzV frzL shL shD lookInv lenIs knownIs givenIs lendsTo lendsL takeM lendAll noShR noShL noSh ioOk ioLong isPin nowIs roAll ints_sh strs_sh bools_sh ints_noSh strs_noSh bools_noSh List.take_length decide_true decide_false St.swap setO setD mapT killN killNL drop St.kill killV killL St.fresh St.put setL List.set_cons_zero List.set_cons_succ anon isAnon objNo dVn layD layL numD numR vsD rV vsR resV after St.wrote killI killIL dropI newObs ownD rowsD freeD stays List.all_cons List.all_nil List.map_cons List.map_nil List.length_append List.length_replicate pOper pOp aPure2 aPure dstOk St.ev St.get look setDst St.set constV zipT V.str V.ok argsV argsOb binV intV isSh strV boolB unV nilV fieldAddrV pickV loadV rowOf indexAddrV lenV minV indexV convV extractV fieldV tab allSome rdD cellV cellI subO subD cellAt ite_true ite_false if_true if_false true_and and_true List.getElem?_toArray Option.bind_some Option.getD_some Option.getD_none Option.isSome_some Option.map_some Option.map_none Option.some.injEq List.getElem?_cons_zero List.getElem?_cons_succ List.getElem?_nil getsOk gets getR flats flatV toDss toDs toD rvsOf rvOf Bool.and_eq_true decide_eq_true_eq List.length_cons List.length_nil reduceCtorEq false_and and_false implies_true forall_const Exit.exit.injEq Bool.true_and Bool.false_and Bool.and_true Bool.and_false beq_true beq_false Bool.not_true Bool.not_false Bool.false_eq_true Bool.true_eq_false cond_true cond_false Nat.zero_add Nat.add_zero Int.toNat_natCast true_implies false_implies beq_iff_eq okO sliceV ixV buildV fillV and_self rows_length rows_takeL rows_sh
end Go.Proofs.YtaodmogcjpainaaDoor.AW
