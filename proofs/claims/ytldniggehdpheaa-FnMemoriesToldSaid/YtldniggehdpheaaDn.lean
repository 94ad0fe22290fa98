/- What a memory holds, and what its methods make of it: in plain Lean. No condition. -/
import Derived.Test.YtldniggehdpheaaTa
import Derived.Test.YtldniggehdpheaaDd
namespace Go.Proofs.Ytldniggehdpheaa.AW
open Go.RowKit
set_option maxHeartbeats 4000000
set_option maxRecDepth 100000
set_option linter.unusedSimpArgs false
set_option linter.unusedVariables false

theorem qCell : eqT Try.prog 67 = some [(0, 1), (1, 0)] := by kernel_rfl
theorem qValue : eqT Try.prog 32 = some [(0, 0), (1, 0)] := by kernel_rfl
attribute [go_sem] qCell qValue
def memB (sh : Bool) (m : MemoryD) : List D := [.row false 67 (rows (cellC false) m.cells), .row sh 3 (row1 cI m.input), .row false 3 (row1 cI m.out), cI m.fuel, cI m.bad]
def inJ (n lo hi : Int) : Bool := decide (lo ≤ n) && decide (n ≤ hi)
def zV : ValueD := ⟨0, 0⟩
def cAt (l : List CellD) (k : Int) : CellD := l.getD k.toNat ⟨false, 0⟩
def MemoryD.fail (m : MemoryD) (n : Int) : MemoryD := { m with bad := n }
def inMem (m : MemoryD) (k : Int) : Bool := inJ k 0 ((m.cells.length : Int) - 1)
def liveM (m : MemoryD) (k : Int) : Bool := inMem m k && (cAt m.cells k).live
def spendM (m : MemoryD) : MemoryD := if m.bad == 0 then (if decide (0 < m.fuel) then { m with fuel := m.fuel - 1 } else m.fail 1) else m
def freshM (m : MemoryD) (n : Int) : MemoryD × ValueD := if m.bad == 0 then ({ m with cells := m.cells ++ [⟨true, n⟩] }, ⟨2, m.cells.length⟩) else (m, zV)
def deadM (m : MemoryD) (k : Int) : MemoryD := { m with cells := m.cells.set k.toNat ⟨false, (cAt m.cells k).num⟩ }
def movedM (m : MemoryD) (v : ValueD) : MemoryD × ValueD :=
  if m.bad == 0 then (if v.type == 2 then (if liveM m v.num then freshM (deadM m v.num) (cAt m.cells v.num).num else (m.fail 5, zV)) else (m, v)) else (m, zV)
def freedM (m : MemoryD) (v : ValueD) : MemoryD := if m.bad == 0 && (v.type == 2 && inMem m v.num) then deadM m v.num else m
def holdsM (m : MemoryD) (v : ValueD) : Bool := inJ v.type 2 4 && liveM m v.num
def lookedM (m : MemoryD) (v : ValueD) : MemoryD × Int := if m.bad == 0 then (if holdsM m v then (m, (cAt m.cells v.num).num) else (m.fail 5, 0)) else (m, 0)
def writtenM (m : MemoryD) (v : ValueD) (n : Int) : MemoryD := if m.bad == 0 then (if holdsM m v then { m with cells := m.cells.set v.num.toNat ⟨(cAt m.cells v.num).live, n⟩ } else m.fail 5) else m
def askedM (m : MemoryD) : MemoryD × Int := if m.bad == 0 then (match m.input with
  | [] => (m.fail 2, 0)
  | x :: r => ({ m with input := r }, x)) else (m, 0)
def toldM (m : MemoryD) (n : Int) : MemoryD := if m.bad == 0 then { m with out := m.out ++ [n] } else m
def summedM (m : MemoryD) (a b : Int) : MemoryD × Int := if m.bad == 0 then (if inJ a 0 1000000000 && (inJ b 0 1000000000 && decide (a + b ≤ 1000000000)) then (m, a + b) else (m.fail 3, 0)) else (m, 0)

theorem getD_z {α : Type} (x : α) (l : List α) (d : α) : (x :: l).getD (Int.toNat 0) d = x := rfl
theorem ints_fr (l : List Int) : (row1 cI l).all (fun x => x.all freeD) = true := by simp [row1, cI, freeD]
theorem cells_fr (l : List CellD) : (rows (cellC true) l).all (fun x => x.all freeD) = true := by simp [rows, cellC, cI, cB, freeD]
theorem row1_nil0 {α : Type} (f : α → D) : row1 f [] = [] := rfl
theorem row1_cons0 {α : Type} (f : α → D) (x : α) (l : List α) : row1 f (x :: l) = [f x] :: row1 f l := rfl
theorem cAt_get {l : List CellD} {k : Nat} (h : k < l.length) : cAt l k = l[k] := by simp [cAt, List.getD, h]
theorem cell_q {l : List CellD} {k : Nat} (sh : Bool) (h : k < l.length) : (rows (cellC sh) l)[k]? = some [cB (cAt l k).live, cI (cAt l k).num] := by rw [rows_getq _ _ h, cAt_get h]; rfl
theorem cell_0 {l : List CellD} {k : Nat} (sh : Bool) (h : k < l.length) : cellAt (rows (cellC sh) l) k 0 = some (cB (cAt l k).live) := by unfold cellAt; rw [cell_q sh h]; rfl
theorem cell_1 {l : List CellD} {k : Nat} (sh : Bool) (h : k < l.length) : cellAt (rows (cellC sh) l) k 1 = some (cI (cAt l k).num) := by unfold cellAt; rw [cell_q sh h]; rfl
theorem cell_set0 {l : List CellD} {k : Nat} (h : k < l.length) : setCellAt (rows (cellC false) l) k 0 (.sc (.bool false)) = rows (cellC false) (l.set k ⟨false, (cAt l k).num⟩) := by
  unfold setCellAt
  have h2 : (rows (cellC false) l).getD k [] = [cB (cAt l k).live, cI (cAt l k).num] := by rw [List.getD, cell_q false h]; rfl
  rw [h2, ← rows_set]; rfl
theorem cell_set1 {l : List CellD} {k : Nat} (n : Int) (h : k < l.length) : setCellAt (rows (cellC false) l) k 1 (.sc (.int .i64 n)) = rows (cellC false) (l.set k ⟨(cAt l k).live, n⟩) := by
  unfold setCellAt
  have h2 : (rows (cellC false) l).getD k [] = [cB (cAt l k).live, cI (cAt l k).num] := by rw [List.getD, cell_q false h]; rfl
  rw [h2, ← rows_set]; rfl
theorem cells_any (l : List CellD) (k : Nat) : (∃ b n, (rows (cellC false) l)[k]? = some [cB b, cI n]) ∨ (rows (cellC false) l)[k]? = none := by
  by_cases h : k < l.length
  · exact Or.inl ⟨_, _, cell_q false h⟩
  · exact Or.inr (List.getElem?_eq_none (by rw [rows_length]; omega))
theorem inMem_true {m : MemoryD} {k : Int} (h : inMem m k = true) : ∃ n : Nat, k = n ∧ n < m.cells.length := by
  unfold inMem inJ at h
  simp only [Bool.and_eq_true, decide_eq_true_eq] at h
  exact ⟨k.toNat, by omega, by omega⟩
end Go.Proofs.Ytldniggehdpheaa.AW
