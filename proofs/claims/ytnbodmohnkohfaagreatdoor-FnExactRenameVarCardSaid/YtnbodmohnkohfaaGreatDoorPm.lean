/- The nodes of a function, both sides; where a function stands. No condition beyond those named. -/
import Derived.Test.YtnbodmohnkohfaaGreatDoorPj
namespace Go.Proofs.YtnbodmohnkohfaaGreatDoor.AW
open Go.RowKit
set_option maxHeartbeats 8000000
set_option maxRecDepth 100000
set_option linter.unusedSimpArgs false
set_option linter.unusedVariables false

def fd0 : FnD := ⟨⟨#[]⟩, [], 0, 0, 0⟩
def fAt (fns : List FnD) (j : Int) : FnD := fns.getD j.toNat fd0
theorem fAt_nat {fns : List FnD} {n : Nat} (h : n < fns.length) : fAt fns (n : Int) = fns[n] := by simp [fAt, List.getD, h]

/-- The place of the first function of this name. -/
def findN (s : ByteArray) : List FnD → Nat → Int
  | [], _ => -1
  | f :: r, i => if f.name = s then (i : Int) else findN s r (i + 1)
def fnAtP (fns : List FnD) (s : ByteArray) : Int := findN s fns 0
theorem findN_range (s : ByteArray) : ∀ (l : List FnD) (i : Nat), findN s l i = -1 ∨ ((i : Int) ≤ findN s l i ∧ findN s l i < (i + l.length : Nat))
  | [], i => Or.inl rfl
  | f :: r, i => by
    unfold findN
    by_cases h : f.name = s
    · rw [if_pos h]; right; simp; omega
    · rw [if_neg h]
      rcases findN_range s r (i + 1) with h1 | h1
      · exact Or.inl h1
      · right; simp only [List.length_cons]; omega

theorem fnAtI_sound (p : ProgramD) (s : ByteArray) (hf : p.fns.length ≤ 1048576) : Sound Tryz.prog 52 [.ro (programW p), .ro (.sc (.string s))] (fun rs st => rs = [(false, [cI (fnAtP p.fns s)])]) := by
  refine sound_tri (fn := Tryz.f52) (c := Tryz.f52.body.getD .skip) (res := [.tm 4]) (n := 21) sized (by kernel_rfl) (by rfl) (by kernel_rfl) (by rfl) (by rfl) (by simp [argsV]) (fun uf ub C hpin hpin2 hfull => ?_)
  simp only [Tryz.f52, Option.getD_some]
  refine Tri.step sized ?_
  simp (decide := true) only [programW, programC, drop0, row1_length, rows_length, cI, cB, cS, roI, ro64, hpin, go_sem, Nat.reduceAdd, Nat.reduceMul]
  refine Tri.ent ?_ (Ent.frb hfull 2)
  refine Tri.step sized ?_
  simp (decide := true) only [programW, programC, drop0, row1_length, rows_length, cI, cB, cS, roI, ro64, hpin, go_sem, Nat.reduceAdd, Nat.reduceMul]
  refine Tri.loop (ι := Nat) (fun i => i ≤ p.fns.length ∧ fnAtP p.fns s = findN s (p.fns.drop i) i) (fun i => ⟨21, [(1, vS s), (8, .imm 80 (rows (fnC true) p.fns)), (9, vI p.fns.length), (10, vI i)], []⟩) (fun i => p.fns.length - i) 0 ⟨by simp, rfl⟩ ?_ ?_
  · refine Ent.weak ?_ ?_ ?_ ?_ <;> simp (decide := true) [subT, subB, hereT, hereV, hereL, St.get, look, vI, vB, vS, cI, cS, cB, nodeC, roI]
  · rintro i ⟨hi, hq⟩
    refine code_sound sized _ ?_
    by_cases h' : i < p.fns.length
    · have e : ((i : Int) < (p.fns.length : Int)) = True := by simp [h']
      rw [List.drop_eq_getElem_cons h', findN] at hq
      simp (decide := true) only [e, h', rows_get _ _ h', fnC, Int.natCast_nonneg, vB, vI, vS, drop0, row1_length, rows_length, cI, cB, cS, roI, ro64, hpin, go_sem, Nat.reduceAdd, Nat.reduceMul]
      by_cases hs : p.fns[i].name = s
      · have h1 : decide (p.fns[i].name = s) = true := decide_eq_true hs
        rw [if_pos hs] at hq
        simp (decide := true) only [h1, hq, drop0, row1_length, rows_length, cI, cB, cS, roI, ro64, hpin, go_sem, Nat.reduceAdd, Nat.reduceMul]
      · have h1 : decide (p.fns[i].name = s) = false := decide_eq_false hs
        rw [if_neg hs] at hq
        simp (decide := true) only [h1, drop0, row1_length, rows_length, cI, cB, cS, roI, ro64, hpin, go_sem, Nat.reduceAdd, Nat.reduceMul]
        refine ⟨i + 1, ⟨h', hq⟩, by omega, Ent.weak ?_ ?_ ?_ ?_⟩
        all_goals simp (decide := true) [subT, subB, hereT, hereV, hereL, St.get, look, vI, vB, vS, cI, cS, cB, nodeC, roI, w64s (n := p.fns.length) h' (by omega)]
    · have hil : i = p.fns.length := by omega
      subst hil
      have e : ((p.fns.length : Int) < (p.fns.length : Int)) = False := by simp
      rw [List.drop_length] at hq
      have hq2 : fnAtP p.fns s = -1 := hq
      simp (decide := true) only [e, hq2, vB, vI, drop0, row1_length, rows_length, cI, cB, cS, roI, ro64, hpin, go_sem, Nat.reduceAdd, Nat.reduceMul]
      refine code_sound sized _ ?_
      simp (decide := true) only [hq2, drop0, row1_length, rows_length, cI, cB, cS, roI, ro64, hpin, go_sem, Nat.reduceAdd, Nat.reduceMul]
theorem fnAtS_sound (p : ProgramD) (s : ByteArray) (hf : p.fns.length ≤ 1048576) : Sound Tryz.prog 48 [.ro (programW p), .ro (.sc (.string s))] (fun rs st => rs = [(false, [cI (fnAtP p.fns s)])]) := by
  refine sound_tri (fn := Tryz.f48) (c := Tryz.f48.body.getD .skip) (res := [.tm 4]) (n := 22) sized (by kernel_rfl) (by rfl) (by kernel_rfl) (by rfl) (by rfl) (by simp [argsV]) (fun uf ub C hpin hpin2 hfull => ?_)
  simp only [Tryz.f48, Option.getD_some]
  refine Tri.step sized ?_
  simp (decide := true) only [programW, programC, drop0, row1_length, rows_length, cI, cB, cS, roI, ro64, hpin, go_sem, Nat.reduceAdd, Nat.reduceMul]
  refine Tri.ent ?_ (Ent.frb hfull 2)
  refine Tri.step sized ?_
  simp (decide := true) only [programW, programC, drop0, row1_length, rows_length, cI, cB, cS, roI, ro64, hpin, go_sem, Nat.reduceAdd, Nat.reduceMul]
  refine Tri.loop (ι := Nat) (fun i => i ≤ p.fns.length ∧ fnAtP p.fns s = findN s (p.fns.drop i) i) (fun i => ⟨22, [(1, vS s), (2, .ip (programC true p) 0), (5, vI i)], []⟩) (fun i => p.fns.length - i) 0 ⟨by simp, rfl⟩ ?_ ?_
  · refine Ent.weak ?_ ?_ ?_ ?_ <;> simp (decide := true) [subT, subB, hereT, hereV, hereL, St.get, look, vI, vB, vS, cI, cS, cB, nodeC, roI, programC]
  · rintro i ⟨hi, hq⟩
    refine code_sound sized _ ?_
    by_cases h' : i < p.fns.length
    · have e : ((i : Int) < (p.fns.length : Int)) = True := by simp [h']
      rw [List.drop_eq_getElem_cons h', findN] at hq
      simp (decide := true) only [e, h', rows_get _ _ h', fnC, programC, Int.natCast_nonneg, vB, vI, vS, drop0, row1_length, rows_length, cI, cB, cS, roI, ro64, hpin, go_sem, Nat.reduceAdd, Nat.reduceMul]
      by_cases hs : p.fns[i].name = s
      · have h1 : decide (p.fns[i].name = s) = true := decide_eq_true hs
        rw [if_pos hs] at hq
        simp (decide := true) only [h1, hq, drop0, row1_length, rows_length, cI, cB, cS, roI, ro64, hpin, go_sem, Nat.reduceAdd, Nat.reduceMul]
      · have h1 : decide (p.fns[i].name = s) = false := decide_eq_false hs
        rw [if_neg hs] at hq
        simp (decide := true) only [h1, drop0, row1_length, rows_length, cI, cB, cS, roI, ro64, hpin, go_sem, Nat.reduceAdd, Nat.reduceMul]
        refine ⟨i + 1, ⟨h', hq⟩, by omega, Ent.weak ?_ ?_ ?_ ?_⟩
        all_goals simp (decide := true) [subT, subB, hereT, hereV, hereL, St.get, look, vI, vB, vS, cI, cS, cB, nodeC, roI, programC, w64s (n := p.fns.length) h' (by omega)]
    · have hil : i = p.fns.length := by omega
      subst hil
      have e : ((p.fns.length : Int) < (p.fns.length : Int)) = False := by simp
      rw [List.drop_length] at hq
      have hq2 : fnAtP p.fns s = -1 := hq
      simp (decide := true) only [e, hq2, programC, vB, vI, drop0, row1_length, rows_length, cI, cB, cS, roI, ro64, hpin, go_sem, Nat.reduceAdd, Nat.reduceMul]
      refine code_sound sized _ ?_
      simp (decide := true) only [hq2, drop0, row1_length, rows_length, cI, cB, cS, roI, ro64, hpin, go_sem, Nat.reduceAdd, Nat.reduceMul]
/-- A function's Body and Ret, those that there are. -/
def rootsL (p : ProgramD) (fn : Int) : List Int := if inI fn 0 (p.fns.length - 1) then (fAt p.fns fn).body :: (if (fAt p.fns fn).ret == -1 then [] else [(fAt p.fns fn).ret]) else []
theorem rootsL_length (p : ProgramD) (fn : Int) : (rootsL p fn).length ≤ 2 := by
  unfold rootsL
  split
  · split <;> simp
  · simp
/-- Whether a node stands in a function. -/
def inFn (p : ProgramD) (fn : Int) (m : Nat) : Prop := ∃ k ∈ rootsL p fn, (m : Int) ∈ underP p.nodes k
noncomputable def fnNs (p : ProgramD) (fn : Int) : List Int := ints (pick (inFn p fn) p.nodes.length)
theorem underP_lt {nodes : List NodeD} {k : Int} {m : Nat} (h : (m : Int) ∈ underP nodes k) : m < nodes.length := by
  have := (underP_mem h).2.1
  simpa using this
theorem fnNs_mem (p : ProgramD) (fn : Int) (x : Int) : x ∈ fnNs p fn ↔ ∃ k ∈ rootsL p fn, x ∈ underP p.nodes k := by
  unfold fnNs
  rw [ints_memI, pick_mem]
  constructor
  · rintro ⟨h0, _, k, hk, h⟩
    exact ⟨k, hk, by rw [show x = (x.toNat : Int) by omega]; exact h⟩
  · rintro ⟨k, hk, h⟩
    have h1 := underP_mem h
    exact ⟨h1.1, h1.2.1, k, hk, by rw [show ((x.toNat : Nat) : Int) = x by omega]; exact h⟩
theorem underP_rising (nodes : List NodeD) (k : Int) : (underP nodes k).Pairwise (· < ·) := by
  unfold underP
  split
  · exact List.Pairwise.nil
  · exact underL_rising _ _
theorem fnNs_length (p : ProgramD) (fn : Int) : (fnNs p fn).length ≤ p.nodes.length := by
  unfold fnNs; rw [ints_length]; exact pick_length _ _

theorem roots_sound (p : ProgramD) (fn : Int) (hf : p.fns.length ≤ 1048576) : Sound Tryz.prog 149 [.ro (programW p), .ro (.sc (.int .i64 fn))] (fun rs st => rs = [(false, [.row false 3 (row1 cI (rootsL p fn))])]) := by
  refine sound_tri (fn := Tryz.f149) (c := Tryz.f149.body.getD .skip) (res := [.tm 4]) (n := 37) sized (by kernel_rfl) (by rfl) (by kernel_rfl) (by rfl) (by rfl) (by simp [argsV]) (fun uf ub C hpin hpin2 hfull => ?_)
  simp only [Tryz.f149, Option.getD_some]
  have w1 : IntKind.i64.wrap ((p.fns.length : Int) - 1) = (p.fns.length : Int) - 1 := w64 (by omega) (by omega)
  have e0 : row1 cI ([] : List Int) = [] := rfl
  refine Tri.step sized ?_
  simp (decide := true) only [programW, programC, drop0, row1_length, rows_length, cI, cB, cS, roI, ro64, hpin, go_sem, Nat.reduceAdd, Nat.reduceMul]
  refine Tri.ent ?_ (Ent.frb hfull 2)
  refine Tri.step sized ?_
  simp (decide := true) only [w1, programW, programC, drop0, row1_length, rows_length, cI, cB, cS, roI, ro64, hpin, go_sem, Nat.reduceAdd, Nat.reduceMul]
  refine aCall_det (in' fn 0 (p.fns.length - 1)) hpin ?_
  unfold rootsL
  cases h0 : inI fn 0 (p.fns.length - 1) with
  | false => simp (decide := true) only [e0, drop0, row1_length, rows_length, cI, cB, cS, roI, ro64, hpin, go_sem, Nat.reduceAdd, Nat.reduceMul]
  | true =>
  have hr := inI_true h0
  obtain ⟨f, rfl⟩ : ∃ f : Nat, fn = f := ⟨fn.toNat, by omega⟩
  have hfl : f < p.fns.length := by omega
  have c1 : ((f : Int) < (p.fns.length : Int)) = True := eq_true (by omega)
  rw [fAt_nat hfl]
  cases h1 : p.fns[f].ret == -1 with
  | true =>
    simp (decide := true) only [h1, row1, drop0, row1_length, rows_length, cI, cB, cS, roI, ro64, hpin, go_sem, Nat.reduceAdd, Nat.reduceMul]
    refine Tri.step sized ?_
    simp (decide := true) only [c1, rows_get _ _ hfl, fnC, programW, programC, Int.natCast_nonneg, drop0, row1_length, rows_length, cI, cB, cS, roI, ro64, hpin, go_sem, Nat.reduceAdd, Nat.reduceMul]
    refine Tri.step sized ?_
    simp (decide := true) only [c1, h1, rows_get _ _ hfl, fnC, bne, programW, programC, Int.natCast_nonneg, drop0, row1_length, rows_length, cI, cB, cS, roI, ro64, hpin, go_sem, Nat.reduceAdd, Nat.reduceMul]
    refine code_sound sized _ ?_
    simp (decide := true) only [row1, drop0, row1_length, rows_length, cI, cB, cS, roI, ro64, hpin, go_sem, Nat.reduceAdd, Nat.reduceMul]
  | false =>
    simp (decide := true) only [h1, row1, drop0, row1_length, rows_length, cI, cB, cS, roI, ro64, hpin, go_sem, Nat.reduceAdd, Nat.reduceMul]
    refine Tri.step sized ?_
    simp (decide := true) only [c1, rows_get _ _ hfl, fnC, programW, programC, Int.natCast_nonneg, drop0, row1_length, rows_length, cI, cB, cS, roI, ro64, hpin, go_sem, Nat.reduceAdd, Nat.reduceMul]
    refine Tri.step sized ?_
    simp (decide := true) only [c1, h1, rows_get _ _ hfl, fnC, bne, programW, programC, Int.natCast_nonneg, drop0, row1_length, rows_length, cI, cB, cS, roI, ro64, hpin, go_sem, Nat.reduceAdd, Nat.reduceMul]
    refine code_sound sized _ ?_
    simp (decide := true) only [row1, drop0, row1_length, rows_length, cI, cB, cS, roI, ro64, hpin, go_sem, Nat.reduceAdd, Nat.reduceMul]

theorem fnNodes_sound (p : ProgramD) (fn : Int) (hf : p.fns.length ≤ 1048576) (hn : p.nodes.length ≤ 1048576) (hk : ∀ x ∈ p.nodes, x.kids.length ≤ 1048576) : Sound Tryz.prog 106 [.ro (programW p), .ro (.sc (.int .i64 fn))] (fun rs st => rs = [(false, [.row false 3 (row1 cI (fnNs p fn))])]) := by
  refine sound_tri (fn := Tryz.f106) (c := Tryz.f106.body.getD .skip) (res := [.tm 4]) (n := 39) sized (by kernel_rfl) (by rfl) (by kernel_rfl) (by rfl) (by rfl) (by simp [argsV]) (fun uf ub C hpin hpin2 hfull => ?_)
  simp only [Tryz.f106, Option.getD_some]
  refine Tri.step sized ?_
  simp (decide := true) only [programW, programC, drop0, row1_length, rows_length, cI, cB, cS, roI, ro64, hpin, go_sem, Nat.reduceAdd, Nat.reduceMul]
  refine Tri.ent ?_ (Ent.frb hfull 2)
  refine Tri.step sized ?_
  simp (decide := true) only [programW, programC, drop0, row1_length, rows_length, cI, cB, cS, roI, ro64, hpin, go_sem, Nat.reduceAdd, Nat.reduceMul]
  refine Tri.step sized ?_
  simp (decide := true) only [programW, programC, drop0, row1_length, rows_length, cI, cB, cS, roI, ro64, hpin, go_sem, Nat.reduceAdd, Nat.reduceMul]
  refine aCall_det (roots_sound p fn hf) hpin ?_
  simp (decide := true) only [programW, programC, drop0, row1_length, rows_length, cI, cB, cS, roI, ro64, hpin, go_sem, Nat.reduceAdd, Nat.reduceMul]
  have hrl := rootsL_length p fn
  have hmem := fnNs_mem p fn
  have hris : (fnNs p fn).Pairwise (· < ·) := pick_rising _ _
  generalize rootsL p fn = R at hrl hmem ⊢
  generalize fnNs p fn = Z at hmem hris ⊢
  refine Tri.loop (ι := Nat × List Nat) (fun q => q.1 ≤ R.length ∧ q.2.Nodup ∧ ∀ m, m ∈ q.2 ↔ ∃ a, ∃ (ha : a < R.length), a < q.1 ∧ (m : Int) ∈ underP p.nodes R[a]) (fun q => ⟨39, [(2, .ip (programC true p) 0), (5, .ref 5 [] q.2.length), (12, .ref 3012 [] R.length), (13, vI R.length), (14, vI q.1)], [(3012, .row 3 (row1 cI R)), (5, .row 3 (row1 cI (ints q.2)))]⟩) (fun q => R.length - q.1) (0, []) ⟨by simp, by simp, fun m => ⟨fun h => by simp at h, fun ⟨a, ha, h0, _⟩ => by omega⟩⟩ ?_ ?_
  · refine Ent.weak ?_ ?_ ?_ ?_ <;> simp (decide := true) [subT, subB, hereT, hereV, hereL, St.get, look, vI, vB, vS, cI, cS, cB, nodeC, roI, programC, ints, row1]
  · rintro ⟨i, l⟩ ⟨hi, hnd, hq⟩
    simp only at hi hnd hq ⊢
    have hll : l.length ≤ p.nodes.length := nodup_lt hnd (fun x hx => by
      obtain ⟨a, ha, _, h⟩ := (hq x).1 hx
      exact underP_lt h)
    refine code_sound sized _ ?_
    by_cases h' : i < R.length
    · have e : ((i : Int) < (R.length : Int)) = True := by simp [h']
      simp (decide := true) only [e, h', row1_getq' _ _ h', programC, Int.natCast_nonneg, vB, vI, drop0, row1_length, rows_length, cI, cB, cS, roI, ro64, hpin, go_sem, Nat.reduceAdd, Nat.reduceMul]
      refine aCall_det (underI_sound p R[i] hn hk) hpin ?_
      simp (decide := true) only [programW, programC, drop0, row1_length, rows_length, cI, cB, cS, roI, ro64, hpin, go_sem, Nat.reduceAdd, Nat.reduceMul]
      have hul := underP_length p.nodes R[i]
      have hum : ∀ b (hb : b < (underP p.nodes R[i]).length), 0 ≤ (underP p.nodes R[i])[b] := fun b hb => (underP_mem (List.getElem_mem hb)).1
      have hulm : ∀ m : Nat, (m : Int) ∈ underP p.nodes R[i] → m < p.nodes.length := fun m h => underP_lt h
      have hnext : ∀ L : List Nat, (∀ m, m ∈ L ↔ (∃ a, ∃ (ha : a < R.length), a < i ∧ (m : Int) ∈ underP p.nodes R[a]) ∨ (m : Int) ∈ underP p.nodes R[i]) → ∀ m, m ∈ L ↔ ∃ a, ∃ (ha : a < R.length), a < i + 1 ∧ (m : Int) ∈ underP p.nodes R[a] := fun L hL m => by
        rw [hL m]
        constructor
        · rintro (⟨a, ha, h1, h2⟩ | h)
          · exact ⟨a, ha, by omega, h2⟩
          · exact ⟨i, h', by omega, h⟩
        · rintro ⟨a, ha, h1, h2⟩
          by_cases ea : a = i
          · subst ea; exact Or.inr h2
          · exact Or.inl ⟨a, ha, by omega, h2⟩
      generalize underP p.nodes R[i] = U at hul hum hulm hnext ⊢
      refine Tri.loop (ι := Nat × List Nat) (fun q => q.1 ≤ U.length ∧ q.2.Nodup ∧ ∀ m, m ∈ q.2 ↔ (∃ a, ∃ (ha : a < R.length), a < i ∧ (m : Int) ∈ underP p.nodes R[a]) ∨ (m : Int) ∈ U.take q.1) (fun q => ⟨39, [(2, .ip (programC true p) 0), (5, .ref 5 [] q.2.length), (12, .ref 3012 [] R.length), (13, vI R.length), (14, vI i), (20, .ref 3020 [] U.length), (21, vI U.length), (22, vI q.1)], [(3020, .row 3 (row1 cI U)), (3012, .row 3 (row1 cI R)), (5, .row 3 (row1 cI (ints q.2)))]⟩) (fun q => U.length - q.1) (0, l) ⟨by simp, hnd, fun m => by rw [hq m]; simp⟩ ?_ ?_
      · refine Ent.weak ?_ ?_ ?_ ?_ <;> simp (decide := true) [subT, subB, hereT, hereV, hereL, St.get, look, vI, vB, vS, cI, cS, cB, nodeC, roI, programC]
      · rintro ⟨j, L⟩ ⟨hj, hLn, hL⟩
        simp only at hj hLn hL ⊢
        have hLl : L.length ≤ p.nodes.length := nodup_lt hLn (fun x hx => by
          rcases (hL x).1 hx with ⟨a, ha, _, h⟩ | h
          · exact underP_lt h
          · exact hulm x (List.mem_of_mem_take h))
        refine code_sound sized _ ?_
        by_cases hj' : j < U.length
        · have e2 : ((j : Int) < (U.length : Int)) = True := by simp [hj']
          have q0 := hum j hj'
          have hcast : ((U[j].toNat : Nat) : Int) = U[j] := by omega
          have htk : ∀ m : Nat, (m : Int) ∈ U.take (j + 1) ↔ (m : Int) ∈ U.take j ∨ m = U[j].toNat := fun m => by
            rw [List.take_succ_eq_append_getElem hj', List.mem_append, List.mem_singleton]
            constructor
            · rintro (h | h)
              · exact Or.inl h
              · right; omega
            · rintro (h | h)
              · exact Or.inl h
              · right; omega
          simp (decide := true) only [e2, hj', row1_getq' _ _ hj', ints_length, programC, Int.natCast_nonneg, vB, vI, drop0, row1_length, rows_length, cI, cB, cS, roI, ro64, hpin, go_sem, Nat.reduceAdd, Nat.reduceMul]
          refine aCall_det (hasInt_sound (ints L) U[j] (by rw [ints_length]; omega)) hpin ?_
          simp (decide := true) only [ints_length, ints_take, drop0, row1_length, rows_length, cI, cB, cS, roI, ro64, hpin, go_sem, Nat.reduceAdd, Nat.reduceMul]
          rw [ints_has q0]
          cases hc : L.contains U[j].toNat with
          | true =>
            have hmm : U[j].toNat ∈ L := by simpa using hc
            simp (decide := true) only [hc, drop0, row1_length, rows_length, cI, cB, cS, roI, ro64, hpin, go_sem, Nat.reduceAdd, Nat.reduceMul]
            refine ⟨(j + 1, L), ⟨hj', hLn, fun m => ?_⟩, by simp only; omega, Ent.weak ?_ ?_ ?_ ?_⟩
            · rw [hL m, htk m]
              constructor
              · rintro (h | h)
                · exact Or.inl h
                · exact Or.inr (Or.inl h)
              · rintro (h | h | h)
                · exact Or.inl h
                · exact Or.inr h
                · subst h; exact (hL _).1 hmm
            all_goals simp (decide := true) [subT, subB, hereT, hereV, hereL, St.get, look, vI, vB, vS, cI, cS, cB, nodeC, roI, programC, w64s (n := U.length) hj' (by omega)]
          | false =>
            have hnm : U[j].toNat ∉ L := by simpa using hc
            have hb1 : L.length + 1 ≤ 140737488355328 := by omega
            have hb2 : (L.length + 1) * 8 ≤ 140737488355328 := by omega
            have hsn := ints_snoc L q0
            simp (decide := true) only [hc, ints_length, hb1, hb2, drop0, row1_length, rows_length, cI, cB, cS, roI, ro64, hpin, go_sem, Nat.reduceAdd, Nat.reduceMul]
            refine ⟨(j + 1, L ++ [U[j].toNat]), ⟨hj', ?_, fun m => ?_⟩, by simp only; omega, Ent.weak ?_ ?_ ?_ ?_⟩
            · rw [List.nodup_append]
              exact ⟨hLn, by simp, fun a ha b hb => by simp at hb; subst hb; exact fun e => hnm (e ▸ ha)⟩
            · rw [List.mem_append, List.mem_singleton, hL m, htk m, or_assoc]
            all_goals simp (decide := true) [subT, subB, hereT, hereV, hereL, St.get, look, vI, vB, vS, cI, cS, cB, nodeC, roI, programC, w64s (n := U.length) hj' (by omega), ← hsn, row1, ints, Int.max_eq_left q0]
        · have hjl : j = U.length := by omega
          subst hjl
          have e2 : ((U.length : Int) < (U.length : Int)) = False := by simp
          rw [List.take_length] at hL
          simp (decide := true) only [e2, vB, vI, drop0, row1_length, rows_length, cI, cB, cS, roI, ro64, hpin, go_sem, Nat.reduceAdd, Nat.reduceMul]
          refine ⟨(i + 1, L), ⟨h', hLn, hnext L hL⟩, by simp only; omega, Ent.weak ?_ ?_ ?_ ?_⟩
          all_goals simp (decide := true) [subT, subB, hereT, hereV, hereL, St.get, look, vI, vB, vS, cI, cS, cB, nodeC, roI, programC, w64s (n := R.length) h' (by omega)]
    · have hil : i = R.length := by omega
      subst hil
      have e : ((R.length : Int) < (R.length : Int)) = False := by simp
      have hs : sorted (ints l) = Z := by
        refine sorted_eq ?_ hris (fun z => ?_)
        · unfold ints
          exact List.Pairwise.map _ (fun a b hab h => hab (by omega)) hnd
        · rw [ints_memI, hmem z]
          constructor
          · rintro ⟨h0, h⟩
            obtain ⟨a, ha, _, h2⟩ := (hq _).1 h
            exact ⟨R[a], List.getElem_mem ha, by rw [show ((z.toNat : Nat) : Int) = z by omega] at h2; exact h2⟩
          · rintro ⟨k, hkk, h⟩
            obtain ⟨a, ha, rfl⟩ := List.getElem_of_mem hkk
            have h0 := (underP_mem h).1
            exact ⟨h0, (hq _).2 ⟨a, ha, ha, by rw [show ((z.toNat : Nat) : Int) = z by omega]; exact h⟩⟩
      have hzl : Z.length = l.length := by rw [← hs, sorted_length, ints_length]
      simp (decide := true) only [e, vB, vI, drop0, row1_length, rows_length, cI, cB, cS, roI, ro64, hpin, go_sem, Nat.reduceAdd, Nat.reduceMul]
      refine Tri.step sized ?_
      simp (decide := true) only [ints_length, drop0, row1_length, rows_length, cI, cB, cS, roI, ro64, hpin, go_sem, Nat.reduceAdd, Nat.reduceMul]
      refine aCall_iod (sortInts_sound (ints l) (by rw [ints_length]; omega)) hpin [(2000, 5)] ⟨rfl, rfl, rfl⟩ (fun uf => ⟨rfl, rfl⟩) (fun uf => ?_) ?_
      · simp (decide := true) only [ints_length, drop0, row1_length, rows_length, cI, cB, cS, roI, ro64, go_sem, Nat.reduceAdd, Nat.reduceMul]
      simp (decide := true) only [ints_length, sorted_length, hs, hzl, drop0, row1_length, rows_length, cI, cB, cS, roI, ro64, hpin, go_sem, Nat.reduceAdd, Nat.reduceMul]
      refine code_sound sized _ ?_
      simp (decide := true) only [ints_length, hzl, drop0, row1_length, rows_length, cI, cB, cS, roI, ro64, hpin, go_sem, Nat.reduceAdd, Nat.reduceMul]
end Go.Proofs.YtnbodmohnkohfaaGreatDoor.AW
