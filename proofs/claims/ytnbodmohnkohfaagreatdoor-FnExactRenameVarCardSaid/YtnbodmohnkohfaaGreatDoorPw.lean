/- Whether all names that a node uses are in sight, as the program tells it. No condition beyond those named. -/
import Derived.Test.YtnbodmohnkohfaaGreatDoorPv
namespace Go.Proofs.YtnbodmohnkohfaaGreatDoor.AW
open Go.RowKit
set_option maxHeartbeats 8000000
set_option maxRecDepth 100000
set_option linter.unusedSimpArgs false
set_option linter.unusedVariables false

def callB (p : ProgramD) (fn : Int) (x : NodeD) : Bool := inI (fnAtP p.fns x.name) 0 (fn - 1) && ((fAt p.fns (fnAtP p.fns x.name)).params.length : Int) == (x.kids.length : Int)
def ownB (p : ProgramD) (fn : Int) (nm : List ByteArray) (x : NodeD) : Bool := (!usesB x.kind || anyEq nm x.name) && (!(x.kind == 12) || callB p fn x)
def growN (nodes : List NodeD) (blk : Bool) (nm : List ByteArray) (kid : Int) : List ByteArray := if blk && (nAt nodes kid).kind == 13 then nm ++ [(nAt nodes kid).name] else nm
def kidsF (S : Int → List ByteArray → Bool) (nodes : List NodeD) (blk : Bool) : List ByteArray → List Int → Bool
  | _, [] => true
  | nm, kid :: r => S kid nm && kidsF S nodes blk (growN nodes blk nm kid) r
def seenF (p : ProgramD) (fn : Int) : Nat → Int → List ByteArray → Bool
  | 0, _, _ => true
  | d + 1, k, nm => ownB p fn nm (nAt p.nodes k) && kidsF (seenF p fn d) p.nodes ((nAt p.nodes k).kind == 20) nm (nAt p.nodes k).kids
def seenB (p : ProgramD) (fn : Int) (k : Int) (nm : List ByteArray) : Bool := seenF p fn (k.toNat + 1) k nm
theorem kidsF_congr {S T : Int → List ByteArray → Bool} (nodes : List NodeD) (blk : Bool) : ∀ (l : List Int) (nm : List ByteArray), (∀ kid ∈ l, ∀ nm, S kid nm = T kid nm) → kidsF S nodes blk nm l = kidsF T nodes blk nm l
  | [], _, _ => rfl
  | kid :: r, nm, h => by
    unfold kidsF
    rw [h kid List.mem_cons_self, kidsF_congr nodes blk r _ (fun k hk => h k (List.mem_cons_of_mem _ hk))]
theorem seenF_fuel {p : ProgramD} (hD : Deep p.nodes) (fn : Int) : ∀ (d n : Nat) (nm : List ByteArray), n < p.nodes.length → n < d → seenF p fn d n nm = seenB p fn n nm := by
  intro d
  induction d using Nat.strongRecOn with
  | ind d ih =>
  intro n nm hn hd
  obtain ⟨e, rfl⟩ : ∃ e, d = e + 1 := ⟨d - 1, by omega⟩
  unfold seenB
  have e2 : ((n : Int).toNat + 1) = n + 1 := by omega
  rw [e2]
  unfold seenF
  rw [nAt_nat hn]
  congr 1
  apply kidsF_congr
  intro kid hk nm2
  obtain ⟨q0, q1, q2⟩ := hD.kid hn kid hk
  obtain ⟨m, rfl⟩ : ∃ m : Nat, kid = m := ⟨kid.toNat, by omega⟩
  have h1 := ih e (by omega) m nm2 (by omega) (by omega)
  by_cases hne : n = e
  · subst hne; rfl
  · have h2 := ih n (by omega) m nm2 (by omega) (by omega)
    rw [h1, h2]
theorem seenB_eq {p : ProgramD} (hD : Deep p.nodes) (fn : Int) {n : Nat} (hn : n < p.nodes.length) (nm : List ByteArray) : seenB p fn n nm = (ownB p fn nm p.nodes[n] && kidsF (seenB p fn) p.nodes (p.nodes[n].kind == 20) nm p.nodes[n].kids) := by
  have e2 : ((n : Int).toNat + 1) = n + 1 := by omega
  unfold seenB
  rw [e2]
  conv => lhs; unfold seenF
  rw [nAt_nat hn]
  congr 1
  apply kidsF_congr
  intro kid hk nm2
  obtain ⟨q0, q1, q2⟩ := hD.kid hn kid hk
  obtain ⟨m, rfl⟩ : ∃ m : Nat, kid = m := ⟨kid.toNat, by omega⟩
  exact seenF_fuel hD fn n m nm2 (by omega) (by omega)
theorem growN_length (nodes : List NodeD) (blk : Bool) (nm : List ByteArray) (kid : Int) : (growN nodes blk nm kid).length ≤ nm.length + 1 := by
  unfold growN; split <;> simp
theorem strs_snoc (l : List ByteArray) (s : ByteArray) : row1 cS l ++ [[cS s]] = row1 cS (l ++ [s]) := by simp [row1]

theorem strs_free (l : List ByteArray) : (row1 cS l).all (fun x => x.all freeD) = true := by simp [row1, cS, freeD]
theorem fns_any (fns : List FnD) (j : Nat) : (∃ x, (rows (fnC true) fns).getD j [] = fnC true x) ∨ (rows (fnC true) fns).getD j [] = [] := by
  by_cases h : j < fns.length
  · exact Or.inl ⟨fns[j], rows_get _ _ h⟩
  · right
    simp [List.getD, List.getElem?_eq_none (show (rows (fnC true) fns).length ≤ j by rw [rows_length]; omega)]

theorem seen_sound (p : ProgramD) (hD : Deep p.nodes) (f : Nat) (hfl : f < p.fns.length) (hf : p.fns.length ≤ 1048576) (hn : p.nodes.length ≤ 1048576) (hk : ∀ x ∈ p.nodes, x.kids.length ≤ 300) (n : Nat) : n < p.nodes.length → ∀ nm : List ByteArray, nm.length + 300 * n ≤ 4194304 →
    Sound Tryz.prog 137 [.ro (programW p), .ro (.sc (.int .i64 f)), .ro (.sc (.int .i64 n)), .ro (.imm 9 (row1 cS nm))] (fun rs st => rs = [(false, [cB (seenB p f n nm)])]) := by
  induction n using Nat.strongRecOn with
  | ind n ih =>
  intro hnl nm hnm
  have hkid := hD.kid hnl
  have hkx := hk p.nodes[n] (List.getElem_mem hnl)
  have hrec : ∀ kid ∈ p.nodes[n].kids, ∀ L : List ByteArray, L.length + 300 * kid.toNat ≤ 4194304 → Sound Tryz.prog 137 [.ro (programW p), .ro (.sc (.int .i64 f)), .ro (.sc (.int .i64 kid)), .ro (.imm 9 (row1 cS L))] (fun rs st => rs = [(false, [cB (seenB p f kid L)])]) := fun kid hkk L hL => by
    obtain ⟨q0, q1, q2⟩ := hkid kid hkk
    have e : kid = (kid.toNat : Int) := by omega
    have := ih kid.toNat q2 (by omega) L hL
    rw [← e] at this
    exact this
  have heq := seenB_eq hD f hnl nm
  have hx : (rows (nodeC true) p.nodes).getD n [] = nodeC true p.nodes[n] := rows_get _ _ hnl
  generalize seenB p f n nm = R at heq ⊢
  generalize p.nodes[n] = x at hkid hkx hrec heq hx
  have hc1 : ((n : Int) < (p.nodes.length : Int)) = True := eq_true (by omega)
  have wf : IntKind.i64.wrap ((f : Int) - 1) = (f : Int) - 1 := w64 (by omega) (by omega)
  have hha := hasText_sound nm x.name (by omega)
  have hfa := fnAtI_sound p x.name hf
  simp only [programW] at hfa hrec
  unfold ownB at heq
  refine sound_tri (fn := Tryz.f137) (c := Tryz.f137.body.getD .skip) (res := [.tm 8]) (n := 91) sized (by kernel_rfl) (by rfl) (by kernel_rfl) (by rfl) (by rfl) (by simp [argsV]) (fun uf ub C hpin hpin2 hfull => ?_)
  simp only [Tryz.f137, Option.getD_some]
  refine Tri.step sized ?_
  simp (decide := true) only [drop0, row1_length, rows_length, programW, programC, cI, cB, cS, roI, ro64, hpin, go_sem, Nat.reduceAdd, Nat.reduceMul]
  refine Tri.ent ?_ (Ent.frb hfull 4)
  refine Tri.step sized ?_
  simp (decide := true) only [hc1, hx, nodeC, Int.natCast_nonneg, drop0, row1_length, rows_length, programW, programC, cI, cB, cS, roI, ro64, hpin, go_sem, Nat.reduceAdd, Nat.reduceMul]
  refine Tri.ent ?_ (Ent.frb hfull 9)
  cases hu : usesB x.kind && !anyEq nm x.name with
  | true =>
    obtain ⟨hu1, hu2⟩ := Bool.and_eq_true_iff.1 hu
    have hu3 : anyEq nm x.name = false := by simpa using hu2
    have hRf : R = false := by rw [heq, hu1, hu3]; rfl
    refine Tri.step sized ?_
    simp (decide := true) only [drop0, row1_length, rows_length, programW, programC, cI, cB, cS, roI, ro64, hpin, go_sem, Nat.reduceAdd, Nat.reduceMul]
    refine aCall_det (uses_sound x.kind) hpin ?_
    simp (decide := true) only [hu1, drop0, row1_length, rows_length, programW, programC, cI, cB, cS, roI, ro64, hpin, go_sem, Nat.reduceAdd, Nat.reduceMul]
    refine aCall_det hha hpin ?_
    simp (decide := true) only [hu3, hRf, drop0, row1_length, rows_length, programW, programC, cI, cB, cS, roI, ro64, hpin, go_sem, Nat.reduceAdd, Nat.reduceMul]
  | false =>
  have hown : (!usesB x.kind || anyEq nm x.name) = true := by
    cases h1 : usesB x.kind <;> cases h2 : anyEq nm x.name <;> simp [h1, h2] at hu ⊢
  rw [hown, Bool.true_and] at heq
  refine Tri.stop sized ⟨91, [(1, vI f), (3, .imm 9 (row1 cS nm)), (4, .ip (programC true p) 0), (8, vB false), (9, .ip (nodeC true x) 0)], []⟩ ?_ ?_
  · simp (decide := true) only [drop0, row1_length, rows_length, programW, programC, cI, cB, cS, roI, ro64, hpin, go_sem, Nat.reduceAdd, Nat.reduceMul]
    refine aCall_det (uses_sound x.kind) hpin ?_
    cases hu1 : usesB x.kind with
    | false => simp (decide := true) only [drop0, row1_length, rows_length, programW, programC, cI, cB, cS, roI, ro64, hpin, go_sem, Nat.reduceAdd, Nat.reduceMul]; refine Ent.weak ?_ ?_ ?_ ?_ <;> simp (decide := true) [subT, subB, hereT, hereV, hereL, St.get, look, vI, vB, vS, cI, cS, cB, nodeC, roI, programC]
    | true =>
      have hu3 : anyEq nm x.name = true := by simpa [hu1] using hown
      simp (decide := true) only [drop0, row1_length, rows_length, programW, programC, cI, cB, cS, roI, ro64, hpin, go_sem, Nat.reduceAdd, Nat.reduceMul]
      refine aCall_det hha hpin ?_
      simp (decide := true) only [hu3, drop0, row1_length, rows_length, programW, programC, cI, cB, cS, roI, ro64, hpin, go_sem, Nat.reduceAdd, Nat.reduceMul]; refine Ent.weak ?_ ?_ ?_ ?_ <;> simp (decide := true) [subT, subB, hereT, hereV, hereL, St.get, look, vI, vB, vS, cI, cS, cB, nodeC, roI, programC]
  have hcall : ∀ b, callB p f x = b → x.kind == 12 → R = (b && kidsF (seenB p ↑f) p.nodes (x.kind == 20) nm x.kids) := fun b hb h => by rw [heq, hb, h]; rfl
  have hncall : (x.kind == 12) = false → R = kidsF (seenB p ↑f) p.nodes (x.kind == 20) nm x.kids := fun h => by rw [heq, h]; rfl
  have hbr : ((x.kind == 12) = true ∧ callB p f x = false) ∨ ((x.kind == 12) = false ∨ callB p f x = true) := by
    cases x.kind == 12 <;> cases callB p f x <;> simp
  unfold callB at hcall hbr
  rcases hbr with ⟨h12, hcb⟩ | hbr
  · have hRf := hcall _ hcb h12
    rw [Bool.false_and] at hRf
    refine Tri.step sized ?_
    simp (decide := true) only [h12, nodeC, programC, vB, vI, drop0, row1_length, rows_length, programW, programC, cI, cB, cS, roI, ro64, hpin, go_sem, Nat.reduceAdd, Nat.reduceMul]
    refine aCall_det hfa hpin ?_
    generalize fnAtP p.fns x.name = at_ at hcb ⊢
    simp (decide := true) only [programC, drop0, row1_length, rows_length, programW, programC, cI, cB, cS, roI, ro64, hpin, go_sem, Nat.reduceAdd, Nat.reduceMul]
    refine Tri.sched sized [(0, true), (1, false), (2, false), (3, false), (4, false), (5, false), (6, true), (8, true), (13, true), (7, true), (9, true), (10, true), (11, true), (12, true), (14, false), (15, false), (16, false), (17, false)] mixed (by kernel_rfl) (fun C2 hC2 => ?_)
    have hp2 : ∀ o, isPin o = false → C2.pin o = none := by rw [hC2]; exact hpin
    simp (decide := true) only [wf, programC, drop0, row1_length, rows_length, programW, programC, cI, cB, cS, roI, ro64, hp2, go_sem, Nat.reduceAdd, Nat.reduceMul]
    refine aCall_det (in' at_ 0 (f - 1)) hp2 ?_
    cases g0 : inI at_ 0 (f - 1) with
    | false =>
      rcases fns_any p.fns at_.toNat with ⟨y, hy⟩ | hy
      · simp (decide := true) only [hy, hRf, fnC, drop0, row1_length, rows_length, programW, programC, cI, cB, cS, roI, ro64, hp2, hpin, go_sem, Nat.reduceAdd, Nat.reduceMul]
      · simp (decide := true) only [hy, hRf, List.getElem?_nil, Option.map_none, Option.getD_none, drop0, row1_length, rows_length, programW, programC, cI, cB, cS, roI, ro64, hp2, hpin, go_sem, Nat.reduceAdd, Nat.reduceMul]
    | true =>
      have hr := inI_true g0
      rw [g0, Bool.true_and] at hcb
      obtain ⟨m, rfl⟩ : ∃ m : Nat, at_ = m := ⟨at_.toNat, by omega⟩
      have hml : m < p.fns.length := by omega
      have hy : (rows (fnC true) p.fns).getD m [] = fnC true p.fns[m] := rows_get _ _ hml
      have hc2 : ((m : Int) < (p.fns.length : Int)) = True := eq_true (by omega)
      rw [fAt_nat hml] at hcb
      generalize p.fns[m] = y at hy hcb
      simp (decide := true) only [hy, hc2, hcb, hRf, fnC, bne, Int.natCast_nonneg, drop0, row1_length, rows_length, programW, programC, cI, cB, cS, roI, ro64, hp2, hpin, go_sem, Nat.reduceAdd, Nat.reduceMul]
  have heq2 : R = kidsF (seenB p ↑f) p.nodes (x.kind == 20) nm x.kids := by
    cases h12 : x.kind == 12 with
    | false => exact hncall h12
    | true =>
      rcases hbr with h | h
      · rw [h12] at h; cases h
      · have := hcall _ h h12
        rw [this, Bool.true_and]
  refine Tri.stop sized ⟨91, [(1, vI f), (3, .imm 9 (row1 cS nm)), (4, .ip (programC true p) 0), (8, vB false), (9, .ip (nodeC true x) 0)], []⟩ ?_ ?_
  · cases h12 : x.kind == 12 with
    | false => simp (decide := true) only [h12, nodeC, programC, vB, vI, drop0, row1_length, rows_length, programW, programC, cI, cB, cS, roI, ro64, hpin, go_sem, Nat.reduceAdd, Nat.reduceMul]; refine Ent.weak ?_ ?_ ?_ ?_ <;> simp (decide := true) [subT, subB, hereT, hereV, hereL, St.get, look, vI, vB, vS, cI, cS, cB, nodeC, roI, programC]
    | true =>
      have hcb := hbr.resolve_left (by rw [h12]; decide)
      simp (decide := true) only [h12, nodeC, programC, vB, vI, drop0, row1_length, rows_length, programW, programC, cI, cB, cS, roI, ro64, hpin, go_sem, Nat.reduceAdd, Nat.reduceMul]
      refine aCall_det hfa hpin ?_
      generalize fnAtP p.fns x.name = at_ at hcb ⊢
      simp (decide := true) only [programC, drop0, row1_length, rows_length, programW, programC, cI, cB, cS, roI, ro64, hpin, go_sem, Nat.reduceAdd, Nat.reduceMul]
      refine Tri.sched sized [(0, true), (1, false), (2, false), (3, false), (4, false), (5, false), (6, true), (8, true), (13, true), (7, true), (9, true), (10, true), (11, true), (12, true), (14, false), (15, false), (16, false), (17, false)] mixed (by kernel_rfl) (fun C2 hC2 => ?_)
      have hp2 : ∀ o, isPin o = false → C2.pin o = none := by rw [hC2]; exact hpin
      simp (decide := true) only [wf, programC, drop0, row1_length, rows_length, programW, programC, cI, cB, cS, roI, ro64, hp2, go_sem, Nat.reduceAdd, Nat.reduceMul]
      refine aCall_det (in' at_ 0 (f - 1)) hp2 ?_
      obtain ⟨g0, hcb⟩ := Bool.and_eq_true_iff.1 hcb
      have hr := inI_true g0
      rw [g0]
      obtain ⟨m, rfl⟩ : ∃ m : Nat, at_ = m := ⟨at_.toNat, by omega⟩
      have hml : m < p.fns.length := by omega
      have hy : (rows (fnC true) p.fns).getD m [] = fnC true p.fns[m] := rows_get _ _ hml
      have hc2 : ((m : Int) < (p.fns.length : Int)) = True := eq_true (by omega)
      rw [fAt_nat hml] at hcb
      generalize p.fns[m] = y at hy hcb
      simp (decide := true) only [hy, hc2, hcb, fnC, bne, Int.natCast_nonneg, drop0, row1_length, rows_length, programW, programC, cI, cB, cS, roI, ro64, hp2, hpin, go_sem, Nat.reduceAdd, Nat.reduceMul]
      refine Ent.weak ?_ ?_ ?_ ?_ <;> simp (decide := true) [subT, subB, hereT, hereV, hereL, St.get, look, vI, vB, vS, cI, cS, cB, nodeC, roI, programC]
  refine Tri.step sized ?_
  have hfr := strs_free nm
  have hb3 : nm.length ≤ 140737488355328 := by omega
  have hb4 : nm.length * 16 ≤ 140737488355328 := by omega
  simp (decide := true) only [hfr, hb3, hb4, nodeC, programC, vB, vI, drop0, row1_length, rows_length, programW, programC, cI, cB, cS, roI, ro64, hpin, go_sem, Nat.reduceAdd, Nat.reduceMul]
  refine Tri.step sized ?_
  simp (decide := true) only [drop0, row1_length, rows_length, programW, programC, cI, cB, cS, roI, ro64, hpin, go_sem, Nat.reduceAdd, Nat.reduceMul]
  refine Tri.loop (ι := Nat × List ByteArray) (fun q => q.1 ≤ x.kids.length ∧ q.2.length ≤ nm.length + q.1 ∧ R = kidsF (seenB p f) p.nodes (x.kind == 20) q.2 (x.kids.drop q.1)) (fun q => ⟨91, [(1, vI f), (4, .ip (programC true p) 0), (8, vB false), (9, .ip (nodeC true x) 0), (11, .ref 11 [] q.2.length), (57, roI x.kids), (58, vI x.kids.length), (59, vI q.1)], [(11, .row 9 (row1 cS q.2))]⟩) (fun q => x.kids.length - q.1) (0, nm) ⟨by simp, by simp, heq2⟩ ?_ ?_
  · refine Ent.weak ?_ ?_ ?_ ?_ <;> simp (decide := true) [subT, subB, hereT, hereV, hereL, St.get, look, vI, vB, vS, cI, cS, cB, nodeC, roI, programC]
  · rintro ⟨i, L⟩ ⟨hi, hLl, hR⟩
    simp only at hi hLl hR ⊢
    refine code_sound sized _ ?_
    by_cases h' : i < x.kids.length
    · have e : ((i : Int) < (x.kids.length : Int)) = True := by simp [h']
      rw [List.drop_eq_getElem_cons h', kidsF] at hR
      have hmem := List.getElem_mem h'
      obtain ⟨q0, q1, q2⟩ := hkid x.kids[i] hmem
      have hrs := hrec x.kids[i] hmem L (by omega)
      have htk := row1_takeL cS L
      have hkl : x.kids[i].toNat < p.nodes.length := by omega
      have z0 : (0 ≤ x.kids[i]) = True := eq_true q0
      have z1 : (x.kids[i] < (p.nodes.length : Int)) = True := eq_true (by omega)
      have hy : (rows (nodeC true) p.nodes).getD x.kids[i].toNat [] = nodeC true p.nodes[x.kids[i].toNat] := rows_get _ _ hkl
      have hgl := growN_length p.nodes (x.kind == 20) L x.kids[i]
      have hgr : growN p.nodes (x.kind == 20) L x.kids[i] = if (x.kind == 20) && p.nodes[x.kids[i].toNat].kind == 13 then L ++ [p.nodes[x.kids[i].toNat].name] else L := by unfold growN; rw [nAt_get hkl]
      rw [hgr] at hR hgl
      generalize p.nodes[x.kids[i].toNat] = y at hy hgr hR hgl
      simp (decide := true) only [e, h', row1_get _ _ h', htk, Int.natCast_nonneg, nodeC, programC, vB, vI, drop0, row1_length, rows_length, programW, programC, cI, cB, cS, roI, ro64, hpin, go_sem, Nat.reduceAdd, Nat.reduceMul]
      refine aCall_det hrs hpin ?_
      cases hs : seenB p f x.kids[i] L with
      | false =>
        rw [hs, Bool.false_and] at hR
        simp (decide := true) only [hR, htk, drop0, row1_length, rows_length, programW, programC, cI, cB, cS, roI, ro64, hpin, go_sem, Nat.reduceAdd, Nat.reduceMul]
      | true =>
        rw [hs, Bool.true_and] at hR
        cases h20 : x.kind == 20 with
        | false =>
          rw [h20, Bool.false_and, if_neg (by decide)] at hR
          rcases rows_any p.nodes x.kids[i].toNat with ⟨yy, hyy⟩ | hyy
          · simp (decide := true) only [h20, hy, nodeC, htk, drop0, row1_length, rows_length, programW, programC, cI, cB, cS, roI, ro64, hpin, go_sem, Nat.reduceAdd, Nat.reduceMul]
            refine ⟨(i + 1, L), ⟨h', by simp only; omega, hR⟩, by simp only; omega, Ent.weak ?_ ?_ ?_ ?_⟩
            all_goals simp (decide := true) [subT, subB, hereT, hereV, hereL, St.get, look, vI, vB, vS, cI, cS, cB, nodeC, roI, programC, htk, w64s (n := x.kids.length) h' (by omega)]
          · rw [hy] at hyy; simp [nodeC] at hyy
        | true =>
          rw [h20, Bool.true_and] at hR
          cases h13 : y.kind == 13 with
          | false =>
            rw [h13, if_neg (by decide)] at hR
            simp (decide := true) only [h20, h13, z0, z1, hy, nodeC, htk, drop0, row1_length, rows_length, programW, programC, cI, cB, cS, roI, ro64, hpin, go_sem, Nat.reduceAdd, Nat.reduceMul]
            refine ⟨(i + 1, L), ⟨h', by simp only; omega, hR⟩, by simp only; omega, Ent.weak ?_ ?_ ?_ ?_⟩
            all_goals simp (decide := true) [subT, subB, hereT, hereV, hereL, St.get, look, vI, vB, vS, cI, cS, cB, nodeC, roI, programC, htk, w64s (n := x.kids.length) h' (by omega)]
          | true =>
            rw [h13, if_pos rfl] at hR
            have hsn := strs_snoc L y.name
            simp only [cS] at hsn
            have hb1 : L.length + 1 ≤ 140737488355328 := by omega
            have hb2 : (L.length + 1) * 16 ≤ 140737488355328 := by omega
            simp (decide := true) only [h20, h13, z0, z1, hy, nodeC, htk, hb1, hb2, hsn, drop0, row1_length, rows_length, programW, programC, cI, cB, cS, roI, ro64, hpin, go_sem, Nat.reduceAdd, Nat.reduceMul]
            refine ⟨(i + 1, L ++ [y.name]), ⟨h', by simp; omega, hR⟩, by simp only; omega, Ent.weak ?_ ?_ ?_ ?_⟩
            all_goals simp (decide := true) [subT, subB, hereT, hereV, hereL, St.get, look, vI, vB, vS, cI, cS, cB, nodeC, roI, programC, htk, w64s (n := x.kids.length) h' (by omega)]
    · have hil : i = x.kids.length := by omega
      subst hil
      have e : ((x.kids.length : Int) < (x.kids.length : Int)) = False := by simp
      rw [List.drop_length] at hR
      have hRt : R = true := hR
      simp (decide := true) only [e, hRt, programC, vB, vI, drop0, row1_length, rows_length, programW, programC, cI, cB, cS, roI, ro64, hpin, go_sem, Nat.reduceAdd, Nat.reduceMul]
      refine code_sound sized _ ?_
      simp (decide := true) only [drop0, row1_length, rows_length, programW, programC, cI, cB, cS, roI, ro64, hpin, go_sem, Nat.reduceAdd, Nat.reduceMul]
end Go.Proofs.YtnbodmohnkohfaaGreatDoor.AW
