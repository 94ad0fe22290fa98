/- What the statements of this set lean on, part 8. No condition beyond those named. -/
import Derived.Test.YtjjigphfjclofaaGreatDoorLx7
namespace Go.Proofs.YtjjigphfjclofaaGreatDoor.AW
open Go.RowKit
open Nat renaming reduceAdd → aD, reduceMul → mU
open Int renaming natCast_nonneg → iN
open Bool renaming false_eq_true → bF, false_or → bO, true_or → bT, or_false → bP
open List renaming getElem_mem → lM, getElem?_eq_getElem → lE
open Option renaming getD_some → oD, map_eq_some_iff → oM
set_option maxHeartbeats 8000000
set_option maxRecDepth 100000
set_option linter.unusedSimpArgs false
set_option linter.unusedVariables false
noncomputable def effL (p : ProgramD) (fn : Int) (R : List Int) : List EffectD := if YQ p fn then yG p.nodes (zab p fn) (xH p R) else []
theorem zhi (l : List EffectD) (i : Nat) (x : EffectD) : (rows (zr false) l).set i [cS x.name, cI x.bits] = rows (zr false) (l.set i x) := zkz (zr false) l i x
theorem zkW (l : List EffectD) (s : ByteArray) : rows (zr false) l ++ [[cS s, cI 0]] = rows (zr false) (l ++ [(⟨s, 0⟩ : EffectD)]) := yM (zr false) l (⟨s, 0⟩ : EffectD)
theorem zfW {E : List EffectD} {s : ByteArray} {j : Nat} {b : Int} (h : ZI E s = j) (hj : j < E.length) : E.set j ⟨E[j].name, bits .or .i64 E[j].bits b⟩ = zeO E s b := by
 unfold zeO
 subst h
 rw [if_pos hj]
 simp [List.getD, hj]
theorem zfX {E : List EffectD} {s : ByteArray} {b : Int} (h : ZI E s = E.length) : (E ++ [(⟨s, 0⟩ : EffectD)]).set E.length ⟨s, bits .or .i64 0 b⟩ = zeO E s b := by
 unfold zeO
 rw [h, if_neg (by omega)]
 simp
theorem zbl {p : ProgramD} (fn : Int) (hpl : ∀ f ∈ p.fns, f.params.length <= 1048576) (hn : p.nodes.length <= 1048576) : (zab p fn).length <= 2097152 := by
 unfold zab
 split
 · exact xI p fn hpl hn
 · simp
theorem ziZ {p : ProgramD} {R : List Int} {i : Nat} (h : i < (xH p R).length) : ∃ m : Nat, (xH p R)[i] = m /\ m < p.nodes.length := by
 have hm := lM h
 obtain ⟨k, hk, h1⟩ := (zeX p R _).1 hm
 have := yb h1
 exact ⟨(xH p R)[i].toNat, by omega, this.2.1⟩
theorem zfw (p : ProgramD) (fn : Int) (R : List Int) (hR : R.length <= 1048576) (hf : p.fns.length <= 1048576) (hn : p.nodes.length <= 1048576) (hk : ∀ x ∈ p.nodes, x.kids.length <= 1048576) (hpl : ∀ f ∈ p.fns, f.params.length <= 1048576) :
 zx Tryz.prog 160 [.ro (zb p), .ro (.sc (.int .i64 fn)), .ro (roI R)] (fun rs st => rs = [(false, [.row false 166 (rows (zr false) (effL p fn R))])]) := by
 have e0 : rows (zr false) ([] : List EffectD) = [] := rfl
 have hty := zdv p fn hf hn hk hpl
 have hll := zbl (p := p) fn hpl hn
 have hua := YE p R hR hn hk
 simp only [zb] at hty hua
 unfold effL
 refine zp (fn := Tryz.f160) (c := Tryz.f160.body.getD .skip) (res := [.tm 6]) (n := 82) ze (by kernel_rfl) (by rfl) (by kernel_rfl) (by rfl) (by rfl) (by simp [zu]) (fun uf ub C hpin hpin2 hfull => ?_)
 simp only [Tryz.f160, oD]
 refine Tri.step ze ?_
 simp +decide only [zh, zb, za, hpin, go_sem, aD, mU]
 refine Tri.ent ?_ (Ent.frb hfull 3)
 refine Tri.step ze ?_
 simp +decide only [zh, zb, za, hpin, go_sem, aD, mU]
 refine zd hty hpin ?_
 cases hg : YQ p fn with
 | false =>
  simp +decide only [e0, zh, zb, za, hpin, go_sem, aD, mU]
  refine Tri.step ze ?_
  simp +decide only [e0, zh, zb, za, hpin, go_sem, aD, mU]
 | true =>
 generalize zab p fn = l at hll |-
 simp +decide only [zh, zb, za, hpin, go_sem, aD, mU]
 refine Tri.ent ?_ (Ent.frz hfull 7)
 refine Tri.step ze ?_
 simp +decide only [zh, zb, za, hpin, go_sem, aD, mU]
 refine Tri.step ze ?_
 simp +decide only [zh, zb, za, hpin, go_sem, aD, mU]
 refine Tri.step ze ?_
 simp +decide only [zh, zb, za, hpin, go_sem, aD, mU]
 refine zd hua hpin ?_
 simp +decide only [zh, zb, za, hpin, go_sem, aD, mU]
 have hul := ZK p R
 have hnat := @ziZ p R
 generalize xH p R = U at hul hnat |-
 refine Tri.loop (ι := Nat) (fun i => i <= U.length) (fun i => ⟨82, [(3, .ip (za true p) 0), (7, .imm 96 (rows (varC true) l)), (9, .ref 9 [] (yG p.nodes l (U.take i)).length), (25, .ref 3025 [] U.length), (26, vI U.length), (27, vI i)], [(3025, .row 3 (row1 cI U)), (9, .row 166 (rows (zr false) (yG p.nodes l (U.take i))))]⟩) (fun i => U.length - i) 0 (by simp) ?_ ?_
 · refine Ent.weak ?_ ?_ ?_ ?_ <;> simp +decide [subT, subB, zj, zi, zm, St.get, look, vI, vB, vS, cI, cS, cB, zg, za, roI, yG, rows]
 · rintro i hi
   refine zf ze _ ?_
   by_cases h' : i < U.length
   · have e : ((i : Int) < (U.length : Int)) = True := by simp [h']
     obtain ⟨m, hm, hml⟩ := hnat h'
     have hx : (rows (zg true) p.nodes).getD m [] = zg true p.nodes[m] := zk _ _ hml
     have hc1 : ((m : Int) < (p.nodes.length : Int)) = True := eq_true (by omega)
     have hnx := ziM p.nodes l h'
     have hEl : (yG p.nodes l (U.take i)).length <= U.length := Nat.le_trans (ZB p.nodes l (U.take i)) (by rw [List.length_take]; omega)
     rw [hm] at hnx
     unfold XM at hnx
     rw [zR hml] at hnx
     generalize p.nodes[m] = x at hx hnx
     generalize yG p.nodes l (U.take i) = E at hEl hnx
     obtain ⟨E2, hE2⟩ : ∃ E, E = yG p.nodes l (U.take (i + 1)) := ⟨_, rfl⟩
     rw [<- hE2] at hnx
     have hvt := ZD l x.name (by omega)
     have hef := zlY x.kind (yZ l x.name)
     generalize yZ l x.name = tv at hvt hef hnx
     generalize effB x.kind tv = b at hef hnx
     simp +decide only [e, h', zW _ _ h', hm, hx, hc1, zg, iN, vB, vI, zh, zb, za, hpin, go_sem, aD, mU]
     refine Tri.ent ?_ (Ent.frb hfull 12)
     refine Tri.sched ze [(0, true), (2, true), (3, true), (1, true), (4, false), (5, false), (6, false), (7, false)] zO (by kernel_rfl) (fun C2 hC2 => ?_)
     have hp2 := zP hC2 hpin
     simp +decide only [zg, iN, zh, zb, za, hp2, hpin, go_sem, aD, mU]
     refine zd hvt hp2 ?_
     simp +decide only [zg, zh, zb, za, hp2, hpin, go_sem, aD, mU]
     refine zd hef hp2 ?_
     cases hb0 : b == 0 with
     | true =>
      rw [hb0] at hnx
      simp only [if_true] at hnx
      simp +decide only [hb0, zh, zb, za, hp2, hpin, go_sem, aD, mU]
      refine ⟨i + 1, h', by omega, Ent.weak ?_ ?_ ?_ ?_⟩
      all_goals simp +decide [subT, subB, zj, zi, zm, St.get, look, vI, vB, vS, cI, cS, cB, zg, za, roI, <- hE2, hnx, w64s (n := U.length) h' (by omega)]
     | false =>
     rw [hb0] at hnx
     simp only [if_false, bF] at hnx
     simp +decide only [hb0, zg, zh, zb, za, hp2, hpin, go_sem, aD, mU]
     refine Tri.loop (ι := Nat) (fun j => j <= E.length /\ ZI E x.name = j + ZI (E.drop j) x.name) (fun j => ⟨82, [(3, .ip (za true p) 0), (7, .imm 96 (rows (varC true) l)), (9, .ref 9 [] E.length), (12, .ip (zg true x) 0), (13, vI b), (14, vI j), (25, .ref 3025 [] U.length), (26, vI U.length), (27, vI i)], [(3025, .row 3 (row1 cI U)), (9, .row 166 (rows (zr false) E))]⟩) (fun j => E.length - j) 0 ⟨by simp, by simp⟩ ?_ ?_
     · refine Ent.weak ?_ ?_ ?_ ?_ <;> simp +decide [subT, subB, zj, zi, zm, St.get, look, vI, vB, vS, cI, cS, cB, zg, za, roI]
     · rintro j ⟨hj, hq⟩
       refine zf ze _ ?_
       by_cases hj' : j < E.length
       · have e2 : ((j : Int) < (E.length : Int)) = True := by simp [hj']
         have hge := Zl (zr false) E hj'
         have hgd := zk (zr false) E hj'
         rw [List.drop_eq_getElem_cons hj', ZI] at hq
         by_cases hs : E[j].name = x.name
         · have h2 : decide (E[j].name = x.name) = true := decide_eq_true hs
           rw [if_pos hs] at hq
           have hput := zfW (b := b) (show ZI E x.name = j by omega) hj'
           have hst := zhi E j ⟨E[j].name, bits .or .i64 E[j].bits b⟩
           rw [hput, <- hnx] at hst
           simp only [zr] at hge hgd
           simp only [cI, cS] at hst hge hgd
           have e3 : ((j : Int) == (E.length : Int)) = false := by simp; omega
           have hl2 : E2.length = E.length := by rw [hnx, <- hput, List.length_set]
           refine Tri.sched ze [(0, true), (1, false), (2, false), (3, false), (4, false), (5, true), (6, true), (7, true), (8, true), (10, true), (11, true), (9, false), (12, false), (13, false)] zO (by kernel_rfl) (fun C3 hC3 => ?_)
           have hp3 := zP hC3 hpin
           simp +decide only [e2, e3, hj', hge, hgd, hst, h2, zg, bne, iN, vB, vI, zh, zb, za, hp3, hp2, hpin, go_sem, aD, mU]
           refine ⟨i + 1, h', by omega, Ent.weak ?_ ?_ ?_ ?_⟩
           all_goals simp +decide [subT, subB, zj, zi, zm, St.get, look, vI, vB, vS, cI, cS, cB, zg, za, roI, <- hE2, hl2, w64s (n := U.length) h' (by omega)]
         · have h2 : decide (E[j].name = x.name) = false := decide_eq_false hs
           rw [if_neg hs] at hq
           simp only [zr] at hge hgd
           simp only [cI, cS] at hge hgd
           refine Tri.sched ze [(0, true), (1, false), (2, false), (3, false), (4, false), (5, true), (6, true), (7, true), (8, true), (10, true), (11, true), (9, false), (12, false), (13, false)] zO (by kernel_rfl) (fun C3 hC3 => ?_)
           have hp3 := zP hC3 hpin
           simp +decide only [e2, hj', hge, hgd, h2, zg, bne, iN, vB, vI, zh, zb, za, hp3, hp2, hpin, go_sem, aD, mU]
           refine ⟨j + 1, ⟨hj', by omega⟩, by omega, Ent.weak ?_ ?_ ?_ ?_⟩
           all_goals simp +decide [subT, subB, zj, zi, zm, St.get, look, vI, vB, vS, cI, cS, cB, zg, za, roI, w64s (n := E.length) hj' (by omega)]
       · have hjl : j = E.length := by omega
         subst hjl
         have e2 : ((E.length : Int) < (E.length : Int)) = False := by simp
         have e3 : ((E.length : Int) == (E.length : Int)) = true := by simp
         rw [List.drop_length] at hq
         have hput := zfX (b := b) (show ZI E x.name = E.length by rw [hq]; rfl)
         have hsn := zkW E x.name
         have hlt : E.length < (E ++ [(⟨x.name, 0⟩ : EffectD)]).length := by simp
         have hge := Zl (zr false) (E ++ [(⟨x.name, 0⟩ : EffectD)]) hlt
         have hgd := zk (zr false) (E ++ [(⟨x.name, 0⟩ : EffectD)]) hlt
         have hla : (E ++ [(⟨x.name, 0⟩ : EffectD)])[E.length] = ⟨x.name, 0⟩ := by simp
         rw [hla] at hge hgd
         have hst := zhi (E ++ [(⟨x.name, 0⟩ : EffectD)]) E.length ⟨x.name, bits .or .i64 0 b⟩
         rw [hput, <- hnx] at hst
         have hl2 : E2.length = E.length + 1 := by rw [hnx, <- hput, List.length_set]; simp
         have hb1 : E.length + 1 <= 140737488355328 := by omega
         have hb2 : (E.length + 1) * 24 <= 140737488355328 := by omega
         have e4 : ((E.length : Int) < ((E.length + 1 : Nat) : Int)) = True := eq_true (by omega)
         have e5 : (E.length < E.length + 1) = True := eq_true (by omega)
         have e6 : (rows (zr false) E)[E.length]? = none := by simp [rows]
         have e7 : (rows (zr false) E).getD E.length [] = [] := by simp [rows, List.getD]
         simp only [zr] at hge hgd
         simp only [cI, cS] at hst hge hgd hsn
         refine Tri.sched ze [(0, true), (1, false), (2, false), (3, false), (4, false), (5, true), (6, true), (7, true), (8, true), (10, true), (11, true), (9, false), (12, false), (13, false)] zO (by kernel_rfl) (fun C3 hC3 => ?_)
         have hp3 := zP hC3 hpin
         simp +decide only [e2, e3, e4, e5, e6, e7, Option.bind_none, hb1, hb2, hsn, hge, hgd, hst, zg, iN, vB, vI, zh, zb, za, hp3, hp2, hpin, go_sem, aD, mU]
         refine ⟨i + 1, h', by omega, Ent.weak ?_ ?_ ?_ ?_⟩
         all_goals simp +decide [subT, subB, zj, zi, zm, St.get, look, vI, vB, vS, cI, cS, cB, zg, za, roI, <- hE2, hl2, w64s (n := U.length) h' (by omega)]
   · have hil : i = U.length := by omega
     subst hil
     have e : ((U.length : Int) < (U.length : Int)) = False := by simp
     simp +decide only [e, vB, vI, zh, zb, za, hpin, go_sem, aD, mU]
     refine zf ze _ ?_
     simp +decide only [zh, zb, za, hpin, go_sem, aD, mU]
def zhl (E : List EffectD) (s : ByteArray) : Int := if ZI E s < E.length then (ZI E s : Int) else -1
theorem zjO (E : List EffectD) (s : ByteArray) (hl : E.length <= 1048576) : zx Tryz.prog 158 [.ro (.imm 166 (rows (zr true) E)), .ro (.sc (.string s))] (fun rs st => rs = [(false, [cI (zhl E s)])]) := by
 refine zp (fn := Tryz.f158) (c := Tryz.f158.body.getD .skip) (res := [.tm 4]) (n := 20) ze (by kernel_rfl) (by rfl) (by kernel_rfl) (by rfl) (by rfl) (by simp [zu]) (fun uf ub C hpin hpin2 hfull => ?_)
 simp only [Tryz.f158, oD]
 refine Tri.step ze ?_
 simp +decide only [zh, zb, za, hpin, go_sem, aD, mU]
 refine Tri.step ze ?_
 simp +decide only [zh, zb, za, hpin, go_sem, aD, mU]
 refine Tri.loop (ι := Nat) (fun j => j <= E.length /\ ZI E s = j + ZI (E.drop j) s) (fun j => ⟨20, [(0, .imm 166 (rows (zr true) E)), (1, vS s), (5, vI j)], []⟩) (fun j => E.length - j) 0 ⟨by simp, by simp⟩ ?_ ?_
 · refine Ent.weak ?_ ?_ ?_ ?_ <;> simp +decide [subT, subB, zj, zi, zm, St.get, look, vI, vB, vS, cI, cS, cB, zg, za, roI]
 · rintro j ⟨hj, hq⟩
   refine zf ze _ ?_
   by_cases hj' : j < E.length
   · have e2 : ((j : Int) < (E.length : Int)) = True := by simp [hj']
     have hgd := zk (zr true) E hj'
     rw [List.drop_eq_getElem_cons hj', ZI] at hq
     simp only [zr] at hgd
     simp only [cI, cS] at hgd
     by_cases hs : E[j].name = s
     · have h2 : decide (E[j].name = s) = true := decide_eq_true hs
       rw [if_pos hs] at hq
       have hix : zhl E s = (j : Int) := by unfold zhl; rw [if_pos (by omega)]; omega
       simp +decide only [e2, hj', hgd, h2, hix, iN, vB, vI, vS, zh, zb, za, hpin, go_sem, aD, mU]
     · have h2 : decide (E[j].name = s) = false := decide_eq_false hs
       rw [if_neg hs] at hq
       simp +decide only [e2, hj', hgd, h2, iN, vB, vI, vS, zh, zb, za, hpin, go_sem, aD, mU]
       refine ⟨j + 1, ⟨hj', by omega⟩, by omega, Ent.weak ?_ ?_ ?_ ?_⟩
       all_goals simp +decide [subT, subB, zj, zi, zm, St.get, look, vI, vB, vS, cI, cS, cB, zg, za, roI, w64s (n := E.length) hj' (by omega)]
   · have hjl : j = E.length := by omega
     subst hjl
     have e2 : ((E.length : Int) < (E.length : Int)) = False := by simp
     rw [List.drop_length] at hq
     have hix : zhl E s = -1 := by unfold zhl; rw [if_neg (by rw [hq]; simp [ZI])]
     simp +decide only [e2, vB, vI, vS, zh, zb, za, hpin, go_sem, aD, mU]
     refine zf ze _ ?_
     simp +decide only [hix, zh, zb, za, hpin, go_sem, aD, mU]
theorem Zc {nodes : List NodeD} {k : Int} (hd : ¬ (ye nodes k == 0) = true) (m : Nat) : (m : Int) ∈ zI nodes k ↔ Reach nodes k.toNat m := by
 have hd2 : (ye nodes k == 0) = false := by simpa using hd
 obtain ⟨n, rfl, hnl, hdn⟩ := zaG hd2
 unfold zI
 rw [hd2]
 simp only [if_false, bF]
 show (m : Int) ∈ ints (zcx nodes (n : Int).toNat) ↔ _
 rw [zkN]
 exact Zd hdn
theorem ziL (nodes : List NodeD) (l : List VarD) {P : Nat -> Prop} {i : Nat} (h : P i) : yG nodes l (ints (pick P (i + 1))) = XM nodes l (yG nodes l (ints (pick P i))) i := by
 rw [zib h]; unfold yG ints; rw [List.map_append, List.foldl_append]; rfl
theorem zhk (nodes : List NodeD) (l : List VarD) {P : Nat -> Prop} {i : Nat} (h : ¬ P i) : yG nodes l (ints (pick P (i + 1))) = yG nodes l (ints (pick P i)) := by rw [zfH h]
theorem zfy (nodes : List NodeD) (l : List VarD) (P : Nat -> Prop) (i : Nat) : (yG nodes l (ints (pick P i))).length <= i := by
 have h1 := ZB nodes l (ints (pick P i))
 rw [zA] at h1
 exact Nat.le_trans h1 (Xv P i)
theorem zfv (p : ProgramD) (fn : Int) (R : List Int) (hR : R.length <= 1048576) (hf : p.fns.length <= 1048576) (hn : p.nodes.length <= 1048576) (hk : ∀ x ∈ p.nodes, x.kids.length <= 1048576) (hpl : ∀ f ∈ p.fns, f.params.length <= 1048576) :
 zx Tryz.prog 92 [.ro (zb p), .ro (.sc (.int .i64 fn)), .ro (roI R)] (fun rs st => rs = [(false, [.row false 166 (rows (zr false) (effL p fn R))])]) := by
 classical
 have e0 : rows (zr false) ([] : List EffectD) = [] := rfl
 have hty := XZ p fn hf hn hk hpl
 have hll := zbl (p := p) fn hpl hn
 simp only [zb] at hty
 unfold effL
 refine zp (fn := Tryz.f92) (c := Tryz.f92.body.getD .skip) (res := [.tm 6]) (n := 107) ze (by kernel_rfl) (by rfl) (by kernel_rfl) (by rfl) (by rfl) (by simp [zu]) (fun uf ub C hpin hpin2 hfull => ?_)
 simp only [Tryz.f92, oD]
 refine Tri.step ze ?_
 simp +decide only [zh, zb, za, hpin, go_sem, aD, mU]
 refine Tri.ent ?_ (Ent.frb hfull 3)
 refine Tri.step ze ?_
 simp +decide only [zh, zb, za, hpin, go_sem, aD, mU]
 refine Tri.step ze ?_
 simp +decide only [zh, zb, za, hpin, go_sem, aD, mU]
 refine zd hty hpin ?_
 cases hg : YQ p fn with
 | false =>
  simp +decide only [e0, zh, zb, za, hpin, go_sem, aD, mU]
  refine Tri.step ze ?_
  simp +decide only [e0, zh, zb, za, hpin, go_sem, aD, mU]
 | true =>
 have hD : Deep p.nodes := by
  unfold YQ at hg
  have h1 := (Bool.and_eq_true_iff.1 hg).1
  unfold yv at h1
  exact (yh (Bool.and_eq_true_iff.1 h1).1).deep
 generalize zab p fn = l at hll |-
 simp +decide only [zh, zb, za, hpin, go_sem, aD, mU]
 refine Tri.ent ?_ (Ent.frz hfull 8)
 have hm1 : ((1 : Nat) : Int) * (p.nodes.length : Int) <= 281474976710656 := by omega
 have hm2 : (p.nodes.length : Int) <= 140737488355328 := by omega
 have hof := zbx p.nodes.length
 simp only [cB] at hof
 refine Tri.step ze ?_
 simp +decide only [zh, zb, za, hpin, go_sem, aD, mU]
 refine Tri.step ze ?_
 simp +decide only [hm1, hm2, hof, iN, zh, zb, za, hpin, go_sem, aD, mU]
 have w1 : IntKind.i64.wrap ((p.nodes.length : Int) - 1) = (p.nodes.length : Int) - 1 := w64 (by omega) (by omega)
 let Q : Nat -> Nat -> Prop := fun i m => ∃ a, ∃ (ha : a < R.length), a < i /\ (m : Int) ∈ zI p.nodes R[a]
 refine Tri.stop ze ⟨107, [(3, .ip (za true p) 0), (7, .ref 7 [] 0), (8, .imm 96 (rows (varC true) l)), (10, .ref 10 [] p.nodes.length)], [(7, .row 166 []), (10, .row 4 (row1 cB (ofP p.nodes.length (Q R.length))))]⟩ ?_ ?_
 · simp +decide only [zh, zb, za, hpin, go_sem, aD, mU]
   refine Tri.loop (ι := Nat) (fun i => i <= R.length) (fun i => ⟨107, [(2, roI R), (3, .ip (za true p) 0), (7, .ref 7 [] 0), (8, .imm 96 (rows (varC true) l)), (10, .ref 10 [] p.nodes.length), (11, vI i)], [(7, .row 166 []), (10, .row 4 (row1 cB (ofP p.nodes.length (Q i))))]⟩) (fun i => R.length - i) 0 (by simp) ?_ ?_
   · have e9 : ofP p.nodes.length (Q 0) = ofP p.nodes.length (fun _ => False) := xB (fun m _ => ⟨fun ⟨a, ha, h0, _⟩ => by omega, fun h => h.elim⟩)
     refine Ent.weak ?_ ?_ ?_ ?_ <;> simp +decide [subT, subB, zj, zi, zm, St.get, look, vI, vB, vS, cI, cS, cB, zg, za, roI, e9]
   · rintro i hi
     refine zf ze _ ?_
     by_cases h' : i < R.length
     · have e : ((i : Int) < (R.length : Int)) = True := by simp [h']
       simp +decide only [e, h', iN, vB, vI, zh, zb, za, hpin, go_sem, aD, mU]
       refine Tri.sched ze [(0, true), (1, true), (2, true), (4, true), (3, true), (5, false), (6, false), (7, false), (8, false)] zO (by kernel_rfl) (fun C2 hC2 => ?_)
       have hp2 := zP hC2 hpin
       simp +decide only [e, h', w1, zw _ _ h', iN, vB, vI, zh, zb, za, hp2, hpin, go_sem, aD, mU]
       refine zd (xp R[i] 0 (p.nodes.length - 1)) hp2 ?_
       cases hin : inI R[i] 0 (p.nodes.length - 1) with
       | false =>
        simp +decide only [zh, zb, za, hp2, hpin, go_sem, aD, mU]
        have hnx : ofP p.nodes.length (Q (i + 1)) = ofP p.nodes.length (Q i) := xB (fun m _ => by
         constructor
         · rintro ⟨a, ha, h1, h2⟩
           by_cases ea : a = i
           · subst ea
             exfalso
             have hz : ye p.nodes R[a] = 0 := by unfold ye; simp [hin]
             unfold zI at h2
             rw [hz] at h2
             simp at h2
           · exact ⟨a, ha, by omega, h2⟩
         · rintro ⟨a, ha, h1, h2⟩
           exact ⟨a, ha, by omega, h2⟩)
        refine ⟨i + 1, h', by omega, Ent.weak ?_ ?_ ?_ ?_⟩
        all_goals simp +decide [subT, subB, zj, zi, zm, St.get, look, vI, vB, vS, cI, cS, cB, zg, za, roI, hnx, w64s (n := R.length) h' (by omega)]
       | true =>
        have hir := zy hin
        obtain ⟨n, hnR⟩ : ∃ n : Nat, R[i] = n := ⟨R[i].toNat, by omega⟩
        have hnl : n < p.nodes.length := by omega
        have hdn := hD.deep n hnl
        have hdd : ∀ k : Int, inI k 0 (p.nodes.length - 1) = true -> ¬ (ye p.nodes k == 0) = true := fun k hk1 => by
         have hk2 := zy hk1
         have hk3 := hD.deep k.toNat (by omega)
         unfold ye
         rw [hk1]
         simpa using hk3
        have hun : ∀ a (ha : a < R.length) (m : Nat), (m : Int) ∈ zI p.nodes R[a] -> ∀ q, Reach p.nodes m q -> (q : Int) ∈ zI p.nodes R[a] := fun a ha m hm q hr => by
         have h1 := yb hm
         have hna : ¬ (ye p.nodes R[a] == 0) = true := fun hz => by
          unfold zI at hm
          rw [if_pos hz] at hm
          simp at hm
         rw [Zc hna] at hm |-
         exact hm.trans hr
        have hmk := zaA p.nodes hn hk n hdn (Q i) (fun m _ ⟨a, ha, h1, h2⟩ q hr => ⟨a, ha, h1, hun a ha m h2 q hr⟩)
        have hnx : ofP p.nodes.length (fun m => Q i m \/ Reach p.nodes n m) = ofP p.nodes.length (Q (i + 1)) := xB (fun m _ => by
         have hr := Zc (hdd R[i] hin) m
         rw [hnR, show (n : Int).toNat = n by omega] at hr
         constructor
         · rintro (⟨a, ha, h1, h2⟩ | h)
           · exact ⟨a, ha, by omega, h2⟩
           · exact ⟨i, h', by omega, by rw [hnR]; exact hr.2 h⟩
         · rintro ⟨a, ha, h1, h2⟩
           by_cases ea : a = i
           · subst ea; right; rw [hnR] at h2; exact hr.1 h2
           · exact Or.inl ⟨a, ha, by omega, h2⟩)
        rw [hnx] at hmk
        simp +decide only [zh, zb, za, hp2, hpin, go_sem, aD, mU]
        refine Tri.sched ze [(0, true), (2, true), (3, true), (4, true), (6, true), (1, true), (5, false), (7, false)] zO (by kernel_rfl) (fun C3 hC3 => ?_)
        have hp3 := zP hC3 hpin
        simp +decide only [e, h', zw _ _ h', hnR, iN, vB, vI, zh, zb, za, hp3, hp2, hpin, go_sem, aD, mU]
        refine xX hmk hp3 [(2000, 10)] ⟨rfl, rfl, rfl⟩ (fun uf => ⟨rfl, rfl⟩) (fun uf => ?_) ?_
        · simp +decide only [zh, zb, za, hp3, hp2, hpin, go_sem, aD, mU]
        simp +decide only [zh, zb, za, hp3, hp2, hpin, go_sem, aD, mU]
        refine ⟨i + 1, h', by omega, Ent.weak ?_ ?_ ?_ ?_⟩
        all_goals simp +decide [subT, subB, zj, zi, zm, St.get, look, vI, vB, vS, cI, cS, cB, zg, za, roI, w64s (n := R.length) h' (by omega)]
     · have hil : i = R.length := by omega
       subst hil
       have e : ((R.length : Int) < (R.length : Int)) = False := by simp
       simp +decide only [e, vB, vI, zh, zb, za, hpin, go_sem, aD, mU]
       refine Ent.weak ?_ ?_ ?_ ?_
       all_goals simp +decide [subT, subB, zj, zi, zm, St.get, look, vI, vB, vS, cI, cS, cB, zg, za, roI]
 have hqe : Q R.length = zbf p R := by
  funext m
  apply propext
  constructor
  · rintro ⟨a, ha, _, h⟩; exact ⟨R[a], lM ha, h⟩
  · rintro ⟨k, hk1, h⟩
    obtain ⟨a, ha, rfl⟩ := List.getElem_of_mem hk1
    exact ⟨a, ha, ha, h⟩
 rw [hqe]
 have hfin : xH p R = ints (pick (zbf p R) p.nodes.length) := rfl
 rw [hfin]
 have htk : List.take p.nodes.length (row1 cB (ofP p.nodes.length (zbf p R))) = row1 cB (ofP p.nodes.length (zbf p R)) := by
  have := yj cB (ofP p.nodes.length (zbf p R))
  rwa [zh] at this
 generalize zbf p R = P at htk |-
 refine Tri.ent ?_ (Ent.frz hfull 10)
 refine zf ze _ ?_
 simp +decide only [htk, zh, zb, za, hpin, go_sem, aD, mU]
 refine Tri.loop (ι := Nat) (fun i => i <= p.nodes.length) (fun i => ⟨107, [(3, .ip (za true p) 0), (7, .ref 7 [] (yG p.nodes l (ints (pick P i))).length), (8, .imm 96 (rows (varC true) l)), (10, .imm 4 (row1 cB (ofP p.nodes.length P))), (12, vI i)], [(7, .row 166 (rows (zr false) (yG p.nodes l (ints (pick P i)))))]⟩) (fun i => p.nodes.length - i) 0 (by simp) ?_ ?_
 · refine Ent.weak ?_ ?_ ?_ ?_ <;> simp +decide [subT, subB, zj, zi, zm, St.get, look, vI, vB, vS, cI, cS, cB, zg, za, roI, pick, ints, yG, rows, htk, zdo]
   all_goals rfl
 · rintro i hi
   refine zf ze _ ?_
   by_cases h' : i < p.nodes.length
   · have e : ((i : Int) < (p.nodes.length : Int)) = True := by simp [h']
     have hx : (rows (zg true) p.nodes).getD i [] = zg true p.nodes[i] := zk _ _ h'
     have hEl := zfy p.nodes l P i
     have hpt := fun hp : P i => ziL p.nodes l hp
     have hpf := fun hp : ¬ P i => zhk p.nodes l hp
     unfold XM at hpt
     rw [zR h'] at hpt
     generalize p.nodes[i] = x at hx hpt
     generalize yG p.nodes l (ints (pick P i)) = E at hEl hpt hpf
     obtain ⟨E2, hE2⟩ : ∃ E, E = yG p.nodes l (ints (pick P (i + 1))) := ⟨_, rfl⟩
     rw [<- hE2] at hpt hpf
     have hvt := ZC l x.name (by omega)
     have hef := zlX x.kind (yZ l x.name)
     have hat := zjO E x.name (by omega)
     have hEt := ym (zr false) E
     generalize yZ l x.name = tv at hvt hef hpt
     generalize effB x.kind tv = b at hef hpt
     simp +decide only [e, h', hx, zg, iN, vB, vI, zh, zb, za, hpin, go_sem, aD, mU]
     refine Tri.ent ?_ (Ent.frb hfull 13)
     refine Tri.sched ze [(0, true), (2, true), (3, true), (1, true), (4, false), (5, false), (6, false), (7, false)] zO (by kernel_rfl) (fun C2 hC2 => ?_)
     have hp2 := zP hC2 hpin
     simp +decide only [zg, iN, zh, zb, za, hp2, hpin, go_sem, aD, mU]
     refine zd hvt hp2 ?_
     simp +decide only [zg, zh, zb, za, hp2, hpin, go_sem, aD, mU]
     refine zd hef hp2 ?_
     by_cases hp : P i
     · have hp1 : decide (P i) = true := decide_eq_true hp
       have hnx := hpt hp
       cases hb0 : b == 0 with
       | true =>
        rw [hb0] at hnx
        simp only [if_true] at hnx
        simp +decide only [hb0, e, h', hp1, zea h', iN, zh, zb, za, hp2, hpin, go_sem, aD, mU]
        refine ⟨i + 1, h', by omega, Ent.weak ?_ ?_ ?_ ?_⟩
        all_goals simp +decide [subT, subB, zj, zi, zm, St.get, look, vI, vB, vS, cI, cS, cB, zg, za, roI, <- hE2, hnx, w64s (n := p.nodes.length) h' (by omega)]
       | false =>
       rw [hb0] at hnx
       simp only [if_false, bF] at hnx
       simp +decide only [hb0, e, h', hp1, zea h', zg, iN, zh, zb, za, hp2, hpin, go_sem, aD, mU]
       refine zd hat hpin ?_
       by_cases hj' : ZI E x.name < E.length
       · have hix : zhl E x.name = (ZI E x.name : Int) := by unfold zhl; rw [if_pos hj']
         rw [hix]
         have hput := zfW (b := b) (show ZI E x.name = ZI E x.name from rfl) hj'
         rw [<- hnx] at hput
         generalize ZI E x.name = j at hj' hput
         have hge := Zl (zr false) E hj'
         have hgd := zk (zr false) E hj'
         have hst := zhi E j ⟨E[j].name, bits .or .i64 E[j].bits b⟩
         rw [hput] at hst
         have e2 : ((j : Int) < (E.length : Int)) = True := by simp [hj']
         have e3 : ((j : Int) < 0) = False := by simp
         have hl2 : E2.length = E.length := by rw [<- hput, List.length_set]
         simp only [zr] at hge hgd
         simp only [cI, cS] at hst hge hgd
         simp +decide only [e2, e3, hj', hge, hgd, hst, zg, iN, vB, vI, zh, zb, za, hp2, hpin, go_sem, aD, mU]
         refine ⟨i + 1, h', by omega, Ent.weak ?_ ?_ ?_ ?_⟩
         all_goals simp +decide [subT, subB, zj, zi, zm, St.get, look, vI, vB, vS, cI, cS, cB, zg, za, roI, <- hE2, hl2, w64s (n := p.nodes.length) h' (by omega)]
       · have hix : zhl E x.name = -1 := by unfold zhl; rw [if_neg hj']
         rw [hix]
         have hput := zfX (b := b) (show ZI E x.name = E.length by have := zkX E x.name; omega)
         rw [<- hnx] at hput
         have hsn := zkW E x.name
         have hlt : E.length < (E ++ [(⟨x.name, 0⟩ : EffectD)]).length := by simp
         have hge := Zl (zr false) (E ++ [(⟨x.name, 0⟩ : EffectD)]) hlt
         have hgd := zk (zr false) (E ++ [(⟨x.name, 0⟩ : EffectD)]) hlt
         have hla : (E ++ [(⟨x.name, 0⟩ : EffectD)])[E.length] = ⟨x.name, 0⟩ := by simp
         rw [hla] at hge hgd
         have hst := zhi (E ++ [(⟨x.name, 0⟩ : EffectD)]) E.length ⟨x.name, bits .or .i64 0 b⟩
         rw [hput] at hst
         have hl2 : E2.length = E.length + 1 := by rw [<- hput, List.length_set]; simp
         have hb1 : E.length + 1 <= 140737488355328 := by omega
         have hb2 : (E.length + 1) * 24 <= 140737488355328 := by omega
         have e4 : ((E.length : Int) < ((E.length + 1 : Nat) : Int)) = True := eq_true (by omega)
         have e5 : (E.length < E.length + 1) = True := eq_true (by omega)
         have e6 : (rows (zr false) E)[E.length]? = none := by simp [rows]
         have e7 : (rows (zr false) E).getD E.length [] = [] := by simp [rows, List.getD]
         have w2 : IntKind.i64.wrap (((E.length + 1 : Nat) : Int) - 1) = (E.length : Int) := by rw [w64 (by omega) (by omega)]; omega
         simp only [zr] at hge hgd
         simp only [cI, cS] at hst hge hgd hsn
         simp +decide only [hb1, hb2, e4, e5, w2, hsn, hge, hgd, hst, zg, iN, vB, vI, zh, zb, za, hp2, hpin, go_sem, aD, mU]
         refine ⟨i + 1, h', by omega, Ent.weak ?_ ?_ ?_ ?_⟩
         all_goals simp +decide [subT, subB, zj, zi, zm, St.get, look, vI, vB, vS, cI, cS, cB, zg, za, roI, <- hE2, hl2, w64s (n := p.nodes.length) h' (by omega)]
     · have hp1 : decide (P i) = false := decide_eq_false hp
       have hnx := hpf hp
       simp +decide only [e, h', hp1, zea h', iN, zh, zb, za, hp2, hpin, go_sem, aD, mU]
       refine ⟨i + 1, h', by omega, Ent.weak ?_ ?_ ?_ ?_⟩
       all_goals simp +decide [subT, subB, zj, zi, zm, St.get, look, vI, vB, vS, cI, cS, cB, zg, za, roI, <- hE2, hnx, w64s (n := p.nodes.length) h' (by omega)]
   · have hil : i = p.nodes.length := by omega
     subst hil
     have e : ((p.nodes.length : Int) < (p.nodes.length : Int)) = False := by simp
     simp +decide only [e, vB, vI, zh, zb, za, hpin, go_sem, aD, mU]
theorem Yk (l : List Int) : (row1 cI l).all (fun x => x.all XJ) = true := by simp [row1, cI, XJ]
theorem zaZ (l : List ParamD) : (rows (zn true) l).all (fun x => x.all XJ) = true := by simp [rows, zn, cI, cS, XJ]
theorem zdT (l : List ParamD) : rows (zn true) l = rows (zn false) l := rfl
theorem zin (l : List NodeD) (x : NodeD) : rows (zg false) l ++ [[D.sc (.int .i64 x.kind), .sc (.int .i64 x.num), .sc (.string x.name), .row false 3 (row1 cI x.kids)]] = rows (zg false) (l ++ [x]) := yM (zg false) l x
theorem znr (l : List FnD) (x : FnD) : rows (fnC false) l ++ [[D.sc (.string x.name), .row false 107 (rows (zn false) x.params), .sc (.int .i64 x.res), .sc (.int .i64 x.body), .sc (.int .i64 x.ret)]] = rows (fnC false) (l ++ [x]) := yM (fnC false) l x
theorem zgo {α : Type} {l : List α} {i : Nat} (h : i < l.length) : l.take (i + 1) = l.take i ++ [l[i]] := List.take_succ_eq_append_getElem h
theorem zbY {α : Type} {l : List α} {i : Nat} (h : i <= l.length) : (l.take i).length = i := by simp; omega
theorem YK (l : List Int) (hl : l.length <= 1048576) : zx Tryz.prog 99 [.ro (roI l)] (fun rs st => rs = [(false, [.row false 3 (row1 cI l)])]) := by
 have hf := Yk l
 have hb1 : l.length <= 140737488355328 := by omega
 have hb2 : l.length * 8 <= 140737488355328 := by omega
 refine zp (fn := Tryz.f99) (c := Tryz.f99.body.getD .skip) (res := [.tm 2]) (n := 5) ze (by kernel_rfl) (by rfl) (by kernel_rfl) (by rfl) (by rfl) (by simp [zu]) (fun uf ub C hpin hpin2 hfull => ?_)
 simp only [Tryz.f99, oD]
 refine Tri.step ze ?_
 simp +decide only [zb, za, hpin, go_sem, aD, mU]
 refine zf ze _ ?_
 simp +decide only [hf, hb1, hb2, zb, za, hpin, go_sem, aD, mU]
theorem zcW (l : List NodeD) (hl : l.length <= 1048576) (hk : ∀ x ∈ l, x.kids.length <= 1048576) : zx Tryz.prog 140 [.ro (.imm 83 (rows (zg true) l))] (fun rs st => rs = [(false, [.row false 83 (rows (zg false) l)])]) := by
 refine zp (fn := Tryz.f140) (c := Tryz.f140.body.getD .skip) (res := [.tm 2]) (n := 22) ze (by kernel_rfl) (by rfl) (by kernel_rfl) (by rfl) (by rfl) (by simp [zu]) (fun uf ub C hpin hpin2 hfull => ?_)
 simp only [Tryz.f140, oD]
 refine Tri.step ze ?_
 simp +decide only [zb, za, hpin, go_sem, aD, mU]
 refine Tri.step ze ?_
 simp +decide only [zb, za, hpin, go_sem, aD, mU]
 refine Tri.step ze ?_
 simp +decide only [zb, za, hpin, go_sem, aD, mU]
 refine Tri.loop (ι := Nat) (fun i => i <= l.length) (fun i => ⟨22, [(3, .ref 3 [] i), (6, .imm 83 (rows (zg true) l)), (7, vI l.length), (8, vI i)], [(3, .row 83 (rows (zg false) (l.take i)))]⟩) (fun i => l.length - i) 0 (by simp) ?_ ?_
 · refine Ent.weak ?_ ?_ ?_ ?_ <;> simp +decide [subT, subB, zj, zi, zm, St.get, look, vI, vB, vS, cI, cS, cB, zg, za, roI, rows]
 · rintro i hi
   refine zf ze _ ?_
   have htl := zbY hi
   by_cases h' : i < l.length
   · have e : ((i : Int) < (l.length : Int)) = True := by simp [h']
     have hx : (rows (zg true) l).getD i [] = zg true l[i] := zk _ _ h'
     have hkx := hk l[i] (lM h')
     have hsn := zin (l.take i) l[i]
     rw [<- zgo h'] at hsn
     generalize l[i] = x at hx hkx hsn
     have hb1 : i + 1 <= 140737488355328 := by omega
     have hb2 : (i + 1) * 56 <= 140737488355328 := by omega
     simp +decide only [e, h', hx, zg, iN, vB, vI, zb, za, hpin, go_sem, aD, mU]
     refine zd (YK x.kids hkx) hpin ?_
     simp +decide only [hb1, hb2, htl, hsn, zb, za, hpin, go_sem, aD, mU]
     refine ⟨i + 1, h', by omega, Ent.weak ?_ ?_ ?_ ?_⟩
     all_goals simp +decide [subT, subB, zj, zi, zm, St.get, look, vI, vB, vS, cI, cS, cB, zg, za, roI, hsn, w64s (n := l.length) h' (by omega)]
   · have hil : i = l.length := by omega
     subst hil
     have e : ((l.length : Int) < (l.length : Int)) = False := by simp
     simp +decide only [e, vB, vI, zb, za, hpin, go_sem, aD, mU]
     refine zf ze _ ?_
     simp +decide only [zb, za, hpin, go_sem, aD, mU]
theorem zcV (l : List NodeD) (hl : l.length <= 1048576) (hk : ∀ x ∈ l, x.kids.length <= 1048576) : zx Tryz.prog 129 [.ro (.imm 83 (rows (zg true) l))] (fun rs st => rs = [(false, [.row false 83 (rows (zg false) l)])]) := by
 refine zp (fn := Tryz.f129) (c := Tryz.f129.body.getD .skip) (res := [.tm 2]) (n := 27) ze (by kernel_rfl) (by rfl) (by kernel_rfl) (by rfl) (by rfl) (by simp [zu]) (fun uf ub C hpin hpin2 hfull => ?_)
 simp only [Tryz.f129, oD]
 refine Tri.step ze ?_
 simp +decide only [zb, za, hpin, go_sem, aD, mU]
 refine Tri.step ze ?_
 simp +decide only [zb, za, hpin, go_sem, aD, mU]
 refine Tri.step ze ?_
 simp +decide only [zb, za, hpin, go_sem, aD, mU]
 refine Tri.loop (ι := Nat) (fun i => i <= l.length) (fun i => ⟨27, [(0, .imm 83 (rows (zg true) l)), (3, .ref 3 [] i), (4, vI i)], [(3, .row 83 (rows (zg false) (l.take i)))]⟩) (fun i => l.length - i) 0 (by simp) ?_ ?_
 · refine Ent.weak ?_ ?_ ?_ ?_ <;> simp +decide [subT, subB, zj, zi, zm, St.get, look, vI, vB, vS, cI, cS, cB, zg, za, roI, rows]
 · rintro i hi
   refine zf ze _ ?_
   have htl := zbY hi
   by_cases h' : i < l.length
   · have e : ((i : Int) < (l.length : Int)) = True := by simp [h']
     have hx : (rows (zg true) l).getD i [] = zg true l[i] := zk _ _ h'
     have hkx := hk l[i] (lM h')
     have hsn := zin (l.take i) l[i]
     rw [<- zgo h'] at hsn
     generalize l[i] = x at hx hkx hsn
     have hf := Yk x.kids
     have hb1 : i + 1 <= 140737488355328 := by omega
     have hb2 : (i + 1) * 56 <= 140737488355328 := by omega
     have hb3 : x.kids.length <= 140737488355328 := by omega
     have hb4 : x.kids.length * 8 <= 140737488355328 := by omega
     simp +decide only [e, h', hx, hf, hb1, hb2, hb3, hb4, htl, hsn, zg, iN, vB, vI, zb, za, hpin, go_sem, aD, mU]
     refine ⟨i + 1, h', by omega, Ent.weak ?_ ?_ ?_ ?_⟩
     all_goals simp +decide [subT, subB, zj, zi, zm, St.get, look, vI, vB, vS, cI, cS, cB, zg, za, roI, hsn, w64s (n := l.length) h' (by omega)]
   · have hil : i = l.length := by omega
     subst hil
     have e : ((l.length : Int) < (l.length : Int)) = False := by simp
     simp +decide only [e, vB, vI, zb, za, hpin, go_sem, aD, mU]
     refine zf ze _ ?_
     simp +decide only [zb, za, hpin, go_sem, aD, mU]
theorem zcK (f : FnD) (hp : f.params.length <= 1048576) : zx Tryz.prog 141 [.ro (fnW f)] (fun rs st => rs = [(true, fnC false f)]) := by
 have hf := zaZ f.params
 have hb1 : f.params.length <= 140737488355328 := by omega
 have hb2 : f.params.length * 24 <= 140737488355328 := by omega
 have htf := zdT f.params
 refine zp (fn := Tryz.f141) (c := Tryz.f141.body.getD .skip) (res := [.ce 2 104]) (n := 8) ze (by kernel_rfl) (by rfl) (by kernel_rfl) (by rfl) (by rfl) (by simp [zu]) (fun uf ub C hpin hpin2 hfull => ?_)
 simp only [Tryz.f141, oD]
 refine Tri.step ze ?_
 simp +decide only [fnW, fnC, zb, za, hpin, go_sem, aD, mU]
 refine Tri.step ze ?_
 simp +decide only [hf, hb1, hb2, fnW, fnC, zb, za, hpin, go_sem, aD, mU]
 refine zf ze _ ?_
 simp +decide only [htf, fnW, fnC, zb, za, hpin, go_sem, aD, mU]
theorem Xg (p : ProgramD) (hf : p.fns.length <= 1048576) (hn : p.nodes.length <= 1048576) (hk : ∀ x ∈ p.nodes, x.kids.length <= 1048576) (hpl : ∀ f ∈ p.fns, f.params.length <= 1048576) :
 zx Tryz.prog 62 [.ro (zb p)] (fun rs st => rs = [(true, za false p)]) := by
 refine zp (fn := Tryz.f62) (c := Tryz.f62.body.getD .skip) (res := [.ce 2 36]) (n := 26) ze (by kernel_rfl) (by rfl) (by kernel_rfl) (by rfl) (by rfl) (by simp [zu]) (fun uf ub C hpin hpin2 hfull => ?_)
 simp only [Tryz.f62, oD]
 refine Tri.step ze ?_
 simp +decide only [zb, za, hpin, go_sem, aD, mU]
 refine Tri.ent ?_ (Ent.frb hfull 1)
 refine Tri.step ze ?_
 simp +decide only [zb, za, hpin, go_sem, aD, mU]
 refine zd (zcW p.nodes hn hk) hpin ?_
 simp +decide only [zb, za, hpin, go_sem, aD, mU]
 refine Tri.ent ?_ (Ent.nilr 3 1 104)
 refine Tri.step ze ?_
 simp +decide only [zb, za, hpin, go_sem, aD, mU]
 refine Tri.loop (ι := Nat) (fun i => i <= p.fns.length) (fun i => ⟨26, [(2, .bp 2 0), (3, .bp 3 0), (11, .imm 104 (rows (fnC true) p.fns)), (12, vI p.fns.length), (13, vI i)], [(2, .box [.sc (.slice none 0 0), .sc (.slice none 0 0)]), (3, .box [.row false 83 (rows (zg false) p.nodes), .row false 104 (rows (fnC false) (p.fns.take i))])]⟩) (fun i => p.fns.length - i) 0 (by simp) ?_ ?_
 · refine Ent.weak ?_ ?_ ?_ ?_ <;> simp +decide [subT, subB, zj, zi, zm, St.get, look, vI, vB, vS, cI, cS, cB, zg, za, roI, rows, St.nilr, St.swap]
 · rintro i hi
   refine zf ze _ ?_
   have htl := zbY hi
   by_cases h' : i < p.fns.length
   · have e : ((i : Int) < (p.fns.length : Int)) = True := by simp [h']
     have hx : (rows (fnC true) p.fns).getD i [] = fnC true p.fns[i] := zk _ _ h'
     have hkx := hpl p.fns[i] (lM h')
     have hsn := znr (p.fns.take i) p.fns[i]
     rw [<- zgo h'] at hsn
     generalize p.fns[i] = f at hx hkx hsn
     have hcf := zcK f hkx
     simp only [fnW] at hcf
     have hb1 : i + 1 <= 140737488355328 := by omega
     have hb2 : (i + 1) * 64 <= 140737488355328 := by omega
     simp +decide only [e, h', hx, fnC, iN, vB, vI, zb, za, hpin, go_sem, aD, mU]
     refine Tri.ent ?_ (Ent.frb hfull 5)
     refine Tri.fork ze (.one 0 true (.one 2 true (.two 1 (.one 3 false (.one 4 false (.one 5 false (.one 6 false (.one 7 false .done))))) 3 (.two 1 (.one 4 false (.one 5 false (.one 6 false (.one 7 false .done)))) 4 (.one 1 false (.one 5 false (.one 6 false (.one 7 false .done)))))))) zO (by kernel_rfl) (fun C2 hC2 => ?_)
     have hp2 := zP hC2 hpin
     simp +decide only [fnC, zb, za, hp2, hpin, go_sem, aD, mU]
     have htl1 := zbY (l := p.fns) (i := i + 1) h'
     refine ⟨zd hcf hp2 ?_, zd hcf hp2 ?_⟩
     · simp +decide only [hb1, hb2, htl, htl1, hsn, fnC, zb, za, hp2, hpin, go_sem, aD, mU]
       refine ⟨i + 1, h', by omega, Ent.weak ?_ ?_ ?_ ?_⟩
       all_goals simp +decide [subT, subB, zj, zi, zm, St.get, look, vI, vB, vS, cI, cS, cB, zg, za, roI, hsn, w64s (n := p.fns.length) h' (by omega)]
     · simp +decide only [hb1, hb2, htl, htl1, hsn, fnC, zb, za, hp2, hpin, go_sem, aD, mU]
       refine ⟨?_, ?_⟩ <;> refine ⟨i + 1, h', by omega, Ent.weak ?_ ?_ ?_ ?_⟩
       all_goals simp +decide [subT, subB, zj, zi, zm, St.get, look, vI, vB, vS, cI, cS, cB, zg, za, roI, hsn, w64s (n := p.fns.length) h' (by omega)]
   · have hil : i = p.fns.length := by omega
     subst hil
     have e : ((p.fns.length : Int) < (p.fns.length : Int)) = False := by simp
     simp +decide only [e, vB, vI, zb, za, hpin, go_sem, aD, mU]
     refine zf ze _ ?_
     simp +decide only [zb, za, hpin, go_sem, aD, mU]
theorem zgO (p : ProgramD) (hf : p.fns.length <= 1048576) (hn : p.nodes.length <= 1048576) (hk : ∀ x ∈ p.nodes, x.kids.length <= 1048576) (hpl : ∀ f ∈ p.fns, f.params.length <= 1048576) :
 zx Tryz.prog 53 [.ro (zb p)] (fun rs st => rs = [(true, za false p)]) := by
 refine zp (fn := Tryz.f53) (c := Tryz.f53.body.getD .skip) (res := [.ce 2 36]) (n := 34) ze (by kernel_rfl) (by rfl) (by kernel_rfl) (by rfl) (by rfl) (by simp [zu]) (fun uf ub C hpin hpin2 hfull => ?_)
 simp only [Tryz.f53, oD]
 refine Tri.step ze ?_
 simp +decide only [zb, za, hpin, go_sem, aD, mU]
 refine Tri.ent ?_ (Ent.frb hfull 1)
 refine Tri.step ze ?_
 simp +decide only [zb, za, hpin, go_sem, aD, mU]
 refine zd (zcV p.nodes hn hk) hpin ?_
 simp +decide only [zb, za, hpin, go_sem, aD, mU]
 refine Tri.ent ?_ (Ent.nilr 3 1 104)
 refine Tri.step ze ?_
 simp +decide only [zb, za, hpin, go_sem, aD, mU]
 refine Tri.loop (ι := Nat) (fun i => i <= p.fns.length) (fun i => ⟨34, [(1, .ip (za true p) 0), (2, .bp 2 0), (3, .bp 3 0), (4, vI i)], [(2, .box [.sc (.slice none 0 0), .sc (.slice none 0 0)]), (3, .box [.row false 83 (rows (zg false) p.nodes), .row false 104 (rows (fnC false) (p.fns.take i))])]⟩) (fun i => p.fns.length - i) 0 (by simp) ?_ ?_
 · refine Ent.weak ?_ ?_ ?_ ?_ <;> simp +decide [subT, subB, zj, zi, zm, St.get, look, vI, vB, vS, cI, cS, cB, zg, za, roI, rows, St.nilr, St.swap]
 · rintro i hi
   refine zf ze _ ?_
   have htl := zbY hi
   by_cases h' : i < p.fns.length
   · have e : ((i : Int) < (p.fns.length : Int)) = True := by simp [h']
     have hx : (rows (fnC true) p.fns).getD i [] = fnC true p.fns[i] := zk _ _ h'
     have hkx := hpl p.fns[i] (lM h')
     have hsn := znr (p.fns.take i) p.fns[i]
     rw [<- zgo h'] at hsn
     generalize p.fns[i] = f at hx hkx hsn
     have hfr := zaZ f.params
     have htf := zdT f.params
     have htl1 := zbY (l := p.fns) (i := i + 1) h'
     have hb1 : i + 1 <= 140737488355328 := by omega
     have hb2 : (i + 1) * 64 <= 140737488355328 := by omega
     have hb3 : f.params.length <= 140737488355328 := by omega
     have hb4 : f.params.length * 24 <= 140737488355328 := by omega
     rw [<- htf] at hsn
     simp +decide only [e, h', hx, hfr, hb1, hb2, hb3, hb4, htl, htl1, hsn, fnC, iN, vB, vI, zb, za, hpin, go_sem, aD, mU]
     refine ⟨i + 1, h', by omega, Ent.weak ?_ ?_ ?_ ?_⟩
     all_goals simp +decide [subT, subB, zj, zi, zm, St.get, look, vI, vB, vS, cI, cS, cB, zg, za, roI, hsn, w64s (n := p.fns.length) h' (by omega)]
   · have hil : i = p.fns.length := by omega
     subst hil
     have e : ((p.fns.length : Int) < (p.fns.length : Int)) = False := by simp
     simp +decide only [e, vB, vI, zb, za, hpin, go_sem, aD, mU]
     refine zf ze _ ?_
     simp +decide only [zb, za, hpin, go_sem, aD, mU]
theorem zcl (x : ProgramD) (k : Int) (h0 : 0 <= k) (h1 : k + (sumN yF x.nodes : Nat) + (sumN fnN x.fns : Nat) < 4611686018427387904) :
 zx Tryz.prog 25 [.ro (zb ⟨yI k x.nodes, fnML (k + (sumN yF x.nodes : Nat)) x.fns⟩), .ro (.sc (.int .i64 k))] (fun rs st => rs = [(false, [cI ((k + (sumN yF x.nodes : Nat)) + (sumN fnN x.fns : Nat))])]) := by
 have n0 : ((k + (sumN yF x.nodes : Nat) : Int) < 0) = False := by simp; omega
 have n1 : (((k + (sumN yF x.nodes : Nat)) + (sumN fnN x.fns : Nat) : Int) < 0) = False := by simp; omega
 refine zq (fn := Tryz.f25) (c := Tryz.f25.body.getD .skip) (res := [.tm 4]) (n := 18) ze (by kernel_rfl) (by rfl) (by kernel_rfl) (by rfl) (by rfl) (by simp [zu]) (fun C hpin hfull => ?_)
 simp +decide only [Tryz.f25, zb, zb, za, hpin, go_sem, aD, mU]
 refine zd (zew x.nodes k (by omega) (by omega)) hpin ?_
 simp +decide only [n0, zb, zb, za, hpin, go_sem, aD, mU]
 refine zd (zgY x.fns (k + (sumN yF x.nodes : Nat)) (by omega) (by omega)) hpin ?_
 simp +decide only [n1, zb, zb, za, hpin, go_sem, aD, mU]
theorem zdd {α : Type} {f : α -> Nat} {c : Nat} : ∀ l : List α, (∀ x ∈ l, f x <= c) -> sumN f l <= c * l.length
 | [], _ => by simp [sumN]
 | a :: r, h => by
  have h1 := zdd r (fun x hx => h x (List.mem_cons_of_mem _ hx))
  have h2 := h a (List.mem_cons_self ..)
  simp only [sumN, List.map_cons, List.sum_cons] at h1 |-
  rw [List.length_cons, Nat.mul_add]
  omega
theorem zmV {nodes : List NodeD} (hD : Deep nodes) : ∀ x ∈ nodes, x.name.size <= 8 := fun x hx => by
 obtain ⟨i, hi, rfl⟩ := List.getElem_of_mem hx
 have hb := XN nodes i (hD.deep i hi)
 simp only [YI, Bool.and_eq_true, zby] at hb
 obtain ⟨_, _, _, _, hs, _⟩ := hb
 rw [zR hi] at hs
 unfold YZ at hs
 split at hs
 · unfold YJ at hs
   have := zy (Bool.and_eq_true_iff.1 hs).1
   omega
 · rw [of_decide_eq_true hs]; decide
theorem zox {p : ProgramD} {f : FnD} (h : XV p f = true) : f.name.size <= 8 /\ f.params.length <= 3 /\ ∀ x ∈ f.params, x.name.size <= 8 := by
 simp only [XV, Bool.and_eq_true, List.all_eq_true, ZP, decide_eq_true_eq] at h
 obtain ⟨h1, h2, _, h3, _⟩ := h
 unfold YJ at h1
 have e1 := zy (Bool.and_eq_true_iff.1 h1).1
 refine ⟨by omega, by omega, fun x hx => ?_⟩
 have h4 := (h3 x hx).1
 unfold YJ at h4
 have e2 := zy (Bool.and_eq_true_iff.1 h4).1
 omega
theorem zqi {p : ProgramD} (h0 : p.nodes.length <= 300) (h1 : p.fns.length <= 8) (h2 : ∀ x ∈ p.nodes, x.name.size <= 8 /\ x.kids.length <= 12) (h3 : ∀ f ∈ p.fns, f.name.size <= 8 /\ f.params.length <= 3 /\ ∀ x ∈ f.params, x.name.size <= 8) : zF p <= 100000 := by
 have e1 := zdd (f := zC) (c := 20) p.nodes (fun x hx => by
  have := h2 x hx
  unfold zC; omega)
 have e2 := zdd (f := ya) (c := 100) p.fns (fun f hf => by
  obtain ⟨g1, g2, g3⟩ := h3 f hf
  have e3 := zdd (f := zK) (c := 8) f.params (fun x hx => g3 x hx)
  unfold ya; omega)
 unfold zF
 omega
theorem zlx {p : ProgramD} (h : Right p) : zF p <= 100000 :=
 zqi h.few h.fns (fun x hx => ⟨zmV h.deep x hx, h.deep.few x hx⟩) (fun f hf => by
  obtain ⟨i, hi, rfl⟩ := List.getElem_of_mem hf
  exact zox (h.fn i hi))
structure PkS where
 to : List NodeD
 bad : Bool
def runB (V : Int -> PkS -> Int × PkS) : List Int -> PkS -> List Int × PkS
 | [], s => ([], s)
 | k :: r, s => if s.bad then ([], s) else ((V k s).1 :: (runB V r (V k s).2).1, (runB V r (V k s).2).2)
def zbu (x : NodeD) (q : List Int × PkS) : Int × PkS := (q.2.to.length, ⟨q.2.to ++ [⟨x.kind, x.num, x.name, q.1⟩], q.2.bad⟩)
def yW (s : PkS) : Int × PkS := (-1, ⟨s.to, true⟩)
def pkI (N : List NodeD) : Nat -> Int -> PkS -> Int × PkS
 | 0, _, s => yW s
 | d + 1, k, s => if s.bad || (!inI k 0 (N.length - 1) || decide (300 <= s.to.length)) then yW s else
  if (runB (pkI N d) (nAt N k).kids s).2.bad then (-1, (runB (pkI N d) (nAt N k).kids s).2) else
  if decide (300 <= (runB (pkI N d) (nAt N k).kids s).2.to.length) then yW (runB (pkI N d) (nAt N k).kids s).2 else zbu (nAt N k) (runB (pkI N d) (nAt N k).kids s)
def pkR (N : List NodeD) : Nat -> Int -> PkS -> Int × PkS
 | 0, _, s => yW s
 | d + 1, k, s => if s.bad || (!inI k 0 (N.length - 1) || decide (300 < s.to.length)) then yW s else zbu (nAt N k) (runB (pkR N d) (nAt N k).kids s)
theorem Xr (V : Int -> PkS -> Int × PkS) (l : List Int) {s : PkS} (h : s.bad = true) : runB V l s = ([], s) := by
 cases l with
 | nil => rfl
 | cons k r => unfold runB; rw [if_pos h]
theorem zdI (V : Int -> PkS -> Int × PkS) : ∀ (l : List Int) (s : PkS), (runB V l s).1.length <= l.length
 | [], s => by simp [runB]
 | k :: r, s => by
  unfold runB
  split
  · simp
  · simp only [List.length_cons]
    have := zdI V r (V k s).2
    omega
theorem zdH {V : Int -> PkS -> Int × PkS} {m : Nat} (h : ∀ k s, s.to.length <= m -> (V k s).2.to.length <= m) : ∀ (l : List Int) (s : PkS), s.to.length <= m -> (runB V l s).2.to.length <= m
 | [], s, hs => hs
 | k :: r, s, hs => by
  unfold runB
  split
  · exact hs
  · exact zdH h r _ (h k s hs)
theorem zax (N : List NodeD) : ∀ (d : Nat) (k : Int) (s : PkS), s.to.length <= 300 -> (pkI N d k s).2.to.length <= 300
 | 0, k, s, hs => hs
 | d + 1, k, s, hs => by
  have hr := zdH (V := pkI N d) (m := 300) (fun k s h => zax N d k s h) (nAt N k).kids s hs
  unfold pkI
  split
  · exact hs
  split
  · exact hr
  split
  · exact hr
  · rename_i h3
    simp only [decide_eq_true_eq] at h3
    simp only [zbu, List.length_append, List.length_singleton]
    omega
theorem zhR {V : Int -> PkS -> Int × PkS} {m : Nat} (h1 : ∀ k s, s.to.length <= 300 -> (V k s).2.to.length <= m) (h2 : ∀ k s, 300 < s.to.length -> (V k s).2.to = s.to /\ (V k s).2.bad = true) (hm : 300 <= m) : ∀ (l : List Int) (s : PkS), s.to.length <= m -> (runB V l s).2.to.length <= m
 | [], s, hs => hs
 | k :: r, s, hs => by
  unfold runB
  split
  · exact hs
  · by_cases h : s.to.length <= 300
    · exact zhR h1 h2 hm r _ (h1 k s h)
    · obtain ⟨g1, g2⟩ := h2 k s (by omega)
      rw [Xr V r g2]
      show (V k s).2.to.length <= m
      rw [g1]; exact hs
theorem zkD (N : List NodeD) (d : Nat) (k : Int) (s : PkS) (h : 300 < s.to.length) : (pkR N d k s).2.to = s.to /\ (pkR N d k s).2.bad = true := by
 cases d with
 | zero => exact ⟨rfl, rfl⟩
 | succ d =>
  unfold pkR
  rw [if_pos (by simp [h])]
  exact ⟨rfl, rfl⟩
theorem zkE (N : List NodeD) : ∀ (d : Nat) (k : Int) (s : PkS), s.to.length <= 300 -> (pkR N d k s).2.to.length <= 300 + d
 | 0, k, s, hs => hs
 | d + 1, k, s, hs => by
  unfold pkR
  split
  · show s.to.length <= _; omega
  · have hr := zhR (V := pkR N d) (m := 300 + d) (fun k s h => zkE N d k s h) (fun k s h => zkD N d k s h) (by omega) (nAt N k).kids s (by omega)
    simp only [zbu, List.length_append, List.length_singleton]
    omega
theorem zmQ (N : List NodeD) (d : Nat) (k : Int) (s : PkS) (m : Nat) (hm : 300 + d <= m) (hs : s.to.length <= m) : (pkR N d k s).2.to.length <= m := by
 by_cases h : s.to.length <= 300
 · have := zkE N d k s h; omega
 · obtain ⟨g1, _⟩ := zkD N d k s (by omega)
   rw [g1]; exact hs
theorem zdJ {V : Int -> PkS -> Int × PkS} (h : ∀ k s, s.to.length <= (V k s).2.to.length) : ∀ (l : List Int) (s : PkS), s.to.length <= (runB V l s).2.to.length
 | [], s => Nat.le_refl _
 | k :: r, s => by
  unfold runB
  split
  · exact Nat.le_refl _
  · exact Nat.le_trans (h k s) (zdJ h r _)
theorem zkF (N : List NodeD) : ∀ (d : Nat) (k : Int) (s : PkS), s.to.length <= (pkR N d k s).2.to.length
 | 0, k, s => Nat.le_refl _
 | d + 1, k, s => by
  unfold pkR
  split
  · exact Nat.le_refl _
  · have := zdJ (V := pkR N d) (fun k s => zkF N d k s) (nAt N k).kids s
    simp only [zbu, List.length_append, List.length_singleton]
    omega
def pkRel (s t : PkS) : Prop := (s.bad = false /\ t = s /\ s.to.length <= 300) \/ (s.bad = true /\ (t.bad = true \/ 300 < t.to.length))
theorem pkRel.stop {s t : PkS} : pkRel (yW s).2 (yW t).2 := Or.inr ⟨rfl, Or.inl rfl⟩
theorem zky {V W : Int -> PkS -> Int × PkS} (h : ∀ k s, s.bad = false -> s.to.length <= 300 -> pkRel (V k s).2 (W k s).2 /\ ((V k s).2.bad = false -> (V k s).1 = (W k s).1)) (hW : ∀ k t, (t.bad = true \/ 300 < t.to.length) -> (W k t).2.bad = true) :
 ∀ (l : List Int) (s t : PkS), pkRel s t -> pkRel (runB V l s).2 (runB W l t).2 /\ ((runB V l s).2.bad = false -> (runB V l s).1 = (runB W l t).1)
 | [], s, t, hr => ⟨hr, fun _ => rfl⟩
 | k :: r, s, t, hr => by
  rcases hr with ⟨h1, rfl, h3⟩ | ⟨h1, h2⟩
  · obtain ⟨g1, g2⟩ := h k t h1 h3
    obtain ⟨g3, g4⟩ := zky h hW r _ _ g1
    unfold runB
    rw [if_neg (by simp [h1]), if_neg (by simp [h1])]
    refine ⟨g3, fun hb => ?_⟩
    have hb0 : (V k t).2.bad = false := by
     cases hq : (V k t).2.bad with
     | false => rfl
     | true => rw [Xr V r hq] at hb; simp only at hb; rw [hq] at hb; exact hb
    simp only
    rw [g2 hb0, g4 hb]
  · rw [Xr V _ h1]
    refine ⟨Or.inr ⟨h1, ?_⟩, fun hb => by simp only at hb; rw [h1] at hb; cases hb⟩
    cases ht : t.bad with
    | true => rw [Xr W _ ht]; exact Or.inl ht
    | false =>
     unfold runB
     rw [if_neg (by simp [ht]), Xr W r (hW k t h2)]
     exact Or.inl (hW k t h2)
theorem zkC (N : List NodeD) (d : Nat) (k : Int) (t : PkS) (h : t.bad = true \/ 300 < t.to.length) : (pkR N d k t).2.bad = true := by
 cases d with
 | zero => rfl
 | succ d =>
  unfold pkR
  rw [if_pos (by rcases h with h | h <;> simp [h])]
  rfl
theorem zoX (N : List NodeD) : ∀ (d : Nat) (k : Int) (s : PkS), s.bad = false -> s.to.length <= 300 -> pkRel (pkI N d k s).2 (pkR N d k s).2 /\ ((pkI N d k s).2.bad = false -> (pkI N d k s).1 = (pkR N d k s).1)
 | 0, k, s, h1, h2 => ⟨Or.inr ⟨rfl, Or.inl rfl⟩, fun hb => by cases hb⟩
 | d + 1, k, s, h1, h2 => by
  have hrun := zky (V := pkI N d) (W := pkR N d) (fun k s g1 g2 => zoX N d k s g1 g2) (fun k t ht => zkC N d k t ht) (nAt N k).kids s s (Or.inl ⟨h1, rfl, h2⟩)
  have hmost := zdH (V := pkI N d) (m := 300) (fun k s h => zax N d k s h) (nAt N k).kids s h2
  have hgrow := zdJ (V := pkR N d) (fun k s => zkF N d k s) (nAt N k).kids s
  unfold pkI pkR
  generalize runB (pkI N d) (nAt N k).kids s = q at hrun hmost
  generalize runB (pkR N d) (nAt N k).kids s = z at hrun hgrow
  obtain ⟨hr, hf⟩ := hrun
  cases hi : inI k 0 (N.length - 1) with
  | false =>
   simp only [Bool.not_false, bT, Bool.or_true, if_true]
   exact ⟨Or.inr ⟨rfl, Or.inl rfl⟩, fun hb => by cases hb⟩
  | true =>
   simp only [h1, Bool.not_true, bO, decide_eq_true_eq]
   have h4 : ¬ 300 < s.to.length := by omega
   rw [if_neg h4]
   by_cases h300 : 300 <= s.to.length
   · rw [if_pos h300]
     refine ⟨Or.inr ⟨rfl, Or.inr ?_⟩, fun hb => by cases hb⟩
     simp only [zbu, List.length_append, List.length_singleton]
     omega
   · rw [if_neg h300]
     rcases hr with ⟨e1, e2, e3⟩ | ⟨e1, e2⟩
     · have e4 : ¬ q.2.bad = true := by simp [e1]
       rw [if_neg e4]
       by_cases hq : 300 <= q.2.to.length
       · rw [if_pos hq]
         refine ⟨Or.inr ⟨rfl, Or.inr ?_⟩, fun hb => by cases hb⟩
         simp only [zbu, List.length_append, List.length_singleton, e2]
         omega
       · rw [if_neg hq]
         have ez : z = q := Prod.ext (hf e1).symm e2
         subst ez
         refine ⟨Or.inl ⟨e1, rfl, ?_⟩, fun _ => rfl⟩
         simp only [zbu, List.length_append, List.length_singleton]
         omega
     · rw [if_pos e1]
       refine ⟨Or.inr ⟨e1, ?_⟩, fun hb => by simp only at hb; rw [e1] at hb; cases hb⟩
       rcases e2 with e2 | e2
       · exact Or.inl e2
       · refine Or.inr ?_
         simp only [zbu, List.length_append, List.length_singleton]
         omega
def pkFn (V : Int -> PkS -> Int × PkS) (f : FnD) (s : PkS) : FnD × PkS :=
 if decide (0 <= f.ret) then (⟨f.name, f.params, f.res, (V f.body s).1, (V f.ret (V f.body s).2).1⟩, (V f.ret (V f.body s).2).2) else (⟨f.name, f.params, f.res, (V f.body s).1, f.ret⟩, (V f.body s).2)
def Zu (V : Int -> PkS -> Int × PkS) : List FnD -> PkS -> List FnD × PkS
 | [], s => ([], s)
 | f :: r, s => ((pkFn V f s).1 :: (Zu V r (pkFn V f s).2).1, (Zu V r (pkFn V f s).2).2)
def pk0 : PkS := ⟨[], false⟩
def zcb (p : ProgramD) : List FnD × PkS := Zu (pkI p.nodes 10) p.fns pk0
def zlF (p : ProgramD) : List FnD × PkS := Zu (pkR p.nodes 10) p.fns pk0
def zcc (p : ProgramD) : Bool := !(zcb p).2.bad
def zag (p : ProgramD) : ProgramD := if zcc p then ⟨(zcb p).2.to, (zcb p).1⟩ else ⟨[], []⟩
theorem zjB (N : List NodeD) (d : Nat) (k : Int) (s : PkS) (h : s.bad = true) : pkI N d k s = (-1, s) := by
 have e : yW s = (-1, s) := by unfold yW; cases s; simp only at h; subst h; rfl
 cases d with
 | zero => exact e
 | succ d =>
  unfold pkI
  rw [if_pos (by simp [h])]
  exact e
theorem zog (N : List NodeD) (d : Nat) (f : FnD) (s t : PkS) (hr : pkRel s t) : pkRel (pkFn (pkI N d) f s).2 (pkFn (pkR N d) f t).2 /\ ((pkFn (pkI N d) f s).2.bad = false -> (pkFn (pkI N d) f s).1 = (pkFn (pkR N d) f t).1) := by
 have one : ∀ k s t, pkRel s t -> pkRel (pkI N d k s).2 (pkR N d k t).2 /\ ((pkI N d k s).2.bad = false -> s.bad = false /\ (pkI N d k s).1 = (pkR N d k t).1) := fun k s t hr => by
  rcases hr with ⟨h1, rfl, h3⟩ | ⟨h1, h2⟩
  · obtain ⟨g1, g2⟩ := zoX N d k t h1 h3
    exact ⟨g1, fun hb => ⟨h1, g2 hb⟩⟩
  · rw [zjB N d k s h1]
    exact ⟨Or.inr ⟨h1, Or.inl (zkC N d k t h2)⟩, fun hb => by simp only at hb; rw [h1] at hb; cases hb⟩
 obtain ⟨g1, g2⟩ := one f.body s t hr
 obtain ⟨g3, g4⟩ := one f.ret _ _ g1
 unfold pkFn
 split
 · refine ⟨g3, fun hb => ?_⟩
   obtain ⟨e1, e2⟩ := g4 hb
   simp only
   rw [(g2 e1).2, e2]
 · refine ⟨g1, fun hb => ?_⟩
   simp only
   rw [(g2 hb).2]
theorem zhZ (N : List NodeD) (d : Nat) : ∀ (l : List FnD) (s t : PkS), pkRel s t -> pkRel (Zu (pkI N d) l s).2 (Zu (pkR N d) l t).2 /\ ((Zu (pkI N d) l s).2.bad = false -> s.bad = false /\ (Zu (pkI N d) l s).1 = (Zu (pkR N d) l t).1)
 | [], s, t, hr => ⟨hr, fun hb => ⟨hb, rfl⟩⟩
 | f :: r, s, t, hr => by
  obtain ⟨g1, g2⟩ := zog N d f s t hr
  obtain ⟨g3, g4⟩ := zhZ N d r _ _ g1
  unfold Zu
  refine ⟨g3, fun hb => ?_⟩
  obtain ⟨e1, e2⟩ := g4 hb
  refine ⟨?_, by simp only; rw [g2 e1, e2]⟩
  cases hs : s.bad with
  | false => rfl
  | true =>
   exfalso
   have : (pkFn (pkI N d) f s).2.bad = true := by
    unfold pkFn
    rw [zjB N d _ s hs]
    simp only
    rw [zjB N d _ s hs]
    split <;> exact hs
   rw [this] at e1; cases e1
theorem zlE (p : ProgramD) : ((!((zlF p).2.bad || decide (300 < (zlF p).2.to.length))) = zcc p) /\ (zcc p = true -> zlF p = zcb p) := by
 obtain ⟨h1, h2⟩ := zhZ p.nodes 10 p.fns pk0 pk0 (Or.inl ⟨rfl, rfl, by simp [pk0]⟩)
 unfold zcc zcb zlF
 generalize Zu (pkI p.nodes 10) p.fns pk0 = q at h1 h2
 generalize Zu (pkR p.nodes 10) p.fns pk0 = z at h1 h2
 rcases h1 with ⟨e1, e2, e3⟩ | ⟨e1, e2⟩
 · rw [e2, e1]
   refine ⟨by simp; omega, fun _ => Prod.ext (h2 e1).2.symm e2⟩
 · rw [e1]
   refine ⟨?_, fun h => by cases h⟩
   rcases e2 with e2 | e2 <;> simp [e2]
set_option maxHeartbeats 4000000
section
variable {P : Program} {w w1 : World} {C : Cx} {X : Nat -> Prop} {gh gh' : Gh} {st st' : St} {a : Act} {v : V} {u : Value} {K : St -> Prop}
theorem zoT {f : FuncId} {km om : Nat} {em : TypeId} {esm : List (List D)} {ts : (Nat -> Value) -> List V} {iob : List (Nat × Ob)} {post : List RV -> St -> Prop} (hs : SoundAt P f ts iob post) (hpin : ∀ n, 3000 <= n -> C.pin n = none) (hfull : C.full) (M Mk Mr Mb : List (Nat × Nat)) (hMM : M = Mr ++ Mb) (hMv : M = (km, om) :: Mk) (hom : look st.ob om = some (.row em esm)) {vs : List V} {d : Option Nat}
 (hM : ioIs st iob M) (hMr : zaX st Mr) (hMk : (M.map (·.1)).Nodup) (hMo : (M.map (·.2)).Nodup) (hiob : iob.map (·.1) = M.map (·.1)) (hl : ∀ uf, XF ⟨Mr, uf, pvOf C, [], iob⟩ Mb vs (ts uf))
 (hns : ∀ rs st', post rs st' -> zbG iob st'.ob Mk) (hK : ∀ rs st', post rs st' -> ev (b := ⟨K⟩) (zaq ((st.kill om).wrote Mk st'.ob) d rs)) : znJ P C st f vs d K := by
 refine Or.inl ⟨hs.1, fun a w gh us h hus hv hd => ?_⟩
 classical
 let os := M.map (·.2)
 let gh0 : Gh := { S := gh.S, hv := fun k => match look M k with | some o => gh.hv o | none => undef, bb := fun k => match look M k with | some o => gh.bb o | none => 0, bo := fun k => match look M k with | some o => gh.bo o | none => 0, F := fun k b => ∃ o, look M k = some o /\ gh.F o b }
 let may : Nat -> Nat -> Prop := fun b f => ∃ k o x, look M k = some o /\ look st.ob o = some x /\ gh.F o b /\ (∀ cs, x = .box cs -> b = gh.bb o -> gh.bo o <= f /\ f < gh.bo o + cs.length)
 let C0 : Cx := { w0 := w, s0 := gh0.S, may := may, pin := fun k => if xu k = true then some (gh0.hv k, gh0.bb k, gh0.bo k) else none, z := fun k => gh.S k \/ w.heap.size <= k \/ ∃ f, may k f }
 obtain ⟨hlen, hl⟩ := zak (hl gh0.hv)
 have hosm : ∀ k o, look M k = some o -> o ∈ os /\ xu k = true /\ ∃ x, look st.ob o = some x /\ look iob k = some x := fun k o hk => by
  have hm := yO hk
  obtain ⟨g1, x, g2, g3, _⟩ := XH hM k o hm
  exact ⟨List.mem_map.2 ⟨(k, o), hm, rfl⟩, g1, x, g2, g3⟩
 have hiobM : ∀ k x, look iob k = some x -> ∃ o, look M k = some o /\ look st.ob o = some x := fun k x hx => by
  have h1 : k ∈ iob.map (·.1) := List.mem_map.2 ⟨(k, x), yO hx, rfl⟩
  rw [hiob] at h1
  obtain ⟨⟨k', o⟩, hm, rfl⟩ := List.mem_map.1 h1
  have hk := yz hMk hm
  obtain ⟨_, _, x', g1, g2⟩ := hosm _ _ hk
  rw [hx] at g2; cases g2
  exact ⟨o, hk, g1⟩
 have hF0 : ∀ k o, look M k = some o -> gh0.F k = gh.F o := fun k o hk => by
  funext b; exact propext ⟨fun ⟨o', ho', hb⟩ => by rw [hk] at ho'; cases ho'; exact hb, fun hb => ⟨o, hk, hb⟩⟩
 have hv0 : ∀ k o, look M k = some o -> gh0.hv k = gh.hv o /\ gh0.bb k = gh.bb o /\ gh0.bo k = gh.bo o := fun k o hk => by simp only [gh0, hk, and_self]
 have hrep : Rep P C0 No ⟨us.size, zipT 0 (ts gh0.hv), iob⟩ ⟨us, []⟩ w gh0 := {
  obs := fun k b hb => by
   obtain ⟨o, hk, ho⟩ := hiobM k b hb
   obtain ⟨g1, g2, g3⟩ := hv0 k o hk
   exact (h.obs o b ho).at (gh' := gh0) rfl g1 g2 g3 (hF0 k o hk)
  dis := fun k k' b b' q hb hb' ⟨o, ho, hq⟩ ⟨o', ho', hq'⟩ => by
   obtain ⟨_, _, x, g1, _⟩ := hosm k o ho
   obtain ⟨_, _, x', g1', _⟩ := hosm k' o' ho'
   have := h.dis o o' _ _ q g1 g1' hq hq'
   subst this
   exact YW hMo (yO ho) (yO ho')
  sS := h.sS
  nS := fun k b q hb ⟨o, ho, hq⟩ hS => by
   obtain ⟨g0, _, x, g1, _⟩ := hosm k o ho
   exact h.nS o _ q g1 hq hS
  wrR := fun k e es q hb ⟨o, ho, hq⟩ => Or.inr (fun f => by
   obtain ⟨_, _, x, g1, g2⟩ := hosm k o ho
   have hb : look iob k = some (.row e es) := hb
   rw [g2] at hb; cases hb
   exact ⟨k, o, _, ho, g1, hq, fun cs hc => by cases hc⟩)
  wrB := fun k cs q hb ⟨o, ho, hq⟩ hne => Or.inr (fun f => by
   obtain ⟨_, _, x, g1, g2⟩ := hosm k o ho
   exact ⟨k, o, _, ho, g1, hq, fun cs' _ he => (hne (by rw [(hv0 k o ho).2.1]; exact he)).elim⟩)
  wrC := fun k cs j hb hj => Or.inr (by
   obtain ⟨o, hk, ho⟩ := hiobM k _ hb
   obtain ⟨g1, g2, g3⟩ := hv0 k o hk
   rw [g2, g3]
   refine ⟨k, o, _, hk, ho, ?_, fun cs' hc _ => by cases hc; exact ⟨by omega, by omega⟩⟩
   have := h.obs o _ ho
   cases this with
   | box xs G hb hl h1 hc hxx dis nb hF => exact (hF _).2 (Or.inl rfl))
  kept := World.keptBut_refl w _
  pins := fun k x hp hn => by
   simp only [C0] at hp
   split at hp
   · cases hp; rfl
   · cases hp
  tms := fun t => by
   have e1 : St.get ⟨us.size, zipT 0 (ts gh0.hv), iob⟩ t = ((ts gh0.hv)[t]?).getD .dead := by
    unfold St.get; simp only [ZH, Nat.zero_le, if_true, Nat.sub_zero]
   rw [e1]
   cases hi : (ts gh0.hv)[t]? with
   | none => exact .dead
   | some x =>
    have hlt := (List.getElem?_eq_some_iff.1 hi).1
    have hvt : vs[t]? = some vs[t] := lE (by omega)
    have hle := hl t _ x hvt hi
    have hvr := hv t _ hvt
    simp only [oD]
    have low : xQ ⟨Mr, gh0.hv, pvOf C, [], iob⟩ vs[t] x -> VR P w gh0 iob x (us.getD t undef) := fun hle => by
     refine zaB (gh0 := gh0) (L := ⟨Mr, gh0.hv, pvOf C, [], iob⟩) (fun k o hk => ?_) (fun o v hv hso => ?_) h.obs (fun k hk => hk) (fun o x k hx hk => by simp [look] at hx) (fun o x hx => by simp [look] at hx) hvr hle
     · have hmm : (k, o) ∈ M := by rw [hMM]; exact List.mem_append_left _ hk
       have hk' := yz hMk hmm
       obtain ⟨_, _, x', g1, g2⟩ := hosm k o hk'
       obtain ⟨e, es, g3⟩ := zaW hMr k o hk
       rw [g3] at g1; cases g1
       exact ⟨e, es, g3, g2, (hv0 k o hk').1, rfl⟩
     · obtain ⟨x, hx, rfl⟩ := oM.1 hv
       have := h.pins o x hx (fun e => by rw [e] at hso; cases hso)
       rw [<- this]
    unfold ziv at hle
    split at hle
    · rename_i o j heq
      rw [heq] at hvr
      split at hle
      · rename_i k j'
        obtain ⟨hk0, rfl⟩ := hle
        have hmm : (k, o) ∈ M := by rw [hMM]; exact List.mem_append_right _ (yO hk0)
        have hk' := yz hMk hmm
        obtain ⟨g1, g2, g3⟩ := hv0 k o hk'
        obtain ⟨_, _, x', g4, g5⟩ := hosm k o hk'
        generalize us.getD t undef = u0 at hvr
        cases hvr with
        | bp hx =>
         rw [hx] at g4; cases g4
         have := VR.bp (P := P) (w := w) (gh := gh0) (j := j) g5
         rw [g2, g3] at this; exact this
      · exact hle.elim
    · rename_i ch j heq
      rw [heq] at hvr
      split at hle
      · obtain ⟨rfl, rfl⟩ := hle
        generalize us.getD t undef = u0 at hvr
        cases hvr with
        | ip U hs' h' => exact .ip U hs' h'
      · exact hle.elim
    · exact low hle
  nt := Nat.le_refl _
  dfs := rfl
  xl := fun k hk => hk.elim
  xS := fun k hk => hk.elim
  xF := fun o b k hb hk => hk.elim
  xW := fun k hk => hk.elim
  s0S := fun k hk => hk
  sZ := fun k hk => Or.inl hk }
 refine (hs.2 gh0.hv (fun o => (gh0.bb o, gh0.bo o)) C0 w gh0 us rfl (fun o ho => by simp only [C0, ho]; rfl) (fun o ho => by simp only [C0, ho]; rfl) (fun k hk => Or.inr hk) (by omega) hrep).mono (fun e w' he => ?_)
 obtain ⟨vs', rs, st', a', gc, G, rfl, hpost, hres, hR⟩ := he
 refine ⟨tupV vs', rfl, ?_⟩
 have hlike := hns rs st' hpost
 have hk := hR.kept
 have mayos : ∀ b f, may b f -> ∃ o x, o ∈ os /\ look st.ob o = some x /\ gh.F o b := fun b f ⟨k, o, x, hk, hx, hb, _⟩ => ⟨o, x, (hosm k o hk).1, hx, hb⟩
 have allmay : ∀ b, (∀ f, may b f) -> ∃ o x, o ∈ os /\ look st.ob o = some x /\ gh.F o b /\ ∀ cs, x = .box cs -> b ≠ gh.bb o := fun b hb => by
  obtain ⟨k, o, x, hk, hx, hF, _⟩ := hb 0
  refine ⟨o, x, (hosm k o hk).1, hx, hF, fun cs hc he => ?_⟩
  obtain ⟨k2, o2, x2, hk2, hx2, hF2, h2⟩ := hb (gh.bo o + cs.length)
  have := h.dis o o2 _ _ b hx hx2 hF hF2
  subst this
  rw [hx] at hx2; cases hx2
  have := h2 cs hc he
  omega
 have wr0 : ∀ o x b, look st.ob o = some x -> gh.F o b -> (∀ cs, x = .box cs -> b ≠ gh.bb o) -> C.w0.heap.size <= b \/ ∀ f, C.may b f := fun o x b hx hb hc => by
  cases x with
  | row e es => exact h.wrR o e es b hx hb
  | box cs => exact h.wrB o cs b hx hb (hc cs rfl)
 have wrA : ∀ b, (∀ f, may b f) -> C.w0.heap.size <= b \/ ∀ f, C.may b f := fun b hb => by
  obtain ⟨o, x, _, hx, hF, hc⟩ := allmay b hb
  exact wr0 o x b hx hF hc
 have wr1 : ∀ b f, may b f -> C.w0.heap.size <= b \/ C.may b f := fun b f ⟨k, o, x, hk, hx, hF, hc⟩ => by
  by_cases hbx : ∀ cs, x = .box cs -> b ≠ gh.bb o
  · exact (wr0 o x b hx hF hbx).imp id (fun hh => hh f)
  · simp only [Classical.not_forall] at hbx
    obtain ⟨cs, hcs, hne⟩ := hbx
    have he : b = gh.bb o := Classical.not_not.1 hne
    subst hcs
    obtain ⟨g1, g2⟩ := hc cs rfl he
    have := h.wrC o cs (f - gh.bo o) hx (by omega)
    rw [show gh.bo o + (f - gh.bo o) = f by omega] at this
    rw [he]; exact this
 have heap : ∀ k, k < w.heap.size -> ¬ (∃ f, may k f) -> w'.heap[k]? = w.heap[k]? := by
  intro k hk' hn
  refine xG hk hk' (fun f hm => ?_) (fun hm => ?_)
  · obtain ⟨b, f', e, hm⟩ := hm
    injection e with e1 e2
    rw [<- e1, <- e2] at hm
    exact hn ⟨f, hm⟩
  · obtain ⟨b, f', e, _⟩ := hm
    cases e
 have hsub : ∀ {k o}, (k, o) ∈ Mk -> (k, o) ∈ M := fun h => by rw [hMv]; exact List.mem_cons_of_mem _ h
 let osk := Mk.map (·.2)
 have homk : om ∉ osk := fun ho => by
  have := hMo
  rw [hMv, List.map_cons, List.nodup_cons] at this
  exact this.1 ho
 have h' := h.take hom
 have hlk : ∀ o, look (st.kill om).ob o = if om = o then none else look st.ob o := yl st om
 have hos2 : ∀ o, o ∈ os -> o = om \/ o ∈ osk := fun o ho => by
  have ho' : o ∈ M.map (·.2) := ho
  rw [hMv, List.map_cons] at ho'
  exact List.mem_cons.1 ho'
 have hnew : ∀ k o, (k, o) ∈ Mk -> ∃ x y, look st.ob o = some x /\ look st'.ob k = some y /\ x.like y := fun k o hm => by
  obtain ⟨_, x, g1, g2, _⟩ := XH hM k o (hsub hm)
  obtain ⟨x', y, g3, g4, g5⟩ := zck hlike k o hm
  rw [g2] at g3; cases g3
  exact ⟨x, y, g1, g4, g5⟩
 have hnewo : ∀ o, o ∈ osk -> ∃ k y, (k, o) ∈ Mk /\ look st'.ob k = some y /\ look (Ze st'.ob Mk) o = some y := fun o ho => by
  obtain ⟨k, hm, hl'⟩ := (Za st'.ob Mk o).1 ho
  obtain ⟨x, y, _, g2, _⟩ := hnew k o hm
  rw [g2] at hl'
  exact ⟨k, y, hm, g2, hl'⟩
 have hlook : ∀ o, look ((st.kill om).wrote Mk st'.ob).ob o = if o ∈ osk then look (Ze st'.ob Mk) o else look (st.kill om).ob o := fun o => by
  simp only [St.wrote, XD, ZW]
  by_cases ho : o ∈ osk
  · obtain ⟨k, y, _, _, g⟩ := hnewo o ho
    have ho' : o ∈ Mk.map (·.2) := ho
    simp only [if_pos ho', if_pos ho, g, Option.or_none]
  · have hn := (Za st'.ob Mk o).2 ho
    have ho' : o ∉ Mk.map (·.2) := ho
    simp only [if_neg ho', if_neg ho, hn, Option.none_or]
 let ghn : Gh := { S := gc.S, hv := gh.hv, bb := gh.bb, bo := gh.bo, F := fun o => if o ∈ osk then (fun b => ∃ k, (k, o) ∈ Mk /\ gc.F k b) else gh.F o }
 have gin : ∀ k o, (k, o) ∈ Mk -> ghn.F o = gc.F k := fun k o hm => by
  have ho : o ∈ osk := List.mem_map.2 ⟨(k, o), hm, rfl⟩
  simp only [ghn, if_pos ho]
  funext b
  exact propext ⟨fun ⟨k', hm', hb⟩ => by have := YW hMo (hsub hm) (hsub hm'); subst this; exact hb, fun hb => ⟨k, hm, hb⟩⟩
 have gout : ∀ o, o ∉ osk -> ghn.F o = gh.F o := fun o ho => by simp only [ghn]; rw [if_neg ho]
 have hpn : ∀ k o, (k, o) ∈ Mk -> gc.hv k = gh.hv o /\ gc.bb k = gh.bb o /\ gc.bo k = gh.bo o := fun k o hm => by
  have hkl := yz hMk (hsub hm)
  obtain ⟨x, y, _, g2, _⟩ := hnew k o hm
  have hp := hR.pins k (gh0.hv k, gh0.bb k, gh0.bo k) (by simp only [C0]; rw [if_pos (hosm k o hkl).2.1]) (by rw [g2]; simp)
  obtain ⟨g1, g2, g3⟩ := hv0 k o hkl
  rw [g1, g2, g3] at hp
  simp only [Prod.mk.injEq] at hp
  exact hp
 have newB : ∀ b, (w.heap.size <= b \/ ∃ f, may b f) -> (∃ o', o' ∈ osk /\ gh.F o' b) \/ (No b \/ gh.F om b) \/ w.heap.size <= b := fun b hb => by
  rcases hb with hb | ⟨f, hb⟩
  · exact Or.inr (Or.inr hb)
  · obtain ⟨o, x, ho, _, hF⟩ := mayos b f hb
    rcases hos2 o ho with rfl | ho
    · exact Or.inr (Or.inl (Or.inr hF))
    · exact Or.inl ⟨o, ho, hF⟩
 have fullB : ∀ b, (w.heap.size <= b \/ ∃ f, may b f) -> C.z b := fun b hb => hfull b (by
  rcases hb with hb | ⟨f, hb⟩
  · exact Or.inl (Nat.le_trans h.size hb)
  · exact (wr1 b f hb).imp id (fun hh => ⟨f, hh⟩))
 have cF : ∀ k o, (k, o) ∈ Mk -> ∀ b, gc.F k b -> (w.heap.size <= b \/ ∃ f, may b f) /\ (∀ y, look st'.ob k = some y -> (∀ cs, y = .box cs -> b ≠ gh.bb o) -> C.w0.heap.size <= b \/ ∀ f, C.may b f) := fun k o hm b hb => by
  obtain ⟨x, y, g1, g2, g3⟩ := hnew k o hm
  have hp := hpn k o hm
  have all : (∀ cs, y = .box cs -> b ≠ gh.bb o) -> w.heap.size <= b \/ ∀ f, may b f := fun hc => by
   cases y with
   | row e es => exact hR.wrR k e es b g2 hb
   | box cs => exact hR.wrB k cs b g2 hb (by rw [hp.2.1]; exact hc cs rfl)
  refine ⟨?_, fun y' hy' hc => ?_⟩
  · by_cases hbb : b = gh.bb o /\ ∃ cs, y = .box cs
    · obtain ⟨he, cs, rfl⟩ := hbb
      cases x with
      | row e es => simp [Ob.like] at g3
      | box cs0 =>
       have hob := h.obs o _ g1
       have hFb : gh.F o (gh.bb o) := by
        cases hob with
        | box xs G hb hl h1 hc hxx dis nb hF => exact (hF _).2 (Or.inl rfl)
       by_cases hn : 0 < cs0.length
       · exact Or.inr ⟨gh.bo o, k, o, _, yz hMk (hsub hm), g1, by rw [he]; exact hFb, fun cs' hc _ => by cases hc; omega⟩
       · obtain ⟨_, x1, q1, _, q3⟩ := XH hM k o (hsub hm)
         rw [g1] at q1; cases q1
         exact (q3 (by rw [List.eq_nil_of_length_eq_zero (by omega : cs0.length = 0)])).elim
    · exact (all (fun cs hc he => hbb ⟨he, cs, hc⟩)).imp id (fun hh => ⟨0, hh 0⟩)
  · rw [g2] at hy'; cases hy'
    rcases all hc with hh | hh
    · exact Or.inl (Nat.le_trans h.size hh)
    · exact wrA b hh
 have hin : Rep P C (YA rs G) ((st.kill om).wrote Mk st'.ob) a w' ghn := by
  refine h'.multiX osk ghn (YA rs G) (fun o ho => by rw [hlook, if_neg ho]) (fun t => by unfold St.get St.wrote; simp only [Zo]; cases look (st.kill om).tm t <;> simp [xf, osk]) rfl
   (fun o ho => by
    obtain ⟨k, y, hm, g2, g3⟩ := hnewo o ho
    obtain ⟨x, y', g4, g5, g6⟩ := hnew k o hm
    rw [g2] at g5; cases g5
    exact ⟨x, y, by rw [hlk, if_neg (fun e => homk (by rw [e]; exact ho))]; exact g4, by rw [hlook, if_pos ho]; exact g3, g6⟩)
   ⟨rfl, rfl, rfl⟩ gout hk.size
   (fun o x k ho hx hk' => by
    rw [hlk] at hx
    split at hx
    · cases hx
    · rename_i hne
      exact heap k ((h.obs o x hx).lt k hk') (fun ⟨f, hm⟩ => by
       obtain ⟨o', x', ho', hx', hF⟩ := mayos k f hm
       have := h.dis o o' x _ k hx hx' hk' hF
       subst this
       rcases hos2 o ho' with e | e
       · exact hne e.symm
       · exact ho e))
   (fun k hk' => heap k (h.sS k hk') (fun ⟨f, hm⟩ => by
    obtain ⟨o', x', ho', hx', hF⟩ := mayos k f hm
    exact h.nS o' _ k hx' hF hk'))
   (World.keptBut_mono (fun p hp => by
    obtain ⟨b, f, e, hm⟩ := hp
    exact ⟨b, f, e, wr1 b f hm⟩) hk)
   (fun k hk' => hR.s0S k hk')
   (fun k hk' => ⟨hR.sS k hk', by
    rcases hR.sZ k hk' with hz | hz
    · exact ⟨h.sZ k hz, Or.inl hz⟩
    · refine ⟨fullB k hz, Or.inr ?_⟩
      rcases newB k hz with hh | hh | hh
      · exact Or.inl hh
      · exact Or.inr (Or.inl hh)
      · exact Or.inr (Or.inr hh)⟩)
   (fun o ho y hy => by
    rw [hlook, if_pos ho] at hy
    obtain ⟨k, y', hm, g2, g3⟩ := hnewo o ho
    rw [g3] at hy; cases hy
    obtain ⟨p1, p2, p3⟩ := hpn k o hm
    exact (hR.obs k _ g2).at (gh' := ghn) rfl p1.symm p2.symm p3.symm (gin k o hm))
   (fun o ho b hb => by
    obtain ⟨k, y, hm, g2, g3⟩ := hnewo o ho
    rw [gin k o hm] at hb
    rcases newB b (cF k o hm b hb).1 with hh | hh | hh
    · exact Or.inl hh
    · exact Or.inr (Or.inl hh)
    · exact Or.inr (Or.inr hh))
   (fun o o' b ho ho' hb hb' => by
    obtain ⟨k, y, hm, g2, g3⟩ := hnewo o ho
    obtain ⟨k', y', hm', g2', g3'⟩ := hnewo o' ho'
    rw [gin k o hm] at hb
    rw [gin k' o' hm'] at hb'
    have := hR.dis k k' _ _ b g2 g2' hb hb'
    subst this
    have h1 := yz hMk (hsub hm)
    have h2 := yz hMk (hsub hm')
    rw [h1] at h2; cases h2; rfl)
   (fun o b ho hb => by
    obtain ⟨k, y, hm, g2, g3⟩ := hnewo o ho
    rw [gin k o hm] at hb
    exact hR.nS k _ b g2 hb)
   (fun o b y ho hy hb hc => by
    obtain ⟨k, y', hm, g2, g3⟩ := hnewo o ho
    rw [hlook, if_pos ho, g3] at hy; cases hy
    rw [gin k o hm] at hb
    exact (cF k o hm b hb).2 _ g2 hc)
   (fun b hb => ⟨hR.xl b hb, hR.xS b hb, by
    rcases hR.xW b hb with hw | hw
    · exact Or.inl (Nat.le_trans h.size hw)
    · exact wrA b hw, by
    rcases hR.xW b hb with hw | hw
    · exact Or.inr (Or.inr hw)
    · obtain ⟨o, x, ho, _, hF, _⟩ := allmay b hw
      rcases hos2 o ho with rfl | ho
      · exact Or.inr (Or.inl (Or.inr hF))
      · exact Or.inl ⟨o, ho, hF⟩⟩)
   (fun o b ho hb hX => by
    obtain ⟨k, y, hm, g2, g3⟩ := hnewo o ho
    rw [gin k o hm] at hb
    exact hR.xF k _ b g2 hX hb)
 have hres' : Res P w' ghn.S rs vs' G := hres
 cases d with
 | none => exact ⟨_, ghn, hK rs st' hpost, hin.less (fun k hk => hk.elim)⟩
 | some d =>
  obtain ⟨gh2, hr2, hn2, hl2, hv2, _, _⟩ := Xb d rs vs' G 0 hin hpin hres' (fun b hb => hb)
  refine ⟨_, gh2, hK rs st' hpost, ?_⟩
  simp only [zaq]
  refine (hr2.less (X' := No) (fun k hk => hk.elim)).set (by rw [hn2]; exact hd d rfl) ?_
  match rs, vs', hl2, hv2 with
  | [], [], _, hv2 => exact .tup rfl (fun i v hi => by simp [vsR] at hi)
  | [r], [v], _, hv2 => exact hv2 0 _ _ rfl rfl
  | r :: r2 :: rs, v :: v2 :: vs, hl2, hv2 =>
   refine .tup (by simp [<- hl2]) (fun i x hi => ?_)
   have hil := (List.getElem?_eq_some_iff.1 hi).1
   have hvi : (v :: v2 :: vs)[i]? = some (v :: v2 :: vs)[i] := lE (by omega)
   have := hv2 i x _ hi hvi
   simpa [Array.getD_eq_getD_getElem?, hvi] using this
  | [], v :: vs, hl2, _ => simp [vsR] at hl2
  | r :: rs, [], hl2, _ => simp [vsR] at hl2
  | [r], v :: v2 :: vs, hl2, _ => simp [vsR] at hl2
  | r :: r2 :: rs, [v], hl2, _ => simp [vsR] at hl2
theorem zff {f : FuncId} {km om : Nat} {em : TypeId} {esm : List (List D)} {ts : (Nat -> Value) -> List V} {iob N : List (Nat × Ob)} {R : List RV} (hs : SoundAt P f ts iob (fun rs st => rs = R /\ xr st.ob N)) (hpin : ∀ o, xu o = false -> C.pin o = none) (hfull : C.full) (M Mk Mr Mb : List (Nat × Nat)) {vs : List V} {d : Option Nat}
 (hMM : M = Mr ++ Mb /\ M = (km, om) :: Mk /\ zah (M.map (·.1)) = true /\ zah (M.map (·.2)) = true /\ iob.map (·.1) = M.map (·.1)) (hom : look st.ob om = some (.row em esm)) (hl : ∀ uf, XF ⟨Mr, uf, pvOf C, [], iob⟩ Mb vs (ts uf))
 (h : ioIs st iob M /\ zaX st Mr /\ zbG iob N Mk /\ ev (b := ⟨K⟩) (zaq ((st.kill om).wrote Mk N) d R)) : XT (b := ⟨K⟩) P C st f vs d := by
 refine zoT hs (pin3 hpin) hfull M Mk Mr Mb hMM.1 hMM.2.1 hom h.1 h.2.1 (zaz hMM.2.2.1) (zaz hMM.2.2.2.1) hMM.2.2.2.2 hl (fun rs st' hr => ?_) (fun rs st' hr => ?_)
 · exact (Yg (Yf hr.2) Mk h.2.2.1).2
 · have e : (st.kill om).wrote Mk st'.ob = (st.kill om).wrote Mk N := by unfold St.wrote; rw [(Yg (Yf hr.2) Mk h.2.2.1).1]
   rw [hr.1, e]; exact h.2.2.2
def St.own (st : St) (t : Nat) (e : TypeId) (o : Nat) : St := match look st.ob o with
 | none => (match st.get t with
  | .nil _ => (st.put o (.row e [])).set t (.ref o [] 0)
  | .sc (.slice none 0 0) => (st.put o (.row e [])).set t (.ref o [] 0)
  | _ => st)
 | _ => st
theorem Ent.own (t : Nat) (e : TypeId) (o : Nat) (hp : C.pin o = none) : Ent P C st (st.own t e o) := fun a w gh h => by
 have key : ∀ (ho : look st.ob o = none), a.tmps.getD t undef = .slice none 0 0 -> ∃ gh', Rep P C No ((st.put o (.row e [])).set t (.ref o [] 0)) a w gh' := fun ho hu => by
  have h1 : ObR P w (gh.upd o (.slice none 0 0) 0 0 (fun _ => False)) o (.row e []) := .row (by
   have : Ow P w gh.S (.sc (.slice none 0 0)) (.slice none 0 0) (fun _ => False) := .sc rfl
   simpa [Gh.upd] using this.nilr (e := e))
  have h2 := (h.lay ho hp h1 (fun k hk => hk.elim)).less (X' := No) (fun k hk => hk.elim)
  refine ⟨_, h2.set0 ?_⟩
  rw [hu]
  refine .ref (x := .row e []) (e := e) (es := []) (A := none) (c := 0) (xh _ _ _) ?_ (Nat.le_refl _)
  have : (gh.upd o (.slice none 0 0) 0 0 (fun _ => False)).hv o = .slice none 0 0 := by simp [Gh.upd]
  show Nav P w (.row false e []) ((gh.upd o (.slice none 0 0) 0 0 (fun _ => False)).hv o) [] (.row false e []) (.slice none 0 0)
  rw [this]
  exact .nil
 unfold St.own
 split
 · rename_i ho
   have ht := h.tms t
   split
   · rename_i he
     rw [he] at ht
     refine key ho ?_
     generalize a.tmps.getD t undef = u at ht
     cases ht; rfl
   · rename_i he
     rw [he] at ht
     refine key ho ?_
     generalize a.tmps.getD t undef = u at ht
     cases ht; rfl
   · exact ⟨gh, h⟩
 · exact ⟨gh, h⟩
def SoundAtN (P : Program) (f : FuncId) (ts : (Nat -> Value) -> List V) (ob0 : List (Nat × Ob)) (post : List RV -> St -> Prop) : Prop :=
 Yp P f = true /\ ∀ (uf : Nat -> Value) (ub : Nat -> Nat × Nat) (C : Cx) (w : World) (gh : Gh) (us : Array Value), C.w0 = w -> (∀ o, xu o = false -> C.pin o = none) -> (∀ o, xu o = true -> C.pin o = some (uf o, ub o)) -> us.size = (ts uf).length ->
  Rep P C No ⟨us.size, zipT 0 (ts uf), ob0⟩ ⟨us, []⟩ w gh ->
  Calls P f us w (fun e w' => ∃ (vs : List Value) (rs : List RV) (st' : St) (a' : Act) (gh' : Gh) (G : Nat -> Nat -> Nat -> Prop), e = .returned (tupV vs) /\ post rs st' /\ Res P w' gh'.S rs vs G /\ Rep P C (YA rs G) st' a' w' gh')
theorem SoundAtN.at {f : FuncId} {ts : (Nat -> Value) -> List V} {ob0 : List (Nat × Ob)} {post : List RV -> St -> Prop} (h : SoundAtN P f ts ob0 post) : SoundAt P f ts ob0 post :=
 ⟨h.1, fun uf ub C w gh us h1 h2 h3 _ h5 h6 => h.2 uf ub C w gh us h1 h2 h3 h5 h6⟩
end
attribute [go_sem] St.own
def aAny (P : Program) (C : Cx) (ops : Array Oper) : List (Nat × Sch) -> St -> (St -> Prop) -> Prop
 | [], _, _ => True
 | (i, r) :: t, st, K => zcZ P C ops i st (fun st' => XW P C ops r st' K) /\ aAny P C ops t st K
def aPre (P : Program) (C : Cx) (ops : Array Oper) (L : List (Nat × Sch)) : List Nat -> St -> (St -> Prop) -> Prop
 | [], st, K => aAny P C ops L st K
 | i :: r, st, K => match ops[i]? with
  | some o => Zr st o /\ (match zlu P ops st o with
   | some (s, v) => s /\ ev (b := ⟨fun st' => aPre P C ops L r st' K⟩) (ZO st o.dst v)
   | none => False)
  | none => False
def preB (ops : Array Oper) (L : List (Nat × Sch)) : List Nat -> Array Bool -> Nat -> Bool
 | [], l, n + 1 => Region.ready .any ops l == L.map (·.1) && (!L.isEmpty && L.all (fun p => zaK ops p.2 (l.setIfInBounds p.1 true) n))
 | i :: r, l, n + 1 => ((Region.ready .any ops l).contains i && Region.free .any ops l i) && preB ops L r (l.setIfInBounds i true) n
 | _, _, 0 => false
def zoY (ops : Array Oper) (pre : List Nat) (L : List (Nat × Sch)) : Bool := Region.noSelect ops && preB ops L pre (Array.replicate ops.size false) ops.size
section
variable {P : Program} {w w1 : World} {C : Cx} {X : Nat -> Prop} {gh gh1 : Gh} {st : St} {a : Act} {v : V} {u : Value} {ob : List (Nat × Ob)} {S : Nat -> Prop} {K : St -> Prop}
theorem zlh {ops : Array Oper} : ∀ {L : List (Nat × Sch)}, aAny P C ops L st K -> ∀ p ∈ L, zcZ P C ops p.1 st (fun st' => XW P C ops p.2 st' K)
 | [], _, p, hp => by simp at hp
 | (i, r) :: t, h, p, hp => by
  rcases List.mem_cons.1 hp with rfl | hp
  · exact h.1
  · exact zlh h.2 p hp
theorem zgd (hz : xN P) {ops : Array Oper} {Q : Exit -> St -> Prop} {w : World} {gh : Gh} {C0 : Cx} {X0 : Nat -> Prop} {st0 : St} {a0 : Act} (h0 : Rep P C0 X0 st0 a0 w gh) (hns : Region.noSelect ops = true) (L : List (Nat × Sch)) :
 ∀ (pre : List Nat) (l : Array Bool) (n : Nat) {st : St} {a : Act} {w1 : World} {gh1 : Gh}, Rep P (C0.here w gh.S) No st a w1 gh1 -> preB ops L pre l n = true -> aPre P (C0.here w gh.S) ops L pre st (Q .normal) ->
 wpAnyH P .any ops (fun e a' w' => match e with | .normal => Up P (C0.here w gh.S) (Q .normal) a' w' | _ => False) (fun w' => ∀ k, gh.S k -> w'.heap[k]? = w.heap[k]?) n l a w1
 | [], l, 0, st, a, w1, gh1, h, hb, hk => by simp [preB] at hb
 | _ :: _, l, 0, st, a, w1, gh1, h, hb, hk => by simp [preB] at hb
 | [], l, n + 1, st, a, w1, gh1, h, hb, hk => by
  simp only [preB, Bool.and_eq_true, beq_iff_eq] at hb
  obtain ⟨hb1, hb2, hb3⟩ := hb
  have hne : L.map (·.1) ≠ [] := by
   cases L with
   | nil => simp at hb2
   | cons p t => simp
  refine wpAnyH_all (rs := L.map (·.1)) hb1 hne (fun i' hi' => ?_)
  obtain ⟨p, hp, rfl⟩ := List.mem_map.1 hi'
  have hk := zlh hk p hp
  have hbp := List.all_eq_true.1 hb3 p hp
  unfold zcZ at hk
  split at hk
  case h_2 => exact hk.elim
  rename_i o ho
  obtain ⟨hdst, hk⟩ := hk
  unfold wpOp
  simp only [ho]
  have hop := YU (Q := fun e a' w' => match e with | .normal => Up P (C0.here w gh.S) (Q .normal) a' w' | _ => False) hz h hdst hk
  have next : ∀ a' w', Up P (C0.here w gh.S) (fun st' => XW P (C0.here w gh.S) ops p.2 st' (Q .normal)) a' w' -> (∀ k, gh.S k -> w'.heap[k]? = w.heap[k]?) /\
   wpAnyH P .any ops (fun e a' w' => match e with | .normal => Up P (C0.here w gh.S) (Q .normal) a' w' | _ => False) (fun w' => ∀ k, gh.S k -> w'.heap[k]? = w.heap[k]?) n (l.setIfInBounds p.1 true) a' w' := fun a' w' ⟨st', gh', hk', h'⟩ =>
   ⟨h0.lent h', zfc hz h0 hns p.2 _ _ h' hbp hk'⟩
  split
  · rename_i hw
    rw [if_pos hw] at hop
    exact Or.inl (Oper.wp_mono next hop)
  · rename_i hw
    rw [if_neg hw] at hop
    exact next _ _ hop
 | i :: r, l, n + 1, st, a, w1, gh1, h, hb, hk => by
  simp only [preB, Bool.and_eq_true] at hb
  obtain ⟨hb1, hb2⟩ := hb
  unfold aPre at hk
  split at hk
  case h_2 => exact hk.elim
  rename_i o ho
  obtain ⟨hdst, hk⟩ := hk
  split at hk
  case h_2 => exact hk.elim
  rename_i s v hp
  obtain ⟨y, hy, hv⟩ := zaV (Sw := fun w' => ∀ k, gh.S k -> w'.heap[k]? = w.heap[k]?) hz h (fun w' hw k hk => by
   have h1 := h.sZ k hk
   exact (hw k h1).trans (h0.lent h k h1).symm) hp hk.1
  exact wpAnyH_take ho hns hb1.2 hb1.1 (fun c a w hq => hq.elim) hy (h0.lent h) (zgd hz h0 hns L r _ _ (h.dst (zaQ hdst) hv) hb2 hk.2)
theorem Tri.many (hz : xN P) {id : Nat} {ops : Array Oper} {Q : Exit -> St -> Prop} (pre : List Nat) (L : List (Nat × Sch)) (hm : P.follows .mixedOrders = true) (hb : zoY ops pre L = true) (hk : ∀ C', C'.pin = C.pin -> aPre P C' ops L pre st (Q .normal)) : Tri P C st (.region id ops true) Q := fun a w gh hR => by
 simp only [zoY, Bool.and_eq_true] at hb
 obtain ⟨hb1, hb2⟩ := hb
 have hd := hR.drew
 refine Code.wp_mono (fun e a' w' hq => ?_) (wp_region_held (S := fun w' => ∀ k, gh.S k -> w'.heap[k]? = w.drew.heap[k]?) hm ?_ (Q := fun e a' w' => match e with | .normal => Up P (C.here w.drew gh.S) (Q .normal) a' w' | _ => False))
 · cases e with
   | normal =>
    obtain ⟨st', gh', hk', h'⟩ := hq
    exact ⟨st', gh', hk', hd.back h'⟩
   | _ => exact hq.elim
 · exact zgd hz hd hb1 L pre (Array.replicate ops.size false) ops.size hd.here hb2 (Q := Q) (hk _ rfl)
end
attribute [go_sem] aAny aPre
set_option maxHeartbeats 8000000
theorem zsg : fo Tryz.prog 183 0 = some 0 := by kernel_rfl
theorem zsf : fo Tryz.prog 183 1 = some 1 := by kernel_rfl
theorem zse : fo Tryz.prog 183 2 = some 2 := by kernel_rfl
theorem rPkr : isR Tryz.prog 183 = some true := by kernel_rfl
theorem sPkr : szT Tryz.prog 183 = 3 := by kernel_rfl
theorem zPkr : zeroCells Tryz.prog 183 = some [.slice none 0 0, .slice none 0 0, .bool false] := by kernel_rfl
theorem zrS : xz Tryz.prog 183 = some [(0, 1), (1, 1), (2, 1)] := by kernel_rfl
attribute [go_sem] zsg zsf zse rPkr sPkr zPkr zrS
theorem zsd : fo Tryz.prog 178 0 = some 0 := by kernel_rfl
theorem zsc : fo Tryz.prog 178 1 = some 1 := by kernel_rfl
theorem zsb : fo Tryz.prog 178 2 = some 2 := by kernel_rfl
theorem rPks : isR Tryz.prog 178 = some true := by kernel_rfl
theorem sPks : szT Tryz.prog 178 = 3 := by kernel_rfl
theorem zPks : zeroCells Tryz.prog 178 = some [.slice none 0 0, .slice none 0 0, .bool false] := by kernel_rfl
theorem zrR : xz Tryz.prog 178 = some [(0, 1), (1, 1), (2, 1)] := by kernel_rfl
attribute [go_sem] zsd zsc zsb rPks sPks zPks zrR
def pkC (N to : List NodeD) (b : Bool) : List D := [.row true 83 (rows (zg true) N), .row false 83 (rows (zg false) to), .sc (.bool b)]
theorem znv {l : List Int} {i : Nat} (h : i < l.length) : l.drop i = l[i] :: l.drop (i + 1) := List.drop_eq_getElem_cons h
theorem zhQ (V : Int -> PkS -> Int × PkS) {l : List Int} {i : Nat} (h : i < l.length) {t : PkS} (ht : t.bad = false) : runB V (l.drop i) t = ((V l[i] t).1 :: (runB V (l.drop (i + 1)) (V l[i] t).2).1, (runB V (l.drop (i + 1)) (V l[i] t).2).2) := by
 rw [znv h]
 conv => lhs; unfold runB
 rw [if_neg (by simp [ht])]
theorem YX (l : List NodeD) (x : NodeD) : rows (zg false) l ++ [[D.sc (.int .i64 x.kind), .sc (.int .i64 x.num), .sc (.string x.name), .row false 3 (row1 cI x.kids)]] = rows (zg false) (l ++ [x]) := yM (zg false) l x
def PutI (N : List NodeD) (d : Nat) : Prop := ∀ (k : Int) (s : PkS), s.to.length <= 300 -> SoundAt Tryz.prog 189 (fun uf => zu 0 [.ro (.bp 2000 0), .ro (.sc (.int .i64 k)), .ro (.sc (.int .i64 (11 - (d : Int))))]) [(2000, .box (pkC N s.to s.bad))]
 (fun rs st => rs = [(false, [cI (pkI N d k s).1])] /\ xr st.ob [(2000, .box (pkC N (pkI N d k s).2.to (pkI N d k s).2.bad))])
theorem zpA (N : List NodeD) (hN : N.length <= 1048576) (hK : ∀ x ∈ N, x.kids.length <= 1048576) (d : Nat) (hd : d <= 10) (ih : ∀ e, e < d -> PutI N e) : PutI N d := by
 intro k s hs
 have w1 : IntKind.i64.wrap ((N.length : Int) - 1) = (N.length : Int) - 1 := w64 (by omega) (by omega)
 have stop : ∀ s, pkI N d k s = yW s -> SoundAt Tryz.prog 189 (fun uf => zu 0 [.ro (.bp 2000 0), .ro (.sc (.int .i64 k)), .ro (.sc (.int .i64 (11 - (d : Int))))]) [(2000, .box (pkC N s.to s.bad))]
  (fun rs st => rs = [(false, [cI (yW s).1])] /\ xr st.ob [(2000, .box (pkC N (yW s).2.to (yW s).2.bad))]) -> SoundAt Tryz.prog 189 (fun uf => zu 0 [.ro (.bp 2000 0), .ro (.sc (.int .i64 k)), .ro (.sc (.int .i64 (11 - (d : Int))))]) [(2000, .box (pkC N s.to s.bad))]
  (fun rs st => rs = [(false, [cI (pkI N d k s).1])] /\ xr st.ob [(2000, .box (pkC N (pkI N d k s).2.to (pkI N d k s).2.bad))]) := fun s h1 h2 => by rw [h1]; exact h2
 obtain ⟨to, sb⟩ := s
 simp only at hs
 cases sb with
 | true =>
  refine stop _ (by cases d with | zero => rfl | succ d => unfold pkI; rw [if_pos (by simp)]) ?_
  simp only [yW]
  refine zp (fn := Tryz.f189) (c := Tryz.f189.body.getD .skip) (res := [.tm 6]) (n := 97) ze (by kernel_rfl) (by rfl) (by kernel_rfl) (by rfl) (by rfl) (by simp [zu]) (fun uf ub C hpin hpin2 hfull => ?_)
  simp only [Tryz.f189, oD]
  refine Tri.step ze ?_
  simp +decide only [pkC, hpin, hpin2, go_sem, aD, mU]
  refine Tri.step ze ?_
  simp +decide only [pkC, hpin, hpin2, go_sem, aD, mU]
 | false =>
 have hin := in' k 0 (N.length - 1)
 cases hi : inI k 0 (N.length - 1) with
 | false =>
  rw [hi] at hin
  refine stop _ (by cases d with | zero => rfl | succ d => unfold pkI; rw [if_pos (by simp [hi])]) ?_
  simp only [yW]
  refine zp (fn := Tryz.f189) (c := Tryz.f189.body.getD .skip) (res := [.tm 6]) (n := 97) ze (by kernel_rfl) (by rfl) (by kernel_rfl) (by rfl) (by rfl) (by simp [zu]) (fun uf ub C hpin hpin2 hfull => ?_)
  simp only [Tryz.f189, oD]
  refine Tri.step ze ?_
  simp +decide only [pkC, hpin, hpin2, go_sem, aD, mU]
  refine Tri.step ze ?_
  simp +decide only [w1, pkC, hpin, hpin2, go_sem, aD, mU]
  refine zd hin hpin ?_
  simp +decide only [w1, pkC, hpin, hpin2, go_sem, aD, mU]
 | true =>
 rw [hi] at hin
 have hr := zy hi
 obtain ⟨n, rfl⟩ : ∃ n : Nat, k = n := ⟨k.toNat, by omega⟩
 have hnl : n < N.length := by omega
 by_cases h10 : (10 : Int) < 11 - (d : Int)
 · have e10 : ((10 : Int) < 11 - (d : Int)) = True := eq_true h10
   have hd0 : d = 0 := by omega
   refine stop _ (by subst hd0; rfl) ?_
   simp only [yW]
   refine zp (fn := Tryz.f189) (c := Tryz.f189.body.getD .skip) (res := [.tm 6]) (n := 97) ze (by kernel_rfl) (by rfl) (by kernel_rfl) (by rfl) (by rfl) (by simp [zu]) (fun uf ub C hpin hpin2 hfull => ?_)
   simp only [Tryz.f189, oD]
   refine Tri.step ze ?_
   simp +decide only [pkC, hpin, hpin2, go_sem, aD, mU]
   refine Tri.step ze ?_
   simp +decide only [w1, pkC, hpin, hpin2, go_sem, aD, mU]
   refine zd hin hpin ?_
   simp +decide only [w1, e10, gt_iff_lt, pkC, hpin, hpin2, go_sem, aD, mU]
 have e10 : ((10 : Int) < 11 - (d : Int)) = False := eq_false h10
 by_cases h300 : 300 <= to.length
 · have e300 : ((300 : Int) <= (to.length : Int)) = True := eq_true (by omega)
   refine stop _ (by cases d with | zero => rfl | succ d => unfold pkI; rw [if_pos (by simp [h300])]) ?_
   simp only [yW]
   refine zp (fn := Tryz.f189) (c := Tryz.f189.body.getD .skip) (res := [.tm 6]) (n := 97) ze (by kernel_rfl) (by rfl) (by kernel_rfl) (by rfl) (by rfl) (by simp [zu]) (fun uf ub C hpin hpin2 hfull => ?_)
   simp only [Tryz.f189, oD]
   refine Tri.step ze ?_
   simp +decide only [pkC, hpin, hpin2, go_sem, aD, mU]
   refine Tri.step ze ?_
   simp +decide only [w1, pkC, hpin, hpin2, go_sem, aD, mU]
   refine zd hin hpin ?_
   simp +decide only [w1, e10, e300, gt_iff_lt, ge_iff_le, pkC, hpin, hpin2, go_sem, aD, mU]
 have e300 : ((300 : Int) <= (to.length : Int)) = False := eq_false (by omega)
 obtain ⟨e, rfl⟩ : ∃ e, d = e + 1 := ⟨d - 1, by omega⟩
 have wd : IntKind.i64.wrap (11 - ((e + 1 : Nat) : Int) + 1) = 11 - (e : Int) := by rw [w64 (by omega) (by omega)]; omega
 have hrec := ih e (by omega)
 unfold PutI at hrec
 have hmost := fun k s h => zax N e k s h
 have hx : (rows (zg true) N).getD n [] = zg true N[n] := zk _ _ hnl
 have hkx := hK N[n] (lM hnl)
 have hc1 : ((n : Int) < (N.length : Int)) = True := eq_true (by omega)
 have hpk : pkI N (e + 1) n ⟨to, false⟩ = if (runB (pkI N e) N[n].kids ⟨to, false⟩).2.bad then (-1, (runB (pkI N e) N[n].kids ⟨to, false⟩).2) else
  if decide (300 <= (runB (pkI N e) N[n].kids ⟨to, false⟩).2.to.length) then yW (runB (pkI N e) N[n].kids ⟨to, false⟩).2 else zbu N[n] (runB (pkI N e) N[n].kids ⟨to, false⟩) := by
  conv => lhs; unfold pkI
  rw [if_neg (by simp [hi]; omega), zR hnl]
 rw [hpk]
 dsimp only
 generalize N[n] = x at hx hkx
 generalize hV : pkI N e = V at hrec hmost
 obtain ⟨R, hR⟩ : ∃ R, runB V x.kids ⟨to, false⟩ = R := ⟨_, rfl⟩
 rw [hR]
 refine zp (fn := Tryz.f189) (c := Tryz.f189.body.getD .skip) (res := [.tm 6]) (n := 97) ze (by kernel_rfl) (by rfl) (by kernel_rfl) (by rfl) (by rfl) (by simp [zu]) (fun uf ub C hpin hpin2 hfull => ?_)
 simp only [Tryz.f189, oD]
 refine Tri.step ze ?_
 simp +decide only [pkC, hpin, hpin2, go_sem, aD, mU]
 refine Tri.step ze ?_
 simp +decide only [w1, pkC, hpin, hpin2, go_sem, aD, mU]
 refine zd hin hpin ?_
 simp +decide only [w1, e10, e300, gt_iff_lt, ge_iff_le, pkC, hpin, hpin2, go_sem, aD, mU]
 refine Tri.step ze ?_
 simp +decide only [hc1, hx, zg, iN, pkC, hpin, hpin2, go_sem, aD, mU]
 refine Tri.step ze ?_
 simp +decide only [pkC, hpin, hpin2, go_sem, aD, mU]
 refine Tri.ent ?_ (Ent.own 8 3 8 (hpin 8 rfl))
 refine Tri.step ze ?_
 simp +decide only [pkC, hpin, hpin2, go_sem, aD, mU]
 refine Tri.loop (ι := Nat × List Int × PkS) (fun q => q.1 <= x.kids.length /\ q.2.1.length = q.1 /\ q.2.2.bad = false /\ q.2.2.to.length <= 300 /\ R = (q.2.1 ++ (runB V (x.kids.drop q.1) q.2.2).1, (runB V (x.kids.drop q.1) q.2.2).2))
  (fun q => ⟨97, [(0, .bp 2000 0), (2, vI (11 - ((e + 1 : Nat) : Int))), (7, .bp 7 0), (8, .ref 8 [] q.1), (50, roI x.kids), (51, vI x.kids.length), (52, vI q.1)], [(8, .row 3 (row1 cI q.2.1)), (7, .box (zg true x)), (2000, .box (pkC N q.2.2.to q.2.2.bad))]⟩) (fun q => x.kids.length - q.1) (0, [], ⟨to, false⟩) ⟨by simp, rfl, rfl, hs, by simp [<- hR]⟩ ?_ ?_
 · refine Ent.weak ?_ ?_ ?_ ?_ <;> simp +decide [zH, subT, subB, zj, zi, zm, St.get, look, vI, vB, vS, cI, cS, cB, zg, pkC, roI, row1]
 · rintro ⟨i, acc, tt, tb⟩ ⟨hi2, hal, htb, htl, hRe⟩
   simp only at hi2 hal htb htl hRe |-
   subst htb
   refine zf ze _ ?_
   by_cases h' : i < x.kids.length
   · have e1 : ((i : Int) < (x.kids.length : Int)) = True := by simp [h']
     rw [zhQ V h' rfl] at hRe
     have hcall := hrec x.kids[i] ⟨tt, false⟩ htl
     have htl2 := hmost x.kids[i] ⟨tt, false⟩ htl
     generalize V x.kids[i] ⟨tt, false⟩ = r at hRe hcall htl2
     obtain ⟨ra, t2, t2b⟩ := r
     simp only at hRe hcall htl2
     simp only [pkC, cI] at hcall
     have hb1 : i + 1 <= 140737488355328 := by omega
     have hb2 : (i + 1) * 8 <= 140737488355328 := by omega
     have hsn := xx cI acc ra
     simp only [cI] at hsn
     have hal2 : (acc ++ [ra]).length = i + 1 := by simp [hal]
     simp +decide only [e1, h', wd, hal, zw _ _ h', zg, iN, vB, vI, pkC, hpin, hpin2, go_sem, aD, mU]
     refine yr hcall hpin hfull [(2000, 2000)] [] [(2000, 2000)] ⟨rfl, rfl, rfl, rfl⟩ (fun uf => ?_) ?_
     · simp +decide only [pkC, hpin, hpin2, go_sem, aD, mU]
     cases t2b with
     | true =>
      rw [Xr V _ rfl] at hRe
      simp only at hRe
      have hR2 : R.2 = ⟨t2, true⟩ := by rw [hRe]
      rw [hR2]
      simp +decide only [pkC, hpin, hpin2, go_sem, aD, mU]
     | false =>
      simp +decide only [hal, hal2, hb1, hb2, hsn, pkC, hpin, hpin2, go_sem, aD, mU]
      refine ⟨(i + 1, acc ++ [ra], ⟨t2, false⟩), ⟨h', by simp [hal], rfl, htl2, by rw [hRe]; simp⟩, by show x.kids.length - (i + 1) < x.kids.length - i; omega, Ent.weak ?_ ?_ ?_ ?_⟩
      all_goals simp +decide [zH, subT, subB, zj, zi, zm, St.get, look, vI, vB, vS, cI, cS, cB, zg, pkC, roI, hsn, hal, w64s (n := x.kids.length) h' (by omega)]
   · have hil : i = x.kids.length := by omega
     subst hil
     have e1 : ((x.kids.length : Int) < (x.kids.length : Int)) = False := by simp
     rw [List.drop_length] at hRe
     simp only [runB, List.append_nil] at hRe
     subst hRe
     simp only
     rw [if_neg (by simp)]
     by_cases g300 : 300 <= tt.length
     · have f300 : ((300 : Int) <= (tt.length : Int)) = True := eq_true (by omega)
       have d300 : decide ((300 : Int) <= (tt.length : Int)) = true := decide_eq_true (by omega)
       rw [if_pos (by simpa using g300)]
       unfold yW
       simp +decide only [e1, ge_iff_le, vB, vI, pkC, hpin, hpin2, go_sem, aD, mU]
       refine Tri.step ze ?_
       simp +decide only [f300, ge_iff_le, pkC, hpin, hpin2, go_sem, aD, mU]
     · have f300 : ((300 : Int) <= (tt.length : Int)) = False := eq_false (by omega)
       have d300 : decide ((300 : Int) <= (tt.length : Int)) = false := decide_eq_false (by omega)
       rw [if_neg (by simpa using g300)]
       unfold zbu
       have hsn := YX tt ⟨x.kind, x.num, x.name, acc⟩
       have hb1 : tt.length + 1 <= 140737488355328 := by omega
       have hb2 : (tt.length + 1) * 56 <= 140737488355328 := by omega
       have w2 : IntKind.i64.wrap (((tt.length + 1 : Nat) : Int) - 1) = tt.length := by rw [show (((tt.length + 1 : Nat) : Int) - 1) = tt.length by omega]; exact w64 (by omega) (by omega)
       simp +decide only [e1, ge_iff_le, vB, vI, pkC, hpin, hpin2, go_sem, aD, mU]
       refine Tri.step ze ?_
       simp +decide only [f300, ge_iff_le, pkC, hpin, hpin2, go_sem, aD, mU]
       refine Tri.step ze ?_
       simp +decide only [hal, zg, pkC, hpin, hpin2, go_sem, aD, mU]
       refine Tri.step ze ?_
       refine Tri.fork ze (.one 0 true (.one 1 true (.one 2 true (.one 3 true (.two 4 (.one 5 false (.one 6 false (.one 7 false (.one 8 false (.one 9 false (.one 10 false .done)))))) 5 (.two 4 (.one 6 false (.one 7 false (.one 8 false (.one 9 false (.one 10 false .done))))) 6 (.one 4 false (.one 7 false (.one 8 false (.one 9 false (.one 10 false .done))))))))))) zO (by kernel_rfl) (fun C2 hC2 => ?_)
       have hp2 := zP hC2 hpin
       simp +decide only [hb1, hb2, hsn, pkC, hp2, hpin, hpin2, go_sem, aD, mU]
       refine ⟨?_, ?_, ?_⟩ <;> refine zf ze _ ?_
       all_goals simp +decide only [w2, pkC, hpin, hpin2, go_sem, aD, mU]
theorem zlz (N : List NodeD) (hN : N.length <= 1048576) (hK : ∀ x ∈ N, x.kids.length <= 1048576) (d : Nat) (hd : d <= 10) : PutI N d := by
 induction d using Nat.strongRecOn with
 | ind d ih => exact zpA N hN hK d hd (fun e he => ih e he (by omega))
def PutR (N : List NodeD) (d : Nat) : Prop := ∀ (k : Int) (s : PkS), s.to.length <= 400 -> SoundAt Tryz.prog 186 (fun uf => zu 0 [.ro (.bp 2000 0), .ro (.sc (.int .i64 k)), .ro (.sc (.int .i64 (11 - (d : Int))))]) [(2000, .box (pkC N s.to s.bad))]
 (fun rs st => rs = [(false, [cI (pkR N d k s).1])] /\ xr st.ob [(2000, .box (pkC N (pkR N d k s).2.to (pkR N d k s).2.bad))])
theorem zpz (N : List NodeD) (hN : N.length <= 1048576) (hK : ∀ x ∈ N, x.kids.length <= 1048576) (d : Nat) (hd : d <= 10) (ih : ∀ e, e < d -> PutR N e) : PutR N d := by
 intro k s hs
 have w1 : IntKind.i64.wrap ((N.length : Int) - 1) = (N.length : Int) - 1 := w64 (by omega) (by omega)
 have stop : ∀ s, pkR N d k s = yW s -> SoundAt Tryz.prog 186 (fun uf => zu 0 [.ro (.bp 2000 0), .ro (.sc (.int .i64 k)), .ro (.sc (.int .i64 (11 - (d : Int))))]) [(2000, .box (pkC N s.to s.bad))]
  (fun rs st => rs = [(false, [cI (yW s).1])] /\ xr st.ob [(2000, .box (pkC N (yW s).2.to (yW s).2.bad))]) -> SoundAt Tryz.prog 186 (fun uf => zu 0 [.ro (.bp 2000 0), .ro (.sc (.int .i64 k)), .ro (.sc (.int .i64 (11 - (d : Int))))]) [(2000, .box (pkC N s.to s.bad))]
  (fun rs st => rs = [(false, [cI (pkR N d k s).1])] /\ xr st.ob [(2000, .box (pkC N (pkR N d k s).2.to (pkR N d k s).2.bad))]) := fun s h1 h2 => by rw [h1]; exact h2
 obtain ⟨to, sb⟩ := s
 simp only at hs
 cases sb with
 | true =>
  refine stop _ (by cases d with | zero => rfl | succ d => unfold pkR; rw [if_pos (by simp)]) ?_
  simp only [yW]
  refine zp (fn := Tryz.f186) (c := Tryz.f186.body.getD .skip) (res := [.tm 6]) (n := 122) ze (by kernel_rfl) (by rfl) (by kernel_rfl) (by rfl) (by rfl) (by simp [zu]) (fun uf ub C hpin hpin2 hfull => ?_)
  simp only [Tryz.f186, oD]
  refine Tri.step ze ?_
  simp +decide only [pkC, hpin, hpin2, go_sem, aD, mU]
  refine Tri.step ze ?_
  simp +decide only [pkC, hpin, hpin2, go_sem, aD, mU]
 | false =>
 by_cases h10 : (10 : Int) < 11 - (d : Int)
 · have e10 : ((10 : Int) < 11 - (d : Int)) = True := eq_true h10
   have hd0 : d = 0 := by omega
   refine stop _ (by subst hd0; rfl) ?_
   simp only [yW]
   refine zp (fn := Tryz.f186) (c := Tryz.f186.body.getD .skip) (res := [.tm 6]) (n := 122) ze (by kernel_rfl) (by rfl) (by kernel_rfl) (by rfl) (by rfl) (by simp [zu]) (fun uf ub C hpin hpin2 hfull => ?_)
   simp only [Tryz.f186, oD]
   refine Tri.step ze ?_
   simp +decide only [pkC, hpin, hpin2, go_sem, aD, mU]
   refine Tri.step ze ?_
   simp +decide only [e10, gt_iff_lt, pkC, hpin, hpin2, go_sem, aD, mU]
 have e10 : ((10 : Int) < 11 - (d : Int)) = False := eq_false h10
 have hin := xp k 0 (N.length - 1)
 cases hi : inI k 0 (N.length - 1) with
 | false =>
  rw [hi] at hin
  refine stop _ (by cases d with | zero => rfl | succ d => unfold pkR; rw [if_pos (by simp [hi])]) ?_
  simp only [yW]
  refine zp (fn := Tryz.f186) (c := Tryz.f186.body.getD .skip) (res := [.tm 6]) (n := 122) ze (by kernel_rfl) (by rfl) (by kernel_rfl) (by rfl) (by rfl) (by simp [zu]) (fun uf ub C hpin hpin2 hfull => ?_)
  simp only [Tryz.f186, oD]
  refine Tri.step ze ?_
  simp +decide only [pkC, hpin, hpin2, go_sem, aD, mU]
  refine Tri.step ze ?_
  simp +decide only [e10, gt_iff_lt, w1, pkC, hpin, hpin2, go_sem, aD, mU]
  refine zd hin hpin ?_
  simp +decide only [w1, pkC, hpin, hpin2, go_sem, aD, mU]
 | true =>
 rw [hi] at hin
 have hr := zy hi
 obtain ⟨n, rfl⟩ : ∃ n : Nat, k = n := ⟨k.toNat, by omega⟩
 have hnl : n < N.length := by omega
 by_cases h300 : 300 < to.length
 · have e300 : ((300 : Int) < (to.length : Int)) = True := eq_true (by omega)
   refine stop _ (by cases d with | zero => rfl | succ d => unfold pkR; rw [if_pos (by simp [h300])]) ?_
   simp only [yW]
   refine zp (fn := Tryz.f186) (c := Tryz.f186.body.getD .skip) (res := [.tm 6]) (n := 122) ze (by kernel_rfl) (by rfl) (by kernel_rfl) (by rfl) (by rfl) (by simp [zu]) (fun uf ub C hpin hpin2 hfull => ?_)
   simp only [Tryz.f186, oD]
   refine Tri.step ze ?_
   simp +decide only [pkC, hpin, hpin2, go_sem, aD, mU]
   refine Tri.step ze ?_
   simp +decide only [w1, e10, gt_iff_lt, pkC, hpin, hpin2, go_sem, aD, mU]
   refine zd hin hpin ?_
   simp +decide only [w1, e10, e300, gt_iff_lt, pkC, hpin, hpin2, go_sem, aD, mU]
 have e300 : ((300 : Int) < (to.length : Int)) = False := eq_false (by omega)
 obtain ⟨e, rfl⟩ : ∃ e, d = e + 1 := ⟨d - 1, by omega⟩
 have wd : IntKind.i64.wrap (11 - ((e + 1 : Nat) : Int) + 1) = 11 - (e : Int) := by rw [w64 (by omega) (by omega)]; omega
 have hrec := ih e (by omega)
 unfold PutR at hrec
 have hmost := fun k s h => zmQ N e k s 320 (by omega) h
 have hx : (rows (zg true) N).getD n [] = zg true N[n] := zk _ _ hnl
 have hkx := hK N[n] (lM hnl)
 have hc1 : ((n : Int) < (N.length : Int)) = True := eq_true (by omega)
 have hpk : pkR N (e + 1) n ⟨to, false⟩ = zbu N[n] (runB (pkR N e) N[n].kids ⟨to, false⟩) := by
  conv => lhs; unfold pkR
  rw [if_neg (by simp [hi]; omega), zR hnl]
 rw [hpk]
 dsimp only
 generalize N[n] = x at hx hkx
 generalize hV : pkR N e = V at hrec hmost
 obtain ⟨R, hR⟩ : ∃ R, runB V x.kids ⟨to, false⟩ = R := ⟨_, rfl⟩
 rw [hR]
 unfold zbu
 refine zp (fn := Tryz.f186) (c := Tryz.f186.body.getD .skip) (res := [.tm 6]) (n := 122) ze (by kernel_rfl) (by rfl) (by kernel_rfl) (by rfl) (by rfl) (by simp [zu]) (fun uf ub C hpin hpin2 hfull => ?_)
 simp only [Tryz.f186, oD]
 refine Tri.step ze ?_
 simp +decide only [pkC, hpin, hpin2, go_sem, aD, mU]
 refine Tri.step ze ?_
 simp +decide only [w1, e10, gt_iff_lt, pkC, hpin, hpin2, go_sem, aD, mU]
 refine zd hin hpin ?_
 simp +decide only [w1, e10, e300, gt_iff_lt, pkC, hpin, hpin2, go_sem, aD, mU]
 refine Tri.stop ze ⟨122, [(0, .bp 2000 0), (1, vI n), (2, vI (11 - ((e + 1 : Nat) : Int))), (7, .bp 7 0)], [(7, .box [cI x.kind, cI x.num, cS x.name, .sc (.slice none 0 0)]), (2000, .box (pkC N to false))]⟩ ?_ ?_
 · refine Tri.many ze [0, 1, 2, 4, 8, 9, 10, 12, 16, 17, 18, 20] [(3, (.one 5 true (.one 6 true (.one 7 true (.three 11 (.one 13 true (.one 14 true (.one 15 true (.two 19 (.one 21 true (.one 22 true (.one 23 true (.one 24 true (.one 25 false (.one 26 false .done)))))) 25 (.one 19 false (.one 21 false (.one 22 false (.one 23 false (.one 24 false (.one 26 false .done)))))))))) 19 (.one 21 true (.one 22 true (.one 23 true (.two 11 (.one 13 true (.one 14 true (.one 15 true (.one 24 true (.one 25 false (.one 26 false .done)))))) 25 (.one 11 false (.one 13 false (.one 14 false (.one 15 false (.one 24 false (.one 26 false .done)))))))))) 25 (.two 11 (.one 13 true (.one 14 true (.one 15 true (.one 19 false (.one 21 false (.one 22 false (.one 23 false (.one 24 false (.one 26 false .done))))))))) 19 (.one 21 true (.one 22 true (.one 23 true (.one 11 false (.one 13 false (.one 14 false (.one 15 false (.one 24 false (.one 26 false .done))))))))))))))), (11, (.one 13 true (.one 14 true (.one 15 true (.three 3 (.one 5 true (.one 6 true (.one 7 true (.two 19 (.one 21 true (.one 22 true (.one 23 true (.one 24 true (.one 25 false (.one 26 false .done)))))) 25 (.one 19 false (.one 21 false (.one 22 false (.one 23 false (.one 24 false (.one 26 false .done)))))))))) 19 (.one 21 true (.one 22 true (.one 23 true (.two 3 (.one 5 true (.one 6 true (.one 7 true (.one 24 true (.one 25 false (.one 26 false .done)))))) 25 (.one 3 false (.one 5 false (.one 6 false (.one 7 false (.one 24 false (.one 26 false .done)))))))))) 25 (.two 3 (.one 5 true (.one 6 true (.one 7 true (.one 19 false (.one 21 false (.one 22 false (.one 23 false (.one 24 false (.one 26 false .done))))))))) 19 (.one 21 true (.one 22 true (.one 23 true (.one 3 false (.one 5 false (.one 6 false (.one 7 false (.one 24 false (.one 26 false .done))))))))))))))), (19, (.one 21 true (.one 22 true (.one 23 true (.three 3 (.one 5 true (.one 6 true (.one 7 true (.two 11 (.one 13 true (.one 14 true (.one 15 true (.one 24 true (.one 25 false (.one 26 false .done)))))) 25 (.one 11 false (.one 13 false (.one 14 false (.one 15 false (.one 24 false (.one 26 false .done)))))))))) 11 (.one 13 true (.one 14 true (.one 15 true (.two 3 (.one 5 true (.one 6 true (.one 7 true (.one 24 true (.one 25 false (.one 26 false .done)))))) 25 (.one 3 false (.one 5 false (.one 6 false (.one 7 false (.one 24 false (.one 26 false .done)))))))))) 25 (.two 3 (.one 5 true (.one 6 true (.one 7 true (.one 11 false (.one 13 false (.one 14 false (.one 15 false (.one 24 false (.one 26 false .done))))))))) 11 (.one 13 true (.one 14 true (.one 15 true (.one 3 false (.one 5 false (.one 6 false (.one 7 false (.one 24 false (.one 26 false .done))))))))))))))), (25, (.three 3 (.one 5 true (.one 6 true (.one 7 true (.two 11 (.one 13 true (.one 14 true (.one 15 true (.one 19 false (.one 21 false (.one 22 false (.one 23 false (.one 24 false (.one 26 false .done))))))))) 19 (.one 21 true (.one 22 true (.one 23 true (.one 11 false (.one 13 false (.one 14 false (.one 15 false (.one 24 false (.one 26 false .done))))))))))))) 11 (.one 13 true (.one 14 true (.one 15 true (.two 3 (.one 5 true (.one 6 true (.one 7 true (.one 19 false (.one 21 false (.one 22 false (.one 23 false (.one 24 false (.one 26 false .done))))))))) 19 (.one 21 true (.one 22 true (.one 23 true (.one 3 false (.one 5 false (.one 6 false (.one 7 false (.one 24 false (.one 26 false .done))))))))))))) 19 (.one 21 true (.one 22 true (.one 23 true (.two 3 (.one 5 true (.one 6 true (.one 7 true (.one 11 false (.one 13 false (.one 14 false (.one 15 false (.one 24 false (.one 26 false .done))))))))) 11 (.one 13 true (.one 14 true (.one 15 true (.one 3 false (.one 5 false (.one 6 false (.one 7 false (.one 24 false (.one 26 false .done)))))))))))))))] zO (by kernel_rfl) (fun C2 hC2 => ?_)
   have hp2 := zP hC2 hpin
   simp +decide only [hc1, hx, zg, iN, pkC, hp2, hpin, hpin2, go_sem, aD, mU]
   repeat' (refine And.intro ?_ ?_)
   all_goals refine Ent.weak ?_ ?_ ?_ ?_
   all_goals simp +decide [zH, subT, subB, zj, zi, zm, St.get, look, vI, vB, vS, cI, cS, cB, zg, pkC, roI]
 refine Tri.ent ?_ (Ent.nilr 7 3 3)
 refine Tri.step ze ?_
 simp +decide only [pkC, hpin, hpin2, go_sem, aD, mU]
 refine Tri.loop (ι := Nat × List Int × PkS) (fun q => q.1 <= x.kids.length /\ q.2.1.length = q.1 /\ q.2.2.to.length <= 320 /\ R = (q.2.1 ++ (runB V (x.kids.drop q.1) q.2.2).1, (runB V (x.kids.drop q.1) q.2.2).2))
  (fun q => ⟨122, [(0, .bp 2000 0), (1, vI n), (2, vI (11 - ((e + 1 : Nat) : Int))), (7, .bp 7 0), (8, vI q.1)], [(7, .box [cI x.kind, cI x.num, cS x.name, .row false 3 (row1 cI q.2.1)]), (2000, .box (pkC N q.2.2.to q.2.2.bad))]⟩) (fun q => x.kids.length - q.1) (0, [], ⟨to, false⟩) ⟨by simp, rfl, by simp only; omega, by simp [<- hR]⟩ ?_ ?_
 · refine Ent.weak ?_ ?_ ?_ ?_ <;> simp +decide [zH, subT, subB, zj, zi, zm, St.get, look, vI, vB, vS, cI, cS, cB, zg, pkC, roI, row1]
 · rintro ⟨i, acc, tt, tb⟩ ⟨hi2, hal, htl, hRe⟩
   simp only at hi2 hal htl hRe |-
   have hdel : (List.drop i x.kids) = [] \/ i < x.kids.length := by
    by_cases h : i < x.kids.length
    · exact Or.inr h
    · exact Or.inl (List.drop_eq_nil_of_le (by omega))
   refine zf ze _ ?_
   by_cases h' : i < x.kids.length
   · have e1 : ((i : Int) < (x.kids.length : Int)) = True := by simp [h']
     cases tb with
     | true =>
      rw [Xr V _ rfl] at hRe
      simp only [List.append_nil] at hRe
      simp +decide only [hc1, hx, e1, zg, iN, vB, vI, pkC, hpin, hpin2, go_sem, aD, mU]
      subst hRe
      have hsn := YX tt ⟨x.kind, x.num, x.name, acc⟩
      have hb1 : tt.length + 1 <= 140737488355328 := by omega
      have hb2 : (tt.length + 1) * 56 <= 140737488355328 := by omega
      have w2 : IntKind.i64.wrap (((tt.length + 1 : Nat) : Int) - 1) = tt.length := by rw [show (((tt.length + 1 : Nat) : Int) - 1) = tt.length by omega]; exact w64 (by omega) (by omega)
      refine Tri.step ze ?_
      refine Tri.fork ze (.one 0 true (.one 1 true (.one 2 true (.one 3 true (.two 4 (.one 5 false (.one 6 false (.one 7 false (.one 8 false (.one 9 false (.one 10 false .done)))))) 5 (.two 4 (.one 6 false (.one 7 false (.one 8 false (.one 9 false (.one 10 false .done))))) 6 (.one 4 false (.one 7 false (.one 8 false (.one 9 false (.one 10 false .done))))))))))) zO (by kernel_rfl) (fun C2 hC2 => ?_)
      have hp2 := zP hC2 hpin
      simp +decide only [hb1, hb2, hsn, pkC, hp2, hpin, hpin2, go_sem, aD, mU]
      refine ⟨?_, ?_, ?_⟩ <;> refine zf ze _ ?_
      all_goals simp +decide only [w2, pkC, hpin, hpin2, go_sem, aD, mU]
     | false =>
     rw [zhQ V h' rfl] at hRe
     have hcall := hrec x.kids[i] ⟨tt, false⟩ (by simp only; omega)
     have htl2 := hmost x.kids[i] ⟨tt, false⟩ htl
     generalize V x.kids[i] ⟨tt, false⟩ = r at hRe hcall htl2
     obtain ⟨ra, t2⟩ := r
     simp only at hRe hcall htl2
     simp only [pkC, cI] at hcall
     have hb1 : i + 1 <= 140737488355328 := by omega
     have hb2 : (i + 1) * 8 <= 140737488355328 := by omega
     have hsn := xx cI acc ra
     simp only [cI] at hsn
     have hal2 : (acc ++ [ra]).length = i + 1 := by simp [hal]
     simp +decide only [hc1, hx, e1, h', wd, hal, zw _ _ h', zg, iN, vB, vI, pkC, hpin, hpin2, go_sem, aD, mU]
     refine yr hcall hpin hfull [(2000, 2000)] [] [(2000, 2000)] ⟨rfl, rfl, rfl, rfl⟩ (fun uf => ?_) ?_
     · simp +decide only [pkC, hpin, hpin2, go_sem, aD, mU]
     simp +decide only [hal, hal2, hb1, hb2, hsn, pkC, hpin, hpin2, go_sem, aD, mU]
     refine ⟨(i + 1, acc ++ [ra], t2), ⟨h', by simp [hal], htl2, by rw [hRe]; simp⟩, by show x.kids.length - (i + 1) < x.kids.length - i; omega, Ent.weak ?_ ?_ ?_ ?_⟩
     all_goals simp +decide [zH, subT, subB, zj, zi, zm, St.get, look, vI, vB, vS, cI, cS, cB, zg, pkC, roI, hsn, hal, w64s (n := x.kids.length) h' (by omega)]
   · have hil : i = x.kids.length := by omega
     subst hil
     have e1 : ((x.kids.length : Int) < (x.kids.length : Int)) = False := by simp
     rw [List.drop_length] at hRe
     simp only [runB, List.append_nil] at hRe
     simp +decide only [hc1, hx, e1, zg, iN, vB, vI, pkC, hpin, hpin2, go_sem, aD, mU]
     subst hRe
     have hsn := YX tt ⟨x.kind, x.num, x.name, acc⟩
     have hb1 : tt.length + 1 <= 140737488355328 := by omega
     have hb2 : (tt.length + 1) * 56 <= 140737488355328 := by omega
     have w2 : IntKind.i64.wrap (((tt.length + 1 : Nat) : Int) - 1) = tt.length := by rw [show (((tt.length + 1 : Nat) : Int) - 1) = tt.length by omega]; exact w64 (by omega) (by omega)
     refine Tri.step ze ?_
     refine Tri.fork ze (.one 0 true (.one 1 true (.one 2 true (.one 3 true (.two 4 (.one 5 false (.one 6 false (.one 7 false (.one 8 false (.one 9 false (.one 10 false .done)))))) 5 (.two 4 (.one 6 false (.one 7 false (.one 8 false (.one 9 false (.one 10 false .done))))) 6 (.one 4 false (.one 7 false (.one 8 false (.one 9 false (.one 10 false .done))))))))))) zO (by kernel_rfl) (fun C2 hC2 => ?_)
     have hp2 := zP hC2 hpin
     simp +decide only [hb1, hb2, hsn, pkC, hp2, hpin, hpin2, go_sem, aD, mU]
     refine ⟨?_, ?_, ?_⟩ <;> refine zf ze _ ?_
     all_goals simp +decide only [w2, pkC, hpin, hpin2, go_sem, aD, mU]
theorem zly (N : List NodeD) (hN : N.length <= 1048576) (hK : ∀ x ∈ N, x.kids.length <= 1048576) (d : Nat) (hd : d <= 10) : PutR N d := by
 induction d using Nat.strongRecOn with
 | ind d ih => exact zpz N hN hK d hd (fun e he => ih e he (by omega))
def szF (nodes : List NodeD) : Nat -> Int -> Nat
 | 0, _ => 0
 | d + 1, k => 3 + (nAt nodes k).kids.length + sumN (szF nodes d) (nAt nodes k).kids
def szB (nodes : List NodeD) (k : Int) : Nat := szF nodes (k.toNat + 1) k
structure LowD where
 locs : List Int
 words : List InsD
def LowD.le (s s2 : LowD) (b : Nat) : Prop := s.locs.length <= s2.locs.length /\ s2.locs.length <= s.locs.length + b /\ s.words.length <= s2.words.length /\ s2.words.length <= s.words.length + b
theorem LowD.le.trans {s s2 s3 : LowD} {a b : Nat} (h : s.le s2 a) (h2 : s2.le s3 b) : s.le s3 (a + b) := by
 obtain ⟨p1, p2, p3, p4⟩ := h
 obtain ⟨q1, q2, q3, q4⟩ := h2
 exact ⟨by omega, by omega, by omega, by omega⟩
theorem LowD.le.mono {s s2 : LowD} {a b : Nat} (h : s.le s2 a) (h2 : a <= b) : s.le s2 b := ⟨h.1, by have := h.2.1; omega, h.2.2.1, by have := h.2.2.2; omega⟩
theorem LowD.le.refl (s : LowD) : s.le s 0 := ⟨by omega, by omega, by omega, by omega⟩
theorem zsj : fo Tryz.prog 145 0 = some 0 := by kernel_rfl
theorem zsi : fo Tryz.prog 145 1 = some 2 := by kernel_rfl
theorem zsh : fo Tryz.prog 145 2 = some 3 := by kernel_rfl
theorem rLow : isR Tryz.prog 145 = some true := by kernel_rfl
theorem sLow : szT Tryz.prog 145 = 7 := by kernel_rfl
theorem zLow : zeroCells Tryz.prog 145 = some [.slice none 0 0, .slice none 0 0, .slice none 0 0, .string ⟨#[]⟩, .int .i64 0, .slice none 0 0, .slice none 0 0] := by kernel_rfl
theorem zrT : xz Tryz.prog 145 = some [(0, 2), (2, 1), (3, 4)] := by kernel_rfl
attribute [go_sem] zsj zsi zsh rLow sLow zLow zrT
def LetsIn (p : ProgramD) (l : List VarD) (n : Nat) : Prop := ∀ m, Reach p.nodes n m -> (nAt p.nodes m).kind = 13 -> 0 <= Zj l (nAt p.nodes m).name
theorem LetsIn.kid {p : ProgramD} {l : List VarD} {n : Nat} (h : LetsIn p l n) (hn : n < p.nodes.length) {k : Int} (hk : k ∈ p.nodes[n].kids) : LetsIn p l k.toNat := fun m hm h13 => h m ((Reach.step (.refl n) hn hk).trans hm) h13
theorem LetsIn.own {p : ProgramD} {l : List VarD} {n : Nat} (hD : Deep p.nodes) (h : LetsIn p l n) (hn : n < p.nodes.length) : ∀ k ∈ p.nodes[n].kids, (nAt p.nodes k).kind = 13 -> 0 <= Zj l (nAt p.nodes k).name := fun k hk h13 => by
 obtain ⟨q0, q1, q2⟩ := hD.kid hn k hk
 have := h.kid hn hk k.toNat (.refl _)
 rw [show ((k.toNat : Nat) : Int) = k by omega] at this
 exact this h13
set_option maxHeartbeats 4000000
set_option maxHeartbeats 8000000
section
variable {P : Program} {f : FuncId}
def nilD (d d' : D) : Prop := d' = d \/ (d = .sc (.slice none 0 0) /\ ∃ e, d' = .row false e [])
def nilR (r r' : RV) : Prop := r.1 = r'.1 /\ r.2.length = r'.2.length /\ ∀ (j : Nat) (d d' : D), r.2[j]? = some d -> r'.2[j]? = some d' -> nilD d d'
def nilRs (rs rs' : List RV) : Prop := rs.length = rs'.length /\ ∀ (i : Nat) (r r' : RV), rs[i]? = some r -> rs'[i]? = some r' -> nilR r r'
theorem SoundAt.nilRs {ts : (Nat -> Value) -> List V} {ob0 : List (Nat × Ob)} {post post' : List RV -> St -> Prop} (hs : SoundAt P f ts ob0 post) (h : ∀ rs st, post rs st -> ∃ rs', nilRs rs rs' /\ post' rs' st) : SoundAt P f ts ob0 post' := by
 refine ⟨hs.1, fun uf ub C w gh us h1 h2 h3 h4 h5 h6 => (hs.2 uf ub C w gh us h1 h2 h3 h4 h5 h6).mono (fun e w' he => ?_)⟩
 obtain ⟨vs, rs, st', a', gh', G, rfl, hp, hres, hrep⟩ := he
 obtain ⟨rs', ⟨hn, hr⟩, hp'⟩ := h rs st' hp
 have back : ∀ (i : Nat) (r' : RV), rs'[i]? = some r' -> ∃ r, rs[i]? = some r /\ nilR r r' := fun i r' hi => by
  have hl : i < rs.length := by rw [hn]; exact (List.getElem?_eq_some_iff.1 hi).1
  exact ⟨rs[i], lE hl, hr i _ _ (lE hl) hi⟩
 have backd : ∀ {r r' : RV} (h : nilR r r') (j : Nat) (d' : D), r'.2[j]? = some d' -> ∃ d, r.2[j]? = some d /\ nilD d d' := fun {r r'} h j d' hj => by
  have hl : j < r.2.length := by rw [h.2.1]; exact (List.getElem?_eq_some_iff.1 hj).1
  exact ⟨r.2[j], lE hl, h.2.2 j _ _ (lE hl) hj⟩
 have hin : YA rs' G = YA rs G := by
  funext k
  apply propext
  constructor
  · rintro ⟨i, j, r', d', hi, hj, hk⟩
    obtain ⟨r, hi2, hrr⟩ := back i r' hi
    obtain ⟨d, hj2, _⟩ := backd hrr j d' hj
    exact ⟨i, j, r, d, hi2, hj2, hk⟩
  · rintro ⟨i, j, r, d, hi, hj, hk⟩
    have hl : i < rs'.length := by rw [<- hn]; exact (List.getElem?_eq_some_iff.1 hi).1
    have hrr := hr i _ _ hi (lE hl)
    have hl2 : j < (rs'[i]).2.length := by rw [<- hrr.2.1]; exact (List.getElem?_eq_some_iff.1 hj).1
    exact ⟨i, j, rs'[i], (rs'[i]).2[j], lE hl, lE hl2, hk⟩
 refine ⟨vs, rs', st', a', gh', G, rfl, hp', ?_, by rw [hin]; exact hrep⟩
 refine ⟨by rw [<- hn]; exact hres.len, fun i r' v hi hv h1 => ?_, fun i r' v hi hv h1 => ?_, fun i r' v hi hv => ?_, hres.c1, fun i r' v j d' hi hv hj => ?_, fun i j i' j' r r' d d' k hi hj hi' hj' h1 h2 => ?_⟩
 · obtain ⟨r, hi2, hrr⟩ := back i r' hi
   exact hres.one i r v hi2 hv (by rw [hrr.1]; exact h1)
 · obtain ⟨r, hi2, hrr⟩ := back i r' hi
   exact hres.agg i r v hi2 hv (by rw [hrr.1]; exact h1)
 · obtain ⟨r, hi2, hrr⟩ := back i r' hi
   rw [hres.sz i r v hi2 hv, hrr.2.1]
 · obtain ⟨r, hi2, hrr⟩ := back i r' hi
   obtain ⟨d, hj2, hd⟩ := backd hrr j d' hj
   have how := hres.ow i r v j d hi2 hv hj2
   rcases hd with rfl | ⟨rfl, e, rfl⟩
   · exact how
   · exact how.nilr
 · obtain ⟨r0, hi2, hrr⟩ := back i r hi
   obtain ⟨d0, hj2, _⟩ := backd hrr j d hj
   obtain ⟨r1, hi3, hrr1⟩ := back i' r' hi'
   obtain ⟨d1, hj3, _⟩ := backd hrr1 j' d' hj'
   exact hres.dis i j i' j' r0 r1 d0 d1 k hi2 hj2 hi3 hj3 h1 h2
end
theorem zbz (d : D) : nilD d d := Or.inl rfl
theorem zis (r : RV) : nilR r r := ⟨rfl, rfl, fun j d d' h1 h2 => by rw [h1] at h2; cases h2; exact zbz _⟩
theorem zmf (b : Bool) : nilRs [(true, [.sc (.slice none 0 0), .sc (.slice none 0 0)]), (false, [cB b])] [(true, za false ⟨[], []⟩), (false, [cB b])] := by
 refine ⟨rfl, fun i r r' h1 h2 => ?_⟩
 match i with
 | 0 =>
  simp only [List.getElem?_cons_zero, Option.some.injEq] at h1 h2
  subst h1 h2
  refine ⟨rfl, rfl, fun j d d' g1 g2 => ?_⟩
  match j with
  | 0 => simp [za] at g1 g2; subst g1 g2; exact Or.inr ⟨rfl, 83, rfl⟩
  | 1 => simp [za] at g1 g2; subst g1 g2; exact Or.inr ⟨rfl, 104, rfl⟩
  | j + 2 => simp at g1
 | 1 =>
  simp only [List.getElem?_cons_succ, List.getElem?_cons_zero, Option.some.injEq] at h1 h2
  subst h1 h2
  exact zis _
 | i + 2 => simp at h1
theorem zbV {P : Program} {fid : FuncId} {gs : List Arg} {g : Bool} {x : ProgramD} (h : zx P fid gs (fun rs st => rs = if g then [(true, za false x), (false, [cB true])] else [(true, [.sc (.slice none 0 0), .sc (.slice none 0 0)]), (false, [cB false])])) :
 zx P fid gs (fun rs st => rs = [(true, za false (if g then x else ⟨[], []⟩)), (false, [cB g])]) := by
 refine SoundAt.nilRs h (fun rs st hr => ⟨_, ?_, rfl⟩)
 rw [hr]
 cases g with
 | true =>
  simp only [if_true]
  exact ⟨rfl, fun i r r' h1 h2 => by rw [h1] at h2; cases h2; exact zis _⟩
 | false =>
  simp only [bF, if_false]
  exact zmf false
theorem zfV {l : List FnD} {i : Nat} (h : i < l.length) : l.drop i = l[i] :: l.drop (i + 1) := List.drop_eq_getElem_cons h
theorem zdm (l : List FnD) (x : FnD) : rows (fnC false) l ++ [[D.sc (.string x.name), .row false 107 (rows (zn false) x.params), .sc (.int .i64 x.res), .sc (.int .i64 x.body), .sc (.int .i64 x.ret)]] = rows (fnC false) (l ++ [x]) := yM (fnC false) l x
theorem zlG (p : ProgramD) : (zcb p).2.to.length <= 300 := by
 have key : ∀ (l : List FnD) (s : PkS), s.to.length <= 300 -> (Zu (pkI p.nodes 10) l s).2.to.length <= 300 := by
  intro l
  induction l with
  | nil => intro s hs; exact hs
  | cons f r ih =>
   intro s hs
   unfold Zu
   refine ih _ ?_
   unfold pkFn
   have h1 := zax p.nodes 10 f.body s hs
   split
   · exact zax p.nodes 10 f.ret _ h1
   · exact h1
 exact key p.fns pk0 (by simp [pk0])
theorem zgD (p : ProgramD) (hf : p.fns.length <= 1048576) (hn : p.nodes.length <= 1048576) (hk : ∀ x ∈ p.nodes, x.kids.length <= 1048576) (hpl : ∀ f ∈ p.fns, f.params.length <= 1048576) :
 zx Tryz.prog 150 [.ro (zb p)] (fun rs st => rs = [(true, za false (zag p)), (false, [cB (zcc p)])]) := by
 unfold zag
 refine zbV ?_
 have hput := zlz p.nodes hn hk 10 (by omega)
 unfold PutI at hput
 have hmost := fun k s h => zax p.nodes 10 k s h
 have hB : zcc p = !(zcb p).2.bad := rfl
 obtain ⟨R, hR⟩ : ∃ R, zcb p = R := ⟨_, rfl⟩
 rw [hB, hR]
 unfold zcb at hR
 generalize hV : pkI p.nodes 10 = V at hput hmost hR
 have e11 : (11 - ((10 : Nat) : Int)) = 1 := by omega
 simp only [e11] at hput
 refine zp (fn := Tryz.f150) (c := Tryz.f150.body.getD .skip) (res := [.ce 2 36, .tm 3]) (n := 45) ze (by kernel_rfl) (by rfl) (by kernel_rfl) (by rfl) (by rfl) (by simp [zu]) (fun uf ub C hpin hpin2 hfull => ?_)
 simp only [Tryz.f150, oD]
 refine Tri.step ze ?_
 simp +decide only [zb, za, pkC, hpin, go_sem, aD, mU]
 refine Tri.ent ?_ (Ent.frb hfull 1)
 refine Tri.step ze ?_
 simp +decide only [zb, za, pkC, hpin, go_sem, aD, mU]
 refine Tri.ent ?_ (Ent.nilr 4 1 83)
 refine Tri.step ze ?_
 simp +decide only [zb, za, pkC, hpin, go_sem, aD, mU]
 refine Tri.ent ?_ (Ent.nilr 5 1 104)
 refine Tri.step ze ?_
 simp +decide only [zb, za, pkC, hpin, go_sem, aD, mU]
 refine Tri.loop (ι := Nat × List FnD × PkS) (fun q => q.1 <= p.fns.length /\ q.2.1.length = q.1 /\ q.2.2.to.length <= 300 /\ R = (q.2.1 ++ (Zu V (p.fns.drop q.1) q.2.2).1, (Zu V (p.fns.drop q.1) q.2.2).2))
  (fun q => ⟨45, [(2, .bp 2 0), (4, .bp 4 0), (5, .bp 5 0), (12, .imm 104 (rows (fnC true) p.fns)), (13, vI p.fns.length), (14, vI q.1)], [(2, .box [.sc (.slice none 0 0), .sc (.slice none 0 0)]), (4, .box (pkC p.nodes q.2.2.to q.2.2.bad)), (5, .box [.sc (.slice none 0 0), .row false 104 (rows (fnC false) q.2.1)])]⟩) (fun q => p.fns.length - q.1) (0, [], pk0) ⟨by simp, rfl, by simp [pk0], by simp [<- hR]⟩ ?_ ?_
 · refine Ent.weak ?_ ?_ ?_ ?_ <;> simp +decide [zH, St.nilr, St.swap, subT, subB, zj, zi, zm, St.get, look, vI, vB, vS, cI, cS, cB, zg, za, pkC, roI, rows, pk0]
 · rintro ⟨i, acc, t⟩ ⟨hi, hal, htl, hRe⟩
   simp only at hi hal htl hRe |-
   refine zf ze _ ?_
   by_cases h' : i < p.fns.length
   · have e : ((i : Int) < (p.fns.length : Int)) = True := by simp [h']
     have hx : (rows (fnC true) p.fns).getD i [] = fnC true p.fns[i] := zk _ _ h'
     have hkx := hpl p.fns[i] (lM h')
     rw [zfV h'] at hRe
     unfold Zu at hRe
     generalize p.fns[i] = f at hx hkx hRe
     have hcf := zcK f hkx
     simp only [fnW] at hcf
     have hc1 := hput f.body t htl
     have ht1 := hmost f.body t htl
     unfold pkFn at hRe
     generalize V f.body t = r1 at hRe hc1 ht1
     obtain ⟨b1, t1⟩ := r1
     simp only at hRe hc1 ht1
     have hc2 := hput f.ret t1 ht1
     have ht2 := hmost f.ret t1 ht1
     generalize V f.ret t1 = r2 at hRe hc2 ht2
     obtain ⟨b2, t2⟩ := r2
     simp only at hRe hc2 ht2
     simp only [pkC, cI] at hc1 hc2
     have hb1 : i + 1 <= 140737488355328 := by omega
     have hb2 : (i + 1) * 64 <= 140737488355328 := by omega
     simp +decide only [e, h', hx, fnC, iN, vB, vI, zb, za, pkC, hpin, go_sem, aD, mU]
     refine zd hcf hpin ?_
     simp +decide only [fnC, zb, za, pkC, hpin, go_sem, aD, mU]
     refine yr hc1 hpin hfull [(2000, 4)] [] [(2000, 4)] ⟨rfl, rfl, rfl, rfl⟩ (fun uf => ?_) ?_
     · simp +decide only [zb, za, pkC, hpin, go_sem, aD, mU]
     simp +decide only [fnC, zb, za, pkC, hpin, go_sem, aD, mU]
     by_cases h0 : 0 <= f.ret
     · have c0 : (0 <= f.ret) = True := eq_true h0
       rw [if_pos (by simpa using h0)] at hRe
       have hsn := zdm acc ⟨f.name, f.params, f.res, b1, b2⟩
       have hal2 : (acc ++ [(⟨f.name, f.params, f.res, b1, b2⟩ : FnD)]).length = i + 1 := by simp [hal]
       simp +decide only [c0, ge_iff_le, fnC, zb, za, pkC, hpin, go_sem, aD, mU]
       refine yr hc2 hpin hfull [(2000, 4)] [] [(2000, 4)] ⟨rfl, rfl, rfl, rfl⟩ (fun uf => ?_) ?_
       · simp +decide only [zb, za, pkC, hpin, go_sem, aD, mU]
       simp +decide only [hal, hal2, hb1, hb2, hsn, fnC, zb, za, pkC, hpin, go_sem, aD, mU]
       refine ⟨(i + 1, acc ++ [⟨f.name, f.params, f.res, b1, b2⟩], t2), ⟨h', by simp [hal], ht2, by rw [hRe]; simp⟩, by show p.fns.length - (i + 1) < p.fns.length - i; omega, Ent.weak ?_ ?_ ?_ ?_⟩
       all_goals simp +decide [zH, St.nilr, St.swap, subT, subB, zj, zi, zm, St.get, look, vI, vB, vS, cI, cS, cB, zg, za, pkC, roI, hsn, w64s (n := p.fns.length) h' (by omega)]
     · have c0 : (0 <= f.ret) = False := eq_false h0
       rw [if_neg (by simpa using h0)] at hRe
       have hsn := zdm acc ⟨f.name, f.params, f.res, b1, f.ret⟩
       have hal2 : (acc ++ [(⟨f.name, f.params, f.res, b1, f.ret⟩ : FnD)]).length = i + 1 := by simp [hal]
       simp +decide only [c0, ge_iff_le, hal, hal2, hb1, hb2, hsn, fnC, zb, za, pkC, hpin, go_sem, aD, mU]
       refine ⟨(i + 1, acc ++ [⟨f.name, f.params, f.res, b1, f.ret⟩], t1), ⟨h', by simp [hal], ht1, by rw [hRe]; simp⟩, by show p.fns.length - (i + 1) < p.fns.length - i; omega, Ent.weak ?_ ?_ ?_ ?_⟩
       all_goals simp +decide [zH, St.nilr, St.swap, subT, subB, zj, zi, zm, St.get, look, vI, vB, vS, cI, cS, cB, zg, za, pkC, roI, hsn, w64s (n := p.fns.length) h' (by omega)]
   · have hil : i = p.fns.length := by omega
     subst hil
     have e : ((p.fns.length : Int) < (p.fns.length : Int)) = False := by simp
     rw [List.drop_length] at hRe
     simp only [Zu, List.append_nil] at hRe
     subst hRe
     obtain ⟨tt, tb⟩ := t
     simp +decide only [e, vB, vI, zb, za, pkC, hpin, go_sem, aD, mU]
     refine Tri.step ze ?_
     cases tb with
     | true =>
      simp +decide only [zb, za, pkC, hpin, go_sem, aD, mU]
     | false =>
      simp +decide only [zb, za, pkC, hpin, go_sem, aD, mU]
      refine zf ze _ ?_
      simp +decide only [zb, za, pkC, hpin, go_sem, aD, mU]
theorem zgC (p : ProgramD) (hf : p.fns.length <= 1048576) (hn : p.nodes.length <= 1048576) (hk : ∀ x ∈ p.nodes, x.kids.length <= 1048576) (hpl : ∀ f ∈ p.fns, f.params.length <= 1048576) :
 zx Tryz.prog 139 [.ro (zb p)] (fun rs st => rs = [(true, za false (zag p)), (false, [cB (zcc p)])]) := by
 unfold zag
 refine zbV ?_
 have hput := zly p.nodes hn hk 10 (by omega)
 unfold PutR at hput
 have hmost := fun k s h => zmQ p.nodes 10 k s 320 (by omega) h
 obtain ⟨ha1, ha2⟩ := zlE p
 obtain ⟨R, hR⟩ : ∃ R, zlF p = R := ⟨_, rfl⟩
 rw [hR] at ha1 ha2
 unfold zlF at hR
 generalize hV : pkR p.nodes 10 = V at hput hmost hR
 have e11 : (11 - ((10 : Nat) : Int)) = 1 := by omega
 simp only [e11] at hput
 refine zp (fn := Tryz.f139) (c := Tryz.f139.body.getD .skip) (res := [.ce 2 36, .tm 3]) (n := 68) ze (by kernel_rfl) (by rfl) (by kernel_rfl) (by rfl) (by rfl) (by simp [zu]) (fun uf ub C hpin hpin2 hfull => ?_)
 simp only [Tryz.f139, oD]
 refine Tri.step ze ?_
 simp +decide only [zb, za, pkC, hpin, go_sem, aD, mU]
 refine Tri.ent ?_ (Ent.frb hfull 1)
 refine Tri.step ze ?_
 simp +decide only [zb, za, pkC, hpin, go_sem, aD, mU]
 refine Tri.ent ?_ (Ent.nilr 11 1 83)
 refine Tri.step ze ?_
 simp +decide only [zb, za, pkC, hpin, go_sem, aD, mU]
 refine Tri.ent ?_ (Ent.nilr 5 1 104)
 refine Tri.step ze ?_
 simp +decide only [zb, za, pkC, hpin, go_sem, aD, mU]
 refine Tri.loop (ι := Nat × List FnD × PkS) (fun q => q.1 <= p.fns.length /\ q.2.1.length = q.1 /\ q.2.2.to.length <= 320 /\ R = (q.2.1 ++ (Zu V (p.fns.drop q.1) q.2.2).1, (Zu V (p.fns.drop q.1) q.2.2).2))
  (fun q => ⟨68, [(1, .ip (za true p) 0), (2, .bp 2 0), (4, .bp 11 0), (5, .bp 5 0), (6, vI q.1)], [(2, .box [.sc (.slice none 0 0), .sc (.slice none 0 0)]), (11, .box (pkC p.nodes q.2.2.to q.2.2.bad)), (5, .box [.sc (.slice none 0 0), .row false 104 (rows (fnC false) q.2.1)])]⟩) (fun q => p.fns.length - q.1) (0, [], pk0) ⟨by simp, rfl, by simp [pk0], by simp [<- hR]⟩ ?_ ?_
 · refine Ent.weak ?_ ?_ ?_ ?_ <;> simp +decide [zH, St.nilr, St.swap, subT, subB, zj, zi, zm, St.get, look, vI, vB, vS, cI, cS, cB, zg, za, pkC, roI, rows, pk0]
 · rintro ⟨i, acc, t⟩ ⟨hi, hal, htl, hRe⟩
   simp only at hi hal htl hRe |-
   refine zf ze _ ?_
   by_cases h' : i < p.fns.length
   · have e : ((i : Int) < (p.fns.length : Int)) = True := by simp [h']
     have hx : (rows (fnC true) p.fns).getD i [] = fnC true p.fns[i] := zk _ _ h'
     have hkx := hpl p.fns[i] (lM h')
     rw [zfV h'] at hRe
     unfold Zu at hRe
     generalize p.fns[i] = f at hx hkx hRe
     have hfr := zaZ f.params
     have htf := zdT f.params
     have hb3 : f.params.length <= 140737488355328 := by omega
     have hb4 : f.params.length * 24 <= 140737488355328 := by omega
     have hc1 := hput f.body t (by omega)
     have ht1 := hmost f.body t htl
     unfold pkFn at hRe
     generalize V f.body t = r1 at hRe hc1 ht1
     obtain ⟨b1, t1⟩ := r1
     simp only at hRe hc1 ht1
     have hc2 := hput f.ret t1 (by omega)
     have ht2 := hmost f.ret t1 ht1
     generalize V f.ret t1 = r2 at hRe hc2 ht2
     obtain ⟨b2, t2⟩ := r2
     simp only at hRe hc2 ht2
     simp only [pkC, cI] at hc1 hc2
     have hb1 : i + 1 <= 140737488355328 := by omega
     have hb2 : (i + 1) * 64 <= 140737488355328 := by omega
     simp +decide only [e, h', hx, hfr, hb3, hb4, fnC, iN, vB, vI, zb, za, pkC, hpin, go_sem, aD, mU]
     refine yr hc1 hpin hfull [(2000, 11)] [] [(2000, 11)] ⟨rfl, rfl, rfl, rfl⟩ (fun uf => ?_) ?_
     · simp +decide only [zb, za, pkC, hpin, go_sem, aD, mU]
     simp +decide only [fnC, zb, za, pkC, hpin, go_sem, aD, mU]
     by_cases h0 : 0 <= f.ret
     · have c0 : (0 <= f.ret) = True := eq_true h0
       rw [if_pos (by simpa using h0)] at hRe
       have hsn := zdm acc ⟨f.name, f.params, f.res, b1, b2⟩
       simp only [<- htf] at hsn
       have hal2 : (acc ++ [(⟨f.name, f.params, f.res, b1, b2⟩ : FnD)]).length = i + 1 := by simp [hal]
       simp +decide only [c0, ge_iff_le, fnC, zb, za, pkC, hpin, go_sem, aD, mU]
       refine yr hc2 hpin hfull [(2000, 11)] [] [(2000, 11)] ⟨rfl, rfl, rfl, rfl⟩ (fun uf => ?_) ?_
       · simp +decide only [zb, za, pkC, hpin, go_sem, aD, mU]
       simp +decide only [hal, hal2, hb1, hb2, hsn, fnC, zb, za, pkC, hpin, go_sem, aD, mU]
       refine ⟨(i + 1, acc ++ [⟨f.name, f.params, f.res, b1, b2⟩], t2), ⟨h', by simp [hal], ht2, by rw [hRe]; simp⟩, by show p.fns.length - (i + 1) < p.fns.length - i; omega, Ent.weak ?_ ?_ ?_ ?_⟩
       all_goals simp +decide [zH, St.nilr, St.swap, subT, subB, zj, zi, zm, St.get, look, vI, vB, vS, cI, cS, cB, zg, za, pkC, roI, hsn, w64s (n := p.fns.length) h' (by omega)]
     · have c0 : (0 <= f.ret) = False := eq_false h0
       rw [if_neg (by simpa using h0)] at hRe
       have hsn := zdm acc ⟨f.name, f.params, f.res, b1, f.ret⟩
       simp only [<- htf] at hsn
       have hal2 : (acc ++ [(⟨f.name, f.params, f.res, b1, f.ret⟩ : FnD)]).length = i + 1 := by simp [hal]
       simp +decide only [c0, ge_iff_le, hal, hal2, hb1, hb2, hsn, fnC, zb, za, pkC, hpin, go_sem, aD, mU]
       refine ⟨(i + 1, acc ++ [⟨f.name, f.params, f.res, b1, f.ret⟩], t1), ⟨h', by simp [hal], ht1, by rw [hRe]; simp⟩, by show p.fns.length - (i + 1) < p.fns.length - i; omega, Ent.weak ?_ ?_ ?_ ?_⟩
       all_goals simp +decide [zH, St.nilr, St.swap, subT, subB, zj, zi, zm, St.get, look, vI, vB, vS, cI, cS, cB, zg, za, pkC, roI, hsn, w64s (n := p.fns.length) h' (by omega)]
   · have hil : i = p.fns.length := by omega
     subst hil
     have e : ((p.fns.length : Int) < (p.fns.length : Int)) = False := by simp
     rw [List.drop_length] at hRe
     simp only [Zu, List.append_nil] at hRe
     subst hRe
     obtain ⟨tt, tb⟩ := t
     simp only at ha1 ha2
     simp +decide only [e, vB, vI, zb, za, pkC, hpin, go_sem, aD, mU]
     refine Tri.step ze ?_
     cases tb with
     | true =>
      have hB : zcc p = false := by rw [<- ha1]; simp
      simp +decide only [hB, zb, za, pkC, hpin, go_sem, aD, mU]
     | false =>
      by_cases g : 300 < tt.length
      · have g1 : ((300 : Int) < (tt.length : Int)) = True := eq_true (by omega)
        have hB : zcc p = false := by rw [<- ha1]; simp [g]
        simp +decide only [g1, gt_iff_lt, hB, zb, za, pkC, hpin, go_sem, aD, mU]
      · have g1 : ((300 : Int) < (tt.length : Int)) = False := eq_false (by omega)
        have hB : zcc p = true := by rw [<- ha1]; simp; omega
        have hq := ha2 hB
        have q1 : (zcb p).2.to = tt := by rw [<- hq]
        have q2 : (zcb p).1 = acc := by rw [<- hq]
        simp +decide only [g1, gt_iff_lt, hB, q1, q2, zb, za, pkC, hpin, go_sem, aD, mU]
        refine zf ze _ ?_
        simp +decide only [zb, za, pkC, hpin, go_sem, aD, mU]
noncomputable def zeI (q : ProgramD) : Bool := zcc q && zX (zag q)
noncomputable def zcn (q : ProgramD) : Int := if zeI q then 0 else 1
noncomputable def finP (p q : ProgramD) : ProgramD := if zeI q then zag q else p
theorem zdY (q : ProgramD) (hf : q.fns.length <= 1048576) (hk : ∀ x ∈ q.nodes, x.kids.length <= 1048576) (hpl : ∀ f ∈ q.fns, f.params.length <= 1048576) : (zag q).nodes.length <= 300 /\ (zag q).fns.length <= 1048576 /\ (∀ x ∈ (zag q).nodes, x.kids.length <= 1048576) /\ (∀ f ∈ (zag q).fns, f.params.length <= 1048576) := by
 unfold zag
 split
 case isFalse => exact ⟨by simp, by simp, fun x hx => by simp at hx, fun x hx => by simp at hx⟩
 have hto : ∀ (d : Nat) (k : Int) (s : PkS), (∀ x ∈ s.to, x.kids.length <= 1048576) -> ∀ x ∈ (pkI q.nodes d k s).2.to, x.kids.length <= 1048576 := by
  intro d
  induction d with
  | zero => intro k s hs x hx; exact hs x hx
  | succ d ih =>
   intro k s hs
   have hr : ∀ (l : List Int) (s : PkS), (∀ x ∈ s.to, x.kids.length <= 1048576) -> ∀ x ∈ (runB (pkI q.nodes d) l s).2.to, x.kids.length <= 1048576 := by
    intro l
    induction l with
    | nil => intro s hs x hx; exact hs x hx
    | cons k r ihr =>
     intro s hs
     unfold runB
     split
     · exact hs
     · exact ihr _ (ih k s hs)
   have h1 := hr (nAt q.nodes k).kids s hs
   have h2 := zdI (pkI q.nodes d) (nAt q.nodes k).kids s
   have h3 : (nAt q.nodes k).kids.length <= 1048576 := by
    unfold nAt
    rw [List.getD_eq_getElem?_getD]
    cases hq : q.nodes[k.toNat]? with
    | none => simp [nd0]
    | some y => exact hk y (List.mem_of_getElem? hq)
   unfold pkI
   split
   · exact hs
   split
   · exact h1
   split
   · exact h1
   · intro x hx
     unfold zbu at hx
     simp only [List.mem_append, List.mem_singleton] at hx
     rcases hx with hx | rfl
     · exact h1 x hx
     · show (runB (pkI q.nodes d) (nAt q.nodes k).kids s).1.length <= _; omega
 have hfs : ∀ (l : List FnD) (s : PkS), (∀ x ∈ s.to, x.kids.length <= 1048576) -> (∀ f ∈ l, f.params.length <= 1048576) -> (Zu (pkI q.nodes 10) l s).1.length = l.length /\ (∀ x ∈ (Zu (pkI q.nodes 10) l s).2.to, x.kids.length <= 1048576) /\ ∀ f ∈ (Zu (pkI q.nodes 10) l s).1, f.params.length <= 1048576 := by
  intro l
  induction l with
  | nil => intro s hs hl; exact ⟨rfl, hs, fun f hf => by simp [Zu] at hf⟩
  | cons f r ih =>
   intro s hs hl
   have h1 : ∀ x ∈ (pkFn (pkI q.nodes 10) f s).2.to, x.kids.length <= 1048576 := by
    unfold pkFn
    split
    · exact hto 10 _ _ (hto 10 _ _ hs)
    · exact hto 10 _ _ hs
   have h2 : (pkFn (pkI q.nodes 10) f s).1.params = f.params := by unfold pkFn; split <;> rfl
   obtain ⟨g1, g2, g3⟩ := ih _ h1 (fun x hx => hl x (List.mem_cons_of_mem _ hx))
   unfold Zu
   refine ⟨by simp [g1], g2, fun x hx => ?_⟩
   rcases List.mem_cons.1 hx with rfl | hx
   · rw [h2]; exact hl f (List.mem_cons_self ..)
   · exact g3 x hx
 obtain ⟨g1, g2, g3⟩ := hfs q.fns pk0 (fun x hx => by simp [pk0] at hx) hpl
 refine ⟨zlG q, ?_, g2, g3⟩
 show (zcb q).1.length <= _
 unfold zcb
 omega
theorem zft (p q : ProgramD) (hf : p.fns.length <= 1048576) (hn : p.nodes.length <= 1048576) (hk : ∀ x ∈ p.nodes, x.kids.length <= 1048576) (hpl : ∀ f ∈ p.fns, f.params.length <= 1048576) (hf2 : q.fns.length <= 1048576) (hn2 : q.nodes.length <= 1048576) (hk2 : ∀ x ∈ q.nodes, x.kids.length <= 1048576) (hpl2 : ∀ f ∈ q.fns, f.params.length <= 1048576) :
 zx Tryz.prog 73 [.ro (zb p), .ro (zb q)] (fun rs st => rs = [(true, za false (finP p q)), (false, [cI (zcn q)])]) := by
 have hpk := zgD q hf2 hn2 hk2 hpl2
 obtain ⟨g1, g2, g3, g4⟩ := zdY q hf2 hk2 hpl2
 have htr := YP (zag q) g2 (by omega) g3 g4
 have hcp := Xg p hf hn hk hpl
 unfold finP zcn zeI
 generalize zag q = Q at hpk htr |-
 simp only [zb, za] at hpk htr hcp
 refine zp (fn := Tryz.f73) (c := Tryz.f73.body.getD .skip) (res := [.ce 4 36, .tm 5]) (n := 23) ze (by kernel_rfl) (by rfl) (by kernel_rfl) (by rfl) (by rfl) (by simp [zu]) (fun uf ub C hpin hpin2 hfull => ?_)
 simp only [Tryz.f73, oD]
 refine Tri.step ze ?_
 simp +decide only [zb, za, pkC, hpin, go_sem, aD, mU]
 refine Tri.ent ?_ (Ent.frb hfull 2)
 refine Tri.ent ?_ (Ent.frb hfull 3)
 refine Tri.step ze ?_
 simp +decide only [zb, za, pkC, hpin, go_sem, aD, mU]
 refine zd hpk hpin ?_
 simp +decide only [zb, za, pkC, hpin, go_sem, aD, mU]
 refine Tri.step ze ?_
 cases hB : zcc q with
 | false =>
  simp +decide only [zb, za, pkC, hpin, go_sem, aD, mU]
  refine zd hcp hpin ?_
  simp +decide only [zb, za, pkC, hpin, go_sem, aD, mU]
 | true =>
  simp +decide only [zb, za, pkC, hpin, go_sem, aD, mU]
  refine zd htr hpin ?_
  cases hT : zX Q with
  | false =>
   simp +decide only [zb, za, pkC, hpin, go_sem, aD, mU]
   refine zd hcp hpin ?_
   simp +decide only [zb, za, pkC, hpin, go_sem, aD, mU]
  | true =>
   simp +decide only [zb, za, pkC, hpin, go_sem, aD, mU]
   refine zf ze _ ?_
   simp +decide only [zb, za, pkC, hpin, go_sem, aD, mU]
theorem zep (q : ProgramD) (hf2 : q.fns.length <= 1048576) (hn2 : q.nodes.length <= 1048576) (hk2 : ∀ x ∈ q.nodes, x.kids.length <= 1048576) (hpl2 : ∀ f ∈ q.fns, f.params.length <= 1048576) :
 zx Tryz.prog 61 [.ro (zb q)] (fun rs st => rs = [(true, za false (if zeI q then zag q else ⟨[], []⟩)), (false, [cB (zeI q)])]) := by
 refine zbV ?_
 have hpk := zgC q hf2 hn2 hk2 hpl2
 obtain ⟨g1, g2, g3, g4⟩ := zdY q hf2 hk2 hpl2
 have htr := YO (zag q) g2 (by omega) g3 g4
 unfold zeI
 generalize zag q = Q at hpk htr |-
 simp only [zb, za] at hpk htr
 refine zp (fn := Tryz.f61) (c := Tryz.f61.body.getD .skip) (res := [.ce 2 36, .tm 3]) (n := 20) ze (by kernel_rfl) (by rfl) (by kernel_rfl) (by rfl) (by rfl) (by simp [zu]) (fun uf ub C hpin hpin2 hfull => ?_)
 simp only [Tryz.f61, oD]
 refine Tri.step ze ?_
 simp +decide only [zb, za, pkC, hpin, go_sem, aD, mU]
 refine Tri.ent ?_ (Ent.frb hfull 1)
 refine Tri.step ze ?_
 simp +decide only [zb, za, pkC, hpin, go_sem, aD, mU]
 refine zd hpk hpin ?_
 simp +decide only [zb, za, pkC, hpin, go_sem, aD, mU]
 refine Tri.step ze ?_
 cases hB : zcc q with
 | false =>
  simp +decide only [zb, za, pkC, hpin, go_sem, aD, mU]
 | true =>
  simp +decide only [zb, za, pkC, hpin, go_sem, aD, mU]
  refine zd htr hpin ?_
  cases hT : zX Q with
  | false => simp +decide only [zb, za, pkC, hpin, go_sem, aD, mU]
  | true =>
   simp +decide only [zb, za, pkC, hpin, go_sem, aD, mU]
   refine zf ze _ ?_
   simp +decide only [zb, za, pkC, hpin, go_sem, aD, mU]
def isSl : Value -> Prop
 | .slice _ _ _ => True
 | _ => False
def znh : Value -> Prop
 | .int _ _ => True
 | _ => False
def zni : Option D -> Prop
 | some (.sc (.int _ _)) => True
 | _ => False
def zhq (P : Program) (st : St) (t : TypeId) (pv vv : V) (K : St -> Prop) : Prop := match pv, vv with
 | .rp o p i j, .sc c => match look st.ob o with
  | some x => match subO x p with
   | some (.row false e es) => i < es.length /\ j + 1 <= szT P e /\ szT P t = 1 /\ zni (cellAt es i j) /\ znh c /\ ev (b := ⟨K⟩) { st with ob := (o, setO x p (.row false e (zN es i j (.sc c)))) :: drop st.ob o }
   | _ => False
  | none => False
 | _, _ => False
def zjd (P : Program) (C : Cx) (ops : Array Oper) : List Oper -> St -> (St -> Prop) -> Prop
 | [], st, K => K st
 | o :: r, st, K => match o.op, o.dst, o.guard with
  | .store t x y, none, none => (st.ev x).ok /\ (st.ev y).ok /\ zhq P st t (st.ev x).str (st.ev y).str (fun st' => zjd P C ops r st' K)
  | _, _, _ => Zr st o /\ zje P C ops st o (fun st' => zjd P C ops r st' K)
section
variable {P : Program} {w w1 : World} {C : Cx} {X : Nat -> Prop} {gh gh' : Gh} {st st' : St} {a : Act} {v : V} {u : Value} {ob ob' : List (Nat × Ob)} {S : Nat -> Prop} {K : St -> Prop}
theorem Nav.head {d : D} {y : Value} {p : List (Nat × Nat)} {d2 : D} {v2 : Value} (h : Nav P w d y p d2 v2) (hs : isSl v2) : isSl y := by
 cases h with
 | nil => exact hs
 | cons hc hw hn => trivial
theorem Nav.moveS (Hw : ∀ b y, w.cell? b = some y -> isSl y -> w1.cell? b = some y) {d : D} {y : Value} {p : List (Nat × Nat)} {d2 : D} {v2 : Value} (h : Nav P w d y p d2 v2) (hs : isSl v2) : Nav P w1 d y p d2 v2 := by
 induction h with
 | nil => exact .nil
 | cons hc hw hn ih => exact .cons hc (Hw _ _ hw (hn.head hs)) (ih hs)
theorem Nav.keep (Hw : ∀ b y, w.cell? b = some y -> isSl y -> w1.cell? b = some y) {d : D} {y : Value} {p : List (Nat × Nat)} {d2 : D} {v2 : Value} (h : Nav P w d y p d2 v2) (hs : isSl v2) :
 ∀ {q : List (Nat × Nat)} {e : TypeId} {es : List (List D)} {i j : Nat} {c0 c : Value}, subD d q = some (.row false e es) -> cellAt es i j = some (.sc c0) -> ∀ {e' : TypeId} {es' : List (List D)}, d2 = .row false e' es' ->
  ∃ es'', Nav P w1 (setD d q (.row false e (zN es i j (.sc c)))) y p (.row false e' es'') v2 /\ es''.length = es'.length := by
 induction h with
 | @nil d y =>
  intro q e es i j c0 c hq hc e' es' hd
  subst hd
  cases q with
  | nil =>
   simp only [subD, Option.some.injEq, D.row.injEq, true_and] at hq
   obtain ⟨rfl, rfl⟩ := hq
   exact ⟨_, .nil, by simp⟩
  | cons ij q => exact ⟨_, .nil, by simp⟩
 | @cons e0 es0 ad l c1 i1 j1 d1 d2 v1 v2 p hc0 hw hn ih =>
  intro q e es i j c0 c hq hc e' es' hd
  have hw1 := Hw _ _ hw (hn.head hs)
  cases q with
  | nil =>
   simp only [subD, Option.some.injEq, D.row.injEq, true_and] at hq
   obtain ⟨rfl, rfl⟩ := hq
   simp only [setD]
   by_cases he : i = i1 /\ j = j1
   · obtain ⟨rfl, rfl⟩ := he
     rw [hc] at hc0
     cases hc0
     subst hd
     cases hn
   · refine ⟨es', .cons (by rw [yc hc, if_neg he]; exact hc0) hw1 ?_, rfl⟩
     subst hd
     exact hn.moveS Hw hs
  | cons ij q =>
   obtain ⟨a1, b1⟩ := ij
   simp only [subD, Option.bind_eq_some_iff] at hq
   obtain ⟨dq, hdq, hq⟩ := hq
   simp only [setD]
   by_cases he : a1 = i1 /\ b1 = j1
   · obtain ⟨rfl, rfl⟩ := he
     rw [hdq] at hc0
     cases hc0
     obtain ⟨es'', g1, g2⟩ := ih hs (c := c) hq hc hd
     refine ⟨es'', .cons (by rw [yc hdq, if_pos ⟨rfl, rfl⟩, hdq]) hw1 ?_, g2⟩
     exact g1
   · refine ⟨es', .cons (by rw [yc hdq, if_neg he]; exact hc0) hw1 ?_, rfl⟩
     subst hd
     exact hn.moveS Hw hs
theorem NavO.keep (Hw : ∀ b y, w.cell? b = some y -> isSl y -> w1.cell? b = some y) {o : Nat} {x : Ob} {p : List (Nat × Nat)} {e' : TypeId} {es' : List (List D)} {v2 : Value} (h : NavO P w gh o x p (.row false e' es') v2) (hs : isSl v2) {q : List (Nat × Nat)} {e : TypeId} {es : List (List D)} {i j : Nat} {c0 c : Value} (hq : subO x q = some (.row false e es)) (hc : cellAt es i j = some (.sc c0)) :
 ∃ es'', NavO P w1 gh o (setO x q (.row false e (zN es i j (.sc c)))) p (.row false e' es'') v2 /\ es''.length = es'.length := by
 cases x with
 | row e0 es0 =>
  simp only [NavO] at h
  obtain ⟨es'', g1, g2⟩ := h.keep Hw hs (c := c) (show subD (.row false e0 es0) q = _ from hq) hc rfl
  refine ⟨es'', ?_, g2⟩
  cases q with
  | nil =>
   simp only [subO, subD, Option.some.injEq, D.row.injEq, true_and] at hq
   obtain ⟨rfl, rfl⟩ := hq
   exact g1
  | cons ij q => exact g1
 | box cs =>
  cases p with
  | nil => exact h.elim
  | cons a1 p =>
   obtain ⟨ai, aj⟩ := a1
   obtain ⟨d1, v1, h1, h2, h3⟩ := h
   cases q with
   | nil => simp [subO] at hq
   | cons b1 q =>
    obtain ⟨bi, bj⟩ := b1
    simp only [subO, Option.bind_eq_some_iff] at hq
    obtain ⟨dq, hdq, hq⟩ := hq
    have hw1 := Hw _ _ h2 (h3.head hs)
    have hbl := (List.getElem?_eq_some_iff.1 hdq).1
    have e0 : cs.getD bj .dead = dq := by simp [List.getD, hdq]
    simp only [setO, e0]
    by_cases he : bj = aj
    · subst he
      rw [hdq] at h1
      cases h1
      obtain ⟨es'', g1, g2⟩ := h3.keep Hw hs (c := c) hq hc rfl
      exact ⟨es'', ⟨_, v1, List.getElem?_set_self hbl, hw1, g1⟩, g2⟩
    · exact ⟨es', ⟨d1, v1, by rw [List.getElem?_set_ne he]; exact h1, hw1, h3.moveS Hw hs⟩, rfl⟩
theorem VR.keep {o : Nat} {x x' : Ob} {F : Nat -> Prop} (h : VR P w gh ob v u) (ho : look ob o = some x) (hob' : ∀ o', look ob' o' = if o' = o then some x' else look ob o')
 (hl : ∀ cs, x = .box cs -> ∃ cs', x' = .box cs') (hn : ∀ p e es v2, NavO P w gh o x p (.row false e es) v2 -> isSl v2 -> ∃ es', NavO P w1 gh o x' p (.row false e es') v2 /\ es'.length = es.length)
 (hob : ∀ o y, look ob o = some y -> ObR P w gh o y) (hF : ∀ o' y k, o' ≠ o -> look ob o' = some y -> gh.F o' k -> w1.heap[k]? = w.heap[k]?) (hS : ∀ k, gh.S k -> w1.heap[k]? = w.heap[k]?) :
 VR P w1 (gh.upd o (gh.hv o) (gh.bb o) (gh.bo o) F) ob' v u := by
 obtain ⟨g1, g2, g3⟩ := gh.upd_self o F
 induction h with
 | dead => exact .dead
 | und => exact .und
 | sc h => exact .sc h
 | nil => exact .nil
 | imm h => exact .imm (h.move hS)
 | @ref o' n p y e es A c hx hnv hle =>
  by_cases e1 : o' = o
  · subst e1
    rw [ho] at hx; cases hx
    obtain ⟨es', n1, n2⟩ := hn p e es _ hnv trivial
    refine VR.ref (e := e) (es := es') (A := A) (c := c) (by rw [hob', if_pos rfl]) ?_ (by omega)
    rw [n2]
    exact n1.ghc g1 g2 g3
  · exact .ref (by rw [hob', if_neg e1]; exact hx) (((hob o' y hx).navO hnv (fun k hk => hF o' y k e1 hx hk)).ghc g1 g2 g3) hle
 | @bp o' j cs hx =>
  by_cases e1 : o' = o
  · subst e1
    rw [ho] at hx; cases hx
    obtain ⟨cs', rfl⟩ := hl cs rfl
    have := VR.bp (P := P) (w := w1) (gh := gh.upd o' (gh.hv o') (gh.bb o') (gh.bo o') F) (ob := ob') (o := o') (j := j) (cs := cs') (by rw [hob', if_pos rfl])
    rwa [g2, g3] at this
  · have := VR.bp (P := P) (w := w1) (gh := gh.upd o (gh.hv o) (gh.bb o) (gh.bo o) F) (ob := ob') (o := o') (j := j) (cs := cs) (by rw [hob', if_neg e1]; exact hx)
    rwa [g2, g3] at this
 | @rp o' i j p y e es ad c hx hnv =>
  by_cases e1 : o' = o
  · subst e1
    rw [ho] at hx; cases hx
    obtain ⟨es', n1, n2⟩ := hn p e es _ hnv trivial
    refine VR.rp (e := e) (es := es') (ad := ad) (c := c) (by rw [hob', if_pos rfl]) ?_
    rw [n2]
    exact n1.ghc g1 g2 g3
  · exact .rp (by rw [hob', if_neg e1]; exact hx) (((hob o' y hx).navO hnv (fun k hk => hF o' y k e1 hx hk)).ghc g1 g2 g3)
 | ip U hs h => exact .ip U hs fun q d hd => ⟨(Ys (x := ⟨_, _, none⟩) (hS _ hs)).trans (h q d hd).1, (h q d hd).2.move hS⟩
 | clo h => exact .clo (h.move hS (fun _ hk => hk))
 | agg hl' h1 h ih => exact .agg hl' h1 ih
 | tup hl' h ih => exact .tup hl' ih
 | cond ht hf ih => exact .cond ih hf
theorem zhI (h : Rep P C No st a w gh) {o : Oper} {t : TypeId} {x y : Operand} {K : St -> Prop} (ho : o.op = .store t x y) (hdst : o.dst = none) (hox : (st.ev x).ok) (hoy : (st.ev y).ok)
 (hk : zhq P st t (st.ev x).str (st.ev y).str K) : Comes1 P C o a w K := by
 unfold zhq at hk
 split at hk
 case h_2 => exact hk.elim
 rename_i o1 p i j c hpv hvv
 split at hk
 case h_2 => exact hk.elim
 rename_i x1 hx1
 split at hk
 case h_2 => exact hk.elim
 rename_i e es hsub
 obtain ⟨hi, hj, ht1, hD, hV, hk⟩ := hk
 have hp := h.use x hox
 have hy := h.use y hoy
 rw [hpv] at hp
 rw [hvv] at hy
 have hye : a.eval y = c := hy.sc_inv
 obtain ⟨v', F', n1, n2, n3, n4, n5⟩ := (h.obs o1 _ hx1).up hsub
 have hpv' : ∃ ad cc, v' = .slice (some ad) es.length cc /\ a.eval x = .pointer (some ⟨ad.block, ad.off + (i * szT P e + j), none⟩) := by
  generalize a.eval x = z at hp
  cases hp with
  | rp hx hn =>
   rw [hx1] at hx; cases hx
   obtain ⟨e1, e2⟩ := hn.fn n1
   cases e1
   exact ⟨_, _, e2.symm, rfl⟩
 obtain ⟨ad, cc, rfl, hpv'⟩ := hpv'
 obtain ⟨k0, m0, hce⟩ : ∃ k0 m0, cellAt es i j = some (.sc (.int k0 m0)) := by
  unfold zni at hD
  split at hD
  · rename_i k0 m0 hh; exact ⟨k0, m0, hh⟩
  · exact hD.elim
 obtain ⟨k1, m1, rfl⟩ : ∃ k1 m1, c = .int k1 m1 := by
  unfold znh at hV
  split at hV
  · exact ⟨_, _, rfl⟩
  · exact hV.elim
 have hone : (Value.int k1 m1).oneCell' = true := by
  rw [hye] at hy
  cases hy with
  | sc h => exact h
 have hcells : (Value.int k1 m1).cells.toList = [Value.int k1 m1] := by rw [Yr hone]
 have hsz1 : (Value.int k1 m1).cells.size = 1 := by rw [Yr hone]; rfl
 obtain ⟨F1, s1, s2, s3, s4, s5⟩ := n2.store (g := 0) (ds := [D.sc (.int k1 m1)]) (us := [Value.int k1 m1]) (j := j) (G := fun _ _ => False) hi (by simpa using hj) rfl (by simp [hone]) (fun q d hd => by
  cases q with
  | zero => simp at hd; subst hd; exact .sc hone
  | succ q => simp at hd) (fun _ _ _ _ _ hk => hk.elim) (fun _ _ _ hk => hk.elim) (fun k hk => h.nS o1 _ k hx1 (n3 k hk))
 have hse : es.set i (setL (es.getD i []) j [D.sc (.int k1 m1)]) = zN es i j (.sc (.int k1 m1)) := rfl
 rw [hse] at s1
 let w1 := w.setCells ad.block (ad.off + (i * szT P e + j)) [Value.int k1 m1]
 have hu := n5 w1 e (zN es i j (.sc (.int k1 m1))) F1 (fun k hk => zY _ _ _ w k (fun e' => by subst e'; exact h.nS o1 _ _ hx1 (n3 _ s3) hk))
  (fun k hk hk' => zY _ _ _ w k (fun e' => by subst e'; exact hk' s3)) s1 (fun k hk hF => (s2 k hk).elim id (fun ⟨q, hq, hG'⟩ => hG'.elim))
 have hne : ∀ k, k ≠ ad.block -> w1.heap[k]? = w.heap[k]? := fun k hk => zY ad.block _ _ w k hk
 have hbF : gh.F o1 ad.block := n3 _ s3
 have hmay : C.w0.heap.size <= ad.block \/ ∀ f, C.may ad.block f := by
  cases x1 with
  | row e' es' => exact h.wrR o1 e' es' _ hx1 hbF
  | box cs' => exact h.wrB o1 cs' _ hx1 hbF (n4 cs' _ rfl s3)
 have hFo : ∀ o' y' k, o' ≠ o1 -> look st.ob o' = some y' -> gh.F o' k -> w1.heap[k]? = w.heap[k]? := fun o' y' k hne' hy' hk' => hne k (fun e' => by
  subst e'; exact hne' (h.dis o' o1 y' x1 _ hy' hx1 hk' hbF))
 have hSo : ∀ k, gh.S k -> w1.heap[k]? = w.heap[k]? := fun k hk => hne k (fun e' => by subst e'; exact h.nS o1 x1 _ hx1 hbF hk)
 let F2 : Nat -> Prop := fun k => (gh.F o1 k /\ ¬ F' k) \/ F1 k
 have hr2 := h.swap (w1 := w1) (F := F2) (X' := No) hx1 (hu.2 rfl (by simp)) (by simp only [w1]; rw [Xq]; exact Nat.le_refl _) hFo hSo
  (World.keptBut_setCells ad.block _ _ w (fun q hq => ⟨ad.block, _, rfl, hmay.imp id (fun hh => hh _)⟩)) hu.1 (fun k hk => Or.inl (by
   rcases hk with ⟨hk, _⟩ | hk
   · exact hk
   · exact (s2 k hk).elim (n3 k) (fun ⟨_, _, hG'⟩ => hG'.elim))) (fun k hk => hk.elim) (fun _ _ _ hk => hk.elim)
 -- the cell that is written held a number
 have hold : w.cell? ⟨ad.block, ad.off + (i * szT P e + j), none⟩ = some (.int k0 m0) := by
  cases n2 with
  | row xs H own hszz h1 hx dis nb =>
   have hlt := zbw hi (show j < szT P e by omega)
   obtain ⟨g, cap, he, hcc, hm, hcell, _⟩ := yY own (by omega)
   cases he
   have hv := hx i j _ hce
   have h2 := (hcell _ hlt).trans (yA (by rw [own.1]; exact hlt))
   try simp only [Nat.zero_add] at h2
   have hq : xs.getD (i * szT P e + j) undef = .int k0 m0 := by
    generalize H i j = G0 at hv
    generalize xs.getD (i * szT P e + j) undef = z at hv |-
    cases hv; rfl
   rw [hq] at h2
   simpa using h2
 have Hw : ∀ b y, w.cell? b = some y -> isSl y -> w1.cell? b = some y := fun b y hb hs => by
  rw [<- hb]
  refine World.cell?_setCells_out ad.block [Value.int k1 m1] _ w b (fun hb1 hb2 => ?_)
  by_cases hoff : b.off = ad.off + (i * szT P e + j)
  · exfalso
    have e1 : b = ⟨ad.block, ad.off + (i * szT P e + j), none⟩ := by
     cases b; simp_all
    rw [e1, hold] at hb
    cases hb
    exact hs
  · simp only [List.length_singleton]; omega
 obtain ⟨g1, g2, g3⟩ := gh.upd_self o1 F2
 refine ⟨.skip, w1, ?_, Or.inr ⟨rfl, _, gh.upd o1 (gh.hv o1) (gh.bb o1) (gh.bo o1) F2, hk, ?_⟩⟩
 · have hth : w.there ad.block (ad.off + (i * szT P e + j)) (a.eval y).cells.size := by rw [hye, hsz1]; simpa using s5 0 (by simp)
   have := zdF (P := P) w ad.block (ad.off + (i * szT P e + j)) t (a.eval y) hth (by rw [ht1, hye, hsz1]) (by omega) (by rw [hye, Yr hone]; simp [hone])
   have hw1 : w.setCells ad.block (ad.off + (i * szT P e + j)) (a.eval y).cells.toList = w1 := by rw [hye, hcells]
   rw [hw1] at this
   simp only [execOp, ho, hpv']
   simp [Sem.run_bind, this]
 · have htm : ∀ tt, St.get { st with ob := (o1, setO x1 p (.row false e (zN es i j (.sc (.int k1 m1))))) :: drop st.ob o1 } tt = st.get tt := fun _ => rfl
   have hput : a.put o.dst undef = a := by rw [hdst]; rfl
   rw [hput]
   exact {
    obs := hr2.obs, dis := hr2.dis, sS := hr2.sS, nS := hr2.nS, wrR := hr2.wrR, wrB := hr2.wrB, wrC := hr2.wrC, kept := hr2.kept, pins := hr2.pins
    tms := fun tt => by
     rw [htm]
     refine (h.tms tt).keep (x' := setO x1 p (.row false e (zN es i j (.sc (.int k1 m1))))) hx1 (fun o' => ?_) (fun cs hcs => ?_) (fun p' e' es' v2 hn hs => hn.keep Hw hs hsub hce) h.obs hFo hSo
     · have := yk st o1 o' (setO x1 p (.row false e (zN es i j (.sc (.int k1 m1)))))
       unfold St.swap at this
       exact this
     · subst hcs
       cases p with
       | nil => simp [subO] at hsub
       | cons ij p => exact ⟨_, rfl⟩
    nt := hr2.nt, dfs := hr2.dfs, xl := hr2.xl, xS := hr2.xS, xF := hr2.xF, xW := hr2.xW, s0S := hr2.s0S, sZ := hr2.sZ }
theorem zcd (hz : xN P) {ops : Array Oper} {Q : Exit -> Act -> World -> Prop} : ∀ (l : List Oper) {st : St} {a : Act} {w : World} {gh : Gh}, Rep P C No st a w gh -> zjd P C ops l st K -> (∀ a w, Up P C K a w -> Q .normal a w) -> wpList P ops Q l a w
 | [], st, a, w, gh, h, hk, hQ => hQ a w ⟨st, gh, hk, h⟩
 | o :: r, st, a, w, gh, h, hk, hQ => by
  have step : (if Region.wanted o (yielded ops a.tmps) then o.wp P a w (Up P C (fun st' => zjd P C ops r st' K)) Q else Up P C (fun st' => zjd P C ops r st' K) (a.put o.dst undef) w) := by
   unfold zjd at hk
   split at hk
   · rename_i t x y hop hdst hg
     obtain ⟨h1, h2, hk⟩ := hk
     have : Region.wanted o (yielded ops a.tmps) = true := by simp [Region.wanted, hg]
     rw [if_pos this]
     exact (zhI h hop hdst h1 h2 hk).wp
   · exact YU (Q := Q) hz h hk.1 hk.2
  unfold wpList
  split
  · rename_i hw
    rw [if_pos hw] at step
    exact Or.inl (Oper.wp_mono (fun a' w' ⟨st', gh', hk', h'⟩ => zcd hz r h' hk' hQ) step)
  · rename_i hw
    rw [if_neg hw] at step
    obtain ⟨st', gh', hk', h'⟩ := step
    exact zcd hz r h' hk' hQ
theorem Tri.regK (hz : xN P) {id : Nat} {ops : Array Oper} {Q : Exit -> St -> Prop} (h : zjd P C ops ops.toList st (Q .normal)) : Tri P C st (.region id ops false) Q :=
 fun a w gh hR => wp_region_list (zcd (K := Q .normal) hz _ hR h (fun a w h => h))
theorem Tri.ite {c : Operand} {x y : Code} {b : Bool} {Q : Exit -> St -> Prop} (hok : (st.ev c).ok) (hb : (st.ev c).str = .sc (.bool b)) (h : Tri P C st (cond b x y) Q) : Tri P C st (.cond c x y) Q := fun a w gh hR => by
 have hv := hR.use c hok
 rw [hb] at hv
 cases b with
 | true => exact wp_cond_split (t := true) hv.sc_inv (fun _ => h a w gh hR) (fun hf => by cases hf)
 | false => exact wp_cond_split (t := false) hv.sc_inv (fun hf => by cases hf) (fun _ => h a w gh hR)
theorem Tri.blk {id : Nat} {c : Code} {Q : Exit -> St -> Prop} (h : Tri P C st c (Exit.blk id Q)) : Tri P C st (.block id c) Q := fun a w gh hR => wp_block (Code.wp_mono (fun e a' w' hq => by
 cases e with
 | exit j =>
  obtain ⟨st', gh', hk, hR'⟩ := hq
  simp only [Exit.inBlock]
  simp only [Exit.blk] at hk
  split
  · rename_i hj; rw [if_pos hj] at hk; exact ⟨st', gh', hk, hR'⟩
  · rename_i hj; rw [if_neg hj] at hk; exact ⟨st', gh', hk, hR'⟩
 | _ => exact hq) (h a w gh hR))
end
attribute [go_sem] zjd zhq zni znh
def mixT {α : Type} (A B : List α) (i : Nat) : List α := B.take i ++ A.drop i
theorem XC {α : Type} {A B : List α} (h : B.length = A.length) {i : Nat} (hi : i <= A.length) : (mixT A B i).length = A.length := by simp [mixT]; omega
theorem zbA {α : Type} (A B : List α) : mixT A B 0 = A := by simp [mixT]
theorem zdj {α : Type} {A B : List α} (h : B.length = A.length) : mixT A B A.length = B := by unfold mixT; rw [<- h, List.take_length, h, List.drop_length, List.append_nil]
theorem zdi {α : Type} {A B : List α} (h : B.length = A.length) {i : Nat} (hi : i < A.length) (h2 : i < (mixT A B i).length) : (mixT A B i)[i] = A[i] := by
 simp only [mixT]
 rw [List.getElem_append_right (by simp; omega)]
 simp [Nat.min_eq_left (show i <= B.length by omega)]
theorem zdh {α : Type} {A B : List α} (h : B.length = A.length) {i : Nat} (hi : i < A.length) : (mixT A B i).set i (B[i]'(by omega)) = mixT A B (i + 1) := by
 have e : (B.take i).length = i := by simp; omega
 unfold mixT
 rw [List.drop_eq_getElem_cons hi, List.set_append_right _ _ (by rw [e]; omega), e, Nat.sub_self, List.set_cons_zero, List.take_succ_eq_append_getElem (by omega), List.append_assoc]
 rfl
theorem Ye {α : Type} (f : α -> List D) (l : List α) {i : Nat} (h : i < l.length) : (rows f l)[i]? = some (f l[i]) := by simp [rows, h]
theorem zju {α : Type} (f : α -> List D) (l : List α) (i : Nat) (x : α) : (rows f l).set i (f x) = rows f (l.set i x) := by simp [rows, List.map_set]
theorem zmI {α : Type} (f : α -> D) (l : List α) {i : Nat} (h : i < l.length) : (row1 f l)[i]? = some [f l[i]] := by simp [row1, h]
theorem zps {α : Type} (f : α -> D) (l : List α) (i : Nat) (x : α) : (row1 f l).set i [f x] = row1 f (l.set i x) := by simp [row1, List.map_set]
def hgK (k o : Int) (i : Nat) (q : Int) : Int := if (q == k) && !((i : Int) == o) then o else q
def hgX (k o : Int) (i : Nat) (x : NodeD) : NodeD := ⟨x.kind, x.num, x.name, x.kids.map (hgK k o i)⟩
def hgN (k o : Int) (N : List NodeD) : List NodeD := N.mapIdx (hgX k o)
def hgR (k o : Int) (f : FnD) : FnD := if f.ret == k then ⟨f.name, f.params, f.res, f.body, o⟩ else f
def hgP (k o : Int) (p : ProgramD) : ProgramD := ⟨hgN k o p.nodes, p.fns.map (hgR k o)⟩
theorem zlN (k o : Int) (N : List NodeD) : (hgN k o N).length = N.length := by simp [hgN]
theorem zpL (k o : Int) (N : List NodeD) {i : Nat} (h : i < N.length) (h2 : i < (hgN k o N).length) : (hgN k o N)[i] = hgX k o i N[i] := by simp [hgN]
theorem zkL {T : List NodeD} {i : Nat} (h : i < T.length) (K : List Int) : (rows (zg false) T).set i [D.sc (.int .i64 T[i].kind), .sc (.int .i64 T[i].num), .sc (.string T[i].name), .row false 3 (row1 cI K)] = rows (zg false) (T.set i ⟨T[i].kind, T[i].num, T[i].name, K⟩) := zju (zg false) T i ⟨T[i].kind, T[i].num, T[i].name, K⟩
theorem zec {T : List NodeD} {i : Nat} (h : i < T.length) (K : List Int) : zN (rows (zg false) T) i 3 (.row false 3 (row1 cI K)) = rows (zg false) (T.set i ⟨T[i].kind, T[i].num, T[i].name, K⟩) := by
 unfold zN
 rw [List.getD_eq_getElem?_getD, Ye (zg false) T h]
 exact zkL h K
theorem zos {L : List Int} {j : Nat} (h : j < L.length) (v : Int) : zN (row1 cI L) j 0 (.sc (.int .i64 v)) = row1 cI (L.set j v) := by
 unfold zN
 rw [List.getD_eq_getElem?_getD, zmI cI L h]
 exact zps cI L j v
theorem zpO {T : List FnD} {i : Nat} (h : i < T.length) (o : Int) : zN (rows (fnC false) T) i 4 (.sc (.int .i64 o)) = rows (fnC false) (T.set i ⟨T[i].name, T[i].params, T[i].res, T[i].body, o⟩) := by
 unfold zN
 rw [List.getD_eq_getElem?_getD, Ye (fnC false) T h]
 exact zju (fnC false) T i ⟨T[i].name, T[i].params, T[i].res, T[i].body, o⟩
theorem zpM (p : ProgramD) (k o : Int) (hf : p.fns.length <= 1048576) (hn : p.nodes.length <= 1048576) (hk : ∀ x ∈ p.nodes, x.kids.length <= 1048576) :
 SoundAt Tryz.prog 71 (fun uf => zu 0 [.ro (.bp 2000 0), .ro (.sc (.int .i64 k)), .ro (.sc (.int .i64 o))]) [(2000, .box (za false p))]
  (fun rs st => rs = [] /\ xr st.ob [(2000, .box (za false (hgP k o p)))]) := by
 have hBl := zlN k o p.nodes
 have hFl : (p.fns.map (hgR k o)).length = p.fns.length := by simp
 refine zp (fn := Tryz.f71) (c := Tryz.f71.body.getD .skip) (res := []) (n := 80) ze (by kernel_rfl) (by rfl) (by kernel_rfl) (by rfl) (by rfl) (by simp [zu]) (fun uf ub C hpin hpin2 hfull => ?_)
 simp only [Tryz.f71, oD]
 refine Tri.stop ze ⟨80, [(0, .bp 2000 0), (1, vI k), (2, vI o)], [(2000, .box [.row false 83 (rows (zg false) (hgN k o p.nodes)), .row false 104 (rows (fnC false) p.fns)])]⟩ ?_ ?_
 · simp +decide only [zb, za, hpin, hpin2, go_sem, aD, mU]
   refine Tri.loop (ι := Nat) (fun i => i <= p.nodes.length) (fun i => ⟨80, [(0, .bp 2000 0), (1, vI k), (2, vI o), (14, vI p.nodes.length), (15, vI i)], [(2000, .box [.row false 83 (rows (zg false) (mixT p.nodes (hgN k o p.nodes) i)), .row false 104 (rows (fnC false) p.fns)])]⟩) (fun i => p.nodes.length - i) 0 (by simp) ?_ ?_
   · refine Ent.weak ?_ ?_ ?_ ?_ <;> simp +decide [zH, subT, subB, zj, zi, zm, St.get, look, vI, vB, vS, cI, cS, cB, zg, za, roI, zbA]
   · rintro i hi
     refine zf ze _ ?_
     by_cases h' : i < p.nodes.length
     · have e : ((i : Int) < (p.nodes.length : Int)) = True := by simp [h']
       have hml := XC hBl hi
       have h2 : i < (mixT p.nodes (hgN k o p.nodes) i).length := by omega
       have hg := zdi hBl h' h2
       have hst := zdh hBl h'
       rw [zpL k o p.nodes h'] at hst
       have hkx := hk p.nodes[i] (lM h')
       obtain ⟨T1, hT1⟩ : ∃ T, T = mixT p.nodes (hgN k o p.nodes) (i + 1) := ⟨_, rfl⟩
       rw [<- hT1] at hst
       generalize mixT p.nodes (hgN k o p.nodes) i = T0 at hml h2 hg hst |-
       rw [<- hg] at hst hkx
       have hq := Ye (zg false) T0 h2
       simp only [zg, cI, cS] at hq
       have hci : ((i : Int) < (T0.length : Int)) = True := eq_true (by omega)
       simp +decide only [e, hci, h2, hq, iN, vB, vI, zb, za, hpin, hpin2, go_sem, aD, mU]
       have hLl : (T0[i].kids.map (hgK k o i)).length = T0[i].kids.length := by simp
       have hsx : T0.set i ⟨T0[i].kind, T0[i].num, T0[i].name, T0[i].kids⟩ = T0 := by
        rw [show (⟨T0[i].kind, T0[i].num, T0[i].name, T0[i].kids⟩ : NodeD) = T0[i] from rfl, List.set_getElem_self]
       have hend : (T0.set i ⟨T0[i].kind, T0[i].num, T0[i].name, T0[i].kids.map (hgK k o i)⟩) = T1 := hst
       generalize hxe : T0[i] = x at hst hkx hq hsx hend hLl |-
       refine Tri.loop (ι := Nat) (fun j => j <= x.kids.length) (fun j => ⟨80, [(0, .bp 2000 0), (1, vI k), (2, vI o), (6, vI i), (14, vI p.nodes.length), (15, vI i), (25, .ref 2000 [(0, 0), (i, 3)] x.kids.length), (26, vI x.kids.length), (27, vI j)], [(2000, .box [.row false 83 (rows (zg false) (T0.set i ⟨x.kind, x.num, x.name, mixT x.kids (x.kids.map (hgK k o i)) j⟩)), .row false 104 (rows (fnC false) p.fns)])]⟩) (fun j => x.kids.length - j) 0 (by simp) ?_ ?_
       · refine Ent.weak ?_ ?_ ?_ ?_ <;> simp +decide [zH, subT, subB, zj, zi, zm, St.get, look, vI, vB, vS, cI, cS, cB, zg, za, roI, zbA, hsx]
       · rintro j hj
         by_cases hj' : j < x.kids.length
         · have ej : ((j : Int) < (x.kids.length : Int)) = True := by simp [hj']
           have hKl := XC hLl hj
           have hj2 : j < (mixT x.kids (x.kids.map (hgK k o i)) j).length := by omega
           have hKg := zdi hLl hj' hj2
           have hKs := zdh hLl hj'
           rw [List.getElem_map] at hKs
           obtain ⟨K1, hK1⟩ : ∃ K, K = mixT x.kids (x.kids.map (hgK k o i)) (j + 1) := ⟨_, rfl⟩
           rw [<- hK1] at hKs
           generalize mixT x.kids (x.kids.map (hgK k o i)) j = K0 at hKl hj2 hKg hKs |-
           have hTl : (T0.set i ⟨x.kind, x.num, x.name, K0⟩).length = T0.length := by simp
           have hi2 : i < (T0.set i ⟨x.kind, x.num, x.name, K0⟩).length := by omega
           have hTg : (T0.set i ⟨x.kind, x.num, x.name, K0⟩)[i] = ⟨x.kind, x.num, x.name, K0⟩ := by simp
           have hq2 := Ye (zg false) _ hi2
           rw [hTg] at hq2
           simp only [zg, cI, cS] at hq2
           have hr2 := zmI cI K0 hj2
           rw [hKg] at hr2
           simp only [cI] at hr2
           have hcK : ((j : Int) < (K0.length : Int)) = True := eq_true (by omega)
           have hciT : ((i : Int) < ((T0.set i ⟨x.kind, x.num, x.name, K0⟩).length : Int)) = True := eq_true (by omega)
           have hTT : ∀ K, (T0.set i ⟨x.kind, x.num, x.name, K0⟩).set i ⟨x.kind, x.num, x.name, K⟩ = T0.set i ⟨x.kind, x.num, x.name, K⟩ := fun K => by rw [List.set_set]
           have hks := fun K => zkL hi2 K
           rw [hTg] at hks
           simp only [hTT] at hks
           have hsc := zos hj2 o
           have hKK : ∀ y, K0[j] = y -> K0.set j y = K0 := fun y hy => by rw [<- hy, List.set_getElem_self]
           have hKK := hKK _ hKg
           generalize hq0 : x.kids[j] = q at hKg hKs hr2 hKK
           refine Tri.step ze ?_
           simp +decide only [ej, vB, vI, zb, za, hpin, hpin2, go_sem, aD, mU]
           refine Tri.step ze ?_
           simp +decide only [zb, za, hpin, hpin2, go_sem, aD, mU]
           refine Tri.seq (Tri.blk ?_)
           refine Tri.step ze ?_
           simp +decide only [hq2, hr2, hcK, hciT, ej, hj2, hi2, iN, zb, za, hpin, hpin2, go_sem, aD, mU]
           refine Tri.step ze ?_
           cases h1 : q == k with
           | false =>
            have hgq : hgK k o i q = q := by unfold hgK; rw [h1]; rfl
            rw [hgq, hKK] at hKs
            simp +decide only [h1, zb, za, hpin, hpin2, go_sem, aD, mU]
            refine zf ze _ ?_
            simp +decide only [zb, za, hpin, hpin2, go_sem, aD, mU]
            refine zf ze _ ?_
            simp +decide only [zb, za, hpin, hpin2, go_sem, aD, mU]
            refine ⟨j + 1, hj', by omega, Ent.weak ?_ ?_ ?_ ?_⟩
            all_goals simp +decide [zH, subT, subB, zj, zi, zm, St.get, look, vI, vB, vS, cI, cS, cB, zg, za, roI, <- hK1, <- hKs, w64s (n := x.kids.length) hj' (by omega)]
           | true =>
            cases h3 : (i : Int) == o with
            | true =>
             have hgq : hgK k o i q = q := by unfold hgK; rw [h1, h3]; rfl
             rw [hgq, hKK] at hKs
             simp +decide only [h1, h3, bne, zb, za, hpin, hpin2, go_sem, aD, mU]
             refine zf ze _ ?_
             simp +decide only [zb, za, hpin, hpin2, go_sem, aD, mU]
             refine zf ze _ ?_
             simp +decide only [zb, za, hpin, hpin2, go_sem, aD, mU]
             refine ⟨j + 1, hj', by omega, Ent.weak ?_ ?_ ?_ ?_⟩
             all_goals simp +decide [zH, subT, subB, zj, zi, zm, St.get, look, vI, vB, vS, cI, cS, cB, zg, za, roI, <- hK1, <- hKs, w64s (n := x.kids.length) hj' (by omega)]
            | false =>
             simp +decide only [h1, h3, bne, zb, za, hpin, hpin2, go_sem, aD, mU]
             refine Tri.ite (b := true) (by simp +decide only [zb, za, hpin, hpin2, go_sem, aD, mU]) (by simp +decide only [zb, za, hpin, hpin2, go_sem, aD, mU]) ?_
             refine Tri.regK ze ?_
             have hgq : hgK k o i q = o := by unfold hgK; rw [h1, h3]; rfl
             rw [hgq] at hKs
             rw [hKs] at hsc
             simp +decide only [hq2, hr2, hcK, hciT, ej, hj2, hi2, hsc, hks, iN, zb, za, hpin, hpin2, go_sem, aD, mU]
             refine zf ze _ ?_
             simp +decide only [zb, za, hpin, hpin2, go_sem, aD, mU]
             have hsk := zec hi2 K1
             rw [hTg] at hsk
             simp only [hTT] at hsk
             refine ⟨j + 1, hj', by omega, Ent.weak ?_ ?_ ?_ ?_⟩
             all_goals simp +decide [zH, subT, subB, zj, zi, zm, St.get, look, vI, vB, vS, cI, cS, cB, zg, za, roI, <- hK1, hsk, w64s (n := x.kids.length) hj' (by omega)]
         · have hjl : j = x.kids.length := by omega
           subst hjl
           have ej : ((x.kids.length : Int) < (x.kids.length : Int)) = False := by simp
           refine zf ze _ ?_
           simp +decide only [ej, zdj hLl, hend, vB, vI, zb, za, hpin, hpin2, go_sem, aD, mU]
           refine ⟨i + 1, h', by omega, Ent.weak ?_ ?_ ?_ ?_⟩
           all_goals simp +decide [zH, subT, subB, zj, zi, zm, St.get, look, vI, vB, vS, cI, cS, cB, zg, za, roI, <- hT1, w64s (n := p.nodes.length) h' (by omega)]
     · have hil : i = p.nodes.length := by omega
       subst hil
       have e : ((p.nodes.length : Int) < (p.nodes.length : Int)) = False := by simp
       simp +decide only [e, zdj hBl, vB, vI, zb, za, hpin, hpin2, go_sem, aD, mU]
       refine Ent.weak ?_ ?_ ?_ ?_
       all_goals simp +decide [zH, subT, subB, zj, zi, zm, St.get, look, vI, vB, vS, cI, cS, cB, zg, za, roI]
 · refine Tri.step ze ?_
   simp +decide only [zb, za, hpin, hpin2, go_sem, aD, mU]
   refine zf ze _ ?_
   simp +decide only [zb, za, hpin, hpin2, go_sem, aD, mU]
   refine Tri.loop (ι := Nat) (fun i => i <= p.fns.length) (fun i => ⟨80, [(0, .bp 2000 0), (1, vI k), (2, vI o), (57, vI p.fns.length), (58, vI i)], [(2000, .box [.row false 83 (rows (zg false) (hgN k o p.nodes)), .row false 104 (rows (fnC false) (mixT p.fns (p.fns.map (hgR k o)) i))])]⟩) (fun i => p.fns.length - i) 0 (by simp) ?_ ?_
   · refine Ent.weak ?_ ?_ ?_ ?_ <;> simp +decide [zH, subT, subB, zj, zi, zm, St.get, look, vI, vB, vS, cI, cS, cB, zg, za, roI, zbA]
   · rintro i hi
     refine zf ze _ ?_
     by_cases h' : i < p.fns.length
     · have e : ((i : Int) < (p.fns.length : Int)) = True := by simp [h']
       have hml := XC hFl hi
       have h2 : i < (mixT p.fns (p.fns.map (hgR k o)) i).length := by omega
       have hg := zdi hFl h' h2
       have hst := zdh hFl h'
       rw [List.getElem_map] at hst
       obtain ⟨T1, hT1⟩ : ∃ T, T = mixT p.fns (p.fns.map (hgR k o)) (i + 1) := ⟨_, rfl⟩
       rw [<- hT1] at hst
       generalize mixT p.fns (p.fns.map (hgR k o)) i = T0 at hml h2 hg hst |-
       have hq := Ye (fnC false) T0 h2
       have hci : ((i : Int) < (T0.length : Int)) = True := eq_true (by omega)
       have hss := zpO h2 o
       have hTT : ∀ y, T0[i] = y -> T0.set i y = T0 := fun y hy => by rw [<- hy, List.set_getElem_self]
       have hTT := hTT _ hg
       rw [hg] at hq hss
       generalize p.fns[i] = f at hg hst hq hss hTT
       simp only [fnC, cI, cS] at hq
       unfold hgR at hst
       cases h1 : f.ret == k with
       | false =>
        rw [h1, if_neg (by decide), hTT] at hst
        simp +decide only [e, hci, h2, hq, h1, iN, vB, vI, zb, za, hpin, hpin2, go_sem, aD, mU]
        refine ⟨i + 1, h', by omega, Ent.weak ?_ ?_ ?_ ?_⟩
        all_goals simp +decide [zH, subT, subB, zj, zi, zm, St.get, look, vI, vB, vS, cI, cS, cB, zg, za, roI, <- hT1, <- hst, w64s (n := p.fns.length) h' (by omega)]
       | true =>
        rw [h1, if_pos rfl] at hst
        rw [hst] at hss
        have hss3 : (rows (fnC false) T0).set i (((rows (fnC false) T0)[i]?.getD []).set 4 (D.sc (.int .i64 o))) = rows (fnC false) T1 := by rw [<- hss]; unfold zN; simp [List.getD]
        simp +decide only [e, hci, h2, hq, h1, hss, iN, vB, vI, zb, za, hpin, hpin2, go_sem, aD, mU]
        refine ⟨i + 1, h', by omega, Ent.weak ?_ ?_ ?_ ?_⟩
        all_goals simp +decide [zH, subT, subB, zj, zi, zm, St.get, look, vI, vB, vS, cI, cS, cB, zg, za, roI, <- hT1, hss, hss3, w64s (n := p.fns.length) h' (by omega)]
     · have hil : i = p.fns.length := by omega
       subst hil
       have e : ((p.fns.length : Int) < (p.fns.length : Int)) = False := by simp
       simp +decide only [e, zdj hFl, hgP, vB, vI, zb, za, hpin, hpin2, go_sem, aD, mU]
theorem zgx {α : Type} (f : α -> D) (l : List α) (n : Nat) : List.take n (row1 f l) = row1 f (l.take n) := by simp [row1, List.map_take]
theorem zgy {α : Type} (f : α -> D) (l : List α) (n : Nat) : List.drop n (row1 f l) = row1 f (l.drop n) := by simp [row1, List.map_drop]
theorem zjx {α : Type} (f : α -> D) (l m : List α) : row1 f l ++ row1 f m = row1 f (l ++ m) := by simp [row1]
theorem zkj (L O : List Int) (a b : Nat) (ha : a <= L.length) (hb : b <= L.length) (hL : L.length <= 1048576) (hO : O.length <= 1048576) : zx Tryz.prog 72 [.ro (roI L), .ro (.sc (.int .i64 a)), .ro (.sc (.int .i64 b)), .ro (roI O)] (fun rs st => rs = [(false, [.row false 3 (row1 cI (L.take a ++ O ++ L.drop b))])]) := by
 have hcp := YK (L.take a) (by simp; omega)
 simp only [roI] at hcp
 have ha1 : ((a : Int) <= (L.length : Int)) = True := eq_true (by omega)
 have hb1 : ((b : Int) <= (L.length : Int)) = True := eq_true (by omega)
 have hl1 : (L.take a).length = a := by simp; omega
 have hl2 : (L.take a ++ O).length = a + O.length := by simp; omega
 have hl3 : (L.drop b).length = L.length - b := by simp
 have hl4 : (L.take a ++ O ++ L.drop b).length = a + O.length + (L.length - b) := by simp; omega
 have hf1 := Yk O
 have hf2 := Yk (L.drop b)
 have c1 : a + O.length <= 140737488355328 := by omega
 have c2 : (a + O.length) * 8 <= 140737488355328 := by omega
 have c3 : a + O.length + (L.length - b) <= 140737488355328 := by omega
 have c4 : (a + O.length + (L.length - b)) * 8 <= 140737488355328 := by omega
 refine zp (fn := Tryz.f72) (c := Tryz.f72.body.getD .skip) (res := [.tm 8]) (n := 21) ze (by kernel_rfl) (by rfl) (by kernel_rfl) (by rfl) (by rfl) (by simp [zu]) (fun uf ub C hpin hpin2 hfull => ?_)
 simp only [Tryz.f72, oD]
 refine Tri.step ze ?_
 simp +decide only [zb, za, hpin, hpin2, go_sem, aD, mU]
 refine Tri.step ze ?_
 simp +decide only [ha1, zgx, iN, zb, za, hpin, hpin2, go_sem, aD, mU]
 refine zd hcp hpin ?_
 simp +decide only [hl1, hl2, hf1, c1, c2, zjx, zb, za, hpin, hpin2, go_sem, aD, mU]
 refine zf ze _ ?_
 simp +decide only [hb1, hl2, hl3, hl4, hf2, c3, c4, zgy, zjx, iN, Int.le_refl, zb, za, hpin, hpin2, go_sem, aD, mU]
theorem zcr (N : List NodeD) (F : List FnD) (x : NodeD) (hN : N.length <= 1048575) : SoundAt Tryz.prog 70 (fun uf => zu 0 [.ro (.bp 2000 0), .ro (.agg [.sc (.int .i64 x.kind), .sc (.int .i64 x.num), .sc (.string x.name), .ref 2001 [] x.kids.length])]) [(2001, .row 3 (row1 cI x.kids)), (2000, .box (za false ⟨N, F⟩))]
 (fun rs st => rs = [(false, [cI N.length])] /\ xr st.ob [(2000, .box (za false ⟨N ++ [x], F⟩))]) := by
 have hb1 : N.length + 1 <= 140737488355328 := by omega
 have hb2 : (N.length + 1) * 56 <= 140737488355328 := by omega
 have hsn := YX N x
 have w1 : IntKind.i64.wrap (((N.length + 1 : Nat) : Int) - 1) = N.length := by rw [show (((N.length + 1 : Nat) : Int) - 1) = N.length by omega]; exact w64 (by omega) (by omega)
 refine zp (fn := Tryz.f70) (c := Tryz.f70.body.getD .skip) (res := [.tm 4]) (n := 21) ze (by kernel_rfl) (by rfl) (by kernel_rfl) (by rfl) (by rfl) (by simp [zu]) (fun uf ub C hpin hpin2 hfull => ?_)
 simp only [Tryz.f70, oD]
 refine Tri.step ze ?_
 simp +decide only [zb, za, hpin, hpin2, go_sem, aD, mU]
 refine Tri.step ze ?_
 refine Tri.fork ze (.one 0 true (.one 1 true (.one 2 true (.one 3 true (.two 4 (.one 5 false (.one 6 false (.one 7 false (.one 8 false (.one 9 false (.one 10 false .done)))))) 5 (.two 4 (.one 6 false (.one 7 false (.one 8 false (.one 9 false (.one 10 false .done))))) 6 (.one 4 false (.one 7 false (.one 8 false (.one 9 false (.one 10 false .done))))))))))) zO (by kernel_rfl) (fun C2 hC2 => ?_)
 have hp2 := zP hC2 hpin
 simp +decide only [hb1, hb2, hsn, zb, za, hp2, hpin, hpin2, go_sem, aD, mU]
 refine ⟨?_, ?_, ?_⟩ <;> refine zf ze _ ?_
 all_goals simp +decide only [w1, zb, za, hpin, hpin2, go_sem, aD, mU]
theorem zko (N : List NodeD) (F : List FnD) (k n : Int) (s : ByteArray) (hN : N.length <= 1048575) : SoundAt Tryz.prog 70 (fun uf => zu 0 [.ro (.bp 2000 0), .ro (.agg [.sc (.int .i64 k), .sc (.int .i64 n), .sc (.string s), .sc (.slice none 0 0)])]) [(2000, .box (za false ⟨N, F⟩))]
 (fun rs st => rs = [(false, [cI N.length])] /\ xr st.ob [(2000, .box (za false ⟨N ++ [⟨k, n, s, []⟩], F⟩))]) := by
 have hb1 : N.length + 1 <= 140737488355328 := by omega
 have hb2 : (N.length + 1) * 56 <= 140737488355328 := by omega
 have hsn := YX N ⟨k, n, s, []⟩
 have hnil : row1 cI [] = [] := rfl
 simp only [hnil] at hsn
 have w1 : IntKind.i64.wrap (((N.length + 1 : Nat) : Int) - 1) = N.length := by rw [show (((N.length + 1 : Nat) : Int) - 1) = N.length by omega]; exact w64 (by omega) (by omega)
 refine zp (fn := Tryz.f70) (c := Tryz.f70.body.getD .skip) (res := [.tm 4]) (n := 21) ze (by kernel_rfl) (by rfl) (by kernel_rfl) (by rfl) (by rfl) (by simp [zu]) (fun uf ub C hpin hpin2 hfull => ?_)
 simp only [Tryz.f70, oD]
 refine Tri.step ze ?_
 simp +decide only [zb, za, hpin, hpin2, go_sem, aD, mU]
 refine Tri.ent ?_ (Ent.nilr 3 3 3)
 refine Tri.step ze ?_
 refine Tri.fork ze (.one 0 true (.one 1 true (.one 2 true (.one 3 true (.two 4 (.one 5 false (.one 6 false (.one 7 false (.one 8 false (.one 9 false (.one 10 false .done)))))) 5 (.two 4 (.one 6 false (.one 7 false (.one 8 false (.one 9 false (.one 10 false .done))))) 6 (.one 4 false (.one 7 false (.one 8 false (.one 9 false (.one 10 false .done))))))))))) zO (by kernel_rfl) (fun C2 hC2 => ?_)
 have hp2 := zP hC2 hpin
 simp +decide only [hb1, hb2, hsn, zb, za, hp2, hpin, hpin2, go_sem, aD, mU]
 refine ⟨?_, ?_, ?_⟩ <;> refine zf ze _ ?_
 all_goals simp +decide only [w1, zb, za, hpin, hpin2, go_sem, aD, mU]
theorem zsm : fo Tryz.prog 134 0 = some 0 := by kernel_rfl
theorem zsl : fo Tryz.prog 134 1 = some 2 := by kernel_rfl
theorem zsk : fo Tryz.prog 134 2 = some 3 := by kernel_rfl
theorem rLoS : isR Tryz.prog 134 = some true := by kernel_rfl
theorem sLoS : szT Tryz.prog 134 = 7 := by kernel_rfl
theorem zLoS : zeroCells Tryz.prog 134 = some [.slice none 0 0, .slice none 0 0, .slice none 0 0, .string ⟨#[]⟩, .int .i64 0, .slice none 0 0, .slice none 0 0] := by kernel_rfl
theorem zrU : xz Tryz.prog 134 = some [(0, 2), (2, 1), (3, 4)] := by kernel_rfl
attribute [go_sem] zsm zsl zsk rLoS sLoS zLoS zrU
def GoodS (p : ProgramD) (l : List VarD) (n : Nat) : Prop := Yq p l n = true
theorem GoodS.kid {p : ProgramD} {l : List VarD} {n : Nat} (h : GoodS p l n) (hn : n < p.nodes.length) {k : Int} (hk : k ∈ p.nodes[n].kids) : GoodS p l k.toNat := by
 unfold GoodS at h |-
 rw [zbN l hn, Bool.and_eq_true, List.all_eq_true] at h
 exact h.2 k hk
theorem GoodS.own {p : ProgramD} {l : List VarD} {n : Nat} (h : GoodS p l n) (hn : n < p.nodes.length) : stB p l n = true := by
 unfold GoodS at h
 rw [zbN l hn, Bool.and_eq_true] at h
 exact h.1
theorem YS {p : ProgramD} (h : zX p = true) : Zz p = true /\ ∀ i, i < p.fns.length -> xc p i = true := by
 unfold zX at h
 obtain ⟨h1, h2⟩ := Bool.and_eq_true_iff.1 h
 unfold yv at h1
 exact ⟨(Bool.and_eq_true_iff.1 h1).1, xy.1 h2⟩
def grows (T T2 : List NodeD) (z : Nat) : Prop := ∃ E : List NodeD, T2 = T ++ E /\ E.length <= z /\ ∀ x ∈ E, x.kids.length <= 12
theorem grows.refl (T : List NodeD) (z : Nat) : grows T T z := ⟨[], by simp, by simp, fun x hx => by simp at hx⟩
theorem grows.trans {T T2 T3 : List NodeD} {a b : Nat} (h : grows T T2 a) (h2 : grows T2 T3 b) : grows T T3 (a + b) := by
 obtain ⟨E, rfl, e1, e2⟩ := h
 obtain ⟨G, rfl, g1, g2⟩ := h2
 refine ⟨E ++ G, by simp, by simp; omega, fun x hx => ?_⟩
 rcases List.mem_append.1 hx with hx | hx
 · exact e2 x hx
 · exact g2 x hx
theorem grows.mono {T T2 : List NodeD} {a b : Nat} (h : grows T T2 a) (hab : a <= b) : grows T T2 b := by
 obtain ⟨E, h1, h2, h3⟩ := h
 exact ⟨E, h1, by omega, h3⟩
theorem grows.len {T T2 : List NodeD} {a : Nat} (h : grows T T2 a) : T.length <= T2.length /\ T2.length <= T.length + a := by
 obtain ⟨E, rfl, h2, _⟩ := h
 simp; omega
theorem grows.get {T T2 : List NodeD} {a : Nat} (h : grows T T2 a) {n : Nat} (hn : n < T.length) : n < T2.length /\ nAt T2 n = nAt T n := by
 obtain ⟨E, rfl, _, _⟩ := h
 have h2 : n < (T ++ E).length := by simp; omega
 refine ⟨h2, ?_⟩
 rw [zR h2, zR hn, List.getElem_append_left hn]
noncomputable def St.back (k o : Nat) (p : List (Nat × Nat)) (v : Value) (st : St) : St := open Classical in match look st.ob k with
 | some (.row e es) => (match look st.ob o with
  | some x => (match subO x p with
   | some (.sc u) => if u = v then (st.kill k).swap o (setO x p (.row false e es)) else st
   | _ => st)
  | none => st)
 | _ => st
noncomputable def zpm (k : Nat) (v : Value) (n : Nat) : V -> V
 | .sc u => open Classical in if u = v then .ref k [] n else .sc u
 | x => x
noncomputable def zqD (k : Nat) (v : Value) (n : Nat) : V -> V
 | .agg vs => .agg (vs.map (zpm k v n))
 | x => zpm k v n x
noncomputable def St.same (k : Nat) (v : Value) (t : Nat) (st : St) : St := match look st.ob k with
 | some (.row e es) => st.set t (zqD k v es.length (st.get t))
 | _ => st
section
variable {P : Program} {w w1 : World} {C : Cx} {X : Nat -> Prop} {gh gh1 : Gh} {st : St} {a : Act} {v : Value} {u : Value} {ob : List (Nat × Ob)} {S : Nat -> Prop} {K : St -> Prop}
theorem Ow.sliceV {e : TypeId} {es : List (List D)} {F : Nat -> Prop} (h : Ow P w S (.row false e es) u F) : ∃ A c, u = .slice A es.length c := by
 generalize hd : D.row false e es = d at h
 cases h with
 | dead => cases hd
 | sc => cases hd
 | shared => cases hd
 | row xs F own =>
  cases hd
  rcases own.2 with ⟨rfl, h0⟩ | ⟨g, cap, cur, rfl, _⟩
  · refine ⟨none, 0, ?_⟩
    first | rw [h0] | rw [h0.1] | rw [h0.2]
  · exact ⟨_, _, rfl⟩
theorem Ent.back {k o : Nat} {p : List (Nat × Nat)} {x0 : Nat × Nat} (hpk : C.pin k = some (v, x0)) (hko : k ≠ o) (hp : p ≠ []) : Ent P C st (st.back k o p v) := fun a w gh hR => by
 unfold St.back
 split
 case h_2 => exact ⟨gh, hR⟩
 rename_i e es hk
 split
 case h_2 => exact ⟨gh, hR⟩
 rename_i x ho
 split
 case h_2 => exact ⟨gh, hR⟩
 rename_i u hs
 split
 case isFalse => exact ⟨gh, hR⟩
 rename_i huv
 have hv : gh.hv k = v := by
  have := hR.pins k _ hpk (by rw [hk]; simp)
  exact congrArg (·.1) this
 have h1 := hR.take hk
 have ho1 : look (st.kill k).ob o = some x := by
  show look (drop st.ob k) o = some x
  rw [yg, if_neg hko]; exact ho
 obtain ⟨v', F', hn, how, hsub, hbb, hback⟩ := (h1.obs o x ho1).part hs hp
 have hrow : Ow P w gh.S (.row false e es) (gh.hv k) (gh.F k) := by
  have := hR.obs k _ hk
  cases this with | row h => exact h
 have huv' : v' = u /\ ∀ k, ¬ F' k := by
  generalize hd : D.sc u = d at how
  cases how with
  | dead => cases hd
  | sc => cases hd; exact ⟨rfl, fun _ h => h⟩
  | shared => cases hd
  | row => cases hd
 have hdis : ∀ j, gh.F k j -> ¬ gh.F o j := fun j h1 h2 => hko (hR.dis k o _ _ j hk ho h1 h2)
 rw [hv, <- huv, <- huv'.1] at hrow
 have h2 := hback (.row false e es) (gh.F k) hrow (fun j g1 g2 => absurd g2 (hdis j g1))
 exact ⟨_, h1.swap (X' := No) ho1 (zgL hp _) (Nat.le_refl _) (fun _ _ _ _ _ _ => rfl) (fun _ _ => rfl) (World.keptBut_refl w _) h2 (fun j hj => hj.elim (fun h => Or.inl h.1) (fun h => Or.inr (Or.inr h))) (fun _ hk => hk.elim) (fun _ _ _ hk => hk.elim)⟩
end
attribute [go_sem] St.back St.same zqD zpm
def kidD (h : Option Value) (ks : List Int) : D := match h with
 | none => .row false 3 (row1 cI ks)
 | some v => .sc v
def zsa (h : Option Value) (x : NodeD) : List D := [.sc (.int .i64 x.kind), .sc (.int .i64 x.num), .sc (.string x.name), kidD h x.kids]
def zlv (H : Nat -> Option Value) (T : List NodeD) : List (List D) := T.mapIdx (fun i x => zsa (H i) x)
def upH (H : Nat -> Option Value) (n : Nat) (v : Value) : Nat -> Option Value := fun i => if i = n then some v else H i
theorem zca (l : List ParamD) : shLL (rows (zn false) l) = rows (zn true) l := by
 rw [yw]
 simp only [rows, List.map_map]
 apply List.map_congr_left
 intro x _
 simp [zn, shL, shD, cI, cS]
theorem zai (l : List NodeD) : shLL (rows (zg false) l) = rows (zg true) l := by
 rw [yw]
 simp only [rows, List.map_map]
 apply List.map_congr_left
 intro x _
 simp [zg, shL, shD, cI, cS, yJ]
theorem znq (l : List FnD) : shLL (rows (fnC false) l) = rows (fnC true) l := by
 rw [yw]
 simp only [rows, List.map_map]
 apply List.map_congr_left
 intro x _
 have h := zca x.params
 simp only [rows] at h
 simp [fnC, shL, shD, cI, cS, rows, h]
theorem zoy {p : ProgramD} {f k : Int} (h : (fnNs p f).contains k = true) : 0 <= k /\ k.toNat < p.nodes.length := by
 obtain ⟨i, hi, rfl⟩ := List.getElem_of_mem (List.contains_iff_mem.1 h)
 exact zeG p f hi
structure CallIs (p : ProgramD) (n j : Nat) : Prop where
 right : Right p
 few : ∀ m, m < p.nodes.length -> szB p.nodes m <= 360000
 hn : n < p.nodes.length
 hj : j < p.fns.length
 at_ : xd p.fns p.nodes[n].name = j
 kids : p.nodes[n].kids.length = p.fns[j].params.length
 body : 0 <= p.fns[j].body /\ p.fns[j].body.toNat < p.nodes.length
 ret : p.fns[j].ret < 0 \/ (0 <= p.fns[j].ret /\ p.fns[j].ret.toNat < p.nodes.length)
 params : p.fns[j].params.length <= 3
 kind : p.nodes[n].kind = 12
section
variable {P : Program} {w w1 : World} {C : Cx} {X : Nat -> Prop} {gh gh1 : Gh} {st : St} {a : Act} {v : Value} {u : Value} {ob : List (Nat × Ob)} {S : Nat -> Prop} {K : St -> Prop}
end
theorem znS {L : List Int} {i : Nat} (h : i < L.length) (k : Int) : (L.take (i + 1)).contains k = ((L.take i).contains k || L[i] == k) := by
 rw [List.take_succ_eq_append_getElem h, Bool.eq_iff_iff]
 simp only [Bool.or_eq_true, List.contains_iff_mem, List.mem_append, List.mem_singleton, beq_iff_eq]
 exact or_congr Iff.rfl ⟨fun h => h.symm, fun h => h.symm⟩
theorem zoA (p q : ProgramD) (h : zF p <= 1048576) : zF (finP p q) <= 1048576 := by
 unfold finP
 cases hO : zeI q with
 | false => rw [if_neg (by decide)]; exact h
 | true =>
  rw [if_pos rfl]
  unfold zeI at hO
  have hR := (Bool.and_eq_true_iff.1 hO).2
  exact Nat.le_trans (zlx (yh (YS hR).1)) (by decide)
open Classical in
def zrl (i : Nat) (x : Int) (y : NodeD) : NodeD := ⟨y.kind, y.num, y.name, y.kids.take i ++ [x] ++ y.kids.drop i⟩
def zrm (T : List NodeD) (b i : Nat) (x : Int) : List NodeD := T.set b (zrl i x (nAt T b))
def zsB (s : ByteArray) : NodeD := ⟨2, 0, s, []⟩
def zsC (s : ByteArray) (k : Int) : NodeD := ⟨13, 0, s, [k]⟩
def exB (N : List NodeD) (k b i : Nat) (s : ByteArray) : List NodeD := zrm (((N ++ [nAt N k]) ++ [zsC s N.length]).set k (zsB s)) b i (N.length + 1)
def exPB (p : ProgramD) (k b i : Nat) (s : ByteArray) : ProgramD := ⟨exB p.nodes k b i s, p.fns⟩
structure LetIs (p : ProgramD) (f : Nat) (s : ByteArray) (t v : Nat) : Prop where
 right : Right p
 hf : f < p.fns.length
 ht : t < p.nodes.length
 kind : p.nodes[t].kind = 13
 name : p.nodes[t].name = s
 kids : p.nodes[t].kids = [(v : Int)]
 hv : v < t
 val : xV (p.nodes[v]'(Nat.lt_trans hv ht)).kind = true
 one : ∀ m, m < p.nodes.length -> cntK p.nodes p.nodes.length m <= 1
 own : ¬ (xT (p.nodes[v]'(Nat.lt_trans hv ht)).kind = true /\ (p.nodes[v]'(Nat.lt_trans hv ht)).name = s)
 kid : ∀ q : Nat, (q : Int) ∈ (p.nodes[v]'(Nat.lt_trans hv ht)).kids -> ¬ (xT (nAt p.nodes q).kind = true /\ (nAt p.nodes q).name = s)
def hgS (U : List Int) (v : Int) (i : Nat) (q : Int) : Int := if U.contains q && !((i : Int) == v) then v else q
noncomputable def zbX (p : ProgramD) (fn : Int) (s : ByteArray) : List Int := (fnNs p fn).filter (fun k => xT (nAt p.nodes k).kind && decide ((nAt p.nodes k).name = s))
theorem zml {p : ProgramD} {fn : Int} {s : ByteArray} {x : Int} (h : x ∈ zbX p fn s) : 0 <= x /\ x.toNat < p.nodes.length /\ xT (nAt p.nodes x).kind = true /\ (nAt p.nodes x).name = s := by
 unfold zbX at h
 obtain ⟨h1, h2⟩ := List.mem_filter.1 h
 obtain ⟨h3, h4⟩ := zoy (List.contains_iff_mem.2 h1)
 obtain ⟨h5, h6⟩ := Bool.and_eq_true_iff.1 h2
 exact ⟨h3, h4, h5, of_decide_eq_true h6⟩
def zjj (p : ProgramD) (s : ByteArray) (k : Int) : Bool := xT (nAt p.nodes k).kind && decide ((nAt p.nodes k).name = s)
noncomputable def YM (p : ProgramD) (s : ByteArray) (l : List Int) : List Int := l.filter (zjj p s)
theorem zfD (p : ProgramD) (s : ByteArray) {l : List Int} {i : Nat} (h : i < l.length) : YM p s (l.take (i + 1)) = YM p s (l.take i) ++ (if zjj p s l[i] then [l[i]] else []) := by
 unfold YM
 rw [List.take_succ_eq_append_getElem h, List.filter_append]
 cases hu : zjj p s l[i] with
 | true => simp [hu]
 | false => simp [hu]
theorem Yt (p : ProgramD) (s : ByteArray) (l : List Int) : (YM p s l).length <= l.length := List.length_filter_le _ _
theorem zji (k : Int) : zx Tryz.prog 153 [.ro (.sc (.int .i64 k))] (fun rs st => rs = [(false, [cB (xT k)])]) := by
 have e : xT k = (k == 2 || (k == 3 || (k == 4 || (k == 5 || (k == 6 || (k == 14 || k == 15)))))) := by
  unfold xT inI
  by_cases h : 2 <= k /\ k <= 6
  · rcases (show k = 2 \/ k = 3 \/ k = 4 \/ k = 5 \/ k = 6 by omega) with rfl | rfl | rfl | rfl | rfl <;> decide
  · have h1 : (k == 2) = false := by simp; omega
    have h2 : (k == 3) = false := by simp; omega
    have h3 : (k == 4) = false := by simp; omega
    have h4 : (k == 5) = false := by simp; omega
    have h5 : (k == 6) = false := by simp; omega
    have h6 : (decide (2 <= k) && decide (k <= 6)) = false := by
     rw [<- Bool.decide_and]; exact decide_eq_false h
    simp only [h1, h2, h3, h4, h5, h6, bO]
 refine zq (fn := Tryz.f153) (c := Tryz.f153.body.getD .skip) (res := [.tm 2]) (n := 12) ze (by kernel_rfl) (by rfl) (by kernel_rfl) (by rfl) (by rfl) (by simp [zu]) (fun C hpin hfull => ?_)
 rw [e]
 cases h2 : k == 2 with
 | true => simp +decide only [Tryz.f153, h2, bT, zo, zb, za, hpin, go_sem, aD, mU]
 | false =>
 cases h3 : k == 3 with
 | true => simp +decide only [Tryz.f153, h2, h3, bT, bO, zo, zb, za, hpin, go_sem, aD, mU]
 | false =>
 cases h4 : k == 4 with
 | true => simp +decide only [Tryz.f153, h2, h3, h4, bT, bO, zo, zb, za, hpin, go_sem, aD, mU]
 | false =>
 cases h5 : k == 5 with
 | true => simp +decide only [Tryz.f153, h2, h3, h4, h5, bT, bO, zo, zb, za, hpin, go_sem, aD, mU]
 | false =>
 cases h6 : k == 6 with
 | true => simp +decide only [Tryz.f153, h2, h3, h4, h5, h6, bT, bO, zo, zb, za, hpin, go_sem, aD, mU]
 | false =>
 cases h7 : k == 14 with
 | true => simp +decide only [Tryz.f153, h2, h3, h4, h5, h6, h7, bT, bO, zo, zb, za, hpin, go_sem, aD, mU]
 | false =>
 cases h8 : k == 15 with
 | true => simp +decide only [Tryz.f153, h2, h3, h4, h5, h6, h7, h8, bT, bO, zo, zb, za, hpin, go_sem, aD, mU]
 | false => simp +decide only [Tryz.f153, h2, h3, h4, h5, h6, h7, h8, bT, bO, zo, zb, za, hpin, go_sem, aD, mU]
theorem zgf (p : ProgramD) (fn : Int) (s : ByteArray) (hf : p.fns.length <= 1048576) (hn : p.nodes.length <= 1048576) (hk : ∀ x ∈ p.nodes, x.kids.length <= 1048576) : zx Tryz.prog 84 [.ro (zb p), .ro (.sc (.int .i64 fn)), .ro (.sc (.string s))] (fun rs st => rs = [(false, [.row false 3 (row1 cI (zbX p fn s))])]) := by
 have hfs := zhc p fn hf hn hk
 have hll := XK p fn
 have hnode := fun i h => zeG p fn (i := i) h
 have hres : zbX p fn s = YM p s (fnNs p fn) := rfl
 simp only [zb] at hfs
 refine zp (fn := Tryz.f84) (c := Tryz.f84.body.getD .skip) (res := [.tm 6]) (n := 39) ze (by kernel_rfl) (by rfl) (by kernel_rfl) (by rfl) (by rfl) (by simp [zu]) (fun uf ub C hpin hpin2 hfull => ?_)
 simp only [Tryz.f84, oD]
 refine Tri.step ze ?_
 simp +decide only [zo, zb, za, hpin, go_sem, aD, mU]
 refine Tri.ent ?_ (Ent.frb hfull 3)
 refine Tri.step ze ?_
 simp +decide only [zo, zb, za, hpin, go_sem, aD, mU]
 refine Tri.step ze ?_
 simp +decide only [zo, zb, za, hpin, go_sem, aD, mU]
 refine zd hfs hpin ?_
 rw [hres]
 generalize fnNs p fn = L at hll hnode |-
 have htk : List.take L.length (row1 cI L) = row1 cI L := yj cI L
 simp +decide only [zo, zb, za, hpin, go_sem, aD, mU]
 refine Tri.loop (ι := Nat) (fun i => i <= L.length) (fun i => ⟨39, [(2, vS s), (3, .ip (za true p) 0), (7, .ref 7 [] (YM p s (L.take i)).length), (13, .ref 3013 [] L.length), (14, vI L.length), (15, vI i)], [(3013, .row 3 (row1 cI L)), (7, .row 3 (row1 cI (YM p s (L.take i))))]⟩) (fun i => L.length - i) 0 (by simp) ?_ ?_
 · refine Ent.weak ?_ ?_ ?_ ?_ <;> simp +decide [zH, zS, subT, subB, zj, zi, zm, St.get, look, vI, vB, vS, cI, cS, cB, zg, fnC, zn, za, roI, YM, row1]
 · rintro i hi
   refine zf ze _ ?_
   by_cases h' : i < L.length
   · have e : ((i : Int) < (L.length : Int)) = True := by simp [h']
     obtain ⟨k0, k1⟩ := hnode i h'
     obtain ⟨k, hke⟩ : ∃ k : Nat, L[i] = k := ⟨L[i].toNat, by omega⟩
     rw [hke] at k1
     rw [Int.toNat_natCast] at k1
     have ck : ((k : Int) < (p.nodes.length : Int)) = True := eq_true (by omega)
     have hxk : (rows (zg true) p.nodes).getD k [] = zg true p.nodes[k] := zk _ _ k1
     have hnx := zfD p s h'
     have hlen : (YM p s (L.take i)).length <= i := by
      have := Yt p s (L.take i); simp at this; omega
     have hb1 : (YM p s (L.take i)).length + 1 <= 140737488355328 := by omega
     have hb2 : ((YM p s (L.take i)).length + 1) * 8 <= 140737488355328 := by omega
     have hsn := xx cI (YM p s (L.take i)) L[i]
     rw [hke] at hnx hsn
     have hua : zjj p s (k : Int) = (xT p.nodes[k].kind && decide (p.nodes[k].name = s)) := by unfold zjj; rw [zR k1]
     rw [hua] at hnx
     have hgi : (row1 cI L)[i]? = some [.sc (.int .i64 k)] := by rw [zW _ _ h', hke]; rfl
     have hus := zbW p.nodes[k].kind
     simp only [cI, cB] at hsn hus
     simp +decide only [e, h', hgi, ck, k1, hxk, zg, iN, vB, vI, vS, zo, zb, za, hpin, go_sem, aD, mU]
     refine zd hus hpin ?_
     cases h1 : xT p.nodes[k].kind with
     | false =>
      rw [h1] at hnx
      simp only [Bool.false_and, bF, if_false, List.append_nil] at hnx
      simp +decide only [vB, vI, vS, zo, zb, za, hpin, go_sem, aD, mU]
      refine ⟨i + 1, h', by omega, Ent.weak ?_ ?_ ?_ ?_⟩
      all_goals simp +decide [zH, zS, subT, subB, zj, zi, zm, St.get, look, vI, vB, vS, cI, cS, cB, zg, fnC, zn, za, roI, hnx, w64s (n := L.length) h' (by omega)]
     | true =>
      by_cases h2 : p.nodes[k].name = s
      · rw [h1, decide_eq_true h2] at hnx
        simp only [Bool.and_self, if_true] at hnx
        simp +decide only [h2, hb1, hb2, hsn, vB, vI, vS, zo, zb, za, hpin, go_sem, aD, mU]
        refine ⟨i + 1, h', by omega, Ent.weak ?_ ?_ ?_ ?_⟩
        all_goals simp +decide [zH, zS, subT, subB, zj, zi, zm, St.get, look, vI, vB, vS, cI, cS, cB, zg, fnC, zn, za, roI, hnx, w64s (n := L.length) h' (by omega)]
      · rw [h1, decide_eq_false h2] at hnx
        simp only [Bool.and_false, bF, if_false, List.append_nil] at hnx
        simp +decide only [h2, vB, vI, vS, zo, zb, za, hpin, go_sem, aD, mU]
        refine ⟨i + 1, h', by omega, Ent.weak ?_ ?_ ?_ ?_⟩
        all_goals simp +decide [zH, zS, subT, subB, zj, zi, zm, St.get, look, vI, vB, vS, cI, cS, cB, zg, fnC, zn, za, roI, hnx, w64s (n := L.length) h' (by omega)]
   · have hil : i = L.length := by omega
     subst hil
     have e : ((L.length : Int) < (L.length : Int)) = False := by simp
     simp +decide only [e, vB, vI, vS, zo, zb, za, hpin, go_sem, aD, mU]
     refine zf ze _ ?_
     simp +decide only [zo, zb, za, hpin, go_sem, aD, mU]
structure WalkH (nodes : List NodeD) (s : Nat) (l : List Nat) (i : Nat) : Prop where
 reach : ∀ x ∈ l, RB nodes s x
 root : ∃ r, l = s :: r /\ ∀ m ∈ r, m < s
 done : ∀ p (hp : p < l.length), p < i -> ∀ (hl : l[p] < nodes.length), ∀ kid ∈ nodes[l[p]].kids, (nAt nodes kid).kind ≠ 20 -> kid.toNat ∈ l
 le : i <= l.length
 few : i + Ws nodes (l.drop i) <= W nodes s
structure StepIs (p : ProgramD) (k b i s : Nat) : Prop where
 hk : k < p.nodes.length
 val : xV p.nodes[k].kind = true
 hb : b < p.nodes.length
 blk : p.nodes[b].kind = 20
 hi : i < p.nodes[b].kids.length
 hs : p.nodes[b].kids[i] = s
 hsl : s < p.nodes.length
 rb : RB p.nodes s k
theorem zda (l : List VarD) : shLL (rows (varC false) l) = rows (varC true) l := by
 rw [yw]
 simp only [rows, List.map_map]
 apply List.map_congr_left
 intro x _
 simp [varC, shL, shD, cI, cS]
def St.nilS (o : Nat) (p : List (Nat × Nat)) (e : TypeId) (st : St) : St := match look st.ob o with
 | some x => (match subO x p with
  | some (.sc (.slice none 0 0)) => st.swap o (setO x p (.row false e []))
  | _ => st)
 | none => st
section
variable {P : Program} {w w1 : World} {C : Cx} {X : Nat -> Prop} {gh gh1 : Gh} {st : St} {a : Act} {v : Value} {u : Value} {ob : List (Nat × Ob)} {S : Nat -> Prop} {K : St -> Prop}
end
attribute [go_sem] St.nilS
structure ExM (p : ProgramD) (k b i : Nat) (s : ByteArray) (v : Value) (M1 M2 M3 : List NodeD) : Prop where
 l1 : M1.length = p.nodes.length + 1
 l2 : M2.length = p.nodes.length + 2
 l3 : M3.length = p.nodes.length + 2
 e1 : ∀ h : k < p.nodes.length, zlv (upH (fun _ => none) k v) p.nodes ++ [[D.sc (.int .i64 p.nodes[k].kind), .sc (.int .i64 p.nodes[k].num), .sc (.string p.nodes[k].name), .sc v]] = zlv (upH (upH (fun _ => none) k v) p.nodes.length v) M1
 e2 : zlv (upH (upH (fun _ => none) k v) p.nodes.length v) M1 ++ [[D.sc (.int .i64 13), .sc (.int .i64 0), .sc (.string s), .row false 3 [[.sc (.int .i64 p.nodes.length)]]]] = zlv (upH (upH (fun _ => none) k v) p.nodes.length v) M2
 e3 : (zlv (upH (upH (fun _ => none) k v) p.nodes.length v) M2).set k [D.sc (.int .i64 2), .sc (.int .i64 0), .sc (.string s), .sc (.slice none 0 0)] = zlv (upH (upH (fun _ => none) p.nodes.length v) k (.slice none 0 0)) M3
 n0 : ∀ (h : k < p.nodes.length) (h2 : p.nodes.length < M3.length), M3[p.nodes.length].kids = p.nodes[k].kids
 nk : ∀ h : k < M3.length, M3[k].kids = []
 nb : ∀ (h : b < p.nodes.length) (h2 : b < M3.length), M3[b] = p.nodes[b]
 out : exPB p k b i s = ⟨zrm M3 b i (p.nodes.length + 1), p.fns⟩
 few : ∀ x ∈ (exPB p k b i s).nodes, x.kids.length <= 13
theorem zlO {p : ProgramD} {fn : Int} (hR : zX p = true) (h0 : inI fn 0 (p.fns.length - 1) = true) : YQ p fn = true := by
 have hr := zy h0
 obtain ⟨f, rfl⟩ : ∃ f : Nat, fn = f := ⟨fn.toNat, by omega⟩
 have h1 := (YS hR).2 f (by omega)
 unfold zX at hR
 unfold xc at h1
 unfold YQ
 rw [(Bool.and_eq_true_iff.1 hR).1, h0, (Bool.and_eq_true_iff.1 h1).1]
 rfl
theorem zge (p : ProgramD) (fn : Int) (s : ByteArray) (hf : p.fns.length <= 1048576) (hn : p.nodes.length <= 1048576) (hk : ∀ x ∈ p.nodes, x.kids.length <= 1048576) : zx Tryz.prog 79 [.ro (zb p), .ro (.sc (.int .i64 fn)), .ro (.sc (.string s))] (fun rs st => rs = [(false, [.row false 3 (row1 cI (zbX p fn s))])]) := by
 have hfs := znI p fn hf hn hk
 have hll := XK p fn
 have hnode := fun i h => zeG p fn (i := i) h
 have hres : zbX p fn s = YM p s (fnNs p fn) := rfl
 simp only [zb] at hfs
 refine zp (fn := Tryz.f79) (c := Tryz.f79.body.getD .skip) (res := [.tm 6]) (n := 51) ze (by kernel_rfl) (by rfl) (by kernel_rfl) (by rfl) (by rfl) (by simp [zu]) (fun uf ub C hpin hpin2 hfull => ?_)
 simp only [Tryz.f79, oD]
 refine Tri.step ze ?_
 simp +decide only [zo, zb, za, hpin, go_sem, aD, mU]
 refine Tri.ent ?_ (Ent.frb hfull 3)
 refine Tri.step ze ?_
 simp +decide only [zo, zb, za, hpin, go_sem, aD, mU]
 refine Tri.step ze ?_
 simp +decide only [zo, zb, za, hpin, go_sem, aD, mU]
 refine zd hfs hpin ?_
 rw [hres]
 generalize fnNs p fn = L at hll hnode |-
 have hsh : shLL (row1 cI L) = row1 cI L := yJ L
 simp +decide only [zo, zb, za, hpin, go_sem, aD, mU]
 refine Tri.ent ?_ (Ent.frz hfull 8)
 refine Tri.step ze ?_
 simp +decide only [hsh, zo, zb, za, hpin, go_sem, aD, mU]
 refine Tri.loop (ι := Nat) (fun i => i <= L.length) (fun i => ⟨51, [(2, vS s), (3, .ip (za true p) 0), (7, .ref 7 [] (YM p s (L.take i)).length), (8, roI L), (9, vI i)], [(7, .row 3 (row1 cI (YM p s (L.take i))))]⟩) (fun i => L.length - i) 0 (by simp) ?_ ?_
 · refine Ent.weak ?_ ?_ ?_ ?_ <;> simp +decide [zH, zS, subT, subB, zj, zi, zm, St.get, look, vI, vB, vS, cI, cS, cB, zg, fnC, zn, za, roI, YM, row1]
 · rintro i hi
   refine zf ze _ ?_
   by_cases h' : i < L.length
   · have e : ((i : Int) < (L.length : Int)) = True := by simp [h']
     obtain ⟨k0, k1⟩ := hnode i h'
     obtain ⟨k, hke⟩ : ∃ k : Nat, L[i] = k := ⟨L[i].toNat, by omega⟩
     rw [hke] at k1
     rw [Int.toNat_natCast] at k1
     have ck : ((k : Int) < (p.nodes.length : Int)) = True := eq_true (by omega)
     have hxk : (rows (zg true) p.nodes).getD k [] = zg true p.nodes[k] := zk _ _ k1
     have hnx := zfD p s h'
     have hlen : (YM p s (L.take i)).length <= i := by
      have := Yt p s (L.take i); simp at this; omega
     have hb1 : (YM p s (L.take i)).length + 1 <= 140737488355328 := by omega
     have hb2 : ((YM p s (L.take i)).length + 1) * 8 <= 140737488355328 := by omega
     have hsn := xx cI (YM p s (L.take i)) L[i]
     rw [hke] at hnx hsn
     have hua : zjj p s (k : Int) = (xT p.nodes[k].kind && decide (p.nodes[k].name = s)) := by unfold zjj; rw [zR k1]
     rw [hua] at hnx
     have hgi : (row1 cI L).getD i [] = [.sc (.int .i64 k)] := by rw [zw _ _ h', hke]; rfl
     have hus := zji p.nodes[k].kind
     simp only [cI, cB] at hsn hus
     simp +decide only [e, vB, vI, vS, zo, zb, za, hpin, go_sem, aD, mU]
     refine Tri.sched ze [(0, true), (2, true), (3, true), (4, true), (1, true), (5, false), (6, false), (7, false), (8, false), (9, false), (10, false), (11, true), (13, true), (14, true), (15, true), (20, true), (12, true), (16, false), (17, false), (18, false), (19, false), (21, false), (22, false)] zO (by kernel_rfl) (fun C2 hC2 => ?_)
     have hp2 := zP hC2 hpin
     simp +decide only [e, h', hgi, ck, k1, hxk, zg, iN, vB, vI, vS, zo, zb, za, hp2, hpin, go_sem, aD, mU]
     refine zd hus hp2 ?_
     cases h1 : xT p.nodes[k].kind with
     | false =>
      rw [h1] at hnx
      simp only [Bool.false_and, bF, if_false, List.append_nil] at hnx
      simp +decide only [e, h', hgi, ck, k1, hxk, zg, iN, vB, vI, vS, zo, zb, za, hp2, hpin, go_sem, aD, mU]
      refine ⟨i + 1, h', by omega, Ent.weak ?_ ?_ ?_ ?_⟩
      all_goals simp +decide [zH, zS, subT, subB, zj, zi, zm, St.get, look, vI, vB, vS, cI, cS, cB, zg, fnC, zn, za, roI, hnx, w64s (n := L.length) h' (by omega)]
     | true =>
      by_cases h2 : p.nodes[k].name = s
      · rw [h1, decide_eq_true h2] at hnx
        simp only [Bool.and_self, if_true] at hnx
        simp +decide only [e, h', hgi, ck, k1, hxk, zg, h2, hb1, hb2, hsn, iN, vB, vI, vS, zo, zb, za, hp2, hpin, go_sem, aD, mU]
        refine ⟨i + 1, h', by omega, Ent.weak ?_ ?_ ?_ ?_⟩
        all_goals simp +decide [zH, zS, subT, subB, zj, zi, zm, St.get, look, vI, vB, vS, cI, cS, cB, zg, fnC, zn, za, roI, hnx, w64s (n := L.length) h' (by omega)]
      · rw [h1, decide_eq_false h2] at hnx
        simp only [Bool.and_false, bF, if_false, List.append_nil] at hnx
        simp +decide only [e, h', hgi, ck, k1, hxk, zg, h2, iN, vB, vI, vS, zo, zb, za, hp2, hpin, go_sem, aD, mU]
        refine ⟨i + 1, h', by omega, Ent.weak ?_ ?_ ?_ ?_⟩
        all_goals simp +decide [zH, zS, subT, subB, zj, zi, zm, St.get, look, vI, vB, vS, cI, cS, cB, zg, fnC, zn, za, roI, hnx, w64s (n := L.length) h' (by omega)]
   · have hil : i = L.length := by omega
     subst hil
     have e : ((L.length : Int) < (L.length : Int)) = False := by simp
     simp +decide only [e, vB, vI, vS, zo, zb, za, hpin, go_sem, aD, mU]
     refine zf ze _ ?_
     simp +decide only [zo, zb, za, hpin, go_sem, aD, mU]
def band (a b : Int) : Int := bits .and .i64 a b
theorem zbS (a b : Int) : band a b = 0 ↔ BitVec.ofInt 64 a &&& BitVec.ofInt 64 b = 0#64 := by
 unfold band bits
 show IntKind.i64.wrap ((BitVec.ofInt 64 a &&& BitVec.ofInt 64 b).toNat : Int) = 0 ↔ _
 generalize BitVec.ofInt 64 a &&& BitVec.ofInt 64 b = x
 rw [IntKind.wrap_i64]
 have h := x.isLt
 constructor
 · intro h1
   apply BitVec.eq_of_toNat_eq
   simp only [BitVec.toNat_ofNat]
   omega
 · intro h1
   rw [h1]; decide
theorem zeU (a : Int) : (band a 66 == 0) = (band a 2 == 0 && band a 64 == 0) := by
 rw [Bool.eq_iff_iff, Bool.and_eq_true_iff]
 simp only [beq_iff_eq]
 rw [zbS, zbS, zbS]
 have e : BitVec.ofInt 64 66 = BitVec.ofInt 64 2 ||| BitVec.ofInt 64 64 := by decide
 rw [e]
 generalize BitVec.ofInt 64 a = x
 have hd : x &&& (BitVec.ofInt 64 2 ||| BitVec.ofInt 64 64) = (x &&& BitVec.ofInt 64 2) ||| (x &&& BitVec.ofInt 64 64) := by
  apply BitVec.eq_of_getLsbD_eq
  intro i hi
  simp only [BitVec.getLsbD_and, BitVec.getLsbD_or, Bool.and_or_distrib_left]
 rw [hd]
 constructor
 · intro h
   constructor
   · apply BitVec.eq_of_getLsbD_eq
     intro i hi
     have := congrArg (fun y => y.getLsbD i) h
     simp only [BitVec.getLsbD_or, BitVec.getLsbD_zero, Bool.or_eq_false_iff] at this
     rw [this.1, BitVec.getLsbD_zero]
   · apply BitVec.eq_of_getLsbD_eq
     intro i hi
     have := congrArg (fun y => y.getLsbD i) h
     simp only [BitVec.getLsbD_or, BitVec.getLsbD_zero, Bool.or_eq_false_iff] at this
     rw [this.2, BitVec.getLsbD_zero]
 · rintro ⟨h1, h2⟩
   rw [h1, h2]; decide
theorem zql {a : Int} (h : band a 90 = 0) : band a 8 = 0 := by
 rw [zbS] at h |-
 have e : BitVec.ofInt 64 8 = BitVec.ofInt 64 90 &&& BitVec.ofInt 64 8 := by decide
 rw [e, <- BitVec.and_assoc, h]
 decide
def xt (b k : Int) : Int :=
 if k == 1 && b == 1 then 1 else if k == 3 && b == 1 then 3 else if k == 4 && (decide (0 <= b) && band b 90 == 0) then 4
 else if k == 2 && band b 66 == 0 then (if !(band b 4 == 0) then 2 else if !(band b 48 == 0) then 4 else 3) else 0
theorem zmY {b k : Int} (h : xt b k = 4) (hl : ¬ band b 8 = 0) : k = 2 := by
 unfold xt at h
 split at h
 · cases h
 · split at h
   · cases h
   · split at h
     · rename_i h4
       have h5 := (Bool.and_eq_true_iff.1 (Bool.and_eq_true_iff.1 h4).2).2
       exact absurd (zql (by simpa using h5)) hl
     · split at h
       · rename_i h6
         have := (Bool.and_eq_true_iff.1 h6).1
         simpa using this
       · cases h
theorem xR (a b : Int) : bits .and .i64 a b = band a b := rfl
theorem zjL (b k : Int) : zx Tryz.prog 161 [.ro (.sc (.int .i64 b)), .ro (.sc (.int .i64 k))] (fun rs st => rs = [(false, [cI (xt b k)])]) := by
 unfold xt
 refine zq (fn := Tryz.f161) (c := Tryz.f161.body.getD .skip) (res := [.tm 4]) (n := 47) ze (by kernel_rfl) (by rfl) (by kernel_rfl) (by rfl) (by rfl) (by simp [zu]) (fun C hpin hfull => ?_)
 simp only [Tryz.f161, oD]
 cases k1 : k == 1 with
 | true =>
  have e : k = 1 := by simpa using k1
  have k2 : (k == 2) = false := by rw [e]; decide
  have k3 : (k == 3) = false := by rw [e]; decide
  have k4 : (k == 4) = false := by rw [e]; decide
  cases b1 : b == 1 with
  | true => simp +decide only [k1, k2, k3, k4, b1, Bool.and_self, zo, zb, za, hpin, go_sem, aD, mU]
  | false => simp +decide only [k1, k2, k3, k4, b1, zo, zb, za, hpin, go_sem, aD, mU]
 | false =>
 cases k3 : k == 3 with
 | true =>
  have e : k = 3 := by simpa using k3
  have k2 : (k == 2) = false := by rw [e]; decide
  have k4 : (k == 4) = false := by rw [e]; decide
  cases b1 : b == 1 with
  | true => simp +decide only [k1, k2, k3, k4, b1, Bool.and_self, zo, zb, za, hpin, go_sem, aD, mU]
  | false => simp +decide only [k1, k2, k3, k4, b1, zo, zb, za, hpin, go_sem, aD, mU]
 | false =>
 cases k4 : k == 4 with
 | true =>
  have e : k = 4 := by simpa using k4
  have k2 : (k == 2) = false := by rw [e]; decide
  by_cases h0 : 0 <= b
  · have c0 : (0 <= b) = True := eq_true h0
    cases h9 : band b 90 == 0 with
    | true => simp +decide only [k1, k2, k3, k4, c0, h9, xR, ge_iff_le, Bool.and_self, zo, zb, za, hpin, go_sem, aD, mU]
    | false => simp +decide only [k1, k2, k3, k4, c0, h9, xR, ge_iff_le, zo, zb, za, hpin, go_sem, aD, mU]
  · have c0 : (0 <= b) = False := eq_false h0
    simp +decide only [k1, k2, k3, k4, c0, xR, ge_iff_le, zo, zb, za, hpin, go_sem, aD, mU]
 | false =>
 cases k2 : k == 2 with
 | true =>
  cases h6 : band b 66 == 0 with
  | false => simp +decide only [k1, k2, k3, k4, h6, xR, zo, zb, za, hpin, go_sem, aD, mU]
  | true =>
   cases h4 : band b 4 == 0 with
   | false => simp +decide only [k1, k2, k3, k4, h6, h4, xR, bne, Bool.and_self, zo, zb, za, hpin, go_sem, aD, mU]
   | true =>
    cases h8 : band b 48 == 0 with
    | false => simp +decide only [k1, k2, k3, k4, h6, h4, h8, xR, bne, Bool.and_self, zo, zb, za, hpin, go_sem, aD, mU]
    | true => simp +decide only [k1, k2, k3, k4, h6, h4, h8, xR, bne, Bool.and_self, zo, zb, za, hpin, go_sem, aD, mU]
 | false => simp +decide only [k1, k2, k3, k4, xR, zo, zb, za, hpin, go_sem, aD, mU]
theorem zsq : fo Tryz.prog 185 0 = some 0 := by kernel_rfl
theorem zsp : fo Tryz.prog 185 1 = some 1 := by kernel_rfl
theorem zso : fo Tryz.prog 185 2 = some 2 := by kernel_rfl
theorem zsn : fo Tryz.prog 185 3 = some 3 := by kernel_rfl
theorem rHas : isR Tryz.prog 185 = some true := by kernel_rfl
theorem sHas : szT Tryz.prog 185 = 4 := by kernel_rfl
theorem zHas : zeroCells Tryz.prog 185 = some [.bool false, .bool false, .bool false, .bool false] := by kernel_rfl
theorem zrV : xz Tryz.prog 185 = some [(0, 1), (1, 1), (2, 1), (3, 1)] := by kernel_rfl
attribute [go_sem] zsq zsp zso zsn rHas sHas zHas zrV
def ofD (b : Int) : List D := [cB (!(band b 2 == 0)), cB (!(band b 64 == 0)), cB (!(band b 4 == 0)), cB (!(band b 48 == 0))]
theorem zjN (b : Int) : zx Tryz.prog 191 [.ro (.sc (.int .i64 b))] (fun rs st => rs = [(true, ofD b)]) := by
 refine zq (fn := Tryz.f191) (c := Tryz.f191.body.getD .skip) (res := [.ce 2 185]) (n := 16) ze (by kernel_rfl) (by rfl) (by kernel_rfl) (by rfl) (by rfl) (by simp [zu]) (fun C hpin hfull => ?_)
 simp +decide only [Tryz.f191, ofD, xR, bne, zo, zb, za, hpin, go_sem, aD, mU]
theorem zjK (b k : Int) : zx Tryz.prog 159 [.ro (.sc (.int .i64 b)), .ro (.sc (.int .i64 k))] (fun rs st => rs = [(false, [cI (xt b k)])]) := by
 have hof := zjN b
 simp only [ofD, cB] at hof
 refine zp (fn := Tryz.f159) (c := Tryz.f159.body.getD .skip) (res := [.tm 4]) (n := 38) ze (by kernel_rfl) (by rfl) (by kernel_rfl) (by rfl) (by rfl) (by simp [zu]) (fun uf ub C hpin hpin2 hfull => ?_)
 simp only [Tryz.f159, oD]
 refine Tri.step ze ?_
 simp +decide only [zo, zb, za, hpin, go_sem, aD, mU]
 refine Tri.step ze ?_
 simp +decide only [zo, zb, za, hpin, go_sem, aD, mU]
 refine zd hof hpin ?_
 simp +decide only [zo, zb, za, hpin, go_sem, aD, mU]
 refine zf ze _ ?_
 cases k1 : k == 1 with
 | true =>
  have e : k = 1 := by simpa using k1
  have k2 : (k == 2) = false := by rw [e]; decide
  have k3 : (k == 3) = false := by rw [e]; decide
  have k4 : (k == 4) = false := by rw [e]; decide
  cases b1 : b == 1 with
  | true =>
   have hM : xt b k = 1 := by unfold xt; rw [k1, b1]; rfl
   simp +decide only [hM, k1, k2, k3, k4, b1, xR, ge_iff_le, zo, zb, za, hpin, go_sem, aD, mU]
  | false =>
   have hM : xt b k = 0 := by unfold xt; rw [k1, b1, k3, k4, k2]; rfl
   simp +decide only [hM, k1, k2, k3, k4, b1, xR, ge_iff_le, zo, zb, za, hpin, go_sem, aD, mU]
 | false =>
 cases k2 : k == 2 with
 | true =>
  have e : k = 2 := by simpa using k2
  have k3 : (k == 3) = false := by rw [e]; decide
  have k4 : (k == 4) = false := by rw [e]; decide
  cases h2 : band b 2 == 0 with
  | false =>
   have hM : xt b k = 0 := by unfold xt; rw [zeU, k1, k3, k4, k2, h2]; rfl
   simp +decide only [hM, k1, k2, k3, k4, h2, xR, ge_iff_le, zo, zb, za, hpin, go_sem, aD, mU]
  | true =>
   cases h6 : band b 64 == 0 with
   | false =>
    have hM : xt b k = 0 := by unfold xt; rw [zeU, k1, k3, k4, k2, h2, h6]; rfl
    simp +decide only [hM, k1, k2, k3, k4, h2, h6, xR, ge_iff_le, zo, zb, za, hpin, go_sem, aD, mU]
   | true =>
    cases h4 : band b 4 == 0 with
    | false =>
     have hM : xt b k = 2 := by unfold xt; rw [zeU, k1, k3, k4, k2, h2, h6, h4]; rfl
     simp +decide only [hM, k1, k2, k3, k4, h2, h6, h4, xR, ge_iff_le, zo, zb, za, hpin, go_sem, aD, mU]
    | true =>
     cases h8 : band b 48 == 0 with
     | false =>
      have hM : xt b k = 4 := by unfold xt; rw [zeU, k1, k3, k4, k2, h2, h6, h4, h8]; rfl
      simp +decide only [hM, k1, k2, k3, k4, h2, h6, h4, h8, xR, ge_iff_le, zo, zb, za, hpin, go_sem, aD, mU]
     | true =>
      have hM : xt b k = 3 := by unfold xt; rw [zeU, k1, k3, k4, k2, h2, h6, h4, h8]; rfl
      simp +decide only [hM, k1, k2, k3, k4, h2, h6, h4, h8, xR, ge_iff_le, zo, zb, za, hpin, go_sem, aD, mU]
 | false =>
 cases k3 : k == 3 with
 | true =>
  have e : k = 3 := by simpa using k3
  have k4 : (k == 4) = false := by rw [e]; decide
  cases b1 : b == 1 with
  | true =>
   have hM : xt b k = 3 := by unfold xt; rw [k1, k3, b1]; rfl
   simp +decide only [hM, k1, k2, k3, k4, b1, xR, ge_iff_le, zo, zb, za, hpin, go_sem, aD, mU]
  | false =>
   have hM : xt b k = 0 := by unfold xt; rw [k1, k3, b1, k4, k2]; rfl
   simp +decide only [hM, k1, k2, k3, k4, b1, xR, ge_iff_le, zo, zb, za, hpin, go_sem, aD, mU]
 | false =>
 cases k4 : k == 4 with
 | true =>
  cases h9 : band b 90 == 0 with
  | false =>
   have hM : xt b k = 0 := by unfold xt; rw [k1, k3, k4, h9, k2, Bool.and_false]; rfl
   simp +decide only [hM, k1, k2, k3, k4, h9, xR, ge_iff_le, zo, zb, za, hpin, go_sem, aD, mU]
  | true =>
   by_cases h0 : 0 <= b
   · have c0 : (0 <= b) = True := eq_true h0
     have hM : xt b k = 4 := by unfold xt; rw [k1, k3, k4, h9, decide_eq_true h0]; rfl
     simp +decide only [hM, c0, k1, k2, k3, k4, h9, xR, ge_iff_le, zo, zb, za, hpin, go_sem, aD, mU]
   · have c0 : (0 <= b) = False := eq_false h0
     have hM : xt b k = 0 := by unfold xt; rw [k1, k3, k4, h9, k2, decide_eq_false h0]; rfl
     simp +decide only [hM, c0, k1, k2, k3, k4, h9, xR, ge_iff_le, zo, zb, za, hpin, go_sem, aD, mU]
 | false =>
  have hM : xt b k = 0 := by unfold xt; rw [k1, k3, k4, k2]; rfl
  simp +decide only [hM, k1, k2, k3, k4, xR, ge_iff_le, zo, zb, za, hpin, go_sem, aD, mU]
def zaO (e : EffectD) : Bool := !(band e.bits 64 == 0)
def modE (l : List VarD) (e : EffectD) : Int := xt e.bits (yZ l e.name)
noncomputable def ziy (p : ProgramD) (fn : Int) (ins : List Int) (s : ByteArray) : Bool := (zbX p fn s).all (fun x => ins.contains x)
noncomputable def zex (p : ProgramD) (fn : Int) (l : List VarD) (ins : List Int) (o : List ParamD) (e : EffectD) : Option (List ParamD) :=
 if zaO e then (if ziy p fn ins e.name then some o else none)
 else if modE l e == 0 || decide (3 <= o.length) then none else if modE l e == 4 && !(band e.bits 8 == 0) then none else some (o ++ [⟨e.name, modE l e⟩])
noncomputable def hdL (p : ProgramD) (fn : Int) (l : List VarD) (ins : List Int) : List EffectD -> List ParamD -> Option (List ParamD)
 | [], o => some o
 | e :: r, o => match zex p fn l ins o e with
  | none => none
  | some o2 => hdL p fn l ins r o2
theorem zkP (p : ProgramD) (fn : Int) (l : List VarD) (ins : List Int) (e : EffectD) : ∀ (E : List EffectD) (o : List ParamD), hdL p fn l ins (E ++ [e]) o = (hdL p fn l ins E o).bind (fun o2 => zex p fn l ins o2 e)
 | [], o => by
  simp only [List.nil_append, hdL, Option.bind_some]
  cases zex p fn l ins o e <;> rfl
 | x :: r, o => by
  simp only [List.cons_append, hdL]
  cases zex p fn l ins o x with
  | none => rfl
  | some o2 => exact zkP p fn l ins e r o2
theorem zkQ (p : ProgramD) (fn : Int) (l : List VarD) (ins : List Int) (R : List EffectD) : ∀ (E : List EffectD) (o : List ParamD), hdL p fn l ins E o = none -> hdL p fn l ins (E ++ R) o = none
 | [], o, h => by simp [hdL] at h
 | x :: r, o, h => by
  simp only [List.cons_append, hdL] at h |-
  cases hx : zex p fn l ins o x with
  | none => rfl
  | some o2 =>
   rw [hx] at h
   exact zkQ p fn l ins R r o2 h
theorem zgZ (p : ProgramD) (fn : Int) (l : List VarD) (ins : List Int) : ∀ (E : List EffectD) (o o2 : List ParamD), o.length <= 3 -> hdL p fn l ins E o = some o2 -> o2.length <= 3
 | [], o, o2, h, h2 => by simp [hdL] at h2; subst h2; exact h
 | x :: r, o, o2, h, h2 => by
  simp only [hdL] at h2
  cases hx : zex p fn l ins o x with
  | none => rw [hx] at h2; cases h2
  | some o3 =>
   rw [hx] at h2
   refine zgZ p fn l ins r o3 o2 ?_ h2
   unfold zex at hx
   split at hx
   · split at hx
     · cases hx; exact h
     · cases hx
   · split at hx
     · cases hx
     · rename_i hc
       split at hx
       · cases hx
       · cases hx
         simp only [Bool.or_eq_true, decide_eq_true_eq, not_or] at hc
         simp
         omega
noncomputable def zbH (p : ProgramD) (fn : Int) (R : List Int) : Option (List ParamD) := hdL p fn (yi p fn) (xH p R) (effL p fn R) []
def spP (l : List VarD) : List EffectD -> List ParamD -> List ParamD × Bool
 | [], o => (o, decide (o.length <= 3))
 | e :: r, o => if zaO e then spP l r o else if modE l e == 0 || (modE l e == 4 && (yZ l e.name == 2 && !(band e.bits 8 == 0))) then (o, false) else spP l r (o ++ [⟨e.name, modE l e⟩])
noncomputable def zcQ (p : ProgramD) (fn : Int) (ins : List Int) (E : List EffectD) : Bool := E.any (fun e => zaO e && !ziy p fn ins e.name)
theorem zgv (l : List VarD) : ∀ (E : List EffectD) (o : List ParamD), 3 < o.length -> (spP l E o).2 = false
 | [], o, h => by simp [spP]; omega
 | e :: r, o, h => by
  unfold spP
  split
  · exact zgv l r o h
  · split
    · rfl
    · exact zgv l r _ (by simp; omega)
theorem zjq (p : ProgramD) (fn : Int) (l : List VarD) (ins : List Int) : ∀ (E : List EffectD) (o : List ParamD), o.length <= 3 -> hdL p fn l ins E o = if (spP l E o).2 && !zcQ p fn ins E then some (spP l E o).1 else none
 | [], o, h => by simp [hdL, spP, zcQ, h]
 | e :: r, o, h => by
  have hlk : zcQ p fn ins (e :: r) = ((zaO e && !ziy p fn ins e.name) || zcQ p fn ins r) := rfl
  rw [hlk]
  unfold hdL zex spP
  cases h1 : zaO e with
  | true =>
   simp only [if_true, Bool.true_and]
   cases h2 : ziy p fn ins e.name with
   | true =>
    simp only [if_true, Bool.not_true, bO]
    exact zjq p fn l ins r o h
   | false => simp
  | false =>
   simp only [bF, if_false, Bool.false_and, bO]
   cases h3 : modE l e == 0 with
   | true => simp
   | false =>
    simp only [bO]
    have h6 : (modE l e == 4 && (yZ l e.name == 2 && !(band e.bits 8 == 0))) = (modE l e == 4 && !(band e.bits 8 == 0)) := by
     cases h4 : modE l e == 4 with
     | false => rfl
     | true =>
      cases h5 : band e.bits 8 == 0 with
      | true => simp
      | false =>
       have : yZ l e.name = 2 := zmY (b := e.bits) (by unfold modE at h4; simpa using h4) (by simpa using h5)
       rw [this]; rfl
    rw [h6]
    by_cases h7 : 3 <= o.length
    · rw [decide_eq_true h7]
      simp only [if_true]
      cases h8 : modE l e == 4 && !(band e.bits 8 == 0) with
      | true => simp
      | false =>
       simp only [bF, if_false]
       rw [zgv l r _ (by simp; omega)]
       rfl
    · rw [decide_eq_false h7]
      simp only [bF, if_false]
      cases h8 : modE l e == 4 && !(band e.bits 8 == 0) with
      | true => simp
      | false =>
       simp only [bF, if_false]
       exact zjq p fn l ins r _ (by simp; omega)
def hitQ (x : NodeD) (q : ParamD) : Bool := decide (x.name = q.name) && ((x.kind == 5 && q.ty == 3) || (x.kind == 6 && q.ty == 4))
def inX (ps : List ParamD) (x : NodeD) : NodeD := if ps.any (hitQ x) then ⟨2, x.num, x.name, x.kids⟩ else x
def inN (ps : List ParamD) (ins : List Int) (N : List NodeD) : List NodeD := N.mapIdx (fun i x => if ins.contains (i : Int) then inX ps x else x)
def argK (t m : Int) : Int := if t == 2 && m == 3 then 5 else if t == 2 && m == 4 then 6 else 2
def argN (l : List VarD) (q : ParamD) : NodeD := ⟨argK (yZ l q.name) q.ty, 0, q.name, []⟩
def YC (n : Nat) (k : Nat) : List Int := (List.range k).map (fun i => ((n + i : Nat) : Int))
def XP (s : ByteArray) (n k : Nat) : NodeD := ⟨12, 0, s, YC n k⟩
def xfDo (n : Nat) : NodeD := ⟨19, 0, ⟨#[]⟩, [(n : Int)]⟩
def XY (R : List Int) : NodeD := ⟨20, 0, ⟨#[]⟩, R⟩
def yp (p : ProgramD) (b : Int) (i j : Nat) : List Int := ((nAt p.nodes b).kids.take (j + 1)).drop i
def xfN (p : ProgramD) (l : List VarD) (ps : List ParamD) (ins R : List Int) (s : ByteArray) : List NodeD :=
 (((inN ps ins p.nodes ++ ps.map (argN l)) ++ [XP s p.nodes.length ps.length]) ++ [xfDo (p.nodes.length + ps.length)]) ++ [XY R]
def xfB (p : ProgramD) (b i j : Nat) (k : Int) : NodeD := ⟨(nAt p.nodes b).kind, (nAt p.nodes b).num, (nAt p.nodes b).name, (nAt p.nodes b).kids.take i ++ [k] ++ (nAt p.nodes b).kids.drop (j + 1)⟩
def xfF (p : ProgramD) (f : Nat) (ps : List ParamD) (s : ByteArray) : List FnD := p.fns.take f ++ [⟨s, ps, 0, ((p.nodes.length + ps.length + 2 : Nat) : Int), -1⟩] ++ p.fns.drop f
def xfP (p : ProgramD) (f b i j : Nat) (l : List VarD) (ps : List ParamD) (ins R : List Int) (s : ByteArray) : ProgramD :=
 ⟨(xfN p l ps ins R s).set b (xfB p b i j ((p.nodes.length + ps.length + 1 : Nat) : Int)), xfF p f ps s⟩
end Go.Proofs.YtjjigphfjclofaaGreatDoor.AW
