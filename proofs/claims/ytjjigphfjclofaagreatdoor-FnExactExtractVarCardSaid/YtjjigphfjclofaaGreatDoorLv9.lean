/- What the statements of this set lean on, part 9. No condition beyond those named. -/
import Derived.Test.YtjjigphfjclofaaGreatDoorLv8
namespace Go.Proofs.YtjjigphfjclofaaGreatDoor.AW
open Go.RowKit
open Nat (reduceAdd reduceMul)
set_option maxHeartbeats 8000000
set_option maxRecDepth 100000
set_option linter.unusedSimpArgs false
set_option linter.unusedVariables false
theorem zkY {p : ProgramD} {fn : Int} (hR : zZ p = true) (h0 : inI fn 0 (p.fns.length - 1) = true) : zba p fn = true := by
 have hr := zx h0
 obtain ⟨f, rfl⟩ : ∃ f : Nat, fn = f := ⟨fn.toNat, by omega⟩
 have h1 := (zbf hR).2 f (by omega)
 unfold zZ at hR
 unfold yX at h1
 unfold zba
 rw [(Bool.and_eq_true_iff.1 hR).1, h0, (Bool.and_eq_true_iff.1 h1).1]
 rfl
theorem zbY (p : ProgramD) (fn k : Int) (s : ByteArray) (hf : p.fns.length <= 1048576) (hn : p.nodes.length <= 1048576) (hk : ∀ x ∈ p.nodes, x.kids.length <= 1048576) (hpl : ∀ f ∈ p.fns, f.params.length <= 1048576) :
   zw Tryz.prog 23 [.ro (zd p), .ro (.sc (.int .i64 fn)), .ro (.sc (.int .i64 k)), .ro (.sc (.string s))] (fun rs st => rs = [(true, za false (exP p fn k s)), (false, [cI (yl p fn k s)])]) := by
 have htr := YD p hf hn hk hpl
 have hcp := zgd p hf hn hk hpl
 have hto := zcY p fn hf hn hk hpl
 have hnm := Yd s
 have hso := ziv p fn k hf hn hk
 simp only [zd, za] at htr hcp hso hto
 refine zm (fn := Tryz.f23) (c := Tryz.f23.body.getD .skip) (res := [.ce 8 36, .tm 9]) (n := 140) zg (by kernel_rfl) (by rfl) (by kernel_rfl) (by rfl) (by rfl) (by simp [zq]) (fun uf ub C hpin hpin2 hfull => ?_)
 simp only [Tryz.f23, Option.getD_some]
 refine Tri.step zg ?_
 simp +decide only [zu, zL, zd, za, hpin, go_sem, reduceAdd, reduceMul]
 refine Tri.ent ?_ (Ent.frb hfull 4)
 refine Tri.step zg ?_
 simp +decide only [zu, zL, zd, za, hpin, go_sem, reduceAdd, reduceMul]
 refine ze hcp hpin ?_
 simp +decide only [zu, zL, zd, za, hpin, go_sem, reduceAdd, reduceMul]
 refine Tri.step zg ?_
 simp +decide only [zu, zL, zd, za, hpin, go_sem, reduceAdd, reduceMul]
 refine ze hto hpin ?_
 simp +decide only [zu, zL, zd, za, hpin, go_sem, reduceAdd, reduceMul]
 refine Tri.ent ?_ (Ent.frz hfull 11)
 refine Tri.step zg ?_
 cases hg : zba p fn with
 | false =>
   have hRI : (zZ p && inI fn 0 (p.fns.length - 1)) = false := by
     cases hR : zZ p with
     | false => rfl
     | true =>
       cases h0 : inI fn 0 (p.fns.length - 1) with
       | false => rfl
       | true => rw [zkY hR h0] at hg; cases hg
   have e1 : exP p fn k s = p := by unfold exP; rw [hRI]; rfl
   have e2 : yl p fn k s = 1 := by unfold yl; rw [hRI]; rfl
   simp +decide only [zfu, e1, e2, zu, zL, zd, za, hpin, go_sem, reduceAdd, reduceMul]
 | true =>
 have hgl : zeS p fn = yd p fn := by unfold zeS; rw [hg]; rfl
 have h0 : inI fn 0 (p.fns.length - 1) = true := by unfold zba at hg; exact (Bool.and_eq_true_iff.1 (Bool.and_eq_true_iff.1 hg).2).1
 rw [hgl]
 simp +decide only [zfu, zu, zL, zd, za, hpin, go_sem, reduceAdd, reduceMul]
 refine ze htr hpin ?_
 cases hR : zZ p with
 | false =>
   have e1 : exP p fn k s = p := by unfold exP; rw [hR]; rfl
   have e2 : yl p fn k s = 1 := by unfold yl; rw [hR]; rfl
   simp +decide only [e1, e2, zu, zL, zd, za, hpin, go_sem, reduceAdd, reduceMul]
 | true =>
 have hr := zx h0
 have hG := yA (zbf hR).1
 have hD := hG.deep
 have hk3 : ∀ x ∈ p.nodes, x.kids.length <= 300 := fun x hx => by have := hD.few x hx; omega
 have hvl := ZH p fn hpl hn
 have hva := Xt (yd p fn) s (by omega)
 simp only [cI] at hva
 simp +decide only [zu, zL, zd, za, hpin, go_sem, reduceAdd, reduceMul]
 refine Tri.step zg ?_
 simp +decide only [zu, zL, zd, za, hpin, go_sem, reduceAdd, reduceMul]
 refine ze hnm hpin ?_
 cases hN : Yr s with
 | false =>
   have e1 : exP p fn k s = p := by unfold exP; rw [hR, h0, hN]; rfl
   have e2 : yl p fn k s = 2 := by unfold yl; rw [hR, h0, hN]; rfl
   simp +decide only [e1, e2, zu, zL, zd, za, hpin, go_sem, reduceAdd, reduceMul]
 | true =>
 simp +decide only [zu, zL, zd, za, hpin, go_sem, reduceAdd, reduceMul]
 refine ze hva hpin ?_
 by_cases hV : yC (yd p fn) s < 0
 case neg =>
   have hV2 : decide (yC (yd p fn) s < 0) = false := by simpa using hV
   have hV3 : (0 <= yC (yd p fn) s) = True := eq_true (by omega)
   have e1 : exP p fn k s = p := by unfold exP; rw [hR, h0, hN, hV2]; rfl
   have e2 : yl p fn k s = 2 := by unfold yl; rw [hR, h0, hN, hV2]; rfl
   simp +decide only [hV3, ge_iff_le, e1, e2, zu, zL, zd, za, hpin, go_sem, reduceAdd, reduceMul]
 have hV2 : decide (yC (yd p fn) s < 0) = true := by simpa using hV
 have hV3 : (0 <= yC (yd p fn) s) = False := eq_false (by omega)
 simp +decide only [hV3, ge_iff_le, zu, zL, zd, za, hpin, go_sem, reduceAdd, reduceMul]
 refine Tri.step zg ?_
 simp +decide only [zu, zL, zd, za, hpin, go_sem, reduceAdd, reduceMul]
 refine ze hso hpin ?_
 cases hS : ZJ p fn k with
 | none =>
   have e1 : exP p fn k s = p := by unfold exP; rw [hR, h0, hN, hV2, hS]; rfl
   have e2 : yl p fn k s = 3 := by unfold yl; rw [hR, h0, hN, hV2, hS]; rfl
   simp +decide only [rs3, out3, zu, zL, zd, za, hpin, go_sem, reduceAdd, reduceMul]
   refine Tri.step zg ?_
   rcases Ys p.nodes (-1 : Int).toNat with ⟨x, hxk⟩ | hxk
   all_goals simp +decide only [e1, e2, hxk, zh, zu, zL, zd, za, hpin, go_sem, reduceAdd, reduceMul]
 | some r =>
 obtain ⟨kn, b, i, t, rfl, rfl, hI⟩ := zlE hD hS
 have htl := hI.hsl
 have hkl := hI.hk
 have z0 : (0 <= (t : Int)) = True := eq_true (by omega)
 have zb : ((b : Int) < 0) = False := eq_false (by omega)
 have z1 : ((t : Int) < (p.nodes.length : Int)) = True := eq_true (by omega)
 have hxt : (rows (zh true) p.nodes).getD t [] = zh true p.nodes[t] := zj _ _ htl
 have hta : tyAt p (yd p fn) kn = yj p (yd p fn) kn := by
   unfold tyAt
   have h9 : inI (kn : Int) 0 (p.nodes.length - 1) = true := by simp [inI]; omega
   have h8 := hD.deep kn hkl
   have h7 : (zR p.nodes (kn : Int) == 0) = false := by simp [zR, h9, h8]
   rw [h7]; rfl
 have hty := ZY p hD (yd p fn) (by omega) hf hn hk3 kn hkl
 rw [<- hta] at hty
 simp only [zd, za, cI] at hty
 simp +decide only [rs3, out3, zu, zL, zd, za, hpin, go_sem, reduceAdd, reduceMul]
 refine Tri.step zg ?_
 simp +decide only [zb, zu, zL, zd, za, hpin, go_sem, reduceAdd, reduceMul]
 refine ze hty hpin ?_
 cases hT : tyAt p (yd p fn) kn == 1 with
 | false =>
   have hP : Zn p fn kn ((b : Int), (i : Int), (t : Int)) = false := by unfold Zn; rw [hT]; rfl
   have e1 : exP p fn kn s = p := by unfold exP; rw [hR, h0, hN, hV2, hS]; simp only [Bool.and_self, if_true, hP]; rfl
   have e2 : yl p fn kn s = 3 := by unfold yl; rw [hR, h0, hN, hV2, hS]; simp only [Bool.and_self, if_true, hP]; rfl
   simp +decide only [hT, z0, z1, htl, hxt, e1, e2, bne, zh, zu, zL, zd, za, hpin, go_sem, reduceAdd, reduceMul]
 | true =>
 cases hW : p.nodes[t].kind == 17 with
 | true =>
   have hP : Zn p fn kn ((b : Int), (i : Int), (t : Int)) = false := by unfold Zn; simp only; rw [hT, zH htl, hW]; rfl
   have e1 : exP p fn kn s = p := by unfold exP; rw [hR, h0, hN, hV2, hS]; simp only [Bool.and_self, if_true, hP]; rfl
   have e2 : yl p fn kn s = 3 := by unfold yl; rw [hR, h0, hN, hV2, hS]; simp only [Bool.and_self, if_true, hP]; rfl
   simp +decide only [hT, hW, z0, z1, htl, hxt, e1, e2, bne, zh, zu, zL, zd, za, hpin, go_sem, reduceAdd, reduceMul]
 | false =>
 have hP : Zn p fn kn ((b : Int), (i : Int), (t : Int)) = true := by unfold Zn; simp only; rw [hT, zH htl, hW]; rfl
 simp +decide only [hT, hW, z0, z1, htl, hxt, bne, zh, zu, zL, zd, za, hpin, go_sem, reduceAdd, reduceMul]
 obtain ⟨c, hct, hc0, hcc, hrc, hcall⟩ := zeT hD hI
 have hwy : zcD p (t : Int) = Zj p.nodes false c := by
   unfold zcD
   rw [zH htl, List.getD_eq_getElem?_getD, List.getElem?_eq_getElem hc0, Option.getD_some, hcc]
 have hqu := zhn p c hn hk
 simp only [zd, za, cB] at hqu
 have hkg : (row1 cI p.nodes[t].kids).getD (Int.toNat 0) [] = [.sc (.int .i64 c)] := by rw [show Int.toNat 0 = 0 from rfl, zr _ _ hc0, hcc]; rfl
 have ck : ((0 : Int) < (p.nodes[t].kids.length : Int)) = True := eq_true (by omega)
 have hno : zcD p (t : Int) = false -> exP p fn kn s = p /\ yl p fn kn s = 4 := fun hw => by
   refine ⟨?_, ?_⟩
   · unfold exP; rw [hR, h0, hN, hV2, hS]; simp only [Bool.and_self, if_true, hP, hw]; rfl
   · unfold yl; rw [hR, h0, hN, hV2, hS]; simp only [Bool.and_self, if_true, hP, hw]; rfl
 have hyes : zcD p (t : Int) = true -> exP p fn kn s = finP p (zeL p kn s ((b : Int), (i : Int), (t : Int))) /\ yl p fn kn s = zaT (zeL p kn s ((b : Int), (i : Int), (t : Int))) := fun hw => by
   refine ⟨?_, ?_⟩
   · unfold exP; rw [hR, h0, hN, hV2, hS]; simp only [Bool.and_self, if_true, hP, hw]
   · unfold yl; rw [hR, h0, hN, hV2, hS]; simp only [Bool.and_self, if_true, hP, hw]
 have hout : zeL p kn s ((b : Int), (i : Int), (t : Int)) = exPA p kn b i s := by simp only [zeL, Int.toNat_natCast]
 rw [hout] at hyes
 clear hout hP hty hva hto hso hnm htr
 refine Tri.seq (Tri.seq ?_)
 refine Tri.sched zg [(1, true), (3, true), (0, true), (2, false), (4, false), (5, false), (6, false), (7, false), (8, false), (9, false), (10, false)] zT (by kernel_rfl) (fun C2 hC2 => ?_)
 have hp2 := zU hC2 hpin
 simp +decide only [z0, z1, htl, hxt, hkg, ck, hc0, zh, zu, zL, zd, za, hp2, hpin, go_sem, reduceAdd, reduceMul]
 refine ze hqu hp2 ?_
 cases hq : Zj p.nodes false (c : Int) with
 | false =>
   obtain ⟨e1, e2⟩ := hno (by rw [hwy, hq])
   simp +decide only [zu, zL, zd, za, hp2, hpin, go_sem, reduceAdd, reduceMul]
   refine zf zg _ ?_
   simp +decide only [e1, e2, zu, zL, zd, za, hpin, go_sem, reduceAdd, reduceMul]
 | true =>
 obtain ⟨e1, e2⟩ := hyes (by rw [hwy, hq])
 simp +decide only [zu, zL, zd, za, hp2, hpin, go_sem, reduceAdd, reduceMul]
 refine zf zg _ ?_
 simp +decide only [zu, zL, zd, za, hpin, go_sem, reduceAdd, reduceMul]
 rw [e1, e2]
 refine Tri.ent (st' := ⟨140, [(2, vI kn), (3, vS s), (4, .ip (za true p) 0), (8, .bp 8 0), (10, .bp 10 0), (13, vI b), (14, vI i)], [(8, .box [.sc (.slice none 0 0), .sc (.slice none 0 0)]), (10, .box (za false p))]⟩) ?_ (Ent.weak ?_ ?_ ?_ ?_)
 rotate_left
 · simp +decide [ye, xU, subT, subB, zl, zk, zn, St.get, look, vI, vB, vS, cI, cS, cB, zh, fnC, zy, za, roI]
 · simp +decide [ye, xU, subT, subB, zl, zk, zn, St.get, look, vI, vB, vS, cI, cS, cB, zh, fnC, zy, za, roI]
 · simp +decide [ye, xU, subT, subB, zl, zk, zn, St.get, look, vI, vB, vS, cI, cS, cB, zh, fnC, zy, za, roI]
 · simp +decide [ye, xU, subT, subB, zl, zk, zn, St.get, look, vI, vB, vS, cI, cS, cB, zh, fnC, zy, za, roI]
 have hbl := hI.hb
 have hil := hI.hi
 have hfew := hG.few
 refine Tri.step zg ?_
 simp +decide only [vI, vS, zu, zL, zd, za, hpin, go_sem, reduceAdd, reduceMul]
 refine ze hcp hpin ?_
 simp +decide only [zu, zL, zd, za, hpin, go_sem, reduceAdd, reduceMul]
 rw [<- zbL p.nodes]
 have hsub := zlC (H := fun _ => none) hkl rfl (.row false 104 (rows (fnC false) p.fns))
 refine Tri.lift 2500 16 [(0, 0), (kn, 3)] rfl hsub (by simp) rfl (fun y hy => ?_)
 rw [zlK hkl]
 obtain ⟨v, y0⟩ := y
 have hp1 := Cx.repin_pin hpin (k := 2500) rfl (some (v, y0))
 have hf1 := Cx.repin_full hfull 2500 (some (v, y0))
 have hk1 := Cx.repin_self C 2500 (some (v, y0))
 generalize C.repin 2500 (some (v, y0)) = C1 at hp1 hf1 hk1 |-
 have hgq := zaa (upH (fun _ => none) kn v) hkl
 have hup : upH (fun _ => none) kn v kn = some v := by simp [upH]
 simp only [zbP, kidD, hup] at hgq
 have ckn : ((kn : Int) < (p.nodes.length : Int)) = True := eq_true (by omega)
 obtain ⟨⟨hb1, hb2⟩, ⟨hc1, hc2⟩, w2, w3⟩ := zqB hfew
 obtain ⟨q1, q2⟩ := zpr hG hI s
 have hfo : finP p (exPA p kn b i s) = (if zby (exPB p kn b i s) then Yp (exPB p kn b i s) else p) := by unfold finP; rw [q1, q2]
 have hco : zaT (exPA p kn b i s) = (if zby (exPB p kn b i s) then 0 else 1) := by unfold zaT; rw [q2]
 rw [hfo, hco]
 obtain ⟨M1, M2, M3, hM⟩ := exM hG hI s v
 have hkf := hD.few p.nodes[kn] (List.getElem_mem hkl)
 have hbf := hD.few p.nodes[b] (List.getElem_mem hbl)
 have hp19 := zdO (exPB p kn b i s) hf (by simp only [exPB]; rw [zfm]; omega) (fun x hx => Nat.le_trans (hM.few x hx) (by decide)) hpl
 rw [hM.out] at hp19 |-
 have g1 := hM.e1 hkl
 have g2 := hM.e2
 have g3 := hM.e3
 have l1 := hM.l1
 have l2 := hM.l2
 have l3 := hM.l3
 have hk3 : kn < M3.length := by omega
 have hn3 : p.nodes.length < M3.length := by omega
 have hb3 : b < M3.length := by omega
 have n0 := hM.n0 hkl hn3
 have nk := hM.nk hk3
 have nb := hM.nb hbl hb3
 have hin := zdP M3[b].kids i ((p.nodes.length + 1 : Nat) : Int) (by rw [nb]; omega) (by rw [nb]; omega)
 have hexi : YA M3 b i (p.nodes.length + 1) = M3.set b ⟨M3[b].kind, M3[b].num, M3[b].name, M3[b].kids.take i ++ [((p.nodes.length + 1 : Nat) : Int)] ++ M3[b].kids.drop i⟩ := by
   unfold YA
   rw [zH hb3]
   rfl
 have hst := zdC hb3 (M3[b].kids.take i ++ [((p.nodes.length + 1 : Nat) : Int)] ++ M3[b].kids.drop i)
 rw [<- hexi] at hst
 have hgb := zaE (zh false) M3 hb3
 have cb3 : ((b : Int) < (M3.length : Int)) = True := eq_true (by omega)
 have ckm : ((kn : Int) < (M2.length : Int)) = True := eq_true (by omega)
 have hkm : kn < M2.length := by omega
 have hne : p.nodes.length ≠ kn := by omega
 clear hM hfo hco q1 q2 hexi
 refine Tri.stop zg ⟨140, [(2, vI kn), (3, vS s), (8, .bp 8 0), (10, .bp 10 0), (13, vI b), (14, vI i), (16, .bp 16 0)], [(16, .box [.row false 83 (yi (upH (fun _ => none) kn v) p.nodes ++ [[.sc (.int .i64 p.nodes[kn].kind), .sc (.int .i64 p.nodes[kn].num), .sc (.string p.nodes[kn].name), .sc v]]), .row false 104 (rows (fnC false) p.fns)]), (2500, .row 3 (row1 cI p.nodes[kn].kids)), (8, .box [.sc (.slice none 0 0), .sc (.slice none 0 0)]), (10, .box (za false p))]⟩ ?_ ?_
 · refine Tri.fork zg (.one 0 true (.one 2 true (.one 4 true (.two 1 (.one 3 false (.one 5 false (.one 6 false (.one 7 false (.one 8 false (.one 9 false (.one 10 false .done))))))) 3 (.one 5 true (.two 1 (.one 6 false (.one 7 false (.one 8 false (.one 9 false (.one 10 false .done))))) 6 (.two 1 (.one 7 false (.one 8 false (.one 9 false (.one 10 false .done)))) 7 (.one 1 false (.one 8 false (.one 9 false (.one 10 false .done))))))))))) zT (by kernel_rfl) (fun C2 hC2 => ?_)
   have hp2 := zU hC2 hp1
   simp +decide only [ckn, hkl, hgq, hb1, hb2, Int.natCast_nonneg, zu, zL, zd, za, hp2, hp1, go_sem, reduceAdd, reduceMul]
   and_intros
   all_goals
     refine Ent.weak ?_ ?_ ?_ ?_
   all_goals simp +decide [ye, xU, subT, subB, zl, zk, zn, St.get, look, vI, vB, vS, cI, cS, cB, zh, fnC, zy, za, roI, zbL]
 rw [g1]
 clear g1
 refine Tri.step zg ?_
 simp +decide only [l1, l2, hc1, hc2, w2, g2, vI, vS, zu, zL, zd, za, hp1, go_sem, reduceAdd, reduceMul]
 have hg4 : ∃ a1 a2 a3 a4, (yi (upH (upH (fun _ => none) kn v) p.nodes.length v) M2).getD kn [] = [a1, a2, a3, a4] := by
   rw [List.getD_eq_getElem?_getD, zaa _ hkm]
   exact ⟨_, _, _, _, rfl⟩
 have hR2l : (yi (upH (upH (fun _ => none) kn v) p.nodes.length v) M2).length = p.nodes.length + 2 := by rw [zu, l2]
 generalize yi (upH (upH (fun _ => none) kn v) p.nodes.length v) M2 = R2 at g3 hg4 hR2l |-
 obtain ⟨a1, a2, a3, a4, hg4⟩ := hg4
 have hkR : kn < R2.length := by rw [hR2l, <- l2]; exact hkm
 have ckR : ((kn : Int) < (R2.length : Int)) = True := eq_true (by exact_mod_cast hkR)
 have g4 : R2.set kn (((((R2.getD kn []).set 0 (D.sc (.int .i64 2))).set 1 (.sc (.int .i64 0))).set 2 (.sc (.string s))).set 3 (.sc (.slice none 0 0))) = yi (upH (upH (fun _ => none) p.nodes.length v) kn (.slice none 0 0)) M3 := by
   rw [hg4]; exact g3
 refine Tri.step zg ?_
 simp +decide only [ckR, hkR, g3, g4, Int.natCast_nonneg, zu, zL, zd, za, hp1, go_sem, reduceAdd, reduceMul]
 have hk0 : upH (fun _ => (none : Option Value)) p.nodes.length v kn = none := by unfold upH; rw [if_neg (fun e => hne e.symm)]
 have s1 := zjH (upH (fun _ => none) p.nodes.length v) hk3 (.slice none 0 0) (.row false 104 (rows (fnC false) p.fns))
 have s2 := zlS (upH (fun _ => none) p.nodes.length v) hk3 hk0 (.slice none 0 0) nk (.row false 104 (rows (fnC false) p.fns))
 have s3 := zjH (fun _ => none) hn3 v (.row false 104 (rows (fnC false) p.fns))
 have s4 := zno (fun _ => none) hn3 rfl v (.row false 104 (rows (fnC false) p.fns))
 rw [n0, zbL] at s4
 refine Tri.ent (st' := ⟨140, [(8, .bp 8 0), (10, .bp 10 0), (13, vI b), (14, vI i), (16, .bp 16 0)], [(16, .box [.row false 83 (yi (upH (upH (fun _ => none) p.nodes.length v) kn (.slice none 0 0)) M3), .row false 104 (rows (fnC false) p.fns)]), (2500, .row 3 (row1 cI p.nodes[kn].kids)), (8, .box [.sc (.slice none 0 0), .sc (.slice none 0 0)]), (10, .box (za false p))]⟩) ?_ (Ent.weak ?_ ?_ ?_ ?_)
 rotate_left
 · simp +decide [ye, xU, subT, subB, zl, zk, zn, St.get, look, vI, vB, vS, cI, cS, cB, zh, fnC, zy, za, roI]
 · simp +decide [ye, xU, subT, subB, zl, zk, zn, St.get, look, vI, vB, vS, cI, cS, cB, zh, fnC, zy, za, roI]
 · simp +decide [ye, xU, subT, subB, zl, zk, zn, St.get, look, vI, vB, vS, cI, cS, cB, zh, fnC, zy, za, roI]
 · simp +decide [ye, xU, subT, subB, zl, zk, zn, St.get, look, vI, vB, vS, cI, cS, cB, zh, fnC, zy, za, roI]
 refine Tri.ent (st' := ⟨140, [(8, .bp 8 0), (10, .bp 10 0), (13, vI b), (14, vI i), (16, .bp 16 0)], [(16, .box [.row false 83 (yi (upH (fun _ => none) p.nodes.length v) M3), .row false 104 (rows (fnC false) p.fns)]), (2500, .row 3 (row1 cI p.nodes[kn].kids)), (8, .box [.sc (.slice none 0 0), .sc (.slice none 0 0)]), (10, .box (za false p))]⟩) ?_ (by
   have h := Ent.nilS (P := Tryz.prog) (C := C1) (st := ⟨140, [(8, .bp 8 0), (10, .bp 10 0), (13, vI b), (14, vI i), (16, .bp 16 0)], [(16, .box [.row false 83 (yi (upH (upH (fun _ => none) p.nodes.length v) kn (.slice none 0 0)) M3), .row false 104 (rows (fnC false) p.fns)]), (2500, .row 3 (row1 cI p.nodes[kn].kids)), (8, .box [.sc (.slice none 0 0), .sc (.slice none 0 0)]), (10, .box (za false p))]⟩) 16 [(0, 0), (kn, 3)] 3 (by simp)
   rw [St.nilS_eq rfl s1, s2] at h
   exact h)
 refine Tri.ent (st' := ⟨140, [(8, .bp 8 0), (10, .bp 10 0), (13, vI b), (14, vI i), (16, .bp 16 0)], [(16, .box [.row false 83 (rows (zh false) M3), .row false 104 (rows (fnC false) p.fns)]), (8, .box [.sc (.slice none 0 0), .sc (.slice none 0 0)]), (10, .box (za false p))]⟩) ?_ (by
   have h := Ent.back (P := Tryz.prog) (C := C1) (st := ⟨140, [(8, .bp 8 0), (10, .bp 10 0), (13, vI b), (14, vI i), (16, .bp 16 0)], [(16, .box [.row false 83 (yi (upH (fun _ => none) p.nodes.length v) M3), .row false 104 (rows (fnC false) p.fns)]), (2500, .row 3 (row1 cI p.nodes[kn].kids)), (8, .box [.sc (.slice none 0 0), .sc (.slice none 0 0)]), (10, .box (za false p))]⟩) (v := v) (k := 2500) (o := 16) (p := [(0, 0), (p.nodes.length, 3)]) hk1 (by decide) (by simp)
   rw [St.back_eq rfl rfl s3, s4] at h
   exact h)
 clear s1 s2 s3 s4 hk0 g4 g3 g2 hg4 hR2l hkR ckR hsub hgq hup n0 nk
 have cb4 : ((b : Int) < ((p.nodes.length + 2 : Nat) : Int)) = True := by rw [<- l3]; exact cb3
 have hb4 : b < p.nodes.length + 2 := by rw [<- l3]; exact hb3
 have hnl : ((p.nodes.length : Int) + 1) = ((p.nodes.length + 1 : Nat) : Int) := rfl
 rw [hnl] at hst hp19 |-
 generalize YA M3 b i ((p.nodes.length + 1 : Nat) : Int) = T2 at hst hp19 |-
 generalize M3[b] = y at hgb hin hst
 simp only [zh, cI, cS] at hgb
 simp only [zd, za, roI, cI] at hp19 hin
 refine Tri.stop zg ⟨140, [(8, .bp 8 0), (10, .bp 10 0), (16, .bp 16 0)], [(16, .box [.row false 83 (rows (zh false) T2), .row false 104 (rows (fnC false) p.fns)]), (8, .box [.sc (.slice none 0 0), .sc (.slice none 0 0)]), (10, .box (za false p))]⟩ ?_ ?_
 · refine Tri.fork zg (.one 0 true (.one 2 true (.one 3 true (.one 5 true (.one 9 true (.one 10 true (.three 1 (.two 4 (.one 6 true (.one 7 true (.two 8 (.one 11 false (.one 12 false (.one 13 false (.one 14 false (.one 15 false (.one 16 false (.one 17 false .done))))))) 11 (.one 12 true (.one 13 true (.one 8 false (.one 14 false (.one 15 false (.one 16 false (.one 17 false .done)))))))))) 11 (.one 12 true (.one 13 true (.one 4 false (.one 6 false (.one 7 false (.one 8 false (.one 14 false (.one 15 false (.one 16 false (.one 17 false .done))))))))))) 4 (.one 6 true (.one 7 true (.three 1 (.two 8 (.one 11 false (.one 12 false (.one 13 false (.one 14 false (.one 15 false (.one 16 false (.one 17 false .done))))))) 11 (.one 12 true (.one 13 true (.one 8 false (.one 14 false (.one 15 false (.one 16 false (.one 17 false .done)))))))) 8 (.two 1 (.one 11 false (.one 12 false (.one 13 false (.one 14 false (.one 15 false (.one 16 false (.one 17 false .done))))))) 11 (.one 12 true (.one 13 true (.two 1 (.one 14 false (.one 15 false (.one 16 false (.one 17 false .done)))) 14 (.one 1 false (.one 15 false (.one 16 false (.one 17 false .done)))))))) 11 (.one 12 true (.one 13 true (.two 1 (.one 8 false (.one 14 false (.one 15 false (.one 16 false (.one 17 false .done))))) 8 (.two 1 (.one 14 false (.one 15 false (.one 16 false (.one 17 false .done)))) 14 (.one 1 false (.one 15 false (.one 16 false (.one 17 false .done))))))))))) 11 (.one 12 true (.one 13 true (.two 1 (.one 4 false (.one 6 false (.one 7 false (.one 8 false (.one 14 false (.one 15 false (.one 16 false (.one 17 false .done)))))))) 4 (.one 6 true (.one 7 true (.two 1 (.one 8 false (.one 14 false (.one 15 false (.one 16 false (.one 17 false .done))))) 8 (.two 1 (.one 14 false (.one 15 false (.one 16 false (.one 17 false .done)))) 14 (.one 1 false (.one 15 false (.one 16 false (.one 17 false .done)))))))))))))))))) zT (by kernel_rfl) (fun C2 hC2 => ?_)
   have hp2 := zU hC2 hp1
   simp +decide only [hgb, cb3, hb3, cb4, hb4, l3, w3, vI, Int.natCast_nonneg, zu, zL, zd, za, hp2, hp1, go_sem, reduceAdd, reduceMul]
   have hst2 := hst
   unfold zN at hst2
   have hsy : shLL (row1 cI y.kids) = row1 cI y.kids := xy _
   have hty : List.take y.kids.length (row1 cI y.kids) = row1 cI y.kids := yK cI y.kids
   and_intros
   all_goals
     refine ze hin hp2 ?_
     simp +decide only [hsy, hty, hst, hst2, hgb, cb3, hb3, cb4, hb4, Int.natCast_nonneg, shLL, zu, zL, zd, za, hp2, hp1, go_sem, reduceAdd, reduceMul]
     refine Ent.weak ?_ ?_ ?_ ?_
   all_goals simp +decide [ye, xU, subT, subB, zl, zk, zn, St.get, look, vI, vB, vS, cI, cS, cB, zh, fnC, zy, za, roI, hst, hst2]
 refine Tri.ent ?_ (Ent.frb hf1 16)
 refine Tri.step zg ?_
 simp +decide only [zhD, zmD, za, zu, zL, zd, za, hp1, go_sem, reduceAdd, reduceMul]
 refine ze hp19 hp1 ?_
 simp +decide only [zu, zL, zd, za, hp1, go_sem, reduceAdd, reduceMul]
 refine Tri.step zg ?_
 generalize (⟨T2, p.fns⟩ : ProgramD) = O at hp19 |-
 cases hO : zby O with
 | false =>
   simp +decide only [za, zu, zL, zd, za, hp1, go_sem, reduceAdd, reduceMul]
 | true =>
   simp +decide only [za, zu, zL, zd, za, hp1, go_sem, reduceAdd, reduceMul]
   refine zf zg _ ?_
   simp +decide only [za, zu, zL, zd, za, hp1, go_sem, reduceAdd, reduceMul]
theorem zps (p : ProgramD) (fn k : Int) (s : ByteArray) (h : zG p <= 1048576) : zG (exP p fn k s) <= 1048576 := by
 unfold exP
 split
 · split
   · split
     · exact h
     · split
       · split
         · exact znS p _ h
         · exact h
       · exact h
   · exact h
 · exact h
end Go.Proofs.YtjjigphfjclofaaGreatDoor.AW
