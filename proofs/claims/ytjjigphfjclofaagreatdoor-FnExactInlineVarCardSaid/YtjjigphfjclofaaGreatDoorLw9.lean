/- What the statements of this set lean on, part 9. No condition beyond those named. -/
import Derived.Test.YtjjigphfjclofaaGreatDoorLw8
namespace Go.Proofs.YtjjigphfjclofaaGreatDoor.AW
open Go.RowKit
open Nat (reduceAdd reduceMul)
set_option maxHeartbeats 8000000
set_option maxRecDepth 100000
set_option linter.unusedSimpArgs false
set_option linter.unusedVariables false
theorem zpf {p : ProgramD} {f t v : Nat} {s : ByteArray} (h : LetIs p f s t v) {U : List Int} (hU : ∀ x ∈ U, 0 <= x /\ x.toNat < p.nodes.length /\ xj (nAt p.nodes x).kind = true /\ (nAt p.nodes x).name = s) : Ye (ivPA p U v t) = Ye (ivPB p U v t) /\ zbt (ivPA p U v t) = zbt (ivPB p U v t) := by
 have e := znE h hU
 have e1 : XZ (ivPA p U v t) = XZ (ivPB p U v t) := by unfold XZ; rw [e]
 have e2 : Ye (ivPA p U v t) = Ye (ivPB p U v t) := by unfold Ye; rw [e1, e]
 exact ⟨e2, by unfold zbt; rw [e1, e2]⟩
theorem znF (y : NodeD) (N : List NodeD) {U : List Int} {j : Nat} (h : j < U.length) : ivS (U.take (j + 1)) y N = (ivS (U.take j) y N).set (U[j]).toNat y := by
 unfold ivS
 rw [List.take_succ_eq_append_getElem h, List.foldl_append]; rfl
theorem ziN {B : Nat} {y : NodeD} (hy : y.kids.length <= B) : ∀ (U : List Int) (N : List NodeD), (∀ x ∈ N, x.kids.length <= B) -> ∀ x ∈ ivS U y N, x.kids.length <= B
 | [], N, h => h
 | u :: r, N, h => by
   refine ziN hy r (N.set u.toNat y) (fun x hx => ?_)
   rcases List.mem_or_eq_of_mem_set hx with hx | rfl
   · exact h x hx
   · exact hy
theorem zkR {p : ProgramD} (hG : Right p) (U : List Int) {v : Nat} (hv : v < p.nodes.length) (t : Int) : (ivPB p U v t).nodes.length <= 1048576 /\ ∀ x ∈ (ivPB p U v t).nodes, x.kids.length <= 1048576 := by
 have h1 := hG.few
 have h3 := hG.deep.few
 refine ⟨by simp only [ivPB, List.length_map]; rw [ZJ]; omega, fun x hx => ?_⟩
 simp only [ivPB] at hx
 obtain ⟨y, hy, rfl⟩ := List.mem_map.1 hx
 have := ziN (y := nAt p.nodes (v : Int)) (by rw [zF hv]; exact h3 _ (List.getElem_mem hv)) U p.nodes h3 y hy
 unfold cutY
 split
 · have := List.length_filter_le (fun q => q != t) y.kids
   simp only
   omega
 · omega
def offT (t : Int) (l : List Int) : List Int := l.filter (fun q => q != t)
theorem zlY (t : Int) : offT t [] = [] := rfl
theorem ziA (t : Int) (l : List Int) : (offT t l).length <= l.length := List.length_filter_le _ _
theorem ziZ (t : Int) {l : List Int} {n : Nat} (h : n < l.length) : offT t (l.take (n + 1)) = offT t (l.take n) ++ (if l[n] != t then [l[n]] else []) := by
 unfold offT
 rw [List.take_succ_eq_append_getElem h, List.filter_append]
 cases hu : l[n] != t with
 | true => simp [hu]
 | false => simp [hu]
def zfO (p : ProgramD) (T : ByteArray -> Bool) (x : Int) : Bool := !decide ((nAt p.nodes x).name = ⟨#[]⟩) && T (nAt p.nodes x).name
theorem zcu (p : ProgramD) (fn : Int) (s : ByteArray) (hf : p.fns.length <= 1048576) (hn : p.nodes.length <= 1048576) (hk : ∀ x ∈ p.nodes, x.kids.length <= 1048576) (hpl : ∀ f ∈ p.fns, f.params.length <= 1048576) :
   zu Tryz.prog 26 [.ro (zb p), .ro (.sc (.int .i64 fn)), .ro (.sc (.string s))] (fun rs st => rs = [(true, za false (ivP p fn s)), (false, [cI (xp p fn s)])]) := by
 have htr := Yq p hf hn hk hpl
 have hcp := zfY p hf hn hk hpl
 have hto := zcT p fn hf hn hk hpl
 simp only [zb, za] at htr hcp hto
 refine zm (fn := Tryz.f26) (c := Tryz.f26.body.getD .skip) (res := [.ce 6 36, .tm 7]) (n := 215) zf (by kernel_rfl) (by rfl) (by kernel_rfl) (by rfl) (by rfl) (by simp [zp]) (fun uf ub C hpin hpin2 hfull => ?_)
 simp only [Tryz.f26, Option.getD_some]
 refine Tri.step zf ?_
 simp +decide only [zt, zb, za, hpin, go_sem, reduceAdd, reduceMul]
 refine Tri.ent ?_ (Ent.frb hfull 3)
 refine Tri.step zf ?_
 simp +decide only [zt, zb, za, hpin, go_sem, reduceAdd, reduceMul]
 refine zd hcp hpin ?_
 simp +decide only [zt, zb, za, hpin, go_sem, reduceAdd, reduceMul]
 refine Tri.step zf ?_
 simp +decide only [zt, zb, za, hpin, go_sem, reduceAdd, reduceMul]
 refine zd hto hpin ?_
 simp +decide only [zt, zb, za, hpin, go_sem, reduceAdd, reduceMul]
 refine Tri.ent ?_ (Ent.frz hfull 9)
 refine Tri.step zf ?_
 cases hg : zaM p fn with
 | false =>
   have hRI : (zW p && inI fn 0 (p.fns.length - 1)) = false := by
     cases hR : zW p with
     | false => rfl
     | true =>
       cases h0 : inI fn 0 (p.fns.length - 1) with
       | false => rfl
       | true => rw [zkV hR h0] at hg; cases hg
   have e1 : ivP p fn s = p := by unfold ivP; rw [hRI]; rfl
   have e2 : xp p fn s = 1 := by unfold xp; rw [hRI]; rfl
   simp +decide only [zfr, e1, e2, zt, zb, za, hpin, go_sem, reduceAdd, reduceMul]
 | true =>
 have hgl : zeS p fn = zL p fn := by unfold zeS; rw [hg]; rfl
 have h0 : inI fn 0 (p.fns.length - 1) = true := by unfold zaM at hg; exact (Bool.and_eq_true_iff.1 (Bool.and_eq_true_iff.1 hg).2).1
 rw [hgl]
 simp +decide only [zfr, zt, zb, za, hpin, go_sem, reduceAdd, reduceMul]
 refine zd htr hpin ?_
 cases hR : zW p with
 | false =>
   have e1 : ivP p fn s = p := by unfold ivP; rw [hR]; rfl
   have e2 : xp p fn s = 1 := by unfold xp; rw [hR]; rfl
   simp +decide only [e1, e2, zt, zb, za, hpin, go_sem, reduceAdd, reduceMul]
 | true =>
 have hr := zx h0
 obtain ⟨f, rfl⟩ : ∃ f : Nat, fn = f := ⟨fn.toNat, by omega⟩
 have hfl : f < p.fns.length := by omega
 have hG := yh (Xs hR).1
 have hD := hG.deep
 have hvl := Zz p f hpl hn
 have hva := Xj (zL p f) s (by omega)
 simp only [cI] at hva
 simp +decide only [zt, zb, za, hpin, go_sem, reduceAdd, reduceMul]
 refine Tri.step zf ?_
 simp +decide only [zt, zb, za, hpin, go_sem, reduceAdd, reduceMul]
 refine zd hva hpin ?_
 simp +decide only [zt, zb, za, hpin, go_sem, reduceAdd, reduceMul]
 refine Tri.step zf ?_
 have hno : ivNm p f s = false -> ivP p f s = p /\ xp p f s = 2 := fun hw => by
   refine ⟨?_, ?_⟩
   · unfold ivP; rw [hR, h0, hw]; rfl
   · unfold xp; rw [hR, h0, hw]; rfl
 by_cases hV : 0 <= yp (zL p f) s
 case neg =>
   have hV3 : (yp (zL p f) s < 0) = True := eq_true (by omega)
   obtain ⟨e1, e2⟩ := hno (by unfold ivNm; rw [decide_eq_false hV]; rfl)
   rcases zjm (zL p f) (yp (zL p f) s).toNat with ⟨x, hxk⟩ | hxk
   all_goals simp +decide only [hV3, hxk, varC, e1, e2, zt, zb, za, hpin, go_sem, reduceAdd, reduceMul]
 obtain ⟨i, hi⟩ : ∃ i : Nat, yp (zL p f) s = i := ⟨(yp (zL p f) s).toNat, by omega⟩
 obtain ⟨hil, _⟩ := zfs hi
 have hX : ivX p f s = (zL p f)[i] := by unfold ivX; rw [hi, Int.toNat_natCast, List.getD_eq_getElem?_getD, List.getElem?_eq_getElem hil]; rfl
 have hlet := fun h => zoq hR hfl hi h
 have hXg : (zL p f).getD i vr0 = (zL p f)[i] := by rw [List.getD_eq_getElem?_getD, List.getElem?_eq_getElem hil]; rfl
 rw [hXg] at hlet
 have hNm : ivNm p f s = (decide (0 <= ((zL p f)[i]).node) && ((zL p f)[i]).ty == 1) := by unfold ivNm; rw [decide_eq_true hV, hX]; rfl
 rw [hNm] at hno
 have hxv : (rows (varC true) (zL p f)).getD i [] = varC true (zL p f)[i] := zh _ _ hil
 have c0 : ((i : Int) < 0) = False := eq_false (by omega)
 have c1 : ((i : Int) < ((zL p f).length : Int)) = True := eq_true (by omega)
 rw [hi]
 generalize (zL p f)[i] = x at hX hlet hNm hno hxv
 by_cases hz : 0 <= x.node
 case neg =>
   have hz3 : (x.node < 0) = True := eq_true (by omega)
   obtain ⟨e1, e2⟩ := hno (by rw [decide_eq_false hz]; rfl)
   simp +decide only [c0, c1, hil, hxv, varC, hz3, e1, e2, Int.natCast_nonneg, zt, zb, za, hpin, go_sem, reduceAdd, reduceMul]
 have hz3 : (x.node < 0) = False := eq_false (by omega)
 cases hty : x.ty == 1 with
 | false =>
   obtain ⟨e1, e2⟩ := hno (by rw [hty, Bool.and_false])
   simp +decide only [c0, c1, hil, hxv, varC, hz3, hty, e1, e2, bne, Int.natCast_nonneg, zt, zb, za, hpin, go_sem, reduceAdd, reduceMul]
 | true =>
 rw [decide_eq_true hz, hty] at hNm
 obtain ⟨t, v, hnt, hL⟩ := hlet hz
 have hvE : ziK p f s = v := by unfold ziK; rw [hX, hnt, zF hL.ht, hL.kids]; rfl
 have htE : (ivX p f s).node = t := by rw [hX, hnt]
 have hout : zkT p f s = ivPA p (xA p f s) v t := by unfold zkT; rw [hvE, htE]
 have hWy : zeG p f s = (Zf p.nodes true v && !ziM p f s v) := by unfold zeG; rw [hvE]
 have hno4 : zeG p f s = false -> ivP p f s = p /\ xp p f s = 4 := fun hw => by
   refine ⟨?_, ?_⟩
   · unfold ivP; rw [hR, h0, hNm, hw]; rfl
   · unfold xp; rw [hR, h0, hNm, hw]; rfl
 obtain ⟨q1, q2⟩ := zpf hL (U := xA p f s) (fun x hx => zcQ hx)
 have hyes : zeG p f s = true -> ivP p f s = (if zbt (ivPB p (xA p f s) v t) then Ye (ivPB p (xA p f s) v t) else p) /\ xp p f s = (if zbt (ivPB p (xA p f s) v t) then 0 else 1) := fun hw => by
   rw [<- q1, <- q2, <- hout]
   refine ⟨?_, ?_⟩
   · unfold ivP; rw [hR, h0, hNm, hw]; rfl
   · unfold xp; rw [hR, h0, hNm, hw]; rfl
 rw [hWy] at hno4 hyes
 have htl := hL.ht
 have hvl2 : v < p.nodes.length := by have := hL.hv; omega
 have ct : ((t : Int) < (p.nodes.length : Int)) = True := eq_true (by omega)
 have cv : ((v : Int) < (p.nodes.length : Int)) = True := eq_true (by omega)
 have hxt : (rows (zg true) p.nodes).getD t [] = zg true p.nodes[t] := zh _ _ htl
 have hxv2 : (rows (zg true) p.nodes).getD v [] = zg true p.nodes[v] := zh _ _ hvl2
 have hkl : p.nodes[t].kids.length = 1 := by rw [hL.kids]; rfl
 have hkg : (row1 cI p.nodes[t].kids).getD (Int.toNat 0) [] = [.sc (.int .i64 v)] := by rw [hL.kids]; rfl
 have hkg2 : (row1 cI p.nodes[t].kids).getD 0 [] = [.sc (.int .i64 v)] := by rw [hL.kids]; rfl
 simp +decide only [c0, c1, hil, hxv, varC, hz3, hty, bne, Int.natCast_nonneg, zt, zb, za, hpin, go_sem, reduceAdd, reduceMul]
 refine Tri.step zf ?_
 simp +decide only [c0, c1, hil, hxv, hnt, varC, Int.natCast_nonneg, zt, zb, za, hpin, go_sem, reduceAdd, reduceMul]
 refine Tri.step zf ?_
 simp +decide only [ct, htl, hxt, hkl, hkg, hkg2, zg, Int.natCast_nonneg, zt, zb, za, hpin, go_sem, reduceAdd, reduceMul]
 clear hva hto hlet hno hNm hxv hXg hWy q1 q2 hout
 have hst := zgK p v hn hk
 have hls := fun s => zhw p f s hf hn hk
 simp only [zb, cB] at hst hls
 refine Tri.step zf ?_
 simp +decide only [zt, zb, za, hpin, go_sem, reduceAdd, reduceMul]
 refine zd hst hpin ?_
 cases hq : Zf p.nodes true (v : Int) with
 | false =>
   obtain ⟨e1, e2⟩ := hno4 (by rw [hq]; rfl)
   simp +decide only [e1, e2, zt, zb, za, hpin, go_sem, reduceAdd, reduceMul]
 | true =>
 rw [hq, Bool.true_and] at hno4 hyes
 simp +decide only [zt, zb, za, hpin, go_sem, reduceAdd, reduceMul]
 refine zd (hls s) hpin ?_
 have hun := Yf p v hn hk
 have hul := yu p.nodes (v : Int)
 have hum : ∀ b (hb : b < (zI p.nodes (v : Int)).length), 0 <= (zI p.nodes (v : Int))[b] /\ (zI p.nodes (v : Int))[b].toNat < p.nodes.length := fun b hb => by
   have := yF (List.getElem_mem hb)
   exact ⟨this.1, this.2.1⟩
 have hSn : ziM p f s v = (setP p f s || (zI p.nodes v).any (zfO p (setP p f))) := rfl
 have hT : ∀ x : Int, zfO p (setP p f) x = (!decide ((nAt p.nodes x).name = ⟨#[]⟩) && setP p f (nAt p.nodes x).name) := fun _ => rfl
 simp only [zb] at hun
 generalize zI p.nodes (v : Int) = U at hun hul hum hSn
 rw [hSn] at hno4 hyes
 clear hSn
 generalize hQ : zfO p (setP p f) = Q at hno4 hyes hT
 clear hQ
 cases hs1 : setP p f s with
 | true =>
   obtain ⟨e1, e2⟩ := hno4 (by rw [hs1]; rfl)
   simp +decide only [e1, e2, zt, zb, za, hpin, go_sem, reduceAdd, reduceMul]
 | false =>
 rw [hs1, Bool.false_or] at hno4 hyes
 simp +decide only [zt, zb, za, hpin, go_sem, reduceAdd, reduceMul]
 refine Tri.step zf ?_
 simp +decide only [zt, zb, za, hpin, go_sem, reduceAdd, reduceMul]
 refine zd hun hpin ?_
 simp +decide only [zt, zb, za, hpin, go_sem, reduceAdd, reduceMul]
 refine Tri.ent ?_ (Ent.frz hfull 14)
 have hsh : shLL (row1 cI U) = row1 cI U := yR U
 refine Tri.step zf ?_
 simp +decide only [hsh, zt, zb, za, hpin, go_sem, reduceAdd, reduceMul]
 refine Tri.loop (ι := Nat) (fun i => i <= U.length /\ (U.take i).any Q = false) (fun i => ⟨215, [(1, vI f), (2, vS s), (3, .ip (za true p) 0), (6, .bp 6 0), (8, .bp 8 0), (12, vI t), (13, vI v), (14, roI U), (15, vI i)], [(6, .box [.sc (.slice none 0 0), .sc (.slice none 0 0)]), (8, .box (za false p))]⟩) (fun i => U.length - i) 0 (by simp) ?_ ?_
 · refine Ent.weak ?_ ?_ ?_ ?_ <;> simp +decide [zR, yA, subT, subB, zk, zj, zl, St.get, look, vI, vB, vS, cI, cS, cB, zg, fnC, zr, za, roI]
 rintro i ⟨hi, hal⟩
 refine ze zf _ ?_
 by_cases h' : i < U.length
 · have e : ((i : Int) < (U.length : Int)) = True := by simp [h']
   obtain ⟨k0, k1⟩ := hum i h'
   obtain ⟨k, hke⟩ : ∃ k : Nat, U[i] = k := ⟨U[i].toNat, by omega⟩
   rw [hke, Int.toNat_natCast] at k1
   have ck : ((k : Int) < (p.nodes.length : Int)) = True := eq_true (by omega)
   have hxk : (rows (zg true) p.nodes).getD k [] = zg true p.nodes[k] := zh _ _ k1
   have hgi : (row1 cI U).getD i [] = [.sc (.int .i64 k)] := by rw [zq _ _ h', hke]; rfl
   have hQk := hT (k : Int)
   rw [zF k1] at hQk
   have hany : (U.take (i + 1)).any Q = Q (k : Int) := by
     rw [List.take_succ_eq_append_getElem h', List.any_append, hal, hke]; simp
   simp +decide only [e, vB, vI, vS, zt, zb, za, hpin, go_sem, reduceAdd, reduceMul]
   refine Tri.sched zf [(0, true), (2, true), (3, true), (4, true), (1, true), (5, false), (6, false), (7, false), (8, false), (9, false), (10, false), (12, true), (13, true), (15, true), (16, true), (17, true), (11, true), (14, true), (18, false), (19, false), (20, false), (21, false), (22, false), (23, false)] zV (by kernel_rfl) (fun C2 hC2 => ?_)
   have hp2 := zY hC2 hpin
   by_cases hE : p.nodes[k].name = ⟨#[]⟩
   · rw [decide_eq_true hE] at hQk
     simp +decide only [e, h', hgi, ck, k1, hxk, hE, zg, bne, Int.natCast_nonneg, vB, vI, vS, zt, zb, za, hp2, hpin, go_sem, reduceAdd, reduceMul]
     refine ⟨i + 1, ⟨h', by rw [hany, hQk]; rfl⟩, by omega, Ent.weak ?_ ?_ ?_ ?_⟩
     all_goals simp +decide [zR, yA, subT, subB, zk, zj, zl, St.get, look, vI, vB, vS, cI, cS, cB, zg, fnC, zr, za, roI, w64s (n := U.length) h' (by omega)]
   · rw [decide_eq_false hE] at hQk
     simp +decide only [e, h', hgi, ck, k1, hxk, hE, zg, bne, Int.natCast_nonneg, vB, vI, vS, zt, zb, za, hp2, hpin, go_sem, reduceAdd, reduceMul]
     refine zd (hls p.nodes[k].name) hp2 ?_
     cases hs2 : setP p f p.nodes[k].name with
     | true =>
       rw [hs2] at hQk
       obtain ⟨e1, e2⟩ := hno4 (by
         have : U.any Q = true := by rw [List.any_eq_true]; exact ⟨U[i], List.getElem_mem h', by rw [hke, hQk]; rfl⟩
         rw [this]; rfl)
       simp +decide only [e1, e2, vB, vI, vS, zt, zb, za, hp2, hpin, go_sem, reduceAdd, reduceMul]
     | false =>
       rw [hs2] at hQk
       simp +decide only [vB, vI, vS, zt, zb, za, hp2, hpin, go_sem, reduceAdd, reduceMul]
       refine ⟨i + 1, ⟨h', by rw [hany, hQk]; rfl⟩, by omega, Ent.weak ?_ ?_ ?_ ?_⟩
       all_goals simp +decide [zR, yA, subT, subB, zk, zj, zl, St.get, look, vI, vB, vS, cI, cS, cB, zg, fnC, zr, za, roI, w64s (n := U.length) h' (by omega)]
 have hil' : i = U.length := by omega
 subst hil'
 have e : ((U.length : Int) < (U.length : Int)) = False := by simp
 rw [List.take_length] at hal
 obtain ⟨e1, e2⟩ := hyes (by rw [hal]; rfl)
 simp +decide only [e, vB, vI, vS, zt, zb, za, hpin, go_sem, reduceAdd, reduceMul]
 rw [e1, e2]
 clear hno4 hyes e1 e2 hT hun hul hum hal hsh e
 have huo := zaJ p f s hf hn hk
 have hUm := fun x h => zcQ (p := p) (fn := (f : Int)) (s := s) (x := x) h
 have hUl : (xA p f s).length <= p.nodes.length := Nat.le_trans (Zo p s (fnNs p f)) (Zl p f)
 obtain ⟨m2, m3⟩ := zkR hG (xA p f s) hvl2 t
 have hp19 := zdO (ivPB p (xA p f s) v t) hf m2 m3 hpl
 simp only [zb] at huo
 have hxb : ivPB p (xA p f s) v t = ⟨(ivS (xA p f s) p.nodes[v] p.nodes).map (cutY t), p.fns⟩ := by unfold ivPB; rw [zF hvl2]
 rw [hxb] at hp19 |-
 clear hxb m2 m3
 generalize xA p f s = U2 at huo hUm hUl hp19 |-
 refine Tri.step zf ?_
 simp +decide only [zt, zb, za, hpin, go_sem, reduceAdd, reduceMul]
 refine zd hcp hpin ?_
 simp +decide only [zt, zb, za, hpin, go_sem, reduceAdd, reduceMul]
 refine Tri.step zf ?_
 simp +decide only [zt, zb, za, hpin, go_sem, reduceAdd, reduceMul]
 refine zd huo hpin ?_
 simp +decide only [zt, zb, za, hpin, go_sem, reduceAdd, reduceMul]
 refine Tri.ent ?_ (Ent.frz hfull 17)
 have hsh : shLL (row1 cI U2) = row1 cI U2 := yR U2
 refine Tri.step zf ?_
 simp +decide only [hsh, zt, zb, za, hpin, go_sem, reduceAdd, reduceMul]
 refine Tri.loop (ι := Nat) (fun j => j <= U2.length) (fun j => ⟨215, [(3, .ip (za true p) 0), (6, .bp 6 0), (8, .bp 8 0), (12, vI t), (13, vI v), (16, .bp 16 0), (17, roI U2), (18, vI j)], [(16, .box [.row false 83 (rows (zg false) (ivS (U2.take j) p.nodes[v] p.nodes)), .row false 104 (rows (fnC false) p.fns)]), (6, .box [.sc (.slice none 0 0), .sc (.slice none 0 0)]), (8, .box (za false p))]⟩) (fun j => U2.length - j) 0 (by simp) ?_ ?_
 · refine Ent.weak ?_ ?_ ?_ ?_ <;> simp +decide [zR, yA, subT, subB, zk, zj, zl, St.get, look, vI, vB, vS, cI, cS, cB, zg, fnC, zr, za, roI, ivS]
 rintro j hj
 refine ze zf _ ?_
 by_cases h' : j < U2.length
 · have e : ((j : Int) < (U2.length : Int)) = True := by simp [h']
   obtain ⟨k0, k1, _, _⟩ := hUm _ (List.getElem_mem h')
   have hnx := znF p.nodes[v] p.nodes h'
   obtain ⟨k, hke⟩ : ∃ k : Nat, U2[j] = k := ⟨(U2[j]).toNat, by omega⟩
   rw [hke, Int.toNat_natCast] at k1 hnx
   have hSl := ZJ p.nodes[v] (U2.take j) p.nodes
   have hks : k < (ivS (U2.take j) p.nodes[v] p.nodes).length := by omega
   have ck : ((k : Int) < ((ivS (U2.take j) p.nodes[v] p.nodes).length : Int)) = True := eq_true (by omega)
   have hgi : (row1 cI U2).getD j [] = [.sc (.int .i64 k)] := by rw [zq _ _ h', hke]; rfl
   have hyf := hD.few p.nodes[v] (List.getElem_mem hvl2)
   obtain ⟨T1, hT1⟩ : ∃ T, T = ivS (U2.take (j + 1)) p.nodes[v] p.nodes := ⟨_, rfl⟩
   rw [<- hT1] at hnx
   generalize ivS (U2.take j) p.nodes[v] p.nodes = T0 at hnx hSl hks ck |-
   have hq := Xq (zg false) T0 hks
   generalize p.nodes[v] = y at hxv2 hnx hyf hT1 |-
   have hfr := zbm y.kids
   have hb1 : y.kids.length <= 140737488355328 := by omega
   have hb2 : y.kids.length * 8 <= 140737488355328 := by omega
   have hst1 : (rows (zg false) T0).set k [D.sc (.int .i64 y.kind), .sc (.int .i64 y.num), .sc (.string y.name), .row false 3 (row1 cI y.kids)] = rows (zg false) T1 := by
     rw [hnx]; exact zip (zg false) T0 k y
   have hst2 : (rows (zg false) T0).set k (((((((rows (zg false) T0).getD k []).set 0 (.sc (.int .i64 y.kind))).set 1 (.sc (.int .i64 y.num))).set 2 (.sc (.string y.name))).set 3 (.row false 3 (row1 cI y.kids)))) = rows (zg false) T1 := by
     have hq2 : (rows (zg false) T0).getD k [] = zg false T0[k] := by rw [List.getD_eq_getElem?_getD, hq]; rfl
     rw [hq2]
     exact hst1
   simp only [zg, cI, cS] at hq
   simp +decide only [e, h', cv, hvl2, hxv2, hfr, hb1, hb2, zg, Int.natCast_nonneg, vB, vI, vS, zt, zb, za, hpin, go_sem, reduceAdd, reduceMul]
   refine Tri.fork zf (.one 0 true (.one 2 true (.one 3 true (.one 4 true (.one 5 true (.two 1 (.one 6 false (.one 7 false (.one 8 false .done))) 6 (.one 1 false (.one 7 false (.one 8 false .done))))))))) zV (by kernel_rfl) (fun C2 hC2 => ?_)
   have hp2 := zY hC2 hpin
   simp +decide only [e, h', hgi, ck, hks, hq, hst1, hst2, Int.natCast_nonneg, vB, vI, vS, zt, zb, za, hp2, hpin, go_sem, reduceAdd, reduceMul]
   and_intros
   all_goals
     refine ⟨j + 1, h', by omega, Ent.weak ?_ ?_ ?_ ?_⟩
   all_goals simp +decide [zR, yA, subT, subB, zk, zj, zl, St.get, look, vI, vB, vS, cI, cS, cB, zg, fnC, zr, za, roI, <- hT1, hst1, hst2, w64s (n := U2.length) h' (by omega)]
 have hjl : j = U2.length := by omega
 subst hjl
 have e : ((U2.length : Int) < (U2.length : Int)) = False := by simp
 simp +decide only [e, vB, vI, vS, zt, zb, za, hpin, go_sem, reduceAdd, reduceMul]
 have hAl : (ivS U2 p.nodes[v] p.nodes).length = p.nodes.length := ZJ _ _ _
 have hAf := ziN (y := p.nodes[v]) (hD.few _ (List.getElem_mem hvl2)) U2 p.nodes hD.few
 clear huo hsh hUm e
 generalize ivS U2 p.nodes[v] p.nodes = A at hAl hAf hp19 |-
 have hBl : (A.map (cutY t)).length = A.length := by simp
 have hAl3 := hG.few
 refine Tri.step zf ?_
 simp +decide only [zt, zb, za, hpin, go_sem, reduceAdd, reduceMul]
 refine Tri.loop (ι := Nat) (fun j => j <= A.length) (fun j => ⟨215, [(6, .bp 6 0), (8, .bp 8 0), (12, vI t), (16, .bp 16 0), (20, vI j)], [(16, .box [.row false 83 (rows (zg false) (mixT A (A.map (cutY t)) j)), .row false 104 (rows (fnC false) p.fns)]), (6, .box [.sc (.slice none 0 0), .sc (.slice none 0 0)]), (8, .box (za false p))]⟩) (fun j => A.length - j) 0 (by simp) ?_ ?_
 · refine Ent.weak ?_ ?_ ?_ ?_ <;> simp +decide [zR, yA, subT, subB, zk, zj, zl, St.get, look, vI, vB, vS, cI, cS, cB, zg, fnC, zr, za, roI, Xx]
 rintro j hj
 refine ze zf _ ?_
 by_cases h' : j < A.length
 · have hml := Zk hBl hj
   have h2 : j < (mixT A (A.map (cutY t)) j).length := by omega
   have hg := zbd hBl h' h2
   have hst := zbc hBl h'
   rw [List.getElem_map] at hst
   have hkx := hAf A[j] (List.getElem_mem h')
   obtain ⟨T1, hT1⟩ : ∃ T, T = mixT A (A.map (cutY t)) (j + 1) := ⟨_, rfl⟩
   rw [<- hT1] at hst
   generalize mixT A (A.map (cutY t)) j = T0 at hml h2 hg hst |-
   rw [<- hg] at hst hkx
   have hq := Xq (zg false) T0 h2
   simp only [zg, cI, cS] at hq
   have hci : ((j : Int) < (T0.length : Int)) = True := eq_true (by omega)
   have hci2 : ((j : Int) < (A.length : Int)) = True := eq_true (by omega)
   have hsk := zdD h2 (offT t T0[j].kids)
   have hyes : (T0[j].kind == 20) = true -> T0.set j ⟨T0[j].kind, T0[j].num, T0[j].name, offT t T0[j].kids⟩ = T1 := fun hh => by
     rw [<- hst]; unfold cutY; rw [hh]; rfl
   have hsame : (T0[j].kind == 20) = false -> T1 = T0 := fun hh => by
     rw [<- hst]
     have : cutY t T0[j] = T0[j] := by unfold cutY; rw [hh]; rfl
     rw [this, List.set_getElem_self]
   clear hst
   generalize T0[j] = x at hkx hq hsk hyes hsame hg |-
   clear hg
   cases h20 : x.kind == 20 with
   | false =>
     have hs := hsame h20
     simp +decide only [hml, hci, hci2, h2, h', hq, h20, bne, Int.natCast_nonneg, vB, vI, zt, zb, za, hpin, go_sem, reduceAdd, reduceMul]
     refine ⟨j + 1, h', by omega, Ent.weak ?_ ?_ ?_ ?_⟩
     all_goals simp +decide [zR, yA, subT, subB, zk, zj, zl, St.get, look, vI, vB, vS, cI, cS, cB, zg, fnC, zr, za, roI, <- hT1, hs, w64s (n := A.length) h' (by omega)]
   | true =>
     rw [hyes h20] at hsk
     simp +decide only [hml, hci, hci2, h2, h', hq, h20, bne, Int.natCast_nonneg, vB, vI, zt, zb, za, hpin, go_sem, reduceAdd, reduceMul]
     refine Tri.loop (ι := Nat) (fun n => n <= x.kids.length) (fun n => ⟨215, [(6, .bp 6 0), (8, .bp 8 0), (12, vI t), (16, .bp 16 0), (20, vI j), (21, .ref 21 [] (offT t (x.kids.take n)).length), (22, vI n)], [(21, .row 3 (row1 cI (offT t (x.kids.take n)))), (16, .box [.row false 83 (rows (zg false) T0), .row false 104 (rows (fnC false) p.fns)]), (6, .box [.sc (.slice none 0 0), .sc (.slice none 0 0)]), (8, .box (za false p))]⟩) (fun n => x.kids.length - n) 0 (by simp) ?_ ?_
     · refine Ent.weak ?_ ?_ ?_ ?_ <;> simp +decide [zR, yA, subT, subB, zk, zj, zl, St.get, look, vI, vB, vS, cI, cS, cB, zg, fnC, zr, za, roI, row1, zlY]
     rintro n hn0
     refine ze zf _ ?_
     by_cases hn' : n < x.kids.length
     · have en : ((n : Int) < (x.kids.length : Int)) = True := by simp [hn']
       have hr2 := zfJ cI x.kids hn'
       simp only [cI] at hr2
       have hfn := ziZ (t : Int) hn'
       have hlen : (offT t (x.kids.take n)).length <= n := by
         have := ziA t (x.kids.take n)
         simp only [List.length_take] at this
         omega
       have hsn := xC cI (offT t (x.kids.take n)) x.kids[n]
       simp only [cI] at hsn
       generalize offT t (x.kids.take n) = K at hfn hlen hsn |-
       have hb1 : K.length + 1 <= 140737488355328 := by omega
       have hb2 : (K.length + 1) * 8 <= 140737488355328 := by omega
       cases h1 : x.kids[n] == (t : Int) with
       | true =>
         have h3 : (x.kids[n] != (t : Int)) = false := by simp [bne, h1]
         rw [h3, if_neg (by decide), List.append_nil] at hfn
         simp +decide only [hml, hci, hci2, h2, h', hq, hr2, en, hn', h1, bne, Int.natCast_nonneg, vB, vI, zt, zb, za, hpin, go_sem, reduceAdd, reduceMul]
         refine ⟨n + 1, hn', by omega, Ent.weak ?_ ?_ ?_ ?_⟩
         all_goals simp +decide [zR, yA, subT, subB, zk, zj, zl, St.get, look, vI, vB, vS, cI, cS, cB, zg, fnC, zr, za, roI, hfn, w64s (n := x.kids.length) hn' (by omega)]
       | false =>
         have h3 : (x.kids[n] != (t : Int)) = true := by simp [bne, h1]
         rw [h3, if_pos rfl] at hfn
         simp +decide only [hml, hci, hci2, h2, h', hq, hr2, en, hn', h1, hb1, hb2, hsn, bne, Int.natCast_nonneg, vB, vI, zt, zb, za, hpin, go_sem, reduceAdd, reduceMul]
         refine ⟨n + 1, hn', by omega, Ent.weak ?_ ?_ ?_ ?_⟩
         all_goals simp +decide [zR, yA, subT, subB, zk, zj, zl, St.get, look, vI, vB, vS, cI, cS, cB, zg, fnC, zr, za, roI, hfn, w64s (n := x.kids.length) hn' (by omega)]
     have hnl : n = x.kids.length := by omega
     subst hnl
     have en : ((x.kids.length : Int) < (x.kids.length : Int)) = False := by simp
     have hsk2 := hsk
     unfold zO at hsk2
     simp +decide only [hml, hci, hci2, h2, h', hq, en, hsk, hsk2, Int.natCast_nonneg, vB, vI, zt, zb, za, hpin, go_sem, reduceAdd, reduceMul]
     refine ⟨j + 1, h', by omega, Ent.weak ?_ ?_ ?_ ?_⟩
     all_goals simp +decide [zR, yA, subT, subB, zk, zj, zl, St.get, look, vI, vB, vS, cI, cS, cB, zg, fnC, zr, za, roI, <- hT1, hsk, hsk2, w64s (n := A.length) h' (by omega)]
 have hjl : j = A.length := by omega
 subst hjl
 have hml := Zk hBl (Nat.le_refl _)
 have e : ((A.length : Int) < (A.length : Int)) = False := by simp
 simp +decide only [e, zbe hBl, List.length_map, vB, vI, zt, zb, za, hpin, go_sem, reduceAdd, reduceMul]
 generalize A.map (cutY t) = T2 at hp19 |-
 simp only [zb, za] at hp19
 refine Tri.ent ?_ (Ent.frb hfull 16)
 refine Tri.step zf ?_
 simp +decide only [zhp, zmw, za, zt, zb, za, hpin, go_sem, reduceAdd, reduceMul]
 refine zd hp19 hpin ?_
 simp +decide only [zt, zb, za, hpin, go_sem, reduceAdd, reduceMul]
 refine Tri.step zf ?_
 generalize (⟨T2, p.fns⟩ : ProgramD) = O at hp19 |-
 cases hO : zbt O with
 | false =>
   simp +decide only [za, zt, zb, za, hpin, go_sem, reduceAdd, reduceMul]
 | true =>
   simp +decide only [za, zt, zb, za, hpin, go_sem, reduceAdd, reduceMul]
   refine ze zf _ ?_
   simp +decide only [za, zt, zb, za, hpin, go_sem, reduceAdd, reduceMul]
theorem zpg (p : ProgramD) (fn : Int) (s : ByteArray) (h : zE p <= 1048576) : zE (ivP p fn s) <= 1048576 := by
 unfold ivP
 split
 · split
   · split
     · exact znP p _ h
     · exact h
   · exact h
 · exact h
end Go.Proofs.YtjjigphfjclofaaGreatDoor.AW
