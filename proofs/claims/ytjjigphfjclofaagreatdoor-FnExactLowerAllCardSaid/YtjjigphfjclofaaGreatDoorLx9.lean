/- What the statements of this set lean on, part 9. No condition beyond those named. -/
import Derived.Test.YtjjigphfjclofaaGreatDoorLx8
namespace Go.Proofs.YtjjigphfjclofaaGreatDoor.AW
open Go.RowKit
open Nat (reduceAdd reduceMul)
set_option maxHeartbeats 8000000
set_option maxRecDepth 100000
set_option linter.unusedSimpArgs false
set_option linter.unusedVariables false
theorem zlV {p : ProgramD} (hG : Right p) (l : List VarD) {n : Nat} (hn : n < p.nodes.length) (hst : 13 <= p.nodes[n].kind /\ p.nodes[n].kind <= 19) (h : stB p l n = true) : zjV p l (p.nodes[n].kids.getD 0 0).toNat := by
 have hsh := zZ (hG.deep.deep n hn) hn
 have hpos := zan hsh hst
 obtain ⟨q0, q1, q2⟩ := hG.deep.kid hn _ (ZE hpos)
 unfold stB at h
 rw [zI hn] at h
 have hft := yP (hG.deep.deep n hn) hn hpos
 have hg : p.nodes[n].kids[0] = p.nodes[n].kids.getD 0 0 := by simp [List.getD, hpos]
 rw [hg] at hft
 generalize p.nodes[n] = x at hst hsh hpos q0 q1 q2 h hft
 unfold zdr zeo at h
 rw [if_pos hpos] at h
 generalize x.kids.getD 0 0 = k at q0 q1 q2 h hft
 obtain ⟨m, rfl⟩ : ∃ m : Nat, k = m := ⟨k.toNat, by omega⟩
 unfold zjV
 simp only [Int.toNat_natCast]
 rcases (show x.kind = 13 \/ x.kind = 14 \/ x.kind = 15 \/ x.kind = 16 \/ x.kind = 17 \/ x.kind = 18 \/ x.kind = 19 by omega) with hk | hk | hk | hk | hk | hk | hk
 all_goals rw [hk] at h
 · left; simpa using h
 · left; simp at h; omega
 · left; simp at h; omega
 · left; simp at h; omega
 · left; simp at h; omega
 · left; simp at h; omega
 · right
   unfold yD at hft
   rw [hk] at hft
   simp at h hft
   exact ⟨hft, h⟩
theorem znH (p : ProgramD) (hG : Right p) (l : List VarD) (hl : l.length <= 4194304) (hf : p.fns.length <= 1048576) (hn : p.nodes.length <= 1048576) (hk : ∀ x ∈ p.nodes, x.kids.length <= 300) (nm : ByteArray) (pn : Int) (n : Nat) (hnl : n < p.nodes.length) (ih : ∀ m, m < n -> znu p l nm pn m) : zpT p l nm pn n := by
 have hD := hG.deep
 intro hst hlt hgs s hs1 hs2
 rw [zI hnl] at hst
 have hsr := zu (show inI p.nodes[n].kind 13 19 = true from hst)
 have hkid := hD.kid hnl
 have heq := zcf hD l hnl s
 have hsz := XN hD hnl
 have hsh := zZ (hD.deep n hnl) hnl
 have hx : (rows (zg true) p.nodes).getD n [] = zg true p.nodes[n] := zi _ _ hnl
 have hpos := zan hsh hsr
 have h20b : (p.nodes[n].kind == 20) = false := by apply Bool.eq_false_iff.2; intro hh; have := eq_of_beq hh; omega
 rw [h20b, if_neg (by decide)] at heq
 have hgv := zlV hG l hnl hsr (hgs.own hnl)
 have hval : SoundAt Tryz.prog 110 (fun uf => zq 0 [.ro (.bp 2000 0), .ro (.sc (.int .i64 (p.nodes[n].kids.getD 0 0)))]) [(2000, .box (lowC p l nm pn s))]
     (fun rs st => rs = [(false, [cI (lowV p l (p.nodes[n].kids.getD 0 0) s).1])] /\ yh st.ob [(2000, .box (lowC p l nm pn (lowV p l (p.nodes[n].kids.getD 0 0) s).2))]) /\ s.le (lowV p l (p.nodes[n].kids.getD 0 0) s).2 (szB p.nodes (p.nodes[n].kids.getD 0 0)) /\ ((lowV p l (p.nodes[n].kids.getD 0 0) s).1 = -1 \/ (0 <= (lowV p l (p.nodes[n].kids.getD 0 0) s).1 /\ (lowV p l (p.nodes[n].kids.getD 0 0) s).1 < ((lowV p l (p.nodes[n].kids.getD 0 0) s).2.locs.length : Int))) := by
   have hft := yP (hD.deep n hnl) hnl hpos
   have hg : p.nodes[n].kids.getD 0 0 = p.nodes[n].kids[0] := by simp [List.getD, hpos]
   rw [hg]
   have hv2 : yV (nAt p.nodes p.nodes[n].kids[0]).kind = true := by
     unfold yD at hft
     have h00 : decide ((0 : Int) < ((0 : Nat) : Int)) = false := by decide
     rw [h20b, if_neg (by decide), h00, Bool.and_false, if_neg (by decide)] at hft
     split at hft
     · have := eq_of_beq hft; rw [this]; decide
     · exact hft
   obtain ⟨q0, q1, q2⟩ := hkid p.nodes[n].kids[0] (List.getElem_mem hpos)
   have hge := zdp (z := szB p.nodes) hpos
   rw [hg] at hge
   rw [hg] at hgv
   generalize p.nodes[n].kids[0] = k at q0 q1 q2 hv2 hge hgv
   obtain ⟨m, rfl⟩ : ∃ m : Nat, k = m := ⟨k.toNat, by omega⟩
   exact ⟨zcu p hG l hl hf hn hk nm pn m (by omega) hv2 (by simpa using hgv) s (by omega) (by omega), zaZ hD l m (by omega) s, zmB hD l m (by omega) s⟩
 have hblk : ∀ i, 0 < i -> i < p.nodes[n].kids.length -> (∀ t : LowD, t.words.length + szB p.nodes (p.nodes[n].kids.getD i 0) <= 1048576 -> t.locs.length + szB p.nodes (p.nodes[n].kids.getD i 0) <= 1048576 -> SoundAt Tryz.prog 198 (fun uf => zq 0 [.ro (.bp 2000 0), .ro (.sc (.int .i64 (p.nodes[n].kids.getD i 0)))]) [(2000, .box (lowC p l nm pn t))]
     (fun rs st => rs = [] /\ yh st.ob [(2000, .box (lowC p l nm pn (lowS p l (p.nodes[n].kids.getD i 0) t)))])) /\ ∀ t : LowD, t.le (lowS p l (p.nodes[n].kids.getD i 0) t) (szB p.nodes (p.nodes[n].kids.getD i 0)) := fun i hi0 hi => by
   have hbl := ZC (hD.deep n hnl) hnl hsr i hi0 hi
   have hmem := ZE hi
   obtain ⟨q0, q1, q2⟩ := hkid _ hmem
   have hl2 := hlt.kid hnl hmem
   have hg2 := hgs.kid hnl hmem
   generalize p.nodes[n].kids.getD i 0 = k at q0 q1 q2 hbl hl2 hg2
   obtain ⟨m, rfl⟩ : ∃ m : Nat, k = m := ⟨k.toNat, by omega⟩
   exact ⟨fun t h1 h2 => ih m (by omega) hbl hl2 hg2 t h1 h2, zdZ hD l m (by omega) (Or.inl hbl)⟩
 have hc1 : ((n : Int) < (p.nodes.length : Int)) = True := eq_true (by omega)
 rw [heq]
 generalize szB p.nodes n = Z at hs1 hs2 hsz
 generalize p.nodes[n] = x at hkid heq hx hsr hsz hsh hpos hval hblk
 have hge := zdp (z := szB p.nodes) hpos
 have hgm : (row1 cI x.kids).getD (Int.toNat 0) [] = [cI (x.kids.getD 0 0)] := by rw [show Int.toNat 0 = 0 from rfl, zr cI x.kids hpos]; simp [List.getD, hpos]
 have hc0 : ((0 : Int) < (x.kids.length : Int)) = True := eq_true (by omega)
 have hva := ZF l x.name hl
 clear heq
 obtain ⟨R, hR⟩ : ∃ R, R = stpK (lowS p l) p l x s := ⟨_, rfl⟩
 rw [<- hR]
 unfold stpK at hR
 obtain ⟨hval, hvle, hvat⟩ := hval
 generalize lowV p l (x.kids.getD 0 0) s = q at hval hvle hvat hR
 generalize yg l x.name = v at hva hR
 obtain ⟨qa, qs⟩ := q
 obtain ⟨g1, g2, g3, g4⟩ := hvle
 simp only at hval hvat g1 g2 g3 g4 hR
 simp only [lowC, cI] at hval hgm
 refine zt (fn := Tryz.f169) (c := Tryz.f169.body.getD .skip) (res := []) (n := 163) ze (by kernel_rfl) (by rfl) (by kernel_rfl) (by rfl) (by rfl) (by simp [zq]) (fun uf ub C hpin hpin2 hfull => ?_)
 simp only [Tryz.f169, Option.getD_some]
 refine Tri.step ze ?_
 simp +decide only [hc1, hx, zg, Int.natCast_nonneg, zb, za, lowC, vI, vB, vS, hpin, hpin2, go_sem, reduceAdd, reduceMul]
 refine Tri.ent ?_ (Ent.frb hfull 4)
 refine Tri.step ze ?_
 simp +decide only [zg, zb, za, lowC, vI, vB, vS, hpin, hpin2, go_sem, reduceAdd, reduceMul]
 refine Tri.step ze ?_
 simp +decide only [hc0, hpos, hgm, zg, zb, za, lowC, vI, vB, vS, hpin, hpin2, go_sem, reduceAdd, reduceMul]
 refine zw hval hpin hfull [(2000, 2000)] [] [(2000, 2000)] ⟨rfl, rfl, rfl, rfl⟩ (fun uf => ?_) ?_
 · simp +decide only [zb, za, lowC, vI, vB, vS, hpin, hpin2, go_sem, reduceAdd, reduceMul]
 simp +decide only [zb, za, lowC, vI, vB, vS, hpin, hpin2, go_sem, reduceAdd, reduceMul]
 refine Tri.step ze ?_
 simp +decide only [zg, zb, za, lowC, vI, vB, vS, hpin, hpin2, go_sem, reduceAdd, reduceMul]
 refine zf ze _ ?_
 rcases (show x.kind = 13 \/ x.kind = 14 \/ x.kind = 15 \/ x.kind = 16 \/ x.kind = 17 \/ x.kind = 18 \/ x.kind = 19 by omega) with hk | hk | hk | hk | hk | hk | hk
 · -- 13
   simp +decide only [hk, if_true, if_false] at hR
   subst hR
   have hadd := Zj p l nm pn qs 14 v qa 0 0 ⟨#[]⟩ (by omega)
   simp only [lowC, cI] at hadd
   simp +decide only [Int.reduceBEq, hk, zg, Bool.or_true, Bool.true_or, Bool.or_false, Bool.or_self, zb, za, lowC, vI, vB, vS, hpin, hpin2, go_sem, reduceAdd, reduceMul]
   refine Tri.fork ze (.one 0 true (.one 1 true (.one 2 true (.one 3 true (.one 5 true (.one 8 true (.one 6 true (.one 4 false (.one 7 false (.one 9 false (.one 10 false .done))))))))))) zL (by kernel_rfl) (fun C3 hC3 => ?_)
   have hp3 := zN hC3 hpin
   simp +decide only [zg, zb, za, lowC, vI, vB, vS, hp3, hpin, hpin2, go_sem, reduceAdd, reduceMul]
   refine zd hva hp3 ?_
   simp +decide only [zg, zb, za, lowC, vI, vB, vS, hp3, hpin, hpin2, go_sem, reduceAdd, reduceMul]
   refine Yp hadd hp3 [(2000, 2000)] [] [(2000, 2000)] ⟨rfl, rfl, rfl, rfl⟩ (fun uf => ?_) ?_
   · simp +decide only [zg, zb, za, lowC, vI, vB, vS, hp3, hpin, hpin2, go_sem, reduceAdd, reduceMul]
   simp +decide only [LowD.addW, in3, zb, za, lowC, vI, vB, vS, hp3, hpin, hpin2, go_sem, reduceAdd, reduceMul]
 · -- 14
   simp +decide only [hk, if_true, if_false] at hR
   subst hR
   have hadd := Zj p l nm pn qs 14 v qa 0 0 ⟨#[]⟩ (by omega)
   simp only [lowC, cI] at hadd
   simp +decide only [Int.reduceBEq, hk, zg, Bool.or_true, Bool.true_or, Bool.or_false, Bool.or_self, zb, za, lowC, vI, vB, vS, hpin, hpin2, go_sem, reduceAdd, reduceMul]
   refine Tri.fork ze (.one 0 true (.one 1 true (.one 2 true (.one 3 true (.one 5 true (.one 8 true (.one 6 true (.one 4 false (.one 7 false (.one 9 false (.one 10 false .done))))))))))) zL (by kernel_rfl) (fun C3 hC3 => ?_)
   have hp3 := zN hC3 hpin
   simp +decide only [zg, zb, za, lowC, vI, vB, vS, hp3, hpin, hpin2, go_sem, reduceAdd, reduceMul]
   refine zd hva hp3 ?_
   simp +decide only [zg, zb, za, lowC, vI, vB, vS, hp3, hpin, hpin2, go_sem, reduceAdd, reduceMul]
   refine Yp hadd hp3 [(2000, 2000)] [] [(2000, 2000)] ⟨rfl, rfl, rfl, rfl⟩ (fun uf => ?_) ?_
   · simp +decide only [zg, zb, za, lowC, vI, vB, vS, hp3, hpin, hpin2, go_sem, reduceAdd, reduceMul]
   simp +decide only [LowD.addW, in3, zb, za, lowC, vI, vB, vS, hp3, hpin, hpin2, go_sem, reduceAdd, reduceMul]
 · -- 15
   simp +decide only [hk, if_true, if_false] at hR
   subst hR
   have hadd := Zj p l nm pn qs 15 v qa 0 0 ⟨#[]⟩ (by omega)
   simp only [lowC, cI] at hadd
   simp +decide only [Int.reduceBEq, hk, zg, Bool.or_true, Bool.true_or, Bool.or_false, Bool.or_self, zb, za, lowC, vI, vB, vS, hpin, hpin2, go_sem, reduceAdd, reduceMul]
   refine Tri.fork ze (.one 0 true (.one 1 true (.one 2 true (.one 3 true (.one 5 true (.one 8 true (.one 6 true (.one 4 false (.one 7 false (.one 9 false (.one 10 false .done))))))))))) zL (by kernel_rfl) (fun C3 hC3 => ?_)
   have hp3 := zN hC3 hpin
   simp +decide only [zg, zb, za, lowC, vI, vB, vS, hp3, hpin, hpin2, go_sem, reduceAdd, reduceMul]
   refine zd hva hp3 ?_
   simp +decide only [zg, zb, za, lowC, vI, vB, vS, hp3, hpin, hpin2, go_sem, reduceAdd, reduceMul]
   refine Yp hadd hp3 [(2000, 2000)] [] [(2000, 2000)] ⟨rfl, rfl, rfl, rfl⟩ (fun uf => ?_) ?_
   · simp +decide only [zg, zb, za, lowC, vI, vB, vS, hp3, hpin, hpin2, go_sem, reduceAdd, reduceMul]
   simp +decide only [LowD.addW, in3, zb, za, lowC, vI, vB, vS, hp3, hpin, hpin2, go_sem, reduceAdd, reduceMul]
 · -- 16
   have h3 := zhv hsh hk
   have e3 := sum3 (z := szB p.nodes) h3
   obtain ⟨hb1, hl1⟩ := hblk 1 (by omega) (by omega)
   obtain ⟨hb2, hl2⟩ := hblk 2 (by omega) (by omega)
   have hg1 : (row1 cI x.kids).getD (Int.toNat 1) [] = [cI (x.kids.getD 1 0)] := by rw [show Int.toNat 1 = 1 from rfl, zr cI x.kids (show 1 < x.kids.length by omega)]; simp [List.getD, show 1 < x.kids.length by omega]
   have hg2 : (row1 cI x.kids).getD (Int.toNat 2) [] = [cI (x.kids.getD 2 0)] := by rw [show Int.toNat 2 = 2 from rfl, zr cI x.kids (show 2 < x.kids.length by omega)]; simp [List.getD, show 2 < x.kids.length by omega]
   have d1 : ((1 : Int) < (x.kids.length : Int)) = True := eq_true (by omega)
   have d2 : ((2 : Int) < (x.kids.length : Int)) = True := eq_true (by omega)
   have d1n : 1 < x.kids.length := by omega
   have d2n : 2 < x.kids.length := by omega
   simp only [cI] at hg1 hg2
   simp +decide only [hk, if_true, if_false] at hR
   have hA := zfK (qa, qs)
   have hadd := yG p l nm pn qs 19 qa 0 0 0 ⟨#[]⟩ (by omega)
   have hadd : SoundAt Tryz.prog 112 (fun uf => zq 0 [.ro (.bp 2000 0), .ro (.agg [.sc (.int .i64 19), .sc (.int .i64 qa), .sc (.int .i64 0), .sc (.int .i64 0), .sc (.int .i64 0), .sc (.string ⟨#[]⟩), .sc (.slice none 0 0)])]) [(2000, .box (lowC p l nm pn qs))]
     (fun rs st => rs = [(false, [cI qs.words.length])] /\ yh st.ob [(2000, .box (lowC p l nm pn (ifA (qa, qs))))]) := hadd
   generalize hAA : ifA (qa, qs) = A at hA hadd hR
   obtain ⟨a1, a2, a3, a4⟩ := hA
   simp only at a1 a2 a3 a4
   have hB1 := hl1 A
   have hc1 := hb1 A (by omega) (by omega)
   generalize lowS p l (x.kids.getD 1 0) A = B at hB1 hc1 hR
   obtain ⟨b1, b2, b3, b4⟩ := hB1
   have hidx : qs.words.length < B.words.length := by
     have : A.words.length = qs.words.length + 1 := by rw [<- hAA]; simp [ifA, LowD.addW]
     omega
   obtain ⟨B2, hB2⟩ : ∃ z, z = B.addW (in3 18 0 0) := ⟨_, rfl⟩
   have haddB : SoundAt Tryz.prog 112 (fun uf => zq 0 [.ro (.bp 2000 0), .ro (.agg [.sc (.int .i64 18), .sc (.int .i64 0), .sc (.int .i64 0), .sc (.int .i64 0), .sc (.int .i64 0), .sc (.string ⟨#[]⟩), .sc (.slice none 0 0)])]) [(2000, .box (lowC p l nm pn B))]
     (fun rs st => rs = [(false, [cI B.words.length])] /\ yh st.ob [(2000, .box (lowC p l nm pn B2))]) := by rw [hB2]; exact yG p l nm pn B 18 0 0 0 0 ⟨#[]⟩ (by omega)
   have hlenB : B2.words.length = B.words.length + 1 := by rw [hB2]; simp [LowD.addW]
   have hlocB : B2.locs = B.locs := by rw [hB2]; rfl
   have hidx2 : qs.words.length < B2.words.length := by omega
   have hC := zmT (qa, qs) B
   have hCe : ifB (qa, qs) B = ⟨B2.locs, B2.words.set qs.words.length (B2.words[qs.words.length].numTo ((B.words.length : Int) + 1))⟩ := by
     rw [<- zbY _ hidx2, hB2]; rfl
   have hsetB := zau hidx2 ((B.words.length : Int) + 1)
   have hqB := xy (insC false) _ hidx2
   rw [hCe] at hC hR
   generalize B2.words.set qs.words.length (B2.words[qs.words.length].numTo ((B.words.length : Int) + 1)) = W at hC hR hsetB
   generalize B2.words[qs.words.length] = y at hqB
   simp only [insC, cI, cS] at hqB
   obtain ⟨c1_, c2_, c3_, c4_⟩ := hC
   simp only at c1_ c2_ c3_ c4_
   have hD1 := hl2 ⟨B2.locs, W⟩
   have hc2 := hb2 ⟨B2.locs, W⟩ (by simp only; omega) (by simp only; omega)
   generalize lowS p l (x.kids.getD 2 0) ⟨B2.locs, W⟩ = E at hD1 hc2 hR
   obtain ⟨d1_, d2_, d3_, d4_⟩ := hD1
   simp only at d1_ d2_ d3_ d4_
   have hWl : W.length = B2.words.length := by
     have := congrArg List.length hsetB
     rw [zR, xm, zR] at this
     exact this.symm
   have hidx3 : B.words.length < E.words.length := by omega
   have hRe : R = ⟨E.locs, E.words.set B.words.length (E.words[B.words.length].numTo (E.words.length : Int))⟩ := by rw [hR]; unfold ifC; rw [zbY _ hidx3]
   have hsetE := zau hidx3 (E.words.length : Int)
   have hqE := xy (insC false) _ hidx3
   generalize E.words.set B.words.length (E.words[B.words.length].numTo (E.words.length : Int)) = W2 at hRe hsetE
   generalize E.words[B.words.length] = y2 at hqE
   simp only [insC, cI, cS] at hqE
   subst hRe
   simp only [lowC, cI, cS] at hadd hc1 haddB hc2
   have i1 : ((qs.words.length : Int) < (B2.words.length : Int)) = True := eq_true (by omega)
   have i2 : ((B.words.length : Int) < (E.words.length : Int)) = True := eq_true (by omega)
   have i1b : ((qs.words.length : Int) < (B.words.length : Int) + 1) = True := eq_true (by omega)
   unfold yB at hsetB hsetE
   have eB : ((B2.words.length : Nat) : Int) = (B.words.length : Int) + 1 := by omega
   simp +decide only [Int.reduceBEq, hk, zg, Bool.or_true, Bool.true_or, Bool.or_false, Bool.or_self, zb, za, lowC, vI, vB, vS, hpin, hpin2, go_sem, reduceAdd, reduceMul]
   refine zw hadd hpin hfull [(2000, 2000)] [] [(2000, 2000)] ⟨rfl, rfl, rfl, rfl⟩ (fun uf => ?_) ?_
   · simp +decide only [zb, za, lowC, vI, vB, vS, hpin, hpin2, go_sem, reduceAdd, reduceMul]
   simp +decide only [hg1, hg2, d1, d2, d1n, d2n, zg, zb, za, lowC, vI, vB, vS, hpin, hpin2, go_sem, reduceAdd, reduceMul]
   refine zw hc1 hpin hfull [(2000, 2000)] [] [(2000, 2000)] ⟨rfl, rfl, rfl, rfl⟩ (fun uf => ?_) ?_
   · simp +decide only [zb, za, lowC, vI, vB, vS, hpin, hpin2, go_sem, reduceAdd, reduceMul]
   simp +decide only [zb, za, lowC, vI, vB, vS, hpin, hpin2, go_sem, reduceAdd, reduceMul]
   refine zw haddB hpin hfull [(2000, 2000)] [] [(2000, 2000)] ⟨rfl, rfl, rfl, rfl⟩ (fun uf => ?_) ?_
   · simp +decide only [zb, za, lowC, vI, vB, vS, hpin, hpin2, go_sem, reduceAdd, reduceMul]
   simp +decide only [zb, za, lowC, vI, vB, vS, hpin, hpin2, go_sem, reduceAdd, reduceMul]
   refine Tri.fork ze (.one 0 true (.one 1 true (.one 2 true (.one 3 true (.one 5 true (.one 6 true (.one 7 true (.one 8 true (.one 9 true (.two 4 (.one 10 false (.one 11 false (.one 12 false (.one 13 false (.one 14 false .done))))) 10 (.one 11 true (.one 4 false (.one 12 false (.one 13 false (.one 14 false .done))))))))))))))) zL (by kernel_rfl) (fun C3 hC3 => ?_)
   have hp3 := zN hC3 hpin
   simp +decide only [i1, i1b, hidx2, hqB, hsetB, eB, hg2, d2, d2n, zg, Int.natCast_nonneg, zb, za, lowC, vI, vB, vS, hp3, hpin, hpin2, go_sem, reduceAdd, reduceMul]
   refine ⟨?_, ?_⟩
   all_goals
     refine zw hc2 hpin hfull [(2000, 2000)] [] [(2000, 2000)] ⟨rfl, rfl, rfl, rfl⟩ (fun uf => ?_) ?_
     · simp +decide only [zb, za, lowC, vI, vB, vS, hpin, hpin2, go_sem, reduceAdd, reduceMul]
     simp +decide only [zb, za, lowC, vI, vB, vS, hpin, hpin2, go_sem, reduceAdd, reduceMul]
     refine Tri.fork ze (.one 0 true (.one 1 true (.one 2 true (.one 3 true (.one 5 true (.one 6 true (.one 7 true (.one 8 true (.one 9 true (.two 4 (.one 10 false (.one 11 false (.one 12 false (.one 13 false (.one 14 false .done))))) 10 (.one 11 true (.one 4 false (.one 12 false (.one 13 false (.one 14 false .done))))))))))))))) zL (by kernel_rfl) (fun C4 hC4 => ?_)
     have hp4 := zN hC4 hpin
     simp +decide only [i2, hidx3, hqE, hsetE, Int.natCast_nonneg, zb, za, lowC, vI, vB, vS, hp4, hpin, hpin2, go_sem, reduceAdd, reduceMul]
 · -- 17
   have h3 := zhw hsh hk
   have e3 := sum2 (z := szB p.nodes) h3
   obtain ⟨hb1, hl1⟩ := hblk 1 (by omega) (by omega)
   have hg1 : (row1 cI x.kids).getD (Int.toNat 1) [] = [cI (x.kids.getD 1 0)] := by rw [show Int.toNat 1 = 1 from rfl, zr cI x.kids (show 1 < x.kids.length by omega)]; simp [List.getD, show 1 < x.kids.length by omega]
   have d1 : ((1 : Int) < (x.kids.length : Int)) = True := eq_true (by omega)
   have d1n : 1 < x.kids.length := by omega
   simp only [cI] at hg1
   simp +decide only [hk, if_true, if_false] at hR
   have hA := zfK (qa, qs)
   have hadd : SoundAt Tryz.prog 112 (fun uf => zq 0 [.ro (.bp 2000 0), .ro (.agg [.sc (.int .i64 19), .sc (.int .i64 qa), .sc (.int .i64 0), .sc (.int .i64 0), .sc (.int .i64 0), .sc (.string ⟨#[]⟩), .sc (.slice none 0 0)])]) [(2000, .box (lowC p l nm pn qs))]
     (fun rs st => rs = [(false, [cI qs.words.length])] /\ yh st.ob [(2000, .box (lowC p l nm pn (ifA (qa, qs))))]) := yG p l nm pn qs 19 qa 0 0 0 ⟨#[]⟩ (by omega)
   generalize hAA : ifA (qa, qs) = A at hA hadd hR
   obtain ⟨a1, a2, a3, a4⟩ := hA
   simp only at a1 a2 a3 a4
   have hB1 := hl1 A
   have hc1 := hb1 A (by omega) (by omega)
   generalize lowS p l (x.kids.getD 1 0) A = B at hB1 hc1 hR
   obtain ⟨b1, b2, b3, b4⟩ := hB1
   have hidx : qs.words.length < B.words.length := by
     have : A.words.length = qs.words.length + 1 := by rw [<- hAA]; simp [ifA, LowD.addW]
     omega
   obtain ⟨B2, hB2⟩ : ∃ z, z = B.addW ⟨18, 0, 0, 0, s.words.length, ⟨#[]⟩, []⟩ := ⟨_, rfl⟩
   have haddB : SoundAt Tryz.prog 112 (fun uf => zq 0 [.ro (.bp 2000 0), .ro (.agg [.sc (.int .i64 18), .sc (.int .i64 0), .sc (.int .i64 0), .sc (.int .i64 0), .sc (.int .i64 s.words.length), .sc (.string ⟨#[]⟩), .sc (.slice none 0 0)])]) [(2000, .box (lowC p l nm pn B))]
     (fun rs st => rs = [(false, [cI B.words.length])] /\ yh st.ob [(2000, .box (lowC p l nm pn B2))]) := by rw [hB2]; exact yG p l nm pn B 18 0 0 0 s.words.length ⟨#[]⟩ (by omega)
   have hlenB : B2.words.length = B.words.length + 1 := by rw [hB2]; simp [LowD.addW]
   have hidx2 : qs.words.length < B2.words.length := by omega
   have hCe : R = ⟨B2.locs, B2.words.set qs.words.length (B2.words[qs.words.length].numTo ((B.words.length : Int) + 1))⟩ := by
     rw [<- zbY _ hidx2, hB2, hR]; rfl
   have hsetB := zau hidx2 ((B.words.length : Int) + 1)
   have hqB := xy (insC false) _ hidx2
   generalize B2.words.set qs.words.length (B2.words[qs.words.length].numTo ((B.words.length : Int) + 1)) = W at hCe hsetB
   generalize B2.words[qs.words.length] = y at hqB
   simp only [insC, cI, cS] at hqB
   clear hR
   subst hCe
   simp only [lowC, cI, cS] at hadd hc1 haddB
   have i1 : ((qs.words.length : Int) < (B2.words.length : Int)) = True := eq_true (by omega)
   have i1b : ((qs.words.length : Int) < (B.words.length : Int) + 1) = True := eq_true (by omega)
   unfold yB at hsetB
   have eB : ((B2.words.length : Nat) : Int) = (B.words.length : Int) + 1 := by omega
   simp +decide only [Int.reduceBEq, hk, zg, Bool.or_true, Bool.true_or, Bool.or_false, Bool.or_self, zb, za, lowC, vI, vB, vS, hpin, hpin2, go_sem, reduceAdd, reduceMul]
   refine zw hadd hpin hfull [(2000, 2000)] [] [(2000, 2000)] ⟨rfl, rfl, rfl, rfl⟩ (fun uf => ?_) ?_
   · simp +decide only [zb, za, lowC, vI, vB, vS, hpin, hpin2, go_sem, reduceAdd, reduceMul]
   simp +decide only [hg1, d1, d1n, zg, zb, za, lowC, vI, vB, vS, hpin, hpin2, go_sem, reduceAdd, reduceMul]
   refine zw hc1 hpin hfull [(2000, 2000)] [] [(2000, 2000)] ⟨rfl, rfl, rfl, rfl⟩ (fun uf => ?_) ?_
   · simp +decide only [zb, za, lowC, vI, vB, vS, hpin, hpin2, go_sem, reduceAdd, reduceMul]
   simp +decide only [zb, za, lowC, vI, vB, vS, hpin, hpin2, go_sem, reduceAdd, reduceMul]
   refine zw haddB hpin hfull [(2000, 2000)] [] [(2000, 2000)] ⟨rfl, rfl, rfl, rfl⟩ (fun uf => ?_) ?_
   · simp +decide only [zb, za, lowC, vI, vB, vS, hpin, hpin2, go_sem, reduceAdd, reduceMul]
   simp +decide only [zb, za, lowC, vI, vB, vS, hpin, hpin2, go_sem, reduceAdd, reduceMul]
   refine Tri.fork ze (.one 0 true (.one 1 true (.one 2 true (.one 3 true (.one 5 true (.one 6 true (.one 7 true (.one 8 true (.one 9 true (.two 4 (.one 10 false (.one 11 false (.one 12 false (.one 13 false (.one 14 false .done))))) 10 (.one 11 true (.one 4 false (.one 12 false (.one 13 false (.one 14 false .done))))))))))))))) zL (by kernel_rfl) (fun C3 hC3 => ?_)
   have hp3 := zN hC3 hpin
   simp +decide only [i1, i1b, hidx2, hqB, hsetB, eB, Int.natCast_nonneg, zb, za, lowC, vI, vB, vS, hp3, hpin, hpin2, go_sem, reduceAdd, reduceMul]
 · -- 18
   simp +decide only [hk, if_true, if_false] at hR
   subst hR
   have hadd := yG p l nm pn qs 16 qa 0 0 0 ⟨#[]⟩ (by omega)
   simp only [lowC, cI] at hadd
   simp +decide only [Int.reduceBEq, hk, zg, Bool.or_true, Bool.true_or, Bool.or_false, Bool.or_self, zb, za, lowC, vI, vB, vS, hpin, hpin2, go_sem, reduceAdd, reduceMul]
   refine zw hadd hpin hfull [(2000, 2000)] [] [(2000, 2000)] ⟨rfl, rfl, rfl, rfl⟩ (fun uf => ?_) ?_
   · simp +decide only [zb, za, lowC, vI, vB, vS, hpin, hpin2, go_sem, reduceAdd, reduceMul]
   simp +decide only [LowD.addW, in3, zb, za, lowC, vI, vB, vS, hpin, hpin2, go_sem, reduceAdd, reduceMul]
 · -- 19
   unfold doB at hR
   simp +decide only [hk, if_true, if_false] at hR
   rcases hvat with hq | ⟨hq0, hq1⟩
   · subst hq
     have e1 : ((0 : Int) <= -1) = False := by simp
     simp +decide only [e1, if_false] at hR
     subst hR
     have hany : (∃ z : Int, (row1 cI R.locs)[(-1 : Int).toNat]? = some [D.sc (.int .i64 z)]) \/ (row1 cI R.locs)[(-1 : Int).toNat]? = none := by
       cases hqq : (row1 cI R.locs)[(-1 : Int).toNat]? with
       | none => exact Or.inr rfl
       | some w =>
         left
         rw [row1, List.getElem?_map] at hqq
         obtain ⟨z, _, hz⟩ := Option.map_eq_some_iff.1 hqq
         exact ⟨z, by rw [<- hz]; rfl⟩
     rcases hany with ⟨z, hz⟩ | hz
     · simp +decide only [Int.reduceBEq, hk, zg, Bool.or_true, Bool.true_or, Bool.or_false, Bool.or_self, e1, hz, ge_iff_le, zb, za, lowC, vI, vB, vS, hpin, hpin2, go_sem, reduceAdd, reduceMul]
     · simp +decide only [Int.reduceBEq, hk, zg, Bool.or_true, Bool.true_or, Bool.or_false, Bool.or_self, e1, hz, Option.bind_none, ge_iff_le, zb, za, lowC, vI, vB, vS, hpin, hpin2, go_sem, reduceAdd, reduceMul]
   · have e1 : ((0 : Int) <= qa) = True := eq_true hq0
     have hql : qa.toNat < qs.locs.length := by omega
     have e2 : (qa < (qs.locs.length : Int)) = True := eq_true hq1
     have hlq := yf cI qs.locs hql
     rw [show qs.locs.getD qa.toNat 0 = qs.locs[qa.toNat] by simp [List.getD, hql]] at hR
     generalize qs.locs[qa.toNat] = z at hR hlq
     simp only [cI] at hlq
     cases h2 : z == 2 with
     | false =>
       simp +decide only [e1, h2, if_false] at hR
       subst hR
       simp +decide only [Int.reduceBEq, hk, zg, Bool.or_true, Bool.true_or, Bool.or_false, Bool.or_self, e1, e2, hql, hlq, h2, ge_iff_le, zb, za, lowC, vI, vB, vS, hpin, hpin2, go_sem, reduceAdd, reduceMul]
     | true =>
       simp +decide only [e1, h2, if_true] at hR
       subst hR
       have hadd := yG p l nm pn qs 17 qa 0 0 0 ⟨#[]⟩ (by omega)
       simp only [lowC, cI] at hadd
       simp +decide only [Int.reduceBEq, hk, zg, Bool.or_true, Bool.true_or, Bool.or_false, Bool.or_self, e1, e2, hql, hlq, h2, ge_iff_le, zb, za, lowC, vI, vB, vS, hpin, hpin2, go_sem, reduceAdd, reduceMul]
       refine zw hadd hpin hfull [(2000, 2000)] [] [(2000, 2000)] ⟨rfl, rfl, rfl, rfl⟩ (fun uf => ?_) ?_
       · simp +decide only [zb, za, lowC, vI, vB, vS, hpin, hpin2, go_sem, reduceAdd, reduceMul]
       simp +decide only [LowD.addW, in3, zb, za, lowC, vI, vB, vS, hpin, hpin2, go_sem, reduceAdd, reduceMul]
theorem zmb (p : ProgramD) (hG : Right p) (l : List VarD) (hl : l.length <= 4194304) (hf : p.fns.length <= 1048576) (hn : p.nodes.length <= 1048576) (hk : ∀ x ∈ p.nodes, x.kids.length <= 300) (nm : ByteArray) (pn : Int) (n : Nat) : n < p.nodes.length -> zpT p l nm pn n /\ znt p l nm pn n /\ znu p l nm pn n := by
 induction n using Nat.strongRecOn with
 | ind n ih =>
 intro hnl
 have h2 := zlX p hG.deep l hl hn nm pn n hnl (fun m hm => (ih m hm (by omega)).1)
 exact ⟨znH p hG l hl hf hn hk nm pn n hnl (fun m hm => (ih m hm (by omega)).2.2), h2, zme p hG.deep l hl hn nm pn n hnl h2⟩
theorem zmJ (p : ProgramD) (hb : yX p = true) (fn : Nat) (hfl : fn < p.fns.length) (htb : yY p fn = true) (hf : p.fns.length <= 1048576) (hn : p.nodes.length <= 1048576) (hk : ∀ x ∈ p.nodes, x.kids.length <= 1048576) (hpl : ∀ f ∈ p.fns, f.params.length <= 1048576) :
   zB Tryz.prog 36 [.ro (zb p), .ro (.sc (.int .i64 fn))] (fun rs st => rs = if xE (Zt p (zP p fn) p.fns[fn]) then [(true, zm false (Zt p (zP p fn) p.fns[fn])), (false, [cB true])] else [(true, [cS ⟨#[]⟩, cI 0, .sc (.slice none 0 0), .sc (.slice none 0 0)]), (false, [cB false])]) := by
 have hG := yz hb
 have hk3 : ∀ x ∈ p.nodes, x.kids.length <= 300 := fun x hx => by have := hG.deep.few x hx; omega
 have hD := hG.deep
 have hty := zcq p hD fn hf hn hk3 hpl
 have ht0 := htb
 unfold yY at ht0
 rw [Bool.and_eq_true, Bool.and_eq_true, yE hfl] at ht0
 obtain ⟨ht1, htd, htr⟩ := ht0
 rw [ht1, if_pos rfl] at hty
 have hlf := zfs hG fn hfl
 have hlets := zmG hG fn hfl
 have hpar := fun i (hi : i < p.fns[fn].params.length) => zfr (p := p) fn hfl hi
 obtain ⟨⟨hb0, hbl⟩, hret⟩ := xp (hG.fn fn hfl)
 have hsm := zgJ (hG.fn fn hfl)
 have h20 : (nAt p.nodes p.fns[fn].body).kind = 20 := by
   have h1 := hG.fn fn hfl
   simp only [ZW, Bool.and_eq_true, Xz] at h1
   exact eq_of_beq h1.2.2.2.2.1.2
 have hrv : 0 <= p.fns[fn].ret -> yV (nAt p.nodes p.fns[fn].ret).kind = true := fun h0 => by
   have h1 := hG.fn fn hfl
   simp only [ZW, Bool.and_eq_true, zcK] at h1
   have h2 := h1.2.2.2.2.2
   split at h2
   · have := eq_of_beq h2; omega
   · exact (Bool.and_eq_true_iff.1 h2).2
 have hgr : 0 <= p.fns[fn].ret -> zjV p (zP p fn) p.fns[fn].ret.toNat := fun h0 => by
   left
   have h1 := hG.fn fn hfl
   simp only [ZW, Bool.and_eq_true, zcK] at h1
   have h2 := h1.2.2.2.2.2
   rw [show ((p.fns[fn].ret.toNat : Nat) : Int) = p.fns[fn].ret by omega]
   have h3 : decide (p.fns[fn].ret < 0) = false := decide_eq_false (by omega)
   rw [h3, Bool.false_or] at htr
   rw [eq_of_beq htr]
   intro hz
   rw [hz] at h2
   simp at h2
   omega
 have hx : (rows (fnC true) p.fns).getD fn [] = fnC true p.fns[fn] := zi _ _ hfl
 have hc1 : ((fn : Int) < (p.fns.length : Int)) = True := eq_true (by omega)
 have hone := zmu hb
 have hargs := zie hG (zP p fn) hfl
 generalize zP p fn = l at hgr htd htr hty hlf hlets hpar hargs |-
 generalize p.fns[fn] = f at hgr htd htr hargs hlets hpar hb0 hbl hret hsm h20 hrv hx |-
 obtain ⟨b, hbe⟩ : ∃ b : Nat, f.body = b := ⟨f.body.toNat, by omega⟩
 simp only [fnC, cI, cS] at hx
 rw [hbe] at hlets hbl h20 hx
 simp only [Int.toNat_natCast] at hlets hbl
 have hszb := Xa hD hone hG.few hbl
 have hnb : (rows (zg true) p.nodes).getD b [] = zg true p.nodes[b] := zi _ _ hbl
 have hcb : ((b : Int) < (p.nodes.length : Int)) = True := eq_true (by omega)
 rw [zI hbl] at h20
 have hkid := hD.kid hbl
 have hstp := yK (hD.deep b hbl) hbl h20
 have hgrow := zbj hD l hbl h20 (low0 l)
 have hszk := XN hD hbl
 have hown := hlets.own hD hbl
 have hkl : ∀ k ∈ p.nodes[b].kids, LetsIn p l k.toNat := fun k hk0 => hlets.kid hbl hk0
 have hfew := hD.few p.nodes[b] (List.getElem_mem hbl)
 have hpart := fun i (hi : i < p.nodes[b].kids.length) => zkc (z := szB p.nodes) p.nodes[b].kids hi
 have hgs : GoodS p l b := by unfold GoodS; rw [hbe] at htd; simpa using htd
 have hl0 : (low0 l).locs.length = l.length /\ (low0 l).words.length = 0 := by simp [low0]
 have hst := (zmb p hG l (by omega) hf hn hk3 f.name f.params.length b hbl).2.1 (by rw [zI hbl]; exact h20) hlets hgs (low0 l) (by omega) (by omega)
 rw [zI hbl] at hst
 have hdr := fun t h => zcM p hD l (by omega) hn f.name f.params.length b hbl hown t h
 have e1 : low1 p l f.body = blkS (lowS p l) p.nodes[b].kids (low0 l) := by unfold low1; rw [hbe, zI hbl]
 have e3 : low3 p l f = XI p l p.nodes[b].kids (low2 p l f).2 := by unfold low3; rw [hbe, zI hbl]
 generalize szB p.nodes (b : Int) = Zb at hszb hszk
 generalize p.nodes[b] = x at h20 hkid hstp hgrow hszk hown hkl hfew hpart hdr e1 e3 hnb hst
 refine zt (fn := Tryz.f36) (c := Tryz.f36.body.getD .skip) (res := [.ce 4 30, .tm 5]) (n := 96) ze (by kernel_rfl) (by rfl) (by kernel_rfl) (by rfl) (by rfl) (by simp [zq]) (fun uf ub C hpin hpin2 hfull => ?_)
 simp only [Tryz.f36, Option.getD_some]
 refine Tri.step ze ?_
 simp +decide only [zb, za, lowC, vI, vB, vS, hpin, go_sem, reduceAdd, reduceMul]
 refine Tri.ent ?_ (Ent.frb hfull 2)
 refine Tri.step ze ?_
 simp +decide only [hc1, hx, fnC, Int.natCast_nonneg, zb, za, lowC, vI, vB, vS, hpin, go_sem, reduceAdd, reduceMul]
 refine Tri.ent ?_ (Ent.frb hfull 6)
 simp only [zb] at hty
 refine Tri.step ze ?_
 simp +decide only [fnC, zb, za, lowC, vI, vB, vS, hpin, go_sem, reduceAdd, reduceMul]
 refine zd hty hpin ?_
 simp +decide only [fnC, zb, za, lowC, vI, vB, vS, hpin, go_sem, reduceAdd, reduceMul]
 refine Tri.ent ?_ (Ent.frz hfull 7)
 refine Tri.step ze ?_
 simp +decide only [fnC, zb, za, lowC, vI, vB, vS, hpin, go_sem, reduceAdd, reduceMul]
 refine Tri.ent ?_ (Ent.nilr 33 5 3)
 refine Tri.ent ?_ (Ent.nilr 33 6 139)
 refine Tri.stop ze ⟨96, [(2, .ip (za true p) 0), (4, .bp 4 0), (6, .ip [D.sc (.string f.name), .row true 107 (rows (zE true) f.params), .sc (.int .i64 f.res), .sc (.int .i64 b), .sc (.int .i64 f.ret)] 0), (9, .bp 33 0)], [(4, .box [.sc (.string ⟨#[]⟩), .sc (.int .i64 0), .sc (.slice none 0 0), .sc (.slice none 0 0)]), (33, .box (lowC p l f.name f.params.length (low0 l)))]⟩ ?_ ?_
 · simp +decide only [zb, za, lowC, vI, vB, vS, hpin, go_sem, reduceAdd, reduceMul]
   refine Tri.loop (ι := Nat) (fun i => i <= l.length) (fun i => ⟨96, [(2, .ip (za true p) 0), (4, .bp 4 0), (6, .ip [D.sc (.string f.name), .row true 107 (rows (zE true) f.params), .sc (.int .i64 f.res), .sc (.int .i64 b), .sc (.int .i64 f.ret)] 0), (9, .bp 33 0), (7, .imm 96 (rows (varC true) l)), (10, vI i)], [(4, .box [.sc (.string ⟨#[]⟩), .sc (.int .i64 0), .sc (.slice none 0 0), .sc (.slice none 0 0)]), (33, .box (lowC p l f.name f.params.length ⟨(l.map (·.ty)).take i, []⟩))]⟩) (fun i => l.length - i) 0 (by simp) ?_ ?_
   · refine Ent.weak ?_ ?_ ?_ ?_ <;> simp +decide [subT, subB, zl, zk, zo, St.get, look, vI, vB, vS, cI, cS, cB, zg, fnC, za, lowC, roI, rows, row1]
   · rintro i hi
     refine zf ze _ ?_
     by_cases h' : i < l.length
     · have e : ((i : Int) < (l.length : Int)) = True := by simp [h']
       have hvx : (rows (varC true) l).getD i [] = varC true l[i] := zi _ _ h'
       have hnx := zif l h'
       have hln : ((l.map (·.ty)).take i).length = i := by simp; omega
       have htm := zdo p l f.name f.params.length ⟨(l.map (·.ty)).take i, []⟩ l[i].ty (by simp only; omega)
       unfold LowD.addL at htm
       rw [<- hnx] at htm
       generalize l[i] = v at hvx htm
       obtain ⟨T1, hT1⟩ : ∃ T, T = (l.map (·.ty)).take (i + 1) := ⟨_, rfl⟩
       rw [<- hT1] at htm
       simp only [varC, cI, cS] at hvx
       simp only [lowC, cI] at htm
       simp +decide only [e, h', hvx, Int.natCast_nonneg, zb, za, lowC, vI, vB, vS, hpin, go_sem, reduceAdd, reduceMul]
       refine zw htm hpin hfull [(2000, 33)] [] [(2000, 33)] ⟨rfl, rfl, rfl, rfl⟩ (fun uf => ?_) ?_
       · simp +decide only [zb, za, lowC, vI, vB, vS, hpin, go_sem, reduceAdd, reduceMul]
       simp +decide only [zb, za, lowC, vI, vB, vS, hpin, go_sem, reduceAdd, reduceMul]
       refine ⟨i + 1, h', by omega, Ent.weak ?_ ?_ ?_ ?_⟩
       all_goals simp +decide [subT, subB, zl, zk, zo, St.get, look, vI, vB, vS, cI, cS, cB, zg, fnC, za, lowC, roI, <- hT1, w64s (n := l.length) h' (by omega)]
     · have hil : i = l.length := by omega
       subst hil
       have e : ((l.length : Int) < (l.length : Int)) = False := by simp
       have htt : (l.map (·.ty)).take l.length = l.map (·.ty) := by rw [List.take_of_length_le (by simp)]
       simp +decide only [e, zb, za, lowC, vI, vB, vS, hpin, go_sem, reduceAdd, reduceMul]
       refine Ent.weak ?_ ?_ ?_ ?_
       all_goals simp +decide [subT, subB, zl, zk, zo, St.get, look, vI, vB, vS, cI, cS, cB, zg, fnC, za, lowC, roI, low0, htt]
 have hq0 := YG (lowS p l) x.kids (low0 l)
 have hqe := YR (lowS p l) x.kids (low0 l)
 rw [<- e1] at hst
 simp only [lowC, cI] at hst
 refine Tri.step ze ?_
 simp +decide only [zb, za, lowC, vI, vB, vS, hpin, go_sem, reduceAdd, reduceMul]
 refine zw hst hpin hfull [(2000, 33)] [] [(2000, 33)] ⟨rfl, rfl, rfl, rfl⟩ (fun uf => ?_) ?_
 · simp +decide only [zb, za, lowC, vI, vB, vS, hpin, go_sem, reduceAdd, reduceMul]
 simp +decide only [zb, za, lowC, vI, vB, vS, hpin, go_sem, reduceAdd, reduceMul]
 have hg1 := hgrow x.kids.length (by omega)
 rw [List.take_length, hqe, <- e1] at hg1
 obtain ⟨g1, g2, g3, g4⟩ := hg1
 have h2e : low2 p l f = if decide (0 <= f.ret) then lowV p l f.ret (low1 p l f.body) else (-1, low1 p l f.body) := rfl
 have hrs : (0 <= f.ret) -> SoundAt Tryz.prog 110 (fun uf => zq 0 [.ro (.bp 2000 0), .ro (.sc (.int .i64 f.ret))]) [(2000, .box (lowC p l f.name f.params.length (low1 p l f.body)))]
     (fun rs st => rs = [(false, [cI (lowV p l f.ret (low1 p l f.body)).1])] /\ yh st.ob [(2000, .box (lowC p l f.name f.params.length (lowV p l f.ret (low1 p l f.body)).2))]) := fun h0 => by
   have hv2 := hrv h0
   obtain ⟨_, hrl⟩ := hret.resolve_left (by omega)
   have hszr := Xa hD hone hG.few hrl
   have e : f.ret = (f.ret.toNat : Int) := by omega
   rw [e] at hv2 |-
   exact zcu p hG l (by omega) hf hn hk3 f.name f.params.length f.ret.toNat hrl hv2 (hgr h0) _ (by omega) (by omega)
 have hle2 : (low1 p l f.body).le (low2 p l f).2 360000 := by
   rw [h2e]
   by_cases h0 : 0 <= f.ret
   · rw [if_pos (decide_eq_true h0)]
     obtain ⟨_, hrl⟩ := hret.resolve_left (by omega)
     have hszr := Xa hD hone hG.few hrl
     have e : f.ret = (f.ret.toNat : Int) := by omega
     rw [e]
     exact (zaZ hD l f.ret.toNat hrl _).mono hszr
   · rw [if_neg (by simpa using h0)]
     exact (LowD.le.refl _).mono (by omega)
 generalize low1 p l f.body = s1 at g1 g2 g3 g4 h2e hrs hle2 |-
 refine Tri.step ze ?_
 simp +decide only [zb, za, lowC, vI, vB, vS, hpin, go_sem, reduceAdd, reduceMul]
 refine Tri.stop ze ⟨96, [(2, .ip (za true p) 0), (4, .bp 4 0), (6, .ip [D.sc (.string f.name), .row true 107 (rows (zE true) f.params), .sc (.int .i64 f.res), .sc (.int .i64 b), .sc (.int .i64 f.ret)] 0), (9, .bp 33 0), (11, vI (low2 p l f).1)], [(4, .box [.sc (.string ⟨#[]⟩), .sc (.int .i64 0), .sc (.slice none 0 0), .sc (.slice none 0 0)]), (33, .box (lowC p l f.name f.params.length (low2 p l f).2))]⟩ ?_ ?_
 · by_cases h0 : 0 <= f.ret
   · have c0 : (0 <= f.ret) = True := eq_true h0
     rw [if_pos (decide_eq_true h0)] at h2e
     have hv := hrs h0
     rw [<- h2e] at hv
     simp only [lowC, cI] at hv
     simp +decide only [c0, ge_iff_le, zb, za, lowC, vI, vB, vS, hpin, go_sem, reduceAdd, reduceMul]
     refine zw hv hpin hfull [(2000, 33)] [] [(2000, 33)] ⟨rfl, rfl, rfl, rfl⟩ (fun uf => ?_) ?_
     · simp +decide only [zb, za, lowC, vI, vB, vS, hpin, go_sem, reduceAdd, reduceMul]
     simp +decide only [zb, za, lowC, vI, vB, vS, hpin, go_sem, reduceAdd, reduceMul]
     refine Ent.weak ?_ ?_ ?_ ?_
     all_goals simp +decide [subT, subB, zl, zk, zo, St.get, look, vI, vB, vS, cI, cS, cB, zg, fnC, za, lowC, roI]
   · have c0 : (0 <= f.ret) = False := eq_false h0
     rw [if_neg (by simpa using h0)] at h2e
     simp +decide only [c0, ge_iff_le, zb, za, lowC, vI, vB, vS, hpin, go_sem, reduceAdd, reduceMul]
     refine Ent.weak ?_ ?_ ?_ ?_
     all_goals simp +decide [subT, subB, zl, zk, zo, St.get, look, vI, vB, vS, cI, cS, cB, zg, fnC, za, lowC, roI, h2e]
 obtain ⟨k1, k2, k3, k4⟩ := hle2
 have hd3 := hdr (low2 p l f).2 (by omega)
 have hle3 := zde p l x.kids x.kids.length (low2 p l f).2
 have e3b : low3 p l f = zbg p l x.kids x.kids.length (low2 p l f).2 := e3
 rw [<- e3] at hd3
 rw [<- e3b] at hle3
 obtain ⟨m1, m2, m3, m4⟩ := hle3
 refine Tri.step ze ?_
 simp only [lowC, cI] at hd3
 simp +decide only [zb, za, lowC, vI, vB, vS, hpin, go_sem, reduceAdd, reduceMul]
 refine zw hd3 hpin hfull [(2000, 33)] [] [(2000, 33)] ⟨rfl, rfl, rfl, rfl⟩ (fun uf => ?_) ?_
 · simp +decide only [zb, za, lowC, vI, vB, vS, hpin, go_sem, reduceAdd, reduceMul]
 simp +decide only [zb, za, lowC, vI, vB, vS, hpin, go_sem, reduceAdd, reduceMul]
 have e4 : low4 p l f = parD f.params f.params.length (low3 p l f) := rfl
 have w1 : IntKind.i64.wrap ((f.params.length : Int) - 1) = (f.params.length : Int) - 1 := w64 (by omega) (by omega)
 have hle4 := zjb f.params f.params.length (low3 p l f)
 rw [<- e4] at hle4
 obtain ⟨n1, n2, n3, n4⟩ := hle4
 refine Tri.stop ze ⟨96, [(2, .ip (za true p) 0), (4, .bp 4 0), (6, .ip [D.sc (.string f.name), .row true 107 (rows (zE true) f.params), .sc (.int .i64 f.res), .sc (.int .i64 b), .sc (.int .i64 f.ret)] 0), (9, .bp 33 0), (11, vI (low2 p l f).1)], [(4, .box [.sc (.string ⟨#[]⟩), .sc (.int .i64 0), .sc (.slice none 0 0), .sc (.slice none 0 0)]), (33, .box (lowC p l f.name f.params.length (low4 p l f)))]⟩ ?_ ?_
 · simp +decide only [w1, zb, za, lowC, vI, vB, vS, hpin, go_sem, reduceAdd, reduceMul]
   refine Tri.loop (ι := Nat × LowD) (fun q => q.1 <= f.params.length /\ low4 p l f = parD f.params q.1 q.2 /\ q.2.words.length + q.1 <= 1048576) (fun q => ⟨96, [(2, .ip (za true p) 0), (4, .bp 4 0), (6, .ip [D.sc (.string f.name), .row true 107 (rows (zE true) f.params), .sc (.int .i64 f.res), .sc (.int .i64 b), .sc (.int .i64 f.ret)] 0), (9, .bp 33 0), (11, vI (low2 p l f).1), (12, vI ((q.1 : Int) - 1))], [(4, .box [.sc (.string ⟨#[]⟩), .sc (.int .i64 0), .sc (.slice none 0 0), .sc (.slice none 0 0)]), (33, .box (lowC p l f.name f.params.length q.2))]⟩) (fun q => q.1) (f.params.length, low3 p l f) ⟨by simp, e4, by simp only; omega⟩ ?_ ?_
   · refine Ent.weak ?_ ?_ ?_ ?_ <;> simp +decide [subT, subB, zl, zk, zo, St.get, look, vI, vB, vS, cI, cS, cB, zg, fnC, za, lowC, roI]
   · rintro ⟨j, t⟩ ⟨hj, hq, hw⟩
     simp only at hj hq hw |-
     refine zf ze _ ?_
     cases j with
     | zero =>
       have e : (0 <= (((0 : Nat) : Int) - 1)) = False := by simp
       have hq2 : low4 p l f = t := hq
       simp +decide only [e, ge_iff_le, vB, vI, zb, za, lowC, vI, vB, vS, hpin, go_sem, reduceAdd, reduceMul]
       refine Ent.weak ?_ ?_ ?_ ?_
       all_goals simp +decide [subT, subB, zl, zk, zo, St.get, look, vI, vB, vS, cI, cS, cB, zg, fnC, za, lowC, roI, hq2]
     | succ j =>
       have hjl : j < f.params.length := by omega
       rw [zhP f.params hjl] at hq
       have ej : (((j + 1 : Nat) : Int) - 1) = (j : Int) := by omega
       have e : (0 <= (j : Int)) = True := by simp
       have hjv : j < f.params.length := hjl
       have ejl : ((j : Int) < (f.params.length : Int)) = True := eq_true (by omega)
       have hvx : (rows (zE true) f.params).getD j [] = zE true f.params[j] := zi _ _ hjl
       generalize f.params[j] = y at hvx hq
       simp only [zE, cI, cS] at hvx
       have w2 : IntKind.i64.wrap ((j : Int) - 1) = (j : Int) - 1 := w64 (by omega) (by omega)
       cases h2 : y.ty == 2 with
       | false =>
         rw [h2, if_neg (by decide)] at hq
         simp +decide only [ej, e, ejl, hjv, hvx, h2, w2, ge_iff_le, Int.natCast_nonneg, vB, vI, zb, za, lowC, vI, vB, vS, hpin, go_sem, reduceAdd, reduceMul]
         refine ⟨(j, t), ⟨by show j <= _; omega, hq, by show t.words.length + j <= _; omega⟩, by show j < j + 1; omega, Ent.weak ?_ ?_ ?_ ?_⟩
         all_goals simp +decide [subT, subB, zl, zk, zo, St.get, look, vI, vB, vS, cI, cS, cB, zg, fnC, za, lowC, roI, w2]
       | true =>
         rw [h2, if_pos rfl] at hq
         have hadd := yG p l f.name f.params.length t 17 j 0 0 0 ⟨#[]⟩ (by omega)
         simp only [lowC, cI] at hadd
         simp +decide only [ej, e, ejl, hjv, hvx, h2, w2, ge_iff_le, Int.natCast_nonneg, vB, vI, zb, za, lowC, vI, vB, vS, hpin, go_sem, reduceAdd, reduceMul]
         refine zw hadd hpin hfull [(2000, 33)] [] [(2000, 33)] ⟨rfl, rfl, rfl, rfl⟩ (fun uf => ?_) ?_
         · simp +decide only [zb, za, lowC, vI, vB, vS, hpin, go_sem, reduceAdd, reduceMul]
         simp +decide only [w2, LowD.addW, zb, za, lowC, vI, vB, vS, hpin, go_sem, reduceAdd, reduceMul]
         refine ⟨(j, t.addW (in3 17 j 0)), ⟨by show j <= _; omega, hq, by show (t.words ++ [_]).length + j <= _; rw [List.length_append, List.length_singleton]; omega⟩, by show j < j + 1; omega, Ent.weak ?_ ?_ ?_ ?_⟩
         all_goals simp +decide [subT, subB, zl, zk, zo, St.get, look, vI, vB, vS, cI, cS, cB, zg, fnC, za, lowC, roI, LowD.addW, in3, w2]
 have e5 : low5 p l f = (low4 p l f).addW (in3 20 (low2 p l f).1 0) := rfl
 have hadd : SoundAt Tryz.prog 112 (fun uf => zq 0 [.ro (.bp 2000 0), .ro (.agg [.sc (.int .i64 20), .sc (.int .i64 (low2 p l f).1), .sc (.int .i64 0), .sc (.int .i64 0), .sc (.int .i64 0), .sc (.string ⟨#[]⟩), .sc (.slice none 0 0)])]) [(2000, .box (lowC p l f.name f.params.length (low4 p l f)))]
     (fun rs st => rs = [(false, [cI (low4 p l f).words.length])] /\ yh st.ob [(2000, .box (lowC p l f.name f.params.length (low5 p l f)))]) := by rw [e5]; exact yG p l f.name f.params.length (low4 p l f) 20 (low2 p l f).1 0 0 0 ⟨#[]⟩ (by omega)
 have hl5 : (low5 p l f).locs.length <= 1048576 /\ (low5 p l f).words.length <= 1048576 := by
   rw [e5]
   simp only [LowD.addW, List.length_append, List.length_singleton]
   omega
 have hck := zjL (Zt p l f) hl5.1 hl5.2 (fun y hy => by have := hargs y hy; omega)
 have hcw : zx (Zt p l f) = .agg [.sc (.string f.name), .sc (.int .i64 f.params.length), .imm 3 (row1 cI (low5 p l f).locs), .imm 139 (rows (insC true) (low5 p l f).words)] := rfl
 rw [hcw] at hck
 have hcc : zm false (Zt p l f) = [cS f.name, cI f.params.length, .row false 3 (row1 cI (low5 p l f).locs), .row false 139 (rows (insC false) (low5 p l f).words)] := rfl
 rw [hcc]
 generalize low5 p l f = s5 at hadd hck hl5 |-
 simp only [lowC, cI] at hadd
 refine Tri.step ze ?_
 simp +decide only [zb, za, lowC, vI, vB, vS, hpin, go_sem, reduceAdd, reduceMul]
 refine zw hadd hpin hfull [(2000, 33)] [] [(2000, 33)] ⟨rfl, rfl, rfl, rfl⟩ (fun uf => ?_) ?_
 · simp +decide only [zb, za, lowC, vI, vB, vS, hpin, go_sem, reduceAdd, reduceMul]
 simp +decide only [zb, za, lowC, vI, vB, vS, hpin, go_sem, reduceAdd, reduceMul]
 refine Tri.step ze ?_
 simp +decide only [zb, za, lowC, vI, vB, vS, hpin, go_sem, reduceAdd, reduceMul]
 have hta : List.take s5.locs.length (row1 cI s5.locs) = row1 cI s5.locs := yL cI s5.locs
 have htb : List.take s5.words.length (rows (insC false) s5.words) = rows (insC false) s5.words := yq (insC false) s5.words
 refine zd hck hpin ?_
 cases hok : xE (Zt p l f) with
 | false =>
   simp +decide only [hta, htb, zb, za, lowC, vI, vB, vS, hpin, go_sem, reduceAdd, reduceMul]
 | true =>
   simp +decide only [hta, htb, zb, za, lowC, vI, vB, vS, hpin, go_sem, reduceAdd, reduceMul]
   refine zf ze _ ?_
   simp +decide only [hta, htb, zb, za, lowC, vI, vB, vS, hpin, go_sem, reduceAdd, reduceMul]
def cd0 : CodeD := ⟨⟨#[]⟩, 0, [], []⟩
noncomputable def zbC (p : ProgramD) (fn : Int) : Bool := yu p && inI fn 0 (p.fns.length - 1)
noncomputable def zpo (p : ProgramD) (fn : Int) : Bool := zbC p fn && xE (Zt p (zP p fn) (fAt p.fns fn))
noncomputable def zaL (p : ProgramD) (fn : Int) : CodeD := if zbC p fn then Yx p (zP p fn) (fAt p.fns fn) else cd0
theorem Yv {p : ProgramD} (h : yu p = true) : yX p = true /\ ∀ i, i < p.fns.length -> yY p i = true := by
 unfold yu at h
 obtain ⟨h1, h2⟩ := Bool.and_eq_true_iff.1 h
 unfold xe at h1
 exact ⟨(Bool.and_eq_true_iff.1 h1).1, yN.1 h2⟩
theorem zgX {P : Program} {fid : FuncId} {gs : List Arg} {g b : Bool} {x : CodeD} (h : zB P fid gs (fun rs st => rs = if g then [(true, zm false x), (false, [cB b])] else [(true, [cS ⟨#[]⟩, cI 0, .sc (.slice none 0 0), .sc (.slice none 0 0)]), (false, [cB false])])) :
   zB P fid gs (fun rs st => rs = [(true, zm false (if g then x else cd0)), (false, [cB (g && b)])]) := by
 refine SoundAt.nilRs h (fun rs st hr => ⟨_, ?_, rfl⟩)
 rw [hr]
 cases g with
 | true =>
   simp only [if_true, Bool.true_and]
   exact ⟨rfl, fun i r r' h1 h2 => by rw [h1] at h2; cases h2; exact zdP _⟩
 | false =>
   simp only [Bool.false_eq_true, if_false, Bool.false_and]
   exact zgY false
theorem zeg (p : ProgramD) (hR : yu p = true) (fn : Nat) (hfl : fn < p.fns.length) (hf : p.fns.length <= 1048576) (hn : p.nodes.length <= 1048576) (hk : ∀ x ∈ p.nodes, x.kids.length <= 1048576) (hpl : ∀ f ∈ p.fns, f.params.length <= 1048576) :
   zB Tryz.prog 36 [.ro (zb p), .ro (.sc (.int .i64 fn))] (fun rs st => rs = [(true, zm false (Yx p (zP p fn) p.fns[fn])), (false, [cB (xE (Zt p (zP p fn) p.fns[fn]))])]) :=
 zeb p (zP p fn) p.fns[fn] (zmJ p (Yv hR).1 fn hfl ((Yv hR).2 fn hfl) hf hn hk hpl)
theorem zic (p : ProgramD) (fn : Int) (hf : p.fns.length <= 1048576) (hn : p.nodes.length <= 1048576) (hk : ∀ x ∈ p.nodes, x.kids.length <= 1048576) (hpl : ∀ f ∈ p.fns, f.params.length <= 1048576) :
   zB Tryz.prog 12 [.ro (zb p), .ro (.sc (.int .i64 fn))] (fun rs st => rs = [(true, zm false (zaL p fn)), (false, [cB (zpo p fn)])]) := by
 refine zgX ?_
 have w1 : IntKind.i64.wrap ((p.fns.length : Int) - 1) = (p.fns.length : Int) - 1 := w64 (by omega) (by omega)
 have htr := YZ p hf hn hk hpl
 simp only [zb] at htr
 refine zt (fn := Tryz.f12) (c := Tryz.f12.body.getD .skip) (res := [.ce 4 30, .tm 5]) (n := 24) ze (by kernel_rfl) (by rfl) (by kernel_rfl) (by rfl) (by rfl) (by simp [zq]) (fun uf ub C hpin hpin2 hfull => ?_)
 simp only [Tryz.f12, Option.getD_some]
 refine Tri.step ze ?_
 simp +decide only [zb, za, zm, hpin, go_sem, reduceAdd, reduceMul]
 refine Tri.ent ?_ (Ent.frb hfull 2)
 refine Tri.step ze ?_
 simp +decide only [zb, za, zm, hpin, go_sem, reduceAdd, reduceMul]
 refine zd htr hpin ?_
 cases hR : yu p with
 | false =>
   have hl : zbC p fn = false := by unfold zbC; rw [hR]; rfl
   simp +decide only [hl, zb, za, zm, hpin, go_sem, reduceAdd, reduceMul]
 | true =>
 simp +decide only [w1, zb, za, zm, hpin, go_sem, reduceAdd, reduceMul]
 refine zd (in' fn 0 (p.fns.length - 1)) hpin ?_
 cases h0 : inI fn 0 (p.fns.length - 1) with
 | false =>
   have hl : zbC p fn = false := by unfold zbC; rw [hR, h0]; rfl
   simp +decide only [hl, zb, za, zm, hpin, go_sem, reduceAdd, reduceMul]
 | true =>
   have hl : zbC p fn = true := by unfold zbC; rw [hR, h0]; rfl
   have hr := zu h0
   obtain ⟨f, rfl⟩ : ∃ f : Nat, fn = f := ⟨fn.toNat, by omega⟩
   have hfl : f < p.fns.length := by omega
   have hlo := zaK p (Yv hR).1 f hfl hf hn hk hpl
   rw [yE hfl]
   generalize Yx p (zP p f) p.fns[f] = L at hlo |-
   generalize xE (Zt p (zP p f) p.fns[f]) = cb at hlo |-
   simp only [zb, zm, cI, cS] at hlo
   simp +decide only [hl, zb, za, zm, hpin, go_sem, reduceAdd, reduceMul]
   refine zf ze _ ?_
   simp +decide only [zb, za, zm, hpin, go_sem, reduceAdd, reduceMul]
   refine zd hlo hpin ?_
   simp +decide only [zb, za, zm, hpin, go_sem, reduceAdd, reduceMul]
theorem zib (p : ProgramD) (fn : Int) (hf : p.fns.length <= 1048576) (hn : p.nodes.length <= 1048576) (hk : ∀ x ∈ p.nodes, x.kids.length <= 1048576) (hpl : ∀ f ∈ p.fns, f.params.length <= 1048576) :
   zB Tryz.prog 10 [.ro (zb p), .ro (.sc (.int .i64 fn))] (fun rs st => rs = [(true, zm false (zaL p fn)), (false, [cB (zpo p fn)])]) := by
 refine zgX ?_
 have w1 : IntKind.i64.wrap ((p.fns.length : Int) - 1) = (p.fns.length : Int) - 1 := w64 (by omega) (by omega)
 have htr := YY p hf hn hk hpl
 simp only [zb] at htr
 refine zt (fn := Tryz.f10) (c := Tryz.f10.body.getD .skip) (res := [.ce 4 30, .tm 5]) (n := 24) ze (by kernel_rfl) (by rfl) (by kernel_rfl) (by rfl) (by rfl) (by simp [zq]) (fun uf ub C hpin hpin2 hfull => ?_)
 simp only [Tryz.f10, Option.getD_some]
 refine Tri.step ze ?_
 simp +decide only [zb, za, zm, hpin, go_sem, reduceAdd, reduceMul]
 refine Tri.ent ?_ (Ent.frb hfull 2)
 refine Tri.step ze ?_
 simp +decide only [zb, za, zm, hpin, go_sem, reduceAdd, reduceMul]
 refine zd htr hpin ?_
 cases hR : yu p with
 | false =>
   have hl : zbC p fn = false := by unfold zbC; rw [hR]; rfl
   simp +decide only [hl, zb, za, zm, hpin, go_sem, reduceAdd, reduceMul]
 | true =>
 simp +decide only [w1, zb, za, zm, hpin, go_sem, reduceAdd, reduceMul]
 refine zd (yC fn 0 (p.fns.length - 1)) hpin ?_
 cases h0 : inI fn 0 (p.fns.length - 1) with
 | false =>
   have hl : zbC p fn = false := by unfold zbC; rw [hR, h0]; rfl
   simp +decide only [hl, zb, za, zm, hpin, go_sem, reduceAdd, reduceMul]
 | true =>
   have hl : zbC p fn = true := by unfold zbC; rw [hR, h0]; rfl
   have hr := zu h0
   obtain ⟨f, rfl⟩ : ∃ f : Nat, fn = f := ⟨fn.toNat, by omega⟩
   have hfl : f < p.fns.length := by omega
   have hlo := zeg p hR f hfl hf hn hk hpl
   rw [yE hfl]
   generalize Yx p (zP p f) p.fns[f] = L at hlo |-
   generalize xE (Zt p (zP p f) p.fns[f]) = cb at hlo |-
   simp only [zb, zm, cI, cS] at hlo
   simp +decide only [hl, zb, za, zm, hpin, go_sem, reduceAdd, reduceMul]
   refine zf ze _ ?_
   simp +decide only [zb, za, zm, hpin, go_sem, reduceAdd, reduceMul]
   refine zd hlo hpin ?_
   simp +decide only [zb, za, zm, hpin, go_sem, reduceAdd, reduceMul]
noncomputable def ZS (p : ProgramD) (i : Nat) : CodeD := Zt p (zP p i) (fAt p.fns i)
noncomputable def ZY (p : ProgramD) : Bool := yu p && zG (fun i => xE (ZS p i)) p.fns.length
noncomputable def xg (p : ProgramD) (i : Nat) : List CodeD := (List.range i).map (ZS p)
noncomputable def xC (p : ProgramD) : List CodeD := if ZY p then xg p p.fns.length else []
theorem xQ (p : ProgramD) (i : Nat) : (xg p i).length = i := by simp [xg]
theorem zcE (p : ProgramD) (i : Nat) : xg p (i + 1) = xg p i ++ [ZS p i] := by simp [xg, List.range_succ]
theorem zek : ∀ l : List InsD, sumN insN l <= 6 * l.length + sumN ZU l
 | [] => by simp [sumN]
 | x :: r => by
   have := zek r
   simp only [sumN, List.map_cons, List.sum_cons, List.length_cons] at this |-
   have e : insN x <= 6 + ZU x := by unfold insN ZU; omega
   omega
theorem zoi {c : CodeD} {x : InsD} (h : zdf c x = true) : ZU x <= 11 := by
 unfold zdf at h
 simp only [Bool.and_eq_true] at h
 obtain ⟨_, _, _, _, _, h⟩ := h
 unfold zlN at h
 unfold ZU
 split at h
 · simp only [Bool.and_eq_true, decide_eq_true_eq] at h
   obtain ⟨_, h1, h2⟩ := h
   unfold ZM at h1
   have := zu (Bool.and_eq_true_iff.1 h1).1
   omega
 · simp only [Bool.and_eq_true, decide_eq_true_eq, beq_iff_eq] at h
   obtain ⟨h1, h2⟩ := h
   rw [h1]
   have : (⟨#[]⟩ : ByteArray).size = 0 := rfl
   omega
theorem zfS {c : CodeD} (h : xE c = true) : c.locals.length <= 200 /\ c.words.length <= 400 /\ c.name.size <= 8 /\ sumN ZU c.words <= 4400 := by
 unfold xE at h
 simp only [Bool.and_eq_true, Bool.not_eq_true', decide_eq_false_iff_not] at h
 obtain ⟨h1, h2, h3, h4, h5, h6, h7⟩ := h
 have g4 := zu h4
 unfold ZM at h1
 have g1 := zu (Bool.and_eq_true_iff.1 h1).1
 have := zcW (f := ZU) (c := 11) c.words (fun x hx => zoi (List.all_eq_true.1 h7 x hx))
 omega
theorem zix {c : CodeD} (h : xE c = true) : yZ c <= 5008 := by
 have := zfS h
 unfold yZ
 omega
theorem zkC : yZ cd0 = 0 := rfl
theorem zjm (p : ProgramD) (l : List VarD) (f : FnD) : yZ (Yx p l f) <= 5008 := by
 unfold Yx
 split
 · rename_i h; exact zix h
 · show yZ cd0 <= 5008; rw [zkC]; omega
theorem zdW (p : ProgramD) (fn : Int) : yZ (zaL p fn) <= 5008 := by
 unfold zaL
 split
 · exact zjm _ _ _
 · rw [zkC]; omega
theorem zhZ (p : ProgramD) : (xC p).length <= 8 /\ ∀ c ∈ xC p, xE c = true := by
 unfold xC
 split
 · rename_i h
   unfold ZY at h
   obtain ⟨h1, h2⟩ := Bool.and_eq_true_iff.1 h
   have hb := (Yv h1).1
   unfold yX at hb
   simp only [Bool.and_eq_true] at hb
   have hfn := zu hb.2.1
   refine ⟨by rw [xQ]; omega, fun c hc => ?_⟩
   unfold xg at hc
   obtain ⟨i, hi, rfl⟩ := List.mem_map.1 hc
   exact yN.1 h2 i (List.mem_range.1 hi)
 · exact ⟨by simp, fun c hc => by simp at hc⟩
theorem zlh (p : ProgramD) : (xC p).length + sumN yZ (xC p) <= 40072 := by
 obtain ⟨h1, h2⟩ := zhZ p
 have := zcW (f := yZ) (c := 5008) (xC p) (fun c hc => zix (h2 c hc))
 omega
theorem zjl (p : ProgramD) : sumN xP (xC p) <= 1048576 := by
 obtain ⟨h1, h2⟩ := zhZ p
 have := zcW (f := xP) (c := 7010) (xC p) (fun c hc => by
   have h3 := zfS (h2 c hc)
   have h4 := zek c.words
   unfold xP
   omega)
 omega
theorem zid (p : ProgramD) (fn : Int) : (zaL p fn).locals.length + (zaL p fn).words.length + sumN insN (zaL p fn).words <= 1048576 := by
 have h1 := zdW p fn
 have h4 := zek (zaL p fn).words
 unfold yZ at h1
 omega
theorem ziw (l : List CodeD) (x : CodeD) : rows (zm false) l ++ [[D.sc (.string x.name), .sc (.int .i64 x.params), .row false 3 (row1 cI x.locals), .row false 139 (rows (insC false) x.words)]] = rows (zm false) (l ++ [x]) := zdy (zm false) l x
theorem zea {p : ProgramD} {l : List VarD} {f : FnD} (h : xE (Zt p l f) = true) : Yx p l f = Zt p l f := by unfold Yx; rw [if_pos h]
theorem XW (p : ProgramD) (hf : p.fns.length <= 1048576) (hn : p.nodes.length <= 1048576) (hk : ∀ x ∈ p.nodes, x.kids.length <= 1048576) (hpl : ∀ f ∈ p.fns, f.params.length <= 1048576) :
   zB Tryz.prog 19 [.ro (zb p)] (fun rs st => rs = [(false, [.row false 30 (rows (zm false) (xC p))]), (false, [cB (ZY p)])]) := by
 have htr := YZ p hf hn hk hpl
 simp only [zb] at htr
 have e0 : rows (zm false) ([] : List CodeD) = [] := rfl
 refine zt (fn := Tryz.f19) (c := Tryz.f19.body.getD .skip) (res := [.tm 2, .tm 3]) (n := 31) ze (by kernel_rfl) (by rfl) (by kernel_rfl) (by rfl) (by rfl) (by simp [zq]) (fun uf ub C hpin hpin2 hfull => ?_)
 simp only [Tryz.f19, Option.getD_some]
 refine Tri.step ze ?_
 simp +decide only [zb, za, zm, hpin, go_sem, reduceAdd, reduceMul]
 refine Tri.ent ?_ (Ent.frb hfull 1)
 refine Tri.step ze ?_
 simp +decide only [zb, za, zm, hpin, go_sem, reduceAdd, reduceMul]
 refine zd htr hpin ?_
 cases hR : yu p with
 | false =>
   have hl : ZY p = false := by unfold ZY; rw [hR]; rfl
   have hl2 : xC p = [] := by unfold xC; rw [hl]; rfl
   simp +decide only [hl, hl2, e0, zb, za, zm, hpin, go_sem, reduceAdd, reduceMul]
 | true =>
 have hG := yz (Yv hR).1
 have hlo := fun i (hi : i < p.fns.length) => zaK p (Yv hR).1 i hi hf hn hk hpl
 have hok : ZY p = zG (fun i => xE (ZS p i)) p.fns.length := by unfold ZY; rw [hR]; rfl
 simp +decide only [zb, za, zm, hpin, go_sem, reduceAdd, reduceMul]
 refine Tri.step ze ?_
 simp +decide only [zb, za, zm, hpin, go_sem, reduceAdd, reduceMul]
 refine Tri.ent ?_ (Ent.own 4 30 4 (hpin 4 rfl))
 refine Tri.step ze ?_
 simp +decide only [zb, za, zm, hpin, go_sem, reduceAdd, reduceMul]
 refine Tri.loop (ι := Nat) (fun i => i <= p.fns.length /\ zG (fun i => xE (ZS p i)) i = true) (fun i => ⟨31, [(1, .ip (za true p) 0), (4, .ref 4 [] i), (13, vI p.fns.length), (14, vI i)], [(4, .row 30 (rows (zm false) (xg p i)))]⟩) (fun i => p.fns.length - i) 0 ⟨by simp, by simp [zG]⟩ ?_ ?_
 · refine Ent.weak ?_ ?_ ?_ ?_ <;> simp +decide [subT, subB, zl, zk, zo, St.get, look, vI, vB, vS, cI, cS, cB, zg, za, zm, roI, rows, xg]
 · rintro i ⟨hi, hq⟩
   refine zf ze _ ?_
   have htl := xQ p i
   by_cases h' : i < p.fns.length
   · have e : ((i : Int) < (p.fns.length : Int)) = True := by simp [h']
     have hcall := hlo i h'
     have hat : ZS p i = Zt p (zP p i) p.fns[i] := by unfold ZS; rw [yE h']
     have hsn := ziw (xg p i) (ZS p i)
     rw [<- zcE] at hsn
     rw [<- hat] at hcall
     have hrg : xE (ZS p i) = true -> Yx p (zP p i) p.fns[i] = ZS p i := fun hc => by rw [hat] at hc |-; exact zea hc
     generalize Yx p (zP p i) p.fns[i] = L at hcall hrg
     simp only [zb, zm, cI, cS] at hcall
     have hb1 : i + 1 <= 140737488355328 := by omega
     have hb2 : (i + 1) * 72 <= 140737488355328 := by omega
     simp +decide only [e, h', Int.natCast_nonneg, vB, vI, zb, za, zm, hpin, go_sem, reduceAdd, reduceMul]
     refine zd hcall hpin ?_
     cases hc : xE (ZS p i) with
     | false =>
       have hff : zG (fun i => xE (ZS p i)) p.fns.length = false := zy h' hc
       have hl : ZY p = false := by rw [hok, hff]
       have hl2 : xC p = [] := by unfold xC; rw [hl]; rfl
       simp +decide only [hl, hl2, e0, zb, za, zm, hpin, go_sem, reduceAdd, reduceMul]
     | true =>
       rw [hrg hc]
       have hq2 : zG (fun i => xE (ZS p i)) (i + 1) = true := by rw [zM, hq, hc]; rfl
       obtain ⟨T, hT⟩ : ∃ T, T = xg p (i + 1) := ⟨_, rfl⟩
       rw [<- hT] at hsn
       generalize xg p i = T0 at htl hsn |-
       generalize ZS p i = y at hsn hc
       have hlen : T.length = i + 1 := by rw [hT, xQ]
       simp +decide only [htl, hlen, hb1, hb2, hsn, zb, za, zm, hpin, go_sem, reduceAdd, reduceMul]
       refine ⟨i + 1, ⟨h', hq2⟩, by omega, Ent.weak ?_ ?_ ?_ ?_⟩
       all_goals simp +decide [subT, subB, zl, zk, zo, St.get, look, vI, vB, vS, cI, cS, cB, zg, za, zm, roI, hsn, <- hT, w64s (n := p.fns.length) h' (by omega)]
   · have hil : i = p.fns.length := by omega
     subst hil
     have e : ((p.fns.length : Int) < (p.fns.length : Int)) = False := by simp
     have hl : ZY p = true := by rw [hok, hq]
     have hl2 : xC p = xg p p.fns.length := by unfold xC; rw [hl]; rfl
     simp +decide only [e, hl, hl2, htl, vB, vI, zb, za, zm, hpin, go_sem, reduceAdd, reduceMul]
     refine zf ze _ ?_
     simp +decide only [htl, zb, za, zm, hpin, go_sem, reduceAdd, reduceMul]
theorem zdX (p : ProgramD) (hf : p.fns.length <= 1048576) (hn : p.nodes.length <= 1048576) (hk : ∀ x ∈ p.nodes, x.kids.length <= 1048576) (hpl : ∀ f ∈ p.fns, f.params.length <= 1048576) :
   zB Tryz.prog 18 [.ro (zb p)] (fun rs st => rs = [(false, [.row false 30 (rows (zm false) (xC p))]), (false, [cB (ZY p)])]) := by
 have htr := YY p hf hn hk hpl
 simp only [zb] at htr
 have e0 : rows (zm false) ([] : List CodeD) = [] := rfl
 refine zt (fn := Tryz.f18) (c := Tryz.f18.body.getD .skip) (res := [.tm 2, .tm 3]) (n := 34) ze (by kernel_rfl) (by rfl) (by kernel_rfl) (by rfl) (by rfl) (by simp [zq]) (fun uf ub C hpin hpin2 hfull => ?_)
 simp only [Tryz.f18, Option.getD_some]
 refine Tri.step ze ?_
 simp +decide only [zb, za, zm, hpin, go_sem, reduceAdd, reduceMul]
 refine Tri.ent ?_ (Ent.frb hfull 1)
 refine Tri.step ze ?_
 simp +decide only [zb, za, zm, hpin, go_sem, reduceAdd, reduceMul]
 refine Tri.step ze ?_
 simp +decide only [zb, za, zm, hpin, go_sem, reduceAdd, reduceMul]
 refine zd htr hpin ?_
 cases hR : yu p with
 | false =>
   have hl : ZY p = false := by unfold ZY; rw [hR]; rfl
   have hl2 : xC p = [] := by unfold xC; rw [hl]; rfl
   simp +decide only [hl, hl2, e0, zb, za, zm, hpin, go_sem, reduceAdd, reduceMul]
 | true =>
 have hG := yz (Yv hR).1
 have hlo := fun i (hi : i < p.fns.length) => zeg p hR i hi hf hn hk hpl
 have hok : ZY p = zG (fun i => xE (ZS p i)) p.fns.length := by unfold ZY; rw [hR]; rfl
 simp +decide only [zb, za, zm, hpin, go_sem, reduceAdd, reduceMul]
 refine Tri.step ze ?_
 simp +decide only [zb, za, zm, hpin, go_sem, reduceAdd, reduceMul]
 refine Tri.loop (ι := Nat) (fun i => i <= p.fns.length /\ zG (fun i => xE (ZS p i)) i = true) (fun i => ⟨34, [(1, .ip (za true p) 0), (4, .ref 4 [] i), (5, vI i)], [(4, .row 30 (rows (zm false) (xg p i)))]⟩) (fun i => p.fns.length - i) 0 ⟨by simp, by simp [zG]⟩ ?_ ?_
 · refine Ent.weak ?_ ?_ ?_ ?_ <;> simp +decide [subT, subB, zl, zk, zo, St.get, look, vI, vB, vS, cI, cS, cB, zg, za, zm, roI, rows, xg]
 · rintro i ⟨hi, hq⟩
   refine zf ze _ ?_
   have htl := xQ p i
   by_cases h' : i < p.fns.length
   · have e : ((i : Int) < (p.fns.length : Int)) = True := by simp [h']
     have hcall := hlo i h'
     have hat : ZS p i = Zt p (zP p i) p.fns[i] := by unfold ZS; rw [yE h']
     have hsn := ziw (xg p i) (ZS p i)
     rw [<- zcE] at hsn
     rw [<- hat] at hcall
     have hrg : xE (ZS p i) = true -> Yx p (zP p i) p.fns[i] = ZS p i := fun hc => by rw [hat] at hc |-; exact zea hc
     generalize Yx p (zP p i) p.fns[i] = L at hcall hrg
     simp only [zb, zm, cI, cS] at hcall
     have hb1 : i + 1 <= 140737488355328 := by omega
     have hb2 : (i + 1) * 72 <= 140737488355328 := by omega
     simp +decide only [e, h', Int.natCast_nonneg, vB, vI, zb, za, zm, hpin, go_sem, reduceAdd, reduceMul]
     refine zd hcall hpin ?_
     cases hc : xE (ZS p i) with
     | false =>
       have hff : zG (fun i => xE (ZS p i)) p.fns.length = false := zy h' hc
       have hl : ZY p = false := by rw [hok, hff]
       have hl2 : xC p = [] := by unfold xC; rw [hl]; rfl
       simp +decide only [hl, hl2, e0, zb, za, zm, hpin, go_sem, reduceAdd, reduceMul]
     | true =>
       rw [hrg hc]
       have hq2 : zG (fun i => xE (ZS p i)) (i + 1) = true := by rw [zM, hq, hc]; rfl
       obtain ⟨T, hT⟩ : ∃ T, T = xg p (i + 1) := ⟨_, rfl⟩
       rw [<- hT] at hsn
       generalize xg p i = T0 at htl hsn |-
       generalize ZS p i = y at hsn hc
       have hlen : T.length = i + 1 := by rw [hT, xQ]
       simp +decide only [htl, hlen, hb1, hb2, hsn, zb, za, zm, hpin, go_sem, reduceAdd, reduceMul]
       refine ⟨i + 1, ⟨h', hq2⟩, by omega, Ent.weak ?_ ?_ ?_ ?_⟩
       all_goals simp +decide [subT, subB, zl, zk, zo, St.get, look, vI, vB, vS, cI, cS, cB, zg, za, zm, roI, hsn, <- hT, w64s (n := p.fns.length) h' (by omega)]
   · have hil : i = p.fns.length := by omega
     subst hil
     have e : ((p.fns.length : Int) < (p.fns.length : Int)) = False := by simp
     have hl : ZY p = true := by rw [hok, hq]
     have hl2 : xC p = xg p p.fns.length := by unfold xC; rw [hl]; rfl
     simp +decide only [e, hl, hl2, htl, vB, vI, zb, za, zm, hpin, go_sem, reduceAdd, reduceMul]
     refine zf ze _ ?_
     simp +decide only [htl, zb, za, zm, hpin, go_sem, reduceAdd, reduceMul]
theorem zff (x : CodeD) (k : Int) (h0 : 0 <= k) (h1 : k + x.locals.length + (sumN insN x.words : Nat) < 4611686018427387904) (h2 : x.locals.length <= 1048576) :
   zB Tryz.prog 17 [.ro (.agg [.sc (.string x.name), .sc (.int .i64 x.params), roI (Zk k x.locals.length), .imm 139 (rows (insC true) (Zm (k + x.locals.length) x.words))]), .ro (.sc (.int .i64 k))] (fun rs st => rs = [(false, [cI ((k + x.locals.length) + (sumN insN x.words : Nat))])]) := by
 have n0 : ((k + x.locals.length : Int) < 0) = False := by simp; omega
 have n1 : (((k + x.locals.length) + (sumN insN x.words : Nat) : Int) < 0) = False := by simp; omega
 refine zn (fn := Tryz.f17) (c := Tryz.f17.body.getD .skip) (res := [.tm 4]) (n := 18) ze (by kernel_rfl) (by rfl) (by kernel_rfl) (by rfl) (by rfl) (by simp [zq]) (fun C hpin hfull => ?_)
 simp +decide only [Tryz.f17, zb, za, zm, hpin, go_sem, reduceAdd, reduceMul]
 refine zd (Xw (Zk k x.locals.length) k (by rw [zh]; omega) (by omega) (by rw [zh]; omega)) hpin ?_
 simp +decide only [n0, zaY, zb, za, zm, hpin, go_sem, reduceAdd, reduceMul]
 refine zd (zaO x.words (k + x.locals.length) (by omega) (by omega)) hpin ?_
 simp +decide only [n1, zb, za, zm, hpin, go_sem, reduceAdd, reduceMul]
end Go.Proofs.YtjjigphfjclofaaGreatDoor.AW
