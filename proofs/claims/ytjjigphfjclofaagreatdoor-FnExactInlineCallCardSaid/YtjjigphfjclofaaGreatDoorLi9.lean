/- What the statements of this set lean on, part 9. No condition beyond those named. -/
import Derived.Test.YtjjigphfjclofaaGreatDoorLi8
namespace Go.Proofs.YtjjigphfjclofaaGreatDoor.AW
open Go.RowKit
open Nat (reduceAdd reduceMul)
set_option maxHeartbeats 8000000
set_option maxRecDepth 100000
set_option linter.unusedSimpArgs false
set_option linter.unusedVariables false
section
variable {P : Program} {w w1 : World} {C : Cx} {X : Nat -> Prop} {gh gh1 : Gh} {st : St} {a : Act} {v : Value} {u : Value} {ob : List (Nat × Ob)} {S : Nat -> Prop} {K : St -> Prop}
theorem VR.same {k : Nat} {x0 : Nat × Nat} {e : TypeId} {es : List (List D)} (hR : Rep P C X st a w gh) (hpk : C.pin k = some (v, x0)) (hk : look st.ob k = some (.row e es)) {x : V} {y : Value} (h : VR P w gh st.ob x y) : VR P w gh st.ob (zfH k v es.length x) y := by
 have hv : gh.hv k = v := by
   have := hR.pins k _ hpk (by rw [hk]; simp)
   exact congrArg (·.1) this
 have hrow : Ow P w gh.S (.row false e es) (gh.hv k) (gh.F k) := by
   have := hR.obs k _ hk
   cases this with | row h => exact h
 obtain ⟨A, c, hA⟩ := hrow.sliceV
 unfold zfH
 split
 · split
   · rename_i u huv
     cases h with
     | sc h1 =>
       rw [huv, <- hv, hA]
       exact VR.whole hk hA (Nat.le_refl _)
   · exact h
 · exact h
theorem zlh {f : FuncId} {vs : List V} {d : Option Nat} {k : Nat} {x0 : Nat × Nat} {e : TypeId} {es : List (List D)} (hpk : C.pin k = some (v, x0)) (hk : look st.ob k = some (.row e es)) (h : Yg (b := ⟨K⟩) P C st f (vs.map (zfH k v es.length)) d) : Yg (b := ⟨K⟩) P C st f vs d := by
 unfold Yg zli at h |-
 have hv : ∀ (a : Act) (w : World) (gh : Gh) (us : Array Value), Rep P C No st a w gh -> (∀ i x, vs[i]? = some x -> VR P w gh st.ob x (us.getD i undef)) -> ∀ i x, (vs.map (zfH k v es.length))[i]? = some x -> VR P w gh st.ob x (us.getD i undef) := fun a w gh us hR hh i x hx => by
   rw [List.getElem?_map] at hx
   obtain ⟨z, hz, rfl⟩ := Option.map_eq_some_iff.1 hx
   exact VR.same hR hpk hk (hh i z hz)
 rcases h with ⟨h1, h⟩ | ⟨h1, h⟩
 · exact Or.inl ⟨h1, fun a w gh us hR hus hh hd => h a w gh us hR (by simpa using hus) (hv a w gh us hR hh) hd⟩
 · exact Or.inr ⟨h1, fun a w gh us hR hus hh hd => h a w gh us hR (by simpa using hus) (hv a w gh us hR hh) hd⟩
theorem Tri.fix (k o t : Nat) {e : TypeId} {es : List (List D)} {c : Code} {Q : Exit -> St -> Prop} (ho : look st.ob o = some (.row e es)) (ht : st.get t = .ref o [] es.length) (hk : look st.ob k = none)
   (h : ∀ y : Value × Nat × Nat, (∃ A c, y.1 = .slice A es.length c) -> Tri P (C.repin k (some y)) (((st.kill o).fresh k (.row e es)).set t (.sc y.1)) c (fun e s => look s.ob k = none /\ Q e s)) : Tri P C st c Q := fun a w gh hR => by
 have hrow : Ow P w gh.S (.row false e es) (gh.hv o) (gh.F o) := by
   have := hR.obs o _ ho
   cases this with | row h => exact h
 obtain ⟨A, c, hA⟩ := hrow.sliceV
 have hval : a.tmps.getD t undef = gh.hv o := by
   have hv := hR.tms t
   rw [ht] at hv
   generalize a.tmps.getD t undef = u at hv
   cases hv with
   | @ref _ _ _ x e1 es1 A1 c1 hx hn hle =>
     rw [ho] at hx; cases hx
     obtain ⟨rfl, rfl, h3⟩ := xz hn
     exact h3.symm
 have h1 := hR.repin k none (fun y hy => by cases hy)
 obtain ⟨gh', h2, hS, hv⟩ := h1.rename ho (Cx.repin_self C k none)
 have h3 := h2.repin k (some (gh.hv o, gh'.bb k, gh'.bo k)) (fun y hy _ => by cases hy; rw [hv])
 rw [Cx.repin_repin] at h3
 have h4 := h3.set0 (v := .sc (gh.hv o)) (d := t) (by rw [hval]; exact .sc hrow.one)
 exact Code.wp_mono (fun e a' w' ⟨s, g, hq, hr⟩ => ⟨s, g, hq.2, hr.unpin hq.1⟩) (h (gh.hv o, gh'.bb k, gh'.bo k) ⟨A, c, hA⟩ a w _ h4)
end
theorem znj {L : List Int} {i : Nat} (h : i < L.length) (k : Int) : (L.take (i + 1)).contains k = ((L.take i).contains k || L[i] == k) := by
 rw [List.take_succ_eq_append_getElem h, Bool.eq_iff_iff]
 simp only [Bool.or_eq_true, List.contains_iff_mem, List.mem_append, List.mem_singleton, beq_iff_eq]
 exact or_congr Iff.rfl ⟨fun h => h.symm, fun h => h.symm⟩
theorem zbS (p : ProgramD) (fn k : Int) (hf : p.fns.length <= 1048576) (hn : p.nodes.length <= 1048576) (hk : ∀ x ∈ p.nodes, x.kids.length <= 1048576) (hpl : ∀ f ∈ p.fns, f.params.length <= 1048576) :
   zw Tryz.prog 28 [.ro (zb p), .ro (.sc (.int .i64 fn)), .ro (.sc (.int .i64 k))] (fun rs st => rs = [(true, za false (inlP p fn k)), (false, [cI (yo p fn k)])]) := by
 have w1 : IntKind.i64.wrap ((p.fns.length : Int) - 1) = (p.fns.length : Int) - 1 := w64 (by omega) (by omega)
 have htr := Yt p hf hn hk hpl
 have hcp := zfZ p hf hn hk hpl
 have hfs := zmZ p fn hf hn hk
 have hll := zee p fn
 simp only [zb, za] at htr hcp hfs
 refine zn (fn := Tryz.f28) (c := Tryz.f28.body.getD .skip) (res := [.ce 6 36, .tm 7]) (n := 173) zf (by kernel_rfl) (by rfl) (by kernel_rfl) (by rfl) (by rfl) (by simp [zu]) (fun uf ub C hpin hpin2 hfull => ?_)
 simp only [Tryz.f28, Option.getD_some]
 refine Tri.step zf ?_
 simp +decide only [zh, zJ, zb, za, hpin, go_sem, reduceAdd, reduceMul]
 refine Tri.ent ?_ (Ent.frb hfull 3)
 refine Tri.step zf ?_
 simp +decide only [zh, zJ, zb, za, hpin, go_sem, reduceAdd, reduceMul]
 refine zd hcp hpin ?_
 simp +decide only [zh, zJ, zb, za, hpin, go_sem, reduceAdd, reduceMul]
 refine Tri.step zf ?_
 simp +decide only [zh, zJ, zb, za, hpin, go_sem, reduceAdd, reduceMul]
 refine zd htr hpin ?_
 cases hR : ya p with
 | false =>
   have e1 : inlP p fn k = p := by unfold inlP; rw [hR]; rfl
   have e2 : yo p fn k = 1 := by unfold yo; rw [hR]; rfl
   simp +decide only [e1, e2, zh, zJ, zb, za, hpin, go_sem, reduceAdd, reduceMul]
 | true =>
 simp +decide only [w1, zh, zJ, zb, za, hpin, go_sem, reduceAdd, reduceMul]
 refine zd (xC fn 0 (p.fns.length - 1)) hpin ?_
 cases h0 : inI fn 0 (p.fns.length - 1) with
 | false =>
   have e1 : inlP p fn k = p := by unfold inlP; rw [hR, h0]; rfl
   have e2 : yo p fn k = 1 := by unfold yo; rw [hR, h0]; rfl
   simp +decide only [e1, e2, zh, zJ, zb, za, hpin, go_sem, reduceAdd, reduceMul]
 | true =>
 have hr := zA h0
 simp +decide only [zh, zJ, zb, za, hpin, go_sem, reduceAdd, reduceMul]
 refine Tri.step zf ?_
 simp +decide only [zh, zJ, zb, za, hpin, go_sem, reduceAdd, reduceMul]
 refine zd hfs hpin ?_
 simp +decide only [zh, zJ, zb, za, hpin, go_sem, reduceAdd, reduceMul]
 refine Tri.ent ?_ (Ent.frz hfull 9)
 obtain ⟨L, hL⟩ : ∃ L, fnNs p fn = L := ⟨_, rfl⟩
 have hsh : shLL (row1 cI L) = row1 cI L := xP L
 rw [hL] at hll
 refine Tri.stop zf ⟨173, [(2, .sc (.int .i64 k)), (3, .ip (za true p) 0), (6, .bp 6 0), (8, .bp 8 0), (9, roI L), (10, vB false)], [(6, .box [.sc (.slice none 0 0), .sc (.slice none 0 0)]), (8, .box (za false p))]⟩ ?_ ?_
 · rw [hL]
   simp +decide only [hsh, zh, zJ, zb, za, hpin, go_sem, reduceAdd, reduceMul]
   refine Ent.weak ?_ ?_ ?_ ?_ <;> simp +decide [zQ, yp, subT, subB, zl, zk, zm, St.get, look, vI, vB, vS, cI, cS, cB, zg, fnC, zq, za, roI]
 refine Tri.stop zf ⟨173, [(2, .sc (.int .i64 k)), (3, .ip (za true p) 0), (6, .bp 6 0), (8, .bp 8 0), (10, vB (L.contains k))], [(6, .box [.sc (.slice none 0 0), .sc (.slice none 0 0)]), (8, .box (za false p))]⟩ ?_ ?_
 · obtain ⟨g, hg⟩ : ∃ g : Nat -> Bool, g = fun i => (L.take i).contains k := ⟨_, rfl⟩
   have hg0 : g 0 = false := by rw [hg]; rfl
   have hgE : g L.length = L.contains k := by rw [hg]; simp only [List.take_length]
   have hgS : ∀ i (h : i < L.length), g (i + 1) = (g i || L[i] == k) := fun i h => by rw [hg]; exact znj h k
   rw [<- hgE]
   clear hg hgE
   simp +decide only [vB, zh, zJ, zb, za, hpin, go_sem, reduceAdd, reduceMul]
   refine Tri.loop (ι := Nat) (fun i => i <= L.length) (fun i => ⟨173, [(2, .sc (.int .i64 k)), (3, .ip (za true p) 0), (6, .bp 6 0), (8, .bp 8 0), (9, roI L), (10, vB (g i)), (11, vI i)], [(6, .box [.sc (.slice none 0 0), .sc (.slice none 0 0)]), (8, .box (za false p))]⟩) (fun i => L.length - i) 0 (by simp) ?_ ?_
   · refine Ent.weak ?_ ?_ ?_ ?_ <;> simp +decide [zQ, yp, subT, subB, zl, zk, zm, St.get, look, vI, vB, vS, cI, cS, cB, zg, fnC, zq, za, roI, hg0]
   · rintro i hi
     refine ze zf _ ?_
     by_cases h' : i < L.length
     · have e : ((i : Int) < (L.length : Int)) = True := by simp [h']
       have hth := hgS i h'
       cases hc : g i with
       | true =>
         rw [hc, Bool.true_or] at hth
         simp +decide only [e, h', hc, zt _ _ h', Int.natCast_nonneg, vB, vI, zh, zJ, zb, za, hpin, go_sem, reduceAdd, reduceMul]
         refine ⟨i + 1, h', by omega, Ent.weak ?_ ?_ ?_ ?_⟩
         all_goals simp +decide [zQ, yp, subT, subB, zl, zk, zm, St.get, look, vI, vB, vS, cI, cS, cB, zg, fnC, zq, za, roI, hth, w64s (n := L.length) h' (by omega)]
       | false =>
         rw [hc, Bool.false_or] at hth
         simp +decide only [e, h', hc, zt _ _ h', Int.natCast_nonneg, vB, vI, zh, zJ, zb, za, hpin, go_sem, reduceAdd, reduceMul]
         refine ⟨i + 1, h', by omega, Ent.weak ?_ ?_ ?_ ?_⟩
         all_goals simp +decide [zQ, yp, subT, subB, zl, zk, zm, St.get, look, vI, vB, vS, cI, cS, cB, zg, fnC, zq, za, roI, hth, w64s (n := L.length) h' (by omega)]
     · have hil : i = L.length := by omega
       subst hil
       have e : ((L.length : Int) < (L.length : Int)) = False := by simp
       simp +decide only [e, vB, vI, zh, zJ, zb, za, hpin, go_sem, reduceAdd, reduceMul]
       refine Ent.weak ?_ ?_ ?_ ?_
       all_goals simp +decide [zQ, yp, subT, subB, zl, zk, zm, St.get, look, vI, vB, vS, cI, cS, cB, zg, fnC, zq, za, roI]
 rw [<- hL]
 refine Tri.step zf ?_
 cases hhk : (fnNs p fn).contains k with
 | false =>
   have e1 : inlP p fn k = p := by unfold inlP; rw [hR, h0, hhk]; rfl
   have e2 : yo p fn k = 3 := by unfold yo; rw [hR, h0, hhk]; rfl
   rcases YS p.nodes k.toNat with ⟨x, hxk⟩ | hxk
   all_goals simp +decide only [e1, e2, hxk, zg, vB, zh, zJ, zb, za, hpin, go_sem, reduceAdd, reduceMul]
 | true =>
 obtain ⟨k0, k1⟩ := zgm hhk
 have z0 : (0 <= k) = True := eq_true k0
 have z1 : (k < (p.nodes.length : Int)) = True := eq_true (by omega)
 have hxk : (rows (zg true) p.nodes).getD k.toNat [] = zg true p.nodes[k.toNat] := zi _ _ k1
 have hnk : nAt p.nodes k = p.nodes[k.toNat] := by have := zG k1; rwa [show ((k.toNat : Nat) : Int) = k by omega] at this
 cases h12 : (nAt p.nodes k).kind == 12 with
 | false =>
   have h13 := h12
   rw [hnk] at h13
   have e1 : inlP p fn k = p := by unfold inlP; rw [hR, h0, hhk, h12]; rfl
   have e2 : yo p fn k = 3 := by unfold yo; rw [hR, h0, hhk, h12]; rfl
   simp +decide only [e1, e2, z0, z1, k1, hxk, h13, bne, zg, vB, zh, zJ, zb, za, hpin, go_sem, reduceAdd, reduceMul]
 | true =>
 have h13 := h12
 rw [hnk] at h13
 obtain ⟨f, rfl⟩ : ∃ f : Nat, fn = f := ⟨fn.toNat, by omega⟩
 have hfl : f < p.fns.length := by omega
 obtain ⟨n, j, rfl, hC⟩ := zmR hR hfl hhk h12
 have hnl := hC.hn
 have hjl := hC.hj
 have hplj := hpl p.fns[j] (List.getElem_mem hjl)
 simp only [Int.toNat_natCast] at h13 hxk k1
 have hat := Xf p p.nodes[n].name hf
 rw [hC.at_] at hat
 have hst := fun k => zgT p k hn hk
 have hqu := zhl p p.fns[j].ret hn hk
 have hxj : (rows (fnC true) p.fns).getD j [] = fnC true p.fns[j] := zi _ _ hjl
 have hcj : ((j : Int) < (p.fns.length : Int)) = True := eq_true (by omega)
 obtain ⟨b, hbe⟩ : ∃ b : Nat, p.fns[j].body = b := ⟨p.fns[j].body.toNat, by have := hC.body; omega⟩
 have hbl : b < p.nodes.length := by have := hC.body; rw [hbe] at this; omega
 have c2 : ((b : Int) < (p.nodes.length : Int)) = True := eq_true (by omega)
 have hxb : (rows (zg true) p.nodes).getD b [] = zg true p.nodes[b] := zi _ _ hbl
 have hWd : ZX p p.nodes[n] p.fns[j] = (p.fns[j].params.all (fun q => q.ty == 1) && (p.nodes[n].kids.all (fun kid => xm p.nodes true kid) && ((decide (0 <= p.fns[j].ret) && decide (p.nodes[b].kids.length = 0)) && xm p.nodes false p.fns[j].ret))) := by
   unfold ZX
   rw [hbe, zG hbl]
 have hno : ZX p p.nodes[n] p.fns[j] = false -> inlP p f n = p /\ yo p f n = 4 := fun hW => by
   have hW2 : ZX p (nAt p.nodes (n : Int)) (inlF p n) = false := by rw [zdT hC, zG hnl]; exact hW
   exact ⟨by unfold inlP; rw [hR, h0, hhk, h12, hW2]; rfl, by unfold yo; rw [hR, h0, hhk, h12, hW2]; rfl⟩
 have hyes : ZX p p.nodes[n] p.fns[j] = true -> inlP p f n = finP p (xD p n) /\ yo p f n = zaL (xD p n) := fun hW => by
   have hW2 : ZX p (nAt p.nodes (n : Int)) (inlF p n) = true := by rw [zdT hC, zG hnl]; exact hW
   exact ⟨by unfold inlP; rw [hR, h0, hhk, h12, hW2]; rfl, by unfold yo; rw [hR, h0, hhk, h12, hW2]; rfl⟩
 simp only [zb, cI, cB] at hat hst hqu
 simp +decide only [z0, z1, k1, hxk, h13, bne, zg, vB, zh, zJ, zb, za, hpin, go_sem, reduceAdd, reduceMul]
 refine Tri.stop zf ⟨173, [(2, vI n), (3, .ip (za true p) 0), (6, .bp 6 0), (8, .bp 8 0), (12, .bp 12 0)], [(6, .box [.sc (.slice none 0 0), .sc (.slice none 0 0)]), (8, .box (za false p)), (12, .box (fnC true p.fns[j]))]⟩ ?_ ?_
 · refine Tri.fork zf (.one 0 true (.one 3 true (.one 5 true (.one 1 true (.one 2 true (.one 4 true (.one 6 true (.one 7 true (.one 8 true (.two 9 (.one 10 true (.one 11 true (.one 12 false (.one 13 false .done)))) 12 (.one 9 false (.one 10 false (.one 11 false (.one 13 false .done)))))))))))))) zS (by kernel_rfl) (fun C2 hC2 => ?_)
   have hp2 := zV hC2 hpin
   simp +decide only [z0, z1, k1, hxk, zg, zh, zJ, zb, za, hp2, hpin, go_sem, reduceAdd, reduceMul]
   refine ⟨zd hat hp2 ?_, zd hat hp2 ?_⟩
   all_goals
     simp +decide only [hcj, hjl, hxj, fnC, Int.natCast_nonneg, zh, zJ, zb, za, hp2, hpin, go_sem, reduceAdd, reduceMul]
     refine Ent.weak ?_ ?_ ?_ ?_ <;> simp +decide [zQ, yp, subT, subB, zl, zk, zm, St.get, look, vI, vB, vS, cI, cS, cB, zg, fnC, zq, za, roI]
 refine Tri.ent ?_ (Ent.frb hfull 12)
 refine Tri.step zf ?_
 by_cases hz : 0 <= p.fns[j].ret
 case neg =>
   have zr : (p.fns[j].ret < 0) = True := eq_true (by omega)
   obtain ⟨e1, e2⟩ := hno (by rw [hWd]; simp [hz])
   simp +decide only [e1, e2, zr, hbe, c2, hbl, hxb, fnC, zg, vI, Int.natCast_nonneg, zh, zJ, zb, za, hpin, go_sem, reduceAdd, reduceMul]
 have zr : (p.fns[j].ret < 0) = False := eq_false (by omega)
 by_cases hy : p.nodes[b].kids.length = 0
 case neg =>
   have zy : ((0 : Int) < (p.nodes[b].kids.length : Int)) = True := eq_true (by omega)
   obtain ⟨e1, e2⟩ := hno (by rw [hWd]; simp [hy])
   simp +decide only [e1, e2, zr, zy, gt_iff_lt, hbe, c2, hbl, hxb, fnC, zg, vI, Int.natCast_nonneg, zh, zJ, zb, za, hpin, go_sem, reduceAdd, reduceMul]
 have zy : ((0 : Int) < (p.nodes[b].kids.length : Int)) = False := eq_false (by omega)
 simp +decide only [zr, zy, gt_iff_lt, hbe, c2, hbl, hxb, fnC, zg, vI, Int.natCast_nonneg, zh, zJ, zb, za, hpin, go_sem, reduceAdd, reduceMul]
 refine zd hqu hpin ?_
 cases hq : xm p.nodes false p.fns[j].ret with
 | false =>
   obtain ⟨e1, e2⟩ := hno (by rw [hWd, hq]; simp)
   simp +decide only [e1, e2, zh, zJ, zb, za, hpin, go_sem, reduceAdd, reduceMul]
 | true =>
 simp +decide only [zh, zJ, zb, za, hpin, go_sem, reduceAdd, reduceMul]
 have hpget : ∀ i (h : i < p.fns[j].params.length), (rows (zq true) p.fns[j].params).getD i [] = zq true p.fns[j].params[i] := fun i h => zi _ _ h
 have hkl := hC.kids
 refine Tri.step zf ?_
 simp +decide only [fnC, zh, zJ, zb, za, hpin, go_sem, reduceAdd, reduceMul]
 refine Tri.loop (ι := Nat) (fun i => i <= p.fns[j].params.length /\ (p.fns[j].params.take i).all (fun q => q.ty == 1) = true /\ (p.nodes[n].kids.take i).all (fun kid => xm p.nodes true kid) = true) (fun i => ⟨173, [(2, vI n), (3, .ip (za true p) 0), (6, .bp 6 0), (8, .bp 8 0), (12, .ip (fnC true p.fns[j]) 0), (13, vI i)], [(6, .box [.sc (.slice none 0 0), .sc (.slice none 0 0)]), (8, .box (za false p))]⟩) (fun i => p.fns[j].params.length - i) 0 (by simp) ?_ ?_
 · refine Ent.weak ?_ ?_ ?_ ?_ <;> simp +decide [zQ, yp, subT, subB, zl, zk, zm, St.get, look, vI, vB, vS, cI, cS, cB, zg, fnC, zq, za, roI, hbe]
 · rintro i ⟨hi, hal, hkq⟩
   refine ze zf _ ?_
   by_cases h' : i < p.fns[j].params.length
   · have e : ((i : Int) < (p.fns[j].params.length : Int)) = True := by simp [h']
     have h2 : i < p.nodes[n].kids.length := by omega
     have ek : ((i : Int) < (p.nodes[n].kids.length : Int)) = True := by simp [h2]
     have hsc := hst p.nodes[n].kids[i]
     simp +decide only [e, h', fnC, Int.natCast_nonneg, vB, vI, zh, zJ, zb, za, hpin, go_sem, reduceAdd, reduceMul]
     refine Tri.sched zf [(0, true), (2, true), (1, false), (3, false), (4, false), (5, false), (6, false), (7, false), (9, true), (11, true), (15, true), (8, true), (10, false), (12, false), (13, false), (14, false), (16, false), (17, false), (18, false), (19, false), (20, false)] zS (by kernel_rfl) (fun C2 hC2 => ?_)
     have hp2 := zV hC2 hpin
     cases h1 : p.fns[j].params[i].ty == 1 with
     | false =>
       obtain ⟨e1, e2⟩ := hno (by rw [hWd, Zw h' h1]; rfl)
       simp +decide only [e1, e2, e, h', hpget i h', zq, fnC, zg, h1, bne, hxk, z1, k1, ek, h2, zt _ _ h2, Int.natCast_nonneg, vB, vI, zh, zJ, zb, za, hp2, hpin, go_sem, reduceAdd, reduceMul]
     | true =>
       simp +decide only [e, h', hpget i h', zq, fnC, zg, h1, bne, hxk, z1, k1, ek, h2, zt _ _ h2, Int.natCast_nonneg, vB, vI, zh, zJ, zb, za, hp2, hpin, go_sem, reduceAdd, reduceMul]
       refine zd hsc hp2 ?_
       cases h3 : xm p.nodes true p.nodes[n].kids[i] with
       | false =>
         obtain ⟨e1, e2⟩ := hno (by rw [hWd, Zw h2 h3]; simp)
         simp +decide only [e1, e2, vB, vI, zh, zJ, zb, za, hp2, hpin, go_sem, reduceAdd, reduceMul]
       | true =>
         simp +decide only [vB, vI, zh, zJ, zb, za, hp2, hpin, go_sem, reduceAdd, reduceMul]
         refine ⟨i + 1, ⟨h', zaf h' hal h1, zaf h2 hkq h3⟩, by omega, Ent.weak ?_ ?_ ?_ ?_⟩
         all_goals simp +decide [zQ, yp, subT, subB, zl, zk, zm, St.get, look, vI, vB, vS, cI, cS, cB, zg, fnC, zq, za, roI, w64s (n := p.fns[j].params.length) h' (by omega)]
   · have hil : i = p.fns[j].params.length := by omega
     subst hil
     have e : ((p.fns[j].params.length : Int) < (p.fns[j].params.length : Int)) = False := by simp
     rw [List.take_length] at hal
     rw [<- hkl, List.take_length] at hkq
     have hW : ZX p p.nodes[n] p.fns[j] = true := by rw [hWd, hal, hkq, hq]; simp [hz, hy]
     obtain ⟨e1, e2⟩ := hyes hW
     rw [e1, e2]
     simp +decide only [e, fnC, vB, vI, zh, zJ, zb, za, hpin, go_sem, reduceAdd, reduceMul]
     clear hno hyes hWd hW hst hqu hfs hll hat htr
     refine Tri.ent (st' := ⟨173, [(2, vI n), (3, .ip (za true p) 0), (6, .bp 6 0), (8, .bp 8 0), (12, .ip (fnC true p.fns[j]) 0)], [(6, .box [.sc (.slice none 0 0), .sc (.slice none 0 0)]), (8, .box (za false p))]⟩) ?_ (Ent.weak ?_ ?_ ?_ ?_)
     rotate_left
     · simp +decide [zQ, yp, subT, subB, zl, zk, zm, St.get, look, vI, vB, vS, cI, cS, cB, zg, fnC, zq, za, roI, hbe]
     · simp +decide [zQ, yp, subT, subB, zl, zk, zm, St.get, look, vI, vB, vS, cI, cS, cB, zg, fnC, zq, za, roI, hbe]
     · simp +decide [zQ, yp, subT, subB, zl, zk, zm, St.get, look, vI, vB, vS, cI, cS, cB, zg, fnC, zq, za, roI, hbe]
     · simp +decide [zQ, yp, subT, subB, zl, zk, zm, St.get, look, vI, vB, vS, cI, cS, cB, zg, fnC, zq, za, roI, hbe]
     have hRe := zgh hC
     obtain ⟨a0, a1, a2, a3⟩ := ziV hC hz
     obtain ⟨s1, s2⟩ := zbU hC hz
     obtain ⟨m1, m2⟩ := znQ hC hz
     have hout : ZY p n = ⟨(inlR p n).2.set n (nAt (inlR p n).2 (inlR p n).1), p.fns⟩ := rfl
     have hlen := (YC hC hz).len
     obtain ⟨r, hre⟩ : ∃ r : Nat, p.fns[j].ret = r := ⟨p.fns[j].ret.toNat, by omega⟩
     have hrl : r < p.nodes.length := by
       rcases hC.ret with h | ⟨_, h⟩
       · omega
       · rw [hre] at h; exact h
     have hszr := hC.few r hrl
     have hput := zhJ p.nodes hC.right.deep hn p.fns[j].params p.nodes[n].kids hkl hplj r hrl p.nodes (by have := hC.right.few; omega)
     rw [<- hre, <- hRe] at hput
     have hnX : n < (inlR p n).2.length := by omega
     have haX : (inlR p n).1.toNat < (inlR p n).2.length := by omega
     have hfo : finP p (xD p n) = (if zbv (ZY p n) then Yh (ZY p n) else p) := by unfold finP; rw [m1, m2]
     have hco : zaL (xD p n) = (if zbv (ZY p n) then 0 else 1) := by unfold zaL; rw [m2]
     rw [hfo, hco]
     have hp19 := zdO (ZY p n) hf (by rw [hout]; simp; omega) (fun x hx => by
       rw [hout] at hx
       simp only at hx
       rcases List.mem_or_eq_of_mem_set hx with hx | rfl
       · have := s2 x hx; omega
       · have he : (inlR p n).1 = (((inlR p n).1.toNat : Nat) : Int) := by omega
         rw [he, zG haX]
         have := s2 _ (List.getElem_mem haX)
         omega) hpl
     rw [hout] at hp19 |-
     generalize inlR p n = R at hput a0 a1 a2 a3 s1 s2 hlen hnX haX hp19 |-
     obtain ⟨at_, Y⟩ := R
     simp only at hput a0 a1 a2 a3 s1 s2 hlen hnX haX hp19 |-
     simp only [cI, roI] at hput
     refine Tri.step zf ?_
     simp +decide only [zg, fnC, vI, zh, zJ, zb, za, hpin, go_sem, reduceAdd, reduceMul]
     refine zd hcp hpin ?_
     simp +decide only [zh, zJ, zb, za, hpin, go_sem, reduceAdd, reduceMul]
     refine Tri.lift 2500 14 [(0, 0)] rfl rfl (by simp) rfl (fun y hy => ?_)
     obtain ⟨v, y0⟩ := y
     have n1 : ∀ k, (Value.int .i64 k = v) = False := fun k => by obtain ⟨A, c, hy⟩ := hy; simp only at hy; rw [hy]; simp
     have hp1 := Cx.repin_pin hpin (k := 2500) rfl (some (v, y0))
     have hf1 := Cx.repin_full hfull 2500 (some (v, y0))
     have hpk := Cx.repin_self C 2500 (some (v, y0))
     generalize C.repin 2500 (some (v, y0)) = C1 at hp1 hf1 hpk |-
     refine Tri.step zf ?_
     refine Tri.sched zf [(0, true), (2, true), (4, true), (6, true), (8, true), (12, true), (1, true), (3, true), (5, true), (7, true), (9, true), (10, true), (11, true), (13, false), (14, false), (15, false), (16, true), (17, true), (18, false), (19, false)] zS (by kernel_rfl) (fun C2 hC2 => ?_)
     have hp2 := zV hC2 hp1
     have hpk2 : C2.pin 2500 = some (v, y0) := by rw [hC2]; exact hpk
     simp +decide only [z1, k1, hxk, Int.natCast_nonneg, zg, fnC, zh, zJ, zb, za, hp2, hp1, go_sem, reduceAdd, reduceMul]
     refine zlh hpk2 (by rfl) ?_
     simp +decide only [n1, zh, zJ, zb, za, hp2, hp1, go_sem, reduceAdd, reduceMul]
     refine zd hput hp2 ?_
     simp +decide only [zg, fnC, zh, zJ, zb, za, hp2, hp1, go_sem, reduceAdd, reduceMul]
     obtain ⟨A, hA⟩ : ∃ A, at_.toNat = A := ⟨_, rfl⟩
     rw [hA] at haX
     have ha2 : at_ = (A : Int) := by omega
     subst ha2
     have cA : ((A : Int) < (Y.length : Int)) = True := eq_true (by omega)
     have cN : ((n : Int) < (Y.length : Int)) = True := eq_true (by omega)
     have hnA : nAt Y (A : Int) = Y[A] := zG haX
     rw [hnA]
     rw [<- zbI Y]
     have hsub : subO (.row 83 (yv (fun _ => none) Y)) [(A, 3)] = some (.row false 3 (row1 cI Y[A].kids)) := by
       simp [subO, subD, cellAt, Yi _ haX, zbh, kidD]
     have hset : ∀ w, setO (.row 83 (yv (fun _ => none) Y)) [(A, 3)] (.sc w) = .row 83 (yv (upH (fun _ => none) A w) Y) := fun w => by
       have e := zhh (fun _ => none) haX w
       simp only [setO, setD, e]
     have hgq := fun w => Yi (upH (fun _ => none) A w) haX
     have hbk := fun w => zbJ (fun _ => none) haX rfl w
     have hup : ∀ w, upH (fun _ => none) A w A = some w := fun w => by simp [upH]
     simp only [zbh, kidD, hup] at hgq
     have hfewA := s2 _ (List.getElem_mem haX)
     have hp19' := hp19
     refine Tri.fix 2501 15 15 (es := yv (fun _ => none) Y) rfl (by simp [St.get, look, zh]) rfl (fun y hy => ?_)
     obtain ⟨v2, y2⟩ := y
     have hpB := Cx.repin_pin hp1 (k := 2501) rfl (some (v2, y2))
     have hfB := Cx.repin_full hf1 2501 (some (v2, y2))
     have hkB := Cx.repin_self C1 2501 (some (v2, y2))
     generalize C1.repin 2501 (some (v2, y2)) = CB at hpB hfB hkB |-
     refine Tri.step zf ?_
     simp +decide only [zg, fnC, zh, zJ, zb, za, hpB, go_sem, reduceAdd, reduceMul]
     refine Tri.lift 2502 2501 [(A, 3)] rfl hsub (by simp) rfl (fun y hy => ?_)
     rw [hset]
     obtain ⟨v3, y3⟩ := y
     have hpD := Cx.repin_pin hpB (k := 2502) rfl (some (v3, y3))
     have hfD := Cx.repin_full hfB 2502 (some (v3, y3))
     have hkD := Cx.repin_self CB 2502 (some (v3, y3))
     have hkD2 : (CB.repin 2502 (some (v3, y3))).pin 2501 = some (v2, y2) := by rw [Cx.repin_other CB (by decide)]; exact hkB
     generalize CB.repin 2502 (some (v3, y3)) = CD at hpD hfD hkD hkD2 |-
     refine Tri.ent ?_ (Ent.same hkD2 15)
     refine Tri.step zf ?_
     simp +decide only [cA, haX, hgq v3, Int.natCast_nonneg, zh, zJ, zb, za, hpD, go_sem, reduceAdd, reduceMul]
     refine Tri.ent (st' := ⟨173, [(2, vI n), (6, .bp 6 0), (8, .bp 8 0), (14, .bp 14 0), (17, .bp 17 0)], [(17, .box [.sc (.int .i64 Y[A].kind), .sc (.int .i64 Y[A].num), .sc (.string Y[A].name), .sc v3]), (2502, .row 3 (row1 cI Y[A].kids)), (2501, .row 83 (yv (upH (fun _ => none) A v3) Y)), (14, .box [.sc v2, .row false 104 (rows (fnC false) p.fns)]), (6, .box [.sc (.slice none 0 0), .sc (.slice none 0 0)]), (8, .box (za false p))]⟩) ?_ (Ent.weak ?_ ?_ ?_ ?_)
     rotate_left
     · simp +decide [zQ, yp, subT, subB, zl, zk, zm, St.get, look, vI, vB, vS, cI, cS, cB, zg, fnC, zq, za, roI]
     · simp +decide [zQ, yp, subT, subB, zl, zk, zm, St.get, look, vI, vB, vS, cI, cS, cB, zg, fnC, zq, za, roI]
     · simp +decide [zQ, yp, subT, subB, zl, zk, zm, St.get, look, vI, vB, vS, cI, cS, cB, zg, fnC, zq, za, roI]
     · simp +decide [zQ, yp, subT, subB, zl, zk, zm, St.get, look, vI, vB, vS, cI, cS, cB, zg, fnC, zq, za, roI]
     have hfr := zdR Y[A].kids
     have hb1 : Y[A].kids.length <= 140737488355328 := by omega
     have hb2 : Y[A].kids.length * 8 <= 140737488355328 := by omega
     have hbq := hbk v3
     have hgq3 := hgq v3
     have hsto : ∀ K, (yv (fun _ => none) Y).set n [D.sc (.int .i64 Y[A].kind), .sc (.int .i64 Y[A].num), .sc (.string Y[A].name), .row false 3 (row1 cI K)] = rows (zg false) (Y.set n ⟨Y[A].kind, Y[A].num, Y[A].name, K⟩) := fun K => by
       rw [zbI]
       exact ziy (zg false) Y n ⟨Y[A].kind, Y[A].num, Y[A].name, K⟩
     have hst1 : (yv (fun _ => none) Y).set n [D.sc (.int .i64 Y[A].kind), .sc (.int .i64 Y[A].num), .sc (.string Y[A].name), .row false 3 (row1 cI Y[A].kids)] = rows (zg false) (Y.set n Y[A]) := hsto Y[A].kids
     have hst2 : (yv (fun _ => none) Y).set n (((((((yv (fun _ => none) Y).getD n []).set 0 (.sc (.int .i64 Y[A].kind))).set 1 (.sc (.int .i64 Y[A].num))).set 2 (.sc (.string Y[A].name))).set 3 (.row false 3 (row1 cI Y[A].kids)))) = rows (zg false) (Y.set n Y[A]) := by
       have hq : (yv (fun _ => none) Y).getD n [] = zbh none Y[n] := by rw [List.getD_eq_getElem?_getD, Yi _ hnX]; rfl
       rw [hq]
       exact hst1
     simp only [hnA] at hp19
     refine Tri.seq (Tri.cut zf 3 ?_)
     simp +decide only [List.take_succ_cons, List.take_zero, vI, zh, zJ, zb, za, hpD, go_sem, reduceAdd, reduceMul]
     refine zgu ?_ (Ent.same hkD 156)
     simp +decide only [List.drop_succ_cons, List.drop_zero, hfr, hb1, hb2, zh, zJ, zb, za, hpD, go_sem, reduceAdd, reduceMul]
     refine Tri.ent ?_ (Ent.back (v := v3) (k := 2502) (o := 2501) (p := [(A, 3)]) hkD (by decide) (by simp))
     refine Tri.seq (Tri.cut zf 2 ?_)
     simp +decide only [List.take_succ_cons, List.take_zero, hgq3, hbq, zh, zJ, zb, za, hpD, go_sem, reduceAdd, reduceMul]
     refine zgu ?_ (Ent.same hkD2 160)
     simp +decide only [List.drop_succ_cons, List.drop_zero, cN, hnX, hst1, hst2, Int.natCast_nonneg, zh, zJ, zb, za, hpD, go_sem, reduceAdd, reduceMul]
     refine Tri.ent ?_ (Ent.back (v := v2) (k := 2501) (o := 14) (p := [(0, 0)]) hkD2 (by decide) (by simp))
     refine Tri.ent ?_ (Ent.frb hfD 14)
     simp only [zb, za] at hp19
     refine Tri.step zf ?_
     simp +decide only [zhB, zmC, zh, zJ, zb, za, hpD, go_sem, reduceAdd, reduceMul]
     refine zd hp19 hpD ?_
     simp +decide only [zh, zJ, zb, za, hpD, go_sem, reduceAdd, reduceMul]
     refine Tri.step zf ?_
     generalize (⟨Y.set n Y[A], p.fns⟩ : ProgramD) = O at hp19 |-
     cases hO : zbv O with
     | false =>
       simp +decide only [zh, zJ, zb, za, hpD, go_sem, reduceAdd, reduceMul]
     | true =>
       simp +decide only [zh, zJ, zb, za, hpD, go_sem, reduceAdd, reduceMul]
       refine ze zf _ ?_
       simp +decide only [zh, zJ, zb, za, hpD, go_sem, reduceAdd, reduceMul]
theorem znX (p q : ProgramD) (h : zF p <= 1048576) : zF (finP p q) <= 1048576 := by
 unfold finP
 cases hO : zbv q with
 | false => rw [if_neg (by decide)]; exact h
 | true =>
   rw [if_pos rfl]
   unfold zbv at hO
   have hR := (Bool.and_eq_true_iff.1 hO).2
   exact Nat.le_trans (zky (yw (zdl hR).1)) (by decide)
theorem znR (p : ProgramD) (fn k : Int) (h : zF p <= 1048576) : zF (inlP p fn k) <= 1048576 := by
 unfold inlP
 split
 · split
   · split
     · exact znX p _ h
     · exact h
   · exact h
 · exact h
end Go.Proofs.YtjjigphfjclofaaGreatDoor.AW
