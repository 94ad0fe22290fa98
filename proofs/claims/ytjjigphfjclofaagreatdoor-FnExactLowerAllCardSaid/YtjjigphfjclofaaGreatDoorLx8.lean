/- What the statements of this set lean on, part 8. No condition beyond those named. -/
import Derived.Test.YtjjigphfjclofaaGreatDoorLx7
namespace Go.Proofs.YtjjigphfjclofaaGreatDoor.AW
open Go.RowKit
open Nat (reduceAdd reduceMul)
set_option maxHeartbeats 8000000
set_option maxRecDepth 100000
set_option linter.unusedSimpArgs false
set_option linter.unusedVariables false
theorem zrx : fo Tryz.prog 145 0 = some 0 := by kernel_rfl
theorem zrw : fo Tryz.prog 145 1 = some 2 := by kernel_rfl
theorem zrv : fo Tryz.prog 145 2 = some 3 := by kernel_rfl
theorem rLow : isR Tryz.prog 145 = some true := by kernel_rfl
theorem sLow : szT Tryz.prog 145 = 7 := by kernel_rfl
theorem zLow : zeroCells Tryz.prog 145 = some [.slice none 0 0, .slice none 0 0, .slice none 0 0, .string ⟨#[]⟩, .int .i64 0, .slice none 0 0, .slice none 0 0] := by kernel_rfl
theorem zrq : Zo Tryz.prog 145 = some [(0, 2), (2, 1), (3, 4)] := by kernel_rfl
attribute [go_sem] zrx zrw zrv rLow sLow zLow zrq
def lowC (p : ProgramD) (l : List VarD) (nm : ByteArray) (pn : Int) (s : LowD) : List D := [.row true 83 (rows (zg true) p.nodes), .row true 104 (rows (fnC true) p.fns), .row true 96 (rows (varC true) l), cS nm, cI pn, .row false 3 (row1 cI s.locs), .row false 139 (rows (insC false) s.words)]
theorem zdc (l : List InsD) (x : InsD) : rows (insC false) l ++ [[D.sc (.int .i64 x.op), .sc (.int .i64 x.a), .sc (.int .i64 x.b), .sc (.int .i64 x.c), .sc (.int .i64 x.num), .sc (.string x.name), .row false 3 (row1 cI x.args)]] = rows (insC false) (l ++ [x]) := zdy (insC false) l x
theorem zau {l : List InsD} {i : Nat} (h : i < l.length) (n : Int) : yB (rows (insC false) l) i 4 (.sc (.int .i64 n)) = rows (insC false) (l.set i (l[i].numTo n)) := by
 unfold yB
 rw [zi _ _ h, <- zke]; rfl
theorem zig (p : ProgramD) (l : List VarD) (nm : ByteArray) (pn : Int) (s : LowD) (t : Int) (hw : s.locs.length <= 1048575) : SoundAt Tryz.prog 180 (fun uf => zq 0 [.ro (.bp 2000 0), .ro (.sc (.int .i64 t))]) [(2000, .box (lowC p l nm pn s))]
   (fun rs st => rs = [(false, [cI s.locs.length])] /\ yh st.ob [(2000, .box (lowC p l nm pn (s.addL t)))]) := by
 have hb1 : s.locs.length + 1 <= 140737488355328 := by omega
 have hb2 : (s.locs.length + 1) * 8 <= 140737488355328 := by omega
 have hsn := XR cI s.locs t
 simp only [cI] at hsn
 have w1 : IntKind.i64.wrap (((s.locs.length + 1 : Nat) : Int) - 1) = s.locs.length := by rw [show (((s.locs.length + 1 : Nat) : Int) - 1) = s.locs.length by omega]; exact w64 (by omega) (by omega)
 unfold LowD.addL
 refine zt (fn := Tryz.f180) (c := Tryz.f180.body.getD .skip) (res := [.tm 4]) (n := 24) ze (by kernel_rfl) (by rfl) (by kernel_rfl) (by rfl) (by rfl) (by simp [zq]) (fun uf ub C hpin hpin2 hfull => ?_)
 simp only [Tryz.f180, Option.getD_some]
 refine Tri.step ze ?_
 simp +decide only [zb, za, lowC, hpin, hpin2, go_sem, reduceAdd, reduceMul]
 refine Tri.step ze ?_
 simp +decide only [hb1, hb2, hsn, zb, za, lowC, hpin, hpin2, go_sem, reduceAdd, reduceMul]
 refine zf ze _ ?_
 simp +decide only [w1, zb, za, lowC, hpin, hpin2, go_sem, reduceAdd, reduceMul]
theorem zfZ (p : ProgramD) (l : List VarD) (nm : ByteArray) (pn : Int) (s : LowD) (x : InsD) (hw : s.words.length <= 1048575) : SoundAt Tryz.prog 123 (fun uf => zq 0 [.ro (.bp 2000 0), .ro (.agg [.sc (.int .i64 x.op), .sc (.int .i64 x.a), .sc (.int .i64 x.b), .sc (.int .i64 x.c), .sc (.int .i64 x.num), .sc (.string x.name), .ref 2001 [] x.args.length])]) [(2001, .row 3 (row1 cI x.args)), (2000, .box (lowC p l nm pn s))]
   (fun rs st => rs = [(false, [cI s.words.length])] /\ yh st.ob [(2000, .box (lowC p l nm pn (s.addW x)))]) := by
 have hb1 : s.words.length + 1 <= 140737488355328 := by omega
 have hb2 : (s.words.length + 1) * 80 <= 140737488355328 := by omega
 have hsn := zdc s.words x
 have w1 : IntKind.i64.wrap (((s.words.length + 1 : Nat) : Int) - 1) = s.words.length := by rw [show (((s.words.length + 1 : Nat) : Int) - 1) = s.words.length by omega]; exact w64 (by omega) (by omega)
 unfold LowD.addW
 refine zt (fn := Tryz.f123) (c := Tryz.f123.body.getD .skip) (res := [.tm 4]) (n := 24) ze (by kernel_rfl) (by rfl) (by kernel_rfl) (by rfl) (by rfl) (by simp [zq]) (fun uf ub C hpin hpin2 hfull => ?_)
 simp only [Tryz.f123, Option.getD_some]
 refine Tri.step ze ?_
 simp +decide only [zb, za, lowC, hpin, hpin2, go_sem, reduceAdd, reduceMul]
 refine Tri.step ze ?_
 refine Tri.fork ze (.one 0 true (.one 1 true (.one 2 true (.one 3 true (.one 4 true (.two 5 (.one 6 false (.one 7 false (.one 8 false (.one 9 false (.one 10 false (.one 11 false (.one 12 false .done))))))) 6 (.two 5 (.one 7 false (.one 8 false (.one 9 false (.one 10 false (.one 11 false (.one 12 false .done)))))) 7 (.one 5 false (.one 8 false (.one 9 false (.one 10 false (.one 11 false (.one 12 false .done)))))))))))))  zL (by kernel_rfl) (fun C2 hC2 => ?_)
 have hp2 := zN hC2 hpin
 simp +decide only [hb1, hb2, hsn, zb, za, lowC, hp2, hpin, hpin2, go_sem, reduceAdd, reduceMul]
 refine ⟨?_, ?_, ?_⟩ <;> refine zf ze _ ?_
 all_goals simp +decide only [w1, zb, za, lowC, hpin, hpin2, go_sem, reduceAdd, reduceMul]
theorem yp (p : ProgramD) (l : List VarD) (nm : ByteArray) (pn : Int) (s : LowD) (op a b c num : Int) (name : ByteArray) (hw : s.words.length <= 1048575) : SoundAt Tryz.prog 123 (fun uf => zq 0 [.ro (.bp 2000 0), .ro (.agg [.sc (.int .i64 op), .sc (.int .i64 a), .sc (.int .i64 b), .sc (.int .i64 c), .sc (.int .i64 num), .sc (.string name), .sc (.slice none 0 0)])]) [(2000, .box (lowC p l nm pn s))]
   (fun rs st => rs = [(false, [cI s.words.length])] /\ yh st.ob [(2000, .box (lowC p l nm pn (s.addW ⟨op, a, b, c, num, name, []⟩)))]) := by
 have hb1 : s.words.length + 1 <= 140737488355328 := by omega
 have hb2 : (s.words.length + 1) * 80 <= 140737488355328 := by omega
 have hsn := zdc s.words ⟨op, a, b, c, num, name, []⟩
 have hnil : row1 cI [] = [] := rfl
 simp only [hnil] at hsn
 have w1 : IntKind.i64.wrap (((s.words.length + 1 : Nat) : Int) - 1) = s.words.length := by rw [show (((s.words.length + 1 : Nat) : Int) - 1) = s.words.length by omega]; exact w64 (by omega) (by omega)
 unfold LowD.addW
 refine zt (fn := Tryz.f123) (c := Tryz.f123.body.getD .skip) (res := [.tm 4]) (n := 24) ze (by kernel_rfl) (by rfl) (by kernel_rfl) (by rfl) (by rfl) (by simp [zq]) (fun uf ub C hpin hpin2 hfull => ?_)
 simp only [Tryz.f123, Option.getD_some]
 refine Tri.step ze ?_
 simp +decide only [zb, za, lowC, hpin, hpin2, go_sem, reduceAdd, reduceMul]
 refine Tri.ent ?_ (Ent.nilr 3 6 3)
 refine Tri.step ze ?_
 refine Tri.fork ze (.one 0 true (.one 1 true (.one 2 true (.one 3 true (.one 4 true (.two 5 (.one 6 false (.one 7 false (.one 8 false (.one 9 false (.one 10 false (.one 11 false (.one 12 false .done))))))) 6 (.two 5 (.one 7 false (.one 8 false (.one 9 false (.one 10 false (.one 11 false (.one 12 false .done)))))) 7 (.one 5 false (.one 8 false (.one 9 false (.one 10 false (.one 11 false (.one 12 false .done)))))))))))))  zL (by kernel_rfl) (fun C2 hC2 => ?_)
 have hp2 := zN hC2 hpin
 simp +decide only [hb1, hb2, hsn, zb, za, lowC, hp2, hpin, hpin2, go_sem, reduceAdd, reduceMul]
 refine ⟨?_, ?_, ?_⟩ <;> refine zf ze _ ?_
 all_goals simp +decide only [w1, zb, za, lowC, hpin, hpin2, go_sem, reduceAdd, reduceMul]
def zpS (p : ProgramD) (l : List VarD) (nm : ByteArray) (pn : Int) (n : Nat) : Prop := yV (nAt p.nodes n).kind = true -> ∀ s : LowD, s.words.length + szB p.nodes n <= 1048576 -> s.locs.length + szB p.nodes n <= 1048576 ->
   SoundAt Tryz.prog 121 (fun uf => zq 0 [.ro (.bp 2000 0), .ro (.sc (.int .i64 n))]) [(2000, .box (lowC p l nm pn s))]
     (fun rs st => rs = [(false, [cI (lowV p l n s).1])] /\ yh st.ob [(2000, .box (lowC p l nm pn (lowV p l n s).2))])
def opA (k ty : Int) : Int := if k == 1 then 1 else if k == 2 then (if zfj ty then 2 else 3) else k + 1
def bA (k : Int) (a : List Int) : Int := if decide (8 <= k) then a.getD 0 0 else 0
def cA (k : Int) (a : List Int) : Int := if decide (9 <= k) then a.getD 1 0 else 0
def nA (k num : Int) : Int := if k == 1 then num else 0
theorem zqu (l : List VarD) (x : NodeD) (t to : Int) (a : List Int) (h : 1 <= x.kind /\ x.kind <= 11) : opI l x t to a = ⟨opA x.kind t, to, if inI x.kind 2 6 then yg l x.name else bA x.kind a, cA x.kind a, nA x.kind x.num, ⟨#[]⟩, []⟩ := by
 have hk : x.kind = 1 \/ x.kind = 2 \/ x.kind = 3 \/ x.kind = 4 \/ x.kind = 5 \/ x.kind = 6 \/ x.kind = 7 \/ x.kind = 8 \/ x.kind = 9 \/ x.kind = 10 \/ x.kind = 11 := by omega
 unfold opI opA bA cA nA inI
 rcases hk with hk | hk | hk | hk | hk | hk | hk | hk | hk | hk | hk <;> rw [hk] <;> simp
theorem zbG (V : Int -> LowD -> Int × LowD) (l : List Int) (s : LowD) : kidQ V l 0 s = ([], s) := rfl
theorem znB (p : ProgramD) (hD : Deep p.nodes) (l : List VarD) (hl : l.length <= 4194304) (hf : p.fns.length <= 1048576) (hn : p.nodes.length <= 1048576) (hk : ∀ x ∈ p.nodes, x.kids.length <= 300) (nm : ByteArray) (pn : Int) (n : Nat) (hnl : n < p.nodes.length) (ih : ∀ m, m < n -> zpS p l nm pn m) : zpS p l nm pn n := by
 intro hval s hs1 hs2
 rw [zI hnl] at hval
 have hkid := hD.kid hnl
 have hkx := hk p.nodes[n] (List.getElem_mem hnl)
 have heq := zdY hD l hnl s
 have hsz := XN hD hnl
 have hsh := zZ (hD.deep n hnl) hnl
 have hx : (rows (zg true) p.nodes).getD n [] = zg true p.nodes[n] := zi _ _ hnl
 obtain ⟨v20, v16, v17, v19, v14, v15, v13⟩ := zhb hval
 have hty := Ys p hD l hl hf hn hk n hnl
 simp only [zb, za] at hty
 have hgrow := zgC (V := lowV p l) (z := szB p.nodes) p.nodes[n].kids (fun k hk2 s2 => by
   obtain ⟨q0, q1, q2⟩ := hkid k hk2
   obtain ⟨m, rfl⟩ : ∃ m : Nat, k = m := ⟨k.toNat, by omega⟩
   exact zaZ hD l m (by omega) s2) s
 have hpart : ∀ i (hi : i < p.nodes[n].kids.length), sumN (szB p.nodes) (p.nodes[n].kids.take i) + szB p.nodes p.nodes[n].kids[i] <= sumN (szB p.nodes) p.nodes[n].kids := fun i hi => by
   have h1 := xN (szB p.nodes) p.nodes[n].kids (i + 1)
   rw [List.take_succ_eq_append_getElem hi, YI] at h1
   have : sumN (szB p.nodes) [p.nodes[n].kids[i]] = szB p.nodes p.nodes[n].kids[i] := by simp [sumN]
   omega
 have hrec : ∀ i (hi : i < p.nodes[n].kids.length), ∀ t : LowD, t.words.length + szB p.nodes p.nodes[n].kids[i] <= 1048576 -> t.locs.length + szB p.nodes p.nodes[n].kids[i] <= 1048576 -> SoundAt Tryz.prog 121 (fun uf => zq 0 [.ro (.bp 2000 0), .ro (.sc (.int .i64 p.nodes[n].kids[i]))]) [(2000, .box (lowC p l nm pn t))]
     (fun rs st => rs = [(false, [cI (lowV p l p.nodes[n].kids[i] t).1])] /\ yh st.ob [(2000, .box (lowC p l nm pn (lowV p l p.nodes[n].kids[i] t).2))]) := fun i hi t h1 h2 => by
   have hft := yP (hD.deep n hnl) hnl hi
   unfold yD at hft
   rw [v20, v16, v17, v19] at hft
   have hv2 : yV (nAt p.nodes p.nodes[n].kids[i]).kind = true := hft
   obtain ⟨q0, q1, q2⟩ := hkid p.nodes[n].kids[i] (List.getElem_mem hi)
   have e : p.nodes[n].kids[i] = (p.nodes[n].kids[i].toNat : Int) := by omega
   rw [e] at h1 h2
   have := ih p.nodes[n].kids[i].toNat q2 (by rw [<- e]; exact hv2) t h1 h2
   rw [<- e] at this
   exact this
 have hc1 : ((n : Int) < (p.nodes.length : Int)) = True := eq_true (by omega)
 generalize lowV p l n s = R at heq |-
 generalize ye p l n = ty at heq hty
 generalize szB p.nodes n = Z at hs1 hs2 hsz
 generalize p.nodes[n] = x at hkid hkx heq hx hval v20 v16 v17 v19 v14 v15 v13 hrec hsz hsh hgrow hpart
 have hq0 := zbG (lowV p l) x.kids s
 have hqe := zda (lowV p l) x.kids s
 refine zt (fn := Tryz.f121) (c := Tryz.f121.body.getD .skip) (res := [.tm 4]) (n := 136) ze (by kernel_rfl) (by rfl) (by kernel_rfl) (by rfl) (by rfl) (by simp [zq]) (fun uf ub C hpin hpin2 hfull => ?_)
 simp only [Tryz.f121, Option.getD_some]
 refine Tri.step ze ?_
 simp +decide only [zb, za, lowC, hpin, hpin2, go_sem, reduceAdd, reduceMul]
 refine Tri.step ze ?_
 simp +decide only [hc1, hx, zg, Int.natCast_nonneg, zb, za, lowC, hpin, hpin2, go_sem, reduceAdd, reduceMul]
 refine Tri.ent ?_ (Ent.frb hfull 5)
 refine Tri.step ze ?_
 simp +decide only [zb, za, lowC, hpin, hpin2, go_sem, reduceAdd, reduceMul]
 refine Tri.ent ?_ (Ent.own 6 3 6 (hpin 6 rfl))
 refine Tri.step ze ?_
 simp +decide only [zb, za, lowC, hpin, hpin2, go_sem, reduceAdd, reduceMul]
 refine Tri.loop (ι := Nat) (fun i => i <= x.kids.length) (fun i => ⟨136, [(0, .bp 2000 0), (1, vI n), (5, .ip (zg true x) 0), (6, .ref 6 [] i), (23, roI x.kids), (24, vI x.kids.length), (25, vI i)], [(6, .row 3 (row1 cI (kidQ (lowV p l) x.kids i s).1)), (2000, .box (lowC p l nm pn (kidQ (lowV p l) x.kids i s).2))]⟩) (fun i => x.kids.length - i) 0 (by simp) ?_ ?_
 · refine Ent.weak ?_ ?_ ?_ ?_ <;> simp +decide [subT, subB, zl, zk, zo, St.get, look, vI, vB, vS, cI, cS, cB, zg, za, lowC, roI, zbG, row1]
 · rintro i hi
   refine zf ze _ ?_
   have hql := zbH (lowV p l) x.kids s i hi
   obtain ⟨g1, g2, g3, g4⟩ := hgrow i hi
   by_cases h' : i < x.kids.length
   · have e : ((i : Int) < (x.kids.length : Int)) = True := by simp [h']
     have hqn := XY (lowV p l) x.kids h' s
     have hpt := hpart i h'
     generalize kidQ (lowV p l) x.kids i s = q at hql g1 g2 g3 g4 hqn |-
     obtain ⟨ql, qs⟩ := q
     simp only at hql g1 g2 g3 g4 hqn |-
     have hcall := hrec i h' qs (by omega) (by omega)
     unfold kidP at hqn
     simp only at hqn
     generalize lowV p l x.kids[i] qs = r at hqn hcall
     obtain ⟨ra, rs⟩ := r
     simp only at hqn hcall
     simp only [lowC, cI, cB] at hcall
     have hb1 : i + 1 <= 140737488355328 := by omega
     have hb2 : (i + 1) * 8 <= 140737488355328 := by omega
     have hsn := XR cI ql ra
     simp only [cI] at hsn
     simp +decide only [e, h', hql, zr _ _ h', zg, Int.natCast_nonneg, vB, vI, zb, za, lowC, hpin, hpin2, go_sem, reduceAdd, reduceMul]
     refine zw hcall hpin hfull [(2000, 2000)] [] [(2000, 2000)] ⟨rfl, rfl, rfl, rfl⟩ (fun uf => ?_) ?_
     · simp +decide only [zb, za, lowC, hpin, hpin2, go_sem, reduceAdd, reduceMul]
     simp +decide only [hql, hb1, hb2, hsn, zb, za, lowC, hpin, hpin2, go_sem, reduceAdd, reduceMul]
     refine ⟨i + 1, h', by omega, Ent.weak ?_ ?_ ?_ ?_⟩
     all_goals simp +decide [subT, subB, zl, zk, zo, St.get, look, vI, vB, vS, cI, cS, cB, zg, za, lowC, roI, hqn, hsn, hql, w64s (n := x.kids.length) h' (by omega)]
   have hil : i = x.kids.length := by omega
   subst hil
   have e : ((x.kids.length : Int) < (x.kids.length : Int)) = False := by simp
   rw [List.take_length] at g2 g4
   have hpu := heq
   unfold valK at hpu
   rw [<- hqe] at hpu
   generalize kidQ (lowV p l) x.kids x.kids.length s = q at hql g1 g2 g3 g4 hpu |-
   obtain ⟨ql, qs⟩ := q
   simp only at hql g1 g2 g3 g4 hpu |-
   have hloc := zig p l nm pn qs ty (by omega)
   simp only [lowC, cI] at hloc
   simp +decide only [e, hql, zg, vB, vI, zb, za, lowC, hpin, hpin2, go_sem, reduceAdd, reduceMul]
   refine Tri.stop ze ⟨136, [(0, .bp 2000 0), (1, vI n), (5, .ip (zg true x) 0), (6, .ref 6 [] x.kids.length), (10, vI ty)], [(6, .row 3 (row1 cI ql)), (2000, .box (lowC p l nm pn qs))]⟩ ?_ ?_
   · refine Tri.fork ze (.one 0 true (.one 1 true (.one 2 true (.one 4 true (.one 5 true (.one 6 true (.one 8 true (.two 3 (.one 7 false (.one 9 false (.one 10 false .done))) 7 (.one 3 false (.one 9 false (.one 10 false .done))))))))))) zL (by kernel_rfl) (fun C2 hC2 => ?_)
     have hp2 := zN hC2 hpin
     simp +decide only [zb, za, lowC, hp2, hpin, hpin2, go_sem, reduceAdd, reduceMul]
     refine ⟨zd hty hp2 ?_, zd hty hp2 ?_⟩
     all_goals
       simp +decide only [zb, za, lowC, hp2, hpin, hpin2, go_sem, reduceAdd, reduceMul]
       refine Ent.weak ?_ ?_ ?_ ?_
     all_goals simp +decide [subT, subB, zl, zk, zo, St.get, look, vI, vB, vS, cI, cS, cB, zg, za, lowC, roI]
   refine Tri.step ze ?_
   cases h12 : x.kind == 12 with
   | true =>
     rw [h12, if_pos rfl] at hpu
     simp +decide only [h12, zg, vB, vI, zb, za, lowC, hpin, hpin2, go_sem, reduceAdd, reduceMul]
     cases h0 : ty == 0 with
     | true =>
       rw [h0, if_pos rfl] at hpu
       subst hpu
       have e0 := eq_of_beq h0
       subst e0
       have hadd := zfZ p l nm pn qs ⟨13, -1, 0, 0, 0, x.name, ql⟩ (by omega)
       simp only [lowC, cI, hql] at hadd
       simp +decide only [h0, bne, zb, za, lowC, hpin, hpin2, go_sem, reduceAdd, reduceMul]
       refine zeS hadd hpin hfull [(2001, 6), (2000, 2000)] [(2000, 2000)] [(2001, 6)] [(2000, 2000)] ⟨rfl, rfl, rfl, rfl, rfl⟩ (by rfl) (fun uf => ?_) ?_
       · simp +decide only [hql, zb, za, lowC, hpin, hpin2, go_sem, reduceAdd, reduceMul]
       simp +decide only [LowD.addW, hql, zb, za, lowC, hpin, hpin2, go_sem, reduceAdd, reduceMul]
     | false =>
       rw [h0, if_neg (by decide)] at hpu
       subst hpu
       have hadd := zfZ p l nm pn (qs.addL ty) ⟨13, qs.locs.length, 0, 0, 0, x.name, ql⟩ (by show qs.words.length <= _; omega)
       simp only [lowC, cI, hql] at hadd
       simp +decide only [h0, bne, zb, za, lowC, hpin, hpin2, go_sem, reduceAdd, reduceMul]
       refine zw hloc hpin hfull [(2000, 2000)] [] [(2000, 2000)] ⟨rfl, rfl, rfl, rfl⟩ (fun uf => ?_) ?_
       · simp +decide only [zb, za, lowC, hpin, hpin2, go_sem, reduceAdd, reduceMul]
       simp +decide only [hql, zb, za, lowC, hpin, hpin2, go_sem, reduceAdd, reduceMul]
       refine zeS hadd hpin hfull [(2001, 6), (2000, 2000)] [(2000, 2000)] [(2001, 6)] [(2000, 2000)] ⟨rfl, rfl, rfl, rfl, rfl⟩ (by rfl) (fun uf => ?_) ?_
       · simp +decide only [hql, zb, za, lowC, hpin, hpin2, go_sem, reduceAdd, reduceMul]
       simp +decide only [LowD.addW, hql, zb, za, lowC, hpin, hpin2, go_sem, reduceAdd, reduceMul]
   | false =>
     rw [h12, if_neg (by decide)] at hpu
     simp +decide only [h12, zg, vB, vI, zb, za, lowC, hpin, hpin2, go_sem, reduceAdd, reduceMul]
     have hk11 : 1 <= x.kind /\ x.kind <= 11 := by
       have h1 := zu (show inI x.kind 1 12 = true from hval)
       have h2 : x.kind ≠ 12 := by simpa using h12
       omega
     rw [zqu l x ty _ ql hk11] at hpu
     have htk : List.take x.kids.length (row1 cI ql) = row1 cI ql := by rw [<- hql]; exact yL cI ql
     refine Tri.step ze ?_
     simp +decide only [zb, za, lowC, hpin, hpin2, go_sem, reduceAdd, reduceMul]
     refine zw hloc hpin hfull [(2000, 2000)] [] [(2000, 2000)] ⟨rfl, rfl, rfl, rfl⟩ (fun uf => ?_) ?_
     · simp +decide only [zb, za, lowC, hpin, hpin2, go_sem, reduceAdd, reduceMul]
     simp +decide only [zb, za, lowC, hpin, hpin2, go_sem, reduceAdd, reduceMul]
     have hshq : shLL (row1 cI ql) = row1 cI ql := Zr ql
     refine Tri.ent ?_ (Ent.frz hfull 6)
     refine Tri.step ze ?_
     simp +decide only [hshq, htk, zb, za, lowC, hpin, hpin2, go_sem, reduceAdd, reduceMul]
     refine Tri.stop ze ⟨136, [(0, .bp 2000 0), (5, .ip (zg true x) 0), (12, vI qs.locs.length), (13, .bp 13 0)], [(13, .box [cI (opA x.kind ty), cI qs.locs.length, cI (bA x.kind ql), cI (cA x.kind ql), cI (nA x.kind x.num), cS ⟨#[]⟩, .sc (.slice none 0 0)]), (2000, .box (lowC p l nm pn (qs.addL ty)))]⟩ ?_ ?_
     · have hkr : x.kind = 1 \/ x.kind = 2 \/ x.kind = 3 \/ x.kind = 4 \/ x.kind = 5 \/ x.kind = 6 \/ x.kind = 7 \/ x.kind = 8 \/ x.kind = 9 \/ x.kind = 10 \/ x.kind = 11 := by omega
       rcases hkr with hk | hk | hk | hk | hk | hk | hk | hk | hk | hk | hk
       · -- 1
         simp +decide only [Int.reduceBEq, hk, bne, zb, za, lowC, hpin, hpin2, go_sem, reduceAdd, reduceMul]
         refine Tri.fork ze (.one 0 true (.one 2 true (.one 1 true (.one 3 false (.one 4 false (.one 5 false .done)))))) zL (by kernel_rfl) (fun C2 hC2 => ?_)
         have hp2 := zN hC2 hpin
         simp +decide only [Int.reduceBEq, hk, zb, za, lowC, hp2, hpin, hpin2, go_sem, reduceAdd, reduceMul]
         refine Ent.weak ?_ ?_ ?_ ?_
         all_goals simp +decide [subT, subB, zl, zk, zo, St.get, look, vI, vB, vS, cI, cS, cB, zg, za, lowC, roI, LowD.addL, hk, opA, bA, cA, nA]
       · -- 2
         simp +decide only [Int.reduceBEq, hk, bne, zb, za, lowC, hpin, hpin2, go_sem, reduceAdd, reduceMul]
         refine zd (zjK ty) hpin ?_
         cases hcy : zfj ty with
         | true =>
           simp +decide only [Int.reduceBEq, hk, hcy, zb, za, lowC, hpin, hpin2, go_sem, reduceAdd, reduceMul]
           refine Ent.weak ?_ ?_ ?_ ?_
           all_goals simp +decide [subT, subB, zl, zk, zo, St.get, look, vI, vB, vS, cI, cS, cB, zg, za, lowC, roI, LowD.addL, hk, hcy, opA, bA, cA, nA]
         | false =>
           simp +decide only [Int.reduceBEq, hk, hcy, zb, za, lowC, hpin, hpin2, go_sem, reduceAdd, reduceMul]
           refine Ent.weak ?_ ?_ ?_ ?_
           all_goals simp +decide [subT, subB, zl, zk, zo, St.get, look, vI, vB, vS, cI, cS, cB, zg, za, lowC, roI, LowD.addL, hk, hcy, opA, bA, cA, nA]
       · -- 3
         simp +decide only [Int.reduceBEq, hk, bne, zb, za, lowC, hpin, hpin2, go_sem, reduceAdd, reduceMul]
         refine Ent.weak ?_ ?_ ?_ ?_
         all_goals simp +decide [subT, subB, zl, zk, zo, St.get, look, vI, vB, vS, cI, cS, cB, zg, za, lowC, roI, LowD.addL, hk, opA, bA, cA, nA]
       · -- 4
         simp +decide only [Int.reduceBEq, hk, bne, zb, za, lowC, hpin, hpin2, go_sem, reduceAdd, reduceMul]
         refine Ent.weak ?_ ?_ ?_ ?_
         all_goals simp +decide [subT, subB, zl, zk, zo, St.get, look, vI, vB, vS, cI, cS, cB, zg, za, lowC, roI, LowD.addL, hk, opA, bA, cA, nA]
       · -- 5
         simp +decide only [Int.reduceBEq, hk, bne, zb, za, lowC, hpin, hpin2, go_sem, reduceAdd, reduceMul]
         refine Ent.weak ?_ ?_ ?_ ?_
         all_goals simp +decide [subT, subB, zl, zk, zo, St.get, look, vI, vB, vS, cI, cS, cB, zg, za, lowC, roI, LowD.addL, hk, opA, bA, cA, nA]
       · -- 6
         simp +decide only [Int.reduceBEq, hk, bne, zb, za, lowC, hpin, hpin2, go_sem, reduceAdd, reduceMul]
         refine Ent.weak ?_ ?_ ?_ ?_
         all_goals simp +decide [subT, subB, zl, zk, zo, St.get, look, vI, vB, vS, cI, cS, cB, zg, za, lowC, roI, LowD.addL, hk, opA, bA, cA, nA]
       · -- 7
         simp +decide only [Int.reduceBEq, hk, bne, zb, za, lowC, hpin, hpin2, go_sem, reduceAdd, reduceMul]
         refine Ent.weak ?_ ?_ ?_ ?_
         all_goals simp +decide [subT, subB, zl, zk, zo, St.get, look, vI, vB, vS, cI, cS, cB, zg, za, lowC, roI, LowD.addL, hk, opA, bA, cA, nA]
       · -- 8
         have hlen : 0 < ql.length := by rw [hk] at hsh; have := zu hsh; simp [zA] at this; omega
         have hg0 : (row1 cI ql).getD (Int.toNat 0) [] = [cI (ql.getD 0 0)] := by rw [show Int.toNat 0 = 0 from rfl, zr cI ql (show 0 < ql.length by omega)]; simp [List.getD, show 0 < ql.length by omega]
         have hc0 : ((0 : Int) < (ql.length : Int)) = True := eq_true (by omega)
         have hd0 : ((0 : Int) < (x.kids.length : Int)) = True := eq_true (by omega)
         simp only [cI] at hg0
         simp +decide only [Int.reduceBEq, hk, bne, hg0, hc0, hd0, zb, za, lowC, hpin, hpin2, go_sem, reduceAdd, reduceMul]
         refine Tri.fork ze (.one 0 true (.one 1 true (.one 3 true (.one 2 true (.one 4 false (.one 5 false (.one 6 false .done))))))) zL (by kernel_rfl) (fun C2 hC2 => ?_)
         have hp2 := zN hC2 hpin
         simp +decide only [Int.reduceBEq, hk, hg0, hc0, hd0, zb, za, lowC, hp2, hpin, hpin2, go_sem, reduceAdd, reduceMul]
         refine Ent.weak ?_ ?_ ?_ ?_
         all_goals simp +decide [subT, subB, zl, zk, zo, St.get, look, vI, vB, vS, cI, cS, cB, zg, za, lowC, roI, LowD.addL, hk, opA, bA, cA, nA]
       · -- 9
         have hlen : 1 < ql.length := by rw [hk] at hsh; have := zu hsh; simp [zA] at this; omega
         have hg0 : (row1 cI ql).getD (Int.toNat 0) [] = [cI (ql.getD 0 0)] := by rw [show Int.toNat 0 = 0 from rfl, zr cI ql (show 0 < ql.length by omega)]; simp [List.getD, show 0 < ql.length by omega]
         have hc0 : ((0 : Int) < (ql.length : Int)) = True := eq_true (by omega)
         have hd0 : ((0 : Int) < (x.kids.length : Int)) = True := eq_true (by omega)
         have hg1 : (row1 cI ql).getD (Int.toNat 1) [] = [cI (ql.getD 1 0)] := by rw [show Int.toNat 1 = 1 from rfl, zr cI ql hlen]; simp [List.getD, hlen]
         have hc1 : ((1 : Int) < (ql.length : Int)) = True := eq_true (by omega)
         have hd1 : ((1 : Int) < (x.kids.length : Int)) = True := eq_true (by omega)
         have w1 : IntKind.i64.wrap (10 + 9) = 10 + 9 := by decide
         have w2 : IntKind.i64.wrap (10 + 9 - 9) = 10 := by decide
         simp only [cI] at hg1
         simp only [cI] at hg0
         simp +decide only [Int.reduceBEq, hk, bne, hg0, hc0, hd0, hg1, hc1, hd1, w1, w2, zb, za, lowC, hpin, hpin2, go_sem, reduceAdd, reduceMul]
         refine Tri.fork ze (.one 0 true (.one 4 true (.one 5 true (.one 7 true (.one 8 true (.one 1 true (.one 2 true (.one 3 true (.one 10 true (.one 6 true (.one 9 true (.one 11 false (.one 12 false (.one 13 false (.one 14 false (.one 15 false .done)))))))))))))))) zL (by kernel_rfl) (fun C2 hC2 => ?_)
         have hp2 := zN hC2 hpin
         simp +decide only [Int.reduceBEq, hk, hg0, hc0, hd0, hg1, hc1, hd1, w1, w2, zb, za, lowC, hp2, hpin, hpin2, go_sem, reduceAdd, reduceMul]
         refine Ent.weak ?_ ?_ ?_ ?_
         all_goals simp +decide [subT, subB, zl, zk, zo, St.get, look, vI, vB, vS, cI, cS, cB, zg, za, lowC, roI, LowD.addL, hk, opA, bA, cA, nA]
       · -- 10
         have hlen : 1 < ql.length := by rw [hk] at hsh; have := zu hsh; simp [zA] at this; omega
         have hg0 : (row1 cI ql).getD (Int.toNat 0) [] = [cI (ql.getD 0 0)] := by rw [show Int.toNat 0 = 0 from rfl, zr cI ql (show 0 < ql.length by omega)]; simp [List.getD, show 0 < ql.length by omega]
         have hc0 : ((0 : Int) < (ql.length : Int)) = True := eq_true (by omega)
         have hd0 : ((0 : Int) < (x.kids.length : Int)) = True := eq_true (by omega)
         have hg1 : (row1 cI ql).getD (Int.toNat 1) [] = [cI (ql.getD 1 0)] := by rw [show Int.toNat 1 = 1 from rfl, zr cI ql hlen]; simp [List.getD, hlen]
         have hc1 : ((1 : Int) < (ql.length : Int)) = True := eq_true (by omega)
         have hd1 : ((1 : Int) < (x.kids.length : Int)) = True := eq_true (by omega)
         have w1 : IntKind.i64.wrap (10 + 10) = 10 + 10 := by decide
         have w2 : IntKind.i64.wrap (10 + 10 - 9) = 11 := by decide
         simp only [cI] at hg1
         simp only [cI] at hg0
         simp +decide only [Int.reduceBEq, hk, bne, hg0, hc0, hd0, hg1, hc1, hd1, w1, w2, zb, za, lowC, hpin, hpin2, go_sem, reduceAdd, reduceMul]
         refine Tri.fork ze (.one 0 true (.one 4 true (.one 5 true (.one 7 true (.one 8 true (.one 1 true (.one 2 true (.one 3 true (.one 10 true (.one 6 true (.one 9 true (.one 11 false (.one 12 false (.one 13 false (.one 14 false (.one 15 false .done)))))))))))))))) zL (by kernel_rfl) (fun C2 hC2 => ?_)
         have hp2 := zN hC2 hpin
         simp +decide only [Int.reduceBEq, hk, hg0, hc0, hd0, hg1, hc1, hd1, w1, w2, zb, za, lowC, hp2, hpin, hpin2, go_sem, reduceAdd, reduceMul]
         refine Ent.weak ?_ ?_ ?_ ?_
         all_goals simp +decide [subT, subB, zl, zk, zo, St.get, look, vI, vB, vS, cI, cS, cB, zg, za, lowC, roI, LowD.addL, hk, opA, bA, cA, nA]
       · -- 11
         have hlen : 1 < ql.length := by rw [hk] at hsh; have := zu hsh; simp [zA] at this; omega
         have hg0 : (row1 cI ql).getD (Int.toNat 0) [] = [cI (ql.getD 0 0)] := by rw [show Int.toNat 0 = 0 from rfl, zr cI ql (show 0 < ql.length by omega)]; simp [List.getD, show 0 < ql.length by omega]
         have hc0 : ((0 : Int) < (ql.length : Int)) = True := eq_true (by omega)
         have hd0 : ((0 : Int) < (x.kids.length : Int)) = True := eq_true (by omega)
         have hg1 : (row1 cI ql).getD (Int.toNat 1) [] = [cI (ql.getD 1 0)] := by rw [show Int.toNat 1 = 1 from rfl, zr cI ql hlen]; simp [List.getD, hlen]
         have hc1 : ((1 : Int) < (ql.length : Int)) = True := eq_true (by omega)
         have hd1 : ((1 : Int) < (x.kids.length : Int)) = True := eq_true (by omega)
         have w1 : IntKind.i64.wrap (10 + 11) = 10 + 11 := by decide
         have w2 : IntKind.i64.wrap (10 + 11 - 9) = 12 := by decide
         simp only [cI] at hg1
         simp only [cI] at hg0
         simp +decide only [Int.reduceBEq, hk, bne, hg0, hc0, hd0, hg1, hc1, hd1, w1, w2, zb, za, lowC, hpin, hpin2, go_sem, reduceAdd, reduceMul]
         refine Tri.fork ze (.one 0 true (.one 4 true (.one 5 true (.one 7 true (.one 8 true (.one 1 true (.one 2 true (.one 3 true (.one 10 true (.one 6 true (.one 9 true (.one 11 false (.one 12 false (.one 13 false (.one 14 false (.one 15 false .done)))))))))))))))) zL (by kernel_rfl) (fun C2 hC2 => ?_)
         have hp2 := zN hC2 hpin
         simp +decide only [Int.reduceBEq, hk, hg0, hc0, hd0, hg1, hc1, hd1, w1, w2, zb, za, lowC, hp2, hpin, hpin2, go_sem, reduceAdd, reduceMul]
         refine Ent.weak ?_ ?_ ?_ ?_
         all_goals simp +decide [subT, subB, zl, zk, zo, St.get, look, vI, vB, vS, cI, cS, cB, zg, za, lowC, roI, LowD.addL, hk, opA, bA, cA, nA]
     refine zf ze _ ?_
     simp +decide only [zg, vI, zb, za, lowC, hpin, hpin2, go_sem, reduceAdd, reduceMul]
     refine zd (in' x.kind 2 6) hpin ?_
     cases hin : inI x.kind 2 6 with
     | true =>
       rw [hin, if_pos rfl] at hpu
       subst hpu
       have hva := ZG l x.name hl
       have hadd := yp p l nm pn (qs.addL ty) (opA x.kind ty) qs.locs.length (yg l x.name) (cA x.kind ql) (nA x.kind x.num) ⟨#[]⟩ (by show qs.words.length <= _; omega)
       simp only [lowC, cI] at hadd
       simp +decide only [zg, zb, za, lowC, hpin, hpin2, go_sem, reduceAdd, reduceMul]
       refine Tri.fork ze (.one 0 true (.one 1 true (.one 2 true (.one 4 true (.one 5 true (.one 3 false (.one 6 false (.one 7 false (.one 8 false .done))))))))) zL (by kernel_rfl) (fun C2 hC2 => ?_)
       have hp2 := zN hC2 hpin
       simp +decide only [zg, zb, za, lowC, hp2, hpin, hpin2, go_sem, reduceAdd, reduceMul]
       refine zd hva hp2 ?_
       simp +decide only [zg, zb, za, lowC, hp2, hpin, hpin2, go_sem, reduceAdd, reduceMul]
       refine zw hadd hpin hfull [(2000, 2000)] [] [(2000, 2000)] ⟨rfl, rfl, rfl, rfl⟩ (fun uf => ?_) ?_
       · simp +decide only [zb, za, lowC, hpin, hpin2, go_sem, reduceAdd, reduceMul]
       simp +decide only [LowD.addW, zb, za, lowC, hpin, hpin2, go_sem, reduceAdd, reduceMul]
     | false =>
       rw [hin, if_neg (by decide)] at hpu
       subst hpu
       have hadd := yp p l nm pn (qs.addL ty) (opA x.kind ty) qs.locs.length (bA x.kind ql) (cA x.kind ql) (nA x.kind x.num) ⟨#[]⟩ (by show qs.words.length <= _; omega)
       simp only [lowC, cI] at hadd
       simp +decide only [zg, zb, za, lowC, hpin, hpin2, go_sem, reduceAdd, reduceMul]
       refine zw hadd hpin hfull [(2000, 2000)] [] [(2000, 2000)] ⟨rfl, rfl, rfl, rfl⟩ (fun uf => ?_) ?_
       · simp +decide only [zb, za, lowC, hpin, hpin2, go_sem, reduceAdd, reduceMul]
       simp +decide only [LowD.addW, zb, za, lowC, hpin, hpin2, go_sem, reduceAdd, reduceMul]
theorem zcv (p : ProgramD) (hD : Deep p.nodes) (l : List VarD) (hl : l.length <= 4194304) (hf : p.fns.length <= 1048576) (hn : p.nodes.length <= 1048576) (hk : ∀ x ∈ p.nodes, x.kids.length <= 300) (nm : ByteArray) (pn : Int) (n : Nat) (hnl : n < p.nodes.length) : zpS p l nm pn n := by
 induction n using Nat.strongRecOn with
 | ind n ih => exact znB p hD l hl hf hn hk nm pn n hnl (fun m hm => ih m hm (by omega))
theorem zcp {S T : Int -> LowD -> LowD} : ∀ (l : List Int) (s : LowD), (∀ k ∈ l, ∀ s, S k s = T k s) -> blkS S l s = blkS T l s
 | [], _, _ => rfl
 | a :: r, s, h => by
   unfold blkS
   rw [List.foldl_cons, List.foldl_cons, h a (List.mem_cons_self ..)]
   exact zcp r _ (fun k hk => h k (List.mem_cons_of_mem _ hk))
theorem zhv {x : NodeD} (hs : inI x.kids.length (zA x.kind).1 (zA x.kind).2 = true) (h : x.kind = 16) : x.kids.length = 3 := by
 rw [h] at hs; have := zu hs; simp [zA] at this; omega
theorem zhw {x : NodeD} (hs : inI x.kids.length (zA x.kind).1 (zA x.kind).2 = true) (h : x.kind = 17) : x.kids.length = 2 := by
 rw [h] at hs; have := zu hs; simp [zA] at this; omega
theorem ZE {l : List Int} {i : Nat} (h : i < l.length) : l.getD i 0 ∈ l := by
 rw [List.getD_eq_getElem?_getD, List.getElem?_eq_getElem h]; exact List.getElem_mem h
theorem zfv {S T : Int -> LowD -> LowD} (p : ProgramD) (l : List VarD) (x : NodeD) (s : LowD) (hs : inI x.kids.length (zA x.kind).1 (zA x.kind).2 = true) (h : ∀ k ∈ x.kids, ∀ s, S k s = T k s) : stpK S p l x s = stpK T p l x s := by
 unfold stpK
 by_cases h16 : x.kind = 16
 · have h3 := zhv hs h16
   simp only [h16, h _ (ZE (show 1 < x.kids.length by omega)), h _ (ZE (show 2 < x.kids.length by omega))]
 · by_cases h17 : x.kind = 17
   · have h3 := zhw hs h17
     have e16 : ((17 : Int) == 16) = false := rfl
     simp only [h17, e16, h _ (ZE (show 1 < x.kids.length by omega)), Bool.false_eq_true, if_false]
   · have e16 : (x.kind == 16) = false := by simpa using h16
     have e17 : (x.kind == 17) = false := by simpa using h17
     simp only [e16, e17, Bool.false_eq_true, if_false]
theorem zmE {p : ProgramD} (hD : Deep p.nodes) (l : List VarD) : ∀ (d n : Nat) (s : LowD), n < p.nodes.length -> n < d -> lowF p l d n s = lowS p l n s := by
 intro d
 induction d using Nat.strongRecOn with
 | ind d ih =>
 intro n s hn hd
 obtain ⟨e, rfl⟩ : ∃ e, d = e + 1 := ⟨d - 1, by omega⟩
 unfold lowS
 have e2 : ((n : Int).toNat + 1) = n + 1 := by omega
 rw [e2]
 unfold lowF
 rw [zI hn]
 have hk : ∀ kid ∈ p.nodes[n].kids, ∀ s, lowF p l e kid s = lowF p l n kid s := by
   intro kid hk s2
   obtain ⟨q0, q1, q2⟩ := hD.kid hn kid hk
   obtain ⟨m, rfl⟩ : ∃ m : Nat, kid = m := ⟨kid.toNat, by omega⟩
   have h1 := ih e (by omega) m s2 (by omega) (by omega)
   by_cases hne : n = e
   · subst hne; rfl
   · have h2 := ih n (by omega) m s2 (by omega) (by omega)
     rw [h1, h2]
 rw [zcp _ _ hk, zfv p l _ s (zZ (hD.deep n hn) hn) hk]
theorem zcf {p : ProgramD} (hD : Deep p.nodes) (l : List VarD) {n : Nat} (hn : n < p.nodes.length) (s : LowD) : lowS p l n s = if p.nodes[n].kind == 20 then XI p l p.nodes[n].kids (blkS (lowS p l) p.nodes[n].kids s) else stpK (lowS p l) p l p.nodes[n] s := by
 have e2 : ((n : Int).toNat + 1) = n + 1 := by omega
 conv => lhs; unfold lowS
 rw [e2]
 conv => lhs; unfold lowF
 rw [zI hn]
 have hk : ∀ kid ∈ p.nodes[n].kids, ∀ s, lowF p l n kid s = lowS p l kid s := by
   intro kid hk s2
   obtain ⟨q0, q1, q2⟩ := hD.kid hn kid hk
   obtain ⟨m, rfl⟩ : ∃ m : Nat, kid = m := ⟨kid.toNat, by omega⟩
   exact zmE hD l n m s2 (by omega) (by omega)
 rw [zcp _ _ hk, zfv p l _ s (zZ (hD.deep n hn) hn) hk]
def blkQ (S : Int -> LowD -> LowD) (l : List Int) (i : Nat) (s : LowD) : LowD := blkS S (l.take i) s
theorem zag (S : Int -> LowD -> LowD) (l : List Int) {i : Nat} (h : i < l.length) (s : LowD) : blkQ S l (i + 1) s = S l[i] (blkQ S l i s) := by
 unfold blkQ blkS
 rw [List.take_succ_eq_append_getElem h, List.foldl_append]; rfl
theorem YG (S : Int -> LowD -> LowD) (l : List Int) (s : LowD) : blkQ S l 0 s = s := rfl
theorem YR (S : Int -> LowD -> LowD) (l : List Int) (s : LowD) : blkQ S l l.length s = blkS S l s := by unfold blkQ; rw [List.take_length]
theorem zeJ {S : Int -> LowD -> LowD} {z : Int -> Nat} (l : List Int) (h : ∀ k ∈ l, ∀ s : LowD, s.le (S k s) (z k)) (s : LowD) : ∀ i, i <= l.length -> s.le (blkQ S l i s) (sumN z (l.take i))
 | 0, _ => by simp only [blkQ, blkS, List.take_zero, List.foldl_nil, sumN, List.map_nil, List.sum_nil]; exact .refl s
 | i + 1, hi => by
   rw [zag S l (by omega), List.take_succ_eq_append_getElem (by omega), YI]
   have h1 := zeJ l h s i (by omega)
   have h2 := h l[i] (List.getElem_mem _) (blkQ S l i s)
   have : sumN z [l[i]] = z l[i] := by simp [sumN]
   rw [this]
   exact h1.trans h2
theorem zot (p : ProgramD) (l : List VarD) (s : LowD) (k : Int) : s.le (zjG p l s k) 1 := by
 unfold zjG
 split
 · exact YW _ _
 · exact (LowD.le.refl s).mono (by omega)
theorem zde (p : ProgramD) (l : List VarD) (kids : List Int) : ∀ (i : Nat) (s : LowD), s.le (zbg p l kids i s) i
 | 0, s => .refl s
 | i + 1, s => by
   unfold zbg
   exact ((zot p l s _).trans (zde p l kids i _)).mono (by omega)
theorem sum3 {z : Int -> Nat} {l : List Int} (h : l.length = 3) : sumN z l = z (l.getD 0 0) + z (l.getD 1 0) + z (l.getD 2 0) := by
 match l, h with
 | [a, b, c], _ => simp [sumN]; omega
theorem sum2 {z : Int -> Nat} {l : List Int} (h : l.length = 2) : sumN z l = z (l.getD 0 0) + z (l.getD 1 0) := by
 match l, h with
 | [a, b], _ => simp [sumN]
theorem zdp {z : Int -> Nat} {l : List Int} (h : 0 < l.length) : z (l.getD 0 0) <= sumN z l := by
 match l, h with
 | a :: r, _ => simp [sumN]
theorem zan {x : NodeD} (hs : inI x.kids.length (zA x.kind).1 (zA x.kind).2 = true) (h : 13 <= x.kind /\ x.kind <= 19) : 0 < x.kids.length := by
 have := zu hs
 have h1 : 1 <= (zA x.kind).1 := by
   rcases (show x.kind = 13 \/ x.kind = 14 \/ x.kind = 15 \/ x.kind = 16 \/ x.kind = 17 \/ x.kind = 18 \/ x.kind = 19 by omega) with h | h | h | h | h | h | h <;> rw [h] <;> decide
 omega
theorem zfK (q : Int × LowD) : q.2.le (ifA q) 1 := YW _ _
theorem zmT (q : Int × LowD) (s : LowD) : s.le (ifB q s) 1 := ((YW s _).trans (zjn _ _ _)).mono (by omega)
theorem zpY (top : Nat) (q : Int × LowD) (s : LowD) : s.le (whB top q s) 1 := ((YW s _).trans (zjn _ _ _)).mono (by omega)
theorem zoS {S : Int -> LowD -> LowD} {p : ProgramD} (hD : Deep p.nodes) (l : List VarD) {z : Int -> Nat} (x : NodeD) (hz : ∀ k ∈ x.kids, ∀ s : LowD, s.le (lowV p l k s).2 (z k)) (hS : ∀ i, 0 < i -> i < x.kids.length -> ∀ s : LowD, s.le (S (x.kids.getD i 0) s) (z (x.kids.getD i 0))) (hs : inI x.kids.length (zA x.kind).1 (zA x.kind).2 = true) (hst : 13 <= x.kind /\ x.kind <= 19) (s : LowD) : s.le (stpK S p l x s) (3 + sumN z x.kids) := by
 have hpos := zan hs hst
 have hq := hz _ (ZE hpos) s
 have hg0 := zdp (z := z) hpos
 unfold stpK
 generalize lowV p l (x.kids.getD 0 0) s = q at hq |-
 simp only
 split
 · exact (hq.trans (YW _ _)).mono (by omega)
 split
 · exact (hq.trans (YW _ _)).mono (by omega)
 split
 · exact (hq.trans (YW _ _)).mono (by omega)
 split
 · split
   · exact (hq.trans (YW _ _)).mono (by omega)
   · exact hq.mono (by omega)
 split
 · rename_i h16
   have h3 := zhv hs (eq_of_beq h16)
   have e3 := sum3 (z := z) h3
   have h1 := hS 1 (by omega) (by omega) (ifA q)
   have h2 := hS 2 (by omega) (by omega) (ifB q (S (x.kids.getD 1 0) (ifA q)))
   exact (((((hq.trans (zfK q)).trans h1).trans (zmT q _)).trans h2).trans (zjn _ _ _)).mono (by omega)
 split
 · rename_i h17
   have h3 := zhw hs (eq_of_beq h17)
   have e3 := sum2 (z := z) h3
   have h1 := hS 1 (by omega) (by omega) (ifA q)
   exact (((hq.trans (zfK q)).trans h1).trans (zpY _ q _)).mono (by omega)
 · exact hq.mono (by omega)
theorem yK {nodes : List NodeD} {n : Nat} (hd : dAt nodes n ≠ 0) (hn : n < nodes.length) (h : nodes[n].kind = 20) : ∀ i (hi : i < nodes[n].kids.length), ZT (nAt nodes nodes[n].kids[i]).kind = true := fun i hi => by
 have hft := yP hd hn hi
 unfold yD at hft
 rw [h] at hft
 simpa using hft
theorem ZC {nodes : List NodeD} {n : Nat} (hd : dAt nodes n ≠ 0) (hn : n < nodes.length) (h : 13 <= nodes[n].kind /\ nodes[n].kind <= 19) : ∀ i, 0 < i -> i < nodes[n].kids.length -> (nAt nodes (nodes[n].kids.getD i 0)).kind = 20 := fun i hi0 hi => by
 have hft := yP hd hn hi
 have hsh := zZ hd hn
 have hg : nodes[n].kids.getD i 0 = nodes[n].kids[i] := by simp [List.getD, hi]
 rw [hg]
 unfold yD at hft
 have h20 : (nodes[n].kind == 20) = false := by apply Bool.eq_false_iff.2; intro hh; have := eq_of_beq hh; omega
 have h67 : (nodes[n].kind == 16 || nodes[n].kind == 17) = true := by
   have hr := zu hsh
   by_cases h6 : nodes[n].kind = 16
   · simp [h6]
   by_cases h7 : nodes[n].kind = 17
   · simp [h7]
   have h1 : (zA nodes[n].kind).2 = 1 := by
     rcases (show nodes[n].kind = 13 \/ nodes[n].kind = 14 \/ nodes[n].kind = 15 \/ nodes[n].kind = 18 \/ nodes[n].kind = 19 by omega) with h | h | h | h | h <;> rw [h] <;> decide
   omega
 have hi1 : decide ((0 : Int) < (i : Int)) = true := decide_eq_true (by omega)
 rw [h20, if_neg (by decide), h67, hi1, Bool.true_and, if_pos rfl] at hft
 exact eq_of_beq hft
theorem zdZ {p : ProgramD} (hD : Deep p.nodes) (l : List VarD) (n : Nat) : n < p.nodes.length -> ((nAt p.nodes n).kind = 20 \/ (13 <= (nAt p.nodes n).kind /\ (nAt p.nodes n).kind <= 19)) -> ∀ s : LowD, s.le (lowS p l n s) (szB p.nodes n) := by
 induction n using Nat.strongRecOn with
 | ind n ih =>
 intro hn hkd s
 have hs := XN hD hn
 have hsh := zZ (hD.deep n hn) hn
 rw [zcf hD l hn]
 rw [zI hn] at hkd
 have hv : ∀ k ∈ p.nodes[n].kids, ∀ s2 : LowD, s2.le (lowV p l k s2).2 (szB p.nodes k) := fun k hk s2 => by
   obtain ⟨q0, q1, q2⟩ := hD.kid hn k hk
   obtain ⟨m, rfl⟩ : ∃ m : Nat, k = m := ⟨k.toNat, by omega⟩
   exact zaZ hD l m (by omega) s2
 rcases hkd with h20 | hst
 · have h20b : (p.nodes[n].kind == 20) = true := by rw [h20]; rfl
   rw [if_pos h20b]
   have h1 := zeJ (S := lowS p l) (z := szB p.nodes) p.nodes[n].kids (fun k hk s2 => by
     obtain ⟨i, hi, rfl⟩ := List.getElem_of_mem hk
     obtain ⟨q0, q1, q2⟩ := hD.kid hn _ hk
     have hks := yK (hD.deep n hn) hn h20 i hi
     have hkr := zu (show inI (nAt p.nodes p.nodes[n].kids[i]).kind 13 19 = true from hks)
     generalize p.nodes[n].kids[i] = k at q0 q1 q2 hkr
     obtain ⟨m, rfl⟩ : ∃ m : Nat, k = m := ⟨k.toNat, by omega⟩
     exact ih m (by omega) (by omega) (Or.inr hkr) s2) s p.nodes[n].kids.length (by omega)
   rw [YR, List.take_length] at h1
   exact (h1.trans (zde p l _ _ _)).mono (by omega)
 · have h20b : (p.nodes[n].kind == 20) = false := by apply Bool.eq_false_iff.2; intro hh; have := eq_of_beq hh; omega
   rw [h20b, if_neg (by decide)]
   have hpos := zan hsh hst
   refine (zoS hD l (z := szB p.nodes) p.nodes[n] hv (fun i hi0 hil s2 => ?_) hsh hst s).mono (by omega)
   have hbl := ZC (hD.deep n hn) hn hst i hi0 hil
   have hmem := ZE hil
   obtain ⟨q0, q1, q2⟩ := hD.kid hn _ hmem
   generalize p.nodes[n].kids.getD i 0 = k at q0 q1 q2 hbl
   obtain ⟨m, rfl⟩ : ∃ m : Nat, k = m := ⟨k.toNat, by omega⟩
   exact ih m (by omega) (by omega) (Or.inl hbl) s2
theorem znA (l : List VarD) (j : Nat) : (∃ x, (rows (varC true) l).getD j [] = varC true x) \/ (rows (varC true) l).getD j [] = [] := by
 by_cases h : j < l.length
 · exact Or.inl ⟨l[j], zi _ _ h⟩
 · right
   simp [List.getD, List.getElem?_eq_none (show (rows (varC true) l).length <= j by rw [zR]; omega)]
theorem zfR (p : ProgramD) (l : List VarD) (kids : List Int) {j : Nat} (h : j < kids.length) (s : LowD) : zbg p l kids (j + 1) s = zbg p l kids j (zjG p l s kids[j]) := by
 conv => lhs; unfold zbg
 rw [show kids.getD j 0 = kids[j] by simp [List.getD, h]]
theorem zcN (p : ProgramD) (hD : Deep p.nodes) (l : List VarD) (hl : l.length <= 4194304) (hn : p.nodes.length <= 1048576) (nm : ByteArray) (pn : Int) (n : Nat) (hnl : n < p.nodes.length)
   (hlet : ∀ k ∈ p.nodes[n].kids, (nAt p.nodes k).kind = 13 -> 0 <= yg l (nAt p.nodes k).name) (s : LowD) (hs : s.words.length + p.nodes[n].kids.length <= 1048576) :
   SoundAt Tryz.prog 122 (fun uf => zq 0 [.ro (.bp 2000 0), .ro (.sc (.int .i64 n))]) [(2000, .box (lowC p l nm pn s))]
     (fun rs st => rs = [] /\ yh st.ob [(2000, .box (lowC p l nm pn (XI p l p.nodes[n].kids s)))]) := by
 have hkid := hD.kid hnl
 have hx : (rows (zg true) p.nodes).getD n [] = zg true p.nodes[n] := zi _ _ hnl
 have hc1 : ((n : Int) < (p.nodes.length : Int)) = True := eq_true (by omega)
 obtain ⟨R, hR⟩ : ∃ R, R = XI p l p.nodes[n].kids s := ⟨_, rfl⟩
 rw [<- hR]
 unfold XI at hR
 generalize p.nodes[n] = x at hkid hx hlet hs hR
 have w1 : IntKind.i64.wrap ((x.kids.length : Int) - 1) = (x.kids.length : Int) - 1 := w64 (by omega) (by omega)
 refine zt (fn := Tryz.f122) (c := Tryz.f122.body.getD .skip) (res := []) (n := 60) ze (by kernel_rfl) (by rfl) (by kernel_rfl) (by rfl) (by rfl) (by simp [zq]) (fun uf ub C hpin hpin2 hfull => ?_)
 simp only [Tryz.f122, Option.getD_some]
 refine Tri.step ze ?_
 simp +decide only [hc1, hx, zg, Int.natCast_nonneg, zb, za, lowC, hpin, hpin2, go_sem, reduceAdd, reduceMul]
 refine zf ze _ ?_
 simp +decide only [w1, zb, za, lowC, hpin, hpin2, go_sem, reduceAdd, reduceMul]
 refine Tri.loop (ι := Nat × LowD) (fun q => q.1 <= x.kids.length /\ R = zbg p l x.kids q.1 q.2 /\ q.2.words.length + q.1 <= 1048576) (fun q => ⟨60, [(0, .bp 2000 0), (4, roI x.kids), (5, vI ((q.1 : Int) - 1))], [(2000, .box (lowC p l nm pn q.2))]⟩) (fun q => q.1) (x.kids.length, s) ⟨by simp, hR, hs⟩ ?_ ?_
 · refine Ent.weak ?_ ?_ ?_ ?_ <;> simp +decide [subT, subB, zl, zk, zo, St.get, look, vI, vB, vS, cI, cS, cB, zg, za, lowC, roI]
 · rintro ⟨j, t⟩ ⟨hj, hq, hw⟩
   simp only at hj hq hw |-
   refine zf ze _ ?_
   cases j with
   | zero =>
     unfold zbg at hq
     subst hq
     have e : (0 <= (((0 : Nat) : Int) - 1)) = False := by simp
     simp +decide only [e, ge_iff_le, vB, vI, zb, za, lowC, hpin, hpin2, go_sem, reduceAdd, reduceMul]
   | succ j =>
     have hjl : j < x.kids.length := by omega
     rw [zfR p l x.kids hjl] at hq
     have ej : (((j + 1 : Nat) : Int) - 1) = (j : Int) := by omega
     have e : (0 <= (j : Int)) = True := by simp
     have ejl : ((j : Int) < (x.kids.length : Int)) = True := eq_true (by omega)
     have hkm := List.getElem_mem hjl
     obtain ⟨q0, q1, q2⟩ := hkid x.kids[j] hkm
     have hlt := hlet x.kids[j] hkm
     have hkg := zr cI x.kids hjl
     simp only [cI] at hkg
     generalize x.kids[j] = k at q0 q1 q2 hlt hkg hq
     obtain ⟨m, rfl⟩ : ∃ m : Nat, k = m := ⟨k.toNat, by omega⟩
     have hml : m < p.nodes.length := by omega
     unfold zjG at hq
     rw [zI hml] at hlt hq
     have hy : (rows (zg true) p.nodes).getD m [] = zg true p.nodes[m] := zi _ _ hml
     have hcm : ((m : Int) < (p.nodes.length : Int)) = True := eq_true (by omega)
     generalize p.nodes[m] = y at hlt hq hy
     have hva := ZG l y.name hl
     have hvr := YE y.name l 0
     have hvf : yg l y.name = zaD y.name l 0 := rfl
     rw [<- hvf] at hvr
     unfold vAt at hq
     generalize yg l y.name = v at hlt hq hva hvr
     have w2 : IntKind.i64.wrap ((j : Int) - 1) = (j : Int) - 1 := w64 (by omega) (by omega)
     simp +decide only [ej, e, ge_iff_le, vB, vI, zb, za, lowC, hpin, hpin2, go_sem, reduceAdd, reduceMul]
     refine Tri.fork ze (.one 0 true (.one 1 true (.one 2 true (.one 3 true (.one 5 true (.one 6 true (.one 7 true (.one 8 true (.two 4 (.one 9 true (.one 10 true (.one 11 false (.one 12 false .done)))) 11 (.one 4 false (.one 9 false (.one 10 false (.one 12 false .done))))))))))))) zL (by kernel_rfl) (fun C2 hC2 => ?_)
     have hp2 := zN hC2 hpin
     simp +decide only [ej, e, ejl, hkg, hjl, hcm, hy, zg, Int.natCast_nonneg, zb, za, lowC, hp2, hpin, hpin2, go_sem, reduceAdd, reduceMul]
     refine ⟨?_, ?_⟩
     all_goals
       refine Tri.ent ?_ (Ent.frb hfull 6)
       refine Tri.fork ze (.one 0 true (.one 1 true (.one 2 true (.one 4 true (.one 5 true (.one 3 false (.one 6 false (.one 7 false .done)))))))) zL (by kernel_rfl) (fun C3 hC3 => ?_)
       have hp3 := zN hC3 hpin
       simp +decide only [zg, zb, za, lowC, hp3, hpin, hpin2, go_sem, reduceAdd, reduceMul]
       refine zd hva hp3 ?_
       cases h13 : y.kind == 13 with
       | false =>
         rw [h13, Bool.false_and, if_neg (by decide)] at hq
         rcases znA l v.toNat with ⟨vr, hvx⟩ | hvx
         · simp +decide only [h13, hvx, varC, zg, zb, za, lowC, hp3, hpin, hpin2, go_sem, reduceAdd, reduceMul]
           try simp +decide only [w2, zb, za, lowC, hpin, hpin2, go_sem, reduceAdd, reduceMul]
           refine ⟨(j, t), ⟨by show j <= _; omega, hq, by show t.words.length + j <= _; omega⟩, by show j < j + 1; omega, Ent.weak ?_ ?_ ?_ ?_⟩
           all_goals simp +decide [subT, subB, zl, zk, zo, St.get, look, vI, vB, vS, cI, cS, cB, zg, za, lowC, roI, w2]
         · simp +decide only [h13, hvx, zg, zb, za, lowC, hp3, hpin, hpin2, go_sem, reduceAdd, reduceMul]
           try simp +decide only [w2, zb, za, lowC, hpin, hpin2, go_sem, reduceAdd, reduceMul]
           refine ⟨(j, t), ⟨by show j <= _; omega, hq, by show t.words.length + j <= _; omega⟩, by show j < j + 1; omega, Ent.weak ?_ ?_ ?_ ?_⟩
           all_goals simp +decide [subT, subB, zl, zk, zo, St.get, look, vI, vB, vS, cI, cS, cB, zg, za, lowC, roI, w2]
       | true =>
         rw [h13, Bool.true_and] at hq
         have hv0 := hlt (eq_of_beq h13)
         have c0 : (0 <= v) = True := eq_true hv0
         have hvl : v.toNat < l.length := by omega
         have c1 : (v < (l.length : Int)) = True := eq_true (by omega)
         have hvx : (rows (varC true) l).getD v.toNat [] = varC true l[v.toNat] := zi _ _ hvl
         rw [show l.getD v.toNat vr0 = l[v.toNat] by simp [List.getD, hvl]] at hq
         generalize l[v.toNat] = vr at hq hvx
         cases h2 : vr.ty == 2 with
         | false =>
           rw [h2, if_neg (by decide)] at hq
           simp +decide only [h13, h2, c0, c1, hvl, hvx, varC, zg, zb, za, lowC, hp3, hpin, hpin2, go_sem, reduceAdd, reduceMul]
           try simp +decide only [w2, h2, c0, c1, hvl, hvx, varC, zb, za, lowC, hpin, hpin2, go_sem, reduceAdd, reduceMul]
           refine ⟨(j, t), ⟨by show j <= _; omega, hq, by show t.words.length + j <= _; omega⟩, by show j < j + 1; omega, Ent.weak ?_ ?_ ?_ ?_⟩
           all_goals simp +decide [subT, subB, zl, zk, zo, St.get, look, vI, vB, vS, cI, cS, cB, zg, za, lowC, roI, w2]
         | true =>
           rw [h2, if_pos rfl] at hq
           have hadd := yp p l nm pn t 17 v 0 0 0 ⟨#[]⟩ (by omega)
           simp only [lowC, cI] at hadd
           simp +decide only [h13, h2, c0, c1, hvl, hvx, varC, zg, zb, za, lowC, hp3, hpin, hpin2, go_sem, reduceAdd, reduceMul]
           refine zw hadd hpin hfull [(2000, 2000)] [] [(2000, 2000)] ⟨rfl, rfl, rfl, rfl⟩ (fun uf => ?_) ?_
           · simp +decide only [zb, za, lowC, hpin, hpin2, go_sem, reduceAdd, reduceMul]
           simp +decide only [w2, LowD.addW, zb, za, lowC, hpin, hpin2, go_sem, reduceAdd, reduceMul]
           refine ⟨(j, t.addW (in3 17 v 0)), ⟨by show j <= _; omega, hq, by show (t.words ++ [_]).length + j <= _; rw [List.length_append, List.length_singleton]; omega⟩, by show j < j + 1; omega, Ent.weak ?_ ?_ ?_ ?_⟩
           all_goals simp +decide [subT, subB, zl, zk, zo, St.get, look, vI, vB, vS, cI, cS, cB, zg, za, lowC, roI, LowD.addW, in3, w2]
def LetsIn (p : ProgramD) (l : List VarD) (n : Nat) : Prop := ∀ m, Reach p.nodes n m -> (nAt p.nodes m).kind = 13 -> 0 <= yg l (nAt p.nodes m).name
theorem LetsIn.kid {p : ProgramD} {l : List VarD} {n : Nat} (h : LetsIn p l n) (hn : n < p.nodes.length) {k : Int} (hk : k ∈ p.nodes[n].kids) : LetsIn p l k.toNat := fun m hm h13 => h m ((Reach.step (.refl n) hn hk).trans hm) h13
theorem LetsIn.own {p : ProgramD} {l : List VarD} {n : Nat} (hD : Deep p.nodes) (h : LetsIn p l n) (hn : n < p.nodes.length) : ∀ k ∈ p.nodes[n].kids, (nAt p.nodes k).kind = 13 -> 0 <= yg l (nAt p.nodes k).name := fun k hk h13 => by
 obtain ⟨q0, q1, q2⟩ := hD.kid hn k hk
 have := h.kid hn hk k.toNat (.refl _)
 rw [show ((k.toNat : Nat) : Int) = k by omega] at this
 exact this h13
theorem zbY (s : LowD) {i : Nat} (h : i < s.words.length) (n : Int) : s.setN i n = ⟨s.locs, s.words.set i (s.words[i].numTo n)⟩ := by
 unfold LowD.setN
 rw [show s.words.getD i in0 = s.words[i] by simp [List.getD, h]]
def zpV (p : ProgramD) (l : List VarD) (nm : ByteArray) (pn : Int) (n : Nat) : Prop := ZT (nAt p.nodes n).kind = true -> LetsIn p l n -> ∀ s : LowD, s.words.length + szB p.nodes n <= 1048576 -> s.locs.length + szB p.nodes n <= 1048576 ->
   SoundAt Tryz.prog 120 (fun uf => zq 0 [.ro (.bp 2000 0), .ro (.sc (.int .i64 n))]) [(2000, .box (lowC p l nm pn s))]
     (fun rs st => rs = [] /\ yh st.ob [(2000, .box (lowC p l nm pn (lowS p l n s)))])
def znv (p : ProgramD) (l : List VarD) (nm : ByteArray) (pn : Int) (n : Nat) : Prop := (nAt p.nodes n).kind = 20 -> LetsIn p l n -> ∀ s : LowD, s.words.length + szB p.nodes n <= 1048576 -> s.locs.length + szB p.nodes n <= 1048576 ->
   SoundAt Tryz.prog 179 (fun uf => zq 0 [.ro (.bp 2000 0), .ro (.sc (.int .i64 n))]) [(2000, .box (lowC p l nm pn s))]
     (fun rs st => rs = [] /\ yh st.ob [(2000, .box (lowC p l nm pn (lowS p l n s)))])
theorem zmU (p : ProgramD) (hD : Deep p.nodes) (l : List VarD) (hl : l.length <= 4194304) (hn : p.nodes.length <= 1048576) (nm : ByteArray) (pn : Int) (n : Nat) (hnl : n < p.nodes.length) (ih : ∀ m, m < n -> zpV p l nm pn m) : znv p l nm pn n := by
 intro h20 hlt s hs1 hs2
 rw [zI hnl] at h20
 have hkid := hD.kid hnl
 have heq := zcf hD l hnl s
 have hsz := XN hD hnl
 have hx : (rows (zg true) p.nodes).getD n [] = zg true p.nodes[n] := zi _ _ hnl
 have hdr := fun t h => zcN p hD l hl hn nm pn n hnl (hlt.own hD hnl) t h
 have hstp := yK (hD.deep n hnl) hnl h20
 have hgrow := zeJ (S := lowS p l) (z := szB p.nodes) p.nodes[n].kids (fun k hk s2 => by
   obtain ⟨i, hi, rfl⟩ := List.getElem_of_mem hk
   obtain ⟨q0, q1, q2⟩ := hkid _ hk
   have hkr := zu (show inI (nAt p.nodes p.nodes[n].kids[i]).kind 13 19 = true from hstp i hi)
   generalize p.nodes[n].kids[i] = k at q0 q1 q2 hkr
   obtain ⟨m, rfl⟩ : ∃ m : Nat, k = m := ⟨k.toNat, by omega⟩
   exact zdZ hD l m (by omega) (Or.inr hkr) s2) s
 have hpart : ∀ i (hi : i < p.nodes[n].kids.length), sumN (szB p.nodes) (p.nodes[n].kids.take i) + szB p.nodes p.nodes[n].kids[i] <= sumN (szB p.nodes) p.nodes[n].kids := fun i hi => by
   have h1 := xN (szB p.nodes) p.nodes[n].kids (i + 1)
   rw [List.take_succ_eq_append_getElem hi, YI] at h1
   have : sumN (szB p.nodes) [p.nodes[n].kids[i]] = szB p.nodes p.nodes[n].kids[i] := by simp [sumN]
   omega
 have hrec : ∀ i (hi : i < p.nodes[n].kids.length), ∀ t : LowD, t.words.length + szB p.nodes p.nodes[n].kids[i] <= 1048576 -> t.locs.length + szB p.nodes p.nodes[n].kids[i] <= 1048576 -> SoundAt Tryz.prog 120 (fun uf => zq 0 [.ro (.bp 2000 0), .ro (.sc (.int .i64 p.nodes[n].kids[i]))]) [(2000, .box (lowC p l nm pn t))]
     (fun rs st => rs = [] /\ yh st.ob [(2000, .box (lowC p l nm pn (lowS p l p.nodes[n].kids[i] t)))]) := fun i hi t h1 h2 => by
   have hk2 := hstp i hi
   obtain ⟨q0, q1, q2⟩ := hkid p.nodes[n].kids[i] (List.getElem_mem hi)
   have hl2 := hlt.kid hnl (List.getElem_mem hi)
   have e : p.nodes[n].kids[i] = (p.nodes[n].kids[i].toNat : Int) := by omega
   rw [e] at h1 h2
   have := ih p.nodes[n].kids[i].toNat q2 (by rw [<- e]; exact hk2) hl2 t h1 h2
   rw [<- e] at this
   exact this
 have hc1 : ((n : Int) < (p.nodes.length : Int)) = True := eq_true (by omega)
 have h20b : (p.nodes[n].kind == 20) = true := by rw [h20]; rfl
 rw [if_pos h20b] at heq
 rw [heq]
 generalize szB p.nodes n = Z at hs1 hs2 hsz
 generalize p.nodes[n] = x at hkid heq hx hrec hsz hgrow hpart hdr
 have hq0 := YG (lowS p l) x.kids s
 have hqe := YR (lowS p l) x.kids s
 refine zt (fn := Tryz.f179) (c := Tryz.f179.body.getD .skip) (res := []) (n := 27) ze (by kernel_rfl) (by rfl) (by kernel_rfl) (by rfl) (by rfl) (by simp [zq]) (fun uf ub C hpin hpin2 hfull => ?_)
 simp only [Tryz.f179, Option.getD_some]
 refine Tri.step ze ?_
 simp +decide only [hc1, hx, zg, Int.natCast_nonneg, zb, za, lowC, hpin, hpin2, go_sem, reduceAdd, reduceMul]
 refine Tri.loop (ι := Nat) (fun i => i <= x.kids.length) (fun i => ⟨27, [(0, .bp 2000 0), (1, vI n), (14, roI x.kids), (15, vI x.kids.length), (16, vI i)], [(2000, .box (lowC p l nm pn (blkQ (lowS p l) x.kids i s)))]⟩) (fun i => x.kids.length - i) 0 (by simp) ?_ ?_
 · refine Ent.weak ?_ ?_ ?_ ?_ <;> simp +decide [subT, subB, zl, zk, zo, St.get, look, vI, vB, vS, cI, cS, cB, zg, za, lowC, roI, YG]
 · rintro i hi
   refine zf ze _ ?_
   obtain ⟨g1, g2, g3, g4⟩ := hgrow i hi
   by_cases h' : i < x.kids.length
   · have e : ((i : Int) < (x.kids.length : Int)) = True := by simp [h']
     have hqn := zag (lowS p l) x.kids h' s
     have hpt := hpart i h'
     generalize blkQ (lowS p l) x.kids i s = q at g1 g2 g3 g4 hqn |-
     have hcall := hrec i h' q (by omega) (by omega)
     rw [<- hqn] at hcall
     simp only [lowC, cI, cB] at hcall
     simp +decide only [e, h', zr _ _ h', zg, Int.natCast_nonneg, vB, vI, zb, za, lowC, hpin, hpin2, go_sem, reduceAdd, reduceMul]
     refine zw hcall hpin hfull [(2000, 2000)] [] [(2000, 2000)] ⟨rfl, rfl, rfl, rfl⟩ (fun uf => ?_) ?_
     · simp +decide only [zb, za, lowC, hpin, hpin2, go_sem, reduceAdd, reduceMul]
     simp +decide only [zb, za, lowC, hpin, hpin2, go_sem, reduceAdd, reduceMul]
     refine ⟨i + 1, h', by omega, Ent.weak ?_ ?_ ?_ ?_⟩
     all_goals simp +decide [subT, subB, zl, zk, zo, St.get, look, vI, vB, vS, cI, cS, cB, zg, za, lowC, roI, w64s (n := x.kids.length) h' (by omega)]
   have hil : i = x.kids.length := by omega
   subst hil
   have e : ((x.kids.length : Int) < (x.kids.length : Int)) = False := by simp
   rw [List.take_length] at g2 g4
   rw [hqe] at g1 g2 g3 g4 |-
   generalize blkS (lowS p l) x.kids s = q at g1 g2 g3 g4 |-
   have hd2 := hdr q (by omega)
   simp only [lowC, cI] at hd2
   simp +decide only [e, zg, vB, vI, zb, za, lowC, hpin, hpin2, go_sem, reduceAdd, reduceMul]
   refine zf ze _ ?_
   simp +decide only [zb, za, lowC, hpin, hpin2, go_sem, reduceAdd, reduceMul]
   refine zw hd2 hpin hfull [(2000, 2000)] [] [(2000, 2000)] ⟨rfl, rfl, rfl, rfl⟩ (fun uf => ?_) ?_
   · simp +decide only [zb, za, lowC, hpin, hpin2, go_sem, reduceAdd, reduceMul]
   simp +decide only [zb, za, lowC, hpin, hpin2, go_sem, reduceAdd, reduceMul]
theorem zog (p : ProgramD) (hD : Deep p.nodes) (l : List VarD) (hl : l.length <= 4194304) (hf : p.fns.length <= 1048576) (hn : p.nodes.length <= 1048576) (hk : ∀ x ∈ p.nodes, x.kids.length <= 300) (nm : ByteArray) (pn : Int) (n : Nat) (hnl : n < p.nodes.length) (ih : ∀ m, m < n -> znv p l nm pn m) : zpV p l nm pn n := by
 intro hst hlt s hs1 hs2
 rw [zI hnl] at hst
 have hsr := zu (show inI p.nodes[n].kind 13 19 = true from hst)
 have hkid := hD.kid hnl
 have heq := zcf hD l hnl s
 have hsz := XN hD hnl
 have hsh := zZ (hD.deep n hnl) hnl
 have hx : (rows (zg true) p.nodes).getD n [] = zg true p.nodes[n] := zi _ _ hnl
 have hpos := zan hsh hsr
 have h20b : (p.nodes[n].kind == 20) = false := by apply Bool.eq_false_iff.2; intro hh; have := eq_of_beq hh; omega
 rw [h20b, if_neg (by decide)] at heq
 have hval : SoundAt Tryz.prog 121 (fun uf => zq 0 [.ro (.bp 2000 0), .ro (.sc (.int .i64 (p.nodes[n].kids.getD 0 0)))]) [(2000, .box (lowC p l nm pn s))]
     (fun rs st => rs = [(false, [cI (lowV p l (p.nodes[n].kids.getD 0 0) s).1])] /\ yh st.ob [(2000, .box (lowC p l nm pn (lowV p l (p.nodes[n].kids.getD 0 0) s).2))]) /\ s.le (lowV p l (p.nodes[n].kids.getD 0 0) s).2 (szB p.nodes (p.nodes[n].kids.getD 0 0)) /\ ((lowV p l (p.nodes[n].kids.getD 0 0) s).1 = -1 \/ (0 <= (lowV p l (p.nodes[n].kids.getD 0 0) s).1 /\ (lowV p l (p.nodes[n].kids.getD 0 0) s).1 < ((lowV p l (p.nodes[n].kids.getD 0 0) s).2.locs.length : Int))) := by
   have hft := yP (hD.deep n hnl) hnl hpos
   have hg : p.nodes[n].kids.getD 0 0 = p.nodes[n].kids[0] := by simp [List.getD, hpos]
   rw [hg]
   have hv2 : yV (nAt p.nodes p.nodes[n].kids[0]).kind = true := by
     unfold yD at hft
     have h00 : decide ((0 : Int) < ((0 : Nat) : Int)) = false := by decide
     rw [h20b, if_neg (by decide), h00, Bool.and_false, if_neg (by decide)] at hft
     split at hft
     · have := eq_of_beq hft; rw [this]; decide
     · exact hft
   obtain ⟨q0, q1, q2⟩ := hkid p.nodes[n].kids[0] (List.getElem_mem hpos)
   have hge := zdp (z := szB p.nodes) hpos
   rw [hg] at hge
   generalize p.nodes[n].kids[0] = k at q0 q1 q2 hv2 hge
   obtain ⟨m, rfl⟩ : ∃ m : Nat, k = m := ⟨k.toNat, by omega⟩
   exact ⟨zcv p hD l hl hf hn hk nm pn m (by omega) hv2 s (by omega) (by omega), zaZ hD l m (by omega) s, zmB hD l m (by omega) s⟩
 have hblk : ∀ i, 0 < i -> i < p.nodes[n].kids.length -> (∀ t : LowD, t.words.length + szB p.nodes (p.nodes[n].kids.getD i 0) <= 1048576 -> t.locs.length + szB p.nodes (p.nodes[n].kids.getD i 0) <= 1048576 -> SoundAt Tryz.prog 179 (fun uf => zq 0 [.ro (.bp 2000 0), .ro (.sc (.int .i64 (p.nodes[n].kids.getD i 0)))]) [(2000, .box (lowC p l nm pn t))]
     (fun rs st => rs = [] /\ yh st.ob [(2000, .box (lowC p l nm pn (lowS p l (p.nodes[n].kids.getD i 0) t)))])) /\ ∀ t : LowD, t.le (lowS p l (p.nodes[n].kids.getD i 0) t) (szB p.nodes (p.nodes[n].kids.getD i 0)) := fun i hi0 hi => by
   have hbl := ZC (hD.deep n hnl) hnl hsr i hi0 hi
   have hmem := ZE hi
   obtain ⟨q0, q1, q2⟩ := hkid _ hmem
   have hl2 := hlt.kid hnl hmem
   generalize p.nodes[n].kids.getD i 0 = k at q0 q1 q2 hbl hl2
   obtain ⟨m, rfl⟩ : ∃ m : Nat, k = m := ⟨k.toNat, by omega⟩
   exact ⟨fun t h1 h2 => ih m (by omega) hbl hl2 t h1 h2, zdZ hD l m (by omega) (Or.inl hbl)⟩
 have hc1 : ((n : Int) < (p.nodes.length : Int)) = True := eq_true (by omega)
 rw [heq]
 generalize szB p.nodes n = Z at hs1 hs2 hsz
 generalize p.nodes[n] = x at hkid heq hx hsr hsz hsh hpos hval hblk
 have hge := zdp (z := szB p.nodes) hpos
 have hgm : (row1 cI x.kids).getD (Int.toNat 0) [] = [cI (x.kids.getD 0 0)] := by rw [show Int.toNat 0 = 0 from rfl, zr cI x.kids hpos]; simp [List.getD, hpos]
 have hc0 : ((0 : Int) < (x.kids.length : Int)) = True := eq_true (by omega)
 have hva := ZG l x.name hl
 clear heq
 obtain ⟨R, hR⟩ : ∃ R, R = stpK (lowS p l) p l x s := ⟨_, rfl⟩
 rw [<- hR]
 unfold stpK at hR
 obtain ⟨hval, hvle, hvat⟩ := hval
 generalize lowV p l (x.kids.getD 0 0) s = q at hval hvle hvat hR
 generalize yg l x.name = v at hva hR
 obtain ⟨qa, qs⟩ := q
 obtain ⟨g1, g2, g3, g4⟩ := hvle
 simp only at hval hvat g1 g2 g3 g4 hR
 simp only [lowC, cI] at hval hgm
 refine zt (fn := Tryz.f120) (c := Tryz.f120.body.getD .skip) (res := []) (n := 159) ze (by kernel_rfl) (by rfl) (by kernel_rfl) (by rfl) (by rfl) (by simp [zq]) (fun uf ub C hpin hpin2 hfull => ?_)
 simp only [Tryz.f120, Option.getD_some]
 refine Tri.step ze ?_
 simp +decide only [hc1, hx, zg, Int.natCast_nonneg, zb, za, lowC, hpin, hpin2, go_sem, reduceAdd, reduceMul]
 refine Tri.ent ?_ (Ent.frb hfull 4)
 refine Tri.step ze ?_
 simp +decide only [zg, zb, za, lowC, hpin, hpin2, go_sem, reduceAdd, reduceMul]
 refine Tri.step ze ?_
 simp +decide only [hc0, hpos, hgm, zg, zb, za, lowC, hpin, hpin2, go_sem, reduceAdd, reduceMul]
 refine zw hval hpin hfull [(2000, 2000)] [] [(2000, 2000)] ⟨rfl, rfl, rfl, rfl⟩ (fun uf => ?_) ?_
 · simp +decide only [zb, za, lowC, hpin, hpin2, go_sem, reduceAdd, reduceMul]
 simp +decide only [zb, za, lowC, hpin, hpin2, go_sem, reduceAdd, reduceMul]
 refine Tri.step ze ?_
 refine Tri.fork ze (.one 0 true (.one 1 true (.one 2 true (.one 4 true (.one 5 true (.one 3 false (.one 6 false (.one 7 false .done)))))))) zL (by kernel_rfl) (fun C2 hC2 => ?_)
 have hp2 := zN hC2 hpin
 simp +decide only [zg, zb, za, lowC, hp2, hpin, hpin2, go_sem, reduceAdd, reduceMul]
 refine zd hva hp2 ?_
 simp +decide only [zg, zb, za, lowC, hp2, hpin, hpin2, go_sem, reduceAdd, reduceMul]
 refine Tri.step ze ?_
 simp +decide only [zg, zb, za, lowC, hpin, hpin2, go_sem, reduceAdd, reduceMul]
 refine zf ze _ ?_
 rcases (show x.kind = 13 \/ x.kind = 14 \/ x.kind = 15 \/ x.kind = 16 \/ x.kind = 17 \/ x.kind = 18 \/ x.kind = 19 by omega) with hk | hk | hk | hk | hk | hk | hk
 · -- 13
   simp +decide only [hk, if_true, if_false] at hR
   subst hR
   have hadd := yp p l nm pn qs 14 v qa 0 0 ⟨#[]⟩ (by omega)
   simp only [lowC, cI] at hadd
   simp +decide only [Int.reduceBEq, hk, zg, Bool.or_true, Bool.true_or, Bool.or_false, Bool.or_self, zb, za, lowC, hpin, hpin2, go_sem, reduceAdd, reduceMul]
   refine zw hadd hpin hfull [(2000, 2000)] [] [(2000, 2000)] ⟨rfl, rfl, rfl, rfl⟩ (fun uf => ?_) ?_
   · simp +decide only [zb, za, lowC, hpin, hpin2, go_sem, reduceAdd, reduceMul]
   simp +decide only [LowD.addW, in3, zb, za, lowC, hpin, hpin2, go_sem, reduceAdd, reduceMul]
 · -- 14
   simp +decide only [hk, if_true, if_false] at hR
   subst hR
   have hadd := yp p l nm pn qs 14 v qa 0 0 ⟨#[]⟩ (by omega)
   simp only [lowC, cI] at hadd
   simp +decide only [Int.reduceBEq, hk, zg, Bool.or_true, Bool.true_or, Bool.or_false, Bool.or_self, zb, za, lowC, hpin, hpin2, go_sem, reduceAdd, reduceMul]
   refine zw hadd hpin hfull [(2000, 2000)] [] [(2000, 2000)] ⟨rfl, rfl, rfl, rfl⟩ (fun uf => ?_) ?_
   · simp +decide only [zb, za, lowC, hpin, hpin2, go_sem, reduceAdd, reduceMul]
   simp +decide only [LowD.addW, in3, zb, za, lowC, hpin, hpin2, go_sem, reduceAdd, reduceMul]
 · -- 15
   simp +decide only [hk, if_true, if_false] at hR
   subst hR
   have hadd := yp p l nm pn qs 15 v qa 0 0 ⟨#[]⟩ (by omega)
   simp only [lowC, cI] at hadd
   simp +decide only [Int.reduceBEq, hk, zg, Bool.or_true, Bool.true_or, Bool.or_false, Bool.or_self, zb, za, lowC, hpin, hpin2, go_sem, reduceAdd, reduceMul]
   refine zw hadd hpin hfull [(2000, 2000)] [] [(2000, 2000)] ⟨rfl, rfl, rfl, rfl⟩ (fun uf => ?_) ?_
   · simp +decide only [zb, za, lowC, hpin, hpin2, go_sem, reduceAdd, reduceMul]
   simp +decide only [LowD.addW, in3, zb, za, lowC, hpin, hpin2, go_sem, reduceAdd, reduceMul]
 · -- 16
   have h3 := zhv hsh hk
   have e3 := sum3 (z := szB p.nodes) h3
   obtain ⟨hb1, hl1⟩ := hblk 1 (by omega) (by omega)
   obtain ⟨hb2, hl2⟩ := hblk 2 (by omega) (by omega)
   have hg1 : (row1 cI x.kids).getD (Int.toNat 1) [] = [cI (x.kids.getD 1 0)] := by rw [show Int.toNat 1 = 1 from rfl, zr cI x.kids (show 1 < x.kids.length by omega)]; simp [List.getD, show 1 < x.kids.length by omega]
   have hg2 : (row1 cI x.kids).getD (Int.toNat 2) [] = [cI (x.kids.getD 2 0)] := by rw [show Int.toNat 2 = 2 from rfl, zr cI x.kids (show 2 < x.kids.length by omega)]; simp [List.getD, show 2 < x.kids.length by omega]
   have d1 : ((1 : Int) < (x.kids.length : Int)) = True := eq_true (by omega)
   have d2 : ((2 : Int) < (x.kids.length : Int)) = True := eq_true (by omega)
   have d1n : 1 < x.kids.length := by omega
   have d2n : 2 < x.kids.length := by omega
   simp only [cI] at hg1 hg2
   simp +decide only [hk, if_true, if_false] at hR
   have hA := zfK (qa, qs)
   have hadd := yp p l nm pn qs 19 qa 0 0 0 ⟨#[]⟩ (by omega)
   have hadd : SoundAt Tryz.prog 123 (fun uf => zq 0 [.ro (.bp 2000 0), .ro (.agg [.sc (.int .i64 19), .sc (.int .i64 qa), .sc (.int .i64 0), .sc (.int .i64 0), .sc (.int .i64 0), .sc (.string ⟨#[]⟩), .sc (.slice none 0 0)])]) [(2000, .box (lowC p l nm pn qs))]
     (fun rs st => rs = [(false, [cI qs.words.length])] /\ yh st.ob [(2000, .box (lowC p l nm pn (ifA (qa, qs))))]) := hadd
   generalize hAA : ifA (qa, qs) = A at hA hadd hR
   obtain ⟨a1, a2, a3, a4⟩ := hA
   simp only at a1 a2 a3 a4
   have hB1 := hl1 A
   have hc1 := hb1 A (by omega) (by omega)
   generalize lowS p l (x.kids.getD 1 0) A = B at hB1 hc1 hR
   obtain ⟨b1, b2, b3, b4⟩ := hB1
   have hidx : qs.words.length < B.words.length := by
     have : A.words.length = qs.words.length + 1 := by rw [<- hAA]; simp [ifA, LowD.addW]
     omega
   obtain ⟨B2, hB2⟩ : ∃ z, z = B.addW (in3 18 0 0) := ⟨_, rfl⟩
   have haddB : SoundAt Tryz.prog 123 (fun uf => zq 0 [.ro (.bp 2000 0), .ro (.agg [.sc (.int .i64 18), .sc (.int .i64 0), .sc (.int .i64 0), .sc (.int .i64 0), .sc (.int .i64 0), .sc (.string ⟨#[]⟩), .sc (.slice none 0 0)])]) [(2000, .box (lowC p l nm pn B))]
     (fun rs st => rs = [(false, [cI B.words.length])] /\ yh st.ob [(2000, .box (lowC p l nm pn B2))]) := by rw [hB2]; exact yp p l nm pn B 18 0 0 0 0 ⟨#[]⟩ (by omega)
   have hlenB : B2.words.length = B.words.length + 1 := by rw [hB2]; simp [LowD.addW]
   have hlocB : B2.locs = B.locs := by rw [hB2]; rfl
   have hidx2 : qs.words.length < B2.words.length := by omega
   have hC := zmT (qa, qs) B
   have hCe : ifB (qa, qs) B = ⟨B2.locs, B2.words.set qs.words.length (B2.words[qs.words.length].numTo ((B.words.length : Int) + 1))⟩ := by
     rw [<- zbY _ hidx2, hB2]; rfl
   have hsetB := zau hidx2 ((B.words.length : Int) + 1)
   have hqB := xy (insC false) _ hidx2
   rw [hCe] at hC hR
   generalize B2.words.set qs.words.length (B2.words[qs.words.length].numTo ((B.words.length : Int) + 1)) = W at hC hR hsetB
   generalize B2.words[qs.words.length] = y at hqB
   simp only [insC, cI, cS] at hqB
   obtain ⟨c1_, c2_, c3_, c4_⟩ := hC
   simp only at c1_ c2_ c3_ c4_
   have hD1 := hl2 ⟨B2.locs, W⟩
   have hc2 := hb2 ⟨B2.locs, W⟩ (by simp only; omega) (by simp only; omega)
   generalize lowS p l (x.kids.getD 2 0) ⟨B2.locs, W⟩ = E at hD1 hc2 hR
   obtain ⟨d1_, d2_, d3_, d4_⟩ := hD1
   simp only at d1_ d2_ d3_ d4_
   have hWl : W.length = B2.words.length := by
     have := congrArg List.length hsetB
     rw [zR, xm, zR] at this
     exact this.symm
   have hidx3 : B.words.length < E.words.length := by omega
   have hRe : R = ⟨E.locs, E.words.set B.words.length (E.words[B.words.length].numTo (E.words.length : Int))⟩ := by rw [hR]; unfold ifC; rw [zbY _ hidx3]
   have hsetE := zau hidx3 (E.words.length : Int)
   have hqE := xy (insC false) _ hidx3
   generalize E.words.set B.words.length (E.words[B.words.length].numTo (E.words.length : Int)) = W2 at hRe hsetE
   generalize E.words[B.words.length] = y2 at hqE
   simp only [insC, cI, cS] at hqE
   subst hRe
   simp only [lowC, cI, cS] at hadd hc1 haddB hc2
   have i1 : ((qs.words.length : Int) < (B2.words.length : Int)) = True := eq_true (by omega)
   have i2 : ((B.words.length : Int) < (E.words.length : Int)) = True := eq_true (by omega)
   have i1b : ((qs.words.length : Int) < (B.words.length : Int) + 1) = True := eq_true (by omega)
   unfold yB at hsetB hsetE
   have eB : ((B2.words.length : Nat) : Int) = (B.words.length : Int) + 1 := by omega
   simp +decide only [Int.reduceBEq, hk, zg, Bool.or_true, Bool.true_or, Bool.or_false, Bool.or_self, zb, za, lowC, hpin, hpin2, go_sem, reduceAdd, reduceMul]
   refine zw hadd hpin hfull [(2000, 2000)] [] [(2000, 2000)] ⟨rfl, rfl, rfl, rfl⟩ (fun uf => ?_) ?_
   · simp +decide only [zb, za, lowC, hpin, hpin2, go_sem, reduceAdd, reduceMul]
   simp +decide only [hg1, hg2, d1, d2, d1n, d2n, zg, zb, za, lowC, hpin, hpin2, go_sem, reduceAdd, reduceMul]
   refine zw hc1 hpin hfull [(2000, 2000)] [] [(2000, 2000)] ⟨rfl, rfl, rfl, rfl⟩ (fun uf => ?_) ?_
   · simp +decide only [zb, za, lowC, hpin, hpin2, go_sem, reduceAdd, reduceMul]
   simp +decide only [zb, za, lowC, hpin, hpin2, go_sem, reduceAdd, reduceMul]
   refine zw haddB hpin hfull [(2000, 2000)] [] [(2000, 2000)] ⟨rfl, rfl, rfl, rfl⟩ (fun uf => ?_) ?_
   · simp +decide only [zb, za, lowC, hpin, hpin2, go_sem, reduceAdd, reduceMul]
   simp +decide only [zb, za, lowC, hpin, hpin2, go_sem, reduceAdd, reduceMul]
   refine Tri.fork ze (.one 0 true (.one 1 true (.one 2 true (.one 3 true (.one 5 true (.one 6 true (.one 7 true (.one 8 true (.one 9 true (.two 4 (.one 10 false (.one 11 false (.one 12 false (.one 13 false (.one 14 false .done))))) 10 (.one 11 true (.one 4 false (.one 12 false (.one 13 false (.one 14 false .done))))))))))))))) zL (by kernel_rfl) (fun C3 hC3 => ?_)
   have hp3 := zN hC3 hpin
   simp +decide only [i1, i1b, hidx2, hqB, hsetB, eB, hg2, d2, d2n, zg, Int.natCast_nonneg, zb, za, lowC, hp3, hpin, hpin2, go_sem, reduceAdd, reduceMul]
   refine ⟨?_, ?_⟩
   all_goals
     refine zw hc2 hpin hfull [(2000, 2000)] [] [(2000, 2000)] ⟨rfl, rfl, rfl, rfl⟩ (fun uf => ?_) ?_
     · simp +decide only [zb, za, lowC, hpin, hpin2, go_sem, reduceAdd, reduceMul]
     simp +decide only [zb, za, lowC, hpin, hpin2, go_sem, reduceAdd, reduceMul]
     refine Tri.fork ze (.one 0 true (.one 1 true (.one 2 true (.one 3 true (.one 5 true (.one 6 true (.one 7 true (.one 8 true (.one 9 true (.two 4 (.one 10 false (.one 11 false (.one 12 false (.one 13 false (.one 14 false .done))))) 10 (.one 11 true (.one 4 false (.one 12 false (.one 13 false (.one 14 false .done))))))))))))))) zL (by kernel_rfl) (fun C4 hC4 => ?_)
     have hp4 := zN hC4 hpin
     simp +decide only [i2, hidx3, hqE, hsetE, Int.natCast_nonneg, zb, za, lowC, hp4, hpin, hpin2, go_sem, reduceAdd, reduceMul]
 · -- 17
   have h3 := zhw hsh hk
   have e3 := sum2 (z := szB p.nodes) h3
   obtain ⟨hb1, hl1⟩ := hblk 1 (by omega) (by omega)
   have hg1 : (row1 cI x.kids).getD (Int.toNat 1) [] = [cI (x.kids.getD 1 0)] := by rw [show Int.toNat 1 = 1 from rfl, zr cI x.kids (show 1 < x.kids.length by omega)]; simp [List.getD, show 1 < x.kids.length by omega]
   have d1 : ((1 : Int) < (x.kids.length : Int)) = True := eq_true (by omega)
   have d1n : 1 < x.kids.length := by omega
   simp only [cI] at hg1
   simp +decide only [hk, if_true, if_false] at hR
   have hA := zfK (qa, qs)
   have hadd : SoundAt Tryz.prog 123 (fun uf => zq 0 [.ro (.bp 2000 0), .ro (.agg [.sc (.int .i64 19), .sc (.int .i64 qa), .sc (.int .i64 0), .sc (.int .i64 0), .sc (.int .i64 0), .sc (.string ⟨#[]⟩), .sc (.slice none 0 0)])]) [(2000, .box (lowC p l nm pn qs))]
     (fun rs st => rs = [(false, [cI qs.words.length])] /\ yh st.ob [(2000, .box (lowC p l nm pn (ifA (qa, qs))))]) := yp p l nm pn qs 19 qa 0 0 0 ⟨#[]⟩ (by omega)
   generalize hAA : ifA (qa, qs) = A at hA hadd hR
   obtain ⟨a1, a2, a3, a4⟩ := hA
   simp only at a1 a2 a3 a4
   have hB1 := hl1 A
   have hc1 := hb1 A (by omega) (by omega)
   generalize lowS p l (x.kids.getD 1 0) A = B at hB1 hc1 hR
   obtain ⟨b1, b2, b3, b4⟩ := hB1
   have hidx : qs.words.length < B.words.length := by
     have : A.words.length = qs.words.length + 1 := by rw [<- hAA]; simp [ifA, LowD.addW]
     omega
   obtain ⟨B2, hB2⟩ : ∃ z, z = B.addW ⟨18, 0, 0, 0, s.words.length, ⟨#[]⟩, []⟩ := ⟨_, rfl⟩
   have haddB : SoundAt Tryz.prog 123 (fun uf => zq 0 [.ro (.bp 2000 0), .ro (.agg [.sc (.int .i64 18), .sc (.int .i64 0), .sc (.int .i64 0), .sc (.int .i64 0), .sc (.int .i64 s.words.length), .sc (.string ⟨#[]⟩), .sc (.slice none 0 0)])]) [(2000, .box (lowC p l nm pn B))]
     (fun rs st => rs = [(false, [cI B.words.length])] /\ yh st.ob [(2000, .box (lowC p l nm pn B2))]) := by rw [hB2]; exact yp p l nm pn B 18 0 0 0 s.words.length ⟨#[]⟩ (by omega)
   have hlenB : B2.words.length = B.words.length + 1 := by rw [hB2]; simp [LowD.addW]
   have hidx2 : qs.words.length < B2.words.length := by omega
   have hCe : R = ⟨B2.locs, B2.words.set qs.words.length (B2.words[qs.words.length].numTo ((B.words.length : Int) + 1))⟩ := by
     rw [<- zbY _ hidx2, hB2, hR]; rfl
   have hsetB := zau hidx2 ((B.words.length : Int) + 1)
   have hqB := xy (insC false) _ hidx2
   generalize B2.words.set qs.words.length (B2.words[qs.words.length].numTo ((B.words.length : Int) + 1)) = W at hCe hsetB
   generalize B2.words[qs.words.length] = y at hqB
   simp only [insC, cI, cS] at hqB
   clear hR
   subst hCe
   simp only [lowC, cI, cS] at hadd hc1 haddB
   have i1 : ((qs.words.length : Int) < (B2.words.length : Int)) = True := eq_true (by omega)
   have i1b : ((qs.words.length : Int) < (B.words.length : Int) + 1) = True := eq_true (by omega)
   unfold yB at hsetB
   have eB : ((B2.words.length : Nat) : Int) = (B.words.length : Int) + 1 := by omega
   simp +decide only [Int.reduceBEq, hk, zg, Bool.or_true, Bool.true_or, Bool.or_false, Bool.or_self, zb, za, lowC, hpin, hpin2, go_sem, reduceAdd, reduceMul]
   refine zw hadd hpin hfull [(2000, 2000)] [] [(2000, 2000)] ⟨rfl, rfl, rfl, rfl⟩ (fun uf => ?_) ?_
   · simp +decide only [zb, za, lowC, hpin, hpin2, go_sem, reduceAdd, reduceMul]
   simp +decide only [hg1, d1, d1n, zg, zb, za, lowC, hpin, hpin2, go_sem, reduceAdd, reduceMul]
   refine zw hc1 hpin hfull [(2000, 2000)] [] [(2000, 2000)] ⟨rfl, rfl, rfl, rfl⟩ (fun uf => ?_) ?_
   · simp +decide only [zb, za, lowC, hpin, hpin2, go_sem, reduceAdd, reduceMul]
   simp +decide only [zb, za, lowC, hpin, hpin2, go_sem, reduceAdd, reduceMul]
   refine zw haddB hpin hfull [(2000, 2000)] [] [(2000, 2000)] ⟨rfl, rfl, rfl, rfl⟩ (fun uf => ?_) ?_
   · simp +decide only [zb, za, lowC, hpin, hpin2, go_sem, reduceAdd, reduceMul]
   simp +decide only [zb, za, lowC, hpin, hpin2, go_sem, reduceAdd, reduceMul]
   refine Tri.fork ze (.one 0 true (.one 1 true (.one 2 true (.one 3 true (.one 5 true (.one 6 true (.one 7 true (.one 8 true (.one 9 true (.two 4 (.one 10 false (.one 11 false (.one 12 false (.one 13 false (.one 14 false .done))))) 10 (.one 11 true (.one 4 false (.one 12 false (.one 13 false (.one 14 false .done))))))))))))))) zL (by kernel_rfl) (fun C3 hC3 => ?_)
   have hp3 := zN hC3 hpin
   simp +decide only [i1, i1b, hidx2, hqB, hsetB, eB, Int.natCast_nonneg, zb, za, lowC, hp3, hpin, hpin2, go_sem, reduceAdd, reduceMul]
 · -- 18
   simp +decide only [hk, if_true, if_false] at hR
   subst hR
   have hadd := yp p l nm pn qs 16 qa 0 0 0 ⟨#[]⟩ (by omega)
   simp only [lowC, cI] at hadd
   simp +decide only [Int.reduceBEq, hk, zg, Bool.or_true, Bool.true_or, Bool.or_false, Bool.or_self, zb, za, lowC, hpin, hpin2, go_sem, reduceAdd, reduceMul]
   refine zw hadd hpin hfull [(2000, 2000)] [] [(2000, 2000)] ⟨rfl, rfl, rfl, rfl⟩ (fun uf => ?_) ?_
   · simp +decide only [zb, za, lowC, hpin, hpin2, go_sem, reduceAdd, reduceMul]
   simp +decide only [LowD.addW, in3, zb, za, lowC, hpin, hpin2, go_sem, reduceAdd, reduceMul]
 · -- 19
   unfold doB at hR
   simp +decide only [hk, if_true, if_false] at hR
   rcases hvat with hq | ⟨hq0, hq1⟩
   · subst hq
     have e1 : ((0 : Int) <= -1) = False := by simp
     simp +decide only [e1, if_false] at hR
     subst hR
     have hany : (∃ z : Int, (row1 cI R.locs)[(-1 : Int).toNat]? = some [D.sc (.int .i64 z)]) \/ (row1 cI R.locs)[(-1 : Int).toNat]? = none := by
       cases hqq : (row1 cI R.locs)[(-1 : Int).toNat]? with
       | none => exact Or.inr rfl
       | some w =>
         left
         rw [row1, List.getElem?_map] at hqq
         obtain ⟨z, _, hz⟩ := Option.map_eq_some_iff.1 hqq
         exact ⟨z, by rw [<- hz]; rfl⟩
     rcases hany with ⟨z, hz⟩ | hz
     · simp +decide only [Int.reduceBEq, hk, zg, Bool.or_true, Bool.true_or, Bool.or_false, Bool.or_self, e1, hz, ge_iff_le, zb, za, lowC, hpin, hpin2, go_sem, reduceAdd, reduceMul]
     · simp +decide only [Int.reduceBEq, hk, zg, Bool.or_true, Bool.true_or, Bool.or_false, Bool.or_self, e1, hz, Option.bind_none, ge_iff_le, zb, za, lowC, hpin, hpin2, go_sem, reduceAdd, reduceMul]
   · have e1 : ((0 : Int) <= qa) = True := eq_true hq0
     have hql : qa.toNat < qs.locs.length := by omega
     have e2 : (qa < (qs.locs.length : Int)) = True := eq_true hq1
     have hlq := yf cI qs.locs hql
     rw [show qs.locs.getD qa.toNat 0 = qs.locs[qa.toNat] by simp [List.getD, hql]] at hR
     generalize qs.locs[qa.toNat] = z at hR hlq
     simp only [cI] at hlq
     cases h2 : z == 2 with
     | false =>
       simp +decide only [e1, h2, if_false] at hR
       subst hR
       simp +decide only [Int.reduceBEq, hk, zg, Bool.or_true, Bool.true_or, Bool.or_false, Bool.or_self, e1, e2, hql, hlq, h2, ge_iff_le, zb, za, lowC, hpin, hpin2, go_sem, reduceAdd, reduceMul]
     | true =>
       simp +decide only [e1, h2, if_true] at hR
       subst hR
       have hadd := yp p l nm pn qs 17 qa 0 0 0 ⟨#[]⟩ (by omega)
       simp only [lowC, cI] at hadd
       simp +decide only [Int.reduceBEq, hk, zg, Bool.or_true, Bool.true_or, Bool.or_false, Bool.or_self, e1, e2, hql, hlq, h2, ge_iff_le, zb, za, lowC, hpin, hpin2, go_sem, reduceAdd, reduceMul]
       refine zw hadd hpin hfull [(2000, 2000)] [] [(2000, 2000)] ⟨rfl, rfl, rfl, rfl⟩ (fun uf => ?_) ?_
       · simp +decide only [zb, za, lowC, hpin, hpin2, go_sem, reduceAdd, reduceMul]
       simp +decide only [LowD.addW, in3, zb, za, lowC, hpin, hpin2, go_sem, reduceAdd, reduceMul]
theorem zmS (p : ProgramD) (hD : Deep p.nodes) (l : List VarD) (hl : l.length <= 4194304) (hf : p.fns.length <= 1048576) (hn : p.nodes.length <= 1048576) (hk : ∀ x ∈ p.nodes, x.kids.length <= 300) (nm : ByteArray) (pn : Int) (n : Nat) : n < p.nodes.length -> zpV p l nm pn n /\ znv p l nm pn n := by
 induction n using Nat.strongRecOn with
 | ind n ih =>
 intro hnl
 exact ⟨zog p hD l hl hf hn hk nm pn n hnl (fun m hm => (ih m hm (by omega)).2), zmU p hD l hl hn nm pn n hnl (fun m hm => (ih m hm (by omega)).1)⟩
theorem zcW {α : Type} {f : α -> Nat} {c : Nat} : ∀ l : List α, (∀ x ∈ l, f x <= c) -> sumN f l <= c * l.length
 | [], _ => by simp [sumN]
 | a :: r, h => by
   have h1 := zcW r (fun x hx => h x (List.mem_cons_of_mem _ hx))
   have h2 := h a (List.mem_cons_self ..)
   simp only [sumN, List.map_cons, List.sum_cons] at h1 |-
   rw [List.length_cons, Nat.mul_add]
   omega
theorem zgJ {p : ProgramD} {f : FnD} (h : ZW p f = true) : f.name.size <= 8 /\ f.params.length <= 3 /\ ∀ x ∈ f.params, x.name.size <= 8 := by
 simp only [ZW, Bool.and_eq_true, List.all_eq_true, ZJ, decide_eq_true_eq] at h
 obtain ⟨h1, h2, _, h3, _⟩ := h
 unfold ZM at h1
 have e1 := zu (Bool.and_eq_true_iff.1 h1).1
 refine ⟨by omega, by omega, fun x hx => ?_⟩
 have h4 := (h3 x hx).1
 unfold ZM at h4
 have e2 := zu (Bool.and_eq_true_iff.1 h4).1
 omega
set_option maxHeartbeats 4000000
def XT (c : CodeD) (n : Int) : Bool := inI n 0 (c.locals.length - 1)
def zX (c : CodeD) (n : Int) (has : Bool) : Bool := if has then XT c n else n == 0
def zgI (n : Int) : Bool := (inI n 1 17 || n == 19) || n == 20
def XK (n : Int) : Bool := ((inI n 2 7 || inI n 9 12) || n == 14) || n == 15
def XJ (n : Int) : Bool := inI n 10 12
theorem xa (c : CodeD) (n : Int) (h : c.locals.length <= 1048576) : zB Tryz.prog 201 [.ro (zx c), .ro (.sc (.int .i64 n))] (fun rs st => rs = [(false, [cB (XT c n)])]) := by
 refine zn (fn := Tryz.f201) (c := Tryz.f201.body.getD .skip) (res := [.tm 4]) (n := 11) ze (by kernel_rfl) (by rfl) (by kernel_rfl) (by rfl) (by rfl) (by simp [zq]) (fun C hpin hfull => ?_)
 have w1 : IntKind.i64.wrap ((c.locals.length : Int) - 1) = c.locals.length - 1 := w64 (by omega) (by omega)
 simp +decide only [Tryz.f201, w1, zx, hpin, go_sem, reduceAdd, reduceMul]
 refine zd (yC n 0 (c.locals.length - 1)) hpin ?_
 simp +decide only [XT, hpin, go_sem, reduceAdd, reduceMul]
theorem ym (c : CodeD) (n : Int) (b : Bool) (h : c.locals.length <= 1048576) : zB Tryz.prog 205 [.ro (zx c), .ro (.sc (.int .i64 n)), .ro (.sc (.bool b))] (fun rs st => rs = [(false, [cB (zX c n b)])]) := by
 refine zn (fn := Tryz.f205) (c := Tryz.f205.body.getD .skip) (res := [.tm 6]) (n := 16) ze (by kernel_rfl) (by rfl) (by kernel_rfl) (by rfl) (by rfl) (by simp [zq]) (fun C hpin hfull => ?_)
 have w1 : IntKind.i64.wrap ((c.locals.length : Int) - 1) = c.locals.length - 1 := w64 (by omega) (by omega)
 simp +decide only [Tryz.f205, w1, zx, hpin, go_sem, reduceAdd, reduceMul]
 cases b with
 | true =>
   simp +decide only [w1, hpin, go_sem, reduceAdd, reduceMul]
   refine zd (in' n 0 (c.locals.length - 1)) hpin ?_
   simp +decide only [zX, XT, hpin, go_sem, reduceAdd, reduceMul]
 | false =>
   simp +decide only [zX, hpin, go_sem, reduceAdd, reduceMul]
theorem zfL (n : Int) : zB Tryz.prog 206 [.ro (.sc (.int .i64 n))] (fun rs st => rs = [(false, [cB (zgI n)])]) := by
 refine zn (fn := Tryz.f206) (c := Tryz.f206.body.getD .skip) (res := [.tm 2]) (n := 13) ze (by kernel_rfl) (by rfl) (by kernel_rfl) (by rfl) (by rfl) (by simp [zq]) (fun C hpin hfull => ?_)
 simp +decide only [Tryz.f206, hpin, go_sem, reduceAdd, reduceMul]
 refine zd (in' n 1 17) hpin ?_
 simp +decide only [hpin, go_sem, reduceAdd, reduceMul]
 unfold zgI
 cases inI n 1 17 <;> cases n == 19 <;> simp
theorem Xx (n : Int) : zB Tryz.prog 208 [.ro (.sc (.int .i64 n))] (fun rs st => rs = [(false, [cB (XJ n)])]) := by
 refine zn (fn := Tryz.f208) (c := Tryz.f208.body.getD .skip) (res := [.tm 2]) (n := 5) ze (by kernel_rfl) (by rfl) (by kernel_rfl) (by rfl) (by rfl) (by simp [zq]) (fun C hpin hfull => ?_)
 simp +decide only [Tryz.f208, hpin, go_sem, reduceAdd, reduceMul]
 refine zd (in' n 10 12) hpin ?_
 simp +decide only [XJ, hpin, go_sem, reduceAdd, reduceMul]
theorem YB (n : Int) : zB Tryz.prog 202 [.ro (.sc (.int .i64 n))] (fun rs st => rs = [(false, [cB (XJ n)])]) := by
 refine zn (fn := Tryz.f202) (c := Tryz.f202.body.getD .skip) (res := [.tm 2]) (n := 5) ze (by kernel_rfl) (by rfl) (by kernel_rfl) (by rfl) (by rfl) (by simp [zq]) (fun C hpin hfull => ?_)
 simp +decide only [Tryz.f202, hpin, go_sem, reduceAdd, reduceMul]
 refine zd (yC n 10 12) hpin ?_
 simp +decide only [XJ, hpin, go_sem, reduceAdd, reduceMul]
theorem Xy (n : Int) : zB Tryz.prog 207 [.ro (.sc (.int .i64 n))] (fun rs st => rs = [(false, [cB (XK n)])]) := by
 refine zn (fn := Tryz.f207) (c := Tryz.f207.body.getD .skip) (res := [.tm 2]) (n := 17) ze (by kernel_rfl) (by rfl) (by kernel_rfl) (by rfl) (by rfl) (by simp [zq]) (fun C hpin hfull => ?_)
 simp +decide only [Tryz.f207, hpin, go_sem, reduceAdd, reduceMul]
 refine zd (in' n 2 7) hpin ?_
 simp +decide only [hpin, go_sem, reduceAdd, reduceMul]
 unfold XK
 cases h1 : inI n 2 7 with
 | true => simp +decide only [Bool.true_or, hpin, go_sem, reduceAdd, reduceMul]
 | false =>
   simp +decide only [hpin, go_sem, reduceAdd, reduceMul]
   refine zd (in' n 9 12) hpin ?_
   simp +decide only [hpin, go_sem, reduceAdd, reduceMul]
   cases inI n 9 12 <;> cases n == 14 <;> simp
theorem YC (n : Int) : zB Tryz.prog 200 [.ro (.sc (.int .i64 n))] (fun rs st => rs = [(false, [cB (XK n)])]) := by
 refine zn (fn := Tryz.f200) (c := Tryz.f200.body.getD .skip) (res := [.tm 2]) (n := 17) ze (by kernel_rfl) (by rfl) (by kernel_rfl) (by rfl) (by rfl) (by simp [zq]) (fun C hpin hfull => ?_)
 simp +decide only [Tryz.f200, hpin, go_sem, reduceAdd, reduceMul]
 refine zd (yC n 2 7) hpin ?_
 simp +decide only [hpin, go_sem, reduceAdd, reduceMul]
 unfold XK
 cases h1 : inI n 2 7 with
 | true => simp +decide only [Bool.true_or, hpin, go_sem, reduceAdd, reduceMul]
 | false =>
   simp +decide only [hpin, go_sem, reduceAdd, reduceMul]
   refine zd (yC n 9 12) hpin ?_
   simp +decide only [hpin, go_sem, reduceAdd, reduceMul]
   cases inI n 9 12 <;> cases n == 14 <;> simp
def aOkB (c : CodeD) (x : InsD) : Bool :=
 if x.op == 13 || x.op == 20 then x.a == -1 || XT c x.a
 else if x.op == 18 then x.a == 0
 else XT c x.a
theorem znp (c : CodeD) (x : InsD) (h : c.locals.length <= 1048576) : zB Tryz.prog 199 [.ro (zx c), .ro (insW x)] (fun rs st => rs = [(false, [cB (aOkB c x)])]) := by
 refine zn (fn := Tryz.f199) (c := Tryz.f199.body.getD .skip) (res := [.tm 4]) (n := 34) ze (by kernel_rfl) (by rfl) (by kernel_rfl) (by rfl) (by rfl) (by simp [zq]) (fun C hpin hfull => ?_)
 simp +decide only [Tryz.f199, zx, insW, hpin, go_sem, reduceAdd, reduceMul]
 unfold aOkB
 have fin : ∀ (p : Bool), p = p := fun _ => rfl
 cases h1 : x.op == 13 with
 | true =>
   simp +decide only [hpin, go_sem, reduceAdd, reduceMul]
   cases ha : x.a == -1 with
   | true => simp +decide only [Bool.true_or, hpin, go_sem, reduceAdd, reduceMul]
   | false =>
     simp +decide only [hpin, go_sem, reduceAdd, reduceMul]
     refine zd (xa c x.a h) hpin ?_
     simp +decide only [zx, Bool.true_or, Bool.false_or, hpin, go_sem, reduceAdd, reduceMul]
 | false =>
 cases h2 : x.op == 20 with
 | true =>
   simp +decide only [hpin, go_sem, reduceAdd, reduceMul]
   cases ha : x.a == -1 with
   | true => simp +decide only [Bool.true_or, Bool.or_true, hpin, go_sem, reduceAdd, reduceMul]
   | false =>
     simp +decide only [hpin, go_sem, reduceAdd, reduceMul]
     refine zd (xa c x.a h) hpin ?_
     simp +decide only [zx, Bool.or_true, Bool.false_or, hpin, go_sem, reduceAdd, reduceMul]
 | false =>
 simp +decide only [hpin, go_sem, reduceAdd, reduceMul]
 cases h3 : x.op == 18 with
 | true => simp +decide only [Bool.or_self, hpin, go_sem, reduceAdd, reduceMul]
 | false =>
   simp +decide only [hpin, go_sem, reduceAdd, reduceMul]
   refine zd (xa c x.a h) hpin ?_
   simp +decide only [zx, Bool.or_self, hpin, go_sem, reduceAdd, reduceMul]
set_option maxHeartbeats 8000000
def zjf (x : InsD) : Bool := (x.op == 13 || x.op == 20) && x.a == -1
def zfe (c : CodeD) (x : InsD) : Int := if x.op == 1 then 1000000000 else if x.op == 18 || x.op == 19 then c.words.length - 1 else 0
def zfl (c : CodeD) (l : List Int) : Bool := l.all (XT c)
theorem ziF {c : CodeD} {l : List Int} {i : Nat} (h : i < l.length) : zfl c (l.take (i + 1)) = (zfl c (l.take i) && XT c l[i]) := by
 unfold zfl
 rw [List.take_succ_eq_append_getElem h, List.all_append]; simp
theorem zfY {c : CodeD} {l : List Int} {i : Nat} (h : i < l.length) (hp : XT c l[i] = false) : zfl c l = false := by
 unfold zfl
 rw [List.all_eq_false]
 exact ⟨l[i], List.getElem_mem h, by simp [hp]⟩
def zhK (c : CodeD) (x : InsD) : Bool := (zjf x || zX c x.a (zgI x.op)) && (zX c x.b (XK x.op) && zX c x.c (XJ x.op))
def zlN (c : CodeD) (x : InsD) : Bool := if x.op == 13 then zfl c x.args && (ZM x.name && decide ((x.args.length : Int) <= 3)) else decide (x.name = ⟨#[]⟩) && (x.args.length : Int) == 0
def zny (c : CodeD) (x : InsD) : Bool := inI x.op 1 20 && (zhK c x && (inI x.num 0 (zfe c x) && zlN c x))
theorem ziL (c : CodeD) (x : InsD) (h : c.locals.length <= 1048576) (hw : c.words.length <= 1048576) (hl : x.args.length <= 1048576) : zB Tryz.prog 182 [.ro (zx c), .ro (insW x)] (fun rs st => rs = [(false, [cB (zny c x)])]) := by
 refine zt (fn := Tryz.f182) (c := Tryz.f182.body.getD .skip) (res := [.tm 4]) (n := 107) ze (by kernel_rfl) (by rfl) (by kernel_rfl) (by rfl) (by rfl) (by simp [zq]) (fun uf ub C hpin hpin2 hfull => ?_)
 simp only [Tryz.f182, Option.getD_some]
 refine Tri.step ze ?_
 simp +decide only [zx, insW, zm, insC, hpin, go_sem, reduceAdd, reduceMul]
 refine Tri.ent ?_ (Ent.frb hfull 2)
 refine Tri.ent ?_ (Ent.frb hfull 3)
 refine Tri.step ze ?_
 simp +decide only [hpin, go_sem, reduceAdd, reduceMul]
 refine zd (in' x.op 1 20) hpin ?_
 simp +decide only [hpin, go_sem, reduceAdd, reduceMul]
 unfold zny
 cases h0 : inI x.op 1 20 with
 | false => simp +decide only [hpin, go_sem, reduceAdd, reduceMul]
 | true =>
 simp +decide only [hpin, go_sem, reduceAdd, reduceMul]
 refine Tri.stop ze ⟨107, [(2, .ip (zm true c) 0), (3, .ip (insC true x) 0), (4, vB false), (5, vB (zjf x))], []⟩ ?_ ?_
 · simp +decide only [hpin, go_sem, reduceAdd, reduceMul]
   cases h13 : x.op == 13 <;> cases h20 : x.op == 20 <;> cases ha : x.a == -1 <;> simp +decide only [hpin, go_sem, reduceAdd, reduceMul] <;> refine Ent.weak ?_ ?_ ?_ ?_ <;> simp +decide [subT, subB, zl, zk, zo, St.get, look, vI, vB, vS, cI, cS, cB, insC, zm, roI, zjf, h13, h20, ha]
 cases hall : zhK c x with
 | false =>
   simp only [Bool.false_and]
   unfold zhK at hall
   generalize zjf x = nb at hall |-
   refine Tri.step ze ?_
   simp +decide only [vB, insC, zm, hpin, go_sem, reduceAdd, reduceMul]
   refine Tri.sched ze [(0, false), (1, false), (2, false), (3, true), (4, true), (6, true), (5, true), (7, true), (8, false), (9, false), (10, false), (11, false), (12, false), (13, true), (14, true), (16, true), (15, true), (17, true), (18, false), (19, false), (20, false), (21, false), (22, false), (23, true), (24, true), (26, true), (25, true), (27, true), (28, false), (29, false), (30, false), (31, false)] zL (by kernel_rfl) (fun C2 hC2 => ?_)
   have hp2 := zN hC2 hpin
   cases nb with
   | false =>
     simp +decide only [zx, hp2, go_sem, reduceAdd, reduceMul]
     refine zd (zfL x.op) hp2 ?_
     simp +decide only [zx, hp2, go_sem, reduceAdd, reduceMul]
     refine zd (ym c x.a (zgI x.op) h) hp2 ?_
     simp +decide only [zx, hp2, go_sem, reduceAdd, reduceMul]
     cases hA : zX c x.a (zgI x.op) with
     | false =>
       simp +decide only [zx, hp2, go_sem, reduceAdd, reduceMul]
     | true =>
       simp +decide only [zx, hp2, go_sem, reduceAdd, reduceMul]
       refine zd (Xy x.op) hp2 ?_
       simp +decide only [zx, hp2, go_sem, reduceAdd, reduceMul]
       refine zd (ym c x.b (XK x.op) h) hp2 ?_
       simp +decide only [zx, hp2, go_sem, reduceAdd, reduceMul]
       cases hB : zX c x.b (XK x.op) with
       | false =>
         simp +decide only [zx, hp2, go_sem, reduceAdd, reduceMul]
       | true =>
         simp +decide only [zx, hp2, go_sem, reduceAdd, reduceMul]
         refine zd (Xx x.op) hp2 ?_
         simp +decide only [zx, hp2, go_sem, reduceAdd, reduceMul]
         refine zd (ym c x.c (XJ x.op) h) hp2 ?_
         simp +decide only [zx, hp2, go_sem, reduceAdd, reduceMul]
         cases hC : zX c x.c (XJ x.op) with
         | false =>
           simp +decide only [zx, hp2, go_sem, reduceAdd, reduceMul]
         | true =>
           simp_all
   | true =>
     simp +decide only [zx, hp2, go_sem, reduceAdd, reduceMul]
     refine zd (Xy x.op) hp2 ?_
     simp +decide only [zx, hp2, go_sem, reduceAdd, reduceMul]
     refine zd (ym c x.b (XK x.op) h) hp2 ?_
     simp +decide only [zx, hp2, go_sem, reduceAdd, reduceMul]
     cases hB : zX c x.b (XK x.op) with
     | false =>
       simp +decide only [zx, hp2, go_sem, reduceAdd, reduceMul]
     | true =>
       simp +decide only [zx, hp2, go_sem, reduceAdd, reduceMul]
       refine zd (Xx x.op) hp2 ?_
       simp +decide only [zx, hp2, go_sem, reduceAdd, reduceMul]
       refine zd (ym c x.c (XJ x.op) h) hp2 ?_
       simp +decide only [zx, hp2, go_sem, reduceAdd, reduceMul]
       cases hC : zX c x.c (XJ x.op) with
       | false =>
         simp +decide only [zx, hp2, go_sem, reduceAdd, reduceMul]
       | true =>
         simp_all
 | true =>
 simp only [Bool.true_and]
 refine Tri.stop ze ⟨107, [(2, .ip (zm true c) 0), (3, .ip (insC true x) 0), (4, vB false)], []⟩ ?_ ?_
 · unfold zhK at hall
   generalize zjf x = nb at hall |-
   simp +decide only [vB, insC, zm, hpin, go_sem, reduceAdd, reduceMul]
   refine Tri.sched ze [(0, false), (1, false), (2, false), (3, true), (4, true), (6, true), (5, true), (7, true), (8, false), (9, false), (10, false), (11, false), (12, false), (13, true), (14, true), (16, true), (15, true), (17, true), (18, false), (19, false), (20, false), (21, false), (22, false), (23, true), (24, true), (26, true), (25, true), (27, true), (28, false), (29, false), (30, false), (31, false)] zL (by kernel_rfl) (fun C2 hC2 => ?_)
   have hp2 := zN hC2 hpin
   cases nb with
   | false =>
     simp +decide only [zx, hp2, go_sem, reduceAdd, reduceMul]
     refine zd (zfL x.op) hp2 ?_
     simp +decide only [zx, hp2, go_sem, reduceAdd, reduceMul]
     refine zd (ym c x.a (zgI x.op) h) hp2 ?_
     simp +decide only [zx, hp2, go_sem, reduceAdd, reduceMul]
     cases hA : zX c x.a (zgI x.op) with
     | false =>
       simp_all
     | true =>
       simp +decide only [zx, hp2, go_sem, reduceAdd, reduceMul]
       refine zd (Xy x.op) hp2 ?_
       simp +decide only [zx, hp2, go_sem, reduceAdd, reduceMul]
       refine zd (ym c x.b (XK x.op) h) hp2 ?_
       simp +decide only [zx, hp2, go_sem, reduceAdd, reduceMul]
       cases hB : zX c x.b (XK x.op) with
       | false =>
         simp_all
       | true =>
         simp +decide only [zx, hp2, go_sem, reduceAdd, reduceMul]
         refine zd (Xx x.op) hp2 ?_
         simp +decide only [zx, hp2, go_sem, reduceAdd, reduceMul]
         refine zd (ym c x.c (XJ x.op) h) hp2 ?_
         simp +decide only [zx, hp2, go_sem, reduceAdd, reduceMul]
         cases hC : zX c x.c (XJ x.op) with
         | false =>
           simp_all
         | true =>
           simp +decide only [zx, hp2, go_sem, reduceAdd, reduceMul]
           refine Ent.weak ?_ ?_ ?_ ?_ <;> simp +decide [subT, subB, zl, zk, zo, St.get, look, vI, vB, vS, cI, cS, cB, insC, zm, roI]
   | true =>
     simp +decide only [zx, hp2, go_sem, reduceAdd, reduceMul]
     refine zd (Xy x.op) hp2 ?_
     simp +decide only [zx, hp2, go_sem, reduceAdd, reduceMul]
     refine zd (ym c x.b (XK x.op) h) hp2 ?_
     simp +decide only [zx, hp2, go_sem, reduceAdd, reduceMul]
     cases hB : zX c x.b (XK x.op) with
     | false =>
       simp_all
     | true =>
       simp +decide only [zx, hp2, go_sem, reduceAdd, reduceMul]
       refine zd (Xx x.op) hp2 ?_
       simp +decide only [zx, hp2, go_sem, reduceAdd, reduceMul]
       refine zd (ym c x.c (XJ x.op) h) hp2 ?_
       simp +decide only [zx, hp2, go_sem, reduceAdd, reduceMul]
       cases hC : zX c x.c (XJ x.op) with
       | false =>
         simp_all
       | true =>
         simp +decide only [zx, hp2, go_sem, reduceAdd, reduceMul]
         refine Ent.weak ?_ ?_ ?_ ?_ <;> simp +decide [subT, subB, zl, zk, zo, St.get, look, vI, vB, vS, cI, cS, cB, insC, zm, roI]
 refine Tri.step ze ?_
 simp +decide only [hpin, go_sem, reduceAdd, reduceMul]
 have wl : IntKind.i64.wrap ((c.words.length : Int) - 1) = c.words.length - 1 := w64 (by omega) (by omega)
 refine Tri.stop ze ⟨107, [(2, .ip (zm true c) 0), (3, .ip (insC true x) 0), (4, vB false), (6, vI (zfe c x))], []⟩ ?_ ?_
 · simp +decide only [vB, insC, zm, hpin, go_sem, reduceAdd, reduceMul]
   cases h1 : x.op == 1 with
   | true =>
     simp +decide only [hpin, go_sem, reduceAdd, reduceMul]
     refine Ent.weak ?_ ?_ ?_ ?_ <;> simp +decide [subT, subB, zl, zk, zo, St.get, look, vI, vB, vS, cI, cS, cB, insC, zm, roI, zfe, h1]
   | false =>
   simp +decide only [hpin, go_sem, reduceAdd, reduceMul]
   cases h18 : x.op == 18 with
   | true =>
     simp +decide only [wl, hpin, go_sem, reduceAdd, reduceMul]
     refine Ent.weak ?_ ?_ ?_ ?_ <;> simp +decide [subT, subB, zl, zk, zo, St.get, look, vI, vB, vS, cI, cS, cB, insC, zm, roI, zfe, h1, h18]
   | false =>
   simp +decide only [hpin, go_sem, reduceAdd, reduceMul]
   cases h19 : x.op == 19 with
   | true =>
     simp +decide only [wl, hpin, go_sem, reduceAdd, reduceMul]
     refine Ent.weak ?_ ?_ ?_ ?_ <;> simp +decide [subT, subB, zl, zk, zo, St.get, look, vI, vB, vS, cI, cS, cB, insC, zm, roI, zfe, h1, h18, h19]
   | false =>
     simp +decide only [hpin, go_sem, reduceAdd, reduceMul]
     refine Ent.weak ?_ ?_ ?_ ?_ <;> simp +decide [subT, subB, zl, zk, zo, St.get, look, vI, vB, vS, cI, cS, cB, insC, zm, roI, zfe, h1, h18, h19]
 refine Tri.step ze ?_
 simp +decide only [vB, vI, insC, zm, hpin, go_sem, reduceAdd, reduceMul]
 refine zd (in' x.num 0 (zfe c x)) hpin ?_
 simp +decide only [hpin, go_sem, reduceAdd, reduceMul]
 cases hn : inI x.num 0 (zfe c x) with
 | false => simp +decide only [hpin, go_sem, reduceAdd, reduceMul]
 | true =>
 simp +decide only [hpin, go_sem, reduceAdd, reduceMul]
 refine zf ze _ ?_
 simp +decide only [bne, hpin, go_sem, reduceAdd, reduceMul]
 unfold zlN
 cases h13 : x.op == 13 with
 | false =>
   simp +decide only [bne, hpin, go_sem, reduceAdd, reduceMul]
   cases hx : decide (x.name = ⟨#[]⟩) with
   | false => simp +decide only [hpin, go_sem, reduceAdd, reduceMul]
   | true => simp +decide only [hpin, go_sem, reduceAdd, reduceMul]
 | true =>
   simp +decide only [hpin, go_sem, reduceAdd, reduceMul]
   refine Tri.loop (ι := Nat) (fun i => i <= x.args.length /\ zfl c (x.args.take i) = true) (fun i => ⟨107, [(2, .ip (zm true c) 0), (3, .ip (insC true x) 0), (4, vB false), (87, roI x.args), (88, vI x.args.length), (89, vI i)], []⟩) (fun i => x.args.length - i) 0 (by simp [zfl]) ?_ ?_
   · refine Ent.weak ?_ ?_ ?_ ?_ <;> simp +decide [subT, subB, zl, zk, zo, St.get, look, vI, vB, vS, cI, cS, cB, insC, zm, roI]
   · rintro i ⟨hi, hn⟩
     refine zf ze _ ?_
     by_cases h' : i < x.args.length
     · have e : ((i : Int) < (x.args.length : Int)) = True := by simp [h']
       simp +decide only [e, zr _ _ h', Int.natCast_nonneg, vB, vI, insC, zm, hpin, go_sem, reduceAdd, reduceMul]
       refine zd (ym c x.args[i] true h) hpin ?_
       simp +decide only [zx, zX, hpin, go_sem, reduceAdd, reduceMul]
       cases hp : XT c x.args[i] with
       | false => simp +decide only [zfY h' hp, hpin, go_sem, reduceAdd, reduceMul]
       | true =>
         simp +decide only [hpin, go_sem, reduceAdd, reduceMul]
         refine ⟨i + 1, ⟨h', by rw [ziF h', hn, hp]; rfl⟩, by omega, Ent.weak ?_ ?_ ?_ ?_⟩
         all_goals simp +decide [subT, subB, zl, zk, zo, St.get, look, vI, vB, vS, cI, cS, cB, insC, zm, roI, w64s (n := x.args.length) h' (by omega)]
     · have hil : i = x.args.length := by omega
       subst hil
       have e : ((x.args.length : Int) < (x.args.length : Int)) = False := by simp
       rw [List.take_length] at hn
       simp +decide only [e, hn, vB, vI, insC, zm, hpin, go_sem, reduceAdd, reduceMul]
       refine zd (xf x.name) hpin ?_
       simp +decide only [hpin, go_sem, reduceAdd, reduceMul]
       cases hx : ZM x.name with
       | false => simp +decide only [hpin, go_sem, reduceAdd, reduceMul]
       | true =>
         simp +decide only [hpin, go_sem, reduceAdd, reduceMul]
         simp [hn]
def numB (c : CodeD) (x : InsD) : Bool := if x.op == 1 then inI x.num 0 1000000000 else if x.op == 18 || x.op == 19 then inI x.num 0 (c.words.length - 1) else x.num == 0
def zdf (c : CodeD) (x : InsD) : Bool := inI x.op 1 20 && (aOkB c x && (zX c x.b (XK x.op) && (zX c x.c (XJ x.op) && (numB c x && zlN c x))))
theorem ziK (c : CodeD) (x : InsD) (h : c.locals.length <= 1048576) (hw : c.words.length <= 1048576) (hl : x.args.length <= 1048576) : zB Tryz.prog 172 [.ro (zx c), .ro (insW x)] (fun rs st => rs = [(false, [cB (zdf c x)])]) := by
 refine zt (fn := Tryz.f172) (c := Tryz.f172.body.getD .skip) (res := [.tm 4]) (n := 116) ze (by kernel_rfl) (by rfl) (by kernel_rfl) (by rfl) (by rfl) (by simp [zq]) (fun uf ub C hpin hpin2 hfull => ?_)
 simp only [Tryz.f172, Option.getD_some]
 refine Tri.step ze ?_
 simp +decide only [zx, insW, zm, insC, hpin, go_sem, reduceAdd, reduceMul]
 refine Tri.ent ?_ (Ent.frb hfull 2)
 refine Tri.ent ?_ (Ent.frb hfull 3)
 refine Tri.step ze ?_
 simp +decide only [hpin, go_sem, reduceAdd, reduceMul]
 refine zd (yC x.op 1 20) hpin ?_
 simp +decide only [hpin, go_sem, reduceAdd, reduceMul]
 unfold zdf
 cases h0 : inI x.op 1 20 with
 | false => simp +decide only [zx, insW, hpin, go_sem, reduceAdd, reduceMul]
 | true =>
 simp +decide only [hpin, go_sem, reduceAdd, reduceMul]
 refine zd (znp c x h) hpin ?_
 simp +decide only [bne, zx, insW, hpin, go_sem, reduceAdd, reduceMul]
 cases ha : aOkB c x with
 | false => simp +decide only [zx, insW, hpin, go_sem, reduceAdd, reduceMul]
 | true =>
 simp +decide only [hpin, go_sem, reduceAdd, reduceMul]
 cases hb : zX c x.b (XK x.op) with
 | false =>
   unfold zX at hb
   simp only [Bool.false_and]
   refine Tri.step ze ?_
   simp +decide only [bne, zx, insW, hpin, go_sem, reduceAdd, reduceMul]
   refine zd (YC x.op) hpin ?_
   simp +decide only [bne, zx, insW, hpin, go_sem, reduceAdd, reduceMul]
   cases hB : XK x.op with
   | true =>
     simp +decide only [bne, zx, insW, hpin, go_sem, reduceAdd, reduceMul]
     refine zd (xa c x.b h) hpin ?_
     simp +decide only [bne, zx, insW, hpin, go_sem, reduceAdd, reduceMul]
     rw [hB] at hb
     simp only [if_true] at hb
     simp +decide only [hb, zx, insW, hpin, go_sem, reduceAdd, reduceMul]
   | false =>
     simp +decide only [bne, zx, insW, hpin, go_sem, reduceAdd, reduceMul]
     refine zd (YC x.op) hpin ?_
     rw [hB] at hb
     simp only [Bool.false_eq_true, if_false] at hb
     simp +decide only [hb, hB, bne, hpin, go_sem, reduceAdd, reduceMul]
 | true =>
 simp only [Bool.true_and]
 refine Tri.stop ze ⟨116, [(2, .ip (zm true c) 0), (3, .ip (insC true x) 0), (4, vB false)], []⟩ ?_ ?_
 · unfold zX at hb
   simp +decide only [bne, zx, insW, hpin, go_sem, reduceAdd, reduceMul]
   refine zd (YC x.op) hpin ?_
   simp +decide only [bne, zx, insW, hpin, go_sem, reduceAdd, reduceMul]
   cases hB : XK x.op with
   | true =>
     simp +decide only [bne, zx, insW, hpin, go_sem, reduceAdd, reduceMul]
     refine zd (xa c x.b h) hpin ?_
     rw [hB] at hb
     simp only [if_true] at hb
     simp +decide only [hb, zx, insW, hpin, go_sem, reduceAdd, reduceMul]
     refine zd (YC x.op) hpin ?_
     simp +decide only [hB, bne, hpin, go_sem, reduceAdd, reduceMul]
     refine Ent.weak ?_ ?_ ?_ ?_ <;> simp +decide [subT, subB, zl, zk, zo, St.get, look, vI, vB, vS, cI, cS, cB, insC, zm, roI]
   | false =>
     simp +decide only [bne, zx, insW, hpin, go_sem, reduceAdd, reduceMul]
     refine zd (YC x.op) hpin ?_
     rw [hB] at hb
     simp only [Bool.false_eq_true, if_false] at hb
     simp +decide only [hb, hB, bne, hpin, go_sem, reduceAdd, reduceMul]
     refine Ent.weak ?_ ?_ ?_ ?_ <;> simp +decide [subT, subB, zl, zk, zo, St.get, look, vI, vB, vS, cI, cS, cB, insC, zm, roI]
 cases hc : zX c x.c (XJ x.op) with
 | false =>
   unfold zX at hc
   simp only [Bool.false_and]
   refine Tri.step ze ?_
   simp +decide only [bne, vB, zm, insC, zx, insW, hpin, go_sem, reduceAdd, reduceMul]
   refine zd (YB x.op) hpin ?_
   simp +decide only [bne, zx, insW, hpin, go_sem, reduceAdd, reduceMul]
   cases hC : XJ x.op with
   | true =>
     simp +decide only [bne, zx, insW, hpin, go_sem, reduceAdd, reduceMul]
     refine zd (xa c x.c h) hpin ?_
     simp +decide only [bne, zx, insW, hpin, go_sem, reduceAdd, reduceMul]
     rw [hC] at hc
     simp only [if_true] at hc
     simp +decide only [hc, zx, insW, hpin, go_sem, reduceAdd, reduceMul]
   | false =>
     simp +decide only [bne, zx, insW, hpin, go_sem, reduceAdd, reduceMul]
     refine zd (YB x.op) hpin ?_
     rw [hC] at hc
     simp only [Bool.false_eq_true, if_false] at hc
     simp +decide only [hc, hC, bne, hpin, go_sem, reduceAdd, reduceMul]
 | true =>
 simp only [Bool.true_and]
 refine Tri.stop ze ⟨116, [(2, .ip (zm true c) 0), (3, .ip (insC true x) 0), (4, vB false)], []⟩ ?_ ?_
 · unfold zX at hc
   simp +decide only [bne, vB, zm, insC, zx, insW, hpin, go_sem, reduceAdd, reduceMul]
   refine zd (YB x.op) hpin ?_
   simp +decide only [bne, zx, insW, hpin, go_sem, reduceAdd, reduceMul]
   cases hC : XJ x.op with
   | true =>
     simp +decide only [bne, zx, insW, hpin, go_sem, reduceAdd, reduceMul]
     refine zd (xa c x.c h) hpin ?_
     rw [hC] at hc
     simp only [if_true] at hc
     simp +decide only [hc, zx, insW, hpin, go_sem, reduceAdd, reduceMul]
     refine zd (YB x.op) hpin ?_
     simp +decide only [hC, bne, hpin, go_sem, reduceAdd, reduceMul]
     refine Ent.weak ?_ ?_ ?_ ?_ <;> simp +decide [subT, subB, zl, zk, zo, St.get, look, vI, vB, vS, cI, cS, cB, insC, zm, roI]
   | false =>
     simp +decide only [bne, zx, insW, hpin, go_sem, reduceAdd, reduceMul]
     refine zd (YB x.op) hpin ?_
     rw [hC] at hc
     simp only [Bool.false_eq_true, if_false] at hc
     simp +decide only [hc, hC, bne, hpin, go_sem, reduceAdd, reduceMul]
     refine Ent.weak ?_ ?_ ?_ ?_ <;> simp +decide [subT, subB, zl, zk, zo, St.get, look, vI, vB, vS, cI, cS, cB, insC, zm, roI]
 have wl : IntKind.i64.wrap ((c.words.length : Int) - 1) = c.words.length - 1 := w64 (by omega) (by omega)
 cases hm : numB c x with
 | false =>
   unfold numB at hm
   simp only [Bool.false_and]
   refine Tri.step ze ?_
   simp +decide only [bne, vB, zm, insC, zx, insW, hpin, go_sem, reduceAdd, reduceMul]
   cases h1 : x.op == 1 with
   | true =>
     simp +decide only [bne, zx, insW, hpin, go_sem, reduceAdd, reduceMul]
     refine zd (yC x.num 0 1000000000) hpin ?_
     rw [h1] at hm
     simp only [if_true] at hm
     simp +decide only [hm, bne, hpin, go_sem, reduceAdd, reduceMul]
   | false =>
   rw [h1] at hm
   simp only [Bool.false_eq_true, if_false] at hm
   simp +decide only [bne, zx, insW, hpin, go_sem, reduceAdd, reduceMul]
   cases h18 : x.op == 18 with
   | true =>
     simp +decide only [wl, bne, hpin, go_sem, reduceAdd, reduceMul]
     refine zd (yC x.num 0 (c.words.length - 1)) hpin ?_
     rw [h18] at hm
     simp only [Bool.true_or, if_true] at hm
     simp +decide only [hm, bne, hpin, go_sem, reduceAdd, reduceMul]
   | false =>
   simp +decide only [bne, zx, insW, hpin, go_sem, reduceAdd, reduceMul]
   cases h19 : x.op == 19 with
   | true =>
     simp +decide only [wl, bne, hpin, go_sem, reduceAdd, reduceMul]
     refine zd (yC x.num 0 (c.words.length - 1)) hpin ?_
     rw [h18, h19] at hm
     simp only [Bool.or_true, if_true] at hm
     simp +decide only [hm, bne, hpin, go_sem, reduceAdd, reduceMul]
   | false =>
     simp +decide only [bne, zx, insW, hpin, go_sem, reduceAdd, reduceMul]
     rw [h18, h19] at hm
     simp only [Bool.or_self, Bool.false_eq_true, if_false] at hm
     simp +decide only [hm, bne, hpin, go_sem, reduceAdd, reduceMul]
 | true =>
 simp only [Bool.true_and]
 refine Tri.stop ze ⟨116, [(2, .ip (zm true c) 0), (3, .ip (insC true x) 0), (4, vB false)], []⟩ ?_ ?_
 · unfold numB at hm
   simp +decide only [bne, vB, zm, insC, zx, insW, hpin, go_sem, reduceAdd, reduceMul]
   cases h1 : x.op == 1 with
   | true =>
     simp +decide only [bne, zx, insW, hpin, go_sem, reduceAdd, reduceMul]
     refine zd (yC x.num 0 1000000000) hpin ?_
     rw [h1] at hm
     simp only [if_true] at hm
     simp +decide only [hm, bne, hpin, go_sem, reduceAdd, reduceMul]
     refine Ent.weak ?_ ?_ ?_ ?_ <;> simp +decide [subT, subB, zl, zk, zo, St.get, look, vI, vB, vS, cI, cS, cB, insC, zm, roI]
   | false =>
   rw [h1] at hm
   simp only [Bool.false_eq_true, if_false] at hm
   simp +decide only [bne, zx, insW, hpin, go_sem, reduceAdd, reduceMul]
   cases h18 : x.op == 18 with
   | true =>
     simp +decide only [wl, bne, hpin, go_sem, reduceAdd, reduceMul]
     refine zd (yC x.num 0 (c.words.length - 1)) hpin ?_
     rw [h18] at hm
     simp only [Bool.true_or, if_true] at hm
     simp +decide only [hm, bne, hpin, go_sem, reduceAdd, reduceMul]
     refine Ent.weak ?_ ?_ ?_ ?_ <;> simp +decide [subT, subB, zl, zk, zo, St.get, look, vI, vB, vS, cI, cS, cB, insC, zm, roI]
   | false =>
   simp +decide only [bne, zx, insW, hpin, go_sem, reduceAdd, reduceMul]
   cases h19 : x.op == 19 with
   | true =>
     simp +decide only [wl, bne, hpin, go_sem, reduceAdd, reduceMul]
     refine zd (yC x.num 0 (c.words.length - 1)) hpin ?_
     rw [h18, h19] at hm
     simp only [Bool.or_true, if_true] at hm
     simp +decide only [hm, bne, hpin, go_sem, reduceAdd, reduceMul]
     refine Ent.weak ?_ ?_ ?_ ?_ <;> simp +decide [subT, subB, zl, zk, zo, St.get, look, vI, vB, vS, cI, cS, cB, insC, zm, roI]
   | false =>
     simp +decide only [bne, zx, insW, hpin, go_sem, reduceAdd, reduceMul]
     rw [h18, h19] at hm
     simp only [Bool.or_self, Bool.false_eq_true, if_false] at hm
     simp +decide only [hm, bne, hpin, go_sem, reduceAdd, reduceMul]
     refine Ent.weak ?_ ?_ ?_ ?_ <;> simp +decide [subT, subB, zl, zk, zo, St.get, look, vI, vB, vS, cI, cS, cB, insC, zm, roI]
 refine zf ze _ ?_
 simp +decide only [bne, vB, zm, insC, zx, insW, hpin, go_sem, reduceAdd, reduceMul]
 unfold zlN
 cases h13 : x.op == 13 with
 | false =>
   simp +decide only [bne, hpin, go_sem, reduceAdd, reduceMul]
   cases hx : decide (x.name = ⟨#[]⟩) with
   | false => simp +decide only [hpin, go_sem, reduceAdd, reduceMul]
   | true => simp +decide only [hpin, go_sem, reduceAdd, reduceMul]
 | true =>
   simp +decide only [hpin, go_sem, reduceAdd, reduceMul]
   refine Tri.loop (ι := Nat) (fun i => i <= x.args.length /\ zfl c (x.args.take i) = true) (fun i => ⟨116, [(2, .ip (zm true c) 0), (3, .ip (insC true x) 0), (4, vB false), (5, vI i)], []⟩) (fun i => x.args.length - i) 0 (by simp [zfl]) ?_ ?_
   · refine Ent.weak ?_ ?_ ?_ ?_ <;> simp +decide [subT, subB, zl, zk, zo, St.get, look, vI, vB, vS, cI, cS, cB, insC, zm, roI]
   · rintro i ⟨hi, hn⟩
     refine zf ze _ ?_
     by_cases h' : i < x.args.length
     · have e : ((i : Int) < (x.args.length : Int)) = True := by simp [h']
       simp +decide only [e, zr _ _ h', Int.natCast_nonneg, vB, vI, insC, zm, hpin, go_sem, reduceAdd, reduceMul]
       refine Tri.sched ze [(0, true), (1, true), (3, true), (2, true), (4, true), (5, true), (6, false), (7, false)] zL (by kernel_rfl) (fun C2 hC2 => ?_)
       have hp2 := zN hC2 hpin
       simp +decide only [e, zr _ _ h', Int.natCast_nonneg, zx, hp2, go_sem, reduceAdd, reduceMul]
       refine zd (xa c x.args[i] h) hp2 ?_
       simp +decide only [zx, hp2, go_sem, reduceAdd, reduceMul]
       cases hp : XT c x.args[i] with
       | false => simp +decide only [zfY h' hp, hpin, go_sem, reduceAdd, reduceMul]
       | true =>
         simp +decide only [hpin, go_sem, reduceAdd, reduceMul]
         refine ⟨i + 1, ⟨h', by rw [ziF h', hn, hp]; rfl⟩, by omega, Ent.weak ?_ ?_ ?_ ?_⟩
         all_goals simp +decide [subT, subB, zl, zk, zo, St.get, look, vI, vB, vS, cI, cS, cB, insC, zm, roI, w64s (n := x.args.length) h' (by omega)]
     · have hil : i = x.args.length := by omega
       subst hil
       have e : ((x.args.length : Int) < (x.args.length : Int)) = False := by simp
       rw [List.take_length] at hn
       simp +decide only [e, hn, vB, vI, insC, zm, hpin, go_sem, reduceAdd, reduceMul]
       refine zd (Zx x.name) hpin ?_
       simp +decide only [hpin, go_sem, reduceAdd, reduceMul]
       cases hx : ZM x.name with
       | false => simp +decide only [hpin, go_sem, reduceAdd, reduceMul]
       | true =>
         simp +decide only [hpin, go_sem, reduceAdd, reduceMul]
         simp [hn]
theorem zoN (c : CodeD) (x : InsD) : zny c x = zdf c x := by
 unfold zny zdf zhK
 cases h0 : inI x.op 1 20 with
 | false => rfl
 | true =>
 have ho : 1 <= x.op /\ x.op <= 20 := by simpa [inI] using h0
 have e1 : (zjf x || zX c x.a (zgI x.op)) = aOkB c x := by
   unfold zjf zX zgI aOkB inI
   by_cases h13 : x.op = 13
   · simp [h13]
   by_cases h20 : x.op = 20
   · simp [h20]
   by_cases h18 : x.op = 18
   · simp [h18]
   by_cases h19 : x.op = 19
   · simp [h19]
   have : x.op <= 17 := by omega
   simp [h13, h20, h18, h19, this, ho.1]
 have e2 : inI x.num 0 (zfe c x) = numB c x := by
   unfold zfe numB
   by_cases h1 : x.op = 1
   · simp [h1]
   by_cases h18 : x.op = 18
   · simp [h18]
   by_cases h19 : x.op = 19
   · simp [h19]
   have b1 : (x.op == 1) = false := by simp [h1]
   have b2 : (x.op == 18) = false := by simp [h18]
   have b3 : (x.op == 19) = false := by simp [h19]
   rw [b1, b2, b3]
   simp only [Bool.or_self, Bool.false_eq_true, if_false]
   unfold inI
   by_cases hn : x.num = 0
   · simp [hn]
   · have b4 : (x.num == 0) = false := by simp [hn]
     rw [b4]
     simp; omega
 rw [e1, e2]
 cases aOkB c x <;> cases zX c x.b (XK x.op) <;> cases zX c x.c (XJ x.op) <;> simp
theorem zbV {α : Type} {f : α -> Bool} {l : List α} {i : Nat} (h : i < l.length) : (l.take (i + 1)).all f = ((l.take i).all f && f l[i]) := by
 rw [List.take_succ_eq_append_getElem h, List.all_append]; simp
theorem zaA {α : Type} {f : α -> Bool} {l : List α} {i : Nat} (h : i < l.length) (hp : f l[i] = false) : l.all f = false := by
 rw [List.all_eq_false]
 exact ⟨l[i], List.getElem_mem h, by simp [hp]⟩
def zed (n : Int) : Bool := inI n 1 4
def zjo (c : CodeD) : Bool := match c.words[c.words.length - 1]? with
 | some x => x.op == 20
 | none => false
def xE (c : CodeD) : Bool := ZM c.name && (!decide ((200 : Int) < c.locals.length) && (inI c.params 0 c.locals.length && (inI c.words.length 1 400 && (zjo c && (c.locals.all zed && c.words.all (zdf c))))))
theorem zjL (c : CodeD) (h : c.locals.length <= 1048576) (hw : c.words.length <= 1048576) (hl : ∀ y ∈ c.words, y.args.length <= 1048576) : zB Tryz.prog 113 [.ro (zx c)] (fun rs st => rs = [(false, [cB (xE c)])]) := by
 refine zt (fn := Tryz.f113) (c := Tryz.f113.body.getD .skip) (res := [.tm 2]) (n := 72) ze (by kernel_rfl) (by rfl) (by kernel_rfl) (by rfl) (by rfl) (by simp [zq]) (fun uf ub C hpin hpin2 hfull => ?_)
 simp only [Tryz.f113, Option.getD_some]
 refine Tri.step ze ?_
 simp +decide only [zx, insW, zm, insC, hpin, go_sem, reduceAdd, reduceMul]
 refine Tri.ent ?_ (Ent.frb hfull 1)
 refine Tri.step ze ?_
 simp +decide only [hpin, go_sem, reduceAdd, reduceMul]
 refine zd (Zx c.name) hpin ?_
 simp +decide only [bne, zx, insW, hpin, go_sem, reduceAdd, reduceMul]
 unfold xE
 have hg : (∃ n : Int, ((rows (insC true) c.words).getD (IntKind.i64.wrap ((c.words.length : Int) - 1)).toNat [])[0]? = some (.sc (.int .i64 n))) \/ ((rows (insC true) c.words).getD (IntKind.i64.wrap ((c.words.length : Int) - 1)).toNat [])[0]? = none := by
   by_cases h0 : 1 <= c.words.length
   · left
     have w0 : (IntKind.i64.wrap ((c.words.length : Int) - 1)).toNat = c.words.length - 1 := by rw [w64 (by omega) (by omega)]; omega
     rw [w0, zi _ _ (show c.words.length - 1 < c.words.length by omega)]
     exact ⟨_, rfl⟩
   · right
     have : c.words = [] := List.eq_nil_of_length_eq_zero (by omega)
     rw [this]; simp [rows]
 cases h1 : ZM c.name with
 | false => rcases hg with ⟨n, hg⟩ | hg <;> simp +decide only [hg, zx, insW, hpin, go_sem, reduceAdd, reduceMul]
 | true =>
 simp +decide only [zx, insW, hpin, go_sem, reduceAdd, reduceMul]
 cases h2 : decide ((200 : Int) < c.locals.length) with
 | true => rcases hg with ⟨n, hg⟩ | hg <;> simp +decide only [hg, zx, insW, hpin, go_sem, reduceAdd, reduceMul]
 | false =>
 simp +decide only [zx, insW, hpin, go_sem, reduceAdd, reduceMul]
 refine zd (yC c.params 0 c.locals.length) hpin ?_
 simp +decide only [bne, zx, insW, hpin, go_sem, reduceAdd, reduceMul]
 cases h3 : inI c.params 0 c.locals.length with
 | false => rcases hg with ⟨n, hg⟩ | hg <;> simp +decide only [hg, zx, insW, hpin, go_sem, reduceAdd, reduceMul]
 | true =>
 simp +decide only [zx, insW, hpin, go_sem, reduceAdd, reduceMul]
 refine zd (yC c.words.length 1 400) hpin ?_
 simp +decide only [bne, zx, insW, hpin, go_sem, reduceAdd, reduceMul]
 cases h4 : inI c.words.length 1 400 with
 | false => rcases hg with ⟨n, hg⟩ | hg <;> simp +decide only [hg, zx, insW, hpin, go_sem, reduceAdd, reduceMul]
 | true =>
 have hn : 1 <= c.words.length := by simp [inI] at h4; omega
 have hk : c.words.length - 1 < c.words.length := by omega
 have w1 : IntKind.i64.wrap ((c.words.length : Int) - 1) = ((c.words.length - 1 : Nat) : Int) := by rw [w64 (by omega) (by omega)]; omega
 have e10 : zjo c = (c.words[c.words.length - 1].op == 20) := by simp [zjo, hk]
 have e11 : (((c.words.length - 1 : Nat) : Int) < (c.words.length : Int)) = True := by simp; omega
 simp +decide only [w1, e11, zi _ _ hk, Int.natCast_nonneg, insC, bne, e10, zx, insW, hpin, go_sem, reduceAdd, reduceMul]
 cases h5 : c.words[c.words.length - 1].op == 20 with
 | false =>
   simp +decide only [zx, insW, hpin, go_sem, reduceAdd, reduceMul]
   simp [e10, h5]
 | true =>
 have e12 : zjo c = true := by rw [e10]; exact h5
 rw [e12]
 simp +decide only [zx, insW, hpin, go_sem, reduceAdd, reduceMul]
 refine Tri.step ze ?_
 simp +decide only [hpin, go_sem, reduceAdd, reduceMul]
 refine Tri.loop (ι := Nat) (fun i => i <= c.locals.length /\ (c.locals.take i).all zed = true) (fun i => ⟨72, [(1, .ip (zm true c) 0), (2, vB false), (3, vI i)], []⟩) (fun i => c.locals.length - i) 0 (by simp) ?_ ?_
 · refine Ent.weak ?_ ?_ ?_ ?_ <;> simp +decide [subT, subB, zl, zk, zo, St.get, look, vI, vB, vS, cI, cS, cB, insC, zm, roI]
 · rintro i ⟨hi, hq⟩
   refine zf ze _ ?_
   by_cases h' : i < c.locals.length
   · have e : ((i : Int) < (c.locals.length : Int)) = True := by simp [h']
     simp +decide only [e, zr _ _ h', Int.natCast_nonneg, vB, vI, insC, zm, hpin, go_sem, reduceAdd, reduceMul]
     refine zd (yC c.locals[i] 1 4) hpin ?_
     simp +decide only [bne, zx, insW, hpin, go_sem, reduceAdd, reduceMul]
     cases hp : inI c.locals[i] 1 4 with
     | false => simp +decide only [zaA (f := zed) h' hp, hpin, go_sem, reduceAdd, reduceMul]
     | true =>
       simp +decide only [hpin, go_sem, reduceAdd, reduceMul]
       refine ⟨i + 1, ⟨h', by rw [zbV h', hq, zed, hp]; rfl⟩, by omega, Ent.weak ?_ ?_ ?_ ?_⟩
       all_goals simp +decide [subT, subB, zl, zk, zo, St.get, look, vI, vB, vS, cI, cS, cB, insC, zm, roI, w64s (n := c.locals.length) h' (by omega)]
   · have hil : i = c.locals.length := by omega
     subst hil
     have e : ((c.locals.length : Int) < (c.locals.length : Int)) = False := by simp
     rw [List.take_length] at hq
     simp +decide only [e, hq, vB, vI, insC, zm, hpin, go_sem, reduceAdd, reduceMul]
     refine zf ze _ ?_
     simp +decide only [hpin, go_sem, reduceAdd, reduceMul]
     refine Tri.loop (ι := Nat) (fun i => i <= c.words.length /\ (c.words.take i).all (zdf c) = true) (fun i => ⟨72, [(1, .ip (zm true c) 0), (2, vB false), (4, vI i)], []⟩) (fun i => c.words.length - i) 0 (by simp) ?_ ?_
     · refine Ent.weak ?_ ?_ ?_ ?_ <;> simp +decide [subT, subB, zl, zk, zo, St.get, look, vI, vB, vS, cI, cS, cB, insC, zm, roI]
     · rintro i ⟨hi, hq2⟩
       refine zf ze _ ?_
       by_cases h' : i < c.words.length
       · have e : ((i : Int) < (c.words.length : Int)) = True := by simp [h']
         have hla := hl _ (List.getElem_mem h')
         simp +decide only [e, zi _ _ h', Int.natCast_nonneg, vB, vI, insC, zm, hpin, go_sem, reduceAdd, reduceMul]
         refine Tri.sched ze [(0, true), (1, true), (3, true), (2, true), (4, true), (5, true), (6, false), (7, false)] zL (by kernel_rfl) (fun C2 hC2 => ?_)
         have hp2 := zN hC2 hpin
         simp +decide only [e, zi _ _ h', Int.natCast_nonneg, zx, insC, hp2, go_sem, reduceAdd, reduceMul]
         refine zd (ziK c c.words[i] h hw hla) hp2 ?_
         simp +decide only [zx, insW, hp2, go_sem, reduceAdd, reduceMul]
         cases hp : zdf c c.words[i] with
         | false => simp +decide only [zaA h' hp, hpin, go_sem, reduceAdd, reduceMul]
         | true =>
           simp +decide only [hpin, go_sem, reduceAdd, reduceMul]
           refine ⟨i + 1, ⟨h', by rw [zbV h', hq2, hp]; rfl⟩, by omega, Ent.weak ?_ ?_ ?_ ?_⟩
           all_goals simp +decide [subT, subB, zl, zk, zo, St.get, look, vI, vB, vS, cI, cS, cB, insC, zm, roI, w64s (n := c.words.length) h' (by omega)]
       · have hil : i = c.words.length := by omega
         subst hil
         have e : ((c.words.length : Int) < (c.words.length : Int)) = False := by simp
         rw [List.take_length] at hq2
         simp +decide only [e, hq2, vB, vI, insC, zm, hpin, go_sem, reduceAdd, reduceMul]
theorem zjM (c : CodeD) (h : c.locals.length <= 1048576) (hw : c.words.length <= 1048576) (hl : ∀ y ∈ c.words, y.args.length <= 1048576) : zB Tryz.prog 124 [.ro (zx c)] (fun rs st => rs = [(false, [cB (xE c)])]) := by
 refine zt (fn := Tryz.f124) (c := Tryz.f124.body.getD .skip) (res := [.tm 2]) (n := 68) ze (by kernel_rfl) (by rfl) (by kernel_rfl) (by rfl) (by rfl) (by simp [zq]) (fun uf ub C hpin hpin2 hfull => ?_)
 simp only [Tryz.f124, Option.getD_some]
 refine Tri.step ze ?_
 simp +decide only [zx, insW, zm, insC, hpin, go_sem, reduceAdd, reduceMul]
 refine Tri.ent ?_ (Ent.frb hfull 1)
 refine Tri.step ze ?_
 simp +decide only [hpin, go_sem, reduceAdd, reduceMul]
 refine Tri.step ze ?_
 simp +decide only [hpin, go_sem, reduceAdd, reduceMul]
 refine zd (xf c.name) hpin ?_
 simp +decide only [bne, zx, insW, hpin, go_sem, reduceAdd, reduceMul]
 unfold xE
 have hg : (∃ n : Int, ((rows (insC true) c.words).getD (IntKind.i64.wrap ((c.words.length : Int) - 1)).toNat [])[0]? = some (.sc (.int .i64 n))) \/ ((rows (insC true) c.words).getD (IntKind.i64.wrap ((c.words.length : Int) - 1)).toNat [])[0]? = none := by
   by_cases h0 : 1 <= c.words.length
   · left
     have w0 : (IntKind.i64.wrap ((c.words.length : Int) - 1)).toNat = c.words.length - 1 := by rw [w64 (by omega) (by omega)]; omega
     rw [w0, zi _ _ (show c.words.length - 1 < c.words.length by omega)]
     exact ⟨_, rfl⟩
   · right
     have : c.words = [] := List.eq_nil_of_length_eq_zero (by omega)
     rw [this]; simp [rows]
 cases h1 : ZM c.name with
 | false => rcases hg with ⟨n, hg⟩ | hg <;> simp +decide only [hg, zx, insW, hpin, go_sem, reduceAdd, reduceMul]
 | true =>
 simp +decide only [zx, insW, hpin, go_sem, reduceAdd, reduceMul]
 cases h2 : decide ((200 : Int) < c.locals.length) with
 | true => rcases hg with ⟨n, hg⟩ | hg <;> simp +decide only [hg, zx, insW, hpin, go_sem, reduceAdd, reduceMul]
 | false =>
 simp +decide only [zx, insW, hpin, go_sem, reduceAdd, reduceMul]
 refine zd (in' c.params 0 c.locals.length) hpin ?_
 simp +decide only [bne, zx, insW, hpin, go_sem, reduceAdd, reduceMul]
 cases h3 : inI c.params 0 c.locals.length with
 | false => rcases hg with ⟨n, hg⟩ | hg <;> simp +decide only [hg, zx, insW, hpin, go_sem, reduceAdd, reduceMul]
 | true =>
 simp +decide only [zx, insW, hpin, go_sem, reduceAdd, reduceMul]
 refine zd (in' c.words.length 1 400) hpin ?_
 simp +decide only [bne, zx, insW, hpin, go_sem, reduceAdd, reduceMul]
 cases h4 : inI c.words.length 1 400 with
 | false => rcases hg with ⟨n, hg⟩ | hg <;> simp +decide only [hg, zx, insW, hpin, go_sem, reduceAdd, reduceMul]
 | true =>
 have hn : 1 <= c.words.length := by simp [inI] at h4; omega
 have hk : c.words.length - 1 < c.words.length := by omega
 have w1 : IntKind.i64.wrap ((c.words.length : Int) - 1) = ((c.words.length - 1 : Nat) : Int) := by rw [w64 (by omega) (by omega)]; omega
 have e10 : zjo c = (c.words[c.words.length - 1].op == 20) := by simp [zjo, hk]
 have e11 : (((c.words.length - 1 : Nat) : Int) < (c.words.length : Int)) = True := by simp; omega
 simp +decide only [w1, e11, zi _ _ hk, Int.natCast_nonneg, insC, bne, e10, zx, insW, hpin, go_sem, reduceAdd, reduceMul]
 cases h5 : c.words[c.words.length - 1].op == 20 with
 | false =>
   simp +decide only [zx, insW, hpin, go_sem, reduceAdd, reduceMul]
   simp [e10, h5]
 | true =>
 have e12 : zjo c = true := by rw [e10]; exact h5
 rw [e12]
 simp +decide only [zx, insW, hpin, go_sem, reduceAdd, reduceMul]
 refine Tri.step ze ?_
 simp +decide only [hpin, go_sem, reduceAdd, reduceMul]
 refine Tri.loop (ι := Nat) (fun i => i <= c.locals.length /\ (c.locals.take i).all zed = true) (fun i => ⟨68, [(1, .ip (zm true c) 0), (2, vB false), (46, roI c.locals), (47, vI c.locals.length), (48, vI i)], []⟩) (fun i => c.locals.length - i) 0 (by simp) ?_ ?_
 · refine Ent.weak ?_ ?_ ?_ ?_ <;> simp +decide [subT, subB, zl, zk, zo, St.get, look, vI, vB, vS, cI, cS, cB, insC, zm, roI]
 · rintro i ⟨hi, hq⟩
   refine zf ze _ ?_
   by_cases h' : i < c.locals.length
   · have e : ((i : Int) < (c.locals.length : Int)) = True := by simp [h']
     simp +decide only [e, zr _ _ h', Int.natCast_nonneg, vB, vI, insC, zm, hpin, go_sem, reduceAdd, reduceMul]
     refine zd (in' c.locals[i] 1 4) hpin ?_
     simp +decide only [bne, zx, insW, hpin, go_sem, reduceAdd, reduceMul]
     cases hp : inI c.locals[i] 1 4 with
     | false => simp +decide only [zaA (f := zed) h' hp, hpin, go_sem, reduceAdd, reduceMul]
     | true =>
       simp +decide only [hpin, go_sem, reduceAdd, reduceMul]
       refine ⟨i + 1, ⟨h', by rw [zbV h', hq, zed, hp]; rfl⟩, by omega, Ent.weak ?_ ?_ ?_ ?_⟩
       all_goals simp +decide [subT, subB, zl, zk, zo, St.get, look, vI, vB, vS, cI, cS, cB, insC, zm, roI, w64s (n := c.locals.length) h' (by omega)]
   · have hil : i = c.locals.length := by omega
     subst hil
     have e : ((c.locals.length : Int) < (c.locals.length : Int)) = False := by simp
     rw [List.take_length] at hq
     simp +decide only [e, hq, vB, vI, insC, zm, hpin, go_sem, reduceAdd, reduceMul]
     refine zf ze _ ?_
     simp +decide only [hpin, go_sem, reduceAdd, reduceMul]
     refine Tri.loop (ι := Nat) (fun i => i <= c.words.length /\ (c.words.take i).all (zdf c) = true) (fun i => ⟨68, [(1, .ip (zm true c) 0), (2, vB false), (57, .imm 139 (rows (insC true) c.words)), (58, vI c.words.length), (59, vI i)], []⟩) (fun i => c.words.length - i) 0 (by simp) ?_ ?_
     · refine Ent.weak ?_ ?_ ?_ ?_ <;> simp +decide [subT, subB, zl, zk, zo, St.get, look, vI, vB, vS, cI, cS, cB, insC, zm, roI]
     · rintro i ⟨hi, hq2⟩
       refine zf ze _ ?_
       by_cases h' : i < c.words.length
       · have e : ((i : Int) < (c.words.length : Int)) = True := by simp [h']
         have hla := hl _ (List.getElem_mem h')
         simp +decide only [e, zi _ _ h', Int.natCast_nonneg, vB, vI, insC, zm, hpin, go_sem, reduceAdd, reduceMul]
         refine zd (ziL c c.words[i] h hw hla) hpin ?_
         rw [zoN]
         simp +decide only [bne, zx, insW, hpin, go_sem, reduceAdd, reduceMul]
         cases hp : zdf c c.words[i] with
         | false => simp +decide only [zaA h' hp, hpin, go_sem, reduceAdd, reduceMul]
         | true =>
           simp +decide only [hpin, go_sem, reduceAdd, reduceMul]
           refine ⟨i + 1, ⟨h', by rw [zbV h', hq2, hp]; rfl⟩, by omega, Ent.weak ?_ ?_ ?_ ?_⟩
           all_goals simp +decide [subT, subB, zl, zk, zo, St.get, look, vI, vB, vS, cI, cS, cB, insC, zm, roI, w64s (n := c.words.length) h' (by omega)]
       · have hil : i = c.words.length := by omega
         subst hil
         have e : ((c.words.length : Int) < (c.words.length : Int)) = False := by simp
         rw [List.take_length] at hq2
         simp +decide only [e, hq2, vB, vI, insC, zm, hpin, go_sem, reduceAdd, reduceMul]
def pd0 : ParamD := ⟨⟨#[]⟩, 0⟩
def parK (ps : List ParamD) (s : LowD) (i : Nat) : LowD := if (ps.getD i pd0).ty == 2 then s.addW (in3 17 i 0) else s
def parD (ps : List ParamD) : Nat -> LowD -> LowD
 | 0, s => s
 | i + 1, s => parD ps i (parK ps s i)
theorem zpi (ps : List ParamD) (s : LowD) (i : Nat) : s.le (parK ps s i) 1 := by
 unfold parK
 split
 · exact YW _ _
 · exact (LowD.le.refl s).mono (by omega)
theorem zjb (ps : List ParamD) : ∀ (i : Nat) (s : LowD), s.le (parD ps i s) i
 | 0, s => .refl s
 | i + 1, s => by
   unfold parD
   exact ((zpi ps s i).trans (zjb ps i _)).mono (by omega)
def low0 (l : List VarD) : LowD := ⟨l.map (·.ty), []⟩
def low1 (p : ProgramD) (l : List VarD) (body : Int) : LowD := blkS (lowS p l) (nAt p.nodes body).kids (low0 l)
def low2 (p : ProgramD) (l : List VarD) (f : FnD) : Int × LowD := if decide (0 <= f.ret) then lowV p l f.ret (low1 p l f.body) else (-1, low1 p l f.body)
def low3 (p : ProgramD) (l : List VarD) (f : FnD) : LowD := XI p l (nAt p.nodes f.body).kids (low2 p l f).2
def low4 (p : ProgramD) (l : List VarD) (f : FnD) : LowD := parD f.params f.params.length (low3 p l f)
def low5 (p : ProgramD) (l : List VarD) (f : FnD) : LowD := (low4 p l f).addW (in3 20 (low2 p l f).1 0)
def Zt (p : ProgramD) (l : List VarD) (f : FnD) : CodeD := ⟨f.name, f.params.length, (low5 p l f).locs, (low5 p l f).words⟩
def Yx (p : ProgramD) (l : List VarD) (f : FnD) : CodeD := if xE (Zt p l f) then Zt p l f else ⟨⟨#[]⟩, 0, [], []⟩
theorem zip {s : ByteArray} : ∀ (l : List VarD) (i : Nat), s ∈ l.map (·.name) -> 0 <= zaD s l i
 | [], _, h => by simp at h
 | v :: r, i, h => by
   unfold zaD
   by_cases e : v.name = s
   · rw [if_pos e]; omega
   · rw [if_neg e]
     refine zip r (i + 1) ?_
     rcases List.mem_cons.1 h with h | h
     · exact absurd h.symm e
     · exact h
theorem zhh (p : ProgramD) (l : List VarD) (i : Nat) : (Yt p l i).map (·.name) = l.map (·.name) := by
 unfold Yt
 split
 · apply List.ext_getElem
   · simp
   · intro j h1 h2
     simp only [List.getElem_map, List.getElem_set]
     split
     · rename_i e; subst e
       have hj : i < l.length := by simpa using h2
       simp [List.getD, hj]
     · rfl
 · rfl
theorem zcx (p : ProgramD) (l : List VarD) : ∀ i, (zT p l i).map (·.name) = l.map (·.name)
 | 0 => rfl
 | i + 1 => by unfold zT; rw [zhh, zcx p l i]
theorem zhf (p : ProgramD) (fn : Int) : (zP p fn).map (·.name) = (ZR p fn).map (·.name) := zcx p _ _
theorem zlx {p : ProgramD} (hG : Right p) (fn : Nat) (hfl : fn < p.fns.length) {m : Nat} (h : Reach p.nodes p.fns[fn].body.toNat m) : (m : Int) ∈ yU p.nodes p.fns[fn].body := by
 obtain ⟨⟨h0, hb⟩, _⟩ := xp (hG.fn fn hfl)
 have hdn := hG.deep.deep _ hb
 have hd2 : (yJ p.nodes p.fns[fn].body == 0) = false := by
   unfold yJ
   have hi : inI p.fns[fn].body 0 (p.nodes.length - 1) = true := by simp [inI]; omega
   rw [hi, if_pos rfl]
   simpa using hdn
 unfold yU
 rw [hd2]
 simp only [if_false, Bool.false_eq_true]
 show (m : Int) ∈ ints (zcw p.nodes p.fns[fn].body.toNat)
 rw [zks]
 exact (Zd hdn).2 h
theorem zmG {p : ProgramD} (hG : Right p) (fn : Nat) (hfl : fn < p.fns.length) : LetsIn p (zP p fn) p.fns[fn].body.toNat := fun m hm h13 => by
 have hu := zlx hG fn hfl hm
 unfold yg
 refine zip _ 0 ?_
 rw [zhf]
 refine List.mem_map.2 ⟨⟨(nAt p.nodes m).name, 0, m⟩, ?_, rfl⟩
 have hi : inI (fn : Int) 0 (p.fns.length - 1) = true := by simp [inI]; omega
 unfold ZR
 rw [hi, if_pos rfl, yE hfl]
 refine List.mem_append_right _ ?_
 unfold xZ
 refine List.mem_flatMap.2 ⟨m, hu, ?_⟩
 unfold letV
 have : ((nAt p.nodes (m : Int)).kind == 13) = true := by rw [h13]; rfl
 rw [if_pos this]
 exact List.mem_singleton.2 rfl
theorem zlE {p : ProgramD} (hG : Right p) (fn : Nat) (hfl : fn < p.fns.length) : (ZR p fn).length <= 303 := by
 obtain ⟨_, h2, _⟩ := zgJ (hG.fn fn hfl)
 unfold ZR
 split
 · rw [List.length_append, yE hfl]
   have h3 := Xu p.nodes (yU p.nodes p.fns[fn].body)
   have h4 := Ya p.nodes p.fns[fn].body
   have h5 := hG.few
   have : (zY p.fns[fn].params).length = p.fns[fn].params.length := by simp [zY]
   omega
 · simp
theorem zfs {p : ProgramD} (hG : Right p) (fn : Nat) (hfl : fn < p.fns.length) : (zP p fn).length <= 303 := by
 unfold zP; rw [zH]; exact zlE hG fn hfl
theorem zkQ (p : ProgramD) (l : List VarD) (i j : Nat) (hj : j < l.length) (hn : l[j].node < 0) : (Yt p l i)[j]'(by rw [Yb]; exact hj) = l[j] := by
 by_cases e : i = j
 · subst e
   unfold Yt
   have hg : l.getD i vr0 = l[i] := by simp [List.getD, hj]
   simp only [hg]
   split
   · omega
   · rfl
 · exact zcy p l i j hj e
theorem zfq (p : ProgramD) (l : List VarD) (j : Nat) (hj : j < l.length) (hn : l[j].node < 0) : ∀ i, (zT p l i)[j]'(by rw [zH]; exact hj) = l[j]
 | 0 => rfl
 | i + 1 => by
   have h1 := zfq p l j hj hn i
   unfold zT
   rw [zkQ p (zT p l i) i j (by rw [zH]; exact hj) (by rw [h1]; exact hn), h1]
theorem zfr {p : ProgramD} (fn : Nat) (hfl : fn < p.fns.length) {i : Nat} (hi : i < p.fns[fn].params.length) : ∃ h : i < (zP p fn).length, (zP p fn)[i] = XU p.fns[fn].params[i] := by
 have hin : inI (fn : Int) 0 (p.fns.length - 1) = true := by simp [inI]; omega
 have he : ZR p fn = zY p.fns[fn].params ++ xZ p.nodes (yU p.nodes p.fns[fn].body) := by
   unfold ZR; rw [hin, if_pos rfl, yE hfl]
 have hl : i < (ZR p fn).length := by rw [he, List.length_append]; simp [zY]; omega
 have hv : (ZR p fn)[i] = XU p.fns[fn].params[i] := by
   simp only [he]
   rw [List.getElem_append_left (by simpa [zY] using hi)]
   simp [zY]
 refine ⟨by unfold zP; rw [zH]; exact hl, ?_⟩
 unfold zP
 rw [zfq p _ i hl (by rw [hv]; show (-1 : Int) < 0; omega), hv]
theorem zmu {p : ProgramD} (h : yX p = true) : ∀ m, m < p.nodes.length -> cntK p.nodes p.nodes.length m <= 1 := fun m hm => by
 have hG := yz h
 simp only [yX, Bool.and_eq_true] at h
 obtain ⟨_, _, _, _, h4⟩ := h
 have h5 := yN.1 h4 m hm
 unfold zdL at h5
 have h6 := zeF hG.deep.nodup m p.nodes.length (Nat.le_refl _)
 have h7 := hG.few
 rw [Bool.or_eq_true] at h5
 rcases h5 with h5 | h5
 · have := eq_of_beq h5; omega
 · have := eq_of_beq h5; omega
theorem zbj {p : ProgramD} (hD : Deep p.nodes) (l : List VarD) {n : Nat} (hn : n < p.nodes.length) (h20 : p.nodes[n].kind = 20) (s : LowD) : ∀ i, i <= p.nodes[n].kids.length -> s.le (blkQ (lowS p l) p.nodes[n].kids i s) (sumN (szB p.nodes) (p.nodes[n].kids.take i)) := by
 have hstp := yK (hD.deep n hn) hn h20
 exact zeJ (S := lowS p l) (z := szB p.nodes) p.nodes[n].kids (fun k hk s2 => by
   obtain ⟨i, hi, rfl⟩ := List.getElem_of_mem hk
   obtain ⟨q0, q1, q2⟩ := hD.kid hn _ hk
   have hkr := zu (show inI (nAt p.nodes p.nodes[n].kids[i]).kind 13 19 = true from hstp i hi)
   generalize p.nodes[n].kids[i] = k at q0 q1 q2 hkr
   obtain ⟨m, rfl⟩ : ∃ m : Nat, k = m := ⟨k.toNat, by omega⟩
   exact zdZ hD l m (by omega) (Or.inr hkr) s2) s
theorem zkc {z : Int -> Nat} (l : List Int) {i : Nat} (hi : i < l.length) : sumN z (l.take i) + z l[i] <= sumN z l := by
 have h1 := xN z l (i + 1)
 rw [List.take_succ_eq_append_getElem hi, YI] at h1
 have : sumN z [l[i]] = z l[i] := by simp [sumN]
 omega
def argsOk (s : LowD) : Prop := ∀ y ∈ s.words, y.args.length <= 300
theorem argsOk.addW {s : LowD} (h : argsOk s) {x : InsD} (hx : x.args.length <= 300) : argsOk (s.addW x) := fun y hy => by
 unfold LowD.addW at hy
 rcases List.mem_append.1 hy with hy | hy
 · exact h y hy
 · rw [List.mem_singleton.1 hy]; exact hx
theorem argsOk.addL {s : LowD} (h : argsOk s) (t : Int) : argsOk (s.addL t) := h
theorem argsOk.setN {s : LowD} (h : argsOk s) (i : Nat) (n : Int) : argsOk (s.setN i n) := fun y hy => by
 unfold LowD.setN at hy
 rcases List.mem_or_eq_of_mem_set hy with hy | rfl
 · exact h y hy
 · show (s.words.getD i in0).args.length <= 300
   rw [List.getD_eq_getElem?_getD]
   cases hq : s.words[i]? with
   | none => simp [in0]
   | some z => exact h z (List.mem_of_getElem? hq)
theorem Yg (a b c : Int) : (in3 a b c).args.length <= 300 := by simp [in3]
theorem zii {V : Int -> LowD -> Int × LowD} (l : List Int) (h : ∀ k ∈ l, ∀ s, argsOk s -> argsOk (V k s).2) (s : LowD) (hs : argsOk s) : ∀ i, i <= l.length -> argsOk (kidQ V l i s).2
 | 0, _ => hs
 | i + 1, hi => by
   rw [XY V l (by omega)]
   exact h l[i] (List.getElem_mem _) _ (zii l h s hs i (by omega))
theorem znX (l : List VarD) (x : NodeD) (t to : Int) (a : List Int) : (opI l x t to a).args.length <= 300 := by
 unfold opI
 repeat' split
 all_goals simp
theorem zmC {p : ProgramD} (hD : Deep p.nodes) (l : List VarD) (n : Nat) : n < p.nodes.length -> ∀ s : LowD, argsOk s -> argsOk (lowV p l n s).2 := by
 induction n using Nat.strongRecOn with
 | ind n ih =>
 intro hn s hs
 have hfew := hD.few p.nodes[n] (List.getElem_mem hn)
 rw [zdY hD l hn]
 have h1 := zii (V := lowV p l) p.nodes[n].kids (fun k hk s2 => by
   obtain ⟨q0, q1, q2⟩ := hD.kid hn k hk
   obtain ⟨m, rfl⟩ : ∃ m : Nat, k = m := ⟨k.toNat, by omega⟩
   exact ih m (by omega) (by omega) s2) s hs p.nodes[n].kids.length (by omega)
 have h2 := zbH (lowV p l) p.nodes[n].kids s p.nodes[n].kids.length (by omega)
 rw [zda] at h1 h2
 unfold valK
 generalize zgB (lowV p l) p.nodes[n].kids s = q at h1 h2 |-
 simp only
 split
 · split
   · exact h1.addW (by show q.1.length <= 300; omega)
   · exact (h1.addL _).addW (by show q.1.length <= 300; omega)
 · exact (h1.addL _).addW (znX _ _ _ _ _)
theorem zfA {p : ProgramD} (hD : Deep p.nodes) (l : List VarD) {k : Int} (h0 : 0 <= k) (hk : k.toNat < p.nodes.length) (s : LowD) (hs : argsOk s) : argsOk (lowV p l k s).2 := by
 have := zmC hD l k.toNat hk s hs
 rwa [show ((k.toNat : Nat) : Int) = k by omega] at this
theorem zcl (p : ProgramD) (l : List VarD) (kids : List Int) : ∀ (i : Nat) (s : LowD), argsOk s -> argsOk (zbg p l kids i s)
 | 0, s, hs => hs
 | i + 1, s, hs => by
   unfold zbg
   refine zcl p l kids i _ ?_
   unfold zjG
   split
   · exact hs.addW (Yg _ _ _)
   · exact hs
theorem zeK {S : Int -> LowD -> LowD} (l : List Int) (h : ∀ k ∈ l, ∀ s, argsOk s -> argsOk (S k s)) (s : LowD) (hs : argsOk s) : ∀ i, i <= l.length -> argsOk (blkQ S l i s)
 | 0, _ => hs
 | i + 1, hi => by
   rw [zag S l (by omega)]
   exact h l[i] (List.getElem_mem _) _ (zeK l h s hs i (by omega))
theorem zkt {q : Int × LowD} (h : argsOk q.2) : argsOk (ifA q) := h.addW (Yg _ _ _)
theorem zol (q : Int × LowD) {s : LowD} (h : argsOk s) : argsOk (ifB q s) := (h.addW (Yg _ _ _)).setN _ _
theorem znz (top : Nat) (q : Int × LowD) {s : LowD} (h : argsOk s) : argsOk (whB top q s) := (h.addW (by simp)).setN _ _
theorem zlU {S : Int -> LowD -> LowD} {p : ProgramD} (l : List VarD) (x : NodeD) (hv : ∀ k ∈ x.kids, ∀ s, argsOk s -> argsOk (lowV p l k s).2) (hS : ∀ i, 0 < i -> i < x.kids.length -> ∀ s, argsOk s -> argsOk (S (x.kids.getD i 0) s)) (hs : inI x.kids.length (zA x.kind).1 (zA x.kind).2 = true) (hst : 13 <= x.kind /\ x.kind <= 19) (s : LowD) (h : argsOk s) : argsOk (stpK S p l x s) := by
 have hpos := zan hs hst
 have hq := hv _ (ZE hpos) s h
 unfold stpK
 generalize lowV p l (x.kids.getD 0 0) s = q at hq |-
 simp only
 split
 · exact hq.addW (Yg _ _ _)
 split
 · exact hq.addW (Yg _ _ _)
 split
 · exact hq.addW (Yg _ _ _)
 split
 · split
   · exact hq.addW (Yg _ _ _)
   · exact hq
 split
 · rename_i h16
   have h3 := zhv hs (eq_of_beq h16)
   exact argsOk.setN (hS 2 (by omega) (by omega) _ (zol q (hS 1 (by omega) (by omega) _ (zkt hq)))) _ _
 split
 · rename_i h17
   have h3 := zhw hs (eq_of_beq h17)
   exact znz _ q (hS 1 (by omega) (by omega) _ (zkt hq))
 · exact hq
theorem zmD {p : ProgramD} (hD : Deep p.nodes) (l : List VarD) (n : Nat) : n < p.nodes.length -> ((nAt p.nodes n).kind = 20 \/ (13 <= (nAt p.nodes n).kind /\ (nAt p.nodes n).kind <= 19)) -> ∀ s : LowD, argsOk s -> argsOk (lowS p l n s) := by
 induction n using Nat.strongRecOn with
 | ind n ih =>
 intro hn hkd s hs
 have hsh := zZ (hD.deep n hn) hn
 rw [zcf hD l hn]
 rw [zI hn] at hkd
 rcases hkd with h20 | hst
 · have h20b : (p.nodes[n].kind == 20) = true := by rw [h20]; rfl
   rw [if_pos h20b]
   have h1 := zeK (S := lowS p l) p.nodes[n].kids (fun k hk s2 => by
     obtain ⟨i, hi, rfl⟩ := List.getElem_of_mem hk
     obtain ⟨q0, q1, q2⟩ := hD.kid hn _ hk
     have hkr := zu (show inI (nAt p.nodes p.nodes[n].kids[i]).kind 13 19 = true from yK (hD.deep n hn) hn h20 i hi)
     generalize p.nodes[n].kids[i] = k at q0 q1 q2 hkr
     obtain ⟨m, rfl⟩ : ∃ m : Nat, k = m := ⟨k.toNat, by omega⟩
     exact ih m (by omega) (by omega) (Or.inr hkr) s2) s hs p.nodes[n].kids.length (by omega)
   rw [YR] at h1
   exact zcl p l _ _ _ h1
 · have h20b : (p.nodes[n].kind == 20) = false := by apply Bool.eq_false_iff.2; intro hh; have := eq_of_beq hh; omega
   rw [h20b, if_neg (by decide)]
   refine zlU l p.nodes[n] (fun k hk s2 h2 => ?_) (fun i hi0 hil s2 h2 => ?_) hsh hst s hs
   · obtain ⟨q0, q1, q2⟩ := hD.kid hn k hk
     exact zfA hD l q0 (by omega) s2 h2
   · have hbl := ZC (hD.deep n hn) hn hst i hi0 hil
     have hmem := ZE hil
     obtain ⟨q0, q1, q2⟩ := hD.kid hn _ hmem
     generalize p.nodes[n].kids.getD i 0 = k at q0 q1 q2 hbl
     obtain ⟨m, rfl⟩ : ∃ m : Nat, k = m := ⟨k.toNat, by omega⟩
     exact ih m (by omega) (by omega) (Or.inl hbl) s2 h2
theorem zhQ (ps : List ParamD) : ∀ (i : Nat) (s : LowD), argsOk s -> argsOk (parD ps i s)
 | 0, s, hs => hs
 | i + 1, s, hs => by
   unfold parD
   refine zhQ ps i _ ?_
   unfold parK
   split
   · exact hs.addW (Yg _ _ _)
   · exact hs
theorem zie {p : ProgramD} (hG : Right p) (l : List VarD) {fn : Nat} (hfl : fn < p.fns.length) : argsOk (low5 p l p.fns[fn]) := by
 have hD := hG.deep
 obtain ⟨⟨hb0, hbl⟩, hret⟩ := xp (hG.fn fn hfl)
 have h20 : (nAt p.nodes p.fns[fn].body).kind = 20 := by
   have h1 := hG.fn fn hfl
   simp only [ZW, Bool.and_eq_true, Xz] at h1
   exact eq_of_beq h1.2.2.2.2.1.2
 generalize p.fns[fn] = f at hb0 hbl hret h20
 have e : f.body = (f.body.toNat : Int) := by omega
 rw [e, zI hbl] at h20
 have h1 : argsOk (low1 p l f.body) := by
   unfold low1
   rw [e, zI hbl, <- YR]
   refine zeK (S := lowS p l) _ (fun k hk s2 => ?_) _ (fun y hy => by simp [low0] at hy) _ (Nat.le_refl _)
   obtain ⟨i, hi, rfl⟩ := List.getElem_of_mem hk
   obtain ⟨q0, q1, q2⟩ := hD.kid hbl _ hk
   have hkr := zu (show inI (nAt p.nodes p.nodes[f.body.toNat].kids[i]).kind 13 19 = true from yK (hD.deep _ hbl) hbl h20 i hi)
   generalize p.nodes[f.body.toNat].kids[i] = k at q0 q1 q2 hkr
   obtain ⟨m, rfl⟩ : ∃ m : Nat, k = m := ⟨k.toNat, by omega⟩
   exact zmD hD l m (by omega) (Or.inr hkr) s2
 have h2 : argsOk (low2 p l f).2 := by
   unfold low2
   split
   · rename_i h0
     obtain ⟨r0, r1⟩ := hret.resolve_left (by have := of_decide_eq_true h0; omega)
     exact zfA hD l r0 r1 _ h1
   · exact h1
 exact (zhQ _ _ _ (zcl p l _ _ _ h2)).addW (Yg _ _ _)
section
variable {P : Program} {f : FuncId}
def nilD (d d' : D) : Prop := d' = d \/ (d = .sc (.slice none 0 0) /\ ∃ e, d' = .row false e [])
def nilR (r r' : RV) : Prop := r.1 = r'.1 /\ r.2.length = r'.2.length /\ ∀ (j : Nat) (d d' : D), r.2[j]? = some d -> r'.2[j]? = some d' -> nilD d d'
def nilRs (rs rs' : List RV) : Prop := rs.length = rs'.length /\ ∀ (i : Nat) (r r' : RV), rs[i]? = some r -> rs'[i]? = some r' -> nilR r r'
theorem SoundAt.nilRs {ts : (Nat -> Value) -> List V} {ob0 : List (Nat × Ob)} {post post' : List RV -> St -> Prop} (hs : SoundAt P f ts ob0 post) (h : ∀ rs st, post rs st -> ∃ rs', nilRs rs rs' /\ post' rs' st) : SoundAt P f ts ob0 post' := by
 refine ⟨hs.1, fun uf ub C w gh us h1 h2 h3 h4 h5 h6 => (hs.2 uf ub C w gh us h1 h2 h3 h4 h5 h6).mono (fun e w' he => ?_)⟩
 obtain ⟨vs, rs, st', a', gh', G, rfl, hp, hres, hrep⟩ := he
 obtain ⟨rs', ⟨hn, hr⟩, hp'⟩ := h rs st' hp
 have back : ∀ (i : Nat) (r' : RV), rs'[i]? = some r' -> ∃ r, rs[i]? = some r /\ nilR r r' := fun i r' hi => by
   have hl : i < rs.length := by rw [hn]; exact (List.getElem?_eq_some_iff.1 hi).1
   exact ⟨rs[i], List.getElem?_eq_getElem hl, hr i _ _ (List.getElem?_eq_getElem hl) hi⟩
 have backd : ∀ {r r' : RV} (h : nilR r r') (j : Nat) (d' : D), r'.2[j]? = some d' -> ∃ d, r.2[j]? = some d /\ nilD d d' := fun {r r'} h j d' hj => by
   have hl : j < r.2.length := by rw [h.2.1]; exact (List.getElem?_eq_some_iff.1 hj).1
   exact ⟨r.2[j], List.getElem?_eq_getElem hl, h.2.2 j _ _ (List.getElem?_eq_getElem hl) hj⟩
 have hin : ZZ rs' G = ZZ rs G := by
   funext k
   apply propext
   constructor
   · rintro ⟨i, j, r', d', hi, hj, hk⟩
     obtain ⟨r, hi2, hrr⟩ := back i r' hi
     obtain ⟨d, hj2, _⟩ := backd hrr j d' hj
     exact ⟨i, j, r, d, hi2, hj2, hk⟩
   · rintro ⟨i, j, r, d, hi, hj, hk⟩
     have hl : i < rs'.length := by rw [<- hn]; exact (List.getElem?_eq_some_iff.1 hi).1
     have hrr := hr i _ _ hi (List.getElem?_eq_getElem hl)
     have hl2 : j < (rs'[i]).2.length := by rw [<- hrr.2.1]; exact (List.getElem?_eq_some_iff.1 hj).1
     exact ⟨i, j, rs'[i], (rs'[i]).2[j], List.getElem?_eq_getElem hl, List.getElem?_eq_getElem hl2, hk⟩
 refine ⟨vs, rs', st', a', gh', G, rfl, hp', ?_, by rw [hin]; exact hrep⟩
 refine ⟨by rw [<- hn]; exact hres.len, fun i r' v hi hv h1 => ?_, fun i r' v hi hv h1 => ?_, fun i r' v hi hv => ?_, hres.c1, fun i r' v j d' hi hv hj => ?_, fun i j i' j' r r' d d' k hi hj hi' hj' h1 h2 => ?_⟩
 · obtain ⟨r, hi2, hrr⟩ := back i r' hi
   exact hres.one i r v hi2 hv (by rw [hrr.1]; exact h1)
 · obtain ⟨r, hi2, hrr⟩ := back i r' hi
   exact hres.agg i r v hi2 hv (by rw [hrr.1]; exact h1)
 · obtain ⟨r, hi2, hrr⟩ := back i r' hi
   rw [hres.sz i r v hi2 hv, hrr.2.1]
 · obtain ⟨r, hi2, hrr⟩ := back i r' hi
   obtain ⟨d, hj2, hd⟩ := backd hrr j d' hj
   have how := hres.ow i r v j d hi2 hv hj2
   rcases hd with rfl | ⟨rfl, e, rfl⟩
   · exact how
   · exact how.nilr
 · obtain ⟨r0, hi2, hrr⟩ := back i r hi
   obtain ⟨d0, hj2, _⟩ := backd hrr j d hj
   obtain ⟨r1, hi3, hrr1⟩ := back i' r' hi'
   obtain ⟨d1, hj3, _⟩ := backd hrr1 j' d' hj'
   exact hres.dis i j i' j' r0 r1 d0 d1 k hi2 hj2 hi3 hj3 h1 h2
end
theorem zif (l : List VarD) {i : Nat} (h : i < l.length) : (l.map (·.ty)).take (i + 1) = (l.map (·.ty)).take i ++ [l[i].ty] := by
 rw [List.take_succ_eq_append_getElem (by simpa using h), List.getElem_map]
theorem zhP (ps : List ParamD) {j : Nat} (h : j < ps.length) (s : LowD) : parD ps (j + 1) s = parD ps j (if ps[j].ty == 2 then s.addW (in3 17 j 0) else s) := by
 conv => lhs; unfold parD
 unfold parK
 rw [show ps.getD j pd0 = ps[j] by simp [List.getD, h]]
theorem zia (p : ProgramD) (hb : yX p = true) (fn : Nat) (hfl : fn < p.fns.length) (hf : p.fns.length <= 1048576) (hn : p.nodes.length <= 1048576) (hk : ∀ x ∈ p.nodes, x.kids.length <= 1048576) (hpl : ∀ f ∈ p.fns, f.params.length <= 1048576) :
   zB Tryz.prog 41 [.ro (zb p), .ro (.sc (.int .i64 fn))] (fun rs st => rs = if xE (Zt p (zP p fn) p.fns[fn]) then [(true, zm false (Zt p (zP p fn) p.fns[fn])), (false, [cB true])] else [(true, [cS ⟨#[]⟩, cI 0, .sc (.slice none 0 0), .sc (.slice none 0 0)]), (false, [cB false])]) := by
 have hG := yz hb
 have hk3 : ∀ x ∈ p.nodes, x.kids.length <= 300 := fun x hx => by have := hG.deep.few x hx; omega
 have hD := hG.deep
 have hty := zaF p hD fn hf hn hk3 hpl
 have hlf := zfs hG fn hfl
 have hlets := zmG hG fn hfl
 have hpar := fun i (hi : i < p.fns[fn].params.length) => zfr (p := p) fn hfl hi
 obtain ⟨⟨hb0, hbl⟩, hret⟩ := xp (hG.fn fn hfl)
 have hsm := zgJ (hG.fn fn hfl)
 have h20 : (nAt p.nodes p.fns[fn].body).kind = 20 := by
   have h1 := hG.fn fn hfl
   simp only [ZW, Bool.and_eq_true, Xz] at h1
   exact eq_of_beq h1.2.2.2.2.1.2
 have hrv : 0 <= p.fns[fn].ret -> yV (nAt p.nodes p.fns[fn].ret).kind = true := fun h0 => by
   have h1 := hG.fn fn hfl
   simp only [ZW, Bool.and_eq_true, zcK] at h1
   have h2 := h1.2.2.2.2.2
   split at h2
   · have := eq_of_beq h2; omega
   · exact (Bool.and_eq_true_iff.1 h2).2
 have hx : (rows (fnC true) p.fns).getD fn [] = fnC true p.fns[fn] := zi _ _ hfl
 have hc1 : ((fn : Int) < (p.fns.length : Int)) = True := eq_true (by omega)
 have hone := zmu hb
 have hargs := zie hG (zP p fn) hfl
 generalize zP p fn = l at hty hlf hlets hpar hargs |-
 generalize p.fns[fn] = f at hargs hlets hpar hb0 hbl hret hsm h20 hrv hx |-
 obtain ⟨b, hbe⟩ : ∃ b : Nat, f.body = b := ⟨f.body.toNat, by omega⟩
 simp only [fnC, cI, cS] at hx
 rw [hbe] at hlets hbl h20 hx
 simp only [Int.toNat_natCast] at hlets hbl
 have hszb := Xa hD hone hG.few hbl
 have hnb : (rows (zg true) p.nodes).getD b [] = zg true p.nodes[b] := zi _ _ hbl
 have hcb : ((b : Int) < (p.nodes.length : Int)) = True := eq_true (by omega)
 rw [zI hbl] at h20
 have hkid := hD.kid hbl
 have hstp := yK (hD.deep b hbl) hbl h20
 have hgrow := zbj hD l hbl h20 (low0 l)
 have hszk := XN hD hbl
 have hown := hlets.own hD hbl
 have hkl : ∀ k ∈ p.nodes[b].kids, LetsIn p l k.toNat := fun k hk0 => hlets.kid hbl hk0
 have hfew := hD.few p.nodes[b] (List.getElem_mem hbl)
 have hpart := fun i (hi : i < p.nodes[b].kids.length) => zkc (z := szB p.nodes) p.nodes[b].kids hi
 have hrec : ∀ i (hi : i < p.nodes[b].kids.length), ∀ t : LowD, t.words.length + szB p.nodes p.nodes[b].kids[i] <= 1048576 -> t.locs.length + szB p.nodes p.nodes[b].kids[i] <= 1048576 -> SoundAt Tryz.prog 120 (fun uf => zq 0 [.ro (.bp 2000 0), .ro (.sc (.int .i64 p.nodes[b].kids[i]))]) [(2000, .box (lowC p l f.name f.params.length t))]
     (fun rs st => rs = [] /\ yh st.ob [(2000, .box (lowC p l f.name f.params.length (lowS p l p.nodes[b].kids[i] t)))]) := fun i hi t h1 h2 => by
   have hk2 := hstp i hi
   obtain ⟨q0, q1, q2⟩ := hkid p.nodes[b].kids[i] (List.getElem_mem hi)
   have hl2 := hkl _ (List.getElem_mem hi)
   have e : p.nodes[b].kids[i] = (p.nodes[b].kids[i].toNat : Int) := by omega
   rw [e] at h1 h2
   have := (zmS p hD l (by omega) hf hn hk3 f.name f.params.length p.nodes[b].kids[i].toNat (by omega)).1 (by rw [<- e]; exact hk2) hl2 t h1 h2
   rw [<- e] at this
   exact this
 have hdr := fun t h => zcN p hD l (by omega) hn f.name f.params.length b hbl hown t h
 have e1 : low1 p l f.body = blkS (lowS p l) p.nodes[b].kids (low0 l) := by unfold low1; rw [hbe, zI hbl]
 have e3 : low3 p l f = XI p l p.nodes[b].kids (low2 p l f).2 := by unfold low3; rw [hbe, zI hbl]
 generalize szB p.nodes (b : Int) = Zb at hszb hszk
 generalize p.nodes[b] = x at h20 hkid hstp hgrow hszk hown hkl hfew hpart hrec hdr e1 e3 hnb
 refine zt (fn := Tryz.f41) (c := Tryz.f41.body.getD .skip) (res := [.ce 4 30, .tm 5]) (n := 117) ze (by kernel_rfl) (by rfl) (by kernel_rfl) (by rfl) (by rfl) (by simp [zq]) (fun uf ub C hpin hpin2 hfull => ?_)
 simp only [Tryz.f41, Option.getD_some]
 refine Tri.step ze ?_
 simp +decide only [zb, za, lowC, vI, vB, vS, hpin, go_sem, reduceAdd, reduceMul]
 refine Tri.ent ?_ (Ent.frb hfull 2)
 refine Tri.step ze ?_
 simp +decide only [hc1, hx, fnC, Int.natCast_nonneg, zb, za, lowC, vI, vB, vS, hpin, go_sem, reduceAdd, reduceMul]
 refine Tri.ent ?_ (Ent.frb hfull 6)
 refine Tri.step ze ?_
 simp only [zb] at hty
 refine Tri.fork ze (.one 2 true (.one 4 true (.one 6 true (.one 0 true (.one 1 true (.one 5 true (.one 7 true (.one 8 true (.one 9 true (.one 3 false (.one 10 false (.one 11 false (.one 12 false .done))))))))))))) zL (by kernel_rfl) (fun C2 hC2 => ?_)
 have hp2 := zN hC2 hpin
 simp +decide only [fnC, zb, za, lowC, vI, vB, vS, hp2, hpin, go_sem, reduceAdd, reduceMul]
 refine zd hty hp2 ?_
 simp +decide only [fnC, zb, za, lowC, vI, vB, vS, hp2, hpin, go_sem, reduceAdd, reduceMul]
 refine Tri.ent ?_ (Ent.shb hfull 30)
 refine Tri.ent ?_ (Ent.nilr 30 5 3)
 refine Tri.ent ?_ (Ent.nilr 30 6 139)
 refine Tri.stop ze ⟨117, [(2, .ip (za true p) 0), (4, .bp 4 0), (6, .ip [D.sc (.string f.name), .row true 107 (rows (zE true) f.params), .sc (.int .i64 f.res), .sc (.int .i64 b), .sc (.int .i64 f.ret)] 0), (7, .bp 30 0)], [(4, .box [.sc (.string ⟨#[]⟩), .sc (.int .i64 0), .sc (.slice none 0 0), .sc (.slice none 0 0)]), (30, .box (lowC p l f.name f.params.length (low0 l)))]⟩ ?_ ?_
 · simp +decide only [zb, za, lowC, vI, vB, vS, hpin, go_sem, reduceAdd, reduceMul]
   refine Tri.loop (ι := Nat) (fun i => i <= l.length) (fun i => ⟨117, [(2, .ip (za true p) 0), (4, .bp 4 0), (6, .ip [D.sc (.string f.name), .row true 107 (rows (zE true) f.params), .sc (.int .i64 f.res), .sc (.int .i64 b), .sc (.int .i64 f.ret)] 0), (7, .bp 30 0), (34, .imm 96 (rows (varC true) l)), (35, vI l.length), (36, vI i)], [(4, .box [.sc (.string ⟨#[]⟩), .sc (.int .i64 0), .sc (.slice none 0 0), .sc (.slice none 0 0)]), (30, .box (lowC p l f.name f.params.length ⟨(l.map (·.ty)).take i, []⟩))]⟩) (fun i => l.length - i) 0 (by simp) ?_ ?_
   · refine Ent.weak ?_ ?_ ?_ ?_ <;> simp +decide [subT, subB, zl, zk, zo, St.get, look, vI, vB, vS, cI, cS, cB, zg, fnC, za, lowC, roI, rows, row1]
   · rintro i hi
     refine zf ze _ ?_
     by_cases h' : i < l.length
     · have e : ((i : Int) < (l.length : Int)) = True := by simp [h']
       have hvx : (rows (varC true) l).getD i [] = varC true l[i] := zi _ _ h'
       have hsn := XR cI ((l.map (·.ty)).take i) l[i].ty
       rw [<- zif l h'] at hsn
       have hln : ((l.map (·.ty)).take i).length = i := by simp; omega
       have hln1 : ((l.map (·.ty)).take (i + 1)).length = i + 1 := by simp; omega
       generalize l[i] = v at hvx hsn
       obtain ⟨T1, hT1⟩ : ∃ T, T = (l.map (·.ty)).take (i + 1) := ⟨_, rfl⟩
       rw [<- hT1] at hsn hln1
       generalize (l.map (·.ty)).take i = T0 at hsn hln |-
       simp only [varC, cI, cS] at hvx hsn
       have hb1 : i + 1 <= 140737488355328 := by omega
       have hb2 : (i + 1) * 8 <= 140737488355328 := by omega
       simp +decide only [e, h', hvx, Int.natCast_nonneg, vB, vI, zb, za, lowC, vI, vB, vS, hpin, go_sem, reduceAdd, reduceMul]
       refine Tri.ent ?_ (Ent.frb hfull 9)
       refine Tri.fork ze (.one 0 true (.one 1 true (.one 2 true (.one 3 true (.one 4 true (.one 6 true (.one 7 true (.two 5 (.one 8 false (.one 9 false (.one 10 false (.one 11 false (.one 12 false (.one 13 false .done)))))) 8 (.one 5 false (.one 9 false (.one 10 false (.one 11 false (.one 12 false (.one 13 false .done)))))))))))))) zL (by kernel_rfl) (fun C3 hC3 => ?_)
       have hp3 := zN hC3 hpin
       simp +decide only [hln, hln1, hb1, hb2, hsn, zb, za, lowC, vI, vB, vS, hp3, hpin, go_sem, reduceAdd, reduceMul]
       refine ⟨?_, ?_⟩
       all_goals
         refine ⟨i + 1, h', by omega, Ent.weak ?_ ?_ ?_ ?_⟩
       all_goals simp +decide [subT, subB, zl, zk, zo, St.get, look, vI, vB, vS, cI, cS, cB, zg, fnC, za, lowC, roI, <- hT1, hsn, w64s (n := l.length) h' (by omega)]
     · have hil : i = l.length := by omega
       subst hil
       have e : ((l.length : Int) < (l.length : Int)) = False := by simp
       have htt : (l.map (·.ty)).take l.length = l.map (·.ty) := by rw [List.take_of_length_le (by simp)]
       simp +decide only [e, vB, vI, zb, za, lowC, vI, vB, vS, hpin, go_sem, reduceAdd, reduceMul]
       refine Ent.weak ?_ ?_ ?_ ?_
       all_goals simp +decide [subT, subB, zl, zk, zo, St.get, look, vI, vB, vS, cI, cS, cB, zg, fnC, za, lowC, roI, low0, htt]
 have hq0 := YG (lowS p l) x.kids (low0 l)
 have hqe := YR (lowS p l) x.kids (low0 l)
 have hl0 : (low0 l).locs.length = l.length /\ (low0 l).words.length = 0 := by simp [low0]
 refine Tri.stop ze ⟨117, [(2, .ip (za true p) 0), (4, .bp 4 0), (6, .ip [D.sc (.string f.name), .row true 107 (rows (zE true) f.params), .sc (.int .i64 f.res), .sc (.int .i64 b), .sc (.int .i64 f.ret)] 0), (7, .bp 30 0)], [(4, .box [.sc (.string ⟨#[]⟩), .sc (.int .i64 0), .sc (.slice none 0 0), .sc (.slice none 0 0)]), (30, .box (lowC p l f.name f.params.length (low1 p l f.body)))]⟩ ?_ ?_
 · simp +decide only [hcb, hnb, zg, Int.natCast_nonneg, zb, za, lowC, vI, vB, vS, hpin, go_sem, reduceAdd, reduceMul]
   refine Tri.loop (ι := Nat) (fun i => i <= x.kids.length) (fun i => ⟨117, [(2, .ip (za true p) 0), (4, .bp 4 0), (6, .ip [D.sc (.string f.name), .row true 107 (rows (zE true) f.params), .sc (.int .i64 f.res), .sc (.int .i64 b), .sc (.int .i64 f.ret)] 0), (7, .bp 30 0), (60, roI x.kids), (61, vI x.kids.length), (62, vI i)], [(4, .box [.sc (.string ⟨#[]⟩), .sc (.int .i64 0), .sc (.slice none 0 0), .sc (.slice none 0 0)]), (30, .box (lowC p l f.name f.params.length (blkQ (lowS p l) x.kids i (low0 l))))]⟩) (fun i => x.kids.length - i) 0 (by simp) ?_ ?_
   · refine Ent.weak ?_ ?_ ?_ ?_ <;> simp +decide [subT, subB, zl, zk, zo, St.get, look, vI, vB, vS, cI, cS, cB, zg, fnC, za, lowC, roI, YG]
   · rintro i hi
     refine zf ze _ ?_
     obtain ⟨g1, g2, g3, g4⟩ := hgrow i hi
     by_cases h' : i < x.kids.length
     · have e : ((i : Int) < (x.kids.length : Int)) = True := by simp [h']
       have hqn := zag (lowS p l) x.kids h' (low0 l)
       have hpt := hpart i h'
       generalize blkQ (lowS p l) x.kids i (low0 l) = q at g1 g2 g3 g4 hqn |-
       have hcall := hrec i h' q (by omega) (by omega)
       rw [<- hqn] at hcall
       simp only [lowC, cI, cB] at hcall
       simp +decide only [e, h', zr _ _ h', zg, Int.natCast_nonneg, vB, vI, zb, za, lowC, vI, vB, vS, hpin, go_sem, reduceAdd, reduceMul]
       refine zw hcall hpin hfull [(2000, 30)] [] [(2000, 30)] ⟨rfl, rfl, rfl, rfl⟩ (fun uf => ?_) ?_
       · simp +decide only [zb, za, lowC, vI, vB, vS, hpin, go_sem, reduceAdd, reduceMul]
       simp +decide only [zb, za, lowC, vI, vB, vS, hpin, go_sem, reduceAdd, reduceMul]
       refine ⟨i + 1, h', by omega, Ent.weak ?_ ?_ ?_ ?_⟩
       all_goals simp +decide [subT, subB, zl, zk, zo, St.get, look, vI, vB, vS, cI, cS, cB, zg, fnC, za, lowC, roI, w64s (n := x.kids.length) h' (by omega)]
     · have hil : i = x.kids.length := by omega
       subst hil
       have e : ((x.kids.length : Int) < (x.kids.length : Int)) = False := by simp
       simp +decide only [e, vB, vI, zb, za, lowC, vI, vB, vS, hpin, go_sem, reduceAdd, reduceMul]
       refine Ent.weak ?_ ?_ ?_ ?_
       all_goals simp +decide [subT, subB, zl, zk, zo, St.get, look, vI, vB, vS, cI, cS, cB, zg, fnC, za, lowC, roI, hqe, e1]
 have hg1 := hgrow x.kids.length (by omega)
 rw [List.take_length, hqe, <- e1] at hg1
 obtain ⟨g1, g2, g3, g4⟩ := hg1
 have h2e : low2 p l f = if decide (0 <= f.ret) then lowV p l f.ret (low1 p l f.body) else (-1, low1 p l f.body) := rfl
 have hrs : (0 <= f.ret) -> SoundAt Tryz.prog 121 (fun uf => zq 0 [.ro (.bp 2000 0), .ro (.sc (.int .i64 f.ret))]) [(2000, .box (lowC p l f.name f.params.length (low1 p l f.body)))]
     (fun rs st => rs = [(false, [cI (lowV p l f.ret (low1 p l f.body)).1])] /\ yh st.ob [(2000, .box (lowC p l f.name f.params.length (lowV p l f.ret (low1 p l f.body)).2))]) := fun h0 => by
   have hv2 := hrv h0
   obtain ⟨_, hrl⟩ := hret.resolve_left (by omega)
   have hszr := Xa hD hone hG.few hrl
   have e : f.ret = (f.ret.toNat : Int) := by omega
   rw [e] at hv2 |-
   exact zcv p hD l (by omega) hf hn hk3 f.name f.params.length f.ret.toNat hrl hv2 _ (by omega) (by omega)
 have hle2 : (low1 p l f.body).le (low2 p l f).2 360000 := by
   rw [h2e]
   by_cases h0 : 0 <= f.ret
   · rw [if_pos (decide_eq_true h0)]
     obtain ⟨_, hrl⟩ := hret.resolve_left (by omega)
     have hszr := Xa hD hone hG.few hrl
     have e : f.ret = (f.ret.toNat : Int) := by omega
     rw [e]
     exact (zaZ hD l f.ret.toNat hrl _).mono hszr
   · rw [if_neg (by simpa using h0)]
     exact (LowD.le.refl _).mono (by omega)
 generalize low1 p l f.body = s1 at g1 g2 g3 g4 h2e hrs hle2 |-
 refine Tri.step ze ?_
 simp +decide only [zb, za, lowC, vI, vB, vS, hpin, go_sem, reduceAdd, reduceMul]
 refine Tri.stop ze ⟨117, [(2, .ip (za true p) 0), (4, .bp 4 0), (6, .ip [D.sc (.string f.name), .row true 107 (rows (zE true) f.params), .sc (.int .i64 f.res), .sc (.int .i64 b), .sc (.int .i64 f.ret)] 0), (7, .bp 30 0), (12, vI (low2 p l f).1)], [(4, .box [.sc (.string ⟨#[]⟩), .sc (.int .i64 0), .sc (.slice none 0 0), .sc (.slice none 0 0)]), (30, .box (lowC p l f.name f.params.length (low2 p l f).2))]⟩ ?_ ?_
 · by_cases h0 : 0 <= f.ret
   · have c0 : (0 <= f.ret) = True := eq_true h0
     rw [if_pos (decide_eq_true h0)] at h2e
     have hv := hrs h0
     rw [<- h2e] at hv
     simp only [lowC, cI] at hv
     simp +decide only [c0, ge_iff_le, zb, za, lowC, vI, vB, vS, hpin, go_sem, reduceAdd, reduceMul]
     refine zw hv hpin hfull [(2000, 30)] [] [(2000, 30)] ⟨rfl, rfl, rfl, rfl⟩ (fun uf => ?_) ?_
     · simp +decide only [zb, za, lowC, vI, vB, vS, hpin, go_sem, reduceAdd, reduceMul]
     simp +decide only [zb, za, lowC, vI, vB, vS, hpin, go_sem, reduceAdd, reduceMul]
     refine Ent.weak ?_ ?_ ?_ ?_
     all_goals simp +decide [subT, subB, zl, zk, zo, St.get, look, vI, vB, vS, cI, cS, cB, zg, fnC, za, lowC, roI]
   · have c0 : (0 <= f.ret) = False := eq_false h0
     rw [if_neg (by simpa using h0)] at h2e
     simp +decide only [c0, ge_iff_le, zb, za, lowC, vI, vB, vS, hpin, go_sem, reduceAdd, reduceMul]
     refine Ent.weak ?_ ?_ ?_ ?_
     all_goals simp +decide [subT, subB, zl, zk, zo, St.get, look, vI, vB, vS, cI, cS, cB, zg, fnC, za, lowC, roI, h2e]
 obtain ⟨k1, k2, k3, k4⟩ := hle2
 have hd3 := hdr (low2 p l f).2 (by omega)
 have hle3 := zde p l x.kids x.kids.length (low2 p l f).2
 have e3b : low3 p l f = zbg p l x.kids x.kids.length (low2 p l f).2 := e3
 rw [<- e3] at hd3
 rw [<- e3b] at hle3
 obtain ⟨m1, m2, m3, m4⟩ := hle3
 refine Tri.step ze ?_
 simp only [lowC, cI] at hd3
 simp +decide only [zb, za, lowC, vI, vB, vS, hpin, go_sem, reduceAdd, reduceMul]
 refine zw hd3 hpin hfull [(2000, 30)] [] [(2000, 30)] ⟨rfl, rfl, rfl, rfl⟩ (fun uf => ?_) ?_
 · simp +decide only [zb, za, lowC, vI, vB, vS, hpin, go_sem, reduceAdd, reduceMul]
 simp +decide only [zb, za, lowC, vI, vB, vS, hpin, go_sem, reduceAdd, reduceMul]
 have e4 : low4 p l f = parD f.params f.params.length (low3 p l f) := rfl
 have w1 : IntKind.i64.wrap ((f.params.length : Int) - 1) = (f.params.length : Int) - 1 := w64 (by omega) (by omega)
 have hle4 := zjb f.params f.params.length (low3 p l f)
 rw [<- e4] at hle4
 obtain ⟨n1, n2, n3, n4⟩ := hle4
 refine Tri.stop ze ⟨117, [(2, .ip (za true p) 0), (4, .bp 4 0), (6, .ip [D.sc (.string f.name), .row true 107 (rows (zE true) f.params), .sc (.int .i64 f.res), .sc (.int .i64 b), .sc (.int .i64 f.ret)] 0), (7, .bp 30 0), (12, vI (low2 p l f).1)], [(4, .box [.sc (.string ⟨#[]⟩), .sc (.int .i64 0), .sc (.slice none 0 0), .sc (.slice none 0 0)]), (30, .box (lowC p l f.name f.params.length (low4 p l f)))]⟩ ?_ ?_
 · simp +decide only [w1, zb, za, lowC, vI, vB, vS, hpin, go_sem, reduceAdd, reduceMul]
   refine Tri.loop (ι := Nat × LowD) (fun q => q.1 <= f.params.length /\ low4 p l f = parD f.params q.1 q.2 /\ q.2.words.length + q.1 <= 1048576) (fun q => ⟨117, [(2, .ip (za true p) 0), (4, .bp 4 0), (6, .ip [D.sc (.string f.name), .row true 107 (rows (zE true) f.params), .sc (.int .i64 f.res), .sc (.int .i64 b), .sc (.int .i64 f.ret)] 0), (7, .bp 30 0), (12, vI (low2 p l f).1), (13, vI ((q.1 : Int) - 1))], [(4, .box [.sc (.string ⟨#[]⟩), .sc (.int .i64 0), .sc (.slice none 0 0), .sc (.slice none 0 0)]), (30, .box (lowC p l f.name f.params.length q.2))]⟩) (fun q => q.1) (f.params.length, low3 p l f) ⟨by simp, e4, by simp only; omega⟩ ?_ ?_
   · refine Ent.weak ?_ ?_ ?_ ?_ <;> simp +decide [subT, subB, zl, zk, zo, St.get, look, vI, vB, vS, cI, cS, cB, zg, fnC, za, lowC, roI]
   · rintro ⟨j, t⟩ ⟨hj, hq, hw⟩
     simp only at hj hq hw |-
     refine zf ze _ ?_
     cases j with
     | zero =>
       have e : (0 <= (((0 : Nat) : Int) - 1)) = False := by simp
       have hq2 : low4 p l f = t := hq
       simp +decide only [e, ge_iff_le, vB, vI, zb, za, lowC, vI, vB, vS, hpin, go_sem, reduceAdd, reduceMul]
       refine Ent.weak ?_ ?_ ?_ ?_
       all_goals simp +decide [subT, subB, zl, zk, zo, St.get, look, vI, vB, vS, cI, cS, cB, zg, fnC, za, lowC, roI, hq2]
     | succ j =>
       have hjl : j < f.params.length := by omega
       rw [zhP f.params hjl] at hq
       have ej : (((j + 1 : Nat) : Int) - 1) = (j : Int) := by omega
       have e : (0 <= (j : Int)) = True := by simp
       obtain ⟨hjv, hpe⟩ := hpar j hjl
       have ejl : ((j : Int) < (l.length : Int)) = True := eq_true (by omega)
       have hvx : (rows (varC true) l).getD j [] = varC true (XU f.params[j]) := by rw [<- hpe]; exact zi _ _ hjv
       generalize f.params[j] = y at hvx hq
       simp only [varC, XU, cI, cS] at hvx
       have w2 : IntKind.i64.wrap ((j : Int) - 1) = (j : Int) - 1 := w64 (by omega) (by omega)
       cases h2 : y.ty == 2 with
       | false =>
         rw [h2, if_neg (by decide)] at hq
         simp +decide only [ej, e, ejl, hjv, hvx, h2, w2, ge_iff_le, Int.natCast_nonneg, vB, vI, zb, za, lowC, vI, vB, vS, hpin, go_sem, reduceAdd, reduceMul]
         refine ⟨(j, t), ⟨by show j <= _; omega, hq, by show t.words.length + j <= _; omega⟩, by show j < j + 1; omega, Ent.weak ?_ ?_ ?_ ?_⟩
         all_goals simp +decide [subT, subB, zl, zk, zo, St.get, look, vI, vB, vS, cI, cS, cB, zg, fnC, za, lowC, roI, w2]
       | true =>
         rw [h2, if_pos rfl] at hq
         have hadd := yp p l f.name f.params.length t 17 j 0 0 0 ⟨#[]⟩ (by omega)
         simp only [lowC, cI] at hadd
         simp +decide only [ej, e, ejl, hjv, hvx, h2, w2, ge_iff_le, Int.natCast_nonneg, vB, vI, zb, za, lowC, vI, vB, vS, hpin, go_sem, reduceAdd, reduceMul]
         refine zw hadd hpin hfull [(2000, 30)] [] [(2000, 30)] ⟨rfl, rfl, rfl, rfl⟩ (fun uf => ?_) ?_
         · simp +decide only [zb, za, lowC, vI, vB, vS, hpin, go_sem, reduceAdd, reduceMul]
         simp +decide only [w2, LowD.addW, zb, za, lowC, vI, vB, vS, hpin, go_sem, reduceAdd, reduceMul]
         refine ⟨(j, t.addW (in3 17 j 0)), ⟨by show j <= _; omega, hq, by show (t.words ++ [_]).length + j <= _; rw [List.length_append, List.length_singleton]; omega⟩, by show j < j + 1; omega, Ent.weak ?_ ?_ ?_ ?_⟩
         all_goals simp +decide [subT, subB, zl, zk, zo, St.get, look, vI, vB, vS, cI, cS, cB, zg, fnC, za, lowC, roI, LowD.addW, in3, w2]
 have e5 : low5 p l f = (low4 p l f).addW (in3 20 (low2 p l f).1 0) := rfl
 have hadd : SoundAt Tryz.prog 123 (fun uf => zq 0 [.ro (.bp 2000 0), .ro (.agg [.sc (.int .i64 20), .sc (.int .i64 (low2 p l f).1), .sc (.int .i64 0), .sc (.int .i64 0), .sc (.int .i64 0), .sc (.string ⟨#[]⟩), .sc (.slice none 0 0)])]) [(2000, .box (lowC p l f.name f.params.length (low4 p l f)))]
     (fun rs st => rs = [(false, [cI (low4 p l f).words.length])] /\ yh st.ob [(2000, .box (lowC p l f.name f.params.length (low5 p l f)))]) := by rw [e5]; exact yp p l f.name f.params.length (low4 p l f) 20 (low2 p l f).1 0 0 0 ⟨#[]⟩ (by omega)
 have hl5 : (low5 p l f).locs.length <= 1048576 /\ (low5 p l f).words.length <= 1048576 := by
   rw [e5]
   simp only [LowD.addW, List.length_append, List.length_singleton]
   omega
 have hck := zjM (Zt p l f) hl5.1 hl5.2 (fun y hy => by have := hargs y hy; omega)
 have hcw : zx (Zt p l f) = .agg [.sc (.string f.name), .sc (.int .i64 f.params.length), .imm 3 (row1 cI (low5 p l f).locs), .imm 139 (rows (insC true) (low5 p l f).words)] := rfl
 rw [hcw] at hck
 have hcc : zm false (Zt p l f) = [cS f.name, cI f.params.length, .row false 3 (row1 cI (low5 p l f).locs), .row false 139 (rows (insC false) (low5 p l f).words)] := rfl
 rw [hcc]
 generalize low5 p l f = s5 at hadd hck hl5 |-
 simp only [lowC, cI] at hadd
 refine Tri.step ze ?_
 simp +decide only [zb, za, lowC, vI, vB, vS, hpin, go_sem, reduceAdd, reduceMul]
 refine zw hadd hpin hfull [(2000, 30)] [] [(2000, 30)] ⟨rfl, rfl, rfl, rfl⟩ (fun uf => ?_) ?_
 · simp +decide only [zb, za, lowC, vI, vB, vS, hpin, go_sem, reduceAdd, reduceMul]
 simp +decide only [zb, za, lowC, vI, vB, vS, hpin, go_sem, reduceAdd, reduceMul]
 refine Tri.step ze ?_
 simp +decide only [zb, za, lowC, vI, vB, vS, hpin, go_sem, reduceAdd, reduceMul]
 have hta : List.take s5.locs.length (row1 cI s5.locs) = row1 cI s5.locs := yL cI s5.locs
 have htb : List.take s5.words.length (rows (insC false) s5.words) = rows (insC false) s5.words := yq (insC false) s5.words
 refine zd hck hpin ?_
 cases hok : xE (Zt p l f) with
 | false =>
   simp +decide only [hta, htb, zb, za, lowC, vI, vB, vS, hpin, go_sem, reduceAdd, reduceMul]
 | true =>
   simp +decide only [hta, htb, zb, za, lowC, vI, vB, vS, hpin, go_sem, reduceAdd, reduceMul]
   refine zf ze _ ?_
   simp +decide only [hta, htb, zb, za, lowC, vI, vB, vS, hpin, go_sem, reduceAdd, reduceMul]
theorem zdQ (d : D) : nilD d d := Or.inl rfl
theorem zdP (r : RV) : nilR r r := ⟨rfl, rfl, fun j d d' h1 h2 => by rw [h1] at h2; cases h2; exact zdQ _⟩
theorem zgY (b : Bool) : nilRs [(true, [cS ⟨#[]⟩, cI 0, .sc (.slice none 0 0), .sc (.slice none 0 0)]), (false, [cB b])] [(true, zm false ⟨⟨#[]⟩, 0, [], []⟩), (false, [cB b])] := by
 refine ⟨rfl, fun i r r' h1 h2 => ?_⟩
 match i with
 | 0 =>
   simp only [List.getElem?_cons_zero, Option.some.injEq] at h1 h2
   subst h1 h2
   refine ⟨rfl, rfl, fun j d d' g1 g2 => ?_⟩
   match j with
   | 0 => simp [zm] at g1 g2; subst g1 g2; exact zdQ _
   | 1 => simp [zm] at g1 g2; subst g1 g2; exact zdQ _
   | 2 => simp [zm] at g1 g2; subst g1 g2; exact Or.inr ⟨rfl, 3, rfl⟩
   | 3 => simp [zm] at g1 g2; subst g1 g2; exact Or.inr ⟨rfl, 139, rfl⟩
   | j + 4 => simp at g1
 | 1 =>
   simp only [List.getElem?_cons_succ, List.getElem?_cons_zero, Option.some.injEq] at h1 h2
   subst h1 h2
   exact zdP _
 | i + 2 => simp at h1
theorem zeb (p : ProgramD) (l : List VarD) (f : FnD) {P : Program} {fid : FuncId} {gs : List Arg} (h : zB P fid gs (fun rs st => rs = if xE (Zt p l f) then [(true, zm false (Zt p l f)), (false, [cB true])] else [(true, [cS ⟨#[]⟩, cI 0, .sc (.slice none 0 0), .sc (.slice none 0 0)]), (false, [cB false])])) :
   zB P fid gs (fun rs st => rs = [(true, zm false (Yx p l f)), (false, [cB (xE (Zt p l f))])]) := by
 refine SoundAt.nilRs h (fun rs st hr => ⟨_, ?_, rfl⟩)
 rw [hr]
 unfold Yx
 cases hok : xE (Zt p l f) with
 | true =>
   simp only [if_true]
   exact ⟨rfl, fun i r r' h1 h2 => by rw [h1] at h2; cases h2; exact zdP _⟩
 | false =>
   simp only [Bool.false_eq_true, if_false]
   exact zgY false
theorem zaK (p : ProgramD) (hb : yX p = true) (fn : Nat) (hfl : fn < p.fns.length) (hf : p.fns.length <= 1048576) (hn : p.nodes.length <= 1048576) (hk : ∀ x ∈ p.nodes, x.kids.length <= 1048576) (hpl : ∀ f ∈ p.fns, f.params.length <= 1048576) :
   zB Tryz.prog 41 [.ro (zb p), .ro (.sc (.int .i64 fn))] (fun rs st => rs = [(true, zm false (Yx p (zP p fn) p.fns[fn])), (false, [cB (xE (Zt p (zP p fn) p.fns[fn]))])]) :=
 zeb p (zP p fn) p.fns[fn] (zia p hb fn hfl hf hn hk hpl)
theorem zrA : fo Tryz.prog 134 0 = some 0 := by kernel_rfl
theorem zrz : fo Tryz.prog 134 1 = some 2 := by kernel_rfl
theorem zry : fo Tryz.prog 134 2 = some 3 := by kernel_rfl
theorem rLoS : isR Tryz.prog 134 = some true := by kernel_rfl
theorem sLoS : szT Tryz.prog 134 = 7 := by kernel_rfl
theorem zLoS : zeroCells Tryz.prog 134 = some [.slice none 0 0, .slice none 0 0, .slice none 0 0, .string ⟨#[]⟩, .int .i64 0, .slice none 0 0, .slice none 0 0] := by kernel_rfl
theorem zrr : Zo Tryz.prog 134 = some [(0, 2), (2, 1), (3, 4)] := by kernel_rfl
attribute [go_sem] zrA zrz zry rLoS sLoS zLoS zrr
theorem zdo (p : ProgramD) (l : List VarD) (nm : ByteArray) (pn : Int) (s : LowD) (t : Int) (hw : s.locs.length <= 1048575) : SoundAt Tryz.prog 108 (fun uf => zq 0 [.ro (.bp 2000 0), .ro (.sc (.int .i64 t))]) [(2000, .box (lowC p l nm pn s))]
   (fun rs st => rs = [(false, [cI s.locs.length])] /\ yh st.ob [(2000, .box (lowC p l nm pn (s.addL t)))]) := by
 have hb1 : s.locs.length + 1 <= 140737488355328 := by omega
 have hb2 : (s.locs.length + 1) * 8 <= 140737488355328 := by omega
 have hsn := XR cI s.locs t
 simp only [cI] at hsn
 have w1 : IntKind.i64.wrap (((s.locs.length + 1 : Nat) : Int) - 1) = s.locs.length := by rw [show (((s.locs.length + 1 : Nat) : Int) - 1) = s.locs.length by omega]; exact w64 (by omega) (by omega)
 unfold LowD.addL
 refine zt (fn := Tryz.f108) (c := Tryz.f108.body.getD .skip) (res := [.tm 4]) (n := 24) ze (by kernel_rfl) (by rfl) (by kernel_rfl) (by rfl) (by rfl) (by simp [zq]) (fun uf ub C hpin hpin2 hfull => ?_)
 simp only [Tryz.f108, Option.getD_some]
 refine Tri.step ze ?_
 simp +decide only [zb, za, lowC, hpin, hpin2, go_sem, reduceAdd, reduceMul]
 refine Tri.step ze ?_
 simp +decide only [hb1, hb2, hsn, zb, za, lowC, hpin, hpin2, go_sem, reduceAdd, reduceMul]
 refine zf ze _ ?_
 simp +decide only [w1, zb, za, lowC, hpin, hpin2, go_sem, reduceAdd, reduceMul]
theorem zlA (p : ProgramD) (l : List VarD) (nm : ByteArray) (pn : Int) (s : LowD) (x : InsD) (hw : s.words.length <= 1048575) : SoundAt Tryz.prog 112 (fun uf => zq 0 [.ro (.bp 2000 0), .ro (.agg [.sc (.int .i64 x.op), .sc (.int .i64 x.a), .sc (.int .i64 x.b), .sc (.int .i64 x.c), .sc (.int .i64 x.num), .sc (.string x.name), .ref 2001 [] x.args.length])]) [(2001, .row 3 (row1 cI x.args)), (2000, .box (lowC p l nm pn s))]
   (fun rs st => rs = [(false, [cI s.words.length])] /\ yh st.ob [(2000, .box (lowC p l nm pn (s.addW x)))]) := by
 have hb1 : s.words.length + 1 <= 140737488355328 := by omega
 have hb2 : (s.words.length + 1) * 80 <= 140737488355328 := by omega
 have hsn := zdc s.words x
 have w1 : IntKind.i64.wrap (((s.words.length + 1 : Nat) : Int) - 1) = s.words.length := by rw [show (((s.words.length + 1 : Nat) : Int) - 1) = s.words.length by omega]; exact w64 (by omega) (by omega)
 unfold LowD.addW
 refine zt (fn := Tryz.f112) (c := Tryz.f112.body.getD .skip) (res := [.tm 4]) (n := 24) ze (by kernel_rfl) (by rfl) (by kernel_rfl) (by rfl) (by rfl) (by simp [zq]) (fun uf ub C hpin hpin2 hfull => ?_)
 simp only [Tryz.f112, Option.getD_some]
 refine Tri.step ze ?_
 simp +decide only [zb, za, lowC, hpin, hpin2, go_sem, reduceAdd, reduceMul]
 refine Tri.step ze ?_
 refine Tri.fork ze (.one 0 true (.one 1 true (.one 2 true (.one 3 true (.one 4 true (.two 5 (.one 6 false (.one 7 false (.one 8 false (.one 9 false (.one 10 false (.one 11 false (.one 12 false .done))))))) 6 (.two 5 (.one 7 false (.one 8 false (.one 9 false (.one 10 false (.one 11 false (.one 12 false .done)))))) 7 (.one 5 false (.one 8 false (.one 9 false (.one 10 false (.one 11 false (.one 12 false .done)))))))))))))  zL (by kernel_rfl) (fun C2 hC2 => ?_)
 have hp2 := zN hC2 hpin
 simp +decide only [hb1, hb2, hsn, zb, za, lowC, hp2, hpin, hpin2, go_sem, reduceAdd, reduceMul]
 refine ⟨?_, ?_, ?_⟩ <;> refine zf ze _ ?_
 all_goals simp +decide only [w1, zb, za, lowC, hpin, hpin2, go_sem, reduceAdd, reduceMul]
theorem Zj (p : ProgramD) (l : List VarD) (nm : ByteArray) (pn : Int) (s : LowD) (op a b c num : Int) (name : ByteArray) (hw : s.words.length <= 1048575) : SoundAtN Tryz.prog 112 (fun uf => zq 0 [.ro (.bp 2000 0), .ro (.agg [.sc (.int .i64 op), .sc (.int .i64 a), .sc (.int .i64 b), .sc (.int .i64 c), .sc (.int .i64 num), .sc (.string name), .sc (.slice none 0 0)])]) [(2000, .box (lowC p l nm pn s))]
   (fun rs st => rs = [(false, [cI s.words.length])] /\ yh st.ob [(2000, .box (lowC p l nm pn (s.addW ⟨op, a, b, c, num, name, []⟩)))]) := by
 have hb1 : s.words.length + 1 <= 140737488355328 := by omega
 have hb2 : (s.words.length + 1) * 80 <= 140737488355328 := by omega
 have hsn := zdc s.words ⟨op, a, b, c, num, name, []⟩
 have hnil : row1 cI [] = [] := rfl
 simp only [hnil] at hsn
 have w1 : IntKind.i64.wrap (((s.words.length + 1 : Nat) : Int) - 1) = s.words.length := by rw [show (((s.words.length + 1 : Nat) : Int) - 1) = s.words.length by omega]; exact w64 (by omega) (by omega)
 unfold LowD.addW
 refine zkT (fn := Tryz.f112) (c := Tryz.f112.body.getD .skip) (res := [.tm 4]) (n := 24) ze (by kernel_rfl) (by rfl) (by kernel_rfl) (by rfl) (by rfl) (by simp [zq]) (fun uf ub C hpin hpin2 => ?_)
 simp only [Tryz.f112, Option.getD_some]
 refine Tri.step ze ?_
 simp +decide only [zb, za, lowC, hpin, hpin2, go_sem, reduceAdd, reduceMul]
 refine Tri.ent ?_ (Ent.nilr 3 6 3)
 refine Tri.step ze ?_
 refine Tri.fork ze (.one 0 true (.one 1 true (.one 2 true (.one 3 true (.one 4 true (.two 5 (.one 6 false (.one 7 false (.one 8 false (.one 9 false (.one 10 false (.one 11 false (.one 12 false .done))))))) 6 (.two 5 (.one 7 false (.one 8 false (.one 9 false (.one 10 false (.one 11 false (.one 12 false .done)))))) 7 (.one 5 false (.one 8 false (.one 9 false (.one 10 false (.one 11 false (.one 12 false .done)))))))))))))  zL (by kernel_rfl) (fun C2 hC2 => ?_)
 have hp2 := zN hC2 hpin
 simp +decide only [hb1, hb2, hsn, zb, za, lowC, hp2, hpin, hpin2, go_sem, reduceAdd, reduceMul]
 refine ⟨?_, ?_, ?_⟩ <;> refine zf ze _ ?_
 all_goals simp +decide only [w1, zb, za, lowC, hpin, hpin2, go_sem, reduceAdd, reduceMul]
theorem yG (p : ProgramD) (l : List VarD) (nm : ByteArray) (pn : Int) (s : LowD) (op a b c num : Int) (name : ByteArray) (hw : s.words.length <= 1048575) : SoundAt Tryz.prog 112 (fun uf => zq 0 [.ro (.bp 2000 0), .ro (.agg [.sc (.int .i64 op), .sc (.int .i64 a), .sc (.int .i64 b), .sc (.int .i64 c), .sc (.int .i64 num), .sc (.string name), .sc (.slice none 0 0)])]) [(2000, .box (lowC p l nm pn s))]
   (fun rs st => rs = [(false, [cI s.words.length])] /\ yh st.ob [(2000, .box (lowC p l nm pn (s.addW ⟨op, a, b, c, num, name, []⟩)))]) := (Zj p l nm pn s op a b c num name hw).at
def zjV (p : ProgramD) (l : List VarD) (n : Nat) : Prop := ye p l n ≠ 0 \/ ((nAt p.nodes n).kind = 12 /\ ZP (ye p l) p (nAt p.nodes n) = true)
theorem zni {p : ProgramD} (hG : Right p) {T : Int -> Int} {x : NodeD} (h : ZP T p x = true) : ∀ k ∈ x.kids, T k ≠ 0 := fun k hk => by
 unfold ZP at h
 rw [Bool.and_eq_true, Bool.and_eq_true] at h
 obtain ⟨h0, h1, h2⟩ := h
 have h0 := of_decide_eq_true h0
 have h1 := eq_of_beq h1
 obtain ⟨i, hi, rfl⟩ := List.getElem_of_mem hk
 have h3 := eq_of_beq (yN.1 h2 i hi)
 rw [show x.kids.getD i 0 = x.kids[i] by simp [List.getD, hi]] at h3
 rw [h3]
 have hrg := ZA x.name p.fns 0
 have hfe : xJ p.fns x.name = zbf x.name p.fns 0 := rfl
 rw [<- hfe] at hrg
 obtain ⟨k, hke⟩ : ∃ k : Nat, xJ p.fns x.name = k := ⟨(xJ p.fns x.name).toNat, by omega⟩
 rw [hke] at hrg h1 |-
 have hkl : k < p.fns.length := by omega
 rw [yE hkl] at h1 |-
 have hok := hG.fn k hkl
 simp only [ZW, Bool.and_eq_true, List.all_eq_true, ZJ] at hok
 have hil : i < p.fns[k].params.length := by omega
 have h5 := zu (hok.2.2.2.1 p.fns[k].params[i] (List.getElem_mem hil)).2
 unfold prTy
 have : (p.fns[k].params.map (fun x => x.ty)).getD i 0 = p.fns[k].params[i].ty := by simp [List.getD, hil]
 rw [this]
 omega
theorem zmV {p : ProgramD} (hG : Right p) (l : List VarD) {n : Nat} (hn : n < p.nodes.length) (hval : yV p.nodes[n].kind = true) (hg : zjV p l n) : ∀ k ∈ p.nodes[n].kids, ye p l k ≠ 0 := fun k hk => by
 have hsh := zZ (hG.deep.deep n hn) hn
 have hr := zu (show inI p.nodes[n].kind 1 12 = true from hval)
 unfold zjV at hg
 rw [zI hn, zgd hG.deep l hn] at hg
 have hsr := zu hsh
 have hcall : ZP (ye p l) p p.nodes[n] = true -> ye p l k ≠ 0 := fun h => zni hG h k hk
 generalize p.nodes[n] = x at hk hsh hr hg hsr hcall
 have one : ∀ {i : Nat} (hi : i < x.kids.length), x.kids.getD i 0 = x.kids[i] := fun {i} hi => by simp [List.getD, hi]
 rcases (show x.kind = 1 \/ x.kind = 2 \/ x.kind = 3 \/ x.kind = 4 \/ x.kind = 5 \/ x.kind = 6 \/ x.kind = 7 \/ x.kind = 8 \/ x.kind = 9 \/ x.kind = 10 \/ x.kind = 11 \/ x.kind = 12 by omega) with h | h | h | h | h | h | h | h | h | h | h | h
 iterate 7
   · exfalso
     have h0 : (zA x.kind).2 = 0 := by rw [h]; decide
     have : 0 < x.kids.length := List.length_pos_of_mem hk
     omega
 · -- 8
   rw [h] at hsr hg
   simp [zA] at hsr
   obtain ⟨i, hi, rfl⟩ := List.getElem_of_mem hk
   have hi0 : i = 0 := by omega
   subst hi0
   rcases hg with hg | hg
   · unfold zeT at hg
     rw [h] at hg
     simp at hg
     rw [show x.kids[0]?.getD 0 = x.kids[0] by simp [hi]] at hg
     intro hz; rw [hz] at hg; simp at hg
   · simp at hg
 iterate 3
   · rw [h] at hsr hg
     simp [zA] at hsr
     rcases hg with hg | hg
     · unfold zeT at hg
       rw [h] at hg
       simp at hg
       obtain ⟨i, hi, rfl⟩ := List.getElem_of_mem hk
       have h01 : i = 0 \/ i = 1 := by omega
       have g0 : x.kids[0]?.getD 0 = x.kids[0] := by simp [show 0 < x.kids.length by omega]
       have g1 : x.kids[1]?.getD 0 = x.kids[1] := by simp [show 1 < x.kids.length by omega]
       rw [g0, g1] at hg
       rcases h01 with rfl | rfl
       · intro hz; rw [hz] at hg; simp at hg
       · intro hz; rw [hz] at hg; simp at hg
     · simp at hg
 · -- 12
   rcases hg with hg | ⟨_, hg⟩
   · unfold zeT at hg
     rw [h] at hg
     simp at hg
     exact hcall hg.1
   · exact hcall hg
def op12 (k : Int) : Int := if k == 1 then 1 else if k == 2 then 12 else if k == 12 then 12 else k + 1
theorem zpk (l : List VarD) (x : NodeD) (t to : Int) (a : List Int) (h : 1 <= x.kind /\ x.kind <= 11) (h2 : x.kind ≠ 2) (hs : inI x.kids.length (zA x.kind).1 (zA x.kind).2 = true) (hnum : zdM x = true) (hnam : YL x = true) :
   (x.kids.length = 0 /\ x.name = ⟨#[]⟩ /\ opI l x t to a = ⟨op12 x.kind, to, 0, 0, x.num, ⟨#[]⟩, []⟩) \/
   (x.kids.length = 0 /\ ¬ x.name = ⟨#[]⟩ /\ opI l x t to a = ⟨op12 x.kind, to, yg l x.name, 0, x.num, ⟨#[]⟩, []⟩) \/
   (x.kids.length = 1 /\ x.name = ⟨#[]⟩ /\ opI l x t to a = ⟨op12 x.kind, to, a.getD 0 0, 0, x.num, ⟨#[]⟩, []⟩) \/
   (x.kids.length = 2 /\ x.name = ⟨#[]⟩ /\ opI l x t to a = ⟨op12 x.kind, to, a.getD 0 0, a.getD 1 0, x.num, ⟨#[]⟩, []⟩) := by
 have hsr := zu hs
 have hne : ZM x.name = true -> ¬ x.name = ⟨#[]⟩ := fun hh e => by rw [e] at hh; revert hh; decide
 unfold opI op12
 unfold zdM at hnum
 unfold YL at hnam
 rcases (show x.kind = 1 \/ x.kind = 3 \/ x.kind = 4 \/ x.kind = 5 \/ x.kind = 6 \/ x.kind = 7 \/ x.kind = 8 \/ x.kind = 9 \/ x.kind = 10 \/ x.kind = 11 by omega) with hk | hk | hk | hk | hk | hk | hk | hk | hk | hk
 all_goals
   rw [hk] at hsr hnum hnam |-
   simp [zA] at hsr
   simp [yo, inI] at hnum hnam |-
 · exact Or.inl ⟨by omega, hnam⟩
 · exact Or.inr (Or.inl ⟨by omega, hne hnam, hnum.symm⟩)
 · exact Or.inr (Or.inl ⟨by omega, hne hnam, hnum.symm⟩)
 · exact Or.inr (Or.inl ⟨by omega, hne hnam, hnum.symm⟩)
 · exact Or.inr (Or.inl ⟨by omega, hne hnam, hnum.symm⟩)
 · exact Or.inl ⟨by omega, hnam, hnum.symm⟩
 · exact Or.inr (Or.inr (Or.inl ⟨by omega, hnam, hnum.symm⟩))
 · exact Or.inr (Or.inr (Or.inr ⟨by omega, hnam, hnum.symm⟩))
 · exact Or.inr (Or.inr (Or.inr ⟨by omega, hnam, hnum.symm⟩))
 · exact Or.inr (Or.inr (Or.inr ⟨by omega, hnam, hnum.symm⟩))
theorem zfy (k : Int) (h : 1 <= k /\ k <= 11) : zB Tryz.prog 171 [.ro (.sc (.int .i64 k))] (fun rs st => rs = [(false, [cI (op12 k)])]) := by
 refine zn (fn := Tryz.f171) (c := Tryz.f171.body.getD .skip) (res := [.tm 2]) (n := 22) ze (by kernel_rfl) (by rfl) (by kernel_rfl) (by rfl) (by rfl) (by simp [zq]) (fun C hpin hfull => ?_)
 rcases (show k = 1 \/ k = 2 \/ k = 3 \/ k = 4 \/ k = 5 \/ k = 6 \/ k = 7 \/ k = 8 \/ k = 9 \/ k = 10 \/ k = 11 by omega) with hk | hk | hk | hk | hk | hk | hk | hk | hk | hk | hk
 all_goals
   subst hk
   simp +decide only [Tryz.f171, op12, Int.reduceBEq, Int.reduceAdd, zb, za, lowC, hpin, go_sem, reduceAdd, reduceMul]
def zns (p : ProgramD) (l : List VarD) (nm : ByteArray) (pn : Int) (n : Nat) : Prop := yV (nAt p.nodes n).kind = true -> zjV p l n -> ∀ s : LowD, s.words.length + szB p.nodes n <= 1048576 -> s.locs.length + szB p.nodes n <= 1048576 ->
   SoundAt Tryz.prog 110 (fun uf => zq 0 [.ro (.bp 2000 0), .ro (.sc (.int .i64 n))]) [(2000, .box (lowC p l nm pn s))]
     (fun rs st => rs = [(false, [cI (lowV p l n s).1])] /\ yh st.ob [(2000, .box (lowC p l nm pn (lowV p l n s).2))])
theorem zlR (p : ProgramD) (hG : Right p) (l : List VarD) (hl : l.length <= 4194304) (hf : p.fns.length <= 1048576) (hn : p.nodes.length <= 1048576) (hk : ∀ x ∈ p.nodes, x.kids.length <= 300) (nm : ByteArray) (pn : Int) (n : Nat) (hnl : n < p.nodes.length) (ih : ∀ m, m < n -> zns p l nm pn m) : zns p l nm pn n := by
 have hD := hG.deep
 intro hval hgv s hs1 hs2
 rw [zI hnl] at hval
 have hgk := zmV hG l hnl hval hgv
 have hkid := hD.kid hnl
 have hkx := hk p.nodes[n] (List.getElem_mem hnl)
 have heq := zdY hD l hnl s
 have hsz := XN hD hnl
 have hsh := zZ (hD.deep n hnl) hnl
 have hx : (rows (zg true) p.nodes).getD n [] = zg true p.nodes[n] := zi _ _ hnl
 obtain ⟨v20, v16, v17, v19, v14, v15, v13⟩ := zhb hval
 have hty := Yr p hD l hl hf hn hk n hnl
 simp only [zb, za] at hty
 have hgrow := zgC (V := lowV p l) (z := szB p.nodes) p.nodes[n].kids (fun k hk2 s2 => by
   obtain ⟨q0, q1, q2⟩ := hkid k hk2
   obtain ⟨m, rfl⟩ : ∃ m : Nat, k = m := ⟨k.toNat, by omega⟩
   exact zaZ hD l m (by omega) s2) s
 have hpart : ∀ i (hi : i < p.nodes[n].kids.length), sumN (szB p.nodes) (p.nodes[n].kids.take i) + szB p.nodes p.nodes[n].kids[i] <= sumN (szB p.nodes) p.nodes[n].kids := fun i hi => by
   have h1 := xN (szB p.nodes) p.nodes[n].kids (i + 1)
   rw [List.take_succ_eq_append_getElem hi, YI] at h1
   have : sumN (szB p.nodes) [p.nodes[n].kids[i]] = szB p.nodes p.nodes[n].kids[i] := by simp [sumN]
   omega
 have hrec : ∀ i (hi : i < p.nodes[n].kids.length), ∀ t : LowD, t.words.length + szB p.nodes p.nodes[n].kids[i] <= 1048576 -> t.locs.length + szB p.nodes p.nodes[n].kids[i] <= 1048576 -> SoundAt Tryz.prog 110 (fun uf => zq 0 [.ro (.bp 2000 0), .ro (.sc (.int .i64 p.nodes[n].kids[i]))]) [(2000, .box (lowC p l nm pn t))]
     (fun rs st => rs = [(false, [cI (lowV p l p.nodes[n].kids[i] t).1])] /\ yh st.ob [(2000, .box (lowC p l nm pn (lowV p l p.nodes[n].kids[i] t).2))]) := fun i hi t h1 h2 => by
   have hft := yP (hD.deep n hnl) hnl hi
   unfold yD at hft
   rw [v20, v16, v17, v19] at hft
   have hv2 : yV (nAt p.nodes p.nodes[n].kids[i]).kind = true := hft
   obtain ⟨q0, q1, q2⟩ := hkid p.nodes[n].kids[i] (List.getElem_mem hi)
   have e : p.nodes[n].kids[i] = (p.nodes[n].kids[i].toNat : Int) := by omega
   rw [e] at h1 h2
   have hgi := hgk p.nodes[n].kids[i] (List.getElem_mem hi)
   have := ih p.nodes[n].kids[i].toNat q2 (by rw [<- e]; exact hv2) (Or.inl (by rw [<- e]; exact hgi)) t h1 h2
   rw [<- e] at this
   exact this
 have hc1 : ((n : Int) < (p.nodes.length : Int)) = True := eq_true (by omega)
 have hbn := XD p.nodes n (hD.deep n hnl)
 simp only [YV, Bool.and_eq_true, zbA] at hbn
 obtain ⟨_, _, _, hnum, hnam, _⟩ := hbn
 rw [zI hnl] at hnum hnam
 unfold zjV at hgv
 rw [zI hnl] at hgv
 generalize lowV p l n s = R at heq |-
 generalize ye p l n = ty at heq hty hgv
 generalize szB p.nodes n = Z at hs1 hs2 hsz
 generalize p.nodes[n] = x at hgk hnum hnam hgv hkid hkx heq hx hval v20 v16 v17 v19 v14 v15 v13 hrec hsz hsh hgrow hpart
 have hq0 := zbG (lowV p l) x.kids s
 have hqe := zda (lowV p l) x.kids s
 refine zt (fn := Tryz.f110) (c := Tryz.f110.body.getD .skip) (res := [.tm 4]) (n := 118) ze (by kernel_rfl) (by rfl) (by kernel_rfl) (by rfl) (by rfl) (by simp [zq]) (fun uf ub C hpin hpin2 hfull => ?_)
 simp only [Tryz.f110, Option.getD_some]
 refine Tri.step ze ?_
 simp +decide only [zb, za, lowC, vI, vB, vS, hpin, hpin2, go_sem, reduceAdd, reduceMul]
 refine Tri.step ze ?_
 simp +decide only [hc1, hx, zg, Int.natCast_nonneg, zb, za, lowC, vI, vB, vS, hpin, hpin2, go_sem, reduceAdd, reduceMul]
 refine Tri.ent ?_ (Ent.frb hfull 5)
 refine Tri.step ze ?_
 simp +decide only [zb, za, lowC, vI, vB, vS, hpin, hpin2, go_sem, reduceAdd, reduceMul]
 refine Tri.stop ze ⟨118, [(0, .bp 2000 0), (1, vI n), (5, .ip (zg true x) 0), (6, .ref 6 [] x.kids.length)], [(6, .row 3 (row1 cI (zgB (lowV p l) x.kids s).1)), (2000, .box (lowC p l nm pn (zgB (lowV p l) x.kids s).2))]⟩ ?_ ?_
 · simp +decide only [zg, zb, za, lowC, vI, vB, vS, hpin, hpin2, go_sem, reduceAdd, reduceMul]
   refine Tri.loop (ι := Nat) (fun i => i <= x.kids.length) (fun i => ⟨118, [(0, .bp 2000 0), (1, vI n), (5, .ip (zg true x) 0), (6, .ref 6 [] i), (7, vI i)], [(6, .row 3 (row1 cI (kidQ (lowV p l) x.kids i s).1)), (2000, .box (lowC p l nm pn (kidQ (lowV p l) x.kids i s).2))]⟩) (fun i => x.kids.length - i) 0 (by simp) ?_ ?_
   · refine Ent.weak ?_ ?_ ?_ ?_ <;> simp +decide [subT, subB, zl, zk, zo, St.get, look, vI, vB, vS, cI, cS, cB, zg, za, lowC, roI, zbG, row1]
   · rintro i hi
     refine zf ze _ ?_
     have hql := zbH (lowV p l) x.kids s i hi
     obtain ⟨g1, g2, g3, g4⟩ := hgrow i hi
     by_cases h' : i < x.kids.length
     · have e : ((i : Int) < (x.kids.length : Int)) = True := by simp [h']
       have hqn := XY (lowV p l) x.kids h' s
       have hpt := hpart i h'
       generalize kidQ (lowV p l) x.kids i s = q at hql g1 g2 g3 g4 hqn |-
       obtain ⟨ql, qs⟩ := q
       simp only at hql g1 g2 g3 g4 hqn |-
       have hcall := hrec i h' qs (by omega) (by omega)
       unfold kidP at hqn
       simp only at hqn
       generalize lowV p l x.kids[i] qs = r at hqn hcall
       obtain ⟨ra, rs⟩ := r
       simp only at hqn hcall
       simp only [lowC, cI, cB] at hcall
       have hb1 : i + 1 <= 140737488355328 := by omega
       have hb2 : (i + 1) * 8 <= 140737488355328 := by omega
       have hsn := XR cI ql ra
       simp only [cI] at hsn
       simp +decide only [e, h', hql, zr _ _ h', zg, Int.natCast_nonneg, zb, za, lowC, vI, vB, vS, hpin, hpin2, go_sem, reduceAdd, reduceMul]
       refine zw hcall hpin hfull [(2000, 2000)] [] [(2000, 2000)] ⟨rfl, rfl, rfl, rfl⟩ (fun uf => ?_) ?_
       · simp +decide only [zb, za, lowC, vI, vB, vS, hpin, hpin2, go_sem, reduceAdd, reduceMul]
       simp +decide only [hql, hb1, hb2, hsn, zb, za, lowC, vI, vB, vS, hpin, hpin2, go_sem, reduceAdd, reduceMul]
       refine ⟨i + 1, h', by omega, Ent.weak ?_ ?_ ?_ ?_⟩
       all_goals simp +decide [subT, subB, zl, zk, zo, St.get, look, vI, vB, vS, cI, cS, cB, zg, za, lowC, roI, hqn, hsn, hql, w64s (n := x.kids.length) h' (by omega)]
     · have hil : i = x.kids.length := by omega
       subst hil
       have e : ((x.kids.length : Int) < (x.kids.length : Int)) = False := by simp
       simp +decide only [e, zg, zb, za, lowC, vI, vB, vS, hpin, hpin2, go_sem, reduceAdd, reduceMul]
       refine Ent.weak ?_ ?_ ?_ ?_
       all_goals simp +decide [subT, subB, zl, zk, zo, St.get, look, vI, vB, vS, cI, cS, cB, zg, za, lowC, roI, hqe]
 have hpu := heq
 unfold valK at hpu
 have hql := zbH (lowV p l) x.kids s x.kids.length (Nat.le_refl _)
 have hgr := hgrow x.kids.length (Nat.le_refl _)
 rw [List.take_length] at hgr
 rw [hqe] at hql hgr
 generalize zgB (lowV p l) x.kids s = q at hql hgr hpu |-
 obtain ⟨g1, g2, g3, g4⟩ := hgr
 obtain ⟨ql, qs⟩ := q
 simp only at hql g1 g2 g3 g4 hpu |-
 refine Tri.stop ze ⟨118, [(0, .bp 2000 0), (1, vI n), (5, .ip (zg true x) 0), (6, .ref 6 [] x.kids.length), (8, vI ty)], [(6, .row 3 (row1 cI ql)), (2000, .box (lowC p l nm pn qs))]⟩ ?_ ?_
 · refine Tri.fork ze (.one 0 true (.one 1 true (.one 2 true (.one 4 true (.one 5 true (.one 6 true (.one 8 true (.two 3 (.one 7 false (.one 9 false (.one 10 false .done))) 7 (.one 3 false (.one 9 false (.one 10 false .done))))))))))) zL (by kernel_rfl) (fun C2 hC2 => ?_)
   have hp2 := zN hC2 hpin
   simp +decide only [zb, za, lowC, vI, vB, vS, hp2, hpin, hpin2, go_sem, reduceAdd, reduceMul]
   refine ⟨zd hty hp2 ?_, zd hty hp2 ?_⟩
   all_goals
     simp +decide only [zb, za, lowC, vI, vB, vS, hp2, hpin, hpin2, go_sem, reduceAdd, reduceMul]
     refine Ent.weak ?_ ?_ ?_ ?_
   all_goals simp +decide [subT, subB, zl, zk, zo, St.get, look, vI, vB, vS, cI, cS, cB, zg, za, lowC, roI]
 refine Tri.step ze ?_
 simp +decide only [zb, za, lowC, vI, vB, vS, hpin, hpin2, go_sem, reduceAdd, reduceMul]
 obtain ⟨at_, hat⟩ : ∃ a : Int, a = if ty == 0 then -1 else (qs.locs.length : Int) := ⟨_, rfl⟩
 obtain ⟨S2, hS2⟩ : ∃ a : LowD, a = if ty == 0 then qs else qs.addL ty := ⟨_, rfl⟩
 have hS2w : S2.words = qs.words := by rw [hS2]; split <;> rfl
 refine Tri.stop ze ⟨118, [(0, .bp 2000 0), (1, vI n), (5, .ip (zg true x) 0), (6, .ref 6 [] x.kids.length), (8, vI ty), (9, vI at_)], [(6, .row 3 (row1 cI ql)), (2000, .box (lowC p l nm pn S2))]⟩ ?_ ?_
 · cases h0 : ty == 0 with
   | true =>
     rw [h0, if_pos rfl] at hat hS2
     simp +decide only [h0, bne, zb, za, lowC, vI, vB, vS, hpin, hpin2, go_sem, reduceAdd, reduceMul]
     refine Ent.weak ?_ ?_ ?_ ?_
     all_goals simp +decide [subT, subB, zl, zk, zo, St.get, look, vI, vB, vS, cI, cS, cB, zg, za, lowC, roI, hat, hS2]
   | false =>
     rw [h0, if_neg (by decide)] at hat hS2
     have hloc := zdo p l nm pn qs ty (by omega)
     rw [<- hS2] at hloc
     simp only [lowC, cI] at hloc
     simp +decide only [h0, bne, zb, za, lowC, vI, vB, vS, hpin, hpin2, go_sem, reduceAdd, reduceMul]
     refine zw hloc hpin hfull [(2000, 2000)] [] [(2000, 2000)] ⟨rfl, rfl, rfl, rfl⟩ (fun uf => ?_) ?_
     · simp +decide only [zb, za, lowC, vI, vB, vS, hpin, hpin2, go_sem, reduceAdd, reduceMul]
     simp +decide only [zb, za, lowC, vI, vB, vS, hpin, hpin2, go_sem, reduceAdd, reduceMul]
     refine Ent.weak ?_ ?_ ?_ ?_
     all_goals simp +decide [subT, subB, zl, zk, zo, St.get, look, vI, vB, vS, cI, cS, cB, zg, za, lowC, roI, hat]
 refine Tri.step ze ?_
 cases h12 : x.kind == 12 with
 | true =>
   rw [h12, if_pos rfl] at hpu
   have hadd := zlA p l nm pn S2 ⟨13, at_, 0, 0, 0, x.name, ql⟩ (by rw [hS2w]; omega)
   have hR : R = (at_, S2.addW ⟨13, at_, 0, 0, 0, x.name, ql⟩) := by
     rw [hpu, hat, hS2]
     cases h0 : ty == 0 <;> simp
   subst hR
   simp only [lowC, cI, hql] at hadd
   simp +decide only [h12, zg, zb, za, lowC, vI, vB, vS, hpin, hpin2, go_sem, reduceAdd, reduceMul]
   refine zeS hadd hpin hfull [(2001, 6), (2000, 2000)] [(2000, 2000)] [(2001, 6)] [(2000, 2000)] ⟨rfl, rfl, rfl, rfl, rfl⟩ (by rfl) (fun uf => ?_) ?_
   · simp +decide only [hql, zb, za, lowC, vI, vB, vS, hpin, hpin2, go_sem, reduceAdd, reduceMul]
   simp +decide only [hql, zb, za, lowC, vI, vB, vS, hpin, hpin2, go_sem, reduceAdd, reduceMul]
 | false =>
   have hk12 : x.kind ≠ 12 := by simpa using h12
   have hty0 : ty ≠ 0 := hgv.resolve_right (fun h => hk12 h.1)
   have h0 : (ty == 0) = false := by simpa using hty0
   rw [h0, if_neg (by decide)] at hat hS2
   rw [h12, if_neg (by decide), <- hS2, <- hat] at hpu
   have hk11 : 1 <= x.kind /\ x.kind <= 11 := by
     have h1 := zu (show inI x.kind 1 12 = true from hval)
     omega
   have hva := ZF l x.name hl
   cases h2 : x.kind == 2 with
   | true =>
     have hk2 := eq_of_beq h2
     have hR : R = (at_, S2.addW ⟨if zfj ty then 2 else 3, at_, yg l x.name, 0, 0, ⟨#[]⟩, []⟩) := by
       rw [hpu]; unfold opI; rw [hk2]; simp
     subst hR
     have hadd := Zj p l nm pn S2 (if zfj ty then 2 else 3) at_ (yg l x.name) 0 0 ⟨#[]⟩ (by rw [hS2w]; omega)
     simp only [lowC, cI] at hadd
     simp +decide only [h12, h2, zg, zb, za, lowC, vI, vB, vS, hpin, hpin2, go_sem, reduceAdd, reduceMul]
     refine zd (zjJ ty) hpin ?_
     cases hcy : zfj ty with
     | true =>
       simp only [hcy, if_true] at hadd
       simp +decide only [zg, zb, za, lowC, vI, vB, vS, hpin, hpin2, go_sem, reduceAdd, reduceMul]
       refine Tri.fork ze (.one 0 true (.one 1 true (.one 2 true (.one 3 true (.one 4 true (.one 5 true (.one 7 true (.one 8 true (.one 6 false (.one 9 false (.one 10 false (.one 11 false .done)))))))))))) zL (by kernel_rfl) (fun C2 hC2 => ?_)
       have hp2 := zN hC2 hpin
       simp +decide only [zg, zb, za, lowC, vI, vB, vS, hp2, hpin, hpin2, go_sem, reduceAdd, reduceMul]
       refine zd hva hp2 ?_
       simp +decide only [zg, zb, za, lowC, vI, vB, vS, hp2, hpin, hpin2, go_sem, reduceAdd, reduceMul]
       refine Yp hadd hp2 [(2000, 2000)] [] [(2000, 2000)] ⟨rfl, rfl, rfl, rfl⟩ (fun uf => ?_) ?_
       · simp +decide only [zb, za, lowC, vI, vB, vS, hp2, hpin, hpin2, go_sem, reduceAdd, reduceMul]
       simp +decide only [hcy, zb, za, lowC, vI, vB, vS, hp2, hpin, hpin2, go_sem, reduceAdd, reduceMul]
     | false =>
       simp only [hcy, if_false, Bool.false_eq_true] at hadd
       simp +decide only [zg, zb, za, lowC, vI, vB, vS, hpin, hpin2, go_sem, reduceAdd, reduceMul]
       refine Tri.fork ze (.one 0 true (.one 1 true (.one 2 true (.one 3 true (.one 4 true (.one 5 true (.one 7 true (.one 8 true (.one 6 false (.one 9 false (.one 10 false (.one 11 false .done)))))))))))) zL (by kernel_rfl) (fun C2 hC2 => ?_)
       have hp2 := zN hC2 hpin
       simp +decide only [zg, zb, za, lowC, vI, vB, vS, hp2, hpin, hpin2, go_sem, reduceAdd, reduceMul]
       refine zd hva hp2 ?_
       simp +decide only [zg, zb, za, lowC, vI, vB, vS, hp2, hpin, hpin2, go_sem, reduceAdd, reduceMul]
       refine Yp hadd hp2 [(2000, 2000)] [] [(2000, 2000)] ⟨rfl, rfl, rfl, rfl⟩ (fun uf => ?_) ?_
       · simp +decide only [zb, za, lowC, vI, vB, vS, hp2, hpin, hpin2, go_sem, reduceAdd, reduceMul]
       simp +decide only [hcy, zb, za, lowC, vI, vB, vS, hp2, hpin, hpin2, go_sem, reduceAdd, reduceMul]
   | false =>
     have hk2 : x.kind ≠ 2 := by simpa using h2
     simp +decide only [h12, h2, zg, zb, za, lowC, vI, vB, vS, hpin, hpin2, go_sem, reduceAdd, reduceMul]
     refine Tri.stop ze ⟨118, [(0, .bp 2000 0), (5, .ip (zg true x) 0), (6, .ref 6 [] x.kids.length), (9, vI at_), (11, .bp 11 0)], [(6, .row 3 (row1 cI ql)), (11, .box [cI (op12 x.kind), cI at_, cI 0, cI 0, cI x.num, cS ⟨#[]⟩, .sc (.slice none 0 0)]), (2000, .box (lowC p l nm pn S2))]⟩ ?_ ?_
     · refine Tri.fork ze (.one 0 true (.one 3 true (.one 4 true (.one 1 true (.one 5 true (.two 2 (.one 6 true (.one 7 false (.one 8 false .done))) 7 (.one 2 false (.one 6 false (.one 8 false .done))))))))) zL (by kernel_rfl) (fun C2 hC2 => ?_)
       have hp2 := zN hC2 hpin
       simp +decide only [zg, zb, za, lowC, vI, vB, vS, hp2, hpin, hpin2, go_sem, reduceAdd, reduceMul]
       refine ⟨zd (zfy x.kind hk11) hp2 ?_, zd (zfy x.kind hk11) hp2 ?_⟩
       all_goals
         simp +decide only [zg, zb, za, lowC, vI, vB, vS, hp2, hpin, hpin2, go_sem, reduceAdd, reduceMul]
         refine Ent.weak ?_ ?_ ?_ ?_
       all_goals simp +decide [subT, subB, zl, zk, zo, St.get, look, vI, vB, vS, cI, cS, cB, zg, za, lowC, roI]
     rcases zpk l x ty at_ ql hk11 hk2 hsh hnum hnam with ⟨hkl, hn0, he⟩ | ⟨hkl, hn0, he⟩ | ⟨hkl, hn0, he⟩ | ⟨hkl, hn0, he⟩
     · -- none
       rw [he] at hpu
       subst hpu
       have hadd := yG p l nm pn S2 (op12 x.kind) at_ 0 0 x.num ⟨#[]⟩ (by rw [hS2w]; omega)
       simp only [lowC, cI] at hadd
       have k0 : ((0 : Int) < (x.kids.length : Int)) = False := eq_false (by omega)
       have k1 : ((1 : Int) < (x.kids.length : Int)) = False := eq_false (by omega)
       have hnd : decide (x.name = ⟨#[]⟩) = true := decide_eq_true hn0
       refine Tri.step ze ?_
       simp +decide only [hnd, zg, zb, za, lowC, vI, vB, vS, hpin, hpin2, go_sem, reduceAdd, reduceMul]
       refine zf ze _ ?_
       simp +decide only [k0, k1, hql, gt_iff_lt, zb, za, lowC, vI, vB, vS, hpin, hpin2, go_sem, reduceAdd, reduceMul]
       refine zw hadd hpin hfull [(2000, 2000)] [] [(2000, 2000)] ⟨rfl, rfl, rfl, rfl⟩ (fun uf => ?_) ?_
       · simp +decide only [zb, za, lowC, vI, vB, vS, hpin, hpin2, go_sem, reduceAdd, reduceMul]
       simp +decide only [zb, za, lowC, vI, vB, vS, hpin, hpin2, go_sem, reduceAdd, reduceMul]
     · -- name
       rw [he] at hpu
       subst hpu
       have hadd := yG p l nm pn S2 (op12 x.kind) at_ (yg l x.name) 0 x.num ⟨#[]⟩ (by rw [hS2w]; omega)
       simp only [lowC, cI] at hadd
       have k0 : ((0 : Int) < (x.kids.length : Int)) = False := eq_false (by omega)
       have k1 : ((1 : Int) < (x.kids.length : Int)) = False := eq_false (by omega)
       have hnd : decide (x.name = ⟨#[]⟩) = false := decide_eq_false hn0
       refine Tri.step ze ?_
       simp +decide only [hnd, zg, zb, za, lowC, vI, vB, vS, hpin, hpin2, go_sem, reduceAdd, reduceMul]
       refine Tri.fork ze (.one 0 true (.one 1 true (.one 2 true (.one 4 true (.one 5 true (.one 3 false (.one 6 false (.one 7 false (.one 8 false .done))))))))) zL (by kernel_rfl) (fun C2 hC2 => ?_)
       have hp2 := zN hC2 hpin
       simp +decide only [zg, zb, za, lowC, vI, vB, vS, hp2, hpin, hpin2, go_sem, reduceAdd, reduceMul]
       refine zd hva hp2 ?_
       simp +decide only [zg, zb, za, lowC, vI, vB, vS, hp2, hpin, hpin2, go_sem, reduceAdd, reduceMul]
       refine zf ze _ ?_
       simp +decide only [k0, k1, gt_iff_lt, zb, za, lowC, vI, vB, vS, hpin, hpin2, go_sem, reduceAdd, reduceMul]
       refine zw hadd hpin hfull [(2000, 2000)] [] [(2000, 2000)] ⟨rfl, rfl, rfl, rfl⟩ (fun uf => ?_) ?_
       · simp +decide only [zb, za, lowC, vI, vB, vS, hpin, hpin2, go_sem, reduceAdd, reduceMul]
       simp +decide only [zb, za, lowC, vI, vB, vS, hpin, hpin2, go_sem, reduceAdd, reduceMul]
     · -- one
       rw [he] at hpu
       subst hpu
       have hadd := yG p l nm pn S2 (op12 x.kind) at_ (ql.getD 0 0) 0 x.num ⟨#[]⟩ (by rw [hS2w]; omega)
       simp only [lowC, cI] at hadd
       have k0 : ((0 : Int) < (x.kids.length : Int)) = True := eq_true (by omega)
       have hl0 : 0 < ql.length := by omega
       have hs0 : ql.getD 0 0 = ql[0] := by simp [List.getD, hl0]
       have hg0 : (row1 cI ql)[Int.toNat 0]? = some [D.sc (.int .i64 (ql.getD 0 0))] := by rw [hs0]; exact yf cI ql hl0
       have h00 : 0 < x.kids.length := by omega
       have k1 : ((1 : Int) < (x.kids.length : Int)) = False := eq_false (by omega)
       have hnd : decide (x.name = ⟨#[]⟩) = true := decide_eq_true hn0
       refine Tri.step ze ?_
       simp +decide only [hnd, zg, zb, za, lowC, vI, vB, vS, hpin, hpin2, go_sem, reduceAdd, reduceMul]
       refine zf ze _ ?_
       simp +decide only [k0, hg0, hl0, h00, k1, hql, gt_iff_lt, zb, za, lowC, vI, vB, vS, hpin, hpin2, go_sem, reduceAdd, reduceMul]
       refine zw hadd hpin hfull [(2000, 2000)] [] [(2000, 2000)] ⟨rfl, rfl, rfl, rfl⟩ (fun uf => ?_) ?_
       · simp +decide only [zb, za, lowC, vI, vB, vS, hpin, hpin2, go_sem, reduceAdd, reduceMul]
       simp +decide only [zb, za, lowC, vI, vB, vS, hpin, hpin2, go_sem, reduceAdd, reduceMul]
     · -- two
       rw [he] at hpu
       subst hpu
       have hadd := yG p l nm pn S2 (op12 x.kind) at_ (ql.getD 0 0) (ql.getD 1 0) x.num ⟨#[]⟩ (by rw [hS2w]; omega)
       simp only [lowC, cI] at hadd
       have k0 : ((0 : Int) < (x.kids.length : Int)) = True := eq_true (by omega)
       have hl0 : 0 < ql.length := by omega
       have hs0 : ql.getD 0 0 = ql[0] := by simp [List.getD, hl0]
       have hg0 : (row1 cI ql)[Int.toNat 0]? = some [D.sc (.int .i64 (ql.getD 0 0))] := by rw [hs0]; exact yf cI ql hl0
       have h00 : 0 < x.kids.length := by omega
       have k1 : ((1 : Int) < (x.kids.length : Int)) = True := eq_true (by omega)
       have hl1 : 1 < ql.length := by omega
       have hs1 : ql.getD 1 0 = ql[1] := by simp [List.getD, hl1]
       have hg1 : (row1 cI ql)[Int.toNat 1]? = some [D.sc (.int .i64 (ql.getD 1 0))] := by rw [hs1]; exact yf cI ql hl1
       have h11 : 1 < x.kids.length := by omega
       have hnd : decide (x.name = ⟨#[]⟩) = true := decide_eq_true hn0
       refine Tri.step ze ?_
       simp +decide only [hnd, zg, zb, za, lowC, vI, vB, vS, hpin, hpin2, go_sem, reduceAdd, reduceMul]
       refine zf ze _ ?_
       simp +decide only [k0, hg0, hl0, h00, k1, hg1, hl1, h11, hql, gt_iff_lt, zb, za, lowC, vI, vB, vS, hpin, hpin2, go_sem, reduceAdd, reduceMul]
       refine zw hadd hpin hfull [(2000, 2000)] [] [(2000, 2000)] ⟨rfl, rfl, rfl, rfl⟩ (fun uf => ?_) ?_
       · simp +decide only [zb, za, lowC, vI, vB, vS, hpin, hpin2, go_sem, reduceAdd, reduceMul]
       simp +decide only [zb, za, lowC, vI, vB, vS, hpin, hpin2, go_sem, reduceAdd, reduceMul]
theorem zcu (p : ProgramD) (hG : Right p) (l : List VarD) (hl : l.length <= 4194304) (hf : p.fns.length <= 1048576) (hn : p.nodes.length <= 1048576) (hk : ∀ x ∈ p.nodes, x.kids.length <= 300) (nm : ByteArray) (pn : Int) (n : Nat) (hnl : n < p.nodes.length) : zns p l nm pn n := by
 induction n using Nat.strongRecOn with
 | ind n ih => exact zlR p hG l hl hf hn hk nm pn n hnl (fun m hm => ih m hm (by omega))
theorem zcM (p : ProgramD) (hD : Deep p.nodes) (l : List VarD) (hl : l.length <= 4194304) (hn : p.nodes.length <= 1048576) (nm : ByteArray) (pn : Int) (n : Nat) (hnl : n < p.nodes.length)
   (hlet : ∀ k ∈ p.nodes[n].kids, (nAt p.nodes k).kind = 13 -> 0 <= yg l (nAt p.nodes k).name) (s : LowD) (hs : s.words.length + p.nodes[n].kids.length <= 1048576) :
   SoundAt Tryz.prog 111 (fun uf => zq 0 [.ro (.bp 2000 0), .ro (.sc (.int .i64 n))]) [(2000, .box (lowC p l nm pn s))]
     (fun rs st => rs = [] /\ yh st.ob [(2000, .box (lowC p l nm pn (XI p l p.nodes[n].kids s)))]) := by
 have hkid := hD.kid hnl
 have hx : (rows (zg true) p.nodes).getD n [] = zg true p.nodes[n] := zi _ _ hnl
 have hc1 : ((n : Int) < (p.nodes.length : Int)) = True := eq_true (by omega)
 obtain ⟨R, hR⟩ : ∃ R, R = XI p l p.nodes[n].kids s := ⟨_, rfl⟩
 rw [<- hR]
 unfold XI at hR
 generalize p.nodes[n] = x at hkid hx hlet hs hR
 have w1 : IntKind.i64.wrap ((x.kids.length : Int) - 1) = (x.kids.length : Int) - 1 := w64 (by omega) (by omega)
 refine zt (fn := Tryz.f111) (c := Tryz.f111.body.getD .skip) (res := []) (n := 64) ze (by kernel_rfl) (by rfl) (by kernel_rfl) (by rfl) (by rfl) (by simp [zq]) (fun uf ub C hpin hpin2 hfull => ?_)
 simp only [Tryz.f111, Option.getD_some]
 refine Tri.step ze ?_
 simp +decide only [hc1, hx, zg, Int.natCast_nonneg, zb, za, lowC, vI, vB, vS, hpin, hpin2, go_sem, reduceAdd, reduceMul]
 refine zf ze _ ?_
 simp +decide only [w1, zb, za, lowC, vI, vB, vS, hpin, hpin2, go_sem, reduceAdd, reduceMul]
 refine Tri.loop (ι := Nat × LowD) (fun q => q.1 <= x.kids.length /\ R = zbg p l x.kids q.1 q.2 /\ q.2.words.length + q.1 <= 1048576) (fun q => ⟨64, [(0, .bp 2000 0), (4, roI x.kids), (5, vI ((q.1 : Int) - 1))], [(2000, .box (lowC p l nm pn q.2))]⟩) (fun q => q.1) (x.kids.length, s) ⟨by simp, hR, hs⟩ ?_ ?_
 · refine Ent.weak ?_ ?_ ?_ ?_ <;> simp +decide [subT, subB, zl, zk, zo, St.get, look, vI, vB, vS, cI, cS, cB, zg, za, lowC, roI]
 · rintro ⟨j, t⟩ ⟨hj, hq, hw⟩
   simp only at hj hq hw |-
   refine zf ze _ ?_
   cases j with
   | zero =>
     unfold zbg at hq
     subst hq
     have e : (0 <= (((0 : Nat) : Int) - 1)) = False := by simp
     simp +decide only [e, ge_iff_le, vB, vI, zb, za, lowC, vI, vB, vS, hpin, hpin2, go_sem, reduceAdd, reduceMul]
   | succ j =>
     have hjl : j < x.kids.length := by omega
     rw [zfR p l x.kids hjl] at hq
     have ej : (((j + 1 : Nat) : Int) - 1) = (j : Int) := by omega
     have e : (0 <= (j : Int)) = True := by simp
     have ejl : ((j : Int) < (x.kids.length : Int)) = True := eq_true (by omega)
     have hkm := List.getElem_mem hjl
     obtain ⟨q0, q1, q2⟩ := hkid x.kids[j] hkm
     have hlt := hlet x.kids[j] hkm
     have hkg := zr cI x.kids hjl
     simp only [cI] at hkg
     generalize x.kids[j] = k at q0 q1 q2 hlt hkg hq
     obtain ⟨m, rfl⟩ : ∃ m : Nat, k = m := ⟨k.toNat, by omega⟩
     have hml : m < p.nodes.length := by omega
     unfold zjG at hq
     rw [zI hml] at hlt hq
     have hy : (rows (zg true) p.nodes).getD m [] = zg true p.nodes[m] := zi _ _ hml
     have hcm : ((m : Int) < (p.nodes.length : Int)) = True := eq_true (by omega)
     generalize p.nodes[m] = y at hlt hq hy
     have hva := ZF l y.name hl
     have hvr := YE y.name l 0
     have hvf : yg l y.name = zaD y.name l 0 := rfl
     rw [<- hvf] at hvr
     unfold vAt at hq
     generalize yg l y.name = v at hlt hq hva hvr
     have w2 : IntKind.i64.wrap ((j : Int) - 1) = (j : Int) - 1 := w64 (by omega) (by omega)
     simp +decide only [ej, e, ge_iff_le, vB, vI, zb, za, lowC, vI, vB, vS, hpin, hpin2, go_sem, reduceAdd, reduceMul]
     refine Tri.fork ze (.one 0 true (.one 1 true (.one 2 true (.one 3 true (.one 5 true (.one 6 true (.one 7 true (.one 8 true (.two 4 (.one 9 true (.one 10 true (.one 11 false (.one 12 false .done)))) 11 (.one 4 false (.one 9 false (.one 10 false (.one 12 false .done))))))))))))) zL (by kernel_rfl) (fun C2 hC2 => ?_)
     have hp2 := zN hC2 hpin
     simp +decide only [ej, e, ejl, hkg, hjl, hcm, hy, zg, Int.natCast_nonneg, zb, za, lowC, vI, vB, vS, hp2, hpin, hpin2, go_sem, reduceAdd, reduceMul]
     refine ⟨?_, ?_⟩
     all_goals
       refine Tri.ent ?_ (Ent.frb hfull 6)
       cases h13 : y.kind == 13 with
       | false =>
         rw [h13, Bool.false_and, if_neg (by decide)] at hq
         refine Tri.fork ze (.one 0 false (.one 1 false (.one 2 false (.one 3 false (.one 4 true (.one 5 true (.one 6 true (.one 8 true (.one 9 true (.one 10 true (.one 12 true (.one 13 true (.two 7 (.one 11 false (.one 14 false (.one 15 false (.one 16 false (.one 17 false (.one 18 false (.one 19 false .done))))))) 11 (.two 7 (.one 14 false (.one 15 false (.one 16 false (.one 17 false (.one 18 false (.one 19 false .done)))))) 14 (.one 7 false (.one 15 false (.one 16 false (.one 17 false (.one 18 false (.one 19 false .done)))))))))))))))))))) zL (by kernel_rfl) (fun C3 hC3 => ?_)
         have hp3 := zN hC3 hpin
         simp +decide only [h13, w2, zg, zb, za, lowC, vI, vB, vS, hp3, hpin, hpin2, go_sem, reduceAdd, reduceMul]
         refine ⟨?_, ?_, ?_⟩
         all_goals
           refine ⟨(j, t), ⟨by show j <= _; omega, hq, by show t.words.length + j <= _; omega⟩, by show j < j + 1; omega, Ent.weak ?_ ?_ ?_ ?_⟩
         all_goals simp +decide [subT, subB, zl, zk, zo, St.get, look, vI, vB, vS, cI, cS, cB, zg, za, lowC, roI, w2]
       | true =>
         rw [h13, Bool.true_and] at hq
         have hv0 := hlt (eq_of_beq h13)
         have c0 : (0 <= v) = True := eq_true hv0
         have hvl : v.toNat < l.length := by omega
         have c1 : (v < (l.length : Int)) = True := eq_true (by omega)
         have hvx : (rows (varC true) l).getD v.toNat [] = varC true l[v.toNat] := zi _ _ hvl
         rw [show l.getD v.toNat vr0 = l[v.toNat] by simp [List.getD, hvl]] at hq
         generalize l[v.toNat] = vr at hq hvx
         refine Tri.fork ze (.one 0 false (.one 1 false (.one 2 false (.one 3 false (.one 4 true (.one 5 true (.one 6 true (.one 8 true (.one 9 true (.one 10 true (.one 12 true (.one 13 true (.two 7 (.one 11 false (.one 14 false (.one 15 false (.one 16 false (.one 17 false (.one 18 false (.one 19 false .done))))))) 11 (.two 7 (.one 14 false (.one 15 false (.one 16 false (.one 17 false (.one 18 false (.one 19 false .done)))))) 14 (.one 7 false (.one 15 false (.one 16 false (.one 17 false (.one 18 false (.one 19 false .done)))))))))))))))))))) zL (by kernel_rfl) (fun C3 hC3 => ?_)
         have hp3 := zN hC3 hpin
         simp +decide only [h13, zg, zb, za, lowC, vI, vB, vS, hp3, hpin, hpin2, go_sem, reduceAdd, reduceMul]
         cases h2 : vr.ty == 2 with
         | false =>
           rw [h2, if_neg (by decide)] at hq
           refine ⟨zd hva hp3 ?_, zd hva hp3 ?_, zd hva hp3 ?_⟩
           all_goals
             simp +decide only [h13, h2, c0, c1, hvl, hvx, varC, w2, zg, zb, za, lowC, vI, vB, vS, hp3, hpin, hpin2, go_sem, reduceAdd, reduceMul]
             refine ⟨(j, t), ⟨by show j <= _; omega, hq, by show t.words.length + j <= _; omega⟩, by show j < j + 1; omega, Ent.weak ?_ ?_ ?_ ?_⟩
           all_goals simp +decide [subT, subB, zl, zk, zo, St.get, look, vI, vB, vS, cI, cS, cB, zg, za, lowC, roI, w2]
         | true =>
           rw [h2, if_pos rfl] at hq
           have hadd := Zj p l nm pn t 17 v 0 0 0 ⟨#[]⟩ (by omega)
           simp only [lowC, cI] at hadd
           refine ⟨zd hva hp3 ?_, zd hva hp3 ?_, zd hva hp3 ?_⟩
           all_goals
             simp +decide only [h13, h2, c0, c1, hvl, hvx, varC, zg, zb, za, lowC, vI, vB, vS, hp3, hpin, hpin2, go_sem, reduceAdd, reduceMul]
             refine Tri.fork ze (.one 0 true (.one 1 true (.one 2 true (.one 3 true (.one 5 true (.one 6 true (.one 4 false (.one 7 false (.one 8 false (.one 9 false .done)))))))))) zL (by kernel_rfl) (fun C4 hC4 => ?_)
             have hp4 := zN hC4 hpin
             simp +decide only [zg, zb, za, lowC, vI, vB, vS, hp4, hpin, hpin2, go_sem, reduceAdd, reduceMul]
             refine zd hva hp4 ?_
             simp +decide only [zg, zb, za, lowC, vI, vB, vS, hp4, hpin, hpin2, go_sem, reduceAdd, reduceMul]
             refine Yp hadd hp4 [(2000, 2000)] [] [(2000, 2000)] ⟨rfl, rfl, rfl, rfl⟩ (fun uf => ?_) ?_
             · simp +decide only [zg, zb, za, lowC, vI, vB, vS, hp4, hpin, hpin2, go_sem, reduceAdd, reduceMul]
             simp +decide only [w2, LowD.addW, zb, za, lowC, vI, vB, vS, hp4, hpin, hpin2, go_sem, reduceAdd, reduceMul]
             refine ⟨(j, t.addW (in3 17 v 0)), ⟨by show j <= _; omega, hq, by show (t.words ++ [_]).length + j <= _; rw [List.length_append, List.length_singleton]; omega⟩, by show j < j + 1; omega, Ent.weak ?_ ?_ ?_ ?_⟩
           all_goals simp +decide [subT, subB, zl, zk, zo, St.get, look, vI, vB, vS, cI, cS, cB, zg, za, lowC, roI, LowD.addW, in3, w2]
def GoodS (p : ProgramD) (l : List VarD) (n : Nat) : Prop := YF p l n = true
theorem GoodS.kid {p : ProgramD} {l : List VarD} {n : Nat} (h : GoodS p l n) (hn : n < p.nodes.length) {k : Int} (hk : k ∈ p.nodes[n].kids) : GoodS p l k.toNat := by
 unfold GoodS at h |-
 rw [zbM l hn, Bool.and_eq_true, List.all_eq_true] at h
 exact h.2 k hk
theorem GoodS.own {p : ProgramD} {l : List VarD} {n : Nat} (h : GoodS p l n) (hn : n < p.nodes.length) : stB p l n = true := by
 unfold GoodS at h
 rw [zbM l hn, Bool.and_eq_true] at h
 exact h.1
def zpT (p : ProgramD) (l : List VarD) (nm : ByteArray) (pn : Int) (n : Nat) : Prop := ZT (nAt p.nodes n).kind = true -> LetsIn p l n -> GoodS p l n -> ∀ s : LowD, s.words.length + szB p.nodes n <= 1048576 -> s.locs.length + szB p.nodes n <= 1048576 ->
   SoundAt Tryz.prog 169 (fun uf => zq 0 [.ro (.bp 2000 0), .ro (.sc (.int .i64 n))]) [(2000, .box (lowC p l nm pn s))]
     (fun rs st => rs = [] /\ yh st.ob [(2000, .box (lowC p l nm pn (lowS p l n s)))])
def znt (p : ProgramD) (l : List VarD) (nm : ByteArray) (pn : Int) (n : Nat) : Prop := (nAt p.nodes n).kind = 20 -> LetsIn p l n -> GoodS p l n -> ∀ s : LowD, s.words.length + szB p.nodes n <= 1048576 -> s.locs.length + szB p.nodes n <= 1048576 ->
   SoundAt Tryz.prog 109 (fun uf => zq 0 [.ro (.bp 2000 0), .ro (.sc (.int .i64 n))]) [(2000, .box (lowC p l nm pn s))]
     (fun rs st => rs = [] /\ yh st.ob [(2000, .box (lowC p l nm pn (blkS (lowS p l) (nAt p.nodes n).kids s)))])
def znu (p : ProgramD) (l : List VarD) (nm : ByteArray) (pn : Int) (n : Nat) : Prop := (nAt p.nodes n).kind = 20 -> LetsIn p l n -> GoodS p l n -> ∀ s : LowD, s.words.length + szB p.nodes n <= 1048576 -> s.locs.length + szB p.nodes n <= 1048576 ->
   SoundAt Tryz.prog 198 (fun uf => zq 0 [.ro (.bp 2000 0), .ro (.sc (.int .i64 n))]) [(2000, .box (lowC p l nm pn s))]
     (fun rs st => rs = [] /\ yh st.ob [(2000, .box (lowC p l nm pn (lowS p l n s)))])
theorem zlX (p : ProgramD) (hD : Deep p.nodes) (l : List VarD) (hl : l.length <= 4194304) (hn : p.nodes.length <= 1048576) (nm : ByteArray) (pn : Int) (n : Nat) (hnl : n < p.nodes.length) (ih : ∀ m, m < n -> zpT p l nm pn m) : znt p l nm pn n := by
 intro h20 hlt hgs s hs1 hs2
 rw [zI hnl] at h20 |-
 have hkid := hD.kid hnl
 have hsz := XN hD hnl
 have hx : (rows (zg true) p.nodes).getD n [] = zg true p.nodes[n] := zi _ _ hnl
 have hstp := yK (hD.deep n hnl) hnl h20
 have hgrow := zeJ (S := lowS p l) (z := szB p.nodes) p.nodes[n].kids (fun k hk s2 => by
   obtain ⟨i, hi, rfl⟩ := List.getElem_of_mem hk
   obtain ⟨q0, q1, q2⟩ := hkid _ hk
   have hkr := zu (show inI (nAt p.nodes p.nodes[n].kids[i]).kind 13 19 = true from hstp i hi)
   generalize p.nodes[n].kids[i] = k at q0 q1 q2 hkr
   obtain ⟨m, rfl⟩ : ∃ m : Nat, k = m := ⟨k.toNat, by omega⟩
   exact zdZ hD l m (by omega) (Or.inr hkr) s2) s
 have hpart : ∀ i (hi : i < p.nodes[n].kids.length), sumN (szB p.nodes) (p.nodes[n].kids.take i) + szB p.nodes p.nodes[n].kids[i] <= sumN (szB p.nodes) p.nodes[n].kids := fun i hi => by
   have h1 := xN (szB p.nodes) p.nodes[n].kids (i + 1)
   rw [List.take_succ_eq_append_getElem hi, YI] at h1
   have : sumN (szB p.nodes) [p.nodes[n].kids[i]] = szB p.nodes p.nodes[n].kids[i] := by simp [sumN]
   omega
 have hrec : ∀ i (hi : i < p.nodes[n].kids.length), ∀ t : LowD, t.words.length + szB p.nodes p.nodes[n].kids[i] <= 1048576 -> t.locs.length + szB p.nodes p.nodes[n].kids[i] <= 1048576 -> SoundAt Tryz.prog 169 (fun uf => zq 0 [.ro (.bp 2000 0), .ro (.sc (.int .i64 p.nodes[n].kids[i]))]) [(2000, .box (lowC p l nm pn t))]
     (fun rs st => rs = [] /\ yh st.ob [(2000, .box (lowC p l nm pn (lowS p l p.nodes[n].kids[i] t)))]) := fun i hi t h1 h2 => by
   have hk2 := hstp i hi
   obtain ⟨q0, q1, q2⟩ := hkid p.nodes[n].kids[i] (List.getElem_mem hi)
   have hl2 := hlt.kid hnl (List.getElem_mem hi)
   have hg2 := hgs.kid hnl (List.getElem_mem hi)
   have e : p.nodes[n].kids[i] = (p.nodes[n].kids[i].toNat : Int) := by omega
   rw [e] at h1 h2
   have := ih p.nodes[n].kids[i].toNat q2 (by rw [<- e]; exact hk2) hl2 hg2 t h1 h2
   rw [<- e] at this
   exact this
 have hc1 : ((n : Int) < (p.nodes.length : Int)) = True := eq_true (by omega)
 generalize szB p.nodes n = Z at hs1 hs2 hsz
 generalize p.nodes[n] = x at hkid hx hrec hsz hgrow hpart |-
 have hq0 := YG (lowS p l) x.kids s
 have hqe := YR (lowS p l) x.kids s
 refine zt (fn := Tryz.f109) (c := Tryz.f109.body.getD .skip) (res := []) (n := 27) ze (by kernel_rfl) (by rfl) (by kernel_rfl) (by rfl) (by rfl) (by simp [zq]) (fun uf ub C hpin hpin2 hfull => ?_)
 simp only [Tryz.f109, Option.getD_some]
 refine Tri.step ze ?_
 simp +decide only [hc1, hx, zg, Int.natCast_nonneg, zb, za, lowC, vI, vB, vS, hpin, hpin2, go_sem, reduceAdd, reduceMul]
 refine zf ze _ ?_
 simp +decide only [zg, zb, za, lowC, vI, vB, vS, hpin, hpin2, go_sem, reduceAdd, reduceMul]
 refine Tri.loop (ι := Nat) (fun i => i <= x.kids.length) (fun i => ⟨27, [(0, .bp 2000 0), (4, roI x.kids), (5, vI i)], [(2000, .box (lowC p l nm pn (blkQ (lowS p l) x.kids i s)))]⟩) (fun i => x.kids.length - i) 0 (by simp) ?_ ?_
 · refine Ent.weak ?_ ?_ ?_ ?_ <;> simp +decide [subT, subB, zl, zk, zo, St.get, look, vI, vB, vS, cI, cS, cB, zg, za, lowC, roI, YG]
 · rintro i hi
   refine zf ze _ ?_
   obtain ⟨g1, g2, g3, g4⟩ := hgrow i hi
   by_cases h' : i < x.kids.length
   · have e : ((i : Int) < (x.kids.length : Int)) = True := by simp [h']
     have hqn := zag (lowS p l) x.kids h' s
     have hpt := hpart i h'
     generalize blkQ (lowS p l) x.kids i s = q at g1 g2 g3 g4 hqn |-
     have hcall := hrec i h' q (by omega) (by omega)
     rw [<- hqn] at hcall
     simp only [lowC, cI, cB] at hcall
     simp +decide only [e, h', zr _ _ h', zg, Int.natCast_nonneg, zb, za, lowC, vI, vB, vS, hpin, hpin2, go_sem, reduceAdd, reduceMul]
     refine zw hcall hpin hfull [(2000, 2000)] [] [(2000, 2000)] ⟨rfl, rfl, rfl, rfl⟩ (fun uf => ?_) ?_
     · simp +decide only [zb, za, lowC, vI, vB, vS, hpin, hpin2, go_sem, reduceAdd, reduceMul]
     simp +decide only [zb, za, lowC, vI, vB, vS, hpin, hpin2, go_sem, reduceAdd, reduceMul]
     refine ⟨i + 1, h', by omega, Ent.weak ?_ ?_ ?_ ?_⟩
     all_goals simp +decide [subT, subB, zl, zk, zo, St.get, look, vI, vB, vS, cI, cS, cB, zg, za, lowC, roI, w64s (n := x.kids.length) h' (by omega)]
   · have hil : i = x.kids.length := by omega
     subst hil
     have e : ((x.kids.length : Int) < (x.kids.length : Int)) = False := by simp
     simp +decide only [e, hqe, zb, za, lowC, vI, vB, vS, hpin, hpin2, go_sem, reduceAdd, reduceMul]
theorem zme (p : ProgramD) (hD : Deep p.nodes) (l : List VarD) (hl : l.length <= 4194304) (hn : p.nodes.length <= 1048576) (nm : ByteArray) (pn : Int) (n : Nat) (hnl : n < p.nodes.length) (ih : znt p l nm pn n) : znu p l nm pn n := by
 intro h20 hlt hgs s hs1 hs2
 have hst := ih h20 hlt hgs s hs1 hs2
 have heq := zcf hD l hnl s
 have hsz := XN hD hnl
 rw [zI hnl] at h20 hst
 have h20b : (p.nodes[n].kind == 20) = true := by rw [h20]; rfl
 rw [if_pos h20b] at heq
 have hgr := zbj hD l hnl h20 s p.nodes[n].kids.length (Nat.le_refl _)
 rw [List.take_length, YR] at hgr
 obtain ⟨g1, g2, g3, g4⟩ := hgr
 have hdr := zcM p hD l hl hn nm pn n hnl (hlt.own hD hnl) (blkS (lowS p l) p.nodes[n].kids s) (by omega)
 rw [heq]
 generalize XI p l p.nodes[n].kids (blkS (lowS p l) p.nodes[n].kids s) = R at hdr |-
 generalize blkS (lowS p l) p.nodes[n].kids s = B at hdr hst
 simp only [lowC, cI] at hst hdr
 refine zt (fn := Tryz.f198) (c := Tryz.f198.body.getD .skip) (res := []) (n := 10) ze (by kernel_rfl) (by rfl) (by kernel_rfl) (by rfl) (by rfl) (by simp [zq]) (fun uf ub C hpin hpin2 hfull => ?_)
 simp only [Tryz.f198, Option.getD_some]
 refine Tri.step ze ?_
 simp +decide only [zb, za, lowC, vI, vB, vS, hpin, hpin2, go_sem, reduceAdd, reduceMul]
 refine zw hst hpin hfull [(2000, 2000)] [] [(2000, 2000)] ⟨rfl, rfl, rfl, rfl⟩ (fun uf => ?_) ?_
 · simp +decide only [zb, za, lowC, vI, vB, vS, hpin, hpin2, go_sem, reduceAdd, reduceMul]
 simp +decide only [zb, za, lowC, vI, vB, vS, hpin, hpin2, go_sem, reduceAdd, reduceMul]
 refine zf ze _ ?_
 simp +decide only [zb, za, lowC, vI, vB, vS, hpin, hpin2, go_sem, reduceAdd, reduceMul]
 refine zw hdr hpin hfull [(2000, 2000)] [] [(2000, 2000)] ⟨rfl, rfl, rfl, rfl⟩ (fun uf => ?_) ?_
 · simp +decide only [zb, za, lowC, vI, vB, vS, hpin, hpin2, go_sem, reduceAdd, reduceMul]
 simp +decide only [zb, za, lowC, vI, vB, vS, hpin, hpin2, go_sem, reduceAdd, reduceMul]
end Go.Proofs.YtjjigphfjclofaaGreatDoor.AW
