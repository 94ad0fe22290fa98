/- What the statements of this set lean on, part 7. No condition beyond those named. -/
import Derived.Test.YtjjigphfjclofaaGreatDoorLv6
namespace Go.Proofs.YtjjigphfjclofaaGreatDoor.AW
open Go.RowKit
open Nat (reduceAdd reduceMul)
set_option maxHeartbeats 8000000
set_option maxRecDepth 100000
set_option linter.unusedSimpArgs false
set_option linter.unusedVariables false
theorem zqt : fo Tryz.prog 170 0 = some 0 := by kernel_rfl
theorem zqs : fo Tryz.prog 170 1 = some 2 := by kernel_rfl
theorem zqr : fo Tryz.prog 170 2 = some 3 := by kernel_rfl
theorem zqq : fo Tryz.prog 170 3 = some 4 := by kernel_rfl
theorem zra : isR Tryz.prog 170 = some true := by kernel_rfl
theorem zqT : szT Tryz.prog 170 = 5 := by kernel_rfl
theorem zqM : zeroCells Tryz.prog 170 = some [.slice none 0 0, .slice none 0 0, .int .i64 0, .slice none 0 0, .bool false] := by kernel_rfl
theorem zqh : xJ Tryz.prog 170 = some [(0, 2), (2, 1), (3, 1), (4, 1)] := by kernel_rfl
attribute [go_sem] zqt zqs zqr zqq zra zqT zqM zqh
def zC (p : ProgramD) (f : Nat) (nm : List ByteArray) (bad : Bool) : List D := [.row true 83 (rows (zh true) p.nodes), .row true 104 (rows (fnC true) p.fns), cI f, .row true 9 (row1 cS nm), cB bad]
theorem zaN (S : Int -> List ByteArray -> Bool) (nodes : List NodeD) (nm : List ByteArray) : ∀ l : List Int, Zv S nodes false nm l = l.all (fun kid => S kid nm)
 | [] => rfl
 | k :: r => by
   unfold Zv zdW
   rw [Bool.false_and, if_neg (by decide), zaN S nodes nm r]; rfl
theorem xN {nodes : List NodeD} {n : Nat} (hd : dAt nodes n ≠ 0) (hn : n < nodes.length) {i : Nat} (hi : i < nodes[n].kids.length) : yG nodes[n].kind i (nAt nodes nodes[n].kids[i]).kind = true := by
 have hb := ZM nodes n hd
 simp only [Yq, Bool.and_eq_true, zau] at hb
 obtain ⟨_, _, _, _, _, hr⟩ := hb
 rw [zH hn, xt] at hr
 have := hr i hi
 simp only [kidB, Bool.and_eq_true] at this
 have hg : nodes[n].kids.getD i 0 = nodes[n].kids[i] := by simp [List.getD, hi]
 rw [hg] at this
 exact this.2.2
theorem zls {k : Int} (h : xb k = true) : (k == 20) = false /\ (k == 16) = false /\ (k == 17) = false /\ (k == 19) = false /\ (k == 14) = false /\ (k == 15) = false /\ (k == 13) = false := by
 have := zx (show inI k 1 12 = true from h)
 refine ⟨?_, ?_, ?_, ?_, ?_, ?_, ?_⟩ <;> (apply Bool.eq_false_iff.2; intro hh; have := eq_of_beq hh; omega)
theorem zbF {f : Int -> Bool} {l : List Int} {i : Nat} (h : i < l.length) : (l.take (i + 1)).all f = ((l.take i).all f && f l[i]) := by
 rw [List.take_succ_eq_append_getElem h, List.all_append]; simp
theorem zcU (p : ProgramD) (hD : Deep p.nodes) (f : Nat) (hfl : f < p.fns.length) (hf : p.fns.length <= 1048576) (hn : p.nodes.length <= 1048576) (hk : ∀ x ∈ p.nodes, x.kids.length <= 300) (nm : List ByteArray) (hnm : nm.length <= 4194304) (n : Nat) : n < p.nodes.length -> xb (nAt p.nodes n).kind = true -> ∀ bad : Bool,
   SoundAt Tryz.prog 167 (fun uf => zq 0 [.ro (.bp 2000 0), .ro (.sc (.int .i64 n))]) [(2000, .box (zC p f nm bad))]
     (fun rs st => rs = [] /\ xB st.ob [(2000, .box (zC p f nm (bad || !zX p f n nm)))]) := by
 induction n using Nat.strongRecOn with
 | ind n ih =>
 intro hnl hval bad
 rw [zH hnl] at hval
 have hkid := hD.kid hnl
 have hkx := hk p.nodes[n] (List.getElem_mem hnl)
 have heq := zcL hD f hnl nm
 have hx : (rows (zh true) p.nodes).getD n [] = zh true p.nodes[n] := zj _ _ hnl
 obtain ⟨v20, v16, v17, v19, v14, v15, v13⟩ := zls hval
 have hrec : ∀ i (hi : i < p.nodes[n].kids.length), ∀ b : Bool, SoundAt Tryz.prog 167 (fun uf => zq 0 [.ro (.bp 2000 0), .ro (.sc (.int .i64 p.nodes[n].kids[i]))]) [(2000, .box (zC p f nm b))]
     (fun rs st => rs = [] /\ xB st.ob [(2000, .box (zC p f nm (b || !zX p f p.nodes[n].kids[i] nm)))]) := fun i hi b => by
   have hft := xN (hD.deep n hnl) hnl hi
   unfold yG at hft
   rw [v20, v16, v17, v19] at hft
   have hv2 : xb (nAt p.nodes p.nodes[n].kids[i]).kind = true := hft
   obtain ⟨q0, q1, q2⟩ := hkid p.nodes[n].kids[i] (List.getElem_mem hi)
   have e : p.nodes[n].kids[i] = (p.nodes[n].kids[i].toNat : Int) := by omega
   have := ih p.nodes[n].kids[i].toNat q2 (by omega) (by rw [<- e]; exact hv2) b
   rw [<- e] at this
   exact this
 rw [v20, zaN] at heq
 generalize zX p f n nm = R at heq |-
 have hc1 : ((n : Int) < (p.nodes.length : Int)) = True := eq_true (by omega)
 generalize p.nodes[n] = x at hkid hkx heq hx hval v20 v16 v17 v19 v14 v15 v13 hrec
 have hhas := zcn nm x.name hnm
 have hfa := zaR p x.name hf
 simp only [zd] at hfa
 refine zm (fn := Tryz.f167) (c := Tryz.f167.body.getD .skip) (res := []) (n := 98) zg (by kernel_rfl) (by rfl) (by kernel_rfl) (by rfl) (by rfl) (by simp [zq]) (fun uf ub C hpin hpin2 hfull => ?_)
 simp only [Tryz.f167, Option.getD_some]
 refine Tri.step zg ?_
 simp +decide only [hc1, hx, zh, Int.natCast_nonneg, zd, za, zC, hpin, hpin2, go_sem, reduceAdd, reduceMul]
 refine Tri.ent ?_ (Ent.frb hfull 4)
 refine Tri.step zg ?_
 simp +decide only [zd, za, zC, hpin, hpin2, go_sem, reduceAdd, reduceMul]
 refine Tri.loop (ι := Nat) (fun i => i <= x.kids.length) (fun i => ⟨98, [(0, .bp 2000 0), (1, vI n), (4, .ip (zh true x) 0), (5, vI i)], [(2000, .box (zC p f nm (bad || !(x.kids.take i).all (fun kid => zX p f kid nm))))]⟩) (fun i => x.kids.length - i) 0 (by simp) ?_ ?_
 · refine Ent.weak ?_ ?_ ?_ ?_ <;> simp +decide [subT, subB, zl, zk, zn, St.get, look, vI, vB, vS, cI, cS, cB, zh, za, zC, roI]
 · rintro i hi
   refine zf zg _ ?_
   by_cases h' : i < x.kids.length
   · have e : ((i : Int) < (x.kids.length : Int)) = True := by simp [h']
     have hs := hrec i h' (bad || !(x.kids.take i).all (fun kid => zX p f kid nm))
     have hnx : ((bad || !(x.kids.take i).all (fun kid => zX p f kid nm)) || !zX p f x.kids[i] nm) = (bad || !(x.kids.take (i + 1)).all (fun kid => zX p f kid nm)) := by
       rw [zbF h']
       generalize (x.kids.take i).all (fun kid => zX p f kid nm) = A
       cases bad <;> cases A <;> rfl
     rw [hnx] at hs
     simp only [zC, cI, cB] at hs
     simp +decide only [e, h', zr _ _ h', zh, Int.natCast_nonneg, vB, vI, zd, za, zC, hpin, hpin2, go_sem, reduceAdd, reduceMul]
     refine yE hs hpin hfull [(2000, 2000)] [] [(2000, 2000)] ⟨rfl, rfl, rfl, rfl⟩ (fun uf => ?_) ?_
     · simp +decide only [zd, za, zC, hpin, hpin2, go_sem, reduceAdd, reduceMul]
     simp +decide only [zd, za, zC, hpin, hpin2, go_sem, reduceAdd, reduceMul]
     refine ⟨i + 1, h', by omega, Ent.weak ?_ ?_ ?_ ?_⟩
     all_goals simp +decide [subT, subB, zl, zk, zn, St.get, look, vI, vB, vS, cI, cS, cB, zh, za, zC, roI, w64s (n := x.kids.length) h' (by omega)]
   have hil : i = x.kids.length := by omega
   subst hil
   have e : ((x.kids.length : Int) < (x.kids.length : Int)) = False := by simp
   simp +decide only [e, zh, vB, vI, zd, za, zC, hpin, hpin2, go_sem, reduceAdd, reduceMul]
   refine Tri.step zg ?_
   simp +decide only [zh, zd, za, zC, hpin, hpin2, go_sem, reduceAdd, reduceMul]
   refine zf zg _ ?_
   cases h2 : x.kind == 2 with
   | true =>
     have heq2 : R = (ownB p f nm x && x.kids.all (fun kid => zX p f kid nm)) := heq
     have hown : ownB p f nm x = xd nm x.name := by
       have hk := eq_of_beq h2
       unfold ownB YB; rw [hk]; simp [inI]
     simp +decide only [h2, zd, za, zC, hpin, hpin2, go_sem, reduceAdd, reduceMul]
     cases hb : bad || !x.kids.all (fun kid => zX p f kid nm) with
     | true =>
       refine Tri.sched zg [(0, true), (1, false), (2, false), (3, false), (4, false), (5, false), (6, true), (7, true), (8, true), (10, true), (11, true), (9, false), (12, false), (13, false), (14, false), (15, false), (16, false), (17, false)] zT (by kernel_rfl) (fun C2 hC2 => ?_)
       have hp2 := zU hC2 hpin
       have hfin : (bad || !R) = true := by rw [heq2]; rw [Bool.or_eq_true] at hb |-; rcases hb with hb | hb; exact Or.inl hb; right; simp only [Bool.not_eq_true'] at hb |-; rw [hb, Bool.and_false]
       simp +decide only [hb, hfin, zd, za, zC, hp2, hpin, hpin2, go_sem, reduceAdd, reduceMul]
     | false =>
       refine Tri.sched zg [(0, true), (1, false), (2, false), (3, false), (4, false), (5, false), (6, true), (7, true), (8, true), (10, true), (11, true), (9, false), (12, false), (13, false), (14, false), (15, false), (16, false), (17, false)] zT (by kernel_rfl) (fun C2 hC2 => ?_)
       have hp2 := zU hC2 hpin
       obtain ⟨hb1, hb2⟩ := Bool.or_eq_false_iff.1 hb
       have hfin : (bad || !R) = !xd nm x.name := by
         rw [heq2, hb1, Bool.false_or]
         simp only [Bool.not_eq_false'] at hb2
         rw [hb2, Bool.and_true, hown]
       simp +decide only [hb, zd, za, zC, hp2, hpin, hpin2, go_sem, reduceAdd, reduceMul]
       refine ze hhas hp2 ?_
       simp +decide only [hfin, zd, za, zC, hp2, hpin, hpin2, go_sem, reduceAdd, reduceMul]
   | false =>
   cases h3 : x.kind == 3 with
   | true =>
     have heq2 : R = (ownB p f nm x && x.kids.all (fun kid => zX p f kid nm)) := heq
     have hown : ownB p f nm x = xd nm x.name := by
       have hk := eq_of_beq h3
       unfold ownB YB; rw [hk]; simp [inI]
     simp +decide only [h2, h3, zd, za, zC, hpin, hpin2, go_sem, reduceAdd, reduceMul]
     cases hb : bad || !x.kids.all (fun kid => zX p f kid nm) with
     | true =>
       refine Tri.sched zg [(0, true), (1, false), (2, false), (3, false), (4, false), (5, false), (6, true), (7, true), (8, true), (10, true), (11, true), (9, false), (12, false), (13, false), (14, false), (15, false), (16, false), (17, false)] zT (by kernel_rfl) (fun C2 hC2 => ?_)
       have hp2 := zU hC2 hpin
       have hfin : (bad || !R) = true := by rw [heq2]; rw [Bool.or_eq_true] at hb |-; rcases hb with hb | hb; exact Or.inl hb; right; simp only [Bool.not_eq_true'] at hb |-; rw [hb, Bool.and_false]
       simp +decide only [hb, hfin, zd, za, zC, hp2, hpin, hpin2, go_sem, reduceAdd, reduceMul]
     | false =>
       refine Tri.sched zg [(0, true), (1, false), (2, false), (3, false), (4, false), (5, false), (6, true), (7, true), (8, true), (10, true), (11, true), (9, false), (12, false), (13, false), (14, false), (15, false), (16, false), (17, false)] zT (by kernel_rfl) (fun C2 hC2 => ?_)
       have hp2 := zU hC2 hpin
       obtain ⟨hb1, hb2⟩ := Bool.or_eq_false_iff.1 hb
       have hfin : (bad || !R) = !xd nm x.name := by
         rw [heq2, hb1, Bool.false_or]
         simp only [Bool.not_eq_false'] at hb2
         rw [hb2, Bool.and_true, hown]
       simp +decide only [hb, zd, za, zC, hp2, hpin, hpin2, go_sem, reduceAdd, reduceMul]
       refine ze hhas hp2 ?_
       simp +decide only [hfin, zd, za, zC, hp2, hpin, hpin2, go_sem, reduceAdd, reduceMul]
   | false =>
   cases h4 : x.kind == 4 with
   | true =>
     have heq2 : R = (ownB p f nm x && x.kids.all (fun kid => zX p f kid nm)) := heq
     have hown : ownB p f nm x = xd nm x.name := by
       have hk := eq_of_beq h4
       unfold ownB YB; rw [hk]; simp [inI]
     simp +decide only [h2, h3, h4, zd, za, zC, hpin, hpin2, go_sem, reduceAdd, reduceMul]
     cases hb : bad || !x.kids.all (fun kid => zX p f kid nm) with
     | true =>
       refine Tri.sched zg [(0, true), (1, false), (2, false), (3, false), (4, false), (5, false), (6, true), (7, true), (8, true), (10, true), (11, true), (9, false), (12, false), (13, false), (14, false), (15, false), (16, false), (17, false)] zT (by kernel_rfl) (fun C2 hC2 => ?_)
       have hp2 := zU hC2 hpin
       have hfin : (bad || !R) = true := by rw [heq2]; rw [Bool.or_eq_true] at hb |-; rcases hb with hb | hb; exact Or.inl hb; right; simp only [Bool.not_eq_true'] at hb |-; rw [hb, Bool.and_false]
       simp +decide only [hb, hfin, zd, za, zC, hp2, hpin, hpin2, go_sem, reduceAdd, reduceMul]
     | false =>
       refine Tri.sched zg [(0, true), (1, false), (2, false), (3, false), (4, false), (5, false), (6, true), (7, true), (8, true), (10, true), (11, true), (9, false), (12, false), (13, false), (14, false), (15, false), (16, false), (17, false)] zT (by kernel_rfl) (fun C2 hC2 => ?_)
       have hp2 := zU hC2 hpin
       obtain ⟨hb1, hb2⟩ := Bool.or_eq_false_iff.1 hb
       have hfin : (bad || !R) = !xd nm x.name := by
         rw [heq2, hb1, Bool.false_or]
         simp only [Bool.not_eq_false'] at hb2
         rw [hb2, Bool.and_true, hown]
       simp +decide only [hb, zd, za, zC, hp2, hpin, hpin2, go_sem, reduceAdd, reduceMul]
       refine ze hhas hp2 ?_
       simp +decide only [hfin, zd, za, zC, hp2, hpin, hpin2, go_sem, reduceAdd, reduceMul]
   | false =>
   cases h5 : x.kind == 5 with
   | true =>
     have heq2 : R = (ownB p f nm x && x.kids.all (fun kid => zX p f kid nm)) := heq
     have hown : ownB p f nm x = xd nm x.name := by
       have hk := eq_of_beq h5
       unfold ownB YB; rw [hk]; simp [inI]
     simp +decide only [h2, h3, h4, h5, zd, za, zC, hpin, hpin2, go_sem, reduceAdd, reduceMul]
     cases hb : bad || !x.kids.all (fun kid => zX p f kid nm) with
     | true =>
       refine Tri.sched zg [(0, true), (1, false), (2, false), (3, false), (4, false), (5, false), (6, true), (7, true), (8, true), (10, true), (11, true), (9, false), (12, false), (13, false), (14, false), (15, false), (16, false), (17, false)] zT (by kernel_rfl) (fun C2 hC2 => ?_)
       have hp2 := zU hC2 hpin
       have hfin : (bad || !R) = true := by rw [heq2]; rw [Bool.or_eq_true] at hb |-; rcases hb with hb | hb; exact Or.inl hb; right; simp only [Bool.not_eq_true'] at hb |-; rw [hb, Bool.and_false]
       simp +decide only [hb, hfin, zd, za, zC, hp2, hpin, hpin2, go_sem, reduceAdd, reduceMul]
     | false =>
       refine Tri.sched zg [(0, true), (1, false), (2, false), (3, false), (4, false), (5, false), (6, true), (7, true), (8, true), (10, true), (11, true), (9, false), (12, false), (13, false), (14, false), (15, false), (16, false), (17, false)] zT (by kernel_rfl) (fun C2 hC2 => ?_)
       have hp2 := zU hC2 hpin
       obtain ⟨hb1, hb2⟩ := Bool.or_eq_false_iff.1 hb
       have hfin : (bad || !R) = !xd nm x.name := by
         rw [heq2, hb1, Bool.false_or]
         simp only [Bool.not_eq_false'] at hb2
         rw [hb2, Bool.and_true, hown]
       simp +decide only [hb, zd, za, zC, hp2, hpin, hpin2, go_sem, reduceAdd, reduceMul]
       refine ze hhas hp2 ?_
       simp +decide only [hfin, zd, za, zC, hp2, hpin, hpin2, go_sem, reduceAdd, reduceMul]
   | false =>
   cases h6 : x.kind == 6 with
   | true =>
     have heq2 : R = (ownB p f nm x && x.kids.all (fun kid => zX p f kid nm)) := heq
     have hown : ownB p f nm x = xd nm x.name := by
       have hk := eq_of_beq h6
       unfold ownB YB; rw [hk]; simp [inI]
     simp +decide only [h2, h3, h4, h5, h6, zd, za, zC, hpin, hpin2, go_sem, reduceAdd, reduceMul]
     cases hb : bad || !x.kids.all (fun kid => zX p f kid nm) with
     | true =>
       refine Tri.sched zg [(0, true), (1, false), (2, false), (3, false), (4, false), (5, false), (6, true), (7, true), (8, true), (10, true), (11, true), (9, false), (12, false), (13, false), (14, false), (15, false), (16, false), (17, false)] zT (by kernel_rfl) (fun C2 hC2 => ?_)
       have hp2 := zU hC2 hpin
       have hfin : (bad || !R) = true := by rw [heq2]; rw [Bool.or_eq_true] at hb |-; rcases hb with hb | hb; exact Or.inl hb; right; simp only [Bool.not_eq_true'] at hb |-; rw [hb, Bool.and_false]
       simp +decide only [hb, hfin, zd, za, zC, hp2, hpin, hpin2, go_sem, reduceAdd, reduceMul]
     | false =>
       refine Tri.sched zg [(0, true), (1, false), (2, false), (3, false), (4, false), (5, false), (6, true), (7, true), (8, true), (10, true), (11, true), (9, false), (12, false), (13, false), (14, false), (15, false), (16, false), (17, false)] zT (by kernel_rfl) (fun C2 hC2 => ?_)
       have hp2 := zU hC2 hpin
       obtain ⟨hb1, hb2⟩ := Bool.or_eq_false_iff.1 hb
       have hfin : (bad || !R) = !xd nm x.name := by
         rw [heq2, hb1, Bool.false_or]
         simp only [Bool.not_eq_false'] at hb2
         rw [hb2, Bool.and_true, hown]
       simp +decide only [hb, zd, za, zC, hp2, hpin, hpin2, go_sem, reduceAdd, reduceMul]
       refine ze hhas hp2 ?_
       simp +decide only [hfin, zd, za, zC, hp2, hpin, hpin2, go_sem, reduceAdd, reduceMul]
   | false =>
   have hu : YB x.kind = false := by
     unfold YB
     rw [v14, v15]
     have i2 : inI x.kind 2 6 = false := by
       apply Bool.eq_false_iff.2; intro hh
       have := zx hh
       have g2 : x.kind ≠ 2 := by simpa using h2
       have g3 : x.kind ≠ 3 := by simpa using h3
       have g4 : x.kind ≠ 4 := by simpa using h4
       have g5 : x.kind ≠ 5 := by simpa using h5
       have g6 : x.kind ≠ 6 := by simpa using h6
       omega
     rw [i2]; rfl
   unfold ownB at heq
   rw [hu, Bool.not_false, Bool.true_or, Bool.true_and] at heq
   cases h12 : x.kind == 12 with
   | false =>
     rw [h12, Bool.not_false, Bool.true_or, Bool.true_and] at heq
     simp +decide only [h2, h3, h4, h5, h6, h12, heq, zd, za, zC, hpin, hpin2, go_sem, reduceAdd, reduceMul]
   | true =>
   rw [h12, Bool.not_true, Bool.false_or] at heq
   simp +decide only [h2, h3, h4, h5, h6, h12, zd, za, zC, hpin, hpin2, go_sem, reduceAdd, reduceMul]
   refine Tri.sched zg [(0, true), (1, true), (2, true), (4, true), (5, true), (3, false), (6, false), (7, false)] zT (by kernel_rfl) (fun C2 hC2 => ?_)
   have hp2 := zU hC2 hpin
   simp +decide only [zd, za, zC, hp2, hpin, hpin2, go_sem, reduceAdd, reduceMul]
   refine ze hfa hp2 ?_
   unfold zjp at heq
   have hrg := Yj x.name p.fns 0
   have hfe : xO p.fns x.name = zbw x.name p.fns 0 := rfl
   rw [<- hfe] at hrg
   generalize xO p.fns x.name = at_ at heq hrg |-
   simp +decide only [zd, za, zC, hp2, hpin, hpin2, go_sem, reduceAdd, reduceMul]
   refine Tri.sched zg [(0, true), (1, false), (2, false), (3, false), (4, false), (5, false), (6, false), (7, false), (8, false), (9, false), (10, true), (11, false), (12, false), (13, false), (14, false), (15, false), (16, false), (17, false), (18, true), (19, true), (20, true), (21, true), (23, true), (28, true), (29, true), (30, true), (22, false), (24, false), (25, false), (26, false), (27, false), (31, false), (32, false), (33, false), (34, false), (35, false)] zT (by kernel_rfl) (fun C3 hC3 => ?_)
   have hp3 := zU hC3 hpin
   cases hb : bad || !x.kids.all (fun kid => zX p f kid nm) with
   | true =>
     have hfin : (bad || !R) = true := by rw [heq]; rw [Bool.or_eq_true] at hb |-; rcases hb with hb | hb; exact Or.inl hb; right; simp only [Bool.not_eq_true'] at hb |-; rw [hb, Bool.and_false]
     rcases zea p.fns at_.toNat with ⟨y, hy⟩ | hy
     · simp +decide only [hb, hfin, hy, fnC, zd, za, zC, hp3, hpin, hpin2, go_sem, reduceAdd, reduceMul]
     · simp +decide only [hb, hfin, hy, zd, za, zC, hp3, hpin, hpin2, go_sem, reduceAdd, reduceMul]
   | false =>
     obtain ⟨hb1, hb2⟩ := Bool.or_eq_false_iff.1 hb
     simp only [Bool.not_eq_false'] at hb2
     rw [hb2, Bool.and_true] at heq
     rw [hb1, Bool.false_or]
     by_cases ha : at_ < 0
     · have c1 : (at_ < 0) = True := eq_true ha
       have g0 : inI at_ 0 ((f : Int) - 1) = false := by apply Bool.eq_false_iff.2; intro hh; have := zx hh; omega
       rw [g0, Bool.false_and] at heq
       rcases zea p.fns at_.toNat with ⟨y, hy⟩ | hy
       · simp +decide only [hb, c1, heq, hy, fnC, zd, za, zC, hp3, hpin, hpin2, go_sem, reduceAdd, reduceMul]
       · simp +decide only [hb, c1, heq, hy, zd, za, zC, hp3, hpin, hpin2, go_sem, reduceAdd, reduceMul]
     · have c1 : (at_ < 0) = False := eq_false ha
       obtain ⟨m, rfl⟩ : ∃ m : Nat, at_ = m := ⟨at_.toNat, by omega⟩
       have hml : m < p.fns.length := by rcases hrg with h | h <;> omega
       have hy : (rows (fnC true) p.fns).getD m [] = fnC true p.fns[m] := zj _ _ hml
       have hc2 : ((m : Int) < (p.fns.length : Int)) = True := eq_true (by omega)
       rw [xk hml] at heq
       generalize p.fns[m] = y at hy heq
       by_cases hge : (f : Int) <= (m : Int)
       · have c2 : ((f : Int) <= (m : Int)) = True := eq_true hge
         have g0 : inI (m : Int) 0 ((f : Int) - 1) = false := by apply Bool.eq_false_iff.2; intro hh; have := zx hh; omega
         rw [g0, Bool.false_and] at heq
         simp +decide only [hb, c1, c2, heq, hy, hc2, fnC, Int.natCast_nonneg, ge_iff_le, zd, za, zC, hp3, hpin, hpin2, go_sem, reduceAdd, reduceMul]
       · have c2 : ((f : Int) <= (m : Int)) = False := eq_false hge
         have g0 : inI (m : Int) 0 ((f : Int) - 1) = true := by simp only [inI, Bool.and_eq_true, decide_eq_true_eq]; omega
         rw [g0, Bool.true_and] at heq
         simp +decide only [hb, c1, c2, heq, hy, hc2, fnC, bne, Int.natCast_nonneg, ge_iff_le, zd, za, zC, hp3, hpin, hpin2, go_sem, reduceAdd, reduceMul]
theorem zfb (S : Int -> List ByteArray -> Bool) (nodes : List NodeD) : ∀ (l : List Int) (k : Int) (nm : List ByteArray), Zv S nodes true nm (l ++ [k]) = (Zv S nodes true nm l && S k (ZE nodes nm l))
 | [], k, nm => by simp [Zv, ZE]
 | a :: r, k, nm => by
   simp only [List.cons_append, Zv]
   rw [zfb S nodes r k, Bool.and_assoc]
   rfl
theorem zkU (S : Int -> List ByteArray -> Bool) (nodes : List NodeD) (nm : List ByteArray) {l : List Int} {i : Nat} (h : i < l.length) : Zv S nodes true nm (l.take (i + 1)) = (Zv S nodes true nm (l.take i) && S l[i] (ZE nodes nm (l.take i))) := by
 rw [List.take_succ_eq_append_getElem h, zfb]
theorem xC {nodes : List NodeD} {n : Nat} (hd : dAt nodes n ≠ 0) (hn : n < nodes.length) : inI nodes[n].kids.length (zI nodes[n].kind).1 (zI nodes[n].kind).2 = true := by
 have hb := ZM nodes n hd
 simp only [Yq, Bool.and_eq_true, zau] at hb
 obtain ⟨_, _, hs, _⟩ := hb
 rwa [zH hn] at hs
def zpS (nm : List ByteArray) (x : NodeD) : List ByteArray := if x.kind == 13 then nm ++ [x.name] else nm
def zna (p : ProgramD) (f n : Nat) : Prop := Yg (nAt p.nodes n).kind = true -> ∀ (nm : List ByteArray) (bad : Bool), nm.length + 300 * n <= 4194304 ->
   SoundAt Tryz.prog 196 (fun uf => zq 0 [.ro (.bp 2000 0), .ro (.sc (.int .i64 n))]) [(2000, .box (zC p f nm bad))]
     (fun rs st => rs = [] /\ xB st.ob [(2000, .box (zC p f (zpS nm (nAt p.nodes n)) (bad || !zX p f n nm)))])
def zgF (p : ProgramD) (f n : Nat) : Prop := (nAt p.nodes n).kind == 20 -> ∀ (nm : List ByteArray) (bad : Bool), nm.length + 300 * n <= 4194304 ->
   SoundAt Tryz.prog 166 (fun uf => zq 0 [.ro (.bp 2000 0), .ro (.sc (.int .i64 n))]) [(2000, .box (zC p f nm bad))]
     (fun rs st => rs = [] /\ xB st.ob [(2000, .box (zC p f (ZE p.nodes nm (nAt p.nodes n).kids) (bad || !zX p f n nm)))])
theorem zoh (p : ProgramD) (hD : Deep p.nodes) (f : Nat) (hk : ∀ x ∈ p.nodes, x.kids.length <= 300) (n : Nat) (hnl : n < p.nodes.length) (ih : ∀ m, m < n -> zna p f m) : zgF p f n := by
 intro h20 nm bad hnm
 rw [zH hnl] at h20 |-
 have hkid := hD.kid hnl
 have hkx := hk p.nodes[n] (List.getElem_mem hnl)
 have heq := zcL hD f hnl nm
 have hx : (rows (zh true) p.nodes).getD n [] = zh true p.nodes[n] := zj _ _ hnl
 have hrec : ∀ i (hi : i < p.nodes[n].kids.length), ∀ (L : List ByteArray) (b : Bool), L.length + 300 * p.nodes[n].kids[i].toNat <= 4194304 -> SoundAt Tryz.prog 196 (fun uf => zq 0 [.ro (.bp 2000 0), .ro (.sc (.int .i64 p.nodes[n].kids[i]))]) [(2000, .box (zC p f L b))]
     (fun rs st => rs = [] /\ xB st.ob [(2000, .box (zC p f (zdW p.nodes true L p.nodes[n].kids[i]) (b || !zX p f p.nodes[n].kids[i] L)))]) := fun i hi L b hL => by
   have hft := xN (hD.deep n hnl) hnl hi
   unfold yG at hft
   rw [h20, if_pos rfl] at hft
   obtain ⟨q0, q1, q2⟩ := hkid p.nodes[n].kids[i] (List.getElem_mem hi)
   have e : p.nodes[n].kids[i] = (p.nodes[n].kids[i].toNat : Int) := by omega
   have := ih p.nodes[n].kids[i].toNat q2 (by rw [<- e]; exact hft) L b hL
   rw [<- e] at this
   exact this
 have hown : ownB p f nm p.nodes[n] = true := by
   have hk := eq_of_beq h20
   unfold ownB YB; rw [hk]; simp [inI]
 rw [hown, Bool.true_and, h20] at heq
 generalize zX p f n nm = R at heq |-
 have hc1 : ((n : Int) < (p.nodes.length : Int)) = True := eq_true (by omega)
 generalize p.nodes[n] = x at hkid hkx heq hx hrec
 refine zm (fn := Tryz.f166) (c := Tryz.f166.body.getD .skip) (res := []) (n := 33) zg (by kernel_rfl) (by rfl) (by kernel_rfl) (by rfl) (by rfl) (by simp [zq]) (fun uf ub C hpin hpin2 hfull => ?_)
 simp only [Tryz.f166, Option.getD_some]
 refine Tri.step zg ?_
 simp +decide only [zd, za, zC, hpin, hpin2, go_sem, reduceAdd, reduceMul]
 refine zf zg _ ?_
 simp +decide only [zd, za, zC, hpin, hpin2, go_sem, reduceAdd, reduceMul]
 refine Tri.loop (ι := Nat) (fun i => i <= x.kids.length) (fun i => ⟨33, [(0, .bp 2000 0), (1, vI n), (4, vI i)], [(2000, .box (zC p f (ZE p.nodes nm (x.kids.take i)) (bad || !Zv (zX p f) p.nodes true nm (x.kids.take i))))]⟩) (fun i => x.kids.length - i) 0 (by simp) ?_ ?_
 · have e1 : ZE p.nodes nm [] = nm := rfl
   have e2 : (bad || !Zv (zX p f) p.nodes true nm []) = bad := by simp [Zv]
   refine Ent.weak ?_ ?_ ?_ ?_ <;> simp +decide [subT, subB, zl, zk, zn, St.get, look, vI, vB, vS, cI, cS, cB, zh, za, zC, roI, e1, e2]
   all_goals simp [Zv]
 · rintro i hi
   refine zf zg _ ?_
   by_cases h' : i < x.kids.length
   · have e : ((i : Int) < (x.kids.length : Int)) = True := by simp [h']
     have hgl := Yx p.nodes (x.kids.take i) nm
     rw [List.length_take] at hgl
     obtain ⟨q0, q1, q2⟩ := hkid x.kids[i] (List.getElem_mem h')
     have hs := hrec i h' (ZE p.nodes nm (x.kids.take i)) (bad || !Zv (zX p f) p.nodes true nm (x.kids.take i)) (by omega)
     have hnx : ((bad || !Zv (zX p f) p.nodes true nm (x.kids.take i)) || !zX p f x.kids[i] (ZE p.nodes nm (x.kids.take i))) = (bad || !Zv (zX p f) p.nodes true nm (x.kids.take (i + 1))) := by
       rw [zkU _ _ _ h']
       generalize Zv (zX p f) p.nodes true nm (x.kids.take i) = A
       cases bad <;> cases A <;> rfl
     rw [hnx, <- zfe p.nodes nm h'] at hs
     simp only [zC, cI, cB] at hs
     simp +decide only [e, h', hc1, hx, zr _ _ h', zh, Int.natCast_nonneg, vB, vI, zd, za, zC, hpin, hpin2, go_sem, reduceAdd, reduceMul]
     refine yE hs hpin hfull [(2000, 2000)] [] [(2000, 2000)] ⟨rfl, rfl, rfl, rfl⟩ (fun uf => ?_) ?_
     · simp +decide only [zd, za, zC, hpin, hpin2, go_sem, reduceAdd, reduceMul]
     simp +decide only [zd, za, zC, hpin, hpin2, go_sem, reduceAdd, reduceMul]
     refine ⟨i + 1, h', by omega, Ent.weak ?_ ?_ ?_ ?_⟩
     all_goals simp +decide [subT, subB, zl, zk, zn, St.get, look, vI, vB, vS, cI, cS, cB, zh, za, zC, roI, w64s (n := x.kids.length) h' (by omega)]
   · have hil : i = x.kids.length := by omega
     subst hil
     have e : ((x.kids.length : Int) < (x.kids.length : Int)) = False := by simp
     simp +decide only [e, hc1, hx, heq, zh, Int.natCast_nonneg, vB, vI, zd, za, zC, hpin, hpin2, go_sem, reduceAdd, reduceMul]
theorem zoD (p : ProgramD) (hD : Deep p.nodes) (f : Nat) (hfl : f < p.fns.length) (hf : p.fns.length <= 1048576) (hn : p.nodes.length <= 1048576) (hk : ∀ x ∈ p.nodes, x.kids.length <= 300) (n : Nat) (hnl : n < p.nodes.length) (ih : ∀ m, m < n -> zgF p f m) : zna p f n := by
 intro hst nm bad hnm
 rw [zH hnl] at hst |-
 have hkid := hD.kid hnl
 have hkx := hk p.nodes[n] (List.getElem_mem hnl)
 have heq := zcL hD f hnl nm
 have hx : (rows (zh true) p.nodes).getD n [] = zh true p.nodes[n] := zj _ _ hnl
 have hsr := zx (show inI p.nodes[n].kind 13 19 = true from hst)
 have v20 : (p.nodes[n].kind == 20) = false := by apply Bool.eq_false_iff.2; intro hh; have := eq_of_beq hh; omega
 have v12 : (p.nodes[n].kind == 12) = false := by apply Bool.eq_false_iff.2; intro hh; have := eq_of_beq hh; omega
 have hsh := xC (hD.deep n hnl) hnl
 have hpos : 0 < p.nodes[n].kids.length := by
   have := zx hsh
   have h1 : 1 <= (zI p.nodes[n].kind).1 := by
     rcases (show p.nodes[n].kind = 13 \/ p.nodes[n].kind = 14 \/ p.nodes[n].kind = 15 \/ p.nodes[n].kind = 16 \/ p.nodes[n].kind = 17 \/ p.nodes[n].kind = 18 \/ p.nodes[n].kind = 19 by omega) with h | h | h | h | h | h | h <;> rw [h] <;> decide
   omega
 have hone : (p.nodes[n].kind == 16) = false -> (p.nodes[n].kind == 17) = false -> p.nodes[n].kids.length = 1 := fun h16 h17 => by
   have := zx hsh
   have g16 : p.nodes[n].kind ≠ 16 := by simpa using h16
   have g17 : p.nodes[n].kind ≠ 17 := by simpa using h17
   have h1 : (zI p.nodes[n].kind).2 = 1 := by
     rcases (show p.nodes[n].kind = 13 \/ p.nodes[n].kind = 14 \/ p.nodes[n].kind = 15 \/ p.nodes[n].kind = 18 \/ p.nodes[n].kind = 19 by omega) with h | h | h | h | h <;> rw [h] <;> decide
   omega
 have hval : ∀ b : Bool, SoundAt Tryz.prog 167 (fun uf => zq 0 [.ro (.bp 2000 0), .ro (.sc (.int .i64 p.nodes[n].kids[0]))]) [(2000, .box (zC p f nm b))]
     (fun rs st => rs = [] /\ xB st.ob [(2000, .box (zC p f nm (b || !zX p f p.nodes[n].kids[0] nm)))]) := fun b => by
   have hft := xN (hD.deep n hnl) hnl hpos
   have hv2 : xb (nAt p.nodes p.nodes[n].kids[0]).kind = true := by
     unfold yG at hft
     have h00 : decide ((0 : Int) < ((0 : Nat) : Int)) = false := by decide
     rw [v20, if_neg (by decide), h00, Bool.and_false, if_neg (by decide)] at hft
     split at hft
     · have := eq_of_beq hft; rw [this]; decide
     · exact hft
   obtain ⟨q0, q1, q2⟩ := hkid p.nodes[n].kids[0] (List.getElem_mem hpos)
   have e : p.nodes[n].kids[0] = (p.nodes[n].kids[0].toNat : Int) := by omega
   have := zcU p hD f hfl hf hn hk nm (by omega) p.nodes[n].kids[0].toNat (by omega) (by rw [<- e]; exact hv2) b
   rw [<- e] at this
   exact this
 have hblk : ∀ i (hi : i < p.nodes[n].kids.length), 0 < i -> ((p.nodes[n].kind == 16) = true \/ (p.nodes[n].kind == 17) = true) -> ∀ b : Bool, SoundAt Tryz.prog 166 (fun uf => zq 0 [.ro (.bp 2000 0), .ro (.sc (.int .i64 p.nodes[n].kids[i]))]) [(2000, .box (zC p f nm b))]
     (fun rs st => rs = [] /\ xB st.ob [(2000, .box (zC p f (ZE p.nodes nm (nAt p.nodes p.nodes[n].kids[i]).kids) (b || !zX p f p.nodes[n].kids[i] nm)))]) := fun i hi hi0 h67 b => by
   have hft := xN (hD.deep n hnl) hnl hi
   unfold yG at hft
   have h68 : (p.nodes[n].kind == 16 || p.nodes[n].kind == 17) = true := by rw [Bool.or_eq_true]; exact h67
   have hi1 : decide ((0 : Int) < (i : Int)) = true := decide_eq_true (by omega)
   rw [v20, if_neg (by decide), h68, hi1, Bool.true_and, if_pos rfl] at hft
   obtain ⟨q0, q1, q2⟩ := hkid p.nodes[n].kids[i] (List.getElem_mem hi)
   have e : p.nodes[n].kids[i] = (p.nodes[n].kids[i].toNat : Int) := by omega
   have := ih p.nodes[n].kids[i].toNat q2 (by rw [<- e]; exact hft) nm b (by omega)
   rw [<- e] at this
   exact this
 rw [v20, zaN] at heq
 unfold ownB at heq
 rw [v12, Bool.not_false, Bool.true_or, Bool.and_true] at heq
 generalize zX p f n nm = R at heq |-
 have hc1 : ((n : Int) < (p.nodes.length : Int)) = True := eq_true (by omega)
 have hc0 : ((0 : Int) < (p.nodes[n].kids.length : Int)) = True := eq_true (by omega)
 generalize p.nodes[n] = x at hkid hkx heq hx hsr v20 v12 hpos hone hval hblk hc0
 have hhas := zcn nm x.name (by omega)
 have hv1 := hval bad
 have ht1 : (x.kids.take 1).all (fun kid => zX p f kid nm) = zX p f x.kids[0] nm := by
   have := zbF (f := fun kid => zX p f kid nm) hpos
   simpa using this
 have hone2 : (x.kind == 16) = false -> (x.kind == 17) = false -> x.kids.all (fun kid => zX p f kid nm) = zX p f x.kids[0] nm := fun h16 h17 => by
   have h1 := hone h16 h17
   rw [<- ht1, List.take_of_length_le (by omega)]
 have hg0 : (row1 cI x.kids).getD (Int.toNat 0) [] = [cI x.kids[0]] := zr cI x.kids hpos
 simp only [zC, cI, cB] at hv1
 simp only [cI] at hg0
 refine zm (fn := Tryz.f196) (c := Tryz.f196.body.getD .skip) (res := []) (n := 83) zg (by kernel_rfl) (by rfl) (by kernel_rfl) (by rfl) (by rfl) (by simp [zq]) (fun uf ub C hpin hpin2 hfull => ?_)
 simp only [Tryz.f196, Option.getD_some]
 refine Tri.last (fun s => St.shb s 2000) (fun s => Ent.shb hfull 2000) ?_
 refine Tri.step zg ?_
 simp +decide only [hc1, hx, zh, Int.natCast_nonneg, zd, za, zC, hpin, hpin2, go_sem, reduceAdd, reduceMul]
 refine Tri.ent ?_ (Ent.frb hfull 4)
 refine Tri.step zg ?_
 simp +decide only [hc0, hpos, hg0, zh, Int.natCast_nonneg, zd, za, zC, hpin, hpin2, go_sem, reduceAdd, reduceMul]
 refine yE hv1 hpin hfull [(2000, 2000)] [] [(2000, 2000)] ⟨rfl, rfl, rfl, rfl⟩ (fun uf => ?_) ?_
 · simp +decide only [zd, za, zC, hpin, hpin2, go_sem, reduceAdd, reduceMul]
 simp +decide only [zh, zd, za, zC, hpin, hpin2, go_sem, reduceAdd, reduceMul]
 refine Tri.step zg ?_
 simp +decide only [zh, zd, za, zC, hpin, hpin2, go_sem, reduceAdd, reduceMul]
 refine zf zg _ ?_
 unfold zpS
 cases h13 : x.kind == 13 with
 | true =>
   have hk := eq_of_beq h13
   have heq2 : R = zX p f x.kids[0] nm := by
     rw [heq, hone2 (by rw [hk]; rfl) (by rw [hk]; rfl)]
     unfold YB; rw [hk]; simp [inI]
   rw [heq2]
   simp +decide only [h13, zd, za, zC, hpin, hpin2, go_sem, reduceAdd, reduceMul]
   have hfr := zgR nm
   have hb1 : nm.length <= 140737488355328 := by omega
   have hb2 : nm.length * 16 <= 140737488355328 := by omega
   have hb3 : nm.length + 1 <= 140737488355328 := by omega
   have hb4 : (nm.length + 1) * 16 <= 140737488355328 := by omega
   have htk := yK cS nm
   have hsn := zbd nm x.name
   simp only [cS] at hsn
   refine Tri.fork zg (.one 0 true (.one 2 true (.one 3 true (.one 4 true (.one 7 true (.one 8 true (.three 1 (.two 5 (.two 6 (.one 9 false (.one 10 false (.one 11 false (.one 12 false (.one 13 false .done))))) 9 (.one 6 false (.one 10 false (.one 11 false (.one 12 false (.one 13 false .done)))))) 9 (.one 5 false (.one 6 false (.one 10 false (.one 11 false (.one 12 false (.one 13 false .done))))))) 5 (.two 1 (.two 6 (.one 9 false (.one 10 false (.one 11 false (.one 12 false (.one 13 false .done))))) 9 (.one 6 false (.one 10 false (.one 11 false (.one 12 false (.one 13 false .done)))))) 9 (.one 1 false (.one 6 false (.one 10 false (.one 11 false (.one 12 false (.one 13 false .done))))))) 9 (.two 1 (.one 5 false (.one 6 false (.one 10 false (.one 11 false (.one 12 false (.one 13 false .done)))))) 5 (.one 1 false (.one 6 false (.one 10 false (.one 11 false (.one 12 false (.one 13 false .done)))))))))))))) zT (by kernel_rfl) (fun C2 hC2 => ?_)
   have hp2 := zU hC2 hpin
   simp +decide only [hfr, hb1, hb2, hb3, hb4, htk, hsn, zd, za, zC, hp2, hpin, hpin2, go_sem, reduceAdd, reduceMul]
 | false =>
 cases h14 : x.kind == 14 with
 | true =>
   have heq2 : R = (xd nm x.name && zX p f x.kids[0] nm) := by
     have hk := eq_of_beq h14
     rw [heq, hone2 (by rw [hk]; rfl) (by rw [hk]; rfl)]
     unfold YB; rw [hk]; simp [inI]
   simp +decide only [h13, h14, zd, za, zC, hpin, hpin2, go_sem, reduceAdd, reduceMul]
   focus
     cases hb : bad || !zX p f x.kids[0] nm with
     | true =>
       refine Tri.sched zg [(0, true), (1, false), (2, false), (3, false), (4, false), (5, false), (6, true), (7, true), (8, true), (10, true), (11, true), (9, false), (12, false), (13, false), (14, false), (15, false), (16, false), (17, false)] zT (by kernel_rfl) (fun C2 hC2 => ?_)
       have hp2 := zU hC2 hpin
       have hfin : (bad || !R) = true := by rw [heq2]; rw [Bool.or_eq_true] at hb |-; rcases hb with hb | hb; exact Or.inl hb; right; simp only [Bool.not_eq_true'] at hb |-; rw [hb, Bool.and_false]
       simp +decide only [hb, hfin, zd, za, zC, hp2, hpin, hpin2, go_sem, reduceAdd, reduceMul]
     | false =>
       refine Tri.sched zg [(0, true), (1, false), (2, false), (3, false), (4, false), (5, false), (6, true), (7, true), (8, true), (10, true), (11, true), (9, false), (12, false), (13, false), (14, false), (15, false), (16, false), (17, false)] zT (by kernel_rfl) (fun C2 hC2 => ?_)
       have hp2 := zU hC2 hpin
       obtain ⟨hb1, hb2⟩ := Bool.or_eq_false_iff.1 hb
       have hfin : (bad || !R) = !xd nm x.name := by
         rw [heq2, hb1, Bool.false_or]
         simp only [Bool.not_eq_false'] at hb2
         rw [hb2, Bool.and_true]
       simp +decide only [hb, zd, za, zC, hp2, hpin, hpin2, go_sem, reduceAdd, reduceMul]
       refine ze hhas hp2 ?_
       simp +decide only [hfin, zd, za, zC, hp2, hpin, hpin2, go_sem, reduceAdd, reduceMul]
 | false =>
 cases h15 : x.kind == 15 with
 | true =>
   have heq2 : R = (xd nm x.name && zX p f x.kids[0] nm) := by
     have hk := eq_of_beq h15
     rw [heq, hone2 (by rw [hk]; rfl) (by rw [hk]; rfl)]
     unfold YB; rw [hk]; simp [inI]
   simp +decide only [h13, h14, h15, zd, za, zC, hpin, hpin2, go_sem, reduceAdd, reduceMul]
   focus
     cases hb : bad || !zX p f x.kids[0] nm with
     | true =>
       refine Tri.sched zg [(0, true), (1, false), (2, false), (3, false), (4, false), (5, false), (6, true), (7, true), (8, true), (10, true), (11, true), (9, false), (12, false), (13, false), (14, false), (15, false), (16, false), (17, false)] zT (by kernel_rfl) (fun C2 hC2 => ?_)
       have hp2 := zU hC2 hpin
       have hfin : (bad || !R) = true := by rw [heq2]; rw [Bool.or_eq_true] at hb |-; rcases hb with hb | hb; exact Or.inl hb; right; simp only [Bool.not_eq_true'] at hb |-; rw [hb, Bool.and_false]
       simp +decide only [hb, hfin, zd, za, zC, hp2, hpin, hpin2, go_sem, reduceAdd, reduceMul]
     | false =>
       refine Tri.sched zg [(0, true), (1, false), (2, false), (3, false), (4, false), (5, false), (6, true), (7, true), (8, true), (10, true), (11, true), (9, false), (12, false), (13, false), (14, false), (15, false), (16, false), (17, false)] zT (by kernel_rfl) (fun C2 hC2 => ?_)
       have hp2 := zU hC2 hpin
       obtain ⟨hb1, hb2⟩ := Bool.or_eq_false_iff.1 hb
       have hfin : (bad || !R) = !xd nm x.name := by
         rw [heq2, hb1, Bool.false_or]
         simp only [Bool.not_eq_false'] at hb2
         rw [hb2, Bool.and_true]
       simp +decide only [hb, zd, za, zC, hp2, hpin, hpin2, go_sem, reduceAdd, reduceMul]
       refine ze hhas hp2 ?_
       simp +decide only [hfin, zd, za, zC, hp2, hpin, hpin2, go_sem, reduceAdd, reduceMul]
 | false =>
 have hu : YB x.kind = false := by
   unfold YB
   rw [h14, h15]
   have i2 : inI x.kind 2 6 = false := by
     apply Bool.eq_false_iff.2; intro hh
     have := zx hh
     omega
   rw [i2]; rfl
 rw [hu, Bool.not_false, Bool.true_or, Bool.true_and] at heq
 have hloop : ((x.kind == 16) = true \/ (x.kind == 17) = true) -> ∀ i (hi : i < x.kids.length), 0 < i -> SoundAt Tryz.prog 166 (fun uf => zq 0 [.ro (.bp 2000 0), .ro (.sc (.int .i64 x.kids[i]))]) [(2000, .box (zC p f nm (bad || !(x.kids.take i).all (fun kid => zX p f kid nm))))]
     (fun rs st => rs = [] /\ xB st.ob [(2000, .box (zC p f (ZE p.nodes nm (nAt p.nodes x.kids[i]).kids) (bad || !(x.kids.take (i + 1)).all (fun kid => zX p f kid nm))))]) := fun h67 i hi hi0 => by
   have hs := hblk i hi hi0 h67 (bad || !(x.kids.take i).all (fun kid => zX p f kid nm))
   have hnx : ((bad || !(x.kids.take i).all (fun kid => zX p f kid nm)) || !zX p f x.kids[i] nm) = (bad || !(x.kids.take (i + 1)).all (fun kid => zX p f kid nm)) := by
     rw [zbF hi]
     generalize (x.kids.take i).all (fun kid => zX p f kid nm) = A
     cases bad <;> cases A <;> rfl
   rw [hnx] at hs
   exact hs
 simp only [zC, cI, cB] at hloop
 cases h16 : x.kind == 16 with
 | true =>
   have h67 : (x.kind == 16) = true \/ (x.kind == 17) = true := by simp [h16]
   simp +decide only [h13, h14, h15, h16, zd, za, zC, hpin, hpin2, go_sem, reduceAdd, reduceMul]
   refine Tri.loop (ι := Nat) (fun i => 0 < i /\ i <= x.kids.length) (fun i => ⟨83, [(0, .bp 2000 0), (4, .ip (zh true x) 0), (5, vI i)], [(2000, .box (zC p f nm (bad || !(x.kids.take i).all (fun kid => zX p f kid nm))))]⟩) (fun i => x.kids.length - i) 1 ⟨by omega, by omega⟩ ?_ ?_
   · refine Ent.weak ?_ ?_ ?_ ?_ <;> simp +decide [ht1, subT, subB, zl, zk, zn, St.get, look, vI, vB, vS, cI, cS, cB, zh, za, zC, roI]
   · rintro i ⟨hi0, hi⟩
     refine zf zg _ ?_
     by_cases h' : i < x.kids.length
     · have e : ((i : Int) < (x.kids.length : Int)) = True := by simp [h']
       have hs := hloop h67 i h' hi0
       simp +decide only [e, h', zr _ _ h', zh, Int.natCast_nonneg, vB, vI, zd, za, zC, hpin, hpin2, go_sem, reduceAdd, reduceMul]
       refine yE hs hpin hfull [(2000, 2000)] [] [(2000, 2000)] ⟨rfl, rfl, rfl, rfl⟩ (fun uf => ?_) ?_
       · simp +decide only [zd, za, zC, hpin, hpin2, go_sem, reduceAdd, reduceMul]
       simp +decide only [zd, za, zC, hpin, hpin2, go_sem, reduceAdd, reduceMul]
       refine ⟨i + 1, ⟨by omega, h'⟩, by omega, Ent.weak ?_ ?_ ?_ ?_⟩
       all_goals simp +decide [subT, subB, zl, zk, zn, St.get, look, vI, vB, vS, cI, cS, cB, zh, za, zC, roI, w64s (n := x.kids.length) h' (by omega)]
     · have hil : i = x.kids.length := by omega
       subst hil
       have e : ((x.kids.length : Int) < (x.kids.length : Int)) = False := by simp
       simp +decide only [e, heq, zh, Int.natCast_nonneg, vB, vI, zd, za, zC, hpin, hpin2, go_sem, reduceAdd, reduceMul]
 | false =>
 cases h17 : x.kind == 17 with
 | true =>
   have h67 : (x.kind == 16) = true \/ (x.kind == 17) = true := by simp [h17]
   simp +decide only [h13, h14, h15, h16, h17, zd, za, zC, hpin, hpin2, go_sem, reduceAdd, reduceMul]
   refine Tri.loop (ι := Nat) (fun i => 0 < i /\ i <= x.kids.length) (fun i => ⟨83, [(0, .bp 2000 0), (4, .ip (zh true x) 0), (5, vI i)], [(2000, .box (zC p f nm (bad || !(x.kids.take i).all (fun kid => zX p f kid nm))))]⟩) (fun i => x.kids.length - i) 1 ⟨by omega, by omega⟩ ?_ ?_
   · refine Ent.weak ?_ ?_ ?_ ?_ <;> simp +decide [ht1, subT, subB, zl, zk, zn, St.get, look, vI, vB, vS, cI, cS, cB, zh, za, zC, roI]
   · rintro i ⟨hi0, hi⟩
     refine zf zg _ ?_
     by_cases h' : i < x.kids.length
     · have e : ((i : Int) < (x.kids.length : Int)) = True := by simp [h']
       have hs := hloop h67 i h' hi0
       simp +decide only [e, h', zr _ _ h', zh, Int.natCast_nonneg, vB, vI, zd, za, zC, hpin, hpin2, go_sem, reduceAdd, reduceMul]
       refine yE hs hpin hfull [(2000, 2000)] [] [(2000, 2000)] ⟨rfl, rfl, rfl, rfl⟩ (fun uf => ?_) ?_
       · simp +decide only [zd, za, zC, hpin, hpin2, go_sem, reduceAdd, reduceMul]
       simp +decide only [zd, za, zC, hpin, hpin2, go_sem, reduceAdd, reduceMul]
       refine ⟨i + 1, ⟨by omega, h'⟩, by omega, Ent.weak ?_ ?_ ?_ ?_⟩
       all_goals simp +decide [subT, subB, zl, zk, zn, St.get, look, vI, vB, vS, cI, cS, cB, zh, za, zC, roI, w64s (n := x.kids.length) h' (by omega)]
     · have hil : i = x.kids.length := by omega
       subst hil
       have e : ((x.kids.length : Int) < (x.kids.length : Int)) = False := by simp
       simp +decide only [e, heq, zh, Int.natCast_nonneg, vB, vI, zd, za, zC, hpin, hpin2, go_sem, reduceAdd, reduceMul]
 | false =>
 have hfin := hone2 h16 h17
 rw [hfin] at heq
 simp +decide only [h13, h14, h15, h16, h17, heq, zd, za, zC, hpin, hpin2, go_sem, reduceAdd, reduceMul]
theorem znI (p : ProgramD) (hD : Deep p.nodes) (f : Nat) (hfl : f < p.fns.length) (hf : p.fns.length <= 1048576) (hn : p.nodes.length <= 1048576) (hk : ∀ x ∈ p.nodes, x.kids.length <= 300) (n : Nat) : n < p.nodes.length -> zna p f n /\ zgF p f n := by
 induction n using Nat.strongRecOn with
 | ind n ih =>
 intro hnl
 exact ⟨zoD p hD f hfl hf hn hk n hnl (fun m hm => (ih m hm (by omega)).2), zoh p hD f hk n hnl (fun m hm => (ih m hm (by omega)).1)⟩
def St.nilr (st : St) (o j : Nat) (e : TypeId) : St := match look st.ob o with
 | some (.box cs) => (match cs[j]? with
   | some (.sc (.slice none 0 0)) => st.swap o (.box (cs.set j (.row false e [])))
   | _ => st)
 | _ => st
section
variable {P : Program} {w w1 : World} {C : Cx} {X : Nat -> Prop} {gh gh1 : Gh} {st : St} {a : Act} {v : V} {u : Value} {ob : List (Nat × Ob)} {S : Nat -> Prop} {K : St -> Prop}
theorem Ow.nilr {e : TypeId} {F : Nat -> Prop} (h : Ow P w S (.sc (.slice none 0 0)) u F) : Ow P w S (.row false e []) u F := by
 cases h with
 | sc h =>
   have h1 : Ow P w S (.row false e []) (.slice none 0 0) (fun k => (Value.slice none 0 0).ownBlock = some k \/ ∃ i j d, cellAt ([] : List (List D)) i j = some d /\ (fun _ _ _ => False : Nat -> Nat -> Nat -> Prop) i j k) :=
     Ow.row [] (fun _ _ _ => False) (World.ownsRow_nil w _ e _) (fun l hl => by simp at hl) (fun u hu => by simp at hu) (fun i j d hd => by simp [cellAt] at hd) (fun _ _ _ _ _ _ _ _ _ hh => hh.elim) (fun _ _ _ _ _ hh => hh.elim)
   refine h1.congr (fun k => ?_)
   constructor
   · rintro (hh | ⟨i, j, d, hd, hh⟩)
     · simp [Value.ownBlock] at hh
     · exact hh
   · exact fun hh => hh.elim
theorem Ent.nilr (o j : Nat) (e : TypeId) : Ent P C st (st.nilr o j e) := fun a w gh h => by
 unfold St.nilr
 split
 case h_2 => exact ⟨gh, h⟩
 rename_i cs ho
 split
 case h_2 => exact ⟨gh, h⟩
 rename_i hj
 have hbF : gh.F o (gh.bb o) := by cases h.obs o _ ho with | box xs G hb hl h1 hc hx dis nb hF => exact (hF _).2 (Or.inl rfl)
 refine ⟨_, h.swap (F := gh.F o) ho (by simp [Ob.like]) (Nat.le_refl _) (fun _ _ _ _ _ _ => rfl) (fun _ _ => rfl) (World.keptBut_refl w _) ?_ (fun k hk => Or.inl hk) (fun k hk => ⟨Or.inr hk, h.xF o _ k ho hk⟩) (fun cs' k _ hk he => h.xF o _ k ho hk (he ▸ hbF))⟩
 have hob := h.obs o _ ho
 have g1 : (gh.upd o (gh.hv o) (gh.bb o) (gh.bo o) (gh.F o)).F o = gh.F o := by simp [Gh.upd]
 have g2 : (gh.upd o (gh.hv o) (gh.bb o) (gh.bo o) (gh.F o)).bb o = gh.bb o := by simp [Gh.upd]
 have g3 : (gh.upd o (gh.hv o) (gh.bb o) (gh.bo o) (gh.F o)).bo o = gh.bo o := by simp [Gh.upd]
 cases hob with
 | box xs G hb hl h1 hc hx dis nb hF =>
   have back : ∀ q d, (cs.set j (.row false e []))[q]? = some d -> ∃ d0, cs[q]? = some d0 := fun q d hd => by
     rw [List.getElem?_set] at hd
     split at hd
     · rename_i ejq; subst ejq; exact ⟨_, hj⟩
     · exact ⟨d, hd⟩
   refine ObR.box xs G (by rw [g2]; exact hb) (by rw [List.length_set]; exact hl) h1 (by rw [g2, g3]; exact hc) (fun q d hd => ?_) (fun q q' d d' k hd hd' => ?_) (fun q d k hd hk => ?_) (fun k => ?_)
   · rw [List.getElem?_set] at hd
     split at hd
     · rename_i ejq
       subst ejq
       split at hd
       · cases hd; exact (hx j _ hj).nilr
       · cases hd
     · exact hx q d hd
   · obtain ⟨d0, h0⟩ := back _ _ hd
     obtain ⟨d1, h2⟩ := back _ _ hd'
     exact dis q q' d0 d1 k h0 h2
   · obtain ⟨d0, h0⟩ := back _ _ hd
     rw [g2]; exact nb q d0 k h0 hk
   · rw [g1, g2, hF k]
     constructor
     · rintro (hh | ⟨q, d, hd, hk⟩)
       · exact Or.inl hh
       · right
         by_cases eq : j = q
         · subst eq
           exact ⟨j, .row false e [], by rw [List.getElem?_set_self (List.getElem?_eq_some_iff.1 hd).1], hk⟩
         · exact ⟨q, d, by rw [List.getElem?_set_ne eq]; exact hd, hk⟩
     · rintro (hh | ⟨q, d, hd, hk⟩)
       · exact Or.inl hh
       · obtain ⟨d0, h0⟩ := back _ _ hd
         exact Or.inr ⟨q, d0, h0, hk⟩
end
attribute [go_sem] St.nilr
theorem YI (p : ProgramD) (hf : p.fns.length <= 1048576) (hn : p.nodes.length <= 1048576) (hk : ∀ x ∈ p.nodes, x.kids.length <= 1048576) (hpl : ∀ f ∈ p.fns, f.params.length <= 1048576) : zw Tryz.prog 105 [.ro (zd p)] (fun rs st => rs = [(false, [cB (yx p)])]) := by
 have hps := zeB p hf hn hk hpl
 have hvs := fun fn => zcS p fn hf hn hk hpl
 have hvl := fun fn => xX p fn hpl hn
 simp only [zd] at hps hvs
 unfold yx
 refine zm (fn := Tryz.f105) (c := Tryz.f105.body.getD .skip) (res := [.tm 2]) (n := 97) zg (by kernel_rfl) (by rfl) (by kernel_rfl) (by rfl) (by rfl) (by simp [zq]) (fun uf ub C hpin hpin2 hfull => ?_)
 simp only [Tryz.f105, Option.getD_some]
 refine Tri.step zg ?_
 simp +decide only [zd, za, zC, hpin, go_sem, reduceAdd, reduceMul]
 refine Tri.ent ?_ (Ent.frb hfull 1)
 refine Tri.step zg ?_
 simp +decide only [zd, za, zC, hpin, go_sem, reduceAdd, reduceMul]
 refine ze hps hpin ?_
 cases h0 : Zw p with
 | false => simp +decide only [zd, za, zC, hpin, go_sem, reduceAdd, reduceMul]
 | true =>
 have hG := yA h0
 simp +decide only [zd, za, zC, hpin, go_sem, reduceAdd, reduceMul]
 refine Tri.step zg ?_
 simp +decide only [zd, za, zC, hpin, go_sem, reduceAdd, reduceMul]
 refine Tri.loop (ι := Nat) (fun i => i <= p.fns.length /\ zK (xE p) i = true) (fun i => ⟨97, [(1, .ip (za true p) 0), (2, vB false), (3, vI i)], []⟩) (fun i => p.fns.length - i) 0 ⟨by simp, rfl⟩ ?_ ?_
 · refine Ent.weak ?_ ?_ ?_ ?_ <;> simp +decide [subT, subB, zl, zk, zn, St.get, look, vI, vB, vS, cI, cS, cB, zh, za, zC, roI]
 · rintro i ⟨hi, hq⟩
   refine zf zg _ ?_
   by_cases h' : i < p.fns.length
   · have e : ((i : Int) < (p.fns.length : Int)) = True := by simp [h']
     have hx : (rows (fnC true) p.fns).getD i [] = fnC true p.fns[i] := zj _ _ h'
     have hok := hG.fn i h'
     have hfe : xE p i = (zdH p i && (zX p i p.fns[i].body (parN p.fns[i].params) && (decide (p.fns[i].ret < 0) || zX p i p.fns[i].ret (ZE p.nodes (parN p.fns[i].params) (nAt p.nodes p.fns[i].body).kids)))) := by unfold xE; rw [xk h']
     have hplx := hpl p.fns[i] (List.getElem_mem h')
     have hp3 := zec hok
     obtain ⟨⟨b0, b1⟩, hret⟩ := Zb hok
     have hbk : (nAt p.nodes p.fns[i].body).kind == 20 := by
       simp only [Xh, Bool.and_eq_true, zaQ] at hok
       exact hok.2.2.2.2.1.2
     have hrk : ¬ p.fns[i].ret < 0 -> xb (nAt p.nodes p.fns[i].ret).kind = true := fun hnr => by
       simp only [Xh, Bool.and_eq_true] at hok
       have hr := hok.2.2.2.2.2
       unfold zhS at hr
       split at hr
       · have := eq_of_beq hr; omega
       · exact (Bool.and_eq_true_iff.1 hr).2
     generalize p.fns[i] = g at hx hok hfe hplx hp3 b0 b1 hret hbk hrk
     have hvs1 := hvs i
     have hvl1 := hvl i
     unfold zdH at hfe
     simp +decide only [e, Int.natCast_nonneg, za, vB, vI, zd, za, zC, hpin, go_sem, reduceAdd, reduceMul]
     refine ze hvs1 hpin ?_
     generalize Xs p i = l at hvl1 hfe |-
     have hva := fun s => Xt l s (by omega)
     have htl := yq (varC false) l
     have htl2 := yq (varC true) l
     simp +decide only [zd, za, zC, hpin, go_sem, reduceAdd, reduceMul]
     refine Tri.loop (ι := Nat) (fun j => j <= l.length /\ zK (zfP l) j = true) (fun j => ⟨97, [(1, .ip (za true p) 0), (2, vB false), (3, vI i), (4, .ref 4 [] l.length), (5, vI j)], [(4, .row 96 (rows (varC false) l))]⟩) (fun j => l.length - j) 0 ⟨by simp, rfl⟩ ?_ ?_
     · refine Ent.weak ?_ ?_ ?_ ?_ <;> simp +decide [subT, subB, zl, zk, zn, St.get, look, vI, vB, vS, cI, cS, cB, zh, za, zC, roI]
     · rintro j ⟨hj, hq2⟩
       refine zf zg _ ?_
       by_cases hj' : j < l.length
       · have e2 : ((j : Int) < (l.length : Int)) = True := by simp [hj']
         have hov : zfP l j = (yC l l[j].name == (j : Int)) := by simp [zfP, List.getD, hj']
         simp +decide only [e2, hj', XC _ _ hj', zj _ _ hj', varC, htl, htl2, Int.natCast_nonneg, vB, vI, zd, za, zC, hpin, go_sem, reduceAdd, reduceMul]
         refine ze (hva l[j].name) hpin ?_
         cases hz : yC l l[j].name == (j : Int) with
         | false =>
           have hff : zK (zfP l) l.length = false := zA hj' (by rw [hov, hz])
           rw [hff, Bool.false_and] at hfe
           have hff2 : zK (xE p) p.fns.length = false := zA h' hfe
           simp +decide only [hz, hff2, bne, htl, htl2, zd, za, zC, hpin, go_sem, reduceAdd, reduceMul]
         | true =>
           simp +decide only [hz, bne, htl, htl2, zd, za, zC, hpin, go_sem, reduceAdd, reduceMul]
           refine ⟨j + 1, ⟨hj', by rw [zQ, hq2, hov, hz]; rfl⟩, by omega, Ent.weak ?_ ?_ ?_ ?_⟩
           all_goals simp +decide [subT, subB, zl, zk, zn, St.get, look, vI, vB, vS, cI, cS, cB, zh, za, zC, roI, w64s (n := l.length) hj' (by omega)]
       · have hjl : j = l.length := by omega
         subst hjl
         have e2 : ((l.length : Int) < (l.length : Int)) = False := by simp
         rw [hq2, Bool.true_and] at hfe
         simp +decide only [e2, vB, vI, zd, za, zC, hpin, go_sem, reduceAdd, reduceMul]
         refine Tri.ent ?_ (Ent.nilr 39 3 9)
         simp +decide only [zd, za, zC, hpin, go_sem, reduceAdd, reduceMul]
         refine Tri.last (fun s => St.shb s 39) (fun s => Ent.shb hfull 39) ?_
         refine Tri.loop (ι := Nat) (fun j => j <= g.params.length) (fun j => ⟨97, [(1, .ip (za true p) 0), (2, vB false), (3, vI i), (6, .bp 39 0), (7, vI j)], [(39, .box [.row true 83 (rows (zh true) p.nodes), .row true 104 (rows (fnC true) p.fns), cI i, .row false 9 (row1 cS (parN (g.params.take j))), cB false])]⟩) (fun j => g.params.length - j) 0 (by simp) ?_ ?_
         · refine Ent.weak ?_ ?_ ?_ ?_ <;> simp +decide [subT, subB, zl, zk, zn, St.get, look, vI, vB, vS, cI, cS, cB, zh, za, zC, roI, parN, row1]
         · rintro j hj
           refine zf zg _ ?_
           by_cases hj' : j < g.params.length
           · have e3 : ((j : Int) < (g.params.length : Int)) = True := by simp [hj']
             have hy : (rows (zy true) g.params).getD j [] = zy true g.params[j] := zj _ _ hj'
             have hsn := zhw hj'
             have hll : (parN (g.params.take j)).length <= 3 := by rw [xu, List.length_take]; omega
             have hl2 : (parN (g.params.take (j + 1))).length = (parN (g.params.take j)).length + 1 := by rw [xu, xu, List.length_take, List.length_take]; omega
             have htk := yK cS (parN (g.params.take j))
             have hb1 : (parN (g.params.take j)).length + 1 <= 140737488355328 := by omega
             have hb2 : ((parN (g.params.take j)).length + 1) * 16 <= 140737488355328 := by omega
             simp only [cS] at hsn
             simp +decide only [e, e3, hx, fnC, Int.natCast_nonneg, vB, vI, zd, za, zC, hpin, go_sem, reduceAdd, reduceMul]
             refine Tri.fork zg (.one 0 true (.one 1 true (.one 2 true (.one 3 true (.one 5 true (.one 7 true (.one 11 true (.one 6 true (.one 8 true (.one 9 true (.one 10 true (.one 12 true (.one 13 true (.one 14 true (.two 4 (.one 15 false (.one 16 false (.one 17 false (.one 18 false (.one 19 false .done))))) 15 (.one 4 false (.one 16 false (.one 17 false (.one 18 false (.one 19 false .done)))))))))))))))))))) zT (by kernel_rfl) (fun C2 hC2 => ?_)
             have hp2 := zU hC2 hpin
             simp +decide only [e, e3, hx, hy, zy, fnC, htk, hsn, hb1, hb2, hl2, Int.natCast_nonneg, vB, vI, zd, za, zC, hp2, hpin, go_sem, reduceAdd, reduceMul]
             refine ⟨?_, ?_⟩ <;> refine ⟨j + 1, hj', by omega, Ent.weak ?_ ?_ ?_ ?_⟩
             all_goals simp +decide [subT, subB, zl, zk, zn, St.get, look, vI, vB, vS, cI, cS, cB, zh, za, zC, roI, hl2, w64s (n := g.params.length) hj' (by omega)]
           · have hjl : j = g.params.length := by omega
             subst hjl
             have e3 : ((g.params.length : Int) < (g.params.length : Int)) = False := by simp
             have hnl : (parN g.params).length <= 3 := by rw [xu]; omega
             obtain ⟨b, hbb⟩ : ∃ b : Nat, g.body = b := ⟨g.body.toNat, by omega⟩
             have hbl : b < p.nodes.length := by omega
             have hk3 : ∀ x ∈ p.nodes, x.kids.length <= 300 := fun x hx => by have := hG.deep.few x hx; omega
             have hkf := hG.deep.few p.nodes[b] (List.getElem_mem hbl)
             have hfew := hG.few
             have hblk := (znI p hG.deep i h' hf hn hk3 b hbl).2
             unfold zgF at hblk
             rw [hbb] at hbk hfe
             have hgl := Yx p.nodes (nAt p.nodes b).kids (parN g.params)
             rw [zH hbl] at hgl
             have hs1 := hblk hbk (parN g.params) false (by omega)
             rw [zH hbl] at hs1 hfe
             generalize hnm : parN g.params = nm0 at hnl hfe hgl hs1 |-
             generalize ZE p.nodes nm0 p.nodes[b].kids = L at hfe hgl hs1
             have hvs := fun r hr hv => zcU p hG.deep i h' hf hn hk3 L (by omega) r hr hv (false || !zX p i b nm0)
             generalize zX p i b nm0 = B1 at hfe hs1 hvs
             simp only [zC, cI, cB, Bool.false_or] at hs1 hvs
             simp +decide only [e, e3, hx, fnC, hbb, hnm, Int.natCast_nonneg, vB, vI, zd, za, zC, hpin, go_sem, reduceAdd, reduceMul]
             refine yE hs1 hpin hfull [(2000, 39)] [] [(2000, 39)] ⟨rfl, rfl, rfl, rfl⟩ (fun uf => ?_) ?_
             · simp +decide only [zd, za, zC, hpin, go_sem, reduceAdd, reduceMul]
             rcases hret with hneg | ⟨x0, x1⟩
             · have y0 : (0 <= g.ret) = False := eq_false (by omega)
               have y1 : decide (g.ret < 0) = true := decide_eq_true hneg
               rw [y1, Bool.true_or, Bool.and_true] at hfe
               simp +decide only [e, hx, fnC, y0, Int.natCast_nonneg, zd, za, zC, hpin, go_sem, reduceAdd, reduceMul]
               cases B1 with
               | false =>
                 have hff : zK (xE p) p.fns.length = false := zA h' hfe
                 simp +decide only [hff, zd, za, zC, hpin, go_sem, reduceAdd, reduceMul]
               | true =>
                 simp +decide only [zd, za, zC, hpin, go_sem, reduceAdd, reduceMul]
                 refine ⟨i + 1, ⟨h', by rw [zQ, hq, hfe]; rfl⟩, by omega, Ent.weak ?_ ?_ ?_ ?_⟩
                 all_goals simp +decide [subT, subB, zl, zk, zn, St.get, look, vI, vB, vS, cI, cS, cB, zh, za, zC, roI, w64s (n := p.fns.length) h' (by omega)]
             · have y0 : (0 <= g.ret) = True := eq_true x0
               have y1 : decide (g.ret < 0) = false := decide_eq_false (by omega)
               rw [y1, Bool.false_or] at hfe
               obtain ⟨r, hrr⟩ : ∃ r : Nat, g.ret = r := ⟨g.ret.toNat, by omega⟩
               have hrl : r < p.nodes.length := by omega
               have hrk2 := hrk (by omega)
               rw [hrr] at hfe hrk2
               have hs2 := hvs r hrl hrk2
               generalize zX p i r L = B2 at hfe hs2
               simp +decide only [e, hx, fnC, y0, hrr, Int.natCast_nonneg, zd, za, zC, hpin, go_sem, reduceAdd, reduceMul]
               refine yE hs2 hpin hfull [(2000, 39)] [] [(2000, 39)] ⟨rfl, rfl, rfl, rfl⟩ (fun uf => ?_) ?_
               · simp +decide only [zd, za, zC, hpin, go_sem, reduceAdd, reduceMul]
               have hB : (!B1 || !B2) = !(B1 && B2) := by cases B1 <;> cases B2 <;> rfl
               rw [hB]
               generalize (B1 && B2) = B3 at hfe |-
               cases B3 with
               | false =>
                 have hff : zK (xE p) p.fns.length = false := zA h' hfe
                 simp +decide only [hff, zd, za, zC, hpin, go_sem, reduceAdd, reduceMul]
               | true =>
                 simp +decide only [zd, za, zC, hpin, go_sem, reduceAdd, reduceMul]
                 refine ⟨i + 1, ⟨h', by rw [zQ, hq, hfe]; rfl⟩, by omega, Ent.weak ?_ ?_ ?_ ?_⟩
                 all_goals simp +decide [subT, subB, zl, zk, zn, St.get, look, vI, vB, vS, cI, cS, cB, zh, za, zC, roI, w64s (n := p.fns.length) h' (by omega)]
   · have hil : i = p.fns.length := by omega
     subst hil
     have e : ((p.fns.length : Int) < (p.fns.length : Int)) = False := by simp
     simp +decide only [e, vB, vI, zd, za, zC, hpin, go_sem, reduceAdd, reduceMul]
     refine zf zg _ ?_
     simp +decide only [hq, zd, za, zC, hpin, go_sem, reduceAdd, reduceMul]
theorem zeA {p : ProgramD} (h : zG p <= 1048576) : ∀ f ∈ p.fns, f.params.length <= 1048576 := by
 unfold zG at h
 intro f hf
 obtain ⟨i, hi, rfl⟩ := List.getElem_of_mem hf
 have h1 := ZI ya hi
 have h3 : p.fns[i].params.length <= ya p.fns[i] := by unfold ya; omega
 omega
def vAt (l : List VarD) (j : Int) : VarD := l.getD j.toNat vr0
def zan (l : List VarD) (s : ByteArray) : Int := if yC l s < 0 then 0 else (vAt l (yC l s)).ty
def zhR (t : Int) : Bool := t == 2 || (t == 3 || t == 4)
def prTy (ps : List ParamD) (i : Nat) : Int := (ps.map (fun x => x.ty)).getD i 0
def YP (T : Int -> Int) (p : ProgramD) (x : NodeD) : Bool :=
 decide (0 <= xO p.fns x.name) && (((fAt p.fns (xO p.fns x.name)).params.length : Int) == (x.kids.length : Int) && zK (fun i => T (x.kids.getD i 0) == prTy (fAt p.fns (xO p.fns x.name)).params i) x.kids.length)
def ziq (T : Int -> Int) (p : ProgramD) (l : List VarD) (x : NodeD) : Int :=
 if x.kind == 1 || x.kind == 7 then 1
 else if x.kind == 2 then zan l x.name
 else if x.kind == 3 then (if zhR (zan l x.name) then 1 else 0)
 else if x.kind == 4 then (if zhR (zan l x.name) then 2 else 0)
 else if x.kind == 5 then (if zan l x.name == 2 then 3 else 0)
 else if x.kind == 6 then (if zan l x.name == 2 then 4 else 0)
 else if x.kind == 8 then (if T (x.kids.getD 0 0) == 1 then 2 else 0)
 else if x.kind == 9 || (x.kind == 10 || x.kind == 11) then (if T (x.kids.getD 0 0) == 1 && T (x.kids.getD 1 0) == 1 then 1 else 0)
 else if x.kind == 12 then (if YP T p x then (fAt p.fns (xO p.fns x.name)).res else 0)
 else 0
def zlw (p : ProgramD) (l : List VarD) : Nat -> Int -> Int
 | 0, _ => 0
 | d + 1, k => ziq (zlw p l d) p l (nAt p.nodes k)
def yj (p : ProgramD) (l : List VarD) (k : Int) : Int := zlw p l (k.toNat + 1) k
theorem zhl {f g : Nat -> Bool} {n : Nat} (h : ∀ i, i < n -> f i = g i) : zK f n = zK g n := by
 rw [Bool.eq_iff_iff, xt, xt]
 exact ⟨fun hh i hi => by rw [<- h i hi]; exact hh i hi, fun hh i hi => by rw [h i hi]; exact hh i hi⟩
theorem zig {T U : Int -> Int} (p : ProgramD) (x : NodeD) (h : ∀ kid ∈ x.kids, T kid = U kid) : YP T p x = YP U p x := by
 unfold YP
 congr 2
 apply zhl
 intro i hi
 have hg : x.kids.getD i 0 = x.kids[i] := by simp [List.getD, hi]
 rw [hg, h x.kids[i] (List.getElem_mem hi)]
theorem zcZ {T U : Int -> Int} (p : ProgramD) (l : List VarD) (x : NodeD) (hs : inI x.kids.length (zI x.kind).1 (zI x.kind).2 = true) (h : ∀ kid ∈ x.kids, T kid = U kid) : ziq T p l x = ziq U p l x := by
 have hsr := zx hs
 have get : ∀ i, i < x.kids.length -> T (x.kids.getD i 0) = U (x.kids.getD i 0) := fun i hi => by
   have hg : x.kids.getD i 0 = x.kids[i] := by simp [List.getD, hi]
   rw [hg, h x.kids[i] (List.getElem_mem hi)]
 unfold ziq
 rw [zig p x h]
 by_cases h8 : x.kind = 8
 · rw [h8] at hsr
   have h0 : 0 < x.kids.length := by have := hsr.1; simp [zI] at this; omega
   rw [get 0 h0]
   simp [h8]
 · by_cases h9 : x.kind = 9 \/ x.kind = 10 \/ x.kind = 11
   · have h0 : 1 < x.kids.length := by
       rcases h9 with h9 | h9 | h9 <;> rw [h9] at hsr <;> have := hsr.1 <;> simp [zI] at this <;> omega
     rw [get 0 (by omega), get 1 h0]
   · have e8 : (x.kind == 8) = false := by simpa using h8
     have e9 : (x.kind == 9 || (x.kind == 10 || x.kind == 11)) = false := by
       simp only [Bool.or_eq_false_iff, beq_eq_false_iff_ne]
       exact ⟨fun e => h9 (Or.inl e), fun e => h9 (Or.inr (Or.inl e)), fun e => h9 (Or.inr (Or.inr e))⟩
     rw [e8, e9]
     rfl
theorem zkr {p : ProgramD} (hD : Deep p.nodes) (l : List VarD) : ∀ (d n : Nat), n < p.nodes.length -> n < d -> zlw p l d n = yj p l n := by
 intro d
 induction d using Nat.strongRecOn with
 | ind d ih =>
 intro n hn hd
 obtain ⟨e, rfl⟩ : ∃ e, d = e + 1 := ⟨d - 1, by omega⟩
 unfold yj
 have e2 : ((n : Int).toNat + 1) = n + 1 := by omega
 rw [e2]
 unfold zlw
 rw [zH hn]
 apply zcZ p l _ (xC (hD.deep n hn) hn)
 intro kid hk
 obtain ⟨q0, q1, q2⟩ := hD.kid hn kid hk
 obtain ⟨m, rfl⟩ : ∃ m : Nat, kid = m := ⟨kid.toNat, by omega⟩
 have h1 := ih e (by omega) m (by omega) (by omega)
 by_cases hne : n = e
 · subst hne; rfl
 · have h2 := ih n (by omega) m (by omega) (by omega)
   rw [h1, h2]
theorem zjx {p : ProgramD} (hD : Deep p.nodes) (l : List VarD) {n : Nat} (hn : n < p.nodes.length) : yj p l n = ziq (yj p l) p l p.nodes[n] := by
 have e2 : ((n : Int).toNat + 1) = n + 1 := by omega
 unfold yj
 rw [e2]
 conv => lhs; unfold zlw
 rw [zH hn]
 apply zcZ p l _ (xC (hD.deep n hn) hn)
 intro kid hk
 obtain ⟨q0, q1, q2⟩ := hD.kid hn kid hk
 obtain ⟨m, rfl⟩ : ∃ m : Nat, kid = m := ⟨kid.toNat, by omega⟩
 exact zkr hD l n m (by omega) (by omega)
theorem zcg (l : List VarD) (s : ByteArray) (hl : l.length <= 4194304) : zw Tryz.prog 102 [.ro (.imm 96 (rows (varC true) l)), .ro (.sc (.string s))] (fun rs st => rs = [(false, [cI (zan l s)])]) := by
 refine zm (fn := Tryz.f102) (c := Tryz.f102.body.getD .skip) (res := [.tm 4]) (n := 16) zg (by kernel_rfl) (by rfl) (by kernel_rfl) (by rfl) (by rfl) (by simp [zq]) (fun uf ub C hpin hpin2 hfull => ?_)
 simp only [Tryz.f102, Option.getD_some]
 have hva := Xu l s hl
 have hrg := zaS s l 0
 have hfe : yC l s = zcC s l 0 := rfl
 rw [<- hfe] at hrg
 unfold zan
 refine Tri.step zg ?_
 simp +decide only [zd, za, hpin, go_sem, reduceAdd, reduceMul]
 refine Tri.step zg ?_
 simp +decide only [zd, za, hpin, go_sem, reduceAdd, reduceMul]
 refine ze hva hpin ?_
 generalize yC l s = at_ at hrg |-
 simp +decide only [zd, za, hpin, go_sem, reduceAdd, reduceMul]
 refine Tri.step zg ?_
 by_cases ha : at_ < 0
 · have c1 : (at_ < 0) = True := eq_true ha
   simp +decide only [c1, zd, za, hpin, go_sem, reduceAdd, reduceMul]
 · have c1 : (at_ < 0) = False := eq_false ha
   obtain ⟨m, rfl⟩ : ∃ m : Nat, at_ = m := ⟨at_.toNat, by omega⟩
   have hml : m < l.length := by rcases hrg with h | h <;> omega
   have c2 : ((m : Int) < (l.length : Int)) = True := eq_true (by omega)
   have hv : vAt l (m : Int) = l[m] := by simp [vAt, List.getD, hml]
   simp +decide only [c1, zd, za, hpin, go_sem, reduceAdd, reduceMul]
   refine zf zg _ ?_
   simp +decide only [c2, hv, zj _ _ hml, varC, Int.natCast_nonneg, zd, za, hpin, go_sem, reduceAdd, reduceMul]
theorem zcf (l : List VarD) (s : ByteArray) (hl : l.length <= 4194304) : zw Tryz.prog 97 [.ro (.imm 96 (rows (varC true) l)), .ro (.sc (.string s))] (fun rs st => rs = [(false, [cI (zan l s)])]) := by
 refine zm (fn := Tryz.f97) (c := Tryz.f97.body.getD .skip) (res := [.tm 4]) (n := 16) zg (by kernel_rfl) (by rfl) (by kernel_rfl) (by rfl) (by rfl) (by simp [zq]) (fun uf ub C hpin hpin2 hfull => ?_)
 simp only [Tryz.f97, Option.getD_some]
 have hva := Xt l s hl
 have hrg := zaS s l 0
 have hfe : yC l s = zcC s l 0 := rfl
 rw [<- hfe] at hrg
 unfold zan
 refine Tri.step zg ?_
 simp +decide only [zd, za, hpin, go_sem, reduceAdd, reduceMul]
 refine Tri.step zg ?_
 simp +decide only [zd, za, hpin, go_sem, reduceAdd, reduceMul]
 refine ze hva hpin ?_
 generalize yC l s = at_ at hrg |-
 simp +decide only [zd, za, hpin, go_sem, reduceAdd, reduceMul]
 refine Tri.step zg ?_
 by_cases ha : at_ < 0
 · have c1 : (at_ < 0) = True := eq_true ha
   simp +decide only [c1, zd, za, hpin, go_sem, reduceAdd, reduceMul]
 · have c1 : (at_ < 0) = False := eq_false ha
   obtain ⟨m, rfl⟩ : ∃ m : Nat, at_ = m := ⟨at_.toNat, by omega⟩
   have hml : m < l.length := by rcases hrg with h | h <;> omega
   have c2 : ((m : Int) < (l.length : Int)) = True := eq_true (by omega)
   have hv : vAt l (m : Int) = l[m] := by simp [vAt, List.getD, hml]
   simp +decide only [c1, zd, za, hpin, go_sem, reduceAdd, reduceMul]
   refine zf zg _ ?_
   simp +decide only [c2, hv, zj _ _ hml, varC, Int.natCast_nonneg, zd, za, hpin, go_sem, reduceAdd, reduceMul]
theorem zjJ {ps : List ParamD} {i : Nat} (h : i < ps.length) : prTy ps i = ps[i].ty := by simp [prTy, List.getD, h]
theorem zbD (p : ProgramD) (l : List VarD) (hl : l.length <= 4194304) (hf : p.fns.length <= 1048576) (hn : p.nodes.length <= 1048576) (hk : ∀ x ∈ p.nodes, x.kids.length <= 300) (n : Nat) (hnl : n < p.nodes.length)
   (ih : ∀ kid ∈ p.nodes[n].kids, zw Tryz.prog 119 [.ro (zd p), .ro (.imm 96 (rows (varC true) l)), .ro (.sc (.int .i64 kid))] (fun rs st => rs = [(false, [cI (yj p l kid)])])) :
   zw Tryz.prog 178 [.ro (zd p), .ro (.imm 96 (rows (varC true) l)), .ro (.sc (.int .i64 n))] (fun rs st => rs = [(false, [cB (YP (yj p l) p p.nodes[n])])]) := by
 have hkx := hk p.nodes[n] (List.getElem_mem hnl)
 have hx : (rows (zh true) p.nodes).getD n [] = zh true p.nodes[n] := zj _ _ hnl
 have hc1 : ((n : Int) < (p.nodes.length : Int)) = True := eq_true (by omega)
 generalize p.nodes[n] = x at hkx hx ih
 have hfa := Xi p x.name hf
 have hrg := Yj x.name p.fns 0
 have hfe : xO p.fns x.name = zbw x.name p.fns 0 := rfl
 rw [<- hfe] at hrg
 simp only [zd] at hfa ih
 unfold YP
 refine zm (fn := Tryz.f178) (c := Tryz.f178.body.getD .skip) (res := [.tm 6]) (n := 59) zg (by kernel_rfl) (by rfl) (by kernel_rfl) (by rfl) (by rfl) (by simp [zq]) (fun uf ub C hpin hpin2 hfull => ?_)
 simp only [Tryz.f178, Option.getD_some]
 refine Tri.step zg ?_
 simp +decide only [zd, za, hpin, go_sem, reduceAdd, reduceMul]
 refine Tri.ent ?_ (Ent.frb hfull 3)
 refine Tri.step zg ?_
 simp +decide only [hc1, hx, zh, Int.natCast_nonneg, zd, za, hpin, go_sem, reduceAdd, reduceMul]
 refine Tri.ent ?_ (Ent.frb hfull 7)
 refine Tri.step zg ?_
 simp +decide only [zd, za, hpin, go_sem, reduceAdd, reduceMul]
 refine ze hfa hpin ?_
 generalize xO p.fns x.name = at_ at hrg |-
 simp +decide only [zd, za, hpin, go_sem, reduceAdd, reduceMul]
 refine Tri.step zg ?_
 refine zf zg _ ?_
 simp +decide only [zd, za, hpin, go_sem, reduceAdd, reduceMul]
 refine Tri.sched zg [(0, false), (1, false), (2, false), (3, true), (5, true), (10, true), (4, true), (6, true), (7, true), (8, true), (9, true), (11, false), (12, false), (13, false), (14, false)] zT (by kernel_rfl) (fun C2 hC2 => ?_)
 have hp2 := zU hC2 hpin
 by_cases ha : at_ < 0
 · have c1 : (at_ < 0) = True := eq_true ha
   have c2 : decide (0 <= at_) = false := decide_eq_false (by omega)
   rcases zea p.fns at_.toNat with ⟨y, hy⟩ | hy
   · simp +decide only [c1, c2, hy, fnC, zh, zd, za, hp2, hpin, go_sem, reduceAdd, reduceMul]
   · simp +decide only [c1, c2, hy, zh, zd, za, hp2, hpin, go_sem, reduceAdd, reduceMul]
 have c1 : (at_ < 0) = False := eq_false ha
 have c2 : decide (0 <= at_) = true := decide_eq_true (by omega)
 obtain ⟨m, rfl⟩ : ∃ m : Nat, at_ = m := ⟨at_.toNat, by omega⟩
 have hml : m < p.fns.length := by rcases hrg with h | h <;> omega
 have hy : (rows (fnC true) p.fns).getD m [] = fnC true p.fns[m] := zj _ _ hml
 have hc2 : ((m : Int) < (p.fns.length : Int)) = True := eq_true (by omega)
 rw [xk hml]
 generalize p.fns[m] = y at hy
 cases hlen : (y.params.length : Int) == (x.kids.length : Int) with
 | false =>
   simp +decide only [c1, c2, hy, hc2, hlen, fnC, zh, bne, Int.natCast_nonneg, zd, za, hp2, hpin, go_sem, reduceAdd, reduceMul]
 | true =>
 have hle := eq_of_beq hlen
 simp +decide only [c1, c2, hy, hc2, hlen, fnC, zh, bne, Int.natCast_nonneg, zd, za, hp2, hpin, go_sem, reduceAdd, reduceMul]
 refine Tri.step zg ?_
 simp +decide only [zh, zd, za, hpin, go_sem, reduceAdd, reduceMul]
 refine Tri.loop (ι := Nat) (fun i => i <= x.kids.length /\ zK (fun i => yj p l (x.kids.getD i 0) == prTy y.params i) i = true) (fun i => ⟨59, [(1, .imm 96 (rows (varC true) l)), (3, .ip (za true p) 0), (6, vB false), (7, .ip (zh true x) 0), (8, vI m), (36, roI x.kids), (37, vI x.kids.length), (38, vI i)], []⟩) (fun i => x.kids.length - i) 0 ⟨by simp, rfl⟩ ?_ ?_
 · refine Ent.weak ?_ ?_ ?_ ?_ <;> simp +decide [subT, subB, zl, zk, zn, St.get, look, vI, vB, vS, cI, cS, cB, zh, za, roI]
 · rintro i ⟨hi, hq⟩
   refine zf zg _ ?_
   by_cases h' : i < x.kids.length
   · have e : ((i : Int) < (x.kids.length : Int)) = True := by simp [h']
     have hip : i < y.params.length := by omega
     have e2 : ((i : Int) < (y.params.length : Int)) = True := eq_true (by omega)
     have hg : x.kids.getD i 0 = x.kids[i] := by simp [List.getD, h']
     have hpt := zjJ hip
     have hz : (rows (zy true) y.params).getD i [] = zy true y.params[i] := zj _ _ hip
     have hih := ih x.kids[i] (List.getElem_mem h')
     simp +decide only [e, h', zr _ _ h', Int.natCast_nonneg, zh, za, vB, vI, zd, za, hpin, go_sem, reduceAdd, reduceMul]
     refine Tri.sched zg [(1, true), (2, true), (4, true), (6, true), (10, true), (0, true), (5, true), (7, true), (8, true), (9, true), (11, true), (12, true), (13, true), (3, false), (14, false)] zT (by kernel_rfl) (fun C3 hC3 => ?_)
     have hp3 := zU hC3 hpin
     simp +decide only [e2, hy, hc2, hz, fnC, zy, Int.natCast_nonneg, zd, za, hp3, go_sem, reduceAdd, reduceMul]
     refine ze hih hp3 ?_
     cases hc : yj p l x.kids[i] == y.params[i].ty with
     | false =>
       have hff : zK (fun i => yj p l (x.kids.getD i 0) == prTy y.params i) x.kids.length = false := zA h' (by simp only [hg, hpt, hc])
       simp +decide only [hc, hff, bne, zd, za, hp3, hpin, go_sem, reduceAdd, reduceMul]
     | true =>
       simp +decide only [hc, bne, zd, za, hp3, hpin, go_sem, reduceAdd, reduceMul]
       refine ⟨i + 1, ⟨h', by rw [zQ, hq, hg, hpt, hc]; rfl⟩, by omega, Ent.weak ?_ ?_ ?_ ?_⟩
       all_goals simp +decide [subT, subB, zl, zk, zn, St.get, look, vI, vB, vS, cI, cS, cB, zh, za, roI, w64s (n := x.kids.length) h' (by omega)]
   · have hil : i = x.kids.length := by omega
     subst hil
     have e : ((x.kids.length : Int) < (x.kids.length : Int)) = False := by simp
     simp +decide only [e, vB, vI, zd, za, hpin, go_sem, reduceAdd, reduceMul]
     refine zf zg _ ?_
     simp +decide only [hq, zd, za, hpin, go_sem, reduceAdd, reduceMul]
theorem YR (p : ProgramD) (hD : Deep p.nodes) (l : List VarD) (hl : l.length <= 4194304) (hf : p.fns.length <= 1048576) (hn : p.nodes.length <= 1048576) (hk : ∀ x ∈ p.nodes, x.kids.length <= 300) (n : Nat) : n < p.nodes.length ->
   zw Tryz.prog 119 [.ro (zd p), .ro (.imm 96 (rows (varC true) l)), .ro (.sc (.int .i64 n))] (fun rs st => rs = [(false, [cI (yj p l n)])]) := by
 induction n using Nat.strongRecOn with
 | ind n ih =>
 intro hnl
 have hkid := hD.kid hnl
 have hkx := hk p.nodes[n] (List.getElem_mem hnl)
 have hsh := zx (xC (hD.deep n hnl) hnl)
 have hrec : ∀ kid ∈ p.nodes[n].kids, zw Tryz.prog 119 [.ro (zd p), .ro (.imm 96 (rows (varC true) l)), .ro (.sc (.int .i64 kid))] (fun rs st => rs = [(false, [cI (yj p l kid)])]) := fun kid hkk => by
   obtain ⟨q0, q1, q2⟩ := hkid kid hkk
   have e : kid = (kid.toNat : Int) := by omega
   have := ih kid.toNat q2 (by omega)
   rw [<- e] at this
   exact this
 have hcr := zbD p l hl hf hn hk n hnl hrec
 have heq := zjx hD l hnl
 have hx : (rows (zh true) p.nodes).getD n [] = zh true p.nodes[n] := zj _ _ hnl
 have hc1 : ((n : Int) < (p.nodes.length : Int)) = True := eq_true (by omega)
 generalize yj p l n = R at heq |-
 generalize p.nodes[n] = x at hkid hkx hsh hrec hcr heq hx
 have hvt := zcg l x.name hl
 have hfa := Xi p x.name hf
 simp only [zd] at hfa hrec hcr
 have hrg := Yj x.name p.fns 0
 have hfe : xO p.fns x.name = zbw x.name p.fns 0 := rfl
 rw [<- hfe] at hrg
 unfold ziq at heq
 generalize zan l x.name = tv at heq hvt
 refine zm (fn := Tryz.f119) (c := Tryz.f119.body.getD .skip) (res := [.tm 6]) (n := 105) zg (by kernel_rfl) (by rfl) (by kernel_rfl) (by rfl) (by rfl) (by simp [zq]) (fun uf ub C hpin hpin2 hfull => ?_)
 simp only [Tryz.f119, Option.getD_some]
 refine Tri.step zg ?_
 simp +decide only [zd, za, hpin, go_sem, reduceAdd, reduceMul]
 refine Tri.ent ?_ (Ent.frb hfull 3)
 refine Tri.step zg ?_
 simp +decide only [hc1, hx, zh, Int.natCast_nonneg, zd, za, hpin, go_sem, reduceAdd, reduceMul]
 refine Tri.ent ?_ (Ent.frb hfull 7)
 refine Tri.step zg ?_
 simp +decide only [zd, za, hpin, go_sem, reduceAdd, reduceMul]
 refine ze hvt hpin ?_
 simp +decide only [zd, za, hpin, go_sem, reduceAdd, reduceMul]
 refine Tri.step zg ?_
 cases h1 : x.kind == 1 with
 | true =>
   have ek := eq_of_beq h1
   rw [ek] at heq
   simp +decide only [Bool.or_true, Bool.true_or, Bool.or_false, Bool.false_or, if_true, if_false, Int.reduceBEq, Bool.false_eq_true] at heq
   simp +decide only [h1, heq, zh, zd, za, hpin, go_sem, reduceAdd, reduceMul]
 | false =>
 cases h7 : x.kind == 7 with
 | true =>
   have ek := eq_of_beq h7
   rw [ek] at heq
   simp +decide only [Bool.or_true, Bool.true_or, Bool.or_false, Bool.false_or, if_true, if_false, Int.reduceBEq, Bool.false_eq_true] at heq
   simp +decide only [h1, h7, heq, zh, zd, za, hpin, go_sem, reduceAdd, reduceMul]
 | false =>
 cases h2 : x.kind == 2 with
 | true =>
   have ek := eq_of_beq h2
   rw [ek] at heq
   simp +decide only [Bool.or_true, Bool.true_or, Bool.or_false, Bool.false_or, if_true, if_false, Int.reduceBEq, Bool.false_eq_true] at heq
   simp +decide only [h1, h7, h2, heq, zh, zd, za, hpin, go_sem, reduceAdd, reduceMul]
 | false =>
 cases h3 : x.kind == 3 with
 | true =>
   have ek := eq_of_beq h3
   rw [ek] at heq
   simp +decide only [Bool.or_true, Bool.true_or, Bool.or_false, Bool.false_or, if_true, if_false, Int.reduceBEq, Bool.false_eq_true] at heq
   unfold zhR at heq
   cases t2 : tv == 2 with
   | true =>
     simp +decide only [t2, Bool.true_or, if_true] at heq
     simp +decide only [h1, h7, h2, h3, t2, heq, zh, zd, za, hpin, go_sem, reduceAdd, reduceMul]
   | false =>
   cases t3 : tv == 3 with
   | true =>
     simp +decide only [t2, t3, Bool.true_or, Bool.false_or, if_true] at heq
     simp +decide only [h1, h7, h2, h3, t2, t3, heq, zh, zd, za, hpin, go_sem, reduceAdd, reduceMul]
   | false =>
   cases t4 : tv == 4 with
   | true =>
     simp +decide only [t2, t3, t4, Bool.true_or, Bool.false_or, if_true] at heq
     simp +decide only [h1, h7, h2, h3, t2, t3, t4, heq, zh, zd, za, hpin, go_sem, reduceAdd, reduceMul]
   | false =>
   simp +decide only [t2, t3, t4, Bool.false_or, if_false, Bool.false_eq_true] at heq
   simp +decide only [h1, h7, h2, h3, t2, t3, t4, zh, zd, za, hpin, go_sem, reduceAdd, reduceMul]
   refine zf zg _ ?_
   simp +decide only [heq, zd, za, hpin, go_sem, reduceAdd, reduceMul]
 | false =>
 cases h4 : x.kind == 4 with
 | true =>
   have ek := eq_of_beq h4
   rw [ek] at heq
   simp +decide only [Bool.or_true, Bool.true_or, Bool.or_false, Bool.false_or, if_true, if_false, Int.reduceBEq, Bool.false_eq_true] at heq
   unfold zhR at heq
   cases t2 : tv == 2 with
   | true =>
     simp +decide only [t2, Bool.true_or, if_true] at heq
     simp +decide only [h1, h7, h2, h3, h4, t2, heq, zh, zd, za, hpin, go_sem, reduceAdd, reduceMul]
   | false =>
   cases t3 : tv == 3 with
   | true =>
     simp +decide only [t2, t3, Bool.true_or, Bool.false_or, if_true] at heq
     simp +decide only [h1, h7, h2, h3, h4, t2, t3, heq, zh, zd, za, hpin, go_sem, reduceAdd, reduceMul]
   | false =>
   cases t4 : tv == 4 with
   | true =>
     simp +decide only [t2, t3, t4, Bool.true_or, Bool.false_or, if_true] at heq
     simp +decide only [h1, h7, h2, h3, h4, t2, t3, t4, heq, zh, zd, za, hpin, go_sem, reduceAdd, reduceMul]
   | false =>
   simp +decide only [t2, t3, t4, Bool.false_or, if_false, Bool.false_eq_true] at heq
   simp +decide only [h1, h7, h2, h3, h4, t2, t3, t4, zh, zd, za, hpin, go_sem, reduceAdd, reduceMul]
   refine zf zg _ ?_
   simp +decide only [heq, zd, za, hpin, go_sem, reduceAdd, reduceMul]
 | false =>
 cases h5 : x.kind == 5 with
 | true =>
   have ek := eq_of_beq h5
   rw [ek] at heq
   simp +decide only [Bool.or_true, Bool.true_or, Bool.or_false, Bool.false_or, if_true, if_false, Int.reduceBEq, Bool.false_eq_true] at heq
   cases t2 : tv == 2 with
   | true =>
     simp +decide only [t2, if_true] at heq
     simp +decide only [h1, h7, h2, h3, h4, h5, t2, heq, zh, zd, za, hpin, go_sem, reduceAdd, reduceMul]
   | false =>
   simp +decide only [t2, if_false, Bool.false_eq_true] at heq
   simp +decide only [h1, h7, h2, h3, h4, h5, t2, zh, zd, za, hpin, go_sem, reduceAdd, reduceMul]
   refine zf zg _ ?_
   simp +decide only [heq, zd, za, hpin, go_sem, reduceAdd, reduceMul]
 | false =>
 cases h6 : x.kind == 6 with
 | true =>
   have ek := eq_of_beq h6
   rw [ek] at heq
   simp +decide only [Bool.or_true, Bool.true_or, Bool.or_false, Bool.false_or, if_true, if_false, Int.reduceBEq, Bool.false_eq_true] at heq
   cases t2 : tv == 2 with
   | true =>
     simp +decide only [t2, if_true] at heq
     simp +decide only [h1, h7, h2, h3, h4, h5, h6, t2, heq, zh, zd, za, hpin, go_sem, reduceAdd, reduceMul]
   | false =>
   simp +decide only [t2, if_false, Bool.false_eq_true] at heq
   simp +decide only [h1, h7, h2, h3, h4, h5, h6, t2, zh, zd, za, hpin, go_sem, reduceAdd, reduceMul]
   refine zf zg _ ?_
   simp +decide only [heq, zd, za, hpin, go_sem, reduceAdd, reduceMul]
 | false =>
 cases h8 : x.kind == 8 with
 | true =>
   have ek := eq_of_beq h8
   rw [ek] at heq
   simp +decide only [Bool.or_true, Bool.true_or, Bool.or_false, Bool.false_or, if_true, if_false, Int.reduceBEq, Bool.false_eq_true] at heq
   have hpos : 0 < x.kids.length := by rw [ek] at hsh; have := hsh.1; simp [zI] at this; omega
   have hg0 : (row1 cI x.kids).getD (Int.toNat 0) [] = [cI x.kids[0]] := zr cI x.kids hpos
   have hc0 : ((0 : Int) < (x.kids.length : Int)) = True := eq_true (by omega)
   have hk0 : x.kids.getD 0 0 = x.kids[0] := by simp [List.getD, hpos]
   have hih := hrec x.kids[0] (List.getElem_mem hpos)
   rw [hk0] at heq
   simp only [cI] at hg0
   simp +decide only [h1, h7, h2, h3, h4, h5, h6, h8, zh, zd, za, hpin, go_sem, reduceAdd, reduceMul]
   refine Tri.sched zg [(1, true), (2, true), (0, true), (3, false), (4, false), (5, false), (6, false), (7, false)] zT (by kernel_rfl) (fun C2 hC2 => ?_)
   have hp2 := zU hC2 hpin
   simp +decide only [hg0, hc0, hpos, zd, za, hp2, go_sem, reduceAdd, reduceMul]
   refine ze hih hp2 ?_
   cases hT : yj p l x.kids[0] == 1 with
   | true =>
     simp +decide only [hT, if_true] at heq
     simp +decide only [hT, heq, zd, za, hp2, hpin, go_sem, reduceAdd, reduceMul]
   | false =>
   simp +decide only [hT, if_false, Bool.false_eq_true] at heq
   simp +decide only [hT, zd, za, hp2, hpin, go_sem, reduceAdd, reduceMul]
   refine zf zg _ ?_
   simp +decide only [heq, zd, za, hpin, go_sem, reduceAdd, reduceMul]
 | false =>
 cases h9 : x.kind == 9 with
 | true =>
   have ek := eq_of_beq h9
   rw [ek] at heq
   simp +decide only [Bool.or_true, Bool.true_or, Bool.or_false, Bool.false_or, if_true, if_false, Int.reduceBEq, Bool.false_eq_true] at heq
   have hpos : 1 < x.kids.length := by rw [ek] at hsh; have := hsh.1; simp [zI] at this; omega
   have hg0 : (row1 cI x.kids).getD (Int.toNat 0) [] = [cI (x.kids[0]'(by omega))] := zr cI x.kids (by omega)
   have hg1 : (row1 cI x.kids).getD (Int.toNat 1) [] = [cI x.kids[1]] := zr cI x.kids hpos
   have hc0 : ((0 : Int) < (x.kids.length : Int)) = True := eq_true (by omega)
   have hc01 : ((1 : Int) < (x.kids.length : Int)) = True := eq_true (by omega)
   have hk0 : x.kids.getD 0 0 = x.kids[0]'(by omega) := by simp [List.getD, show 0 < x.kids.length by omega]
   have hk1 : x.kids.getD 1 0 = x.kids[1] := by simp [List.getD, hpos]
   have hih := hrec (x.kids[0]'(by omega)) (List.getElem_mem _)
   have hih1 := hrec x.kids[1] (List.getElem_mem hpos)
   rw [hk0, hk1] at heq
   simp only [cI] at hg0 hg1
   simp +decide only [h1, h7, h2, h3, h4, h5, h6, h8, h9, zh, zd, za, hpin, go_sem, reduceAdd, reduceMul]
   refine Tri.sched zg [(1, true), (2, true), (0, true), (3, false), (4, false), (5, false), (6, false), (7, false), (8, false), (10, true), (11, true), (9, true), (12, false), (13, false), (14, false), (15, false), (16, false), (17, false)] zT (by kernel_rfl) (fun C2 hC2 => ?_)
   have hp2 := zU hC2 hpin
   simp +decide only [hg0, hc0, hpos, zd, za, hp2, go_sem, reduceAdd, reduceMul]
   refine ze hih hp2 ?_
   cases hT : yj p l (x.kids[0]'(by omega)) == 1 with
   | false =>
     simp +decide only [hT, Bool.false_and, if_false, Bool.false_eq_true] at heq
     simp +decide only [hT, hg0, hg1, hc0, hc01, hpos, zd, za, hp2, hpin, go_sem, reduceAdd, reduceMul]
     refine zf zg _ ?_
     simp +decide only [heq, zd, za, hpin, go_sem, reduceAdd, reduceMul]
   | true =>
   simp +decide only [hT, hg0, hg1, hc0, hc01, hpos, zd, za, hp2, go_sem, reduceAdd, reduceMul]
   refine ze hih1 hp2 ?_
   cases hT1 : yj p l x.kids[1] == 1 with
   | true =>
     simp +decide only [hT, hT1, Bool.true_and, if_true] at heq
     simp +decide only [hT1, heq, zd, za, hp2, hpin, go_sem, reduceAdd, reduceMul]
   | false =>
   simp +decide only [hT, hT1, Bool.true_and, if_false, Bool.false_eq_true] at heq
   simp +decide only [hT1, zd, za, hp2, hpin, go_sem, reduceAdd, reduceMul]
   refine zf zg _ ?_
   simp +decide only [heq, zd, za, hpin, go_sem, reduceAdd, reduceMul]
 | false =>
 cases h10 : x.kind == 10 with
 | true =>
   have ek := eq_of_beq h10
   rw [ek] at heq
   simp +decide only [Bool.or_true, Bool.true_or, Bool.or_false, Bool.false_or, if_true, if_false, Int.reduceBEq, Bool.false_eq_true] at heq
   have hpos : 1 < x.kids.length := by rw [ek] at hsh; have := hsh.1; simp [zI] at this; omega
   have hg0 : (row1 cI x.kids).getD (Int.toNat 0) [] = [cI (x.kids[0]'(by omega))] := zr cI x.kids (by omega)
   have hg1 : (row1 cI x.kids).getD (Int.toNat 1) [] = [cI x.kids[1]] := zr cI x.kids hpos
   have hc0 : ((0 : Int) < (x.kids.length : Int)) = True := eq_true (by omega)
   have hc01 : ((1 : Int) < (x.kids.length : Int)) = True := eq_true (by omega)
   have hk0 : x.kids.getD 0 0 = x.kids[0]'(by omega) := by simp [List.getD, show 0 < x.kids.length by omega]
   have hk1 : x.kids.getD 1 0 = x.kids[1] := by simp [List.getD, hpos]
   have hih := hrec (x.kids[0]'(by omega)) (List.getElem_mem _)
   have hih1 := hrec x.kids[1] (List.getElem_mem hpos)
   rw [hk0, hk1] at heq
   simp only [cI] at hg0 hg1
   simp +decide only [h1, h7, h2, h3, h4, h5, h6, h8, h9, h10, zh, zd, za, hpin, go_sem, reduceAdd, reduceMul]
   refine Tri.sched zg [(1, true), (2, true), (0, true), (3, false), (4, false), (5, false), (6, false), (7, false), (8, false), (10, true), (11, true), (9, true), (12, false), (13, false), (14, false), (15, false), (16, false), (17, false)] zT (by kernel_rfl) (fun C2 hC2 => ?_)
   have hp2 := zU hC2 hpin
   simp +decide only [hg0, hc0, hpos, zd, za, hp2, go_sem, reduceAdd, reduceMul]
   refine ze hih hp2 ?_
   cases hT : yj p l (x.kids[0]'(by omega)) == 1 with
   | false =>
     simp +decide only [hT, Bool.false_and, if_false, Bool.false_eq_true] at heq
     simp +decide only [hT, hg0, hg1, hc0, hc01, hpos, zd, za, hp2, hpin, go_sem, reduceAdd, reduceMul]
     refine zf zg _ ?_
     simp +decide only [heq, zd, za, hpin, go_sem, reduceAdd, reduceMul]
   | true =>
   simp +decide only [hT, hg0, hg1, hc0, hc01, hpos, zd, za, hp2, go_sem, reduceAdd, reduceMul]
   refine ze hih1 hp2 ?_
   cases hT1 : yj p l x.kids[1] == 1 with
   | true =>
     simp +decide only [hT, hT1, Bool.true_and, if_true] at heq
     simp +decide only [hT1, heq, zd, za, hp2, hpin, go_sem, reduceAdd, reduceMul]
   | false =>
   simp +decide only [hT, hT1, Bool.true_and, if_false, Bool.false_eq_true] at heq
   simp +decide only [hT1, zd, za, hp2, hpin, go_sem, reduceAdd, reduceMul]
   refine zf zg _ ?_
   simp +decide only [heq, zd, za, hpin, go_sem, reduceAdd, reduceMul]
 | false =>
 cases h11 : x.kind == 11 with
 | true =>
   have ek := eq_of_beq h11
   rw [ek] at heq
   simp +decide only [Bool.or_true, Bool.true_or, Bool.or_false, Bool.false_or, if_true, if_false, Int.reduceBEq, Bool.false_eq_true] at heq
   have hpos : 1 < x.kids.length := by rw [ek] at hsh; have := hsh.1; simp [zI] at this; omega
   have hg0 : (row1 cI x.kids).getD (Int.toNat 0) [] = [cI (x.kids[0]'(by omega))] := zr cI x.kids (by omega)
   have hg1 : (row1 cI x.kids).getD (Int.toNat 1) [] = [cI x.kids[1]] := zr cI x.kids hpos
   have hc0 : ((0 : Int) < (x.kids.length : Int)) = True := eq_true (by omega)
   have hc01 : ((1 : Int) < (x.kids.length : Int)) = True := eq_true (by omega)
   have hk0 : x.kids.getD 0 0 = x.kids[0]'(by omega) := by simp [List.getD, show 0 < x.kids.length by omega]
   have hk1 : x.kids.getD 1 0 = x.kids[1] := by simp [List.getD, hpos]
   have hih := hrec (x.kids[0]'(by omega)) (List.getElem_mem _)
   have hih1 := hrec x.kids[1] (List.getElem_mem hpos)
   rw [hk0, hk1] at heq
   simp only [cI] at hg0 hg1
   simp +decide only [h1, h7, h2, h3, h4, h5, h6, h8, h9, h10, h11, zh, zd, za, hpin, go_sem, reduceAdd, reduceMul]
   refine Tri.sched zg [(1, true), (2, true), (0, true), (3, false), (4, false), (5, false), (6, false), (7, false), (8, false), (10, true), (11, true), (9, true), (12, false), (13, false), (14, false), (15, false), (16, false), (17, false)] zT (by kernel_rfl) (fun C2 hC2 => ?_)
   have hp2 := zU hC2 hpin
   simp +decide only [hg0, hc0, hpos, zd, za, hp2, go_sem, reduceAdd, reduceMul]
   refine ze hih hp2 ?_
   cases hT : yj p l (x.kids[0]'(by omega)) == 1 with
   | false =>
     simp +decide only [hT, Bool.false_and, if_false, Bool.false_eq_true] at heq
     simp +decide only [hT, hg0, hg1, hc0, hc01, hpos, zd, za, hp2, hpin, go_sem, reduceAdd, reduceMul]
     refine zf zg _ ?_
     simp +decide only [heq, zd, za, hpin, go_sem, reduceAdd, reduceMul]
   | true =>
   simp +decide only [hT, hg0, hg1, hc0, hc01, hpos, zd, za, hp2, go_sem, reduceAdd, reduceMul]
   refine ze hih1 hp2 ?_
   cases hT1 : yj p l x.kids[1] == 1 with
   | true =>
     simp +decide only [hT, hT1, Bool.true_and, if_true] at heq
     simp +decide only [hT1, heq, zd, za, hp2, hpin, go_sem, reduceAdd, reduceMul]
   | false =>
   simp +decide only [hT, hT1, Bool.true_and, if_false, Bool.false_eq_true] at heq
   simp +decide only [hT1, zd, za, hp2, hpin, go_sem, reduceAdd, reduceMul]
   refine zf zg _ ?_
   simp +decide only [heq, zd, za, hpin, go_sem, reduceAdd, reduceMul]
 | false =>
 cases h12 : x.kind == 12 with
 | true =>
   have ek := eq_of_beq h12
   rw [ek] at heq
   simp +decide only [Bool.or_true, Bool.true_or, Bool.or_false, Bool.false_or, if_true, if_false, Int.reduceBEq, Bool.false_eq_true] at heq
   simp +decide only [h1, h7, h2, h3, h4, h5, h6, h8, h9, h10, h11, h12, zh, zd, za, hpin, go_sem, reduceAdd, reduceMul]
   refine ze hcr hpin ?_
   cases hc : YP (yj p l) p x with
   | false =>
     simp +decide only [hc, if_false, Bool.false_eq_true] at heq
     simp +decide only [zd, za, hpin, go_sem, reduceAdd, reduceMul]
     refine zf zg _ ?_
     simp +decide only [heq, zd, za, hpin, go_sem, reduceAdd, reduceMul]
   | true =>
   simp +decide only [hc, if_true] at heq
   have hge : 0 <= xO p.fns x.name := by
     unfold YP at hc
     exact of_decide_eq_true (Bool.and_eq_true_iff.1 hc).1
   simp +decide only [zd, za, hpin, go_sem, reduceAdd, reduceMul]
   refine Tri.sched zg [(0, true), (3, true), (1, true), (2, true), (4, false), (5, false), (6, false), (7, false), (8, false), (9, false)] zT (by kernel_rfl) (fun C2 hC2 => ?_)
   have hp2 := zU hC2 hpin
   simp +decide only [zd, za, hp2, go_sem, reduceAdd, reduceMul]
   refine ze hfa hp2 ?_
   generalize xO p.fns x.name = at_ at hrg hge heq |-
   obtain ⟨m, rfl⟩ : ∃ m : Nat, at_ = m := ⟨at_.toNat, by omega⟩
   have hml : m < p.fns.length := by rcases hrg with h | h <;> omega
   have hy : (rows (fnC true) p.fns).getD m [] = fnC true p.fns[m] := zj _ _ hml
   have hc2 : ((m : Int) < (p.fns.length : Int)) = True := eq_true (by omega)
   rw [xk hml] at heq
   simp +decide only [hy, hc2, heq, fnC, Int.natCast_nonneg, zd, za, hp2, hpin, go_sem, reduceAdd, reduceMul]
 | false =>
 simp +decide only [h1, h7, h2, h3, h4, h5, h6, h8, h9, h10, h11, h12, Bool.or_false, Bool.false_or, if_false, Bool.false_eq_true] at heq
 simp +decide only [h1, h7, h2, h3, h4, h5, h6, h8, h9, h10, h11, h12, zh, zd, za, hpin, go_sem, reduceAdd, reduceMul]
 refine zf zg _ ?_
 simp +decide only [heq, zd, za, hpin, go_sem, reduceAdd, reduceMul]
section
variable {P : Program} {w w1 : World} {C : Cx} {X : Nat -> Prop} {gh gh1 : Gh} {st : St} {a : Act} {v : V} {u : Value} {ob : List (Nat × Ob)} {S : Nat -> Prop} {K : St -> Prop}
theorem Ow.plainc {e : TypeId} {es : List (List D)} {F : Nat -> Prop} (h : Ow P w S (.row true e es) u F) : Ow P w S (.sc u) u F := by
 cases h with
 | shared h => exact .sc h.one
theorem Tri.plain (o j : Nat) {cs : List D} {e : TypeId} {es : List (List D)} {c : Code} {Q : Exit -> St -> Prop} (ho : look st.ob o = some (.box cs)) (hj : cs[j]? = some (.row true e es)) (hh : ∀ z : Value, Tri P C (st.swap o (.box (cs.set j (.sc z)))) c Q) : Tri P C st c Q := fun a w gh h => by
 have hbF : gh.F o (gh.bb o) := by cases h.obs o _ ho with | box xs G hb hl h1 hc hx dis nb hF => exact (hF _).2 (Or.inl rfl)
 have hob := h.obs o _ ho
 have g1 : (gh.upd o (gh.hv o) (gh.bb o) (gh.bo o) (gh.F o)).F o = gh.F o := by simp [Gh.upd]
 have g2 : (gh.upd o (gh.hv o) (gh.bb o) (gh.bo o) (gh.F o)).bb o = gh.bb o := by simp [Gh.upd]
 have g3 : (gh.upd o (gh.hv o) (gh.bb o) (gh.bo o) (gh.F o)).bo o = gh.bo o := by simp [Gh.upd]
 cases hob with
 | box xs G hb hl h1 hc hx dis nb hF =>
   refine hh (xs.getD j undef) a w _ (h.swap (F := gh.F o) ho (by simp [Ob.like]) (Nat.le_refl _) (fun _ _ _ _ _ _ => rfl) (fun _ _ => rfl) (World.keptBut_refl w _) ?_ (fun k hk => Or.inl hk) (fun k hk => ⟨Or.inr hk, h.xF o _ k ho hk⟩) (fun cs' k _ hk he => h.xF o _ k ho hk (he ▸ hbF)))
   have back : ∀ q d, (cs.set j (.sc (xs.getD j undef)))[q]? = some d -> ∃ d0, cs[q]? = some d0 := fun q d hd => by
     rw [List.getElem?_set] at hd
     split at hd
     · rename_i ejq; subst ejq; exact ⟨_, hj⟩
     · exact ⟨d, hd⟩
   refine ObR.box xs G (by rw [g2]; exact hb) (by rw [List.length_set]; exact hl) h1 (by rw [g2, g3]; exact hc) (fun q d hd => ?_) (fun q q' d d' k hd hd' => ?_) (fun q d k hd hk => ?_) (fun k => ?_)
   · rw [List.getElem?_set] at hd
     split at hd
     · rename_i ejq
       subst ejq
       split at hd
       · cases hd; exact (hx j _ hj).plainc
       · cases hd
     · exact hx q d hd
   · obtain ⟨d0, h0⟩ := back _ _ hd
     obtain ⟨d1, h2⟩ := back _ _ hd'
     exact dis q q' d0 d1 k h0 h2
   · obtain ⟨d0, h0⟩ := back _ _ hd
     rw [g2]; exact nb q d0 k h0 hk
   · rw [g1, g2, hF k]
     constructor
     · rintro (hh | ⟨q, d, hd, hk⟩)
       · exact Or.inl hh
       · right
         by_cases eq : j = q
         · subst eq
           exact ⟨j, .sc (xs.getD j undef), by rw [List.getElem?_set_self (List.getElem?_eq_some_iff.1 hd).1], hk⟩
         · exact ⟨q, d, by rw [List.getElem?_set_ne eq]; exact hd, hk⟩
     · rintro (hh | ⟨q, d, hd, hk⟩)
       · exact Or.inl hh
       · obtain ⟨d0, h0⟩ := back _ _ hd
         exact Or.inr ⟨q, d0, h0, hk⟩
end
theorem zpO (p : ProgramD) (l : List VarD) (n : Nat) (hnl : n < p.nodes.length) (hpos : 1 < p.nodes[n].kids.length)
   (ih : ∀ kid ∈ p.nodes[n].kids, zw Tryz.prog 58 [.ro (zd p), .ro (.imm 96 (rows (varC true) l)), .ro (.sc (.int .i64 kid))] (fun rs st => rs = [(false, [cI (yj p l kid)])])) :
   zw Tryz.prog 136 [.ro (zd p), .ro (.imm 96 (rows (varC true) l)), .ro (.sc (.int .i64 n))] (fun rs st => rs = [(false, [cB (yj p l (p.nodes[n].kids.getD 0 0) == 1 && yj p l (p.nodes[n].kids.getD 1 0) == 1)])]) := by
 have hx : (rows (zh true) p.nodes).getD n [] = zh true p.nodes[n] := zj _ _ hnl
 have hc1 : ((n : Int) < (p.nodes.length : Int)) = True := eq_true (by omega)
 generalize p.nodes[n] = x at hx ih hpos |-
 have hk0 : x.kids.getD 0 0 = x.kids[0]'(by omega) := by simp [List.getD, show 0 < x.kids.length by omega]
 have hk1 : x.kids.getD 1 0 = x.kids[1] := by simp [List.getD, hpos]
 rw [hk0, hk1]
 have hg0 : (row1 cI x.kids).getD (Int.toNat 0) [] = [cI (x.kids[0]'(by omega))] := zr cI x.kids (by omega)
 have hg1 : (row1 cI x.kids).getD (Int.toNat 1) [] = [cI x.kids[1]] := zr cI x.kids hpos
 have hc0 : ((0 : Int) < (x.kids.length : Int)) = True := eq_true (by omega)
 have hc01 : ((1 : Int) < (x.kids.length : Int)) = True := eq_true (by omega)
 have hih := ih (x.kids[0]'(by omega)) (List.getElem_mem _)
 have hih1 := ih x.kids[1] (List.getElem_mem hpos)
 simp only [cI] at hg0 hg1
 simp only [zd] at hih hih1
 refine zm (fn := Tryz.f136) (c := Tryz.f136.body.getD .skip) (res := [.tm 6]) (n := 31) zg (by kernel_rfl) (by rfl) (by kernel_rfl) (by rfl) (by rfl) (by simp [zq]) (fun uf ub C hpin hpin2 hfull => ?_)
 simp only [Tryz.f136, Option.getD_some]
 refine Tri.step zg ?_
 simp +decide only [zd, za, hpin, go_sem, reduceAdd, reduceMul]
 refine Tri.ent ?_ (Ent.frb hfull 3)
 refine Tri.step zg ?_
 simp +decide only [hc1, hx, zh, Int.natCast_nonneg, zd, za, hpin, go_sem, reduceAdd, reduceMul]
 refine Tri.ent ?_ (Ent.frb hfull 7)
 refine Tri.step zg ?_
 simp +decide only [zd, za, hpin, go_sem, reduceAdd, reduceMul]
 refine Tri.sched zg [(1, true), (2, true), (0, true), (3, false), (4, false), (5, false), (6, false), (7, false), (8, false), (10, true), (11, true), (9, true), (12, false), (13, false), (14, false), (15, false), (16, false), (17, false), (18, false)] zT (by kernel_rfl) (fun C2 hC2 => ?_)
 have hp2 := zU hC2 hpin
 simp +decide only [hg0, hc0, hpos, zh, zd, za, hp2, go_sem, reduceAdd, reduceMul]
 refine ze hih hp2 ?_
 cases hT : yj p l (x.kids[0]'(by omega)) == 1 with
 | false =>
   simp +decide only [hT, hg0, hg1, hc0, hc01, hpos, zd, za, hp2, hpin, go_sem, reduceAdd, reduceMul]
   refine zf zg _ ?_
   simp +decide only [zd, za, hpin, go_sem, reduceAdd, reduceMul]
 | true =>
 simp +decide only [hT, hg0, hg1, hc0, hc01, hpos, zd, za, hp2, go_sem, reduceAdd, reduceMul]
 refine ze hih1 hp2 ?_
 simp +decide only [zd, za, hp2, hpin, go_sem, reduceAdd, reduceMul]
 refine zf zg _ ?_
 simp +decide only [zd, za, hpin, go_sem, reduceAdd, reduceMul]
def sigR (ok : Bool) (q : ByteArray × Value × Int × Int × Int) : List RV := [(true, [cS q.1, .sc q.2.1, cI q.2.2.1, cI q.2.2.2.1, cI q.2.2.2.2]), (false, [cB ok])]
theorem zop (p : ProgramD) (l : List VarD) (hf : p.fns.length <= 1048576) (hk : ∀ x ∈ p.nodes, x.kids.length <= 300) (n : Nat) (hnl : n < p.nodes.length)
   (ih : ∀ kid ∈ p.nodes[n].kids, zw Tryz.prog 58 [.ro (zd p), .ro (.imm 96 (rows (varC true) l)), .ro (.sc (.int .i64 kid))] (fun rs st => rs = [(false, [cI (yj p l kid)])])) :
   zw Tryz.prog 137 [.ro (zd p), .ro (.imm 96 (rows (varC true) l)), .ro (.sc (.int .i64 n))] (fun rs st => ∃ q, (YP (yj p l) p p.nodes[n] = true -> q.2.2.1 = (fAt p.fns (xO p.fns p.nodes[n].name)).res) /\ rs = sigR (YP (yj p l) p p.nodes[n]) q) := by
 have hkx := hk p.nodes[n] (List.getElem_mem hnl)
 have hx : (rows (zh true) p.nodes).getD n [] = zh true p.nodes[n] := zj _ _ hnl
 have hc1 : ((n : Int) < (p.nodes.length : Int)) = True := eq_true (by omega)
 generalize p.nodes[n] = x at hkx hx ih
 have hfa := zaR p x.name hf
 have hrg := Yj x.name p.fns 0
 have hfe : xO p.fns x.name = zbw x.name p.fns 0 := rfl
 rw [<- hfe] at hrg
 simp only [zd] at hfa ih
 unfold YP
 refine zm (fn := Tryz.f137) (c := Tryz.f137.body.getD .skip) (res := [.ce 6 104, .tm 7]) (n := 68) zg (by kernel_rfl) (by rfl) (by kernel_rfl) (by rfl) (by rfl) (by simp [zq]) (fun uf ub C hpin hpin2 hfull => ?_)
 simp only [Tryz.f137, Option.getD_some]
 refine Tri.step zg ?_
 simp +decide only [zd, za, hpin, go_sem, reduceAdd, reduceMul]
 refine Tri.ent ?_ (Ent.frb hfull 3)
 refine Tri.step zg ?_
 simp +decide only [hc1, hx, zh, Int.natCast_nonneg, zd, za, hpin, go_sem, reduceAdd, reduceMul]
 refine Tri.ent ?_ (Ent.frb hfull 8)
 refine Tri.step zg ?_
 simp +decide only [zd, za, hpin, go_sem, reduceAdd, reduceMul]
 refine ze hfa hpin ?_
 generalize xO p.fns x.name = at_ at hrg |-
 simp +decide only [zd, za, hpin, go_sem, reduceAdd, reduceMul]
 refine Tri.step zg ?_
 refine zf zg _ ?_
 simp +decide only [zd, za, hpin, go_sem, reduceAdd, reduceMul]
 refine Tri.sched zg [(0, false), (1, false), (2, false), (3, true), (5, true), (10, true), (4, true), (6, true), (7, true), (8, true), (9, true), (11, false), (12, false), (13, false), (14, false)] zT (by kernel_rfl) (fun C2 hC2 => ?_)
 have hp2 := zU hC2 hpin
 by_cases ha : at_ < 0
 · have c1 : (at_ < 0) = True := eq_true ha
   have c2 : decide (0 <= at_) = false := decide_eq_false (by omega)
   rcases zea p.fns at_.toNat with ⟨y, hy⟩ | hy
   · simp +decide only [c1, c2, hy, fnC, zh, zd, za, hp2, hpin, go_sem, reduceAdd, reduceMul]
     exact ⟨(⟨#[]⟩, .slice none 0 0, 0, 0, 0), fun hh => absurd hh.1 (by omega), rfl⟩
   · simp +decide only [c1, c2, hy, zh, zd, za, hp2, hpin, go_sem, reduceAdd, reduceMul]
     exact ⟨(⟨#[]⟩, .slice none 0 0, 0, 0, 0), fun hh => absurd hh.1 (by omega), rfl⟩
 have c1 : (at_ < 0) = False := eq_false ha
 have c2 : decide (0 <= at_) = true := decide_eq_true (by omega)
 obtain ⟨m, rfl⟩ : ∃ m : Nat, at_ = m := ⟨at_.toNat, by omega⟩
 have hml : m < p.fns.length := by rcases hrg with h | h <;> omega
 have hy : (rows (fnC true) p.fns).getD m [] = fnC true p.fns[m] := zj _ _ hml
 have hc2 : ((m : Int) < (p.fns.length : Int)) = True := eq_true (by omega)
 rw [xk hml]
 generalize p.fns[m] = y at hy
 cases hlen : (y.params.length : Int) == (x.kids.length : Int) with
 | false =>
   simp +decide only [c1, c2, hy, hc2, hlen, fnC, zh, bne, Int.natCast_nonneg, zd, za, hp2, hpin, go_sem, reduceAdd, reduceMul]
   exact ⟨(⟨#[]⟩, .slice none 0 0, 0, 0, 0), fun hh => absurd hh.1 (by simpa using hlen), rfl⟩
 | true =>
 have hle := eq_of_beq hlen
 simp +decide only [c1, c2, hy, hc2, hlen, fnC, zh, bne, Int.natCast_nonneg, zd, za, hp2, hpin, go_sem, reduceAdd, reduceMul]
 refine Tri.step zg ?_
 simp +decide only [zh, zd, za, hpin, go_sem, reduceAdd, reduceMul]
 refine Tri.loop (ι := Nat) (fun i => i <= x.kids.length /\ zK (fun i => yj p l (x.kids.getD i 0) == prTy y.params i) i = true) (fun i => ⟨68, [(1, .imm 96 (rows (varC true) l)), (3, .ip (za true p) 0), (6, .bp 6 0), (7, vB false), (8, .ip (zh true x) 0), (9, vI m), (10, vI i)], [(6, .box [.sc (.string ⟨#[]⟩), .sc (.slice none 0 0), cI 0, cI 0, cI 0])]⟩) (fun i => x.kids.length - i) 0 ⟨by simp, rfl⟩ ?_ ?_
 · refine Ent.weak ?_ ?_ ?_ ?_ <;> simp +decide [subT, subB, zl, zk, zn, St.get, look, vI, vB, vS, cI, cS, cB, zh, za, roI]
 · rintro i ⟨hi, hq⟩
   refine zf zg _ ?_
   by_cases h' : i < x.kids.length
   · have e : ((i : Int) < (x.kids.length : Int)) = True := by simp [h']
     have hip : i < y.params.length := by omega
     have e2 : ((i : Int) < (y.params.length : Int)) = True := eq_true (by omega)
     have hg : x.kids.getD i 0 = x.kids[i] := by simp [List.getD, h']
     have hpt := zjJ hip
     have hz : (rows (zy true) y.params).getD i [] = zy true y.params[i] := zj _ _ hip
     have hih := ih x.kids[i] (List.getElem_mem h')
     simp +decide only [e, zh, za, vB, vI, zd, za, hpin, go_sem, reduceAdd, reduceMul]
     refine Tri.sched zg [(1, true), (2, true), (4, true), (8, true), (10, true), (14, true), (0, true), (3, true), (5, true), (6, true), (9, true), (11, true), (12, true), (13, true), (15, true), (16, true), (17, true), (7, false), (18, false)] zT (by kernel_rfl) (fun C3 hC3 => ?_)
     have hp3 := zU hC3 hpin
     simp +decide only [e, e2, h', zr _ _ h', hy, hc2, hz, fnC, zy, Int.natCast_nonneg, zd, za, hp3, go_sem, reduceAdd, reduceMul]
     refine ze hih hp3 ?_
     cases hc : yj p l x.kids[i] == y.params[i].ty with
     | false =>
       have hff : zK (fun i => yj p l (x.kids.getD i 0) == prTy y.params i) x.kids.length = false := zA h' (by simp only [hg, hpt, hc])
       simp +decide only [hc, hff, bne, zd, za, hp3, hpin, go_sem, reduceAdd, reduceMul]
       exact ⟨(⟨#[]⟩, .slice none 0 0, 0, 0, 0), rfl⟩
     | true =>
       simp +decide only [hc, bne, zd, za, hp3, hpin, go_sem, reduceAdd, reduceMul]
       refine ⟨i + 1, ⟨h', by rw [zQ, hq, hg, hpt, hc]; rfl⟩, by omega, Ent.weak ?_ ?_ ?_ ?_⟩
       all_goals simp +decide [subT, subB, zl, zk, zn, St.get, look, vI, vB, vS, cI, cS, cB, zh, za, roI, w64s (n := x.kids.length) h' (by omega)]
   · have hil : i = x.kids.length := by omega
     subst hil
     have e : ((x.kids.length : Int) < (x.kids.length : Int)) = False := by simp
     simp +decide only [e, zh, vB, vI, zd, za, hpin, go_sem, reduceAdd, reduceMul]
     refine Tri.step zg ?_
     simp +decide only [hy, hc2, fnC, Int.natCast_nonneg, zd, za, hpin, go_sem, reduceAdd, reduceMul]
     refine Tri.plain 6 1 (cs := fnC true y) rfl rfl (fun z => ?_)
     refine zf zg _ ?_
     simp +decide only [hq, fnC, zd, za, hpin, go_sem, reduceAdd, reduceMul]
     exact ⟨(y.name, z, y.res, y.body, y.ret), fun _ => rfl, rfl⟩
theorem ZY (p : ProgramD) (hD : Deep p.nodes) (l : List VarD) (hl : l.length <= 4194304) (hf : p.fns.length <= 1048576) (hn : p.nodes.length <= 1048576) (hk : ∀ x ∈ p.nodes, x.kids.length <= 300) (n : Nat) : n < p.nodes.length ->
   zw Tryz.prog 58 [.ro (zd p), .ro (.imm 96 (rows (varC true) l)), .ro (.sc (.int .i64 n))] (fun rs st => rs = [(false, [cI (yj p l n)])]) := by
 induction n using Nat.strongRecOn with
 | ind n ih =>
 intro hnl
 have hkid := hD.kid hnl
 have hkx := hk p.nodes[n] (List.getElem_mem hnl)
 have hsh := zx (xC (hD.deep n hnl) hnl)
 have hrec : ∀ kid ∈ p.nodes[n].kids, zw Tryz.prog 58 [.ro (zd p), .ro (.imm 96 (rows (varC true) l)), .ro (.sc (.int .i64 kid))] (fun rs st => rs = [(false, [cI (yj p l kid)])]) := fun kid hkk => by
   obtain ⟨q0, q1, q2⟩ := hkid kid hkk
   have e : kid = (kid.toNat : Int) := by omega
   have := ih kid.toNat q2 (by omega)
   rw [<- e] at this
   exact this
 have hcr := zop p l hf hk n hnl hrec
 have htw := fun hpos => zpO p l n hnl hpos hrec
 have heq := zjx hD l hnl
 have hx : (rows (zh true) p.nodes).getD n [] = zh true p.nodes[n] := zj _ _ hnl
 have hc1 : ((n : Int) < (p.nodes.length : Int)) = True := eq_true (by omega)
 generalize yj p l n = R at heq |-
 generalize p.nodes[n] = x at hkid hkx hsh hrec hcr heq hx htw
 have hvt := zcf l x.name hl
 simp only [zd] at hrec hcr htw
 unfold ziq at heq
 generalize zan l x.name = tv at heq hvt
 refine zm (fn := Tryz.f58) (c := Tryz.f58.body.getD .skip) (res := [.tm 6]) (n := 83) zg (by kernel_rfl) (by rfl) (by kernel_rfl) (by rfl) (by rfl) (by simp [zq]) (fun uf ub C hpin hpin2 hfull => ?_)
 simp only [Tryz.f58, Option.getD_some]
 refine Tri.step zg ?_
 simp +decide only [zd, za, hpin, go_sem, reduceAdd, reduceMul]
 refine Tri.ent ?_ (Ent.frb hfull 3)
 refine Tri.step zg ?_
 simp +decide only [hc1, hx, zh, Int.natCast_nonneg, zd, za, hpin, go_sem, reduceAdd, reduceMul]
 refine Tri.ent ?_ (Ent.frb hfull 7)
 refine Tri.step zg ?_
 simp +decide only [zd, za, hpin, go_sem, reduceAdd, reduceMul]
 refine ze hvt hpin ?_
 simp +decide only [zd, za, hpin, go_sem, reduceAdd, reduceMul]
 refine Tri.stop zg ⟨83, [(1, .imm 96 (rows (varC true) l)), (2, vI n), (3, .ip (za true p) 0), (7, .ip (zh true x) 0), (8, vI tv), (9, vB (zhR tv))], []⟩ ?_ ?_
 · unfold zhR
   cases t2 : tv == 2 with
   | true => simp +decide only [t2, Bool.true_or, Bool.false_or, zh, zd, za, hpin, go_sem, reduceAdd, reduceMul]; refine Ent.weak ?_ ?_ ?_ ?_ <;> simp +decide [subT, subB, zl, zk, zn, St.get, look, vI, vB, vS, cI, cS, cB, zh, za, roI, t2]
   | false =>
   cases t3 : tv == 3 with
   | true => simp +decide only [t2, t3, Bool.true_or, Bool.false_or, zh, zd, za, hpin, go_sem, reduceAdd, reduceMul]; refine Ent.weak ?_ ?_ ?_ ?_ <;> simp +decide [subT, subB, zl, zk, zn, St.get, look, vI, vB, vS, cI, cS, cB, zh, za, roI, t2, t3]
   | false =>
   cases t4 : tv == 4 with
   | true => simp +decide only [t2, t3, t4, Bool.true_or, Bool.false_or, zh, zd, za, hpin, go_sem, reduceAdd, reduceMul]; refine Ent.weak ?_ ?_ ?_ ?_ <;> simp +decide [subT, subB, zl, zk, zn, St.get, look, vI, vB, vS, cI, cS, cB, zh, za, roI, t2, t3, t4]
   | false => simp +decide only [t2, t3, t4, Bool.true_or, Bool.false_or, zh, zd, za, hpin, go_sem, reduceAdd, reduceMul]; refine Ent.weak ?_ ?_ ?_ ?_ <;> simp +decide [subT, subB, zl, zk, zn, St.get, look, vI, vB, vS, cI, cS, cB, zh, za, roI, t2, t3, t4]
 refine Tri.step zg ?_
 cases h1 : x.kind == 1 with
 | true =>
   have ek := eq_of_beq h1
   rw [ek] at heq
   simp +decide only [Bool.or_true, Bool.true_or, Bool.or_false, Bool.false_or, if_true, if_false, Int.reduceBEq, Bool.false_eq_true] at heq
   simp +decide only [h1, heq, za, vB, vI, zh, zd, za, hpin, go_sem, reduceAdd, reduceMul]
 | false =>
 cases h7 : x.kind == 7 with
 | true =>
   have ek := eq_of_beq h7
   rw [ek] at heq
   simp +decide only [Bool.or_true, Bool.true_or, Bool.or_false, Bool.false_or, if_true, if_false, Int.reduceBEq, Bool.false_eq_true] at heq
   simp +decide only [h1, h7, heq, za, vB, vI, zh, zd, za, hpin, go_sem, reduceAdd, reduceMul]
 | false =>
 cases h2 : x.kind == 2 with
 | true =>
   have ek := eq_of_beq h2
   rw [ek] at heq
   simp +decide only [Bool.or_true, Bool.true_or, Bool.or_false, Bool.false_or, if_true, if_false, Int.reduceBEq, Bool.false_eq_true] at heq
   simp +decide only [h1, h7, h2, heq, za, vB, vI, zh, zd, za, hpin, go_sem, reduceAdd, reduceMul]
 | false =>
 cases h3 : x.kind == 3 with
 | true =>
   have ek := eq_of_beq h3
   rw [ek] at heq
   simp +decide only [Bool.or_true, Bool.true_or, Bool.or_false, Bool.false_or, if_true, if_false, Int.reduceBEq, Bool.false_eq_true] at heq
   cases hh : zhR tv with
   | true =>
     simp +decide only [hh, if_true] at heq
     simp +decide only [h1, h7, h2, h3, hh, heq, za, vB, vI, zh, zd, za, hpin, go_sem, reduceAdd, reduceMul]
   | false =>
   simp +decide only [hh, if_false, Bool.false_eq_true] at heq
   simp +decide only [h1, h7, h2, h3, hh, za, vB, vI, zh, zd, za, hpin, go_sem, reduceAdd, reduceMul]
   refine zf zg _ ?_
   simp +decide only [heq, zd, za, hpin, go_sem, reduceAdd, reduceMul]
 | false =>
 cases h4 : x.kind == 4 with
 | true =>
   have ek := eq_of_beq h4
   rw [ek] at heq
   simp +decide only [Bool.or_true, Bool.true_or, Bool.or_false, Bool.false_or, if_true, if_false, Int.reduceBEq, Bool.false_eq_true] at heq
   cases hh : zhR tv with
   | true =>
     simp +decide only [hh, if_true] at heq
     simp +decide only [h1, h7, h2, h3, h4, hh, heq, za, vB, vI, zh, zd, za, hpin, go_sem, reduceAdd, reduceMul]
   | false =>
   simp +decide only [hh, if_false, Bool.false_eq_true] at heq
   simp +decide only [h1, h7, h2, h3, h4, hh, za, vB, vI, zh, zd, za, hpin, go_sem, reduceAdd, reduceMul]
   refine zf zg _ ?_
   simp +decide only [heq, zd, za, hpin, go_sem, reduceAdd, reduceMul]
 | false =>
 cases h5 : x.kind == 5 with
 | true =>
   have ek := eq_of_beq h5
   rw [ek] at heq
   simp +decide only [Bool.or_true, Bool.true_or, Bool.or_false, Bool.false_or, if_true, if_false, Int.reduceBEq, Bool.false_eq_true] at heq
   cases t2 : tv == 2 with
   | true =>
     simp +decide only [t2, if_true] at heq
     simp +decide only [h1, h7, h2, h3, h4, h5, t2, heq, za, vB, vI, zh, zd, za, hpin, go_sem, reduceAdd, reduceMul]
   | false =>
   simp +decide only [t2, if_false, Bool.false_eq_true] at heq
   simp +decide only [h1, h7, h2, h3, h4, h5, t2, za, vB, vI, zh, zd, za, hpin, go_sem, reduceAdd, reduceMul]
   refine zf zg _ ?_
   simp +decide only [heq, zd, za, hpin, go_sem, reduceAdd, reduceMul]
 | false =>
 cases h6 : x.kind == 6 with
 | true =>
   have ek := eq_of_beq h6
   rw [ek] at heq
   simp +decide only [Bool.or_true, Bool.true_or, Bool.or_false, Bool.false_or, if_true, if_false, Int.reduceBEq, Bool.false_eq_true] at heq
   cases t2 : tv == 2 with
   | true =>
     simp +decide only [t2, if_true] at heq
     simp +decide only [h1, h7, h2, h3, h4, h5, h6, t2, heq, za, vB, vI, zh, zd, za, hpin, go_sem, reduceAdd, reduceMul]
   | false =>
   simp +decide only [t2, if_false, Bool.false_eq_true] at heq
   simp +decide only [h1, h7, h2, h3, h4, h5, h6, t2, za, vB, vI, zh, zd, za, hpin, go_sem, reduceAdd, reduceMul]
   refine zf zg _ ?_
   simp +decide only [heq, zd, za, hpin, go_sem, reduceAdd, reduceMul]
 | false =>
 cases h8 : x.kind == 8 with
 | true =>
   have ek := eq_of_beq h8
   rw [ek] at heq
   simp +decide only [Bool.or_true, Bool.true_or, Bool.or_false, Bool.false_or, if_true, if_false, Int.reduceBEq, Bool.false_eq_true] at heq
   have hpos : 0 < x.kids.length := by rw [ek] at hsh; have := hsh.1; simp [zI] at this; omega
   have hg0 : (row1 cI x.kids).getD (Int.toNat 0) [] = [cI x.kids[0]] := zr cI x.kids hpos
   have hc0 : ((0 : Int) < (x.kids.length : Int)) = True := eq_true (by omega)
   have hk0 : x.kids.getD 0 0 = x.kids[0] := by simp [List.getD, hpos]
   have hih := hrec x.kids[0] (List.getElem_mem hpos)
   rw [hk0] at heq
   simp only [cI] at hg0
   simp +decide only [h1, h7, h2, h3, h4, h5, h6, h8, za, vB, vI, zh, zd, za, hpin, go_sem, reduceAdd, reduceMul]
   refine Tri.sched zg [(1, true), (2, true), (0, true), (3, false), (4, false), (5, false), (6, false), (7, false)] zT (by kernel_rfl) (fun C2 hC2 => ?_)
   have hp2 := zU hC2 hpin
   simp +decide only [hg0, hc0, hpos, zd, za, hp2, go_sem, reduceAdd, reduceMul]
   refine ze hih hp2 ?_
   cases hT : yj p l x.kids[0] == 1 with
   | true =>
     simp +decide only [hT, if_true] at heq
     simp +decide only [hT, heq, zd, za, hp2, hpin, go_sem, reduceAdd, reduceMul]
   | false =>
   simp +decide only [hT, if_false, Bool.false_eq_true] at heq
   simp +decide only [hT, zd, za, hp2, hpin, go_sem, reduceAdd, reduceMul]
   refine zf zg _ ?_
   simp +decide only [heq, zd, za, hpin, go_sem, reduceAdd, reduceMul]
 | false =>
 cases h9 : x.kind == 9 with
 | true =>
   have ek := eq_of_beq h9
   rw [ek] at heq
   simp +decide only [Bool.or_true, Bool.true_or, Bool.or_false, Bool.false_or, if_true, if_false, Int.reduceBEq, Bool.false_eq_true] at heq
   have hpos : 1 < x.kids.length := by rw [ek] at hsh; have := hsh.1; simp [zI] at this; omega
   have htw2 := htw hpos
   simp +decide only [h1, h7, h2, h3, h4, h5, h6, h8, h9, za, vB, vI, zh, zd, za, hpin, go_sem, reduceAdd, reduceMul]
   refine ze htw2 hpin ?_
   cases hT : yj p l (x.kids.getD 0 0) == 1 && yj p l (x.kids.getD 1 0) == 1 with
   | true =>
     rw [hT, if_pos rfl] at heq
     simp +decide only [heq, zd, za, hpin, go_sem, reduceAdd, reduceMul]
   | false =>
   rw [hT, if_neg (by decide)] at heq
   simp +decide only [zd, za, hpin, go_sem, reduceAdd, reduceMul]
   refine zf zg _ ?_
   simp +decide only [heq, zd, za, hpin, go_sem, reduceAdd, reduceMul]
 | false =>
 cases h10 : x.kind == 10 with
 | true =>
   have ek := eq_of_beq h10
   rw [ek] at heq
   simp +decide only [Bool.or_true, Bool.true_or, Bool.or_false, Bool.false_or, if_true, if_false, Int.reduceBEq, Bool.false_eq_true] at heq
   have hpos : 1 < x.kids.length := by rw [ek] at hsh; have := hsh.1; simp [zI] at this; omega
   have htw2 := htw hpos
   simp +decide only [h1, h7, h2, h3, h4, h5, h6, h8, h9, h10, za, vB, vI, zh, zd, za, hpin, go_sem, reduceAdd, reduceMul]
   refine ze htw2 hpin ?_
   cases hT : yj p l (x.kids.getD 0 0) == 1 && yj p l (x.kids.getD 1 0) == 1 with
   | true =>
     rw [hT, if_pos rfl] at heq
     simp +decide only [heq, zd, za, hpin, go_sem, reduceAdd, reduceMul]
   | false =>
   rw [hT, if_neg (by decide)] at heq
   simp +decide only [zd, za, hpin, go_sem, reduceAdd, reduceMul]
   refine zf zg _ ?_
   simp +decide only [heq, zd, za, hpin, go_sem, reduceAdd, reduceMul]
 | false =>
 cases h11 : x.kind == 11 with
 | true =>
   have ek := eq_of_beq h11
   rw [ek] at heq
   simp +decide only [Bool.or_true, Bool.true_or, Bool.or_false, Bool.false_or, if_true, if_false, Int.reduceBEq, Bool.false_eq_true] at heq
   have hpos : 1 < x.kids.length := by rw [ek] at hsh; have := hsh.1; simp [zI] at this; omega
   have htw2 := htw hpos
   simp +decide only [h1, h7, h2, h3, h4, h5, h6, h8, h9, h10, h11, za, vB, vI, zh, zd, za, hpin, go_sem, reduceAdd, reduceMul]
   refine ze htw2 hpin ?_
   cases hT : yj p l (x.kids.getD 0 0) == 1 && yj p l (x.kids.getD 1 0) == 1 with
   | true =>
     rw [hT, if_pos rfl] at heq
     simp +decide only [heq, zd, za, hpin, go_sem, reduceAdd, reduceMul]
   | false =>
   rw [hT, if_neg (by decide)] at heq
   simp +decide only [zd, za, hpin, go_sem, reduceAdd, reduceMul]
   refine zf zg _ ?_
   simp +decide only [heq, zd, za, hpin, go_sem, reduceAdd, reduceMul]
 | false =>
 cases h12 : x.kind == 12 with
 | true =>
   have ek := eq_of_beq h12
   rw [ek] at heq
   simp +decide only [Bool.or_true, Bool.true_or, Bool.or_false, Bool.false_or, if_true, if_false, Int.reduceBEq, Bool.false_eq_true] at heq
   simp +decide only [h1, h7, h2, h3, h4, h5, h6, h8, h9, h10, h11, h12, za, vB, vI, zh, zd, za, hpin, go_sem, reduceAdd, reduceMul]
   refine zcR hcr hpin ?_ ?_
   · simp +decide only [zd, za, hpin, go_sem, reduceAdd, reduceMul]
   rintro ⟨qa, qz, qr, qb, qc⟩ hq
   unfold sigR
   cases hc : YP (yj p l) p x with
   | false =>
     rw [hc, if_neg (by decide)] at heq
     simp +decide only [zd, za, hpin, go_sem, reduceAdd, reduceMul]
     refine zf zg _ ?_
     simp +decide only [heq, zd, za, hpin, go_sem, reduceAdd, reduceMul]
   | true =>
   have hqr : qr = (fAt p.fns (xO p.fns x.name)).res := hq hc
   rw [hc, if_pos rfl, <- hqr] at heq
   simp +decide only [heq, zd, za, hpin, go_sem, reduceAdd, reduceMul]
 | false =>
 simp +decide only [h1, h7, h2, h3, h4, h5, h6, h8, h9, h10, h11, h12, Bool.or_false, Bool.false_or, if_false, Bool.false_eq_true] at heq
 simp +decide only [h1, h7, h2, h3, h4, h5, h6, h8, h9, h10, h11, h12, za, vB, vI, zh, zd, za, hpin, go_sem, reduceAdd, reduceMul]
 refine zf zg _ ?_
 simp +decide only [heq, zd, za, hpin, go_sem, reduceAdd, reduceMul]
def tyOf (p : ProgramD) (l : List VarD) (v : VarD) : Int := yj p l ((nAt p.nodes v.node).kids.getD 0 0)
def Xw (p : ProgramD) (l : List VarD) (i : Nat) : List VarD := if 0 <= (l.getD i vr0).node then l.set i ⟨(l.getD i vr0).name, tyOf p l (l.getD i vr0), (l.getD i vr0).node⟩ else l
def yc (p : ProgramD) (l : List VarD) : Nat -> List VarD
 | 0 => l
 | i + 1 => Xw p (yc p l i) i
def zpL (p : ProgramD) (l : List VarD) : Prop := ∀ i (h : i < l.length), l[i].node < 0 \/ (l[i].node.toNat < p.nodes.length /\ 0 < (nAt p.nodes l[i].node).kids.length)
theorem YS (p : ProgramD) (l : List VarD) (i : Nat) : (Xw p l i).length = l.length := by unfold Xw; split <;> simp
theorem zM (p : ProgramD) (l : List VarD) : ∀ i, (yc p l i).length = l.length
 | 0 => rfl
 | i + 1 => by unfold yc; rw [YS, zM p l i]
theorem zir (p : ProgramD) (l : List VarD) (i j : Nat) (hj : j < l.length) : ((Xw p l i)[j]'(by rw [YS]; exact hj)).node = l[j].node := by
 unfold Xw
 split
 · simp only [List.getElem_set]
   split
   · rename_i h; subst h; simp [List.getD, hj]
   · rfl
 · rfl
theorem zgJ (p : ProgramD) (l : List VarD) (i j : Nat) (hj : j < l.length) (hne : i ≠ j) : (Xw p l i)[j]'(by rw [YS]; exact hj) = l[j] := by
 unfold Xw
 split
 · simp only [List.getElem_set, if_neg hne]
 · rfl
theorem zcX {p : ProgramD} {l : List VarD} (h : zpL p l) : ∀ i, zpL p (yc p l i)
 | 0 => h
 | i + 1 => fun j hj => by
   have h1 := zcX h i
   have hj2 : j < (yc p l i).length := by rw [zM] at hj |-; exact hj
   have h2 := h1 j hj2
   have e : ((yc p l (i + 1))[j]).node = ((yc p l i)[j]).node := zir p (yc p l i) i j hj2
   rw [e]; exact h2
theorem zaB (p : ProgramD) (l : List VarD) {j : Nat} (hj : j < l.length) : ∀ i, j < i -> (yc p l i)[j]'(by rw [zM]; exact hj) = (yc p l (j + 1))[j]'(by rw [zM]; exact hj)
 | 0, h => by omega
 | i + 1, h => by
   by_cases e : j = i
   · subst e; rfl
   · have h1 := zaB p l hj i (by omega)
     rw [<- h1]
     exact zgJ p (yc p l i) i j (by rw [zM]; exact hj) (fun hh => e hh.symm)
def tyB (l : List VarD) (i : Nat) : Bool := !((l.getD i vr0).ty == 0)
noncomputable def yd (p : ProgramD) (fn : Int) : List VarD := yc p (Xs p fn) (Xs p fn).length
noncomputable def Xl (p : ProgramD) (fn : Int) : Bool := zK (tyB (yd p fn)) (yd p fn).length
theorem zlq {p : ProgramD} (hD : Deep p.nodes) (fn : Int) : zpL p (Xs p fn) := by
 have key : ∀ v ∈ Xs p fn, v.node < 0 \/ (v.node.toNat < p.nodes.length /\ 0 < (nAt p.nodes v.node).kids.length) := fun v hv => by
   unfold Xs at hv
   split at hv
   · rcases List.mem_append.1 hv with hv | hv
     · unfold yk at hv
       obtain ⟨x, _, rfl⟩ := List.mem_map.1 hv
       left; simp [zdz]
     · unfold Zu at hv
       obtain ⟨k, hk, hv⟩ := List.mem_flatMap.1 hv
       unfold letV at hv
       split at hv
       · rename_i h13
         simp at hv
         subst hv
         have hm := YC hk
         right
         refine ⟨hm.2.1, ?_⟩
         have hsh := zx (xC (hD.deep _ hm.2.1) hm.2.1)
         rw [yI hm.2.1] at h13 |-
         have ek := eq_of_beq h13
         rw [ek] at hsh
         have := hsh.1
         simp [zI] at this
         omega
       · simp at hv
   · simp at hv
 exact fun i h => key _ (List.getElem_mem h)
theorem zlr (l : List VarD) (i : Nat) (x : VarD) : (rows (varC false) l).set i [cS x.name, cI x.ty, cI x.node] = rows (varC false) (l.set i x) := znn (varC false) l i x
theorem zaZ (p : ProgramD) (hD : Deep p.nodes) (l : List VarD) (hl : l.length <= 4194304) (hf : p.fns.length <= 1048576) (hn : p.nodes.length <= 1048576) (hk : ∀ x ∈ p.nodes, x.kids.length <= 300) (n : Nat) (hnl : n < p.nodes.length) :
   zw Tryz.prog 67 [.ro (zd p), .ro (.imm 96 (rows (varC true) l)), .ro (.sc (.int .i64 n))] (fun rs st => rs = [(false, [cI (yj p l n)])]) := by
 have hty := YR p hD l hl hf hn hk n hnl
 have hde := Xj p.nodes n hn (fun x hx => by have := hk x hx; omega)
 have hd0 : (zR p.nodes (n : Int) == 0) = false := by
   have h9 : inI (n : Int) 0 (p.nodes.length - 1) = true := by simp [inI]; omega
   have := hD.deep n hnl
   simp [zR, h9, this]
 simp only [zd] at hty
 refine zm (fn := Tryz.f67) (c := Tryz.f67.body.getD .skip) (res := [.tm 6]) (n := 16) zg (by kernel_rfl) (by rfl) (by kernel_rfl) (by rfl) (by rfl) (by simp [zq]) (fun uf ub C hpin hpin2 hfull => ?_)
 simp only [Tryz.f67, Option.getD_some]
 refine Tri.step zg ?_
 simp +decide only [zd, za, hpin, go_sem, reduceAdd, reduceMul]
 refine Tri.ent ?_ (Ent.frb hfull 3)
 refine Tri.step zg ?_
 simp +decide only [zd, za, hpin, go_sem, reduceAdd, reduceMul]
 refine ze hde hpin ?_
 simp +decide only [hd0, zd, za, hpin, go_sem, reduceAdd, reduceMul]
 refine zf zg _ ?_
 simp +decide only [zd, za, hpin, go_sem, reduceAdd, reduceMul]
 refine ze hty hpin ?_
 simp +decide only [zd, za, hpin, go_sem, reduceAdd, reduceMul]
theorem zas (p : ProgramD) (hD : Deep p.nodes) (fn : Int) (hf : p.fns.length <= 1048576) (hn : p.nodes.length <= 1048576) (hk : ∀ x ∈ p.nodes, x.kids.length <= 300) (hpl : ∀ f ∈ p.fns, f.params.length <= 1048576) :
   zw Tryz.prog 63 [.ro (zd p), .ro (.sc (.int .i64 fn))] (fun rs st => rs = [(false, [.row false 96 (rows (varC false) (yd p fn))])]) := by
 have hvs := zcT p fn hf hn (fun x hx => by have := hk x hx; omega) hpl
 have hvl := xX p fn hpl hn
 have hok := zlq hD fn
 unfold yd
 generalize Xs p fn = l at hvs hvl hok |-
 simp only [zd] at hvs
 refine zm (fn := Tryz.f63) (c := Tryz.f63.body.getD .skip) (res := [.tm 4]) (n := 42) zg (by kernel_rfl) (by rfl) (by kernel_rfl) (by rfl) (by rfl) (by simp [zq]) (fun uf ub C hpin hpin2 hfull => ?_)
 simp only [Tryz.f63, Option.getD_some]
 refine Tri.step zg ?_
 simp +decide only [zd, za, hpin, go_sem, reduceAdd, reduceMul]
 refine Tri.ent ?_ (Ent.frb hfull 2)
 refine Tri.step zg ?_
 simp +decide only [zd, za, hpin, go_sem, reduceAdd, reduceMul]
 refine ze hvs hpin ?_
 simp +decide only [zd, za, hpin, go_sem, reduceAdd, reduceMul]
 refine Tri.step zg ?_
 simp +decide only [zd, za, hpin, go_sem, reduceAdd, reduceMul]
 refine Tri.loop (ι := Nat) (fun i => i <= l.length) (fun i => ⟨42, [(2, .ip (za true p) 0), (5, .ref 5 [] l.length), (11, vI l.length), (12, vI i)], [(5, .row 96 (rows (varC false) (yc p l i)))]⟩) (fun i => l.length - i) 0 (by simp) ?_ ?_
 · refine Ent.weak ?_ ?_ ?_ ?_ <;> simp +decide [subT, subB, zl, zk, zn, St.get, look, vI, vB, vS, cI, cS, cB, zh, za, roI, yc]
 · rintro i hi
   refine zf zg _ ?_
   have hpl2 := zM p l i
   by_cases h' : i < l.length
   · have e : ((i : Int) < (l.length : Int)) = True := by simp [h']
     have hok2 := zcX hok i
     have hnx : yc p l (i + 1) = Xw p (yc p l i) i := rfl
     generalize yc p l i = L at hpl2 hok2 hnx
     have hiL : i < L.length := by omega
     have hge : L.getD i vr0 = L[i] := by simp [List.getD, hiL]
     have htk := yq (varC false) L
     rw [hpl2] at htk
     unfold Xw tyOf at hnx
     rw [hge] at hnx
     have hq := XC (varC false) L hiL
     have hqd := zj (varC false) L hiL
     simp only [varC] at hq hqd
     by_cases hneg : 0 <= L[i].node
     · have c1 : (0 <= L[i].node) = True := eq_true hneg
       obtain ⟨g1, g2⟩ := (hok2 i hiL).resolve_left (by omega)
       rw [if_pos hneg, yI g1] at hnx
       rw [yI g1] at g2
       have c2 : (L[i].node < (p.nodes.length : Int)) = True := eq_true (by omega)
       have hy : (rows (zh true) p.nodes).getD L[i].node.toNat [] = zh true p.nodes[L[i].node.toNat] := zj _ _ g1
       have hkd := hD.kid g1
       generalize p.nodes[L[i].node.toNat] = x at hy g2 hnx hkd
       have hk0 : x.kids.getD 0 0 = x.kids[0] := by simp [List.getD, g2]
       obtain ⟨q0, q1, q2⟩ := hkd x.kids[0] (List.getElem_mem g2)
       obtain ⟨m, hm⟩ : ∃ m : Nat, x.kids[0] = m := ⟨x.kids[0].toNat, by omega⟩
       have hty := zaZ p hD L (by omega) hf hn hk m (by omega)
       rw [hk0, hm] at hnx
       have hg0 : (row1 cI x.kids).getD (Int.toNat 0) [] = [cI x.kids[0]] := zr cI x.kids g2
       rw [hm] at hg0
       have hc0 : ((0 : Int) < (x.kids.length : Int)) = True := eq_true (by omega)
       have hvst := zlr L i ⟨L[i].name, yj p L m, L[i].node⟩
       rw [<- hnx] at hvst
       simp only [zd] at hty
       simp only [cI, cS] at hvst hg0 hq hqd
       simp +decide only [e, h', c1, hq, hqd, Int.natCast_nonneg, vB, vI, zd, za, hpin, go_sem, reduceAdd, reduceMul]
       refine Tri.sched zg [(0, true), (1, true), (3, true), (4, true), (6, true), (7, true), (8, true), (9, true), (2, true), (5, true), (10, false), (11, false), (12, false), (13, false), (14, false), (15, false), (16, false), (17, false), (18, false), (19, false)] zT (by kernel_rfl) (fun C2 hC2 => ?_)
       have hp2 := zU hC2 hpin
       simp +decide only [e, h', c1, c2, hq, hqd, hy, zh, hg0, hc0, g2, htk, Int.natCast_nonneg, zd, za, hp2, go_sem, reduceAdd, reduceMul]
       refine ze hty hp2 ?_
       simp +decide only [e, hpl2, htk, h', hq, hqd, hvst, Int.natCast_nonneg, zd, za, hp2, hpin, go_sem, reduceAdd, reduceMul]
       refine ⟨i + 1, h', by omega, Ent.weak ?_ ?_ ?_ ?_⟩
       all_goals simp +decide [subT, subB, zl, zk, zn, St.get, look, vI, vB, vS, cI, cS, cB, zh, za, roI, w64s (n := l.length) h' (by omega)]
     · have c1 : (0 <= L[i].node) = False := eq_false hneg
       rw [if_neg hneg] at hnx
       simp +decide only [e, h', c1, hq, hqd, Int.natCast_nonneg, vB, vI, zd, za, hpin, go_sem, reduceAdd, reduceMul]
       refine ⟨i + 1, h', by omega, Ent.weak ?_ ?_ ?_ ?_⟩
       all_goals simp +decide [subT, subB, zl, zk, zn, St.get, look, vI, vB, vS, cI, cS, cB, zh, za, roI, hnx, w64s (n := l.length) h' (by omega)]
   · have hil : i = l.length := by omega
     subst hil
     have e : ((l.length : Int) < (l.length : Int)) = False := by simp
     simp +decide only [e, vB, vI, zd, za, hpin, go_sem, reduceAdd, reduceMul]
     refine zf zg _ ?_
     simp +decide only [hpl2, zd, za, hpin, go_sem, reduceAdd, reduceMul]
theorem zcj (p : ProgramD) (hR : yx p = true) (fn : Nat) (hfn : fn < p.fns.length) (hf : p.fns.length <= 1048576) (hn : p.nodes.length <= 1048576) (hk : ∀ x ∈ p.nodes, x.kids.length <= 1048576) (hpl : ∀ f ∈ p.fns, f.params.length <= 1048576) :
   zw Tryz.prog 117 [.ro (zd p), .ro (.sc (.int .i64 fn))] (fun rs st => rs = if Xl p fn then [(false, [.row false 96 (rows (varC false) (yd p fn))]), (false, [cB true])] else [(false, [.row false 96 []]), (false, [cB false])]) := by
 have hG := yA (Bool.and_eq_true_iff.1 hR).1
 have hk3 : ∀ x ∈ p.nodes, x.kids.length <= 300 := fun x hx => by have := hG.deep.few x hx; omega
 have hvs := zas p hG.deep fn hf hn hk3 hpl
 have hnr := Zt p hf hn hk hpl
 have hvl : (yd p fn).length <= 2097152 := by unfold yd; rw [zM]; exact xX p fn hpl hn
 have hin : inI (fn : Int) 0 (p.fns.length - 1) = true := by simp [inI]; omega
 rw [hR] at hnr
 unfold Xl
 generalize yd p fn = l at hvs hvl |-
 simp only [zd] at hvs hnr
 have w1 : IntKind.i64.wrap ((p.fns.length : Int) - 1) = (p.fns.length : Int) - 1 := w64 (by omega) (by omega)
 refine zm (fn := Tryz.f117) (c := Tryz.f117.body.getD .skip) (res := [.tm 4, .tm 5]) (n := 35) zg (by kernel_rfl) (by rfl) (by kernel_rfl) (by rfl) (by rfl) (by simp [zq]) (fun uf ub C hpin hpin2 hfull => ?_)
 simp only [Tryz.f117, Option.getD_some]
 refine Tri.step zg ?_
 simp +decide only [zd, za, hpin, go_sem, reduceAdd, reduceMul]
 refine Tri.ent ?_ (Ent.frb hfull 2)
 refine Tri.step zg ?_
 simp +decide only [zd, za, hpin, go_sem, reduceAdd, reduceMul]
 refine ze hnr hpin ?_
 simp +decide only [w1, zd, za, hpin, go_sem, reduceAdd, reduceMul]
 refine ze (in' fn 0 (p.fns.length - 1)) hpin ?_
 simp +decide only [hin, zd, za, hpin, go_sem, reduceAdd, reduceMul]
 refine Tri.step zg ?_
 simp +decide only [zd, za, hpin, go_sem, reduceAdd, reduceMul]
 refine ze hvs hpin ?_
 simp +decide only [zd, za, hpin, go_sem, reduceAdd, reduceMul]
 refine Tri.step zg ?_
 simp +decide only [zd, za, hpin, go_sem, reduceAdd, reduceMul]
 have htk := yq (varC false) l
 refine Tri.loop (ι := Nat) (fun i => i <= l.length /\ zK (tyB l) i = true) (fun i => ⟨35, [(6, .ref 6 [] l.length), (24, .ref 6 [] l.length), (25, vI l.length), (26, vI i)], [(6, .row 96 (rows (varC false) l))]⟩) (fun i => l.length - i) 0 ⟨by simp, rfl⟩ ?_ ?_
 · refine Ent.weak ?_ ?_ ?_ ?_ <;> simp +decide [subT, subB, zl, zk, zn, St.get, look, vI, vB, vS, cI, cS, cB, zh, za, roI]
 · rintro i ⟨hi, hq⟩
   refine zf zg _ ?_
   by_cases h' : i < l.length
   · have e : ((i : Int) < (l.length : Int)) = True := by simp [h']
     have hge : tyB l i = !(l[i].ty == 0) := by simp [tyB, List.getD, h']
     simp +decide only [e, h', XC _ _ h', zj _ _ h', varC, Int.natCast_nonneg, vB, vI, zd, za, hpin, go_sem, reduceAdd, reduceMul]
     cases hz : l[i].ty == 0 with
     | true =>
       have hff : zK (tyB l) l.length = false := zA h' (by rw [hge, hz]; rfl)
       rw [hff]
       simp +decide only [hz, zd, za, hpin, go_sem, reduceAdd, reduceMul]
     | false =>
       simp +decide only [hz, zd, za, hpin, go_sem, reduceAdd, reduceMul]
       refine ⟨i + 1, ⟨h', by rw [zQ, hq, hge, hz]; rfl⟩, by omega, Ent.weak ?_ ?_ ?_ ?_⟩
       all_goals simp +decide [subT, subB, zl, zk, zn, St.get, look, vI, vB, vS, cI, cS, cB, zh, za, roI, w64s (n := l.length) h' (by omega)]
   · have hil : i = l.length := by omega
     subst hil
     have e : ((l.length : Int) < (l.length : Int)) = False := by simp
     rw [hq]
     simp +decide only [e, vB, vI, zd, za, hpin, go_sem, reduceAdd, reduceMul]
     refine zf zg _ ?_
     simp +decide only [htk, zd, za, hpin, go_sem, reduceAdd, reduceMul]
theorem zce (p : ProgramD) (hD : Deep p.nodes) (fn : Int) (hf : p.fns.length <= 1048576) (hn : p.nodes.length <= 1048576) (hk : ∀ x ∈ p.nodes, x.kids.length <= 300) (hpl : ∀ f ∈ p.fns, f.params.length <= 1048576) :
   zw Tryz.prog 106 [.ro (zd p), .ro (.sc (.int .i64 fn))] (fun rs st => rs = if Xl p fn then [(false, [.row false 96 (rows (varC false) (yd p fn))]), (false, [cB true])] else [(false, [.row false 96 []]), (false, [cB false])]) := by
 have hvs := zcS p fn hf hn (fun x hx => by have := hk x hx; omega) hpl
 have hvl := xX p fn hpl hn
 have hok := zlq hD fn
 unfold Xl yd
 generalize Xs p fn = l at hvs hvl hok |-
 simp only [zd] at hvs
 have hll := zM p l l.length
 have hbad : ∀ i (h : i < l.length), (((yc p l (i + 1)).getD i vr0).ty == 0) = true -> zK (tyB (yc p l l.length)) (yc p l l.length).length = false := fun i h hz => by
   refine zA (i := i) (by omega) ?_
   have h1 := zaB p l h l.length h
   have h2 : (yc p l (i + 1)).getD i vr0 = (yc p l (i + 1))[i]'(by rw [zM]; exact h) := by simp [List.getD, zM, h]
   have h3 : (yc p l l.length).getD i vr0 = (yc p l l.length)[i]'(by rw [zM]; exact h) := by simp [List.getD, zM, h]
   unfold tyB
   rw [h3, h1, <- h2, hz]; rfl
 have hgood : (∀ i (h : i < l.length), (((yc p l (i + 1)).getD i vr0).ty == 0) = false) -> zK (tyB (yc p l l.length)) (yc p l l.length).length = true := fun hall => by
   rw [xt]
   intro i hi
   rw [hll] at hi
   have h1 := zaB p l hi l.length hi
   have h2 : (yc p l (i + 1)).getD i vr0 = (yc p l (i + 1))[i]'(by rw [zM]; exact hi) := by simp [List.getD, zM, hi]
   have h3 : (yc p l l.length).getD i vr0 = (yc p l l.length)[i]'(by rw [zM]; exact hi) := by simp [List.getD, zM, hi]
   unfold tyB
   rw [h3, h1, <- h2, hall i hi]; rfl
 refine zm (fn := Tryz.f106) (c := Tryz.f106.body.getD .skip) (res := [.tm 4, .tm 5]) (n := 50) zg (by kernel_rfl) (by rfl) (by kernel_rfl) (by rfl) (by rfl) (by simp [zq]) (fun uf ub C hpin hpin2 hfull => ?_)
 simp only [Tryz.f106, Option.getD_some]
 refine Tri.step zg ?_
 simp +decide only [zd, za, hpin, go_sem, reduceAdd, reduceMul]
 refine Tri.ent ?_ (Ent.frb hfull 2)
 refine Tri.step zg ?_
 simp +decide only [zd, za, hpin, go_sem, reduceAdd, reduceMul]
 refine ze hvs hpin ?_
 simp +decide only [zd, za, hpin, go_sem, reduceAdd, reduceMul]
 refine Tri.step zg ?_
 simp +decide only [zd, za, hpin, go_sem, reduceAdd, reduceMul]
 refine Tri.loop (ι := Nat) (fun i => i <= l.length /\ ∀ j (h : j < l.length), j < i -> (((yc p l (j + 1)).getD j vr0).ty == 0) = false) (fun i => ⟨50, [(2, .ip (za true p) 0), (6, .ref 6 [] l.length), (7, vI i)], [(6, .row 96 (rows (varC false) (yc p l i)))]⟩) (fun i => l.length - i) 0 ⟨by simp, fun j hj h0 => by omega⟩ ?_ ?_
 · refine Ent.weak ?_ ?_ ?_ ?_ <;> simp +decide [subT, subB, zl, zk, zn, St.get, look, vI, vB, vS, cI, cS, cB, zh, za, roI, yc]
 · rintro i ⟨hi, hall⟩
   have hpl2 := zM p l i
   by_cases h' : i < l.length
   · have e : ((i : Int) < (l.length : Int)) = True := by simp [h']
     have hok2 := zcX hok i
     have hnx : yc p l (i + 1) = Xw p (yc p l i) i := rfl
     have hnl2 := zM p l (i + 1)
     have hbad2 := hbad i h'
     have hall2 : (((yc p l (i + 1)).getD i vr0).ty == 0) = false -> ∀ j (h : j < l.length), j < i + 1 -> (((yc p l (j + 1)).getD j vr0).ty == 0) = false := fun hz j hj hj2 => by
       by_cases ej : j = i
       · subst ej; exact hz
       · exact hall j hj (by omega)
     generalize zK (tyB (yc p l l.length)) (yc p l l.length).length = RB at hbad2 |-
     generalize yc p l l.length = FL at hbad2 |-
     have hgoal : ∀ j, j = i + 1 -> rows (varC false) (yc p l j) = rows (varC false) (yc p l (i + 1)) := fun j hj => by rw [hj]
     generalize hL : yc p l i = L at hpl2 hok2 hnx
     generalize hM : yc p l (i + 1) = M at hnx hnl2 hbad2 hall2
     have hiL : i < L.length := by omega
     have hiM : i < M.length := by omega
     have hge : L.getD i vr0 = L[i] := by simp [List.getD, hiL]
     have hgm : M.getD i vr0 = M[i] := by simp [List.getD, hiM]
     have htk := yq (varC false) L
     rw [hpl2] at htk
     rw [hgm] at hbad2 hall2
     have hnx0 := hnx
     unfold Xw tyOf at hnx
     rw [hge] at hnx
     have hq := XC (varC false) L hiL
     have hqd := zj (varC false) L hiL
     have hqm := XC (varC false) M hiM
     have hqdm := zj (varC false) M hiM
     simp only [varC, cI, cS] at hq hqd hqm hqdm
     have fin : ∀ (b : Bool), (M[i].ty == 0) = b -> True := fun _ _ => trivial
     refine zf zg _ ?_
     by_cases hneg : 0 <= L[i].node
     · have c1 : (0 <= L[i].node) = True := eq_true hneg
       obtain ⟨g1, g2⟩ := (hok2 i hiL).resolve_left (by omega)
       rw [if_pos hneg, yI g1] at hnx
       rw [yI g1] at g2
       have c2 : (L[i].node < (p.nodes.length : Int)) = True := eq_true (by omega)
       have hy : (rows (zh true) p.nodes).getD L[i].node.toNat [] = zh true p.nodes[L[i].node.toNat] := zj _ _ g1
       have hkd := hD.kid g1
       generalize p.nodes[L[i].node.toNat] = x at hy g2 hnx hkd
       have hk0 : x.kids.getD 0 0 = x.kids[0] := by simp [List.getD, g2]
       obtain ⟨q0, q1, q2⟩ := hkd x.kids[0] (List.getElem_mem g2)
       obtain ⟨m, hm⟩ : ∃ m : Nat, x.kids[0] = m := ⟨x.kids[0].toNat, by omega⟩
       have hty := ZY p hD L (by omega) hf hn hk m (by omega)
       rw [hk0, hm] at hnx
       have hg0 : (row1 cI x.kids).getD (Int.toNat 0) [] = [cI x.kids[0]] := zr cI x.kids g2
       rw [hm] at hg0
       have hc0 : ((0 : Int) < (x.kids.length : Int)) = True := eq_true (by omega)
       have hvst := zlr L i ⟨L[i].name, yj p L m, L[i].node⟩
       rw [<- hnx] at hvst
       simp only [zd] at hty
       simp only [cI, cS] at hvst hg0
       simp +decide only [e, h', c1, hq, hqd, Int.natCast_nonneg, vB, vI, zd, za, hpin, go_sem, reduceAdd, reduceMul]
       refine Tri.sched zg [(0, true), (1, true), (3, true), (4, true), (6, true), (7, true), (8, true), (9, true), (2, true), (5, true), (10, false), (11, false), (12, false), (13, false), (14, false), (15, false), (16, false), (17, false), (18, false), (19, false)] zT (by kernel_rfl) (fun C2 hC2 => ?_)
       have hp2 := zU hC2 hpin
       simp +decide only [e, h', c1, c2, hq, hqd, hy, zh, hg0, hc0, g2, htk, Int.natCast_nonneg, zd, za, hp2, go_sem, reduceAdd, reduceMul]
       refine ze hty hp2 ?_
       cases hz : M[i].ty == 0 with
       | true =>
         rw [hbad2 hz]
         simp +decide only [e, hpl2, htk, h', hq, hqd, hvst, hqm, hqdm, hz, Int.natCast_nonneg, zd, za, hp2, hpin, go_sem, reduceAdd, reduceMul]
       | false =>
       simp +decide only [e, hpl2, htk, h', hq, hqd, hvst, hqm, hqdm, hz, Int.natCast_nonneg, zd, za, hp2, hpin, go_sem, reduceAdd, reduceMul]
       refine ⟨i + 1, ⟨h', hall2 hz⟩, by omega, Ent.weak ?_ ?_ ?_ ?_⟩
       all_goals simp +decide [subT, subB, zl, zk, zn, St.get, look, vI, vB, vS, cI, cS, cB, zh, za, roI, hM, w64s (n := l.length) h' (by omega)]
     · have c1 : (0 <= L[i].node) = False := eq_false hneg
       rw [if_neg hneg] at hnx
       subst hnx
       cases hz : M[i].ty == 0 with
       | true =>
         rw [hbad2 hz]
         simp +decide only [e, h', c1, hq, hqd, hz, Int.natCast_nonneg, vB, vI, zd, za, hpin, go_sem, reduceAdd, reduceMul]
       | false =>
       simp +decide only [e, h', c1, hq, hqd, hz, Int.natCast_nonneg, vB, vI, zd, za, hpin, go_sem, reduceAdd, reduceMul]
       refine ⟨i + 1, ⟨h', hall2 hz⟩, by omega, Ent.weak ?_ ?_ ?_ ?_⟩
       all_goals simp +decide [subT, subB, zl, zk, zn, St.get, look, vI, vB, vS, cI, cS, cB, zh, za, roI, hM, w64s (n := l.length) h' (by omega)]
   · have hil : i = l.length := by omega
     subst hil
     have e : ((l.length : Int) < (l.length : Int)) = False := by simp
     have hRt := hgood (fun j hj => hall j hj hj)
     have htk := yq (varC false) (yc p l l.length)
     rw [hll] at htk
     refine zf zg _ ?_
     rw [hRt]
     simp +decide only [e, vB, vI, zd, za, hpin, go_sem, reduceAdd, reduceMul]
     refine zf zg _ ?_
     simp +decide only [htk, hll, zd, za, hpin, go_sem, reduceAdd, reduceMul]
def zeI (T : Int -> Int) (x : NodeD) : Int := if 0 < x.kids.length then T (x.kids.getD 0 0) else 0
def zeU (T : Int -> Int) (p : ProgramD) (l : List VarD) (x : NodeD) : Bool :=
 if x.kind == 13 then !(zeI T x == 0)
 else if x.kind == 14 then (zeI T x == zan l x.name && (zeI T x == 1 || zeI T x == 2))
 else if x.kind == 15 then (zeI T x == 1 && (zan l x.name == 2 || zan l x.name == 4))
 else if x.kind == 16 || (x.kind == 17 || x.kind == 18) then zeI T x == 1
 else if x.kind == 19 then YP T p (nAt p.nodes (x.kids.getD 0 0))
 else true
def stB (p : ProgramD) (l : List VarD) (m : Nat) : Bool := zeU (yj p l) p l (nAt p.nodes m)
open Classical in
noncomputable def Yl (p : ProgramD) (l : List VarD) (n : Nat) : Bool := decide (∀ m, Reach p.nodes n m -> stB p l m = true)
theorem zbB {p : ProgramD} (l : List VarD) {n : Nat} (hn : n < p.nodes.length) : Yl p l n = (stB p l n && p.nodes[n].kids.all (fun kid => Yl p l kid.toNat)) := by
 rw [Bool.eq_iff_iff, Bool.and_eq_true, List.all_eq_true]
 unfold Yl
 simp only [decide_eq_true_eq]
 constructor
 · intro h
   exact ⟨h n (.refl n), fun kid hk m hm => h m ((Reach.step (.refl n) hn hk).trans hm)⟩
 · rintro ⟨h1, h2⟩ m hm
   rcases hm.head with rfl | ⟨_, kid, hk, hr⟩
   · exact h1
   · exact h2 kid hk m hr
theorem zoF {p : ProgramD} (l : List VarD) {n : Nat} (hv : xb (nAt p.nodes n).kind = true) : stB p l n = true := by
 obtain ⟨v20, v16, v17, v19, v14, v15, v13⟩ := zls hv
 have v18 : ((nAt p.nodes n).kind == 18) = false := by
   have := zx (show inI (nAt p.nodes n).kind 1 12 = true from hv)
   apply Bool.eq_false_iff.2; intro hh; have := eq_of_beq hh; omega
 unfold stB zeU
 rw [v13, v14, v15, v16, v17, v18, v19]; rfl
theorem zmL {p : ProgramD} (hD : Deep p.nodes) (l : List VarD) (n : Nat) : n < p.nodes.length -> xb (nAt p.nodes n).kind = true -> Yl p l n = true := by
 induction n using Nat.strongRecOn with
 | ind n ih =>
 intro hn hv
 rw [zbB l hn, zoF l hv, Bool.true_and, List.all_eq_true]
 intro kid hk
 obtain ⟨i, hi, rfl⟩ := List.getElem_of_mem hk
 have hft := xN (hD.deep n hn) hn hi
 rw [zH hn] at hv
 obtain ⟨v20, v16, v17, v19, _⟩ := zls hv
 unfold yG at hft
 rw [v20, v16, v17, v19] at hft
 obtain ⟨q0, q1, q2⟩ := hD.kid hn _ hk
 have e : p.nodes[n].kids[i] = (p.nodes[n].kids[i].toNat : Int) := by omega
 refine ih _ q2 (by omega) ?_
 rw [<- e]; exact hft
theorem zgU (p : ProgramD) (hD : Deep p.nodes) (l : List VarD) (hl : l.length <= 4194304) (hf : p.fns.length <= 1048576) (hn : p.nodes.length <= 1048576) (hk : ∀ x ∈ p.nodes, x.kids.length <= 300) (n : Nat) (hnl : n < p.nodes.length) :
   zw Tryz.prog 118 [.ro (zd p), .ro (.imm 96 (rows (varC true) l)), .ro (.sc (.int .i64 n))] (fun rs st => rs = [(false, [cB (stB p l n)])]) := by
 have hkid := hD.kid hnl
 have hsh := zx (xC (hD.deep n hnl) hnl)
 have hx : (rows (zh true) p.nodes).getD n [] = zh true p.nodes[n] := zj _ _ hnl
 have hc1 : ((n : Int) < (p.nodes.length : Int)) = True := eq_true (by omega)
 unfold stB
 rw [zH hnl]
 generalize p.nodes[n] = x at hkid hsh hx
 have hvt := zcg l x.name hl
 obtain ⟨R, heq⟩ : ∃ R, R = zeU (yj p l) p l x := ⟨_, rfl⟩
 rw [<- heq]
 unfold zeU at heq
 generalize zan l x.name = tv at hvt heq
 generalize hht : zeI (yj p l) x = t at heq
 refine zm (fn := Tryz.f118) (c := Tryz.f118.body.getD .skip) (res := [.tm 6]) (n := 76) zg (by kernel_rfl) (by rfl) (by kernel_rfl) (by rfl) (by rfl) (by simp [zq]) (fun uf ub C hpin hpin2 hfull => ?_)
 simp only [Tryz.f118, Option.getD_some]
 refine Tri.step zg ?_
 simp +decide only [zd, za, hpin, go_sem, reduceAdd, reduceMul]
 refine Tri.ent ?_ (Ent.frb hfull 3)
 refine Tri.step zg ?_
 simp +decide only [hc1, hx, zh, Int.natCast_nonneg, zd, za, hpin, go_sem, reduceAdd, reduceMul]
 refine Tri.ent ?_ (Ent.frb hfull 7)
 refine Tri.step zg ?_
 simp +decide only [zd, za, hpin, go_sem, reduceAdd, reduceMul]
 refine Tri.stop zg ⟨76, [(1, .imm 96 (rows (varC true) l)), (3, .ip (za true p) 0), (7, .ip (zh true x) 0), (8, vI t)], []⟩ ?_ ?_
 · unfold zeI at hht
   by_cases hpos : 0 < x.kids.length
   · rw [if_pos hpos] at hht
     have hg0 : (row1 cI x.kids).getD (Int.toNat 0) [] = [cI x.kids[0]] := zr cI x.kids hpos
     have hc0 : ((0 : Int) < (x.kids.length : Int)) = True := eq_true (by omega)
     have hk0 : x.kids.getD 0 0 = x.kids[0] := by simp [List.getD, hpos]
     obtain ⟨q0, q1, q2⟩ := hkid x.kids[0] (List.getElem_mem hpos)
     obtain ⟨m, hm⟩ : ∃ m : Nat, x.kids[0] = m := ⟨x.kids[0].toNat, by omega⟩
     have hty := YR p hD l hl hf hn hk m (by omega)
     rw [hk0, hm] at hht
     rw [hm] at hg0
     simp only [zd] at hty
     simp only [cI] at hg0
     simp +decide only [hc0, gt_iff_lt, zh, zd, za, hpin, go_sem, reduceAdd, reduceMul]
     refine Tri.sched zg [(1, true), (2, true), (0, true), (3, false), (4, false), (5, false), (6, false), (7, false)] zT (by kernel_rfl) (fun C2 hC2 => ?_)
     have hp2 := zU hC2 hpin
     simp +decide only [hg0, hc0, hpos, zd, za, hp2, go_sem, reduceAdd, reduceMul]
     refine ze hty hp2 ?_
     simp +decide only [hht, zd, za, hp2, hpin, go_sem, reduceAdd, reduceMul]
     refine Ent.weak ?_ ?_ ?_ ?_ <;> simp +decide [subT, subB, zl, zk, zn, St.get, look, vI, vB, vS, cI, cS, cB, zh, za, roI]
   · rw [if_neg hpos] at hht
     have hc0 : ((0 : Int) < (x.kids.length : Int)) = False := eq_false (by omega)
     simp +decide only [hc0, gt_iff_lt, zh, zd, za, hpin, go_sem, reduceAdd, reduceMul]
     refine Ent.weak ?_ ?_ ?_ ?_ <;> simp +decide [subT, subB, zl, zk, zn, St.get, look, vI, vB, vS, cI, cS, cB, zh, za, roI, <- hht]
 refine Tri.step zg ?_
 simp +decide only [zh, za, vB, vI, zd, za, hpin, go_sem, reduceAdd, reduceMul]
 refine ze hvt hpin ?_
 simp +decide only [zd, za, hpin, go_sem, reduceAdd, reduceMul]
 refine Tri.step zg ?_
 cases h13 : x.kind == 13 with
 | true =>
   have ek := eq_of_beq h13
   rw [ek] at heq
   simp +decide only [Bool.or_true, Bool.true_or, Bool.or_false, Bool.false_or, if_true, if_false, Int.reduceBEq, Bool.false_eq_true] at heq
   simp +decide only [h13, heq, Bool.or_true, Bool.true_or, Bool.or_false, Bool.false_or, bne, zh, zd, za, hpin, go_sem, reduceAdd, reduceMul]
 | false =>
 cases h14 : x.kind == 14 with
 | true =>
   have ek := eq_of_beq h14
   rw [ek] at heq
   simp +decide only [Bool.or_true, Bool.true_or, Bool.or_false, Bool.false_or, if_true, if_false, Int.reduceBEq, Bool.false_eq_true] at heq
   cases e1 : t == tv with
   | false =>
     simp only [e1, Bool.true_and, Bool.false_and, Bool.true_or, Bool.false_or, Bool.or_false] at heq
     simp +decide only [h13, h14, e1, heq, Bool.or_true, Bool.true_or, Bool.or_false, Bool.false_or, bne, zh, zd, za, hpin, go_sem, reduceAdd, reduceMul]
   | true =>
   cases e2 : t == 1 with
   | true =>
     simp only [e1, e2, Bool.true_and, Bool.false_and, Bool.true_or, Bool.false_or, Bool.or_false] at heq
     simp +decide only [h13, h14, e1, e2, heq, Bool.or_true, Bool.true_or, Bool.or_false, Bool.false_or, bne, zh, zd, za, hpin, go_sem, reduceAdd, reduceMul]
   | false =>
   cases e3 : t == 2 with
   | true =>
     simp only [e1, e2, e3, Bool.true_and, Bool.false_and, Bool.true_or, Bool.false_or, Bool.or_false] at heq
     simp +decide only [h13, h14, e1, e2, e3, heq, Bool.or_true, Bool.true_or, Bool.or_false, Bool.false_or, bne, zh, zd, za, hpin, go_sem, reduceAdd, reduceMul]
   | false =>
     simp only [e1, e2, e3, Bool.true_and, Bool.false_and, Bool.true_or, Bool.false_or, Bool.or_false] at heq
     simp +decide only [h13, h14, e1, e2, e3, heq, Bool.or_true, Bool.true_or, Bool.or_false, Bool.false_or, bne, zh, zd, za, hpin, go_sem, reduceAdd, reduceMul]
 | false =>
 cases h15 : x.kind == 15 with
 | true =>
   have ek := eq_of_beq h15
   rw [ek] at heq
   simp +decide only [Bool.or_true, Bool.true_or, Bool.or_false, Bool.false_or, if_true, if_false, Int.reduceBEq, Bool.false_eq_true] at heq
   cases e1 : t == 1 with
   | false =>
     simp only [e1, Bool.true_and, Bool.false_and, Bool.true_or, Bool.false_or, Bool.or_false] at heq
     simp +decide only [h13, h14, h15, e1, heq, Bool.or_true, Bool.true_or, Bool.or_false, Bool.false_or, bne, zh, zd, za, hpin, go_sem, reduceAdd, reduceMul]
   | true =>
   cases e2 : tv == 2 with
   | true =>
     simp only [e1, e2, Bool.true_and, Bool.false_and, Bool.true_or, Bool.false_or, Bool.or_false] at heq
     simp +decide only [h13, h14, h15, e1, e2, heq, Bool.or_true, Bool.true_or, Bool.or_false, Bool.false_or, bne, zh, zd, za, hpin, go_sem, reduceAdd, reduceMul]
   | false =>
   cases e3 : tv == 4 with
   | true =>
     simp only [e1, e2, e3, Bool.true_and, Bool.false_and, Bool.true_or, Bool.false_or, Bool.or_false] at heq
     simp +decide only [h13, h14, h15, e1, e2, e3, heq, Bool.or_true, Bool.true_or, Bool.or_false, Bool.false_or, bne, zh, zd, za, hpin, go_sem, reduceAdd, reduceMul]
   | false =>
     simp only [e1, e2, e3, Bool.true_and, Bool.false_and, Bool.true_or, Bool.false_or, Bool.or_false] at heq
     simp +decide only [h13, h14, h15, e1, e2, e3, heq, Bool.or_true, Bool.true_or, Bool.or_false, Bool.false_or, bne, zh, zd, za, hpin, go_sem, reduceAdd, reduceMul]
 | false =>
 cases h16 : x.kind == 16 with
 | true =>
   have ek := eq_of_beq h16
   rw [ek] at heq
   simp +decide only [Bool.or_true, Bool.true_or, Bool.or_false, Bool.false_or, if_true, if_false, Int.reduceBEq, Bool.false_eq_true] at heq
   simp +decide only [h13, h14, h15, h16, heq, Bool.or_true, Bool.true_or, Bool.or_false, Bool.false_or, bne, zh, zd, za, hpin, go_sem, reduceAdd, reduceMul]
 | false =>
 cases h17 : x.kind == 17 with
 | true =>
   have ek := eq_of_beq h17
   rw [ek] at heq
   simp +decide only [Bool.or_true, Bool.true_or, Bool.or_false, Bool.false_or, if_true, if_false, Int.reduceBEq, Bool.false_eq_true] at heq
   simp +decide only [h13, h14, h15, h16, h17, heq, Bool.or_true, Bool.true_or, Bool.or_false, Bool.false_or, bne, zh, zd, za, hpin, go_sem, reduceAdd, reduceMul]
 | false =>
 cases h18 : x.kind == 18 with
 | true =>
   have ek := eq_of_beq h18
   rw [ek] at heq
   simp +decide only [Bool.or_true, Bool.true_or, Bool.or_false, Bool.false_or, if_true, if_false, Int.reduceBEq, Bool.false_eq_true] at heq
   simp +decide only [h13, h14, h15, h16, h17, h18, heq, Bool.or_true, Bool.true_or, Bool.or_false, Bool.false_or, bne, zh, zd, za, hpin, go_sem, reduceAdd, reduceMul]
 | false =>
 cases h19 : x.kind == 19 with
 | true =>
   have ek := eq_of_beq h19
   rw [ek] at heq
   simp +decide only [Bool.or_true, Bool.true_or, Bool.or_false, Bool.false_or, if_true, if_false, Int.reduceBEq, Bool.false_eq_true] at heq
   have hpos : 0 < x.kids.length := by rw [ek] at hsh; have := hsh.1; simp [zI] at this; omega
   have hg0 : (row1 cI x.kids).getD (Int.toNat 0) [] = [cI x.kids[0]] := zr cI x.kids hpos
   have hc0 : ((0 : Int) < (x.kids.length : Int)) = True := eq_true (by omega)
   have hk0 : x.kids.getD 0 0 = x.kids[0] := by simp [List.getD, hpos]
   obtain ⟨q0, q1, q2⟩ := hkid x.kids[0] (List.getElem_mem hpos)
   obtain ⟨m, hm⟩ : ∃ m : Nat, x.kids[0] = m := ⟨x.kids[0].toNat, by omega⟩
   have hml : m < p.nodes.length := by omega
   have hcr := zbD p l hl hf hn hk m hml (fun kid hkk => by
     obtain ⟨r0, r1, r2⟩ := hD.kid hml kid hkk
     have e : kid = (kid.toNat : Int) := by omega
     have := YR p hD l hl hf hn hk kid.toNat (by omega)
     rw [<- e] at this
     exact this)
   rw [hk0, hm, zH hml] at heq
   rw [<- heq] at hcr
   rw [hm] at hg0
   simp only [zd] at hcr
   simp only [cI] at hg0
   simp +decide only [h13, h14, h15, h16, h17, h18, h19, Bool.or_true, Bool.true_or, Bool.or_false, Bool.false_or, bne, zh, zd, za, hpin, go_sem, reduceAdd, reduceMul]
   refine Tri.sched zg [(1, true), (2, true), (0, true), (3, false), (4, false), (5, false), (6, false), (7, false)] zT (by kernel_rfl) (fun C2 hC2 => ?_)
   have hp2 := zU hC2 hpin
   simp +decide only [hg0, hc0, hpos, zd, za, hp2, go_sem, reduceAdd, reduceMul]
   refine ze hcr hp2 ?_
   simp +decide only [zd, za, hp2, hpin, go_sem, reduceAdd, reduceMul]
 | false =>
 simp +decide only [h13, h14, h15, h16, h17, h18, h19, Bool.or_false, if_false, Bool.false_eq_true] at heq
 simp +decide only [h13, h14, h15, h16, h17, h18, h19, Bool.or_true, Bool.true_or, Bool.or_false, Bool.false_or, bne, zh, zd, za, hpin, go_sem, reduceAdd, reduceMul]
 refine zf zg _ ?_
 simp +decide only [heq, zd, za, hpin, go_sem, reduceAdd, reduceMul]
noncomputable def yX (p : ProgramD) (i : Nat) : Bool := Xl p i && (Yl p (yd p i) (fAt p.fns i).body.toNat && (decide ((fAt p.fns i).ret < 0) || yj p (yd p i) (fAt p.fns i).ret == (fAt p.fns i).res))
noncomputable def zZ (p : ProgramD) : Bool := yx p && zK (yX p) p.fns.length
theorem zkq {p : ProgramD} (l : List VarD) {b : Nat} (hd : dAt p.nodes b ≠ 0) : (yY p.nodes b).all (fun x => stB p l x.toNat) = Yl p l b := by
 rw [Bool.eq_iff_iff, List.all_eq_true]
 unfold Yl
 simp only [decide_eq_true_eq]
 constructor
 · intro h m hm
   have := h (m : Int) (by unfold yY; exact List.mem_map.2 ⟨m, (xe hd).2 hm, rfl⟩)
   exact this
 · intro h x hx
   unfold yY at hx
   obtain ⟨m, hm, rfl⟩ := List.mem_map.1 hx
   exact h m ((xe hd).1 hm)
theorem ZH (p : ProgramD) (fn : Int) (hpl : ∀ f ∈ p.fns, f.params.length <= 1048576) (hn : p.nodes.length <= 1048576) : (yd p fn).length <= 2097152 := by
 unfold yd; rw [zM]; exact xX p fn hpl hn
theorem YE (p : ProgramD) (hf : p.fns.length <= 1048576) (hn : p.nodes.length <= 1048576) (hk : ∀ x ∈ p.nodes, x.kids.length <= 1048576) (hpl : ∀ f ∈ p.fns, f.params.length <= 1048576) : zw Tryz.prog 39 [.ro (zd p)] (fun rs st => rs = [(false, [cB (zZ p)])]) := by
 have hps := Zt p hf hn hk hpl
 simp only [zd] at hps
 unfold zZ
 refine zm (fn := Tryz.f39) (c := Tryz.f39.body.getD .skip) (res := [.tm 2]) (n := 58) zg (by kernel_rfl) (by rfl) (by kernel_rfl) (by rfl) (by rfl) (by simp [zq]) (fun uf ub C hpin hpin2 hfull => ?_)
 simp only [Tryz.f39, Option.getD_some]
 refine Tri.step zg ?_
 simp +decide only [zd, za, hpin, go_sem, reduceAdd, reduceMul]
 refine Tri.ent ?_ (Ent.frb hfull 1)
 refine Tri.step zg ?_
 simp +decide only [zd, za, hpin, go_sem, reduceAdd, reduceMul]
 refine ze hps hpin ?_
 cases h0 : yx p with
 | false => simp +decide only [zd, za, hpin, go_sem, reduceAdd, reduceMul]
 | true =>
 have hG := yA (Bool.and_eq_true_iff.1 h0).1
 have hk3 : ∀ x ∈ p.nodes, x.kids.length <= 300 := fun x hx => by have := hG.deep.few x hx; omega
 simp +decide only [zd, za, hpin, go_sem, reduceAdd, reduceMul]
 refine Tri.step zg ?_
 simp +decide only [zd, za, hpin, go_sem, reduceAdd, reduceMul]
 refine Tri.loop (ι := Nat) (fun i => i <= p.fns.length /\ zK (yX p) i = true) (fun i => ⟨58, [(1, .ip (za true p) 0), (2, vB false), (13, .imm 104 (rows (fnC true) p.fns)), (14, vI p.fns.length), (15, vI i)], []⟩) (fun i => p.fns.length - i) 0 ⟨by simp, rfl⟩ ?_ ?_
 · refine Ent.weak ?_ ?_ ?_ ?_ <;> simp +decide [subT, subB, zl, zk, zn, St.get, look, vI, vB, vS, cI, cS, cB, zh, za, roI]
 · rintro i ⟨hi, hq⟩
   refine zf zg _ ?_
   by_cases h' : i < p.fns.length
   · have e : ((i : Int) < (p.fns.length : Int)) = True := by simp [h']
     have hx : (rows (fnC true) p.fns).getD i [] = fnC true p.fns[i] := zj _ _ h'
     have hok := hG.fn i h'
     have hfe : yX p i = (Xl p i && (Yl p (yd p i) p.fns[i].body.toNat && (decide (p.fns[i].ret < 0) || yj p (yd p i) p.fns[i].ret == p.fns[i].res))) := by unfold yX; rw [xk h']
     obtain ⟨⟨b0, b1⟩, hret⟩ := Zb hok
     generalize p.fns[i] = g at hx hok hfe b0 b1 hret
     have hts := zcj p h0 i h' hf hn hk hpl
     have hll := ZH p i hpl hn
     simp only [zd] at hts
     simp +decide only [e, h', hx, fnC, Int.natCast_nonneg, za, vB, vI, zd, za, hpin, go_sem, reduceAdd, reduceMul]
     cases hB : Xl p i with
     | false =>
       have hff : zK (yX p) p.fns.length = false := zA h' (by rw [hfe, hB]; rfl)
       rw [hB] at hts
       simp only [if_false, Bool.false_eq_true] at hts
       refine ze hts hpin ?_
       simp +decide only [hff, zd, za, hpin, go_sem, reduceAdd, reduceMul]
     | true =>
     rw [hB] at hts
     rw [hB, Bool.true_and] at hfe
     simp only [if_true] at hts
     refine ze hts hpin ?_
     generalize yd p i = l at hll hfe |-
     obtain ⟨b, hbb⟩ : ∃ b : Nat, g.body = b := ⟨g.body.toNat, by omega⟩
     have hbl : b < p.nodes.length := by omega
     have hun := zcV p.nodes b (hG.deep.deep b hbl) hn hk
     have hud := zkq l (hG.deep.deep b hbl)
     have hum : ∀ j (hj : j < (yY p.nodes b).length), 0 <= (yY p.nodes b)[j] /\ (yY p.nodes b)[j].toNat < p.nodes.length := fun j hj => by
       have hm := List.getElem_mem hj
       unfold yY at hm
       obtain ⟨m, hm, he⟩ := List.mem_map.1 hm
       have hm2 := ((xe (hG.deep.deep b hbl)).1 hm).le (hG.deep.deep b hbl)
       unfold yY at hj |-
       rw [<- he]
       constructor
       · omega
       · simp; omega
     rw [hbb] at hfe
     rw [show (b : Int).toNat = b by omega] at hfe
     simp +decide only [hbb, zd, za, hpin, go_sem, reduceAdd, reduceMul]
     refine ze hun hpin ?_
     simp +decide only [zd, za, hpin, go_sem, reduceAdd, reduceMul]
     have hul : (yY p.nodes b).length <= b + 1 := by have := zaX p.nodes b; simpa [yY] using this
     generalize yY p.nodes b = U at hud hum hul |-
     refine Tri.ent ?_ (Ent.frz hfull 5)
     refine Tri.ent ?_ (Ent.frb hfull 4)
     simp +decide only [zd, za, hpin, go_sem, reduceAdd, reduceMul]
     refine Tri.loop (ι := Nat) (fun j => j <= U.length /\ (U.take j).all (fun x => stB p l x.toNat) = true) (fun j => ⟨58, [(1, .ip (za true p) 0), (2, vB false), (3, vI i), (4, .ip [cS g.name, .row true 107 (rows (zy true) g.params), cI g.res, cI b, cI g.ret] 0), (5, .imm 96 (rows (varC true) l)), (13, .imm 104 (rows (fnC true) p.fns)), (14, vI p.fns.length), (15, vI i), (32, .ref 3032 [] U.length), (33, vI U.length), (34, vI j)], [(3032, .row 3 (row1 cI U))]⟩) (fun j => U.length - j) 0 ⟨by simp, by simp⟩ ?_ ?_
     · refine Ent.weak ?_ ?_ ?_ ?_ <;> simp +decide [subT, subB, zl, zk, zn, St.get, look, vI, vB, vS, cI, cS, cB, zh, za, roI]
     · rintro j ⟨hj, hq2⟩
       refine zf zg _ ?_
       by_cases hj' : j < U.length
       · have e2 : ((j : Int) < (U.length : Int)) = True := by simp [hj']
         obtain ⟨g0, g1⟩ := hum j hj'
         obtain ⟨m, hm⟩ : ∃ m : Nat, U[j] = m := ⟨U[j].toNat, by omega⟩
         have hml : m < p.nodes.length := by omega
         have hsr := zgU p hG.deep l (by omega) hf hn hk3 m hml
         have hUj : stB p l U[j].toNat = stB p l m := by rw [hm]; rfl
         simp only [zd] at hsr
         simp +decide only [e2, hj', yr _ _ hj', hm, Int.natCast_nonneg, za, vB, vI, zd, za, hpin, go_sem, reduceAdd, reduceMul]
         refine ze hsr hpin ?_
         cases hc : stB p l m with
         | false =>
           have hff2 : U.all (fun x => stB p l x.toNat) = false := by rw [List.all_eq_false]; exact ⟨U[j], List.getElem_mem hj', by rw [hUj, hc]; decide⟩
           rw [hud] at hff2
           rw [hff2, Bool.false_and] at hfe
           have hff : zK (yX p) p.fns.length = false := zA h' hfe
           simp +decide only [hff, zd, za, hpin, go_sem, reduceAdd, reduceMul]
         | true =>
           simp +decide only [zd, za, hpin, go_sem, reduceAdd, reduceMul]
           refine ⟨j + 1, ⟨hj', by rw [zbF hj', hq2, hUj, hc]; rfl⟩, by omega, Ent.weak ?_ ?_ ?_ ?_⟩
           all_goals simp +decide [subT, subB, zl, zk, zn, St.get, look, vI, vB, vS, cI, cS, cB, zh, za, roI, w64s (n := U.length) hj' (by omega)]
       · have hjl : j = U.length := by omega
         subst hjl
         have e2 : ((U.length : Int) < (U.length : Int)) = False := by simp
         rw [List.take_length, hud] at hq2
         rw [hq2, Bool.true_and] at hfe
         simp +decide only [e2, za, vB, vI, zd, za, hpin, go_sem, reduceAdd, reduceMul]
         refine Tri.sched zg [(0, false), (1, false), (2, false), (3, false), (5, true), (6, true), (9, true), (4, true), (7, true), (10, true), (8, false), (11, false), (12, false)] zT (by kernel_rfl) (fun C2 hC2 => ?_)
         have hp2 := zU hC2 hpin
         rcases hret with hneg | ⟨x0, x1⟩
         · have y0 : (0 <= g.ret) = False := eq_false (by omega)
           have y1 : decide (g.ret < 0) = true := decide_eq_true hneg
           rw [y1, Bool.true_or] at hfe
           simp +decide only [y0, ge_iff_le, zd, za, hp2, hpin, go_sem, reduceAdd, reduceMul]
           refine ⟨i + 1, ⟨h', by rw [zQ, hq, hfe]; rfl⟩, by omega, Ent.weak ?_ ?_ ?_ ?_⟩
           all_goals simp +decide [subT, subB, zl, zk, zn, St.get, look, vI, vB, vS, cI, cS, cB, zh, za, roI, w64s (n := p.fns.length) h' (by omega)]
         · have y0 : (0 <= g.ret) = True := eq_true x0
           have y1 : decide (g.ret < 0) = false := decide_eq_false (by omega)
           rw [y1, Bool.false_or] at hfe
           obtain ⟨r, hrr⟩ : ∃ r : Nat, g.ret = r := ⟨g.ret.toNat, by omega⟩
           have hrl : r < p.nodes.length := by omega
           have hty := YR p hG.deep l (by omega) hf hn hk3 r hrl
           rw [hrr] at hfe
           simp only [zd] at hty
           simp +decide only [y0, hrr, ge_iff_le, Int.natCast_nonneg, zd, za, hp2, go_sem, reduceAdd, reduceMul]
           refine ze hty hp2 ?_
           cases g2 : yj p l r == g.res with
           | false =>
             rw [g2] at hfe
             have hff : zK (yX p) p.fns.length = false := zA h' hfe
             simp +decide only [g2, hff, bne, zd, za, hp2, hpin, go_sem, reduceAdd, reduceMul]
           | true =>
             rw [g2] at hfe
             simp +decide only [g2, bne, zd, za, hp2, hpin, go_sem, reduceAdd, reduceMul]
             refine ⟨i + 1, ⟨h', by rw [zQ, hq, hfe]; rfl⟩, by omega, Ent.weak ?_ ?_ ?_ ?_⟩
             all_goals simp +decide [subT, subB, zl, zk, zn, St.get, look, vI, vB, vS, cI, cS, cB, zh, za, roI, w64s (n := p.fns.length) h' (by omega)]
   · have hil : i = p.fns.length := by omega
     subst hil
     have e : ((p.fns.length : Int) < (p.fns.length : Int)) = False := by simp
     simp +decide only [e, vB, vI, zd, za, hpin, go_sem, reduceAdd, reduceMul]
     refine zf zg _ ?_
     simp +decide only [hq, zd, za, hpin, go_sem, reduceAdd, reduceMul]
theorem zpJ {f : Int -> Bool} : ∀ l : List Int, l.length = 1 -> l.all f = f (l.getD 0 0)
 | [a], _ => by simp
theorem zpI {f : Int -> Bool} : ∀ l : List Int, l.length = 2 -> l.all f = (f (l.getD 0 0) && f (l.getD 1 0))
 | [a, b], _ => by simp
theorem zmW {f : Int -> Bool} : ∀ l : List Int, l.length = 3 -> l.all f = (f (l.getD 0 0) && (f (l.getD 1 0) && f (l.getD 2 0)))
 | [a, b, c], _ => by simp
def zjw (p : ProgramD) (l : List VarD) (n : Nat) : Prop := Yg (nAt p.nodes n).kind = true ->
   zw Tryz.prog 168 [.ro (zd p), .ro (.imm 96 (rows (varC true) l)), .ro (.sc (.int .i64 n))] (fun rs st => rs = [(false, [cB (Yl p l n)])])
def zgE (p : ProgramD) (l : List VarD) (n : Nat) : Prop := (nAt p.nodes n).kind == 20 ->
   zw Tryz.prog 107 [.ro (zd p), .ro (.imm 96 (rows (varC true) l)), .ro (.sc (.int .i64 n))] (fun rs st => rs = [(false, [cB (Yl p l n)])])
theorem zlz (p : ProgramD) (hD : Deep p.nodes) (l : List VarD) (hk : ∀ x ∈ p.nodes, x.kids.length <= 300) (n : Nat) (hnl : n < p.nodes.length) (ih : ∀ m, m < n -> zjw p l m) : zgE p l n := by
 intro h20
 have heq := zbB l hnl
 have hst : stB p l n = true := by
   unfold stB zeU
   have ek := eq_of_beq h20
   rw [ek]; rfl
 rw [hst, Bool.true_and] at heq
 rw [zH hnl] at h20
 have hkid := hD.kid hnl
 have hkx := hk p.nodes[n] (List.getElem_mem hnl)
 have hx : (rows (zh true) p.nodes).getD n [] = zh true p.nodes[n] := zj _ _ hnl
 have hrec : ∀ i (hi : i < p.nodes[n].kids.length), zw Tryz.prog 168 [.ro (zd p), .ro (.imm 96 (rows (varC true) l)), .ro (.sc (.int .i64 p.nodes[n].kids[i]))] (fun rs st => rs = [(false, [cB (Yl p l p.nodes[n].kids[i].toNat)])]) := fun i hi => by
   have hft := xN (hD.deep n hnl) hnl hi
   unfold yG at hft
   rw [h20, if_pos rfl] at hft
   obtain ⟨q0, q1, q2⟩ := hkid p.nodes[n].kids[i] (List.getElem_mem hi)
   have e : p.nodes[n].kids[i] = (p.nodes[n].kids[i].toNat : Int) := by omega
   have := ih p.nodes[n].kids[i].toNat q2 (by rw [<- e]; exact hft)
   rw [<- e] at this
   exact this
 generalize Yl p l n = R at heq |-
 have hc1 : ((n : Int) < (p.nodes.length : Int)) = True := eq_true (by omega)
 generalize p.nodes[n] = x at hkid hkx heq hx hrec
 simp only [zd] at hrec
 refine zm (fn := Tryz.f107) (c := Tryz.f107.body.getD .skip) (res := [.tm 6]) (n := 32) zg (by kernel_rfl) (by rfl) (by kernel_rfl) (by rfl) (by rfl) (by simp [zq]) (fun uf ub C hpin hpin2 hfull => ?_)
 simp only [Tryz.f107, Option.getD_some]
 refine Tri.step zg ?_
 simp +decide only [zd, za, hpin, go_sem, reduceAdd, reduceMul]
 refine Tri.ent ?_ (Ent.frb hfull 3)
 refine Tri.step zg ?_
 simp +decide only [zd, za, hpin, go_sem, reduceAdd, reduceMul]
 refine Tri.loop (ι := Nat) (fun i => i <= x.kids.length /\ (x.kids.take i).all (fun kid => Yl p l kid.toNat) = true) (fun i => ⟨32, [(1, .imm 96 (rows (varC true) l)), (2, vI n), (3, .ip (za true p) 0), (6, vB false), (7, vI i)], []⟩) (fun i => x.kids.length - i) 0 ⟨by simp, by simp⟩ ?_ ?_
 · refine Ent.weak ?_ ?_ ?_ ?_ <;> simp +decide [subT, subB, zl, zk, zn, St.get, look, vI, vB, vS, cI, cS, cB, zh, za, roI]
 · rintro i ⟨hi, hq⟩
   refine zf zg _ ?_
   by_cases h' : i < x.kids.length
   · have e : ((i : Int) < (x.kids.length : Int)) = True := by simp [h']
     have hs := hrec i h'
     simp +decide only [e, hc1, hx, zh, Int.natCast_nonneg, vB, vI, zd, za, hpin, go_sem, reduceAdd, reduceMul]
     refine Tri.sched zg [(1, true), (2, true), (4, true), (8, true), (0, true), (3, false), (5, false), (6, false), (7, false), (9, false), (10, false), (11, false), (12, false)] zT (by kernel_rfl) (fun C2 hC2 => ?_)
     have hp2 := zU hC2 hpin
     simp +decide only [e, hc1, hx, h', zr _ _ h', zh, Int.natCast_nonneg, zd, za, hp2, go_sem, reduceAdd, reduceMul]
     refine ze hs hp2 ?_
     cases hc : Yl p l x.kids[i].toNat with
     | false =>
       have hff : x.kids.all (fun kid => Yl p l kid.toNat) = false := by rw [List.all_eq_false]; exact ⟨x.kids[i], List.getElem_mem h', by simp [hc]⟩
       rw [hff] at heq
       simp +decide only [heq, zd, za, hp2, hpin, go_sem, reduceAdd, reduceMul]
     | true =>
       simp +decide only [zd, za, hp2, hpin, go_sem, reduceAdd, reduceMul]
       refine ⟨i + 1, ⟨h', by rw [zbF h', hq, hc]; rfl⟩, by omega, Ent.weak ?_ ?_ ?_ ?_⟩
       all_goals simp +decide [subT, subB, zl, zk, zn, St.get, look, vI, vB, vS, cI, cS, cB, zh, za, roI, w64s (n := x.kids.length) h' (by omega)]
   · have hil : i = x.kids.length := by omega
     subst hil
     have e : ((x.kids.length : Int) < (x.kids.length : Int)) = False := by simp
     rw [List.take_length] at hq
     rw [hq] at heq
     simp +decide only [e, hc1, hx, zh, Int.natCast_nonneg, vB, vI, zd, za, hpin, go_sem, reduceAdd, reduceMul]
     refine zf zg _ ?_
     simp +decide only [heq, zd, za, hpin, go_sem, reduceAdd, reduceMul]
theorem zng (p : ProgramD) (hD : Deep p.nodes) (l : List VarD) (hl : l.length <= 4194304) (hf : p.fns.length <= 1048576) (hn : p.nodes.length <= 1048576) (hk : ∀ x ∈ p.nodes, x.kids.length <= 300) (n : Nat) (hnl : n < p.nodes.length) (ih : ∀ m, m < n -> zgE p l m) : zjw p l n := by
 intro hst
 have heq := zbB l hnl
 unfold stB at heq
 rw [zH hnl] at hst heq
 have hkid := hD.kid hnl
 have hx : (rows (zh true) p.nodes).getD n [] = zh true p.nodes[n] := zj _ _ hnl
 have hsr := zx (show inI p.nodes[n].kind 13 19 = true from hst)
 have v20 : (p.nodes[n].kind == 20) = false := by apply Bool.eq_false_iff.2; intro hh; have := eq_of_beq hh; omega
 have hsh := zx (xC (hD.deep n hnl) hnl)
 have hpos : 0 < p.nodes[n].kids.length := by
   have h1 : 1 <= (zI p.nodes[n].kind).1 := by
     rcases (show p.nodes[n].kind = 13 \/ p.nodes[n].kind = 14 \/ p.nodes[n].kind = 15 \/ p.nodes[n].kind = 16 \/ p.nodes[n].kind = 17 \/ p.nodes[n].kind = 18 \/ p.nodes[n].kind = 19 by omega) with h | h | h | h | h | h | h <;> rw [h] <;> decide
   omega
 have hv0 : Yl p l p.nodes[n].kids[0].toNat = true := by
   have hft := xN (hD.deep n hnl) hnl hpos
   obtain ⟨q0, q1, q2⟩ := hkid p.nodes[n].kids[0] (List.getElem_mem hpos)
   have e : p.nodes[n].kids[0] = (p.nodes[n].kids[0].toNat : Int) := by omega
   refine zmL hD l _ (by omega) ?_
   rw [<- e]
   unfold yG at hft
   have h00 : decide ((0 : Int) < ((0 : Nat) : Int)) = false := by decide
   rw [v20, if_neg (by decide), h00, Bool.and_false, if_neg (by decide)] at hft
   split at hft
   · have := eq_of_beq hft; rw [this]; decide
   · exact hft
 have hblk : ∀ i (hi : i < p.nodes[n].kids.length), 0 < i -> ((p.nodes[n].kind == 16) = true \/ (p.nodes[n].kind == 17) = true) -> zw Tryz.prog 107 [.ro (zd p), .ro (.imm 96 (rows (varC true) l)), .ro (.sc (.int .i64 p.nodes[n].kids[i]))] (fun rs st => rs = [(false, [cB (Yl p l p.nodes[n].kids[i].toNat)])]) := fun i hi hi0 h67 => by
   have hft := xN (hD.deep n hnl) hnl hi
   unfold yG at hft
   have h68 : (p.nodes[n].kind == 16 || p.nodes[n].kind == 17) = true := by rw [Bool.or_eq_true]; exact h67
   have hi1 : decide ((0 : Int) < (i : Int)) = true := decide_eq_true (by omega)
   rw [v20, if_neg (by decide), h68, hi1, Bool.true_and, if_pos rfl] at hft
   obtain ⟨q0, q1, q2⟩ := hkid p.nodes[n].kids[i] (List.getElem_mem hi)
   have e : p.nodes[n].kids[i] = (p.nodes[n].kids[i].toNat : Int) := by omega
   have := ih p.nodes[n].kids[i].toNat q2 (by rw [<- e]; exact hft)
   rw [<- e] at this
   exact this
 generalize Yl p l n = R at heq |-
 have hc1 : ((n : Int) < (p.nodes.length : Int)) = True := eq_true (by omega)
 generalize p.nodes[n] = x at hkid hsh heq hx hsr hpos hv0 hblk
 have hvt := zcf l x.name hl
 have hg0 : (row1 cI x.kids).getD (Int.toNat 0) [] = [cI x.kids[0]] := zr cI x.kids hpos
 have hc0 : ((0 : Int) < (x.kids.length : Int)) = True := eq_true (by omega)
 have hk0 : x.kids.getD 0 0 = x.kids[0] := by simp [List.getD, hpos]
 obtain ⟨q0, q1, q2⟩ := hkid x.kids[0] (List.getElem_mem hpos)
 obtain ⟨m, hm⟩ : ∃ m : Nat, x.kids[0] = m := ⟨x.kids[0].toNat, by omega⟩
 have hml : m < p.nodes.length := by omega
 have hty := ZY p hD l hl hf hn hk m hml
 have hsg := zop p l hf hk m hml (fun kid hkk => by
   obtain ⟨r0, r1, r2⟩ := hD.kid hml kid hkk
   have e : kid = (kid.toNat : Int) := by omega
   have := ZY p hD l hl hf hn hk kid.toNat (by omega)
   rw [<- e] at this
   exact this)
 have hone : x.kids.length = 1 -> x.kids.all (fun kid => Yl p l kid.toNat) = true := fun h1 => by rw [zpJ _ h1, hk0]; exact hv0
 have hhead : zeI (yj p l) x = yj p l m := by unfold zeI; rw [if_pos hpos, hk0, hm]
 unfold zeU at heq
 rw [hhead, hk0, hm, zH hml] at heq
 rw [hm] at hg0
 generalize zan l x.name = tv at hvt heq
 generalize yj p l m = t at hty heq
 simp only [zd] at hty hsg hblk
 simp only [cI] at hg0
 refine zm (fn := Tryz.f168) (c := Tryz.f168.body.getD .skip) (res := [.tm 6]) (n := 110) zg (by kernel_rfl) (by rfl) (by kernel_rfl) (by rfl) (by rfl) (by simp [zq]) (fun uf ub C hpin hpin2 hfull => ?_)
 simp only [Tryz.f168, Option.getD_some]
 refine Tri.step zg ?_
 simp +decide only [zd, za, hpin, go_sem, reduceAdd, reduceMul]
 refine Tri.ent ?_ (Ent.frb hfull 3)
 refine Tri.step zg ?_
 simp +decide only [hc1, hx, zh, Int.natCast_nonneg, zd, za, hpin, go_sem, reduceAdd, reduceMul]
 refine Tri.ent ?_ (Ent.frb hfull 7)
 refine Tri.step zg ?_
 simp +decide only [zd, za, hpin, go_sem, reduceAdd, reduceMul]
 refine Tri.step zg ?_
 cases h19 : x.kind == 19 with
 | true =>
   have ek := eq_of_beq h19
   rw [ek] at heq hsh
   have h1 : x.kids.length = 1 := by have h1 := hsh.1; have h2 := hsh.2; simp [zI] at h1 h2; omega
   rw [hone h1, Bool.and_true] at heq
   simp +decide only [Bool.or_true, Bool.true_or, Bool.or_false, Bool.false_or, if_true, if_false, Int.reduceBEq, Bool.false_eq_true] at heq
   rw [<- heq] at hsg
   simp +decide only [h19, zh, zd, za, hpin, go_sem, reduceAdd, reduceMul]
   refine Tri.fork zg (.one 1 true (.one 2 true (.one 0 true (.one 3 true (.one 4 true (.one 5 true (.two 6 (.one 7 true (.one 8 true (.one 9 true (.one 10 false (.one 11 false (.one 12 false .done)))))) 10 (.one 6 false (.one 7 false (.one 8 true (.one 9 true (.one 11 false (.one 12 false .done))))))))))))) zT (by kernel_rfl) (fun C2 hC2 => ?_)
   have hp2 := zU hC2 hpin
   simp +decide only [hg0, hc0, hpos, zd, za, hp2, go_sem, reduceAdd, reduceMul]
   refine ⟨?_, ?_⟩
   all_goals refine zcR hsg hp2 ?_ ?_
   all_goals first | (simp +decide only [zd, za, hp2, go_sem, reduceAdd, reduceMul]; done) | skip
   all_goals rintro ⟨qa, qz, qr, qb, qc⟩ hq
   all_goals unfold sigR
   all_goals simp +decide only [zd, za, hp2, hpin, go_sem, reduceAdd, reduceMul]
 | false =>
 simp +decide only [h19, zh, zd, za, hpin, go_sem, reduceAdd, reduceMul]
 refine Tri.step zg ?_
 refine Tri.sched zg [(1, true), (2, true), (0, true), (3, false), (4, false), (5, false), (6, false), (7, false)] zT (by kernel_rfl) (fun C2 hC2 => ?_)
 have hp2 := zU hC2 hpin
 simp +decide only [hg0, hc0, hpos, zh, zd, za, hp2, go_sem, reduceAdd, reduceMul]
 refine ze hty hp2 ?_
 simp +decide only [zd, za, hp2, hpin, go_sem, reduceAdd, reduceMul]
 refine Tri.step zg ?_
 simp +decide only [zd, za, hpin, go_sem, reduceAdd, reduceMul]
 refine ze hvt hpin ?_
 simp +decide only [zd, za, hpin, go_sem, reduceAdd, reduceMul]
 refine Tri.step zg ?_
 cases h13 : x.kind == 13 with
 | true =>
   have ek := eq_of_beq h13
   rw [ek] at heq hsh
   have hln : x.kids.length = 1 := by have h1 := hsh.1; have h2 := hsh.2; simp [zI] at h1 h2; omega
   rw [hone hln, Bool.and_true] at heq
   simp +decide only [Bool.or_true, Bool.true_or, Bool.or_false, Bool.false_or, if_true, if_false, Int.reduceBEq, Bool.false_eq_true] at heq
   simp +decide only [h19, h13, heq, Bool.or_true, Bool.true_or, Bool.or_false, Bool.false_or, bne, zh, zd, za, hp2, hpin, go_sem, reduceAdd, reduceMul]
 | false =>
 cases h14 : x.kind == 14 with
 | true =>
   have ek := eq_of_beq h14
   rw [ek] at heq hsh
   have hln : x.kids.length = 1 := by have h1 := hsh.1; have h2 := hsh.2; simp [zI] at h1 h2; omega
   rw [hone hln, Bool.and_true] at heq
   simp +decide only [Bool.or_true, Bool.true_or, Bool.or_false, Bool.false_or, if_true, if_false, Int.reduceBEq, Bool.false_eq_true] at heq
   cases e1 : t == tv with
   | false =>
     simp only [e1, Bool.true_and, Bool.false_and, Bool.true_or, Bool.false_or, Bool.or_false] at heq
     simp +decide only [h19, h13, h14, e1, heq, Bool.or_true, Bool.true_or, Bool.or_false, Bool.false_or, bne, zh, zd, za, hp2, hpin, go_sem, reduceAdd, reduceMul]
   | true =>
   cases e2 : t == 1 with
   | true =>
     simp only [e1, e2, Bool.true_and, Bool.false_and, Bool.true_or, Bool.false_or, Bool.or_false] at heq
     simp +decide only [h19, h13, h14, e1, e2, heq, Bool.or_true, Bool.true_or, Bool.or_false, Bool.false_or, bne, zh, zd, za, hp2, hpin, go_sem, reduceAdd, reduceMul]
   | false =>
   cases e3 : t == 2 with
   | true =>
     simp only [e1, e2, e3, Bool.true_and, Bool.false_and, Bool.true_or, Bool.false_or, Bool.or_false] at heq
     simp +decide only [h19, h13, h14, e1, e2, e3, heq, Bool.or_true, Bool.true_or, Bool.or_false, Bool.false_or, bne, zh, zd, za, hp2, hpin, go_sem, reduceAdd, reduceMul]
   | false =>
     simp only [e1, e2, e3, Bool.true_and, Bool.false_and, Bool.true_or, Bool.false_or, Bool.or_false] at heq
     simp +decide only [h19, h13, h14, e1, e2, e3, heq, Bool.or_true, Bool.true_or, Bool.or_false, Bool.false_or, bne, zh, zd, za, hp2, hpin, go_sem, reduceAdd, reduceMul]
 | false =>
 cases h15 : x.kind == 15 with
 | true =>
   have ek := eq_of_beq h15
   rw [ek] at heq hsh
   have hln : x.kids.length = 1 := by have h1 := hsh.1; have h2 := hsh.2; simp [zI] at h1 h2; omega
   rw [hone hln, Bool.and_true] at heq
   simp +decide only [Bool.or_true, Bool.true_or, Bool.or_false, Bool.false_or, if_true, if_false, Int.reduceBEq, Bool.false_eq_true] at heq
   cases e1 : t == 1 with
   | false =>
     simp only [e1, Bool.true_and, Bool.false_and, Bool.true_or, Bool.false_or, Bool.or_false] at heq
     simp +decide only [h19, h13, h14, h15, e1, heq, Bool.or_true, Bool.true_or, Bool.or_false, Bool.false_or, bne, zh, zd, za, hp2, hpin, go_sem, reduceAdd, reduceMul]
   | true =>
   cases e2 : tv == 2 with
   | true =>
     simp only [e1, e2, Bool.true_and, Bool.false_and, Bool.true_or, Bool.false_or, Bool.or_false] at heq
     simp +decide only [h19, h13, h14, h15, e1, e2, heq, Bool.or_true, Bool.true_or, Bool.or_false, Bool.false_or, bne, zh, zd, za, hp2, hpin, go_sem, reduceAdd, reduceMul]
   | false =>
   cases e3 : tv == 4 with
   | true =>
     simp only [e1, e2, e3, Bool.true_and, Bool.false_and, Bool.true_or, Bool.false_or, Bool.or_false] at heq
     simp +decide only [h19, h13, h14, h15, e1, e2, e3, heq, Bool.or_true, Bool.true_or, Bool.or_false, Bool.false_or, bne, zh, zd, za, hp2, hpin, go_sem, reduceAdd, reduceMul]
   | false =>
     simp only [e1, e2, e3, Bool.true_and, Bool.false_and, Bool.true_or, Bool.false_or, Bool.or_false] at heq
     simp +decide only [h19, h13, h14, h15, e1, e2, e3, heq, Bool.or_true, Bool.true_or, Bool.or_false, Bool.false_or, bne, zh, zd, za, hp2, hpin, go_sem, reduceAdd, reduceMul]
 | false =>
 cases h16 : x.kind == 16 with
 | true =>
   have hb67 : (x.kind == 16) = true \/ (x.kind == 17) = true := Or.inl h16
   have ek := eq_of_beq h16
   rw [ek] at heq hsh
   have hln : x.kids.length = 3 := by have h1 := hsh.1; have h2 := hsh.2; simp [zI] at h1 h2; omega
   simp +decide only [Bool.or_true, Bool.true_or, Bool.or_false, Bool.false_or, if_true, if_false, Int.reduceBEq, Bool.false_eq_true] at heq
   have hg1 : (row1 cI x.kids).getD (Int.toNat 1) [] = [cI (x.kids[1]'(by omega))] := zr cI x.kids (by omega)
   have hc01 : ((1 : Int) < (x.kids.length : Int)) = True := eq_true (by omega)
   have hk1 : x.kids.getD 1 0 = x.kids[1]'(by omega) := by simp [List.getD, show 1 < x.kids.length by omega]
   have hb1 := hblk 1 (by omega) (by omega) hb67
   have hg2 : (row1 cI x.kids).getD (Int.toNat 2) [] = [cI (x.kids[2]'(by omega))] := zr cI x.kids (by omega)
   have hc02 : ((2 : Int) < (x.kids.length : Int)) = True := eq_true (by omega)
   have hk2 : x.kids.getD 2 0 = x.kids[2]'(by omega) := by simp [List.getD, show 2 < x.kids.length by omega]
   have hb2 := hblk 2 (by omega) (by omega) hb67
   rw [zmW _ hln, hk0, hk1, hk2, hv0, Bool.true_and] at heq
   simp only [cI] at hg1 hg2
   simp +decide only [h19, h13, h14, h15, h16, Bool.or_true, Bool.true_or, Bool.or_false, Bool.false_or, bne, zh, zd, za, hp2, hpin, go_sem, reduceAdd, reduceMul]
   refine Tri.sched zg [(0, false), (1, false), (2, false), (4, true), (5, true), (3, true), (6, false), (7, false), (8, false), (9, false), (10, false), (11, false), (13, true), (14, true), (12, true), (15, false), (16, false), (17, false), (18, false), (19, false), (20, false)] zT (by kernel_rfl) (fun C3 hC3 => ?_)
   have hp3 := zU hC3 hpin
   cases e1 : t == 1 with
   | false =>
     rw [e1, Bool.false_and] at heq
     simp +decide only [e1, heq, hg1, hg2, hc01, hc02, zd, za, hp3, hpin, go_sem, reduceAdd, reduceMul]
     try (refine zf zg _ ?_; simp +decide only [heq, zd, za, hpin, go_sem, reduceAdd, reduceMul])
   | true =>
   rw [e1, Bool.true_and] at heq
   simp +decide only [e1, hg1, hg2, hc01, hc02, show 1 < x.kids.length by omega, show 2 < x.kids.length by omega, zd, za, hp3, go_sem, reduceAdd, reduceMul]
   refine ze hb1 hp3 ?_
   cases e2 : Yl p l (x.kids[1]'(by omega)).toNat with
   | false =>
     rw [e2, Bool.false_and] at heq
     simp +decide only [e2, heq, hg1, hg2, hc01, hc02, zd, za, hp3, hpin, go_sem, reduceAdd, reduceMul]
     try (refine zf zg _ ?_; simp +decide only [heq, zd, za, hpin, go_sem, reduceAdd, reduceMul])
   | true =>
   rw [e2, Bool.true_and] at heq
   simp +decide only [e2, hg1, hg2, hc01, hc02, show 1 < x.kids.length by omega, show 2 < x.kids.length by omega, zd, za, hp3, go_sem, reduceAdd, reduceMul]
   refine ze hb2 hp3 ?_
   rw [<- heq]
   simp +decide only [zd, za, hp3, hpin, go_sem, reduceAdd, reduceMul]
   try (refine zf zg _ ?_; simp +decide only [zd, za, hpin, go_sem, reduceAdd, reduceMul])
 | false =>
 cases h17 : x.kind == 17 with
 | true =>
   have hb67 : (x.kind == 16) = true \/ (x.kind == 17) = true := Or.inr h17
   have ek := eq_of_beq h17
   rw [ek] at heq hsh
   have hln : x.kids.length = 2 := by have h1 := hsh.1; have h2 := hsh.2; simp [zI] at h1 h2; omega
   simp +decide only [Bool.or_true, Bool.true_or, Bool.or_false, Bool.false_or, if_true, if_false, Int.reduceBEq, Bool.false_eq_true] at heq
   have hg1 : (row1 cI x.kids).getD (Int.toNat 1) [] = [cI (x.kids[1]'(by omega))] := zr cI x.kids (by omega)
   have hc01 : ((1 : Int) < (x.kids.length : Int)) = True := eq_true (by omega)
   have hk1 : x.kids.getD 1 0 = x.kids[1]'(by omega) := by simp [List.getD, show 1 < x.kids.length by omega]
   have hb1 := hblk 1 (by omega) (by omega) hb67
   rw [zpI _ hln, hk0, hk1, hv0, Bool.true_and] at heq
   simp only [cI] at hg1
   simp +decide only [h19, h13, h14, h15, h16, h17, Bool.or_true, Bool.true_or, Bool.or_false, Bool.false_or, bne, zh, zd, za, hp2, hpin, go_sem, reduceAdd, reduceMul]
   refine Tri.sched zg [(0, false), (1, false), (2, false), (4, true), (5, true), (3, true), (6, false), (7, false), (8, false), (9, false), (10, false), (11, false)] zT (by kernel_rfl) (fun C3 hC3 => ?_)
   have hp3 := zU hC3 hpin
   cases e1 : t == 1 with
   | false =>
     rw [e1, Bool.false_and] at heq
     simp +decide only [e1, heq, hg1, hc01, zd, za, hp3, hpin, go_sem, reduceAdd, reduceMul]
     try (refine zf zg _ ?_; simp +decide only [heq, zd, za, hpin, go_sem, reduceAdd, reduceMul])
   | true =>
   rw [e1, Bool.true_and] at heq
   simp +decide only [e1, hg1, hc01, show 1 < x.kids.length by omega, zd, za, hp3, go_sem, reduceAdd, reduceMul]
   refine ze hb1 hp3 ?_
   rw [<- heq]
   simp +decide only [zd, za, hp3, hpin, go_sem, reduceAdd, reduceMul]
   try (refine zf zg _ ?_; simp +decide only [zd, za, hpin, go_sem, reduceAdd, reduceMul])
 | false =>
 have h18 : (x.kind == 18) = true := by
   have g13 : x.kind ≠ 13 := by simpa using h13
   have g14 : x.kind ≠ 14 := by simpa using h14
   have g15 : x.kind ≠ 15 := by simpa using h15
   have g16 : x.kind ≠ 16 := by simpa using h16
   have g17 : x.kind ≠ 17 := by simpa using h17
   have g19 : x.kind ≠ 19 := by simpa using h19
   have : x.kind = 18 := by omega
   rw [this]; rfl
 have ek := eq_of_beq h18
 rw [ek] at heq hsh
 have hln : x.kids.length = 1 := by have h1 := hsh.1; have h2 := hsh.2; simp [zI] at h1 h2; omega
 rw [hone hln, Bool.and_true] at heq
 simp +decide only [Bool.or_true, Bool.true_or, Bool.or_false, Bool.false_or, if_true, if_false, Int.reduceBEq, Bool.false_eq_true] at heq
 simp +decide only [h19, h13, h14, h15, h16, h17, Bool.or_true, Bool.true_or, Bool.or_false, Bool.false_or, bne, zh, zd, za, hp2, hpin, go_sem, reduceAdd, reduceMul]
 refine zf zg _ ?_
 simp +decide only [heq, zd, za, hp2, hpin, go_sem, reduceAdd, reduceMul]
theorem zly (p : ProgramD) (hD : Deep p.nodes) (l : List VarD) (hl : l.length <= 4194304) (hf : p.fns.length <= 1048576) (hn : p.nodes.length <= 1048576) (hk : ∀ x ∈ p.nodes, x.kids.length <= 300) (n : Nat) : n < p.nodes.length -> zjw p l n /\ zgE p l n := by
 induction n using Nat.strongRecOn with
 | ind n ih =>
 intro hnl
 exact ⟨zng p hD l hl hf hn hk n hnl (fun m hm => (ih m hm (by omega)).2), zlz p hD l hk n hnl (fun m hm => (ih m hm (by omega)).1)⟩
theorem YD (p : ProgramD) (hf : p.fns.length <= 1048576) (hn : p.nodes.length <= 1048576) (hk : ∀ x ∈ p.nodes, x.kids.length <= 1048576) (hpl : ∀ f ∈ p.fns, f.params.length <= 1048576) : zw Tryz.prog 34 [.ro (zd p)] (fun rs st => rs = [(false, [cB (zZ p)])]) := by
 have hps := YI p hf hn hk hpl
 simp only [zd] at hps
 unfold zZ
 refine zm (fn := Tryz.f34) (c := Tryz.f34.body.getD .skip) (res := [.tm 2]) (n := 53) zg (by kernel_rfl) (by rfl) (by kernel_rfl) (by rfl) (by rfl) (by simp [zq]) (fun uf ub C hpin hpin2 hfull => ?_)
 simp only [Tryz.f34, Option.getD_some]
 refine Tri.step zg ?_
 simp +decide only [zd, za, hpin, go_sem, reduceAdd, reduceMul]
 refine Tri.ent ?_ (Ent.frb hfull 1)
 refine Tri.step zg ?_
 simp +decide only [zd, za, hpin, go_sem, reduceAdd, reduceMul]
 refine ze hps hpin ?_
 cases h0 : yx p with
 | false => simp +decide only [zd, za, hpin, go_sem, reduceAdd, reduceMul]
 | true =>
 have hG := yA (Bool.and_eq_true_iff.1 h0).1
 have hk3 : ∀ x ∈ p.nodes, x.kids.length <= 300 := fun x hx => by have := hG.deep.few x hx; omega
 simp +decide only [zd, za, hpin, go_sem, reduceAdd, reduceMul]
 refine Tri.step zg ?_
 simp +decide only [zd, za, hpin, go_sem, reduceAdd, reduceMul]
 refine Tri.loop (ι := Nat) (fun i => i <= p.fns.length /\ zK (yX p) i = true) (fun i => ⟨53, [(1, .ip (za true p) 0), (2, vB false), (3, vI i)], []⟩) (fun i => p.fns.length - i) 0 ⟨by simp, rfl⟩ ?_ ?_
 · refine Ent.weak ?_ ?_ ?_ ?_ <;> simp +decide [subT, subB, zl, zk, zn, St.get, look, vI, vB, vS, cI, cS, cB, zh, za, roI]
 · rintro i ⟨hi, hq⟩
   refine zf zg _ ?_
   by_cases h' : i < p.fns.length
   · have e : ((i : Int) < (p.fns.length : Int)) = True := by simp [h']
     have hx : (rows (fnC true) p.fns).getD i [] = fnC true p.fns[i] := zj _ _ h'
     have hok := hG.fn i h'
     have hfe : yX p i = (Xl p i && (Yl p (yd p i) p.fns[i].body.toNat && (decide (p.fns[i].ret < 0) || yj p (yd p i) p.fns[i].ret == p.fns[i].res))) := by unfold yX; rw [xk h']
     obtain ⟨⟨b0, b1⟩, hret⟩ := Zb hok
     have hbk : (nAt p.nodes p.fns[i].body).kind == 20 := by
       simp only [Xh, Bool.and_eq_true, zaQ] at hok
       exact hok.2.2.2.2.1.2
     generalize p.fns[i] = g at hx hok hfe b0 b1 hret hbk
     have hts := zce p hG.deep i hf hn hk3 hpl
     have hll := ZH p i hpl hn
     obtain ⟨b, hbb⟩ : ∃ b : Nat, g.body = b := ⟨g.body.toNat, by omega⟩
     have hbl : b < p.nodes.length := by omega
     rw [hbb] at hfe hbk
     rw [show (b : Int).toNat = b by omega] at hfe
     simp only [zd] at hts
     simp +decide only [e, h', Int.natCast_nonneg, za, vB, vI, zd, za, hpin, go_sem, reduceAdd, reduceMul]
     cases hB : Xl p i with
     | false =>
       have hff : zK (yX p) p.fns.length = false := zA h' (by rw [hfe, hB]; rfl)
       rw [hB] at hts
       simp only [if_false, Bool.false_eq_true] at hts
       refine ze hts hpin ?_
       simp +decide only [e, hx, fnC, hbb, Int.natCast_nonneg, zd, za, hpin, go_sem, reduceAdd, reduceMul]
       refine Tri.ent ?_ (Ent.frb hfull 6)
       simp +decide only [zd, za, hpin, go_sem, reduceAdd, reduceMul]
       refine Tri.sched zg [(0, false), (1, false), (2, false), (4, true), (5, true), (3, true), (6, false), (7, false), (8, false), (9, false), (10, false), (11, false), (12, false), (13, false), (14, false), (16, true), (17, true), (20, true), (15, true), (18, true), (21, true), (19, false), (22, false), (23, false), (24, false)] zT (by kernel_rfl) (fun C2 hC2 => ?_)
       have hp2 := zU hC2 hpin
       simp +decide only [hff, zd, za, hp2, hpin, go_sem, reduceAdd, reduceMul]
     | true =>
     rw [hB] at hts
     rw [hB, Bool.true_and] at hfe
     simp only [if_true] at hts
     refine ze hts hpin ?_
     generalize yd p i = l at hll hfe |-
     have hbs := (zly p hG.deep l (by omega) hf hn hk3 b hbl).2 hbk
     have htk := yq (varC false) l
     have htk2 := yq (varC true) l
     simp only [zd] at hbs
     simp +decide only [e, hx, fnC, hbb, Int.natCast_nonneg, zd, za, hpin, go_sem, reduceAdd, reduceMul]
     refine Tri.ent ?_ (Ent.frb hfull 6)
     refine Tri.ent ?_ (Ent.frz hfull 4)
     simp +decide only [zd, za, hpin, go_sem, reduceAdd, reduceMul]
     refine Tri.sched zg [(0, false), (1, false), (2, false), (4, true), (5, true), (3, true), (6, false), (7, false), (8, false), (9, false), (10, false), (11, false), (12, false), (13, false), (14, false), (16, true), (17, true), (20, true), (15, true), (18, true), (21, true), (19, false), (22, false), (23, false), (24, false)] zT (by kernel_rfl) (fun C2 hC2 => ?_)
     have hp2 := zU hC2 hpin
     simp +decide only [hbb, zd, za, hp2, go_sem, reduceAdd, reduceMul]
     refine ze hbs hp2 ?_
     cases hc : Yl p l b with
     | false =>
       rw [hc, Bool.false_and] at hfe
       have hff : zK (yX p) p.fns.length = false := zA h' hfe
       simp +decide only [hff, zd, za, hp2, hpin, go_sem, reduceAdd, reduceMul]
     | true =>
     rw [hc, Bool.true_and] at hfe
     rcases hret with hneg | ⟨x0, x1⟩
     · have y0 : (0 <= g.ret) = False := eq_false (by omega)
       have y1 : decide (g.ret < 0) = true := decide_eq_true hneg
       rw [y1, Bool.true_or] at hfe
       simp +decide only [y0, ge_iff_le, zd, za, hp2, hpin, go_sem, reduceAdd, reduceMul]
       refine ⟨i + 1, ⟨h', by rw [zQ, hq, hfe]; rfl⟩, by omega, Ent.weak ?_ ?_ ?_ ?_⟩
       all_goals simp +decide [subT, subB, zl, zk, zn, St.get, look, vI, vB, vS, cI, cS, cB, zh, za, roI, w64s (n := p.fns.length) h' (by omega)]
     · have y0 : (0 <= g.ret) = True := eq_true x0
       have y1 : decide (g.ret < 0) = false := decide_eq_false (by omega)
       rw [y1, Bool.false_or] at hfe
       obtain ⟨r, hrr⟩ : ∃ r : Nat, g.ret = r := ⟨g.ret.toNat, by omega⟩
       have hrl : r < p.nodes.length := by omega
       have hty := ZY p hG.deep l (by omega) hf hn hk3 r hrl
       rw [hrr] at hfe
       simp only [zd] at hty
       simp +decide only [y0, hrr, ge_iff_le, Int.natCast_nonneg, zd, za, hp2, go_sem, reduceAdd, reduceMul]
       refine ze hty hp2 ?_
       cases g2 : yj p l r == g.res with
       | false =>
         rw [g2] at hfe
         have hff : zK (yX p) p.fns.length = false := zA h' hfe
         simp +decide only [g2, hff, bne, zd, za, hp2, hpin, go_sem, reduceAdd, reduceMul]
       | true =>
         rw [g2] at hfe
         simp +decide only [g2, bne, zd, za, hp2, hpin, go_sem, reduceAdd, reduceMul]
         refine ⟨i + 1, ⟨h', by rw [zQ, hq, hfe]; rfl⟩, by omega, Ent.weak ?_ ?_ ?_ ?_⟩
         all_goals simp +decide [subT, subB, zl, zk, zn, St.get, look, vI, vB, vS, cI, cS, cB, zh, za, roI, w64s (n := p.fns.length) h' (by omega)]
   · have hil : i = p.fns.length := by omega
     subst hil
     have e : ((p.fns.length : Int) < (p.fns.length : Int)) = False := by simp
     simp +decide only [e, vB, vI, zd, za, hpin, go_sem, reduceAdd, reduceMul]
     refine zf zg _ ?_
     simp +decide only [hq, zd, za, hpin, go_sem, reduceAdd, reduceMul]
theorem YM (l : List Int) : (row1 cI l).all (fun x => x.all XM) = true := by simp [row1, cI, XM]
theorem zaJ (l : List ParamD) : (rows (zy true) l).all (fun x => x.all XM) = true := by simp [rows, zy, cI, cS, XM]
theorem zdv (l : List ParamD) : rows (zy true) l = rows (zy false) l := rfl
theorem zhE (l : List NodeD) (x : NodeD) : rows (zh false) l ++ [[D.sc (.int .i64 x.kind), .sc (.int .i64 x.num), .sc (.string x.name), .row false 3 (row1 cI x.kids)]] = rows (zh false) (l ++ [x]) := XA (zh false) l x
theorem zmE (l : List FnD) (x : FnD) : rows (fnC false) l ++ [[D.sc (.string x.name), .row false 107 (rows (zy false) x.params), .sc (.int .i64 x.res), .sc (.int .i64 x.body), .sc (.int .i64 x.ret)]] = rows (fnC false) (l ++ [x]) := XA (fnC false) l x
theorem zfE {α : Type} {l : List α} {i : Nat} (h : i < l.length) : l.take (i + 1) = l.take i ++ [l[i]] := List.take_succ_eq_append_getElem h
theorem zbJ {α : Type} {l : List α} {i : Nat} (h : i <= l.length) : (l.take i).length = i := by simp; omega
theorem zay (l : List Int) (hl : l.length <= 1048576) : zw Tryz.prog 99 [.ro (roI l)] (fun rs st => rs = [(false, [.row false 3 (row1 cI l)])]) := by
 have hf := YM l
 have hb1 : l.length <= 140737488355328 := by omega
 have hb2 : l.length * 8 <= 140737488355328 := by omega
 refine zm (fn := Tryz.f99) (c := Tryz.f99.body.getD .skip) (res := [.tm 2]) (n := 5) zg (by kernel_rfl) (by rfl) (by kernel_rfl) (by rfl) (by rfl) (by simp [zq]) (fun uf ub C hpin hpin2 hfull => ?_)
 simp only [Tryz.f99, Option.getD_some]
 refine Tri.step zg ?_
 simp +decide only [zd, za, hpin, go_sem, reduceAdd, reduceMul]
 refine zf zg _ ?_
 simp +decide only [hf, hb1, hb2, zd, za, hpin, go_sem, reduceAdd, reduceMul]
theorem zcF (l : List NodeD) (hl : l.length <= 1048576) (hk : ∀ x ∈ l, x.kids.length <= 1048576) : zw Tryz.prog 140 [.ro (.imm 83 (rows (zh true) l))] (fun rs st => rs = [(false, [.row false 83 (rows (zh false) l)])]) := by
 refine zm (fn := Tryz.f140) (c := Tryz.f140.body.getD .skip) (res := [.tm 2]) (n := 22) zg (by kernel_rfl) (by rfl) (by kernel_rfl) (by rfl) (by rfl) (by simp [zq]) (fun uf ub C hpin hpin2 hfull => ?_)
 simp only [Tryz.f140, Option.getD_some]
 refine Tri.step zg ?_
 simp +decide only [zd, za, hpin, go_sem, reduceAdd, reduceMul]
 refine Tri.step zg ?_
 simp +decide only [zd, za, hpin, go_sem, reduceAdd, reduceMul]
 refine Tri.step zg ?_
 simp +decide only [zd, za, hpin, go_sem, reduceAdd, reduceMul]
 refine Tri.loop (ι := Nat) (fun i => i <= l.length) (fun i => ⟨22, [(3, .ref 3 [] i), (6, .imm 83 (rows (zh true) l)), (7, vI l.length), (8, vI i)], [(3, .row 83 (rows (zh false) (l.take i)))]⟩) (fun i => l.length - i) 0 (by simp) ?_ ?_
 · refine Ent.weak ?_ ?_ ?_ ?_ <;> simp +decide [subT, subB, zl, zk, zn, St.get, look, vI, vB, vS, cI, cS, cB, zh, za, roI, rows]
 · rintro i hi
   refine zf zg _ ?_
   have htl := zbJ hi
   by_cases h' : i < l.length
   · have e : ((i : Int) < (l.length : Int)) = True := by simp [h']
     have hx : (rows (zh true) l).getD i [] = zh true l[i] := zj _ _ h'
     have hkx := hk l[i] (List.getElem_mem h')
     have hsn := zhE (l.take i) l[i]
     rw [<- zfE h'] at hsn
     generalize l[i] = x at hx hkx hsn
     have hb1 : i + 1 <= 140737488355328 := by omega
     have hb2 : (i + 1) * 56 <= 140737488355328 := by omega
     simp +decide only [e, h', hx, zh, Int.natCast_nonneg, vB, vI, zd, za, hpin, go_sem, reduceAdd, reduceMul]
     refine ze (zay x.kids hkx) hpin ?_
     simp +decide only [hb1, hb2, htl, hsn, zd, za, hpin, go_sem, reduceAdd, reduceMul]
     refine ⟨i + 1, h', by omega, Ent.weak ?_ ?_ ?_ ?_⟩
     all_goals simp +decide [subT, subB, zl, zk, zn, St.get, look, vI, vB, vS, cI, cS, cB, zh, za, roI, hsn, w64s (n := l.length) h' (by omega)]
   · have hil : i = l.length := by omega
     subst hil
     have e : ((l.length : Int) < (l.length : Int)) = False := by simp
     simp +decide only [e, vB, vI, zd, za, hpin, go_sem, reduceAdd, reduceMul]
     refine zf zg _ ?_
     simp +decide only [zd, za, hpin, go_sem, reduceAdd, reduceMul]
theorem zcE (l : List NodeD) (hl : l.length <= 1048576) (hk : ∀ x ∈ l, x.kids.length <= 1048576) : zw Tryz.prog 129 [.ro (.imm 83 (rows (zh true) l))] (fun rs st => rs = [(false, [.row false 83 (rows (zh false) l)])]) := by
 refine zm (fn := Tryz.f129) (c := Tryz.f129.body.getD .skip) (res := [.tm 2]) (n := 27) zg (by kernel_rfl) (by rfl) (by kernel_rfl) (by rfl) (by rfl) (by simp [zq]) (fun uf ub C hpin hpin2 hfull => ?_)
 simp only [Tryz.f129, Option.getD_some]
 refine Tri.step zg ?_
 simp +decide only [zd, za, hpin, go_sem, reduceAdd, reduceMul]
 refine Tri.step zg ?_
 simp +decide only [zd, za, hpin, go_sem, reduceAdd, reduceMul]
 refine Tri.step zg ?_
 simp +decide only [zd, za, hpin, go_sem, reduceAdd, reduceMul]
 refine Tri.loop (ι := Nat) (fun i => i <= l.length) (fun i => ⟨27, [(0, .imm 83 (rows (zh true) l)), (3, .ref 3 [] i), (4, vI i)], [(3, .row 83 (rows (zh false) (l.take i)))]⟩) (fun i => l.length - i) 0 (by simp) ?_ ?_
 · refine Ent.weak ?_ ?_ ?_ ?_ <;> simp +decide [subT, subB, zl, zk, zn, St.get, look, vI, vB, vS, cI, cS, cB, zh, za, roI, rows]
 · rintro i hi
   refine zf zg _ ?_
   have htl := zbJ hi
   by_cases h' : i < l.length
   · have e : ((i : Int) < (l.length : Int)) = True := by simp [h']
     have hx : (rows (zh true) l).getD i [] = zh true l[i] := zj _ _ h'
     have hkx := hk l[i] (List.getElem_mem h')
     have hsn := zhE (l.take i) l[i]
     rw [<- zfE h'] at hsn
     generalize l[i] = x at hx hkx hsn
     have hf := YM x.kids
     have hb1 : i + 1 <= 140737488355328 := by omega
     have hb2 : (i + 1) * 56 <= 140737488355328 := by omega
     have hb3 : x.kids.length <= 140737488355328 := by omega
     have hb4 : x.kids.length * 8 <= 140737488355328 := by omega
     simp +decide only [e, h', hx, hf, hb1, hb2, hb3, hb4, htl, hsn, zh, Int.natCast_nonneg, vB, vI, zd, za, hpin, go_sem, reduceAdd, reduceMul]
     refine ⟨i + 1, h', by omega, Ent.weak ?_ ?_ ?_ ?_⟩
     all_goals simp +decide [subT, subB, zl, zk, zn, St.get, look, vI, vB, vS, cI, cS, cB, zh, za, roI, hsn, w64s (n := l.length) h' (by omega)]
   · have hil : i = l.length := by omega
     subst hil
     have e : ((l.length : Int) < (l.length : Int)) = False := by simp
     simp +decide only [e, vB, vI, zd, za, hpin, go_sem, reduceAdd, reduceMul]
     refine zf zg _ ?_
     simp +decide only [zd, za, hpin, go_sem, reduceAdd, reduceMul]
theorem zcv (f : FnD) (hp : f.params.length <= 1048576) : zw Tryz.prog 141 [.ro (fnW f)] (fun rs st => rs = [(true, fnC false f)]) := by
 have hf := zaJ f.params
 have hb1 : f.params.length <= 140737488355328 := by omega
 have hb2 : f.params.length * 24 <= 140737488355328 := by omega
 have htf := zdv f.params
 refine zm (fn := Tryz.f141) (c := Tryz.f141.body.getD .skip) (res := [.ce 2 104]) (n := 8) zg (by kernel_rfl) (by rfl) (by kernel_rfl) (by rfl) (by rfl) (by simp [zq]) (fun uf ub C hpin hpin2 hfull => ?_)
 simp only [Tryz.f141, Option.getD_some]
 refine Tri.step zg ?_
 simp +decide only [fnW, fnC, zd, za, hpin, go_sem, reduceAdd, reduceMul]
 refine Tri.step zg ?_
 simp +decide only [hf, hb1, hb2, fnW, fnC, zd, za, hpin, go_sem, reduceAdd, reduceMul]
 refine zf zg _ ?_
 simp +decide only [htf, fnW, fnC, zd, za, hpin, go_sem, reduceAdd, reduceMul]
theorem YO (p : ProgramD) (hf : p.fns.length <= 1048576) (hn : p.nodes.length <= 1048576) (hk : ∀ x ∈ p.nodes, x.kids.length <= 1048576) (hpl : ∀ f ∈ p.fns, f.params.length <= 1048576) :
   zw Tryz.prog 62 [.ro (zd p)] (fun rs st => rs = [(true, za false p)]) := by
 refine zm (fn := Tryz.f62) (c := Tryz.f62.body.getD .skip) (res := [.ce 2 36]) (n := 26) zg (by kernel_rfl) (by rfl) (by kernel_rfl) (by rfl) (by rfl) (by simp [zq]) (fun uf ub C hpin hpin2 hfull => ?_)
 simp only [Tryz.f62, Option.getD_some]
 refine Tri.step zg ?_
 simp +decide only [zd, za, hpin, go_sem, reduceAdd, reduceMul]
 refine Tri.ent ?_ (Ent.frb hfull 1)
 refine Tri.step zg ?_
 simp +decide only [zd, za, hpin, go_sem, reduceAdd, reduceMul]
 refine ze (zcF p.nodes hn hk) hpin ?_
 simp +decide only [zd, za, hpin, go_sem, reduceAdd, reduceMul]
 refine Tri.ent ?_ (Ent.nilr 3 1 104)
 refine Tri.step zg ?_
 simp +decide only [zd, za, hpin, go_sem, reduceAdd, reduceMul]
 refine Tri.loop (ι := Nat) (fun i => i <= p.fns.length) (fun i => ⟨26, [(2, .bp 2 0), (3, .bp 3 0), (11, .imm 104 (rows (fnC true) p.fns)), (12, vI p.fns.length), (13, vI i)], [(2, .box [.sc (.slice none 0 0), .sc (.slice none 0 0)]), (3, .box [.row false 83 (rows (zh false) p.nodes), .row false 104 (rows (fnC false) (p.fns.take i))])]⟩) (fun i => p.fns.length - i) 0 (by simp) ?_ ?_
 · refine Ent.weak ?_ ?_ ?_ ?_ <;> simp +decide [subT, subB, zl, zk, zn, St.get, look, vI, vB, vS, cI, cS, cB, zh, za, roI, rows, St.nilr, St.swap]
 · rintro i hi
   refine zf zg _ ?_
   have htl := zbJ hi
   by_cases h' : i < p.fns.length
   · have e : ((i : Int) < (p.fns.length : Int)) = True := by simp [h']
     have hx : (rows (fnC true) p.fns).getD i [] = fnC true p.fns[i] := zj _ _ h'
     have hkx := hpl p.fns[i] (List.getElem_mem h')
     have hsn := zmE (p.fns.take i) p.fns[i]
     rw [<- zfE h'] at hsn
     generalize p.fns[i] = f at hx hkx hsn
     have hcf := zcv f hkx
     simp only [fnW] at hcf
     have hb1 : i + 1 <= 140737488355328 := by omega
     have hb2 : (i + 1) * 64 <= 140737488355328 := by omega
     simp +decide only [e, h', hx, fnC, Int.natCast_nonneg, vB, vI, zd, za, hpin, go_sem, reduceAdd, reduceMul]
     refine Tri.ent ?_ (Ent.frb hfull 5)
     refine Tri.fork zg (.one 0 true (.one 2 true (.two 1 (.one 3 false (.one 4 false (.one 5 false (.one 6 false (.one 7 false .done))))) 3 (.two 1 (.one 4 false (.one 5 false (.one 6 false (.one 7 false .done)))) 4 (.one 1 false (.one 5 false (.one 6 false (.one 7 false .done)))))))) zT (by kernel_rfl) (fun C2 hC2 => ?_)
     have hp2 := zU hC2 hpin
     simp +decide only [fnC, zd, za, hp2, hpin, go_sem, reduceAdd, reduceMul]
     have htl1 := zbJ (l := p.fns) (i := i + 1) h'
     refine ⟨ze hcf hp2 ?_, ze hcf hp2 ?_⟩
     · simp +decide only [hb1, hb2, htl, htl1, hsn, fnC, zd, za, hp2, hpin, go_sem, reduceAdd, reduceMul]
       refine ⟨i + 1, h', by omega, Ent.weak ?_ ?_ ?_ ?_⟩
       all_goals simp +decide [subT, subB, zl, zk, zn, St.get, look, vI, vB, vS, cI, cS, cB, zh, za, roI, hsn, w64s (n := p.fns.length) h' (by omega)]
     · simp +decide only [hb1, hb2, htl, htl1, hsn, fnC, zd, za, hp2, hpin, go_sem, reduceAdd, reduceMul]
       refine ⟨?_, ?_⟩ <;> refine ⟨i + 1, h', by omega, Ent.weak ?_ ?_ ?_ ?_⟩
       all_goals simp +decide [subT, subB, zl, zk, zn, St.get, look, vI, vB, vS, cI, cS, cB, zh, za, roI, hsn, w64s (n := p.fns.length) h' (by omega)]
   · have hil : i = p.fns.length := by omega
     subst hil
     have e : ((p.fns.length : Int) < (p.fns.length : Int)) = False := by simp
     simp +decide only [e, vB, vI, zd, za, hpin, go_sem, reduceAdd, reduceMul]
     refine zf zg _ ?_
     simp +decide only [zd, za, hpin, go_sem, reduceAdd, reduceMul]
theorem zgd (p : ProgramD) (hf : p.fns.length <= 1048576) (hn : p.nodes.length <= 1048576) (hk : ∀ x ∈ p.nodes, x.kids.length <= 1048576) (hpl : ∀ f ∈ p.fns, f.params.length <= 1048576) :
   zw Tryz.prog 53 [.ro (zd p)] (fun rs st => rs = [(true, za false p)]) := by
 refine zm (fn := Tryz.f53) (c := Tryz.f53.body.getD .skip) (res := [.ce 2 36]) (n := 34) zg (by kernel_rfl) (by rfl) (by kernel_rfl) (by rfl) (by rfl) (by simp [zq]) (fun uf ub C hpin hpin2 hfull => ?_)
 simp only [Tryz.f53, Option.getD_some]
 refine Tri.step zg ?_
 simp +decide only [zd, za, hpin, go_sem, reduceAdd, reduceMul]
 refine Tri.ent ?_ (Ent.frb hfull 1)
 refine Tri.step zg ?_
 simp +decide only [zd, za, hpin, go_sem, reduceAdd, reduceMul]
 refine ze (zcE p.nodes hn hk) hpin ?_
 simp +decide only [zd, za, hpin, go_sem, reduceAdd, reduceMul]
 refine Tri.ent ?_ (Ent.nilr 3 1 104)
 refine Tri.step zg ?_
 simp +decide only [zd, za, hpin, go_sem, reduceAdd, reduceMul]
 refine Tri.loop (ι := Nat) (fun i => i <= p.fns.length) (fun i => ⟨34, [(1, .ip (za true p) 0), (2, .bp 2 0), (3, .bp 3 0), (4, vI i)], [(2, .box [.sc (.slice none 0 0), .sc (.slice none 0 0)]), (3, .box [.row false 83 (rows (zh false) p.nodes), .row false 104 (rows (fnC false) (p.fns.take i))])]⟩) (fun i => p.fns.length - i) 0 (by simp) ?_ ?_
 · refine Ent.weak ?_ ?_ ?_ ?_ <;> simp +decide [subT, subB, zl, zk, zn, St.get, look, vI, vB, vS, cI, cS, cB, zh, za, roI, rows, St.nilr, St.swap]
 · rintro i hi
   refine zf zg _ ?_
   have htl := zbJ hi
   by_cases h' : i < p.fns.length
   · have e : ((i : Int) < (p.fns.length : Int)) = True := by simp [h']
     have hx : (rows (fnC true) p.fns).getD i [] = fnC true p.fns[i] := zj _ _ h'
     have hkx := hpl p.fns[i] (List.getElem_mem h')
     have hsn := zmE (p.fns.take i) p.fns[i]
     rw [<- zfE h'] at hsn
     generalize p.fns[i] = f at hx hkx hsn
     have hfr := zaJ f.params
     have htf := zdv f.params
     have htl1 := zbJ (l := p.fns) (i := i + 1) h'
     have hb1 : i + 1 <= 140737488355328 := by omega
     have hb2 : (i + 1) * 64 <= 140737488355328 := by omega
     have hb3 : f.params.length <= 140737488355328 := by omega
     have hb4 : f.params.length * 24 <= 140737488355328 := by omega
     rw [<- htf] at hsn
     simp +decide only [e, h', hx, hfr, hb1, hb2, hb3, hb4, htl, htl1, hsn, fnC, Int.natCast_nonneg, vB, vI, zd, za, hpin, go_sem, reduceAdd, reduceMul]
     refine ⟨i + 1, h', by omega, Ent.weak ?_ ?_ ?_ ?_⟩
     all_goals simp +decide [subT, subB, zl, zk, zn, St.get, look, vI, vB, vS, cI, cS, cB, zh, za, roI, hsn, w64s (n := p.fns.length) h' (by omega)]
   · have hil : i = p.fns.length := by omega
     subst hil
     have e : ((p.fns.length : Int) < (p.fns.length : Int)) = False := by simp
     simp +decide only [e, vB, vI, zd, za, hpin, go_sem, reduceAdd, reduceMul]
     refine zf zg _ ?_
     simp +decide only [zd, za, hpin, go_sem, reduceAdd, reduceMul]
theorem zbW (x : ProgramD) (k : Int) (h0 : 0 <= k) (h1 : k + (sumN yD x.nodes : Nat) + (sumN fnN x.fns : Nat) < 4611686018427387904) :
   zw Tryz.prog 25 [.ro (zd ⟨yH k x.nodes, fnML (k + (sumN yD x.nodes : Nat)) x.fns⟩), .ro (.sc (.int .i64 k))] (fun rs st => rs = [(false, [cI ((k + (sumN yD x.nodes : Nat)) + (sumN fnN x.fns : Nat))])]) := by
 have n0 : ((k + (sumN yD x.nodes : Nat) : Int) < 0) = False := by simp; omega
 have n1 : (((k + (sumN yD x.nodes : Nat)) + (sumN fnN x.fns : Nat) : Int) < 0) = False := by simp; omega
 refine zp (fn := Tryz.f25) (c := Tryz.f25.body.getD .skip) (res := [.tm 4]) (n := 18) zg (by kernel_rfl) (by rfl) (by kernel_rfl) (by rfl) (by rfl) (by simp [zq]) (fun C hpin hfull => ?_)
 simp +decide only [Tryz.f25, zd, zd, za, hpin, go_sem, reduceAdd, reduceMul]
 refine ze (zdV x.nodes k (by omega) (by omega)) hpin ?_
 simp +decide only [n0, zd, zd, za, hpin, go_sem, reduceAdd, reduceMul]
 refine ze (zgm x.fns (k + (sumN yD x.nodes : Nat)) (by omega) (by omega)) hpin ?_
 simp +decide only [n1, zd, zd, za, hpin, go_sem, reduceAdd, reduceMul]
theorem zcK {α : Type} {f : α -> Nat} {c : Nat} : ∀ l : List α, (∀ x ∈ l, f x <= c) -> sumN f l <= c * l.length
 | [], _ => by simp [sumN]
 | a :: r, h => by
   have h1 := zcK r (fun x hx => h x (List.mem_cons_of_mem _ hx))
   have h2 := h a (List.mem_cons_self ..)
   simp only [sumN, List.map_cons, List.sum_cons] at h1 |-
   rw [List.length_cons, Nat.mul_add]
   omega
theorem zml {nodes : List NodeD} (hD : Deep nodes) : ∀ x ∈ nodes, x.name.size <= 8 := fun x hx => by
 obtain ⟨i, hi, rfl⟩ := List.getElem_of_mem hx
 have hb := ZM nodes i (hD.deep i hi)
 simp only [Yq, Bool.and_eq_true, zau] at hb
 obtain ⟨_, _, _, _, hs, _⟩ := hb
 rw [zH hi] at hs
 unfold YJ at hs
 split at hs
 · unfold Yr at hs
   have := zx (Bool.and_eq_true_iff.1 hs).1
   omega
 · rw [of_decide_eq_true hs]; decide
theorem znQ {p : ProgramD} {f : FnD} (h : Xh p f = true) : f.name.size <= 8 /\ f.params.length <= 3 /\ ∀ x ∈ f.params, x.name.size <= 8 := by
 simp only [Xh, Bool.and_eq_true, List.all_eq_true, ZG, decide_eq_true_eq] at h
 obtain ⟨h1, h2, _, h3, _⟩ := h
 unfold Yr at h1
 have e1 := zx (Bool.and_eq_true_iff.1 h1).1
 refine ⟨by omega, by omega, fun x hx => ?_⟩
 have h4 := (h3 x hx).1
 unfold Yr at h4
 have e2 := zx (Bool.and_eq_true_iff.1 h4).1
 omega
theorem zpD {p : ProgramD} (h0 : p.nodes.length <= 300) (h1 : p.fns.length <= 8) (h2 : ∀ x ∈ p.nodes, x.name.size <= 8 /\ x.kids.length <= 12) (h3 : ∀ f ∈ p.fns, f.name.size <= 8 /\ f.params.length <= 3 /\ ∀ x ∈ f.params, x.name.size <= 8) : zG p <= 100000 := by
 have e1 := zcK (f := zF) (c := 20) p.nodes (fun x hx => by
   have := h2 x hx
   unfold zF; omega)
 have e2 := zcK (f := ya) (c := 100) p.fns (fun f hf => by
   obtain ⟨g1, g2, g3⟩ := h3 f hf
   have e3 := zcK (f := zJ) (c := 8) f.params (fun x hx => g3 x hx)
   unfold ya; omega)
 unfold zG
 omega
theorem zkD {p : ProgramD} (h : Right p) : zG p <= 100000 :=
 zpD h.few h.fns (fun x hx => ⟨zml h.deep x hx, h.deep.few x hx⟩) (fun f hf => by
   obtain ⟨i, hi, rfl⟩ := List.getElem_of_mem hf
   exact znQ (h.fn i hi))
structure PkS where
 to : List NodeD
 bad : Bool
def runB (V : Int -> PkS -> Int × PkS) : List Int -> PkS -> List Int × PkS
 | [], s => ([], s)
 | k :: r, s => if s.bad then ([], s) else ((V k s).1 :: (runB V r (V k s).2).1, (runB V r (V k s).2).2)
def zaI (x : NodeD) (q : List Int × PkS) : Int × PkS := (q.2.to.length, ⟨q.2.to ++ [⟨x.kind, x.num, x.name, q.1⟩], q.2.bad⟩)
def yT (s : PkS) : Int × PkS := (-1, ⟨s.to, true⟩)
def pkI (N : List NodeD) : Nat -> Int -> PkS -> Int × PkS
 | 0, _, s => yT s
 | d + 1, k, s => if s.bad || (!inI k 0 (N.length - 1) || decide (300 <= s.to.length)) then yT s else
   if (runB (pkI N d) (nAt N k).kids s).2.bad then (-1, (runB (pkI N d) (nAt N k).kids s).2) else
   if decide (300 <= (runB (pkI N d) (nAt N k).kids s).2.to.length) then yT (runB (pkI N d) (nAt N k).kids s).2 else zaI (nAt N k) (runB (pkI N d) (nAt N k).kids s)
def pkR (N : List NodeD) : Nat -> Int -> PkS -> Int × PkS
 | 0, _, s => yT s
 | d + 1, k, s => if s.bad || (!inI k 0 (N.length - 1) || decide (300 < s.to.length)) then yT s else zaI (nAt N k) (runB (pkR N d) (nAt N k).kids s)
theorem YW (V : Int -> PkS -> Int × PkS) (l : List Int) {s : PkS} (h : s.bad = true) : runB V l s = ([], s) := by
 cases l with
 | nil => rfl
 | cons k r => unfold runB; rw [if_pos h]
theorem zdk (V : Int -> PkS -> Int × PkS) : ∀ (l : List Int) (s : PkS), (runB V l s).1.length <= l.length
 | [], s => by simp [runB]
 | k :: r, s => by
   unfold runB
   split
   · simp
   · simp only [List.length_cons]
     have := zdk V r (V k s).2
     omega
theorem zdj {V : Int -> PkS -> Int × PkS} {m : Nat} (h : ∀ k s, s.to.length <= m -> (V k s).2.to.length <= m) : ∀ (l : List Int) (s : PkS), s.to.length <= m -> (runB V l s).2.to.length <= m
 | [], s, hs => hs
 | k :: r, s, hs => by
   unfold runB
   split
   · exact hs
   · exact zdj h r _ (h k s hs)
theorem zab (N : List NodeD) : ∀ (d : Nat) (k : Int) (s : PkS), s.to.length <= 300 -> (pkI N d k s).2.to.length <= 300
 | 0, k, s, hs => hs
 | d + 1, k, s, hs => by
   have hr := zdj (V := pkI N d) (m := 300) (fun k s h => zab N d k s h) (nAt N k).kids s hs
   unfold pkI
   split
   · exact hs
   split
   · exact hr
   split
   · exact hr
   · rename_i h3
     simp only [decide_eq_true_eq] at h3
     simp only [zaI, List.length_append, List.length_singleton]
     omega
theorem zhc {V : Int -> PkS -> Int × PkS} {m : Nat} (h1 : ∀ k s, s.to.length <= 300 -> (V k s).2.to.length <= m) (h2 : ∀ k s, 300 < s.to.length -> (V k s).2.to = s.to /\ (V k s).2.bad = true) (hm : 300 <= m) : ∀ (l : List Int) (s : PkS), s.to.length <= m -> (runB V l s).2.to.length <= m
 | [], s, hs => hs
 | k :: r, s, hs => by
   unfold runB
   split
   · exact hs
   · by_cases h : s.to.length <= 300
     · exact zhc h1 h2 hm r _ (h1 k s h)
     · obtain ⟨g1, g2⟩ := h2 k s (by omega)
       rw [YW V r g2]
       show (V k s).2.to.length <= m
       rw [g1]; exact hs
theorem zjL (N : List NodeD) (d : Nat) (k : Int) (s : PkS) (h : 300 < s.to.length) : (pkR N d k s).2.to = s.to /\ (pkR N d k s).2.bad = true := by
 cases d with
 | zero => exact ⟨rfl, rfl⟩
 | succ d =>
   unfold pkR
   rw [if_pos (by simp [h])]
   exact ⟨rfl, rfl⟩
theorem zjM (N : List NodeD) : ∀ (d : Nat) (k : Int) (s : PkS), s.to.length <= 300 -> (pkR N d k s).2.to.length <= 300 + d
 | 0, k, s, hs => hs
 | d + 1, k, s, hs => by
   unfold pkR
   split
   · show s.to.length <= _; omega
   · have hr := zhc (V := pkR N d) (m := 300 + d) (fun k s h => zjM N d k s h) (fun k s h => zjL N d k s h) (by omega) (nAt N k).kids s (by omega)
     simp only [zaI, List.length_append, List.length_singleton]
     omega
theorem zmf (N : List NodeD) (d : Nat) (k : Int) (s : PkS) (m : Nat) (hm : 300 + d <= m) (hs : s.to.length <= m) : (pkR N d k s).2.to.length <= m := by
 by_cases h : s.to.length <= 300
 · have := zjM N d k s h; omega
 · obtain ⟨g1, _⟩ := zjL N d k s (by omega)
   rw [g1]; exact hs
theorem zdl {V : Int -> PkS -> Int × PkS} (h : ∀ k s, s.to.length <= (V k s).2.to.length) : ∀ (l : List Int) (s : PkS), s.to.length <= (runB V l s).2.to.length
 | [], s => Nat.le_refl _
 | k :: r, s => by
   unfold runB
   split
   · exact Nat.le_refl _
   · exact Nat.le_trans (h k s) (zdl h r _)
theorem zjN (N : List NodeD) : ∀ (d : Nat) (k : Int) (s : PkS), s.to.length <= (pkR N d k s).2.to.length
 | 0, k, s => Nat.le_refl _
 | d + 1, k, s => by
   unfold pkR
   split
   · exact Nat.le_refl _
   · have := zdl (V := pkR N d) (fun k s => zjN N d k s) (nAt N k).kids s
     simp only [zaI, List.length_append, List.length_singleton]
     omega
def pkRel (s t : PkS) : Prop := (s.bad = false /\ t = s /\ s.to.length <= 300) \/ (s.bad = true /\ (t.bad = true \/ 300 < t.to.length))
theorem pkRel.stop {s t : PkS} : pkRel (yT s).2 (yT t).2 := Or.inr ⟨rfl, Or.inl rfl⟩
theorem zjG {V W : Int -> PkS -> Int × PkS} (h : ∀ k s, s.bad = false -> s.to.length <= 300 -> pkRel (V k s).2 (W k s).2 /\ ((V k s).2.bad = false -> (V k s).1 = (W k s).1)) (hW : ∀ k t, (t.bad = true \/ 300 < t.to.length) -> (W k t).2.bad = true) :
   ∀ (l : List Int) (s t : PkS), pkRel s t -> pkRel (runB V l s).2 (runB W l t).2 /\ ((runB V l s).2.bad = false -> (runB V l s).1 = (runB W l t).1)
 | [], s, t, hr => ⟨hr, fun _ => rfl⟩
 | k :: r, s, t, hr => by
   rcases hr with ⟨h1, rfl, h3⟩ | ⟨h1, h2⟩
   · obtain ⟨g1, g2⟩ := h k t h1 h3
     obtain ⟨g3, g4⟩ := zjG h hW r _ _ g1
     unfold runB
     rw [if_neg (by simp [h1]), if_neg (by simp [h1])]
     refine ⟨g3, fun hb => ?_⟩
     have hb0 : (V k t).2.bad = false := by
       cases hq : (V k t).2.bad with
       | false => rfl
       | true => rw [YW V r hq] at hb; simp only at hb; rw [hq] at hb; exact hb
     simp only
     rw [g2 hb0, g4 hb]
   · rw [YW V _ h1]
     refine ⟨Or.inr ⟨h1, ?_⟩, fun hb => by simp only at hb; rw [h1] at hb; cases hb⟩
     cases ht : t.bad with
     | true => rw [YW W _ ht]; exact Or.inl ht
     | false =>
       unfold runB
       rw [if_neg (by simp [ht]), YW W r (hW k t h2)]
       exact Or.inl (hW k t h2)
theorem zjK (N : List NodeD) (d : Nat) (k : Int) (t : PkS) (h : t.bad = true \/ 300 < t.to.length) : (pkR N d k t).2.bad = true := by
 cases d with
 | zero => rfl
 | succ d =>
   unfold pkR
   rw [if_pos (by rcases h with h | h <;> simp [h])]
   rfl
theorem zoq (N : List NodeD) : ∀ (d : Nat) (k : Int) (s : PkS), s.bad = false -> s.to.length <= 300 -> pkRel (pkI N d k s).2 (pkR N d k s).2 /\ ((pkI N d k s).2.bad = false -> (pkI N d k s).1 = (pkR N d k s).1)
 | 0, k, s, h1, h2 => ⟨Or.inr ⟨rfl, Or.inl rfl⟩, fun hb => by cases hb⟩
 | d + 1, k, s, h1, h2 => by
   have hrun := zjG (V := pkI N d) (W := pkR N d) (fun k s g1 g2 => zoq N d k s g1 g2) (fun k t ht => zjK N d k t ht) (nAt N k).kids s s (Or.inl ⟨h1, rfl, h2⟩)
   have hmost := zdj (V := pkI N d) (m := 300) (fun k s h => zab N d k s h) (nAt N k).kids s h2
   have hgrow := zdl (V := pkR N d) (fun k s => zjN N d k s) (nAt N k).kids s
   unfold pkI pkR
   generalize runB (pkI N d) (nAt N k).kids s = q at hrun hmost
   generalize runB (pkR N d) (nAt N k).kids s = z at hrun hgrow
   obtain ⟨hr, hf⟩ := hrun
   cases hi : inI k 0 (N.length - 1) with
   | false =>
     simp only [Bool.not_false, Bool.true_or, Bool.or_true, if_true]
     exact ⟨Or.inr ⟨rfl, Or.inl rfl⟩, fun hb => by cases hb⟩
   | true =>
     simp only [h1, Bool.not_true, Bool.false_or, decide_eq_true_eq]
     have h4 : ¬ 300 < s.to.length := by omega
     rw [if_neg h4]
     by_cases h300 : 300 <= s.to.length
     · rw [if_pos h300]
       refine ⟨Or.inr ⟨rfl, Or.inr ?_⟩, fun hb => by cases hb⟩
       simp only [zaI, List.length_append, List.length_singleton]
       omega
     · rw [if_neg h300]
       rcases hr with ⟨e1, e2, e3⟩ | ⟨e1, e2⟩
       · have e4 : ¬ q.2.bad = true := by simp [e1]
         rw [if_neg e4]
         by_cases hq : 300 <= q.2.to.length
         · rw [if_pos hq]
           refine ⟨Or.inr ⟨rfl, Or.inr ?_⟩, fun hb => by cases hb⟩
           simp only [zaI, List.length_append, List.length_singleton, e2]
           omega
         · rw [if_neg hq]
           have ez : z = q := Prod.ext (hf e1).symm e2
           subst ez
           refine ⟨Or.inl ⟨e1, rfl, ?_⟩, fun _ => rfl⟩
           simp only [zaI, List.length_append, List.length_singleton]
           omega
       · rw [if_pos e1]
         refine ⟨Or.inr ⟨e1, ?_⟩, fun hb => by simp only at hb; rw [e1] at hb; cases hb⟩
         rcases e2 with e2 | e2
         · exact Or.inl e2
         · refine Or.inr ?_
           simp only [zaI, List.length_append, List.length_singleton]
           omega
def pkFn (V : Int -> PkS -> Int × PkS) (f : FnD) (s : PkS) : FnD × PkS :=
 if decide (0 <= f.ret) then (⟨f.name, f.params, f.res, (V f.body s).1, (V f.ret (V f.body s).2).1⟩, (V f.ret (V f.body s).2).2) else (⟨f.name, f.params, f.res, (V f.body s).1, f.ret⟩, (V f.body s).2)
def Ze (V : Int -> PkS -> Int × PkS) : List FnD -> PkS -> List FnD × PkS
 | [], s => ([], s)
 | f :: r, s => ((pkFn V f s).1 :: (Ze V r (pkFn V f s).2).1, (Ze V r (pkFn V f s).2).2)
def pk0 : PkS := ⟨[], false⟩
def XE (p : ProgramD) : List FnD × PkS := Ze (pkI p.nodes 10) p.fns pk0
def zkN (p : ProgramD) : List FnD × PkS := Ze (pkR p.nodes 10) p.fns pk0
def zao (p : ProgramD) : Bool := !(XE p).2.bad
def Yp (p : ProgramD) : ProgramD := if zao p then ⟨(XE p).2.to, (XE p).1⟩ else ⟨[], []⟩
theorem ziE (N : List NodeD) (d : Nat) (k : Int) (s : PkS) (h : s.bad = true) : pkI N d k s = (-1, s) := by
 have e : yT s = (-1, s) := by unfold yT; cases s; simp only at h; subst h; rfl
 cases d with
 | zero => exact e
 | succ d =>
   unfold pkI
   rw [if_pos (by simp [h])]
   exact e
theorem znw (N : List NodeD) (d : Nat) (f : FnD) (s t : PkS) (hr : pkRel s t) : pkRel (pkFn (pkI N d) f s).2 (pkFn (pkR N d) f t).2 /\ ((pkFn (pkI N d) f s).2.bad = false -> (pkFn (pkI N d) f s).1 = (pkFn (pkR N d) f t).1) := by
 have one : ∀ k s t, pkRel s t -> pkRel (pkI N d k s).2 (pkR N d k t).2 /\ ((pkI N d k s).2.bad = false -> s.bad = false /\ (pkI N d k s).1 = (pkR N d k t).1) := fun k s t hr => by
   rcases hr with ⟨h1, rfl, h3⟩ | ⟨h1, h2⟩
   · obtain ⟨g1, g2⟩ := zoq N d k t h1 h3
     exact ⟨g1, fun hb => ⟨h1, g2 hb⟩⟩
   · rw [ziE N d k s h1]
     exact ⟨Or.inr ⟨h1, Or.inl (zjK N d k t h2)⟩, fun hb => by simp only at hb; rw [h1] at hb; cases hb⟩
 obtain ⟨g1, g2⟩ := one f.body s t hr
 obtain ⟨g3, g4⟩ := one f.ret _ _ g1
 unfold pkFn
 split
 · refine ⟨g3, fun hb => ?_⟩
   obtain ⟨e1, e2⟩ := g4 hb
   simp only
   rw [(g2 e1).2, e2]
 · refine ⟨g1, fun hb => ?_⟩
   simp only
   rw [(g2 hb).2]
theorem zhr (N : List NodeD) (d : Nat) : ∀ (l : List FnD) (s t : PkS), pkRel s t -> pkRel (Ze (pkI N d) l s).2 (Ze (pkR N d) l t).2 /\ ((Ze (pkI N d) l s).2.bad = false -> s.bad = false /\ (Ze (pkI N d) l s).1 = (Ze (pkR N d) l t).1)
 | [], s, t, hr => ⟨hr, fun hb => ⟨hb, rfl⟩⟩
 | f :: r, s, t, hr => by
   obtain ⟨g1, g2⟩ := znw N d f s t hr
   obtain ⟨g3, g4⟩ := zhr N d r _ _ g1
   unfold Ze
   refine ⟨g3, fun hb => ?_⟩
   obtain ⟨e1, e2⟩ := g4 hb
   refine ⟨?_, by simp only; rw [g2 e1, e2]⟩
   cases hs : s.bad with
   | false => rfl
   | true =>
     exfalso
     have : (pkFn (pkI N d) f s).2.bad = true := by
       unfold pkFn
       rw [ziE N d _ s hs]
       simp only
       rw [ziE N d _ s hs]
       split <;> exact hs
     rw [this] at e1; cases e1
theorem zkM (p : ProgramD) : ((!((zkN p).2.bad || decide (300 < (zkN p).2.to.length))) = zao p) /\ (zao p = true -> zkN p = XE p) := by
 obtain ⟨h1, h2⟩ := zhr p.nodes 10 p.fns pk0 pk0 (Or.inl ⟨rfl, rfl, by simp [pk0]⟩)
 unfold zao XE zkN
 generalize Ze (pkI p.nodes 10) p.fns pk0 = q at h1 h2
 generalize Ze (pkR p.nodes 10) p.fns pk0 = z at h1 h2
 rcases h1 with ⟨e1, e2, e3⟩ | ⟨e1, e2⟩
 · rw [e2, e1]
   refine ⟨by simp; omega, fun _ => Prod.ext (h2 e1).2.symm e2⟩
 · rw [e1]
   refine ⟨?_, fun h => by cases h⟩
   rcases e2 with e2 | e2 <;> simp [e2]
def simN (A B : List NodeD) : Nat -> Int -> Int -> Prop
 | 0, _, _ => True
 | d + 1, a, b => inI a 0 (A.length - 1) = inI b 0 (B.length - 1) /\ (inI a 0 (A.length - 1) = true -> (nAt A a).kind = (nAt B b).kind /\ (nAt A a).num = (nAt B b).num /\ (nAt A a).name = (nAt B b).name /\ (nAt A a).kids.length = (nAt B b).kids.length /\ ∀ (i : Nat) (x y : Int), (nAt A a).kids[i]? = some x -> (nAt B b).kids[i]? = some y -> simN A B d x y)
theorem zjF {V W : Int -> PkS -> Int × PkS} {R : Int -> Int -> Prop} (h : ∀ x y s, R x y -> V x s = W y s) : ∀ (l m : List Int) (s : PkS), l.length = m.length -> (∀ (i : Nat) (x y : Int), l[i]? = some x -> m[i]? = some y -> R x y) -> runB V l s = runB W m s
 | [], [], s, _, _ => rfl
 | [], _ :: _, s, hl, _ => by simp at hl
 | _ :: _, [], s, hl, _ => by simp at hl
 | x :: l, y :: m, s, hl, hr => by
   have h0 := h x y s (hr 0 x y rfl rfl)
   have h1 := zjF h l m (V x s).2 (by simpa using hl) (fun i x y hx hy => hr (i + 1) x y (by simpa using hx) (by simpa using hy))
   unfold runB
   rw [<- h0, h1]
theorem zme (A B : List NodeD) : ∀ (d : Nat) (a b : Int) (s : PkS), simN A B d a b -> pkI A d a s = pkI B d b s
 | 0, _, _, _, _ => rfl
 | d + 1, a, b, s, h => by
   obtain ⟨h1, h2⟩ := h
   unfold pkI
   rw [<- h1]
   cases hi : inI a 0 (A.length - 1) with
   | false => simp
   | true =>
     obtain ⟨g1, g2, g3, g4, g5⟩ := h2 hi
     rw [zjF (V := pkI A d) (W := pkI B d) (R := simN A B d) (fun x y s hr => zme A B d x y s hr) (nAt A a).kids (nAt B b).kids s g4 g5]
     unfold zaI
     rw [g1, g2, g3]
theorem zhx {A B : List NodeD} (d : Nat) : ∀ {F G : List FnD} (s : PkS), F.length = G.length -> (∀ (i : Nat) (f g : FnD), F[i]? = some f -> G[i]? = some g -> f.name = g.name /\ f.params = g.params /\ f.res = g.res /\ simN A B d f.body g.body /\ ((0 <= f.ret ↔ 0 <= g.ret) /\ (0 <= f.ret -> simN A B d f.ret g.ret) /\ (¬ 0 <= f.ret -> f.ret = g.ret))) -> Ze (pkI A d) F s = Ze (pkI B d) G s
 | [], [], s, _, _ => rfl
 | [], _ :: _, s, hl, _ => by simp at hl
 | _ :: _, [], s, hl, _ => by simp at hl
 | f :: F, g :: G, s, hl, h => by
   obtain ⟨h1, h2, h3, h4, h5, h6, h7⟩ := h 0 f g rfl rfl
   have e : pkFn (pkI A d) f s = pkFn (pkI B d) g s := by
     unfold pkFn
     rw [zme A B d _ _ _ h4, h1, h2, h3]
     by_cases h0 : 0 <= f.ret
     · rw [if_pos (by simpa using h0), if_pos (by simpa using h5.1 h0), zme A B d _ _ _ (h6 h0)]
     · rw [if_neg (by simpa using h0), if_neg (by simpa using fun hg => h0 (h5.2 hg)), h7 h0]
   unfold Ze
   rw [e, zhx d _ (by simpa using hl) (fun i f g hf hg => h (i + 1) f g (by simpa using hf) (by simpa using hg))]
theorem znz {p q : ProgramD} (hl : p.fns.length = q.fns.length) (h : ∀ (i : Nat) (f g : FnD), p.fns[i]? = some f -> q.fns[i]? = some g -> f.name = g.name /\ f.params = g.params /\ f.res = g.res /\ simN p.nodes q.nodes 10 f.body g.body /\ ((0 <= f.ret ↔ 0 <= g.ret) /\ (0 <= f.ret -> simN p.nodes q.nodes 10 f.ret g.ret) /\ (¬ 0 <= f.ret -> f.ret = g.ret))) : XE p = XE q := zhx 10 pk0 hl h
theorem zlJ {A B : List NodeD} {R : Int -> Int -> Prop} (h : ∀ a b, R a b -> inI a 0 (A.length - 1) = inI b 0 (B.length - 1) /\ (inI a 0 (A.length - 1) = true -> (nAt A a).kind = (nAt B b).kind /\ (nAt A a).num = (nAt B b).num /\ (nAt A a).name = (nAt B b).name /\ (nAt A a).kids.length = (nAt B b).kids.length /\ ∀ (i : Nat) (x y : Int), (nAt A a).kids[i]? = some x -> (nAt B b).kids[i]? = some y -> R x y)) : ∀ (d : Nat) (a b : Int), R a b -> simN A B d a b
 | 0, _, _, _ => trivial
 | d + 1, a, b, hr => by
   obtain ⟨h1, h2⟩ := h a b hr
   refine ⟨h1, fun hi => ?_⟩
   obtain ⟨g1, g2, g3, g4, g5⟩ := h2 hi
   exact ⟨g1, g2, g3, g4, fun i x y hx hy => zlJ h d x y (g5 i x y hx hy)⟩
end Go.Proofs.YtjjigphfjclofaaGreatDoor.AW
