/- What the statements of this set lean on, part 7. No condition beyond those named. -/
import Derived.Test.YtjjigphfjclofaaGreatDoorLx6
namespace Go.Proofs.YtjjigphfjclofaaGreatDoor.AW
open Go.RowKit
open Nat renaming reduceAdd → aD, reduceMul → mU
open Int renaming natCast_nonneg → iN
open Bool renaming false_eq_true → bF, false_or → bO, true_or → bT, or_false → bP
open List renaming getElem_mem → lM, getElem?_eq_getElem → lE
open Option renaming getD_some → oD, map_eq_some_iff → oM
set_option maxHeartbeats 8000000
set_option maxRecDepth 100000
set_option linter.unusedSimpArgs false
set_option linter.unusedVariables false
theorem zrd : fo Tryz.prog 170 0 = some 0 := by kernel_rfl
theorem zrc : fo Tryz.prog 170 1 = some 2 := by kernel_rfl
theorem zrb : fo Tryz.prog 170 2 = some 3 := by kernel_rfl
theorem zra : fo Tryz.prog 170 3 = some 4 := by kernel_rfl
theorem zrL : isR Tryz.prog 170 = some true := by kernel_rfl
theorem zrE : szT Tryz.prog 170 = 5 := by kernel_rfl
theorem zrx : zeroCells Tryz.prog 170 = some [.slice none 0 0, .slice none 0 0, .int .i64 0, .slice none 0 0, .bool false] := by kernel_rfl
theorem zqQ : xz Tryz.prog 170 = some [(0, 2), (2, 1), (3, 1), (4, 1)] := by kernel_rfl
attribute [go_sem] zrd zrc zrb zra zrL zrE zrx zqQ
def zD (p : ProgramD) (f : Nat) (nm : List ByteArray) (bad : Bool) : List D := [.row true 83 (rows (zg true) p.nodes), .row true 104 (rows (fnC true) p.fns), cI f, .row true 9 (row1 cS nm), cB bad]
theorem zbc (S : Int -> List ByteArray -> Bool) (nodes : List NodeD) (nm : List ByteArray) : ∀ l : List Int, Zx S nodes false nm l = l.all (fun kid => S kid nm)
 | [] => rfl
 | k :: r => by
  unfold Zx zey
  rw [Bool.false_and, if_neg (by decide), zbc S nodes nm r]; rfl
theorem ZF {nodes : List NodeD} {n : Nat} (hd : dAt nodes n ≠ 0) (hn : n < nodes.length) {i : Nat} (hi : i < nodes[n].kids.length) : yP nodes[n].kind i (nAt nodes nodes[n].kids[i]).kind = true := by
 have hb := XN nodes n hd
 simp only [YI, Bool.and_eq_true, zby] at hb
 obtain ⟨_, _, _, _, _, hr⟩ := hb
 rw [zR hn, xy] at hr
 have := hr i hi
 simp only [kidB, Bool.and_eq_true] at this
 have hg : nodes[n].kids.getD i 0 = nodes[n].kids[i] := by simp [List.getD, hi]
 rw [hg] at this
 exact this.2.2
theorem zmk {k : Int} (h : xV k = true) : (k == 20) = false /\ (k == 16) = false /\ (k == 17) = false /\ (k == 19) = false /\ (k == 14) = false /\ (k == 15) = false /\ (k == 13) = false := by
 have := zy (show inI k 1 12 = true from h)
 refine ⟨?_, ?_, ?_, ?_, ?_, ?_, ?_⟩ <;> (apply Bool.eq_false_iff.2; intro hh; have := eq_of_beq hh; omega)
theorem zbU {f : Int -> Bool} {l : List Int} {i : Nat} (h : i < l.length) : (l.take (i + 1)).all f = ((l.take i).all f && f l[i]) := by
 rw [List.take_succ_eq_append_getElem h, List.all_append]; simp
theorem zds (p : ProgramD) (hD : Deep p.nodes) (f : Nat) (hfl : f < p.fns.length) (hf : p.fns.length <= 1048576) (hn : p.nodes.length <= 1048576) (hk : ∀ x ∈ p.nodes, x.kids.length <= 300) (nm : List ByteArray) (hnm : nm.length <= 4194304) (n : Nat) : n < p.nodes.length -> xV (nAt p.nodes n).kind = true -> ∀ bad : Bool,
 SoundAt Tryz.prog 167 (fun uf => zu 0 [.ro (.bp 2000 0), .ro (.sc (.int .i64 n))]) [(2000, .box (zD p f nm bad))]
  (fun rs st => rs = [] /\ xr st.ob [(2000, .box (zD p f nm (bad || !zZ p f n nm)))]) := by
 induction n using Nat.strongRecOn with
 | ind n ih =>
 intro hnl hval bad
 rw [zR hnl] at hval
 have hkid := hD.kid hnl
 have hkx := hk p.nodes[n] (lM hnl)
 have heq := zde hD f hnl nm
 have hx : (rows (zg true) p.nodes).getD n [] = zg true p.nodes[n] := zk _ _ hnl
 obtain ⟨v20, v16, v17, v19, v14, v15, v13⟩ := zmk hval
 have hrec : ∀ i (hi : i < p.nodes[n].kids.length), ∀ b : Bool, SoundAt Tryz.prog 167 (fun uf => zu 0 [.ro (.bp 2000 0), .ro (.sc (.int .i64 p.nodes[n].kids[i]))]) [(2000, .box (zD p f nm b))]
  (fun rs st => rs = [] /\ xr st.ob [(2000, .box (zD p f nm (b || !zZ p f p.nodes[n].kids[i] nm)))]) := fun i hi b => by
  have hft := ZF (hD.deep n hnl) hnl hi
  unfold yP at hft
  rw [v20, v16, v17, v19] at hft
  have hv2 : xV (nAt p.nodes p.nodes[n].kids[i]).kind = true := hft
  obtain ⟨q0, q1, q2⟩ := hkid p.nodes[n].kids[i] (lM hi)
  have e : p.nodes[n].kids[i] = (p.nodes[n].kids[i].toNat : Int) := by omega
  have := ih p.nodes[n].kids[i].toNat q2 (by omega) (by rw [<- e]; exact hv2) b
  rw [<- e] at this
  exact this
 rw [v20, zbc] at heq
 generalize zZ p f n nm = R at heq |-
 have hc1 : ((n : Int) < (p.nodes.length : Int)) = True := eq_true (by omega)
 generalize p.nodes[n] = x at hkid hkx heq hx hval v20 v16 v17 v19 v14 v15 v13 hrec
 have hhas := zcD nm x.name hnm
 have hfa := XL p x.name hf
 simp only [zb] at hfa
 refine zp (fn := Tryz.f167) (c := Tryz.f167.body.getD .skip) (res := []) (n := 98) ze (by kernel_rfl) (by rfl) (by kernel_rfl) (by rfl) (by rfl) (by simp [zu]) (fun uf ub C hpin hpin2 hfull => ?_)
 simp only [Tryz.f167, oD]
 refine Tri.step ze ?_
 simp +decide only [hc1, hx, zg, iN, zb, za, zD, hpin, hpin2, go_sem, aD, mU]
 refine Tri.ent ?_ (Ent.frb hfull 4)
 refine Tri.step ze ?_
 simp +decide only [zb, za, zD, hpin, hpin2, go_sem, aD, mU]
 refine Tri.loop (ι := Nat) (fun i => i <= x.kids.length) (fun i => ⟨98, [(0, .bp 2000 0), (1, vI n), (4, .ip (zg true x) 0), (5, vI i)], [(2000, .box (zD p f nm (bad || !(x.kids.take i).all (fun kid => zZ p f kid nm))))]⟩) (fun i => x.kids.length - i) 0 (by simp) ?_ ?_
 · refine Ent.weak ?_ ?_ ?_ ?_ <;> simp +decide [subT, subB, zj, zi, zm, St.get, look, vI, vB, vS, cI, cS, cB, zg, za, zD, roI]
 · rintro i hi
   refine zf ze _ ?_
   by_cases h' : i < x.kids.length
   · have e : ((i : Int) < (x.kids.length : Int)) = True := by simp [h']
     have hs := hrec i h' (bad || !(x.kids.take i).all (fun kid => zZ p f kid nm))
     have hnx : ((bad || !(x.kids.take i).all (fun kid => zZ p f kid nm)) || !zZ p f x.kids[i] nm) = (bad || !(x.kids.take (i + 1)).all (fun kid => zZ p f kid nm)) := by
      rw [zbU h']
      generalize (x.kids.take i).all (fun kid => zZ p f kid nm) = A
      cases bad <;> cases A <;> rfl
     rw [hnx] at hs
     simp only [zD, cI, cB] at hs
     simp +decide only [e, h', zw _ _ h', zg, iN, vB, vI, zb, za, zD, hpin, hpin2, go_sem, aD, mU]
     refine yr hs hpin hfull [(2000, 2000)] [] [(2000, 2000)] ⟨rfl, rfl, rfl, rfl⟩ (fun uf => ?_) ?_
     · simp +decide only [zb, za, zD, hpin, hpin2, go_sem, aD, mU]
     simp +decide only [zb, za, zD, hpin, hpin2, go_sem, aD, mU]
     refine ⟨i + 1, h', by omega, Ent.weak ?_ ?_ ?_ ?_⟩
     all_goals simp +decide [subT, subB, zj, zi, zm, St.get, look, vI, vB, vS, cI, cS, cB, zg, za, zD, roI, w64s (n := x.kids.length) h' (by omega)]
   have hil : i = x.kids.length := by omega
   subst hil
   have e : ((x.kids.length : Int) < (x.kids.length : Int)) = False := by simp
   simp +decide only [e, zg, vB, vI, zb, za, zD, hpin, hpin2, go_sem, aD, mU]
   refine Tri.step ze ?_
   simp +decide only [zg, zb, za, zD, hpin, hpin2, go_sem, aD, mU]
   refine zf ze _ ?_
   cases h2 : x.kind == 2 with
   | true =>
    have heq2 : R = (ownB p f nm x && x.kids.all (fun kid => zZ p f kid nm)) := heq
    have hown : ownB p f nm x = xg nm x.name := by
     have hk := eq_of_beq h2
     unfold ownB xT; rw [hk]; simp [inI]
    simp +decide only [h2, zb, za, zD, hpin, hpin2, go_sem, aD, mU]
    cases hb : bad || !x.kids.all (fun kid => zZ p f kid nm) with
    | true =>
     refine Tri.sched ze [(0, true), (1, false), (2, false), (3, false), (4, false), (5, false), (6, true), (7, true), (8, true), (10, true), (11, true), (9, false), (12, false), (13, false), (14, false), (15, false), (16, false), (17, false)] zO (by kernel_rfl) (fun C2 hC2 => ?_)
     have hp2 := zP hC2 hpin
     have hfin : (bad || !R) = true := by rw [heq2]; rw [Bool.or_eq_true] at hb |-; rcases hb with hb | hb; exact Or.inl hb; right; simp only [Bool.not_eq_true'] at hb |-; rw [hb, Bool.and_false]
     simp +decide only [hb, hfin, zb, za, zD, hp2, hpin, hpin2, go_sem, aD, mU]
    | false =>
     refine Tri.sched ze [(0, true), (1, false), (2, false), (3, false), (4, false), (5, false), (6, true), (7, true), (8, true), (10, true), (11, true), (9, false), (12, false), (13, false), (14, false), (15, false), (16, false), (17, false)] zO (by kernel_rfl) (fun C2 hC2 => ?_)
     have hp2 := zP hC2 hpin
     obtain ⟨hb1, hb2⟩ := Bool.or_eq_false_iff.1 hb
     have hfin : (bad || !R) = !xg nm x.name := by
      rw [heq2, hb1, bO]
      simp only [Bool.not_eq_false'] at hb2
      rw [hb2, Bool.and_true, hown]
     simp +decide only [hb, zb, za, zD, hp2, hpin, hpin2, go_sem, aD, mU]
     refine zd hhas hp2 ?_
     simp +decide only [hfin, zb, za, zD, hp2, hpin, hpin2, go_sem, aD, mU]
   | false =>
   cases h3 : x.kind == 3 with
   | true =>
    have heq2 : R = (ownB p f nm x && x.kids.all (fun kid => zZ p f kid nm)) := heq
    have hown : ownB p f nm x = xg nm x.name := by
     have hk := eq_of_beq h3
     unfold ownB xT; rw [hk]; simp [inI]
    simp +decide only [h2, h3, zb, za, zD, hpin, hpin2, go_sem, aD, mU]
    cases hb : bad || !x.kids.all (fun kid => zZ p f kid nm) with
    | true =>
     refine Tri.sched ze [(0, true), (1, false), (2, false), (3, false), (4, false), (5, false), (6, true), (7, true), (8, true), (10, true), (11, true), (9, false), (12, false), (13, false), (14, false), (15, false), (16, false), (17, false)] zO (by kernel_rfl) (fun C2 hC2 => ?_)
     have hp2 := zP hC2 hpin
     have hfin : (bad || !R) = true := by rw [heq2]; rw [Bool.or_eq_true] at hb |-; rcases hb with hb | hb; exact Or.inl hb; right; simp only [Bool.not_eq_true'] at hb |-; rw [hb, Bool.and_false]
     simp +decide only [hb, hfin, zb, za, zD, hp2, hpin, hpin2, go_sem, aD, mU]
    | false =>
     refine Tri.sched ze [(0, true), (1, false), (2, false), (3, false), (4, false), (5, false), (6, true), (7, true), (8, true), (10, true), (11, true), (9, false), (12, false), (13, false), (14, false), (15, false), (16, false), (17, false)] zO (by kernel_rfl) (fun C2 hC2 => ?_)
     have hp2 := zP hC2 hpin
     obtain ⟨hb1, hb2⟩ := Bool.or_eq_false_iff.1 hb
     have hfin : (bad || !R) = !xg nm x.name := by
      rw [heq2, hb1, bO]
      simp only [Bool.not_eq_false'] at hb2
      rw [hb2, Bool.and_true, hown]
     simp +decide only [hb, zb, za, zD, hp2, hpin, hpin2, go_sem, aD, mU]
     refine zd hhas hp2 ?_
     simp +decide only [hfin, zb, za, zD, hp2, hpin, hpin2, go_sem, aD, mU]
   | false =>
   cases h4 : x.kind == 4 with
   | true =>
    have heq2 : R = (ownB p f nm x && x.kids.all (fun kid => zZ p f kid nm)) := heq
    have hown : ownB p f nm x = xg nm x.name := by
     have hk := eq_of_beq h4
     unfold ownB xT; rw [hk]; simp [inI]
    simp +decide only [h2, h3, h4, zb, za, zD, hpin, hpin2, go_sem, aD, mU]
    cases hb : bad || !x.kids.all (fun kid => zZ p f kid nm) with
    | true =>
     refine Tri.sched ze [(0, true), (1, false), (2, false), (3, false), (4, false), (5, false), (6, true), (7, true), (8, true), (10, true), (11, true), (9, false), (12, false), (13, false), (14, false), (15, false), (16, false), (17, false)] zO (by kernel_rfl) (fun C2 hC2 => ?_)
     have hp2 := zP hC2 hpin
     have hfin : (bad || !R) = true := by rw [heq2]; rw [Bool.or_eq_true] at hb |-; rcases hb with hb | hb; exact Or.inl hb; right; simp only [Bool.not_eq_true'] at hb |-; rw [hb, Bool.and_false]
     simp +decide only [hb, hfin, zb, za, zD, hp2, hpin, hpin2, go_sem, aD, mU]
    | false =>
     refine Tri.sched ze [(0, true), (1, false), (2, false), (3, false), (4, false), (5, false), (6, true), (7, true), (8, true), (10, true), (11, true), (9, false), (12, false), (13, false), (14, false), (15, false), (16, false), (17, false)] zO (by kernel_rfl) (fun C2 hC2 => ?_)
     have hp2 := zP hC2 hpin
     obtain ⟨hb1, hb2⟩ := Bool.or_eq_false_iff.1 hb
     have hfin : (bad || !R) = !xg nm x.name := by
      rw [heq2, hb1, bO]
      simp only [Bool.not_eq_false'] at hb2
      rw [hb2, Bool.and_true, hown]
     simp +decide only [hb, zb, za, zD, hp2, hpin, hpin2, go_sem, aD, mU]
     refine zd hhas hp2 ?_
     simp +decide only [hfin, zb, za, zD, hp2, hpin, hpin2, go_sem, aD, mU]
   | false =>
   cases h5 : x.kind == 5 with
   | true =>
    have heq2 : R = (ownB p f nm x && x.kids.all (fun kid => zZ p f kid nm)) := heq
    have hown : ownB p f nm x = xg nm x.name := by
     have hk := eq_of_beq h5
     unfold ownB xT; rw [hk]; simp [inI]
    simp +decide only [h2, h3, h4, h5, zb, za, zD, hpin, hpin2, go_sem, aD, mU]
    cases hb : bad || !x.kids.all (fun kid => zZ p f kid nm) with
    | true =>
     refine Tri.sched ze [(0, true), (1, false), (2, false), (3, false), (4, false), (5, false), (6, true), (7, true), (8, true), (10, true), (11, true), (9, false), (12, false), (13, false), (14, false), (15, false), (16, false), (17, false)] zO (by kernel_rfl) (fun C2 hC2 => ?_)
     have hp2 := zP hC2 hpin
     have hfin : (bad || !R) = true := by rw [heq2]; rw [Bool.or_eq_true] at hb |-; rcases hb with hb | hb; exact Or.inl hb; right; simp only [Bool.not_eq_true'] at hb |-; rw [hb, Bool.and_false]
     simp +decide only [hb, hfin, zb, za, zD, hp2, hpin, hpin2, go_sem, aD, mU]
    | false =>
     refine Tri.sched ze [(0, true), (1, false), (2, false), (3, false), (4, false), (5, false), (6, true), (7, true), (8, true), (10, true), (11, true), (9, false), (12, false), (13, false), (14, false), (15, false), (16, false), (17, false)] zO (by kernel_rfl) (fun C2 hC2 => ?_)
     have hp2 := zP hC2 hpin
     obtain ⟨hb1, hb2⟩ := Bool.or_eq_false_iff.1 hb
     have hfin : (bad || !R) = !xg nm x.name := by
      rw [heq2, hb1, bO]
      simp only [Bool.not_eq_false'] at hb2
      rw [hb2, Bool.and_true, hown]
     simp +decide only [hb, zb, za, zD, hp2, hpin, hpin2, go_sem, aD, mU]
     refine zd hhas hp2 ?_
     simp +decide only [hfin, zb, za, zD, hp2, hpin, hpin2, go_sem, aD, mU]
   | false =>
   cases h6 : x.kind == 6 with
   | true =>
    have heq2 : R = (ownB p f nm x && x.kids.all (fun kid => zZ p f kid nm)) := heq
    have hown : ownB p f nm x = xg nm x.name := by
     have hk := eq_of_beq h6
     unfold ownB xT; rw [hk]; simp [inI]
    simp +decide only [h2, h3, h4, h5, h6, zb, za, zD, hpin, hpin2, go_sem, aD, mU]
    cases hb : bad || !x.kids.all (fun kid => zZ p f kid nm) with
    | true =>
     refine Tri.sched ze [(0, true), (1, false), (2, false), (3, false), (4, false), (5, false), (6, true), (7, true), (8, true), (10, true), (11, true), (9, false), (12, false), (13, false), (14, false), (15, false), (16, false), (17, false)] zO (by kernel_rfl) (fun C2 hC2 => ?_)
     have hp2 := zP hC2 hpin
     have hfin : (bad || !R) = true := by rw [heq2]; rw [Bool.or_eq_true] at hb |-; rcases hb with hb | hb; exact Or.inl hb; right; simp only [Bool.not_eq_true'] at hb |-; rw [hb, Bool.and_false]
     simp +decide only [hb, hfin, zb, za, zD, hp2, hpin, hpin2, go_sem, aD, mU]
    | false =>
     refine Tri.sched ze [(0, true), (1, false), (2, false), (3, false), (4, false), (5, false), (6, true), (7, true), (8, true), (10, true), (11, true), (9, false), (12, false), (13, false), (14, false), (15, false), (16, false), (17, false)] zO (by kernel_rfl) (fun C2 hC2 => ?_)
     have hp2 := zP hC2 hpin
     obtain ⟨hb1, hb2⟩ := Bool.or_eq_false_iff.1 hb
     have hfin : (bad || !R) = !xg nm x.name := by
      rw [heq2, hb1, bO]
      simp only [Bool.not_eq_false'] at hb2
      rw [hb2, Bool.and_true, hown]
     simp +decide only [hb, zb, za, zD, hp2, hpin, hpin2, go_sem, aD, mU]
     refine zd hhas hp2 ?_
     simp +decide only [hfin, zb, za, zD, hp2, hpin, hpin2, go_sem, aD, mU]
   | false =>
   have hu : xT x.kind = false := by
    unfold xT
    rw [v14, v15]
    have i2 : inI x.kind 2 6 = false := by
     apply Bool.eq_false_iff.2; intro hh
     have := zy hh
     have g2 : x.kind ≠ 2 := by simpa using h2
     have g3 : x.kind ≠ 3 := by simpa using h3
     have g4 : x.kind ≠ 4 := by simpa using h4
     have g5 : x.kind ≠ 5 := by simpa using h5
     have g6 : x.kind ≠ 6 := by simpa using h6
     omega
    rw [i2]; rfl
   unfold ownB at heq
   rw [hu, Bool.not_false, bT, Bool.true_and] at heq
   cases h12 : x.kind == 12 with
   | false =>
    rw [h12, Bool.not_false, bT, Bool.true_and] at heq
    simp +decide only [h2, h3, h4, h5, h6, h12, heq, zb, za, zD, hpin, hpin2, go_sem, aD, mU]
   | true =>
   rw [h12, Bool.not_true, bO] at heq
   simp +decide only [h2, h3, h4, h5, h6, h12, zb, za, zD, hpin, hpin2, go_sem, aD, mU]
   refine Tri.sched ze [(0, true), (1, true), (2, true), (4, true), (5, true), (3, false), (6, false), (7, false)] zO (by kernel_rfl) (fun C2 hC2 => ?_)
   have hp2 := zP hC2 hpin
   simp +decide only [zb, za, zD, hp2, hpin, hpin2, go_sem, aD, mU]
   refine zd hfa hp2 ?_
   unfold zkl at heq
   have hrg := Yo x.name p.fns 0
   have hfe : xd p.fns x.name = zbJ x.name p.fns 0 := rfl
   rw [<- hfe] at hrg
   generalize xd p.fns x.name = at_ at heq hrg |-
   simp +decide only [zb, za, zD, hp2, hpin, hpin2, go_sem, aD, mU]
   refine Tri.sched ze [(0, true), (1, false), (2, false), (3, false), (4, false), (5, false), (6, false), (7, false), (8, false), (9, false), (10, true), (11, false), (12, false), (13, false), (14, false), (15, false), (16, false), (17, false), (18, true), (19, true), (20, true), (21, true), (23, true), (28, true), (29, true), (30, true), (22, false), (24, false), (25, false), (26, false), (27, false), (31, false), (32, false), (33, false), (34, false), (35, false)] zO (by kernel_rfl) (fun C3 hC3 => ?_)
   have hp3 := zP hC3 hpin
   cases hb : bad || !x.kids.all (fun kid => zZ p f kid nm) with
   | true =>
    have hfin : (bad || !R) = true := by rw [heq]; rw [Bool.or_eq_true] at hb |-; rcases hb with hb | hb; exact Or.inl hb; right; simp only [Bool.not_eq_true'] at hb |-; rw [hb, Bool.and_false]
    rcases zeD p.fns at_.toNat with ⟨y, hy⟩ | hy
    · simp +decide only [hb, hfin, hy, fnC, zb, za, zD, hp3, hpin, hpin2, go_sem, aD, mU]
    · simp +decide only [hb, hfin, hy, zb, za, zD, hp3, hpin, hpin2, go_sem, aD, mU]
   | false =>
    obtain ⟨hb1, hb2⟩ := Bool.or_eq_false_iff.1 hb
    simp only [Bool.not_eq_false'] at hb2
    rw [hb2, Bool.and_true] at heq
    rw [hb1, bO]
    by_cases ha : at_ < 0
    · have c1 : (at_ < 0) = True := eq_true ha
      have g0 : inI at_ 0 ((f : Int) - 1) = false := by apply Bool.eq_false_iff.2; intro hh; have := zy hh; omega
      rw [g0, Bool.false_and] at heq
      rcases zeD p.fns at_.toNat with ⟨y, hy⟩ | hy
      · simp +decide only [hb, c1, heq, hy, fnC, zb, za, zD, hp3, hpin, hpin2, go_sem, aD, mU]
      · simp +decide only [hb, c1, heq, hy, zb, za, zD, hp3, hpin, hpin2, go_sem, aD, mU]
    · have c1 : (at_ < 0) = False := eq_false ha
      obtain ⟨m, rfl⟩ : ∃ m : Nat, at_ = m := ⟨at_.toNat, by omega⟩
      have hml : m < p.fns.length := by rcases hrg with h | h <;> omega
      have hy : (rows (fnC true) p.fns).getD m [] = fnC true p.fns[m] := zk _ _ hml
      have hc2 : ((m : Int) < (p.fns.length : Int)) = True := eq_true (by omega)
      rw [yS hml] at heq
      generalize p.fns[m] = y at hy heq
      by_cases hge : (f : Int) <= (m : Int)
      · have c2 : ((f : Int) <= (m : Int)) = True := eq_true hge
        have g0 : inI (m : Int) 0 ((f : Int) - 1) = false := by apply Bool.eq_false_iff.2; intro hh; have := zy hh; omega
        rw [g0, Bool.false_and] at heq
        simp +decide only [hb, c1, c2, heq, hy, hc2, fnC, iN, ge_iff_le, zb, za, zD, hp3, hpin, hpin2, go_sem, aD, mU]
      · have c2 : ((f : Int) <= (m : Int)) = False := eq_false hge
        have g0 : inI (m : Int) 0 ((f : Int) - 1) = true := by simp only [inI, Bool.and_eq_true, decide_eq_true_eq]; omega
        rw [g0, Bool.true_and] at heq
        simp +decide only [hb, c1, c2, heq, hy, hc2, fnC, bne, iN, ge_iff_le, zb, za, zD, hp3, hpin, hpin2, go_sem, aD, mU]
theorem zfN (S : Int -> List ByteArray -> Bool) (nodes : List NodeD) : ∀ (l : List Int) (k : Int) (nm : List ByteArray), Zx S nodes true nm (l ++ [k]) = (Zx S nodes true nm l && S k (ZN nodes nm l))
 | [], k, nm => by simp [Zx, ZN]
 | a :: r, k, nm => by
  simp only [List.cons_append, Zx]
  rw [zfN S nodes r k, Bool.and_assoc]
  rfl
theorem zlK (S : Int -> List ByteArray -> Bool) (nodes : List NodeD) (nm : List ByteArray) {l : List Int} {i : Nat} (h : i < l.length) : Zx S nodes true nm (l.take (i + 1)) = (Zx S nodes true nm (l.take i) && S l[i] (ZN nodes nm (l.take i))) := by
 rw [List.take_succ_eq_append_getElem h, zfN]
theorem xJ {nodes : List NodeD} {n : Nat} (hd : dAt nodes n ≠ 0) (hn : n < nodes.length) : inI nodes[n].kids.length (zJ nodes[n].kind).1 (zJ nodes[n].kind).2 = true := by
 have hb := XN nodes n hd
 simp only [YI, Bool.and_eq_true, zby] at hb
 obtain ⟨_, _, hs, _⟩ := hb
 rwa [zR hn] at hs
def zqB (nm : List ByteArray) (x : NodeD) : List ByteArray := if x.kind == 13 then nm ++ [x.name] else nm
def znK (p : ProgramD) (f n : Nat) : Prop := XG (nAt p.nodes n).kind = true -> ∀ (nm : List ByteArray) (bad : Bool), nm.length + 300 * n <= 4194304 ->
 SoundAt Tryz.prog 196 (fun uf => zu 0 [.ro (.bp 2000 0), .ro (.sc (.int .i64 n))]) [(2000, .box (zD p f nm bad))]
  (fun rs st => rs = [] /\ xr st.ob [(2000, .box (zD p f (zqB nm (nAt p.nodes n)) (bad || !zZ p f n nm)))])
def zht (p : ProgramD) (f n : Nat) : Prop := (nAt p.nodes n).kind == 20 -> ∀ (nm : List ByteArray) (bad : Bool), nm.length + 300 * n <= 4194304 ->
 SoundAt Tryz.prog 166 (fun uf => zu 0 [.ro (.bp 2000 0), .ro (.sc (.int .i64 n))]) [(2000, .box (zD p f nm bad))]
  (fun rs st => rs = [] /\ xr st.ob [(2000, .box (zD p f (ZN p.nodes nm (nAt p.nodes n).kids) (bad || !zZ p f n nm)))])
theorem zoO (p : ProgramD) (hD : Deep p.nodes) (f : Nat) (hk : ∀ x ∈ p.nodes, x.kids.length <= 300) (n : Nat) (hnl : n < p.nodes.length) (ih : ∀ m, m < n -> znK p f m) : zht p f n := by
 intro h20 nm bad hnm
 rw [zR hnl] at h20 |-
 have hkid := hD.kid hnl
 have hkx := hk p.nodes[n] (lM hnl)
 have heq := zde hD f hnl nm
 have hx : (rows (zg true) p.nodes).getD n [] = zg true p.nodes[n] := zk _ _ hnl
 have hrec : ∀ i (hi : i < p.nodes[n].kids.length), ∀ (L : List ByteArray) (b : Bool), L.length + 300 * p.nodes[n].kids[i].toNat <= 4194304 -> SoundAt Tryz.prog 196 (fun uf => zu 0 [.ro (.bp 2000 0), .ro (.sc (.int .i64 p.nodes[n].kids[i]))]) [(2000, .box (zD p f L b))]
  (fun rs st => rs = [] /\ xr st.ob [(2000, .box (zD p f (zey p.nodes true L p.nodes[n].kids[i]) (b || !zZ p f p.nodes[n].kids[i] L)))]) := fun i hi L b hL => by
  have hft := ZF (hD.deep n hnl) hnl hi
  unfold yP at hft
  rw [h20, if_pos rfl] at hft
  obtain ⟨q0, q1, q2⟩ := hkid p.nodes[n].kids[i] (lM hi)
  have e : p.nodes[n].kids[i] = (p.nodes[n].kids[i].toNat : Int) := by omega
  have := ih p.nodes[n].kids[i].toNat q2 (by rw [<- e]; exact hft) L b hL
  rw [<- e] at this
  exact this
 have hown : ownB p f nm p.nodes[n] = true := by
  have hk := eq_of_beq h20
  unfold ownB xT; rw [hk]; simp [inI]
 rw [hown, Bool.true_and, h20] at heq
 generalize zZ p f n nm = R at heq |-
 have hc1 : ((n : Int) < (p.nodes.length : Int)) = True := eq_true (by omega)
 generalize p.nodes[n] = x at hkid hkx heq hx hrec
 refine zp (fn := Tryz.f166) (c := Tryz.f166.body.getD .skip) (res := []) (n := 33) ze (by kernel_rfl) (by rfl) (by kernel_rfl) (by rfl) (by rfl) (by simp [zu]) (fun uf ub C hpin hpin2 hfull => ?_)
 simp only [Tryz.f166, oD]
 refine Tri.step ze ?_
 simp +decide only [zb, za, zD, hpin, hpin2, go_sem, aD, mU]
 refine zf ze _ ?_
 simp +decide only [zb, za, zD, hpin, hpin2, go_sem, aD, mU]
 refine Tri.loop (ι := Nat) (fun i => i <= x.kids.length) (fun i => ⟨33, [(0, .bp 2000 0), (1, vI n), (4, vI i)], [(2000, .box (zD p f (ZN p.nodes nm (x.kids.take i)) (bad || !Zx (zZ p f) p.nodes true nm (x.kids.take i))))]⟩) (fun i => x.kids.length - i) 0 (by simp) ?_ ?_
 · have e1 : ZN p.nodes nm [] = nm := rfl
   have e2 : (bad || !Zx (zZ p f) p.nodes true nm []) = bad := by simp [Zx]
   refine Ent.weak ?_ ?_ ?_ ?_ <;> simp +decide [subT, subB, zj, zi, zm, St.get, look, vI, vB, vS, cI, cS, cB, zg, za, zD, roI, e1, e2]
   all_goals simp [Zx]
 · rintro i hi
   refine zf ze _ ?_
   by_cases h' : i < x.kids.length
   · have e : ((i : Int) < (x.kids.length : Int)) = True := by simp [h']
     have hgl := YB p.nodes (x.kids.take i) nm
     rw [List.length_take] at hgl
     obtain ⟨q0, q1, q2⟩ := hkid x.kids[i] (lM h')
     have hs := hrec i h' (ZN p.nodes nm (x.kids.take i)) (bad || !Zx (zZ p f) p.nodes true nm (x.kids.take i)) (by omega)
     have hnx : ((bad || !Zx (zZ p f) p.nodes true nm (x.kids.take i)) || !zZ p f x.kids[i] (ZN p.nodes nm (x.kids.take i))) = (bad || !Zx (zZ p f) p.nodes true nm (x.kids.take (i + 1))) := by
      rw [zlK _ _ _ h']
      generalize Zx (zZ p f) p.nodes true nm (x.kids.take i) = A
      cases bad <;> cases A <;> rfl
     rw [hnx, <- zfQ p.nodes nm h'] at hs
     simp only [zD, cI, cB] at hs
     simp +decide only [e, h', hc1, hx, zw _ _ h', zg, iN, vB, vI, zb, za, zD, hpin, hpin2, go_sem, aD, mU]
     refine yr hs hpin hfull [(2000, 2000)] [] [(2000, 2000)] ⟨rfl, rfl, rfl, rfl⟩ (fun uf => ?_) ?_
     · simp +decide only [zb, za, zD, hpin, hpin2, go_sem, aD, mU]
     simp +decide only [zb, za, zD, hpin, hpin2, go_sem, aD, mU]
     refine ⟨i + 1, h', by omega, Ent.weak ?_ ?_ ?_ ?_⟩
     all_goals simp +decide [subT, subB, zj, zi, zm, St.get, look, vI, vB, vS, cI, cS, cB, zg, za, zD, roI, w64s (n := x.kids.length) h' (by omega)]
   · have hil : i = x.kids.length := by omega
     subst hil
     have e : ((x.kids.length : Int) < (x.kids.length : Int)) = False := by simp
     simp +decide only [e, hc1, hx, heq, zg, iN, vB, vI, zb, za, zD, hpin, hpin2, go_sem, aD, mU]
theorem zpk (p : ProgramD) (hD : Deep p.nodes) (f : Nat) (hfl : f < p.fns.length) (hf : p.fns.length <= 1048576) (hn : p.nodes.length <= 1048576) (hk : ∀ x ∈ p.nodes, x.kids.length <= 300) (n : Nat) (hnl : n < p.nodes.length) (ih : ∀ m, m < n -> zht p f m) : znK p f n := by
 intro hst nm bad hnm
 rw [zR hnl] at hst |-
 have hkid := hD.kid hnl
 have hkx := hk p.nodes[n] (lM hnl)
 have heq := zde hD f hnl nm
 have hx : (rows (zg true) p.nodes).getD n [] = zg true p.nodes[n] := zk _ _ hnl
 have hsr := zy (show inI p.nodes[n].kind 13 19 = true from hst)
 have v20 : (p.nodes[n].kind == 20) = false := by apply Bool.eq_false_iff.2; intro hh; have := eq_of_beq hh; omega
 have v12 : (p.nodes[n].kind == 12) = false := by apply Bool.eq_false_iff.2; intro hh; have := eq_of_beq hh; omega
 have hsh := xJ (hD.deep n hnl) hnl
 have hpos : 0 < p.nodes[n].kids.length := by
  have := zy hsh
  have h1 : 1 <= (zJ p.nodes[n].kind).1 := by
   rcases (show p.nodes[n].kind = 13 \/ p.nodes[n].kind = 14 \/ p.nodes[n].kind = 15 \/ p.nodes[n].kind = 16 \/ p.nodes[n].kind = 17 \/ p.nodes[n].kind = 18 \/ p.nodes[n].kind = 19 by omega) with h | h | h | h | h | h | h <;> rw [h] <;> decide
  omega
 have hone : (p.nodes[n].kind == 16) = false -> (p.nodes[n].kind == 17) = false -> p.nodes[n].kids.length = 1 := fun h16 h17 => by
  have := zy hsh
  have g16 : p.nodes[n].kind ≠ 16 := by simpa using h16
  have g17 : p.nodes[n].kind ≠ 17 := by simpa using h17
  have h1 : (zJ p.nodes[n].kind).2 = 1 := by
   rcases (show p.nodes[n].kind = 13 \/ p.nodes[n].kind = 14 \/ p.nodes[n].kind = 15 \/ p.nodes[n].kind = 18 \/ p.nodes[n].kind = 19 by omega) with h | h | h | h | h <;> rw [h] <;> decide
  omega
 have hval : ∀ b : Bool, SoundAt Tryz.prog 167 (fun uf => zu 0 [.ro (.bp 2000 0), .ro (.sc (.int .i64 p.nodes[n].kids[0]))]) [(2000, .box (zD p f nm b))]
  (fun rs st => rs = [] /\ xr st.ob [(2000, .box (zD p f nm (b || !zZ p f p.nodes[n].kids[0] nm)))]) := fun b => by
  have hft := ZF (hD.deep n hnl) hnl hpos
  have hv2 : xV (nAt p.nodes p.nodes[n].kids[0]).kind = true := by
   unfold yP at hft
   have h00 : decide ((0 : Int) < ((0 : Nat) : Int)) = false := by decide
   rw [v20, if_neg (by decide), h00, Bool.and_false, if_neg (by decide)] at hft
   split at hft
   · have := eq_of_beq hft; rw [this]; decide
   · exact hft
  obtain ⟨q0, q1, q2⟩ := hkid p.nodes[n].kids[0] (lM hpos)
  have e : p.nodes[n].kids[0] = (p.nodes[n].kids[0].toNat : Int) := by omega
  have := zds p hD f hfl hf hn hk nm (by omega) p.nodes[n].kids[0].toNat (by omega) (by rw [<- e]; exact hv2) b
  rw [<- e] at this
  exact this
 have hblk : ∀ i (hi : i < p.nodes[n].kids.length), 0 < i -> ((p.nodes[n].kind == 16) = true \/ (p.nodes[n].kind == 17) = true) -> ∀ b : Bool, SoundAt Tryz.prog 166 (fun uf => zu 0 [.ro (.bp 2000 0), .ro (.sc (.int .i64 p.nodes[n].kids[i]))]) [(2000, .box (zD p f nm b))]
  (fun rs st => rs = [] /\ xr st.ob [(2000, .box (zD p f (ZN p.nodes nm (nAt p.nodes p.nodes[n].kids[i]).kids) (b || !zZ p f p.nodes[n].kids[i] nm)))]) := fun i hi hi0 h67 b => by
  have hft := ZF (hD.deep n hnl) hnl hi
  unfold yP at hft
  have h68 : (p.nodes[n].kind == 16 || p.nodes[n].kind == 17) = true := by rw [Bool.or_eq_true]; exact h67
  have hi1 : decide ((0 : Int) < (i : Int)) = true := decide_eq_true (by omega)
  rw [v20, if_neg (by decide), h68, hi1, Bool.true_and, if_pos rfl] at hft
  obtain ⟨q0, q1, q2⟩ := hkid p.nodes[n].kids[i] (lM hi)
  have e : p.nodes[n].kids[i] = (p.nodes[n].kids[i].toNat : Int) := by omega
  have := ih p.nodes[n].kids[i].toNat q2 (by rw [<- e]; exact hft) nm b (by omega)
  rw [<- e] at this
  exact this
 rw [v20, zbc] at heq
 unfold ownB at heq
 rw [v12, Bool.not_false, bT, Bool.and_true] at heq
 generalize zZ p f n nm = R at heq |-
 have hc1 : ((n : Int) < (p.nodes.length : Int)) = True := eq_true (by omega)
 have hc0 : ((0 : Int) < (p.nodes[n].kids.length : Int)) = True := eq_true (by omega)
 generalize p.nodes[n] = x at hkid hkx heq hx hsr v20 v12 hpos hone hval hblk hc0
 have hhas := zcD nm x.name (by omega)
 have hv1 := hval bad
 have ht1 : (x.kids.take 1).all (fun kid => zZ p f kid nm) = zZ p f x.kids[0] nm := by
  have := zbU (f := fun kid => zZ p f kid nm) hpos
  simpa using this
 have hone2 : (x.kind == 16) = false -> (x.kind == 17) = false -> x.kids.all (fun kid => zZ p f kid nm) = zZ p f x.kids[0] nm := fun h16 h17 => by
  have h1 := hone h16 h17
  rw [<- ht1, List.take_of_length_le (by omega)]
 have hg0 : (row1 cI x.kids).getD (Int.toNat 0) [] = [cI x.kids[0]] := zw cI x.kids hpos
 simp only [zD, cI, cB] at hv1
 simp only [cI] at hg0
 refine zp (fn := Tryz.f196) (c := Tryz.f196.body.getD .skip) (res := []) (n := 83) ze (by kernel_rfl) (by rfl) (by kernel_rfl) (by rfl) (by rfl) (by simp [zu]) (fun uf ub C hpin hpin2 hfull => ?_)
 simp only [Tryz.f196, oD]
 refine Tri.last (fun s => St.shb s 2000) (fun s => Ent.shb hfull 2000) ?_
 refine Tri.step ze ?_
 simp +decide only [hc1, hx, zg, iN, zb, za, zD, hpin, hpin2, go_sem, aD, mU]
 refine Tri.ent ?_ (Ent.frb hfull 4)
 refine Tri.step ze ?_
 simp +decide only [hc0, hpos, hg0, zg, iN, zb, za, zD, hpin, hpin2, go_sem, aD, mU]
 refine yr hv1 hpin hfull [(2000, 2000)] [] [(2000, 2000)] ⟨rfl, rfl, rfl, rfl⟩ (fun uf => ?_) ?_
 · simp +decide only [zb, za, zD, hpin, hpin2, go_sem, aD, mU]
 simp +decide only [zg, zb, za, zD, hpin, hpin2, go_sem, aD, mU]
 refine Tri.step ze ?_
 simp +decide only [zg, zb, za, zD, hpin, hpin2, go_sem, aD, mU]
 refine zf ze _ ?_
 unfold zqB
 cases h13 : x.kind == 13 with
 | true =>
  have hk := eq_of_beq h13
  have heq2 : R = zZ p f x.kids[0] nm := by
   rw [heq, hone2 (by rw [hk]; rfl) (by rw [hk]; rfl)]
   unfold xT; rw [hk]; simp [inI]
  rw [heq2]
  simp +decide only [h13, zb, za, zD, hpin, hpin2, go_sem, aD, mU]
  have hfr := zhG nm
  have hb1 : nm.length <= 140737488355328 := by omega
  have hb2 : nm.length * 16 <= 140737488355328 := by omega
  have hb3 : nm.length + 1 <= 140737488355328 := by omega
  have hb4 : (nm.length + 1) * 16 <= 140737488355328 := by omega
  have htk := yj cS nm
  have hsn := zbp nm x.name
  simp only [cS] at hsn
  refine Tri.fork ze (.one 0 true (.one 2 true (.one 3 true (.one 4 true (.one 7 true (.one 8 true (.three 1 (.two 5 (.two 6 (.one 9 false (.one 10 false (.one 11 false (.one 12 false (.one 13 false .done))))) 9 (.one 6 false (.one 10 false (.one 11 false (.one 12 false (.one 13 false .done)))))) 9 (.one 5 false (.one 6 false (.one 10 false (.one 11 false (.one 12 false (.one 13 false .done))))))) 5 (.two 1 (.two 6 (.one 9 false (.one 10 false (.one 11 false (.one 12 false (.one 13 false .done))))) 9 (.one 6 false (.one 10 false (.one 11 false (.one 12 false (.one 13 false .done)))))) 9 (.one 1 false (.one 6 false (.one 10 false (.one 11 false (.one 12 false (.one 13 false .done))))))) 9 (.two 1 (.one 5 false (.one 6 false (.one 10 false (.one 11 false (.one 12 false (.one 13 false .done)))))) 5 (.one 1 false (.one 6 false (.one 10 false (.one 11 false (.one 12 false (.one 13 false .done)))))))))))))) zO (by kernel_rfl) (fun C2 hC2 => ?_)
  have hp2 := zP hC2 hpin
  simp +decide only [hfr, hb1, hb2, hb3, hb4, htk, hsn, zb, za, zD, hp2, hpin, hpin2, go_sem, aD, mU]
 | false =>
 cases h14 : x.kind == 14 with
 | true =>
  have heq2 : R = (xg nm x.name && zZ p f x.kids[0] nm) := by
   have hk := eq_of_beq h14
   rw [heq, hone2 (by rw [hk]; rfl) (by rw [hk]; rfl)]
   unfold xT; rw [hk]; simp [inI]
  simp +decide only [h13, h14, zb, za, zD, hpin, hpin2, go_sem, aD, mU]
  focus
   cases hb : bad || !zZ p f x.kids[0] nm with
   | true =>
    refine Tri.sched ze [(0, true), (1, false), (2, false), (3, false), (4, false), (5, false), (6, true), (7, true), (8, true), (10, true), (11, true), (9, false), (12, false), (13, false), (14, false), (15, false), (16, false), (17, false)] zO (by kernel_rfl) (fun C2 hC2 => ?_)
    have hp2 := zP hC2 hpin
    have hfin : (bad || !R) = true := by rw [heq2]; rw [Bool.or_eq_true] at hb |-; rcases hb with hb | hb; exact Or.inl hb; right; simp only [Bool.not_eq_true'] at hb |-; rw [hb, Bool.and_false]
    simp +decide only [hb, hfin, zb, za, zD, hp2, hpin, hpin2, go_sem, aD, mU]
   | false =>
    refine Tri.sched ze [(0, true), (1, false), (2, false), (3, false), (4, false), (5, false), (6, true), (7, true), (8, true), (10, true), (11, true), (9, false), (12, false), (13, false), (14, false), (15, false), (16, false), (17, false)] zO (by kernel_rfl) (fun C2 hC2 => ?_)
    have hp2 := zP hC2 hpin
    obtain ⟨hb1, hb2⟩ := Bool.or_eq_false_iff.1 hb
    have hfin : (bad || !R) = !xg nm x.name := by
     rw [heq2, hb1, bO]
     simp only [Bool.not_eq_false'] at hb2
     rw [hb2, Bool.and_true]
    simp +decide only [hb, zb, za, zD, hp2, hpin, hpin2, go_sem, aD, mU]
    refine zd hhas hp2 ?_
    simp +decide only [hfin, zb, za, zD, hp2, hpin, hpin2, go_sem, aD, mU]
 | false =>
 cases h15 : x.kind == 15 with
 | true =>
  have heq2 : R = (xg nm x.name && zZ p f x.kids[0] nm) := by
   have hk := eq_of_beq h15
   rw [heq, hone2 (by rw [hk]; rfl) (by rw [hk]; rfl)]
   unfold xT; rw [hk]; simp [inI]
  simp +decide only [h13, h14, h15, zb, za, zD, hpin, hpin2, go_sem, aD, mU]
  focus
   cases hb : bad || !zZ p f x.kids[0] nm with
   | true =>
    refine Tri.sched ze [(0, true), (1, false), (2, false), (3, false), (4, false), (5, false), (6, true), (7, true), (8, true), (10, true), (11, true), (9, false), (12, false), (13, false), (14, false), (15, false), (16, false), (17, false)] zO (by kernel_rfl) (fun C2 hC2 => ?_)
    have hp2 := zP hC2 hpin
    have hfin : (bad || !R) = true := by rw [heq2]; rw [Bool.or_eq_true] at hb |-; rcases hb with hb | hb; exact Or.inl hb; right; simp only [Bool.not_eq_true'] at hb |-; rw [hb, Bool.and_false]
    simp +decide only [hb, hfin, zb, za, zD, hp2, hpin, hpin2, go_sem, aD, mU]
   | false =>
    refine Tri.sched ze [(0, true), (1, false), (2, false), (3, false), (4, false), (5, false), (6, true), (7, true), (8, true), (10, true), (11, true), (9, false), (12, false), (13, false), (14, false), (15, false), (16, false), (17, false)] zO (by kernel_rfl) (fun C2 hC2 => ?_)
    have hp2 := zP hC2 hpin
    obtain ⟨hb1, hb2⟩ := Bool.or_eq_false_iff.1 hb
    have hfin : (bad || !R) = !xg nm x.name := by
     rw [heq2, hb1, bO]
     simp only [Bool.not_eq_false'] at hb2
     rw [hb2, Bool.and_true]
    simp +decide only [hb, zb, za, zD, hp2, hpin, hpin2, go_sem, aD, mU]
    refine zd hhas hp2 ?_
    simp +decide only [hfin, zb, za, zD, hp2, hpin, hpin2, go_sem, aD, mU]
 | false =>
 have hu : xT x.kind = false := by
  unfold xT
  rw [h14, h15]
  have i2 : inI x.kind 2 6 = false := by
   apply Bool.eq_false_iff.2; intro hh
   have := zy hh
   omega
  rw [i2]; rfl
 rw [hu, Bool.not_false, bT, Bool.true_and] at heq
 have hloop : ((x.kind == 16) = true \/ (x.kind == 17) = true) -> ∀ i (hi : i < x.kids.length), 0 < i -> SoundAt Tryz.prog 166 (fun uf => zu 0 [.ro (.bp 2000 0), .ro (.sc (.int .i64 x.kids[i]))]) [(2000, .box (zD p f nm (bad || !(x.kids.take i).all (fun kid => zZ p f kid nm))))]
  (fun rs st => rs = [] /\ xr st.ob [(2000, .box (zD p f (ZN p.nodes nm (nAt p.nodes x.kids[i]).kids) (bad || !(x.kids.take (i + 1)).all (fun kid => zZ p f kid nm))))]) := fun h67 i hi hi0 => by
  have hs := hblk i hi hi0 h67 (bad || !(x.kids.take i).all (fun kid => zZ p f kid nm))
  have hnx : ((bad || !(x.kids.take i).all (fun kid => zZ p f kid nm)) || !zZ p f x.kids[i] nm) = (bad || !(x.kids.take (i + 1)).all (fun kid => zZ p f kid nm)) := by
   rw [zbU hi]
   generalize (x.kids.take i).all (fun kid => zZ p f kid nm) = A
   cases bad <;> cases A <;> rfl
  rw [hnx] at hs
  exact hs
 simp only [zD, cI, cB] at hloop
 cases h16 : x.kind == 16 with
 | true =>
  have h67 : (x.kind == 16) = true \/ (x.kind == 17) = true := by simp [h16]
  simp +decide only [h13, h14, h15, h16, zb, za, zD, hpin, hpin2, go_sem, aD, mU]
  refine Tri.loop (ι := Nat) (fun i => 0 < i /\ i <= x.kids.length) (fun i => ⟨83, [(0, .bp 2000 0), (4, .ip (zg true x) 0), (5, vI i)], [(2000, .box (zD p f nm (bad || !(x.kids.take i).all (fun kid => zZ p f kid nm))))]⟩) (fun i => x.kids.length - i) 1 ⟨by omega, by omega⟩ ?_ ?_
  · refine Ent.weak ?_ ?_ ?_ ?_ <;> simp +decide [ht1, subT, subB, zj, zi, zm, St.get, look, vI, vB, vS, cI, cS, cB, zg, za, zD, roI]
  · rintro i ⟨hi0, hi⟩
    refine zf ze _ ?_
    by_cases h' : i < x.kids.length
    · have e : ((i : Int) < (x.kids.length : Int)) = True := by simp [h']
      have hs := hloop h67 i h' hi0
      simp +decide only [e, h', zw _ _ h', zg, iN, vB, vI, zb, za, zD, hpin, hpin2, go_sem, aD, mU]
      refine yr hs hpin hfull [(2000, 2000)] [] [(2000, 2000)] ⟨rfl, rfl, rfl, rfl⟩ (fun uf => ?_) ?_
      · simp +decide only [zb, za, zD, hpin, hpin2, go_sem, aD, mU]
      simp +decide only [zb, za, zD, hpin, hpin2, go_sem, aD, mU]
      refine ⟨i + 1, ⟨by omega, h'⟩, by omega, Ent.weak ?_ ?_ ?_ ?_⟩
      all_goals simp +decide [subT, subB, zj, zi, zm, St.get, look, vI, vB, vS, cI, cS, cB, zg, za, zD, roI, w64s (n := x.kids.length) h' (by omega)]
    · have hil : i = x.kids.length := by omega
      subst hil
      have e : ((x.kids.length : Int) < (x.kids.length : Int)) = False := by simp
      simp +decide only [e, heq, zg, iN, vB, vI, zb, za, zD, hpin, hpin2, go_sem, aD, mU]
 | false =>
 cases h17 : x.kind == 17 with
 | true =>
  have h67 : (x.kind == 16) = true \/ (x.kind == 17) = true := by simp [h17]
  simp +decide only [h13, h14, h15, h16, h17, zb, za, zD, hpin, hpin2, go_sem, aD, mU]
  refine Tri.loop (ι := Nat) (fun i => 0 < i /\ i <= x.kids.length) (fun i => ⟨83, [(0, .bp 2000 0), (4, .ip (zg true x) 0), (5, vI i)], [(2000, .box (zD p f nm (bad || !(x.kids.take i).all (fun kid => zZ p f kid nm))))]⟩) (fun i => x.kids.length - i) 1 ⟨by omega, by omega⟩ ?_ ?_
  · refine Ent.weak ?_ ?_ ?_ ?_ <;> simp +decide [ht1, subT, subB, zj, zi, zm, St.get, look, vI, vB, vS, cI, cS, cB, zg, za, zD, roI]
  · rintro i ⟨hi0, hi⟩
    refine zf ze _ ?_
    by_cases h' : i < x.kids.length
    · have e : ((i : Int) < (x.kids.length : Int)) = True := by simp [h']
      have hs := hloop h67 i h' hi0
      simp +decide only [e, h', zw _ _ h', zg, iN, vB, vI, zb, za, zD, hpin, hpin2, go_sem, aD, mU]
      refine yr hs hpin hfull [(2000, 2000)] [] [(2000, 2000)] ⟨rfl, rfl, rfl, rfl⟩ (fun uf => ?_) ?_
      · simp +decide only [zb, za, zD, hpin, hpin2, go_sem, aD, mU]
      simp +decide only [zb, za, zD, hpin, hpin2, go_sem, aD, mU]
      refine ⟨i + 1, ⟨by omega, h'⟩, by omega, Ent.weak ?_ ?_ ?_ ?_⟩
      all_goals simp +decide [subT, subB, zj, zi, zm, St.get, look, vI, vB, vS, cI, cS, cB, zg, za, zD, roI, w64s (n := x.kids.length) h' (by omega)]
    · have hil : i = x.kids.length := by omega
      subst hil
      have e : ((x.kids.length : Int) < (x.kids.length : Int)) = False := by simp
      simp +decide only [e, heq, zg, iN, vB, vI, zb, za, zD, hpin, hpin2, go_sem, aD, mU]
 | false =>
 have hfin := hone2 h16 h17
 rw [hfin] at heq
 simp +decide only [h13, h14, h15, h16, h17, heq, zb, za, zD, hpin, hpin2, go_sem, aD, mU]
theorem zop (p : ProgramD) (hD : Deep p.nodes) (f : Nat) (hfl : f < p.fns.length) (hf : p.fns.length <= 1048576) (hn : p.nodes.length <= 1048576) (hk : ∀ x ∈ p.nodes, x.kids.length <= 300) (n : Nat) : n < p.nodes.length -> znK p f n /\ zht p f n := by
 induction n using Nat.strongRecOn with
 | ind n ih =>
 intro hnl
 exact ⟨zpk p hD f hfl hf hn hk n hnl (fun m hm => (ih m hm (by omega)).2), zoO p hD f hk n hnl (fun m hm => (ih m hm (by omega)).1)⟩
def St.nilr (st : St) (o j : Nat) (e : TypeId) : St := match look st.ob o with
 | some (.box cs) => (match cs[j]? with
  | some (.sc (.slice none 0 0)) => st.swap o (.box (cs.set j (.row false e [])))
  | _ => st)
 | _ => st
section
variable {P : Program} {w w1 : World} {C : Cx} {X : Nat -> Prop} {gh gh1 : Gh} {st : St} {a : Act} {v : V} {u : Value} {ob : List (Nat × Ob)} {S : Nat -> Prop} {K : St -> Prop}
theorem Ow.nilr {e : TypeId} {F : Nat -> Prop} (h : Ow P w S (.sc (.slice none 0 0)) u F) : Ow P w S (.row false e []) u F := by
 cases h with
 | sc h =>
  have h1 : Ow P w S (.row false e []) (.slice none 0 0) (fun k => (Value.slice none 0 0).ownBlock = some k \/ ∃ i j d, cellAt ([] : List (List D)) i j = some d /\ (fun _ _ _ => False : Nat -> Nat -> Nat -> Prop) i j k) :=
   Ow.row [] (fun _ _ _ => False) (World.ownsRow_nil w _ e _) (fun l hl => by simp at hl) (fun u hu => by simp at hu) (fun i j d hd => by simp [cellAt] at hd) (fun _ _ _ _ _ _ _ _ _ hh => hh.elim) (fun _ _ _ _ _ hh => hh.elim)
  refine h1.congr (fun k => ?_)
  constructor
  · rintro (hh | ⟨i, j, d, hd, hh⟩)
    · simp [Value.ownBlock] at hh
    · exact hh
  · exact fun hh => hh.elim
theorem Ent.nilr (o j : Nat) (e : TypeId) : Ent P C st (st.nilr o j e) := fun a w gh h => by
 unfold St.nilr
 split
 case h_2 => exact ⟨gh, h⟩
 rename_i cs ho
 split
 case h_2 => exact ⟨gh, h⟩
 rename_i hj
 have hbF : gh.F o (gh.bb o) := by cases h.obs o _ ho with | box xs G hb hl h1 hc hx dis nb hF => exact (hF _).2 (Or.inl rfl)
 refine ⟨_, h.swap (F := gh.F o) ho (by simp [Ob.like]) (Nat.le_refl _) (fun _ _ _ _ _ _ => rfl) (fun _ _ => rfl) (World.keptBut_refl w _) ?_ (fun k hk => Or.inl hk) (fun k hk => ⟨Or.inr hk, h.xF o _ k ho hk⟩) (fun cs' k _ hk he => h.xF o _ k ho hk (he ▸ hbF))⟩
 have hob := h.obs o _ ho
 have g1 : (gh.upd o (gh.hv o) (gh.bb o) (gh.bo o) (gh.F o)).F o = gh.F o := by simp [Gh.upd]
 have g2 : (gh.upd o (gh.hv o) (gh.bb o) (gh.bo o) (gh.F o)).bb o = gh.bb o := by simp [Gh.upd]
 have g3 : (gh.upd o (gh.hv o) (gh.bb o) (gh.bo o) (gh.F o)).bo o = gh.bo o := by simp [Gh.upd]
 cases hob with
 | box xs G hb hl h1 hc hx dis nb hF =>
  have back : ∀ q d, (cs.set j (.row false e []))[q]? = some d -> ∃ d0, cs[q]? = some d0 := fun q d hd => by
   rw [List.getElem?_set] at hd
   split at hd
   · rename_i ejq; subst ejq; exact ⟨_, hj⟩
   · exact ⟨d, hd⟩
  refine ObR.box xs G (by rw [g2]; exact hb) (by rw [List.length_set]; exact hl) h1 (by rw [g2, g3]; exact hc) (fun q d hd => ?_) (fun q q' d d' k hd hd' => ?_) (fun q d k hd hk => ?_) (fun k => ?_)
  · rw [List.getElem?_set] at hd
    split at hd
    · rename_i ejq
      subst ejq
      split at hd
      · cases hd; exact (hx j _ hj).nilr
      · cases hd
    · exact hx q d hd
  · obtain ⟨d0, h0⟩ := back _ _ hd
    obtain ⟨d1, h2⟩ := back _ _ hd'
    exact dis q q' d0 d1 k h0 h2
  · obtain ⟨d0, h0⟩ := back _ _ hd
    rw [g2]; exact nb q d0 k h0 hk
  · rw [g1, g2, hF k]
    constructor
    · rintro (hh | ⟨q, d, hd, hk⟩)
      · exact Or.inl hh
      · right
        by_cases eq : j = q
        · subst eq
          exact ⟨j, .row false e [], by rw [List.getElem?_set_self (List.getElem?_eq_some_iff.1 hd).1], hk⟩
        · exact ⟨q, d, by rw [List.getElem?_set_ne eq]; exact hd, hk⟩
    · rintro (hh | ⟨q, d, hd, hk⟩)
      · exact Or.inl hh
      · obtain ⟨d0, h0⟩ := back _ _ hd
        exact Or.inr ⟨q, d0, h0, hk⟩
end
attribute [go_sem] St.nilr
theorem YY (p : ProgramD) (hf : p.fns.length <= 1048576) (hn : p.nodes.length <= 1048576) (hk : ∀ x ∈ p.nodes, x.kids.length <= 1048576) (hpl : ∀ f ∈ p.fns, f.params.length <= 1048576) : zx Tryz.prog 105 [.ro (zb p)] (fun rs st => rs = [(false, [cB (yv p)])]) := by
 have hps := zfj p hf hn hk hpl
 have hvs := fun fn => zdp p fn hf hn hk hpl
 have hvl := fun fn => Zb p fn hpl hn
 simp only [zb] at hps hvs
 unfold yv
 refine zp (fn := Tryz.f105) (c := Tryz.f105.body.getD .skip) (res := [.tm 2]) (n := 97) ze (by kernel_rfl) (by rfl) (by kernel_rfl) (by rfl) (by rfl) (by simp [zu]) (fun uf ub C hpin hpin2 hfull => ?_)
 simp only [Tryz.f105, oD]
 refine Tri.step ze ?_
 simp +decide only [zb, za, zD, hpin, go_sem, aD, mU]
 refine Tri.ent ?_ (Ent.frb hfull 1)
 refine Tri.step ze ?_
 simp +decide only [zb, za, zD, hpin, go_sem, aD, mU]
 refine zd hps hpin ?_
 cases h0 : Zz p with
 | false => simp +decide only [zb, za, zD, hpin, go_sem, aD, mU]
 | true =>
 have hG := yh h0
 simp +decide only [zb, za, zD, hpin, go_sem, aD, mU]
 refine Tri.step ze ?_
 simp +decide only [zb, za, zD, hpin, go_sem, aD, mU]
 refine Tri.loop (ι := Nat) (fun i => i <= p.fns.length /\ zL (xM p) i = true) (fun i => ⟨97, [(1, .ip (za true p) 0), (2, vB false), (3, vI i)], []⟩) (fun i => p.fns.length - i) 0 ⟨by simp, rfl⟩ ?_ ?_
 · refine Ent.weak ?_ ?_ ?_ ?_ <;> simp +decide [subT, subB, zj, zi, zm, St.get, look, vI, vB, vS, cI, cS, cB, zg, za, zD, roI]
 · rintro i ⟨hi, hq⟩
   refine zf ze _ ?_
   by_cases h' : i < p.fns.length
   · have e : ((i : Int) < (p.fns.length : Int)) = True := by simp [h']
     have hx : (rows (fnC true) p.fns).getD i [] = fnC true p.fns[i] := zk _ _ h'
     have hok := hG.fn i h'
     have hfe : xM p i = (zeh p i && (zZ p i p.fns[i].body (parN p.fns[i].params) && (decide (p.fns[i].ret < 0) || zZ p i p.fns[i].ret (ZN p.nodes (parN p.fns[i].params) (nAt p.nodes p.fns[i].body).kids)))) := by unfold xM; rw [yS h']
     have hplx := hpl p.fns[i] (lM h')
     have hp3 := zeF hok
     obtain ⟨⟨b0, b1⟩, hret⟩ := ZY hok
     have hbk : (nAt p.nodes p.fns[i].body).kind == 20 := by
      simp only [XV, Bool.and_eq_true, zcm] at hok
      exact hok.2.2.2.2.1.2
     have hrk : ¬ p.fns[i].ret < 0 -> xV (nAt p.nodes p.fns[i].ret).kind = true := fun hnr => by
      simp only [XV, Bool.and_eq_true] at hok
      have hr := hok.2.2.2.2.2
      unfold ziG at hr
      split at hr
      · have := eq_of_beq hr; omega
      · exact (Bool.and_eq_true_iff.1 hr).2
     generalize p.fns[i] = g at hx hok hfe hplx hp3 b0 b1 hret hbk hrk
     have hvs1 := hvs i
     have hvl1 := hvl i
     unfold zeh at hfe
     simp +decide only [e, iN, za, vB, vI, zb, za, zD, hpin, go_sem, aD, mU]
     refine zd hvs1 hpin ?_
     generalize YL p i = l at hvl1 hfe |-
     have hva := fun s => zcv l s (by omega)
     have htl := ym (varC false) l
     have htl2 := ym (varC true) l
     simp +decide only [zb, za, zD, hpin, go_sem, aD, mU]
     refine Tri.loop (ι := Nat) (fun j => j <= l.length /\ zL (zgE l) j = true) (fun j => ⟨97, [(1, .ip (za true p) 0), (2, vB false), (3, vI i), (4, .ref 4 [] l.length), (5, vI j)], [(4, .row 96 (rows (varC false) l))]⟩) (fun j => l.length - j) 0 ⟨by simp, rfl⟩ ?_ ?_
     · refine Ent.weak ?_ ?_ ?_ ?_ <;> simp +decide [subT, subB, zj, zi, zm, St.get, look, vI, vB, vS, cI, cS, cB, zg, za, zD, roI]
     · rintro j ⟨hj, hq2⟩
       refine zf ze _ ?_
       by_cases hj' : j < l.length
       · have e2 : ((j : Int) < (l.length : Int)) = True := by simp [hj']
         have hov : zgE l j = (Zj l l[j].name == (j : Int)) := by simp [zgE, List.getD, hj']
         simp +decide only [e2, hj', Zl _ _ hj', zk _ _ hj', varC, htl, htl2, iN, vB, vI, zb, za, zD, hpin, go_sem, aD, mU]
         refine zd (hva l[j].name) hpin ?_
         cases hz : Zj l l[j].name == (j : Int) with
         | false =>
          have hff : zL (zgE l) l.length = false := zB hj' (by rw [hov, hz])
          rw [hff, Bool.false_and] at hfe
          have hff2 : zL (xM p) p.fns.length = false := zB h' hfe
          simp +decide only [hz, hff2, bne, htl, htl2, zb, za, zD, hpin, go_sem, aD, mU]
         | true =>
          simp +decide only [hz, bne, htl, htl2, zb, za, zD, hpin, go_sem, aD, mU]
          refine ⟨j + 1, ⟨hj', by rw [zQ, hq2, hov, hz]; rfl⟩, by omega, Ent.weak ?_ ?_ ?_ ?_⟩
          all_goals simp +decide [subT, subB, zj, zi, zm, St.get, look, vI, vB, vS, cI, cS, cB, zg, za, zD, roI, w64s (n := l.length) hj' (by omega)]
       · have hjl : j = l.length := by omega
         subst hjl
         have e2 : ((l.length : Int) < (l.length : Int)) = False := by simp
         rw [hq2, Bool.true_and] at hfe
         simp +decide only [e2, vB, vI, zb, za, zD, hpin, go_sem, aD, mU]
         refine Tri.ent ?_ (Ent.nilr 39 3 9)
         simp +decide only [zb, za, zD, hpin, go_sem, aD, mU]
         refine Tri.last (fun s => St.shb s 39) (fun s => Ent.shb hfull 39) ?_
         refine Tri.loop (ι := Nat) (fun j => j <= g.params.length) (fun j => ⟨97, [(1, .ip (za true p) 0), (2, vB false), (3, vI i), (6, .bp 39 0), (7, vI j)], [(39, .box [.row true 83 (rows (zg true) p.nodes), .row true 104 (rows (fnC true) p.fns), cI i, .row false 9 (row1 cS (parN (g.params.take j))), cB false])]⟩) (fun j => g.params.length - j) 0 (by simp) ?_ ?_
         · refine Ent.weak ?_ ?_ ?_ ?_ <;> simp +decide [subT, subB, zj, zi, zm, St.get, look, vI, vB, vS, cI, cS, cB, zg, za, zD, roI, parN, row1]
         · rintro j hj
           refine zf ze _ ?_
           by_cases hj' : j < g.params.length
           · have e3 : ((j : Int) < (g.params.length : Int)) = True := by simp [hj']
             have hy : (rows (zn true) g.params).getD j [] = zn true g.params[j] := zk _ _ hj'
             have hsn := zig hj'
             have hll : (parN (g.params.take j)).length <= 3 := by rw [xA, List.length_take]; omega
             have hl2 : (parN (g.params.take (j + 1))).length = (parN (g.params.take j)).length + 1 := by rw [xA, xA, List.length_take, List.length_take]; omega
             have htk := yj cS (parN (g.params.take j))
             have hb1 : (parN (g.params.take j)).length + 1 <= 140737488355328 := by omega
             have hb2 : ((parN (g.params.take j)).length + 1) * 16 <= 140737488355328 := by omega
             simp only [cS] at hsn
             simp +decide only [e, e3, hx, fnC, iN, vB, vI, zb, za, zD, hpin, go_sem, aD, mU]
             refine Tri.fork ze (.one 0 true (.one 1 true (.one 2 true (.one 3 true (.one 5 true (.one 7 true (.one 11 true (.one 6 true (.one 8 true (.one 9 true (.one 10 true (.one 12 true (.one 13 true (.one 14 true (.two 4 (.one 15 false (.one 16 false (.one 17 false (.one 18 false (.one 19 false .done))))) 15 (.one 4 false (.one 16 false (.one 17 false (.one 18 false (.one 19 false .done)))))))))))))))))))) zO (by kernel_rfl) (fun C2 hC2 => ?_)
             have hp2 := zP hC2 hpin
             simp +decide only [e, e3, hx, hy, zn, fnC, htk, hsn, hb1, hb2, hl2, iN, vB, vI, zb, za, zD, hp2, hpin, go_sem, aD, mU]
             refine ⟨?_, ?_⟩ <;> refine ⟨j + 1, hj', by omega, Ent.weak ?_ ?_ ?_ ?_⟩
             all_goals simp +decide [subT, subB, zj, zi, zm, St.get, look, vI, vB, vS, cI, cS, cB, zg, za, zD, roI, hl2, w64s (n := g.params.length) hj' (by omega)]
           · have hjl : j = g.params.length := by omega
             subst hjl
             have e3 : ((g.params.length : Int) < (g.params.length : Int)) = False := by simp
             have hnl : (parN g.params).length <= 3 := by rw [xA]; omega
             obtain ⟨b, hbb⟩ : ∃ b : Nat, g.body = b := ⟨g.body.toNat, by omega⟩
             have hbl : b < p.nodes.length := by omega
             have hk3 : ∀ x ∈ p.nodes, x.kids.length <= 300 := fun x hx => by have := hG.deep.few x hx; omega
             have hkf := hG.deep.few p.nodes[b] (lM hbl)
             have hfew := hG.few
             have hblk := (zop p hG.deep i h' hf hn hk3 b hbl).2
             unfold zht at hblk
             rw [hbb] at hbk hfe
             have hgl := YB p.nodes (nAt p.nodes b).kids (parN g.params)
             rw [zR hbl] at hgl
             have hs1 := hblk hbk (parN g.params) false (by omega)
             rw [zR hbl] at hs1 hfe
             generalize hnm : parN g.params = nm0 at hnl hfe hgl hs1 |-
             generalize ZN p.nodes nm0 p.nodes[b].kids = L at hfe hgl hs1
             have hvs := fun r hr hv => zds p hG.deep i h' hf hn hk3 L (by omega) r hr hv (false || !zZ p i b nm0)
             generalize zZ p i b nm0 = B1 at hfe hs1 hvs
             simp only [zD, cI, cB, bO] at hs1 hvs
             simp +decide only [e, e3, hx, fnC, hbb, hnm, iN, vB, vI, zb, za, zD, hpin, go_sem, aD, mU]
             refine yr hs1 hpin hfull [(2000, 39)] [] [(2000, 39)] ⟨rfl, rfl, rfl, rfl⟩ (fun uf => ?_) ?_
             · simp +decide only [zb, za, zD, hpin, go_sem, aD, mU]
             rcases hret with hneg | ⟨x0, x1⟩
             · have y0 : (0 <= g.ret) = False := eq_false (by omega)
               have y1 : decide (g.ret < 0) = true := decide_eq_true hneg
               rw [y1, bT, Bool.and_true] at hfe
               simp +decide only [e, hx, fnC, y0, iN, zb, za, zD, hpin, go_sem, aD, mU]
               cases B1 with
               | false =>
                have hff : zL (xM p) p.fns.length = false := zB h' hfe
                simp +decide only [hff, zb, za, zD, hpin, go_sem, aD, mU]
               | true =>
                simp +decide only [zb, za, zD, hpin, go_sem, aD, mU]
                refine ⟨i + 1, ⟨h', by rw [zQ, hq, hfe]; rfl⟩, by omega, Ent.weak ?_ ?_ ?_ ?_⟩
                all_goals simp +decide [subT, subB, zj, zi, zm, St.get, look, vI, vB, vS, cI, cS, cB, zg, za, zD, roI, w64s (n := p.fns.length) h' (by omega)]
             · have y0 : (0 <= g.ret) = True := eq_true x0
               have y1 : decide (g.ret < 0) = false := decide_eq_false (by omega)
               rw [y1, bO] at hfe
               obtain ⟨r, hrr⟩ : ∃ r : Nat, g.ret = r := ⟨g.ret.toNat, by omega⟩
               have hrl : r < p.nodes.length := by omega
               have hrk2 := hrk (by omega)
               rw [hrr] at hfe hrk2
               have hs2 := hvs r hrl hrk2
               generalize zZ p i r L = B2 at hfe hs2
               simp +decide only [e, hx, fnC, y0, hrr, iN, zb, za, zD, hpin, go_sem, aD, mU]
               refine yr hs2 hpin hfull [(2000, 39)] [] [(2000, 39)] ⟨rfl, rfl, rfl, rfl⟩ (fun uf => ?_) ?_
               · simp +decide only [zb, za, zD, hpin, go_sem, aD, mU]
               have hB : (!B1 || !B2) = !(B1 && B2) := by cases B1 <;> cases B2 <;> rfl
               rw [hB]
               generalize (B1 && B2) = B3 at hfe |-
               cases B3 with
               | false =>
                have hff : zL (xM p) p.fns.length = false := zB h' hfe
                simp +decide only [hff, zb, za, zD, hpin, go_sem, aD, mU]
               | true =>
                simp +decide only [zb, za, zD, hpin, go_sem, aD, mU]
                refine ⟨i + 1, ⟨h', by rw [zQ, hq, hfe]; rfl⟩, by omega, Ent.weak ?_ ?_ ?_ ?_⟩
                all_goals simp +decide [subT, subB, zj, zi, zm, St.get, look, vI, vB, vS, cI, cS, cB, zg, za, zD, roI, w64s (n := p.fns.length) h' (by omega)]
   · have hil : i = p.fns.length := by omega
     subst hil
     have e : ((p.fns.length : Int) < (p.fns.length : Int)) = False := by simp
     simp +decide only [e, vB, vI, zb, za, zD, hpin, go_sem, aD, mU]
     refine zf ze _ ?_
     simp +decide only [hq, zb, za, zD, hpin, go_sem, aD, mU]
theorem zfi {p : ProgramD} (h : zF p <= 1048576) : ∀ f ∈ p.fns, f.params.length <= 1048576 := by
 unfold zF at h
 intro f hf
 obtain ⟨i, hi, rfl⟩ := List.getElem_of_mem hf
 have h1 := Zy ya hi
 have h3 : p.fns[i].params.length <= ya p.fns[i] := by unfold ya; omega
 omega
def vAt (l : List VarD) (j : Int) : VarD := l.getD j.toNat vr0
def yZ (l : List VarD) (s : ByteArray) : Int := if Zj l s < 0 then 0 else (vAt l (Zj l s)).ty
def ziE (t : Int) : Bool := t == 2 || (t == 3 || t == 4)
def prTy (ps : List ParamD) (i : Nat) : Int := (ps.map (fun x => x.ty)).getD i 0
def Xh (T : Int -> Int) (p : ProgramD) (x : NodeD) : Bool :=
 decide (0 <= xd p.fns x.name) && (((fAt p.fns (xd p.fns x.name)).params.length : Int) == (x.kids.length : Int) && zL (fun i => T (x.kids.getD i 0) == prTy (fAt p.fns (xd p.fns x.name)).params i) x.kids.length)
def zjk (T : Int -> Int) (p : ProgramD) (l : List VarD) (x : NodeD) : Int :=
 if x.kind == 1 || x.kind == 7 then 1
 else if x.kind == 2 then yZ l x.name
 else if x.kind == 3 then (if ziE (yZ l x.name) then 1 else 0)
 else if x.kind == 4 then (if ziE (yZ l x.name) then 2 else 0)
 else if x.kind == 5 then (if yZ l x.name == 2 then 3 else 0)
 else if x.kind == 6 then (if yZ l x.name == 2 then 4 else 0)
 else if x.kind == 8 then (if T (x.kids.getD 0 0) == 1 then 2 else 0)
 else if x.kind == 9 || (x.kind == 10 || x.kind == 11) then (if T (x.kids.getD 0 0) == 1 && T (x.kids.getD 1 0) == 1 then 1 else 0)
 else if x.kind == 12 then (if Xh T p x then (fAt p.fns (xd p.fns x.name)).res else 0)
 else 0
def zmo (p : ProgramD) (l : List VarD) : Nat -> Int -> Int
 | 0, _ => 0
 | d + 1, k => zjk (zmo p l d) p l (nAt p.nodes k)
def yn (p : ProgramD) (l : List VarD) (k : Int) : Int := zmo p l (k.toNat + 1) k
theorem zhW {f g : Nat -> Bool} {n : Nat} (h : ∀ i, i < n -> f i = g i) : zL f n = zL g n := by
 rw [Bool.eq_iff_iff, xy, xy]
 exact ⟨fun hh i hi => by rw [<- h i hi]; exact hh i hi, fun hh i hi => by rw [h i hi]; exact hh i hi⟩
theorem ziV {T U : Int -> Int} (p : ProgramD) (x : NodeD) (h : ∀ kid ∈ x.kids, T kid = U kid) : Xh T p x = Xh U p x := by
 unfold Xh
 congr 2
 apply zhW
 intro i hi
 have hg : x.kids.getD i 0 = x.kids[i] := by simp [List.getD, hi]
 rw [hg, h x.kids[i] (lM hi)]
theorem zdw {T U : Int -> Int} (p : ProgramD) (l : List VarD) (x : NodeD) (hs : inI x.kids.length (zJ x.kind).1 (zJ x.kind).2 = true) (h : ∀ kid ∈ x.kids, T kid = U kid) : zjk T p l x = zjk U p l x := by
 have hsr := zy hs
 have get : ∀ i, i < x.kids.length -> T (x.kids.getD i 0) = U (x.kids.getD i 0) := fun i hi => by
  have hg : x.kids.getD i 0 = x.kids[i] := by simp [List.getD, hi]
  rw [hg, h x.kids[i] (lM hi)]
 unfold zjk
 rw [ziV p x h]
 by_cases h8 : x.kind = 8
 · rw [h8] at hsr
   have h0 : 0 < x.kids.length := by have := hsr.1; simp [zJ] at this; omega
   rw [get 0 h0]
   simp [h8]
 · by_cases h9 : x.kind = 9 \/ x.kind = 10 \/ x.kind = 11
   · have h0 : 1 < x.kids.length := by
      rcases h9 with h9 | h9 | h9 <;> rw [h9] at hsr <;> have := hsr.1 <;> simp [zJ] at this <;> omega
     rw [get 0 (by omega), get 1 h0]
   · have e8 : (x.kind == 8) = false := by simpa using h8
     have e9 : (x.kind == 9 || (x.kind == 10 || x.kind == 11)) = false := by
      simp only [Bool.or_eq_false_iff, beq_eq_false_iff_ne]
      exact ⟨fun e => h9 (Or.inl e), fun e => h9 (Or.inr (Or.inl e)), fun e => h9 (Or.inr (Or.inr e))⟩
     rw [e8, e9]
     rfl
theorem zln {p : ProgramD} (hD : Deep p.nodes) (l : List VarD) : ∀ (d n : Nat), n < p.nodes.length -> n < d -> zmo p l d n = yn p l n := by
 intro d
 induction d using Nat.strongRecOn with
 | ind d ih =>
 intro n hn hd
 obtain ⟨e, rfl⟩ : ∃ e, d = e + 1 := ⟨d - 1, by omega⟩
 unfold yn
 have e2 : ((n : Int).toNat + 1) = n + 1 := by omega
 rw [e2]
 unfold zmo
 rw [zR hn]
 apply zdw p l _ (xJ (hD.deep n hn) hn)
 intro kid hk
 obtain ⟨q0, q1, q2⟩ := hD.kid hn kid hk
 obtain ⟨m, rfl⟩ : ∃ m : Nat, kid = m := ⟨kid.toNat, by omega⟩
 have h1 := ih e (by omega) m (by omega) (by omega)
 by_cases hne : n = e
 · subst hne; rfl
 · have h2 := ih n (by omega) m (by omega) (by omega)
   rw [h1, h2]
theorem zks {p : ProgramD} (hD : Deep p.nodes) (l : List VarD) {n : Nat} (hn : n < p.nodes.length) : yn p l n = zjk (yn p l) p l p.nodes[n] := by
 have e2 : ((n : Int).toNat + 1) = n + 1 := by omega
 unfold yn
 rw [e2]
 conv => lhs; unfold zmo
 rw [zR hn]
 apply zdw p l _ (xJ (hD.deep n hn) hn)
 intro kid hk
 obtain ⟨q0, q1, q2⟩ := hD.kid hn kid hk
 obtain ⟨m, rfl⟩ : ∃ m : Nat, kid = m := ⟨kid.toNat, by omega⟩
 exact zln hD l n m (by omega) (by omega)
theorem ZD (l : List VarD) (s : ByteArray) (hl : l.length <= 4194304) : zx Tryz.prog 102 [.ro (.imm 96 (rows (varC true) l)), .ro (.sc (.string s))] (fun rs st => rs = [(false, [cI (yZ l s)])]) := by
 refine zp (fn := Tryz.f102) (c := Tryz.f102.body.getD .skip) (res := [.tm 4]) (n := 16) ze (by kernel_rfl) (by rfl) (by kernel_rfl) (by rfl) (by rfl) (by simp [zu]) (fun uf ub C hpin hpin2 hfull => ?_)
 simp only [Tryz.f102, oD]
 have hva := zcw l s hl
 have hrg := zbh s l 0
 have hfe : Zj l s = zcS s l 0 := rfl
 rw [<- hfe] at hrg
 unfold yZ
 refine Tri.step ze ?_
 simp +decide only [zb, za, hpin, go_sem, aD, mU]
 refine Tri.step ze ?_
 simp +decide only [zb, za, hpin, go_sem, aD, mU]
 refine zd hva hpin ?_
 generalize Zj l s = at_ at hrg |-
 simp +decide only [zb, za, hpin, go_sem, aD, mU]
 refine Tri.step ze ?_
 by_cases ha : at_ < 0
 · have c1 : (at_ < 0) = True := eq_true ha
   simp +decide only [c1, zb, za, hpin, go_sem, aD, mU]
 · have c1 : (at_ < 0) = False := eq_false ha
   obtain ⟨m, rfl⟩ : ∃ m : Nat, at_ = m := ⟨at_.toNat, by omega⟩
   have hml : m < l.length := by rcases hrg with h | h <;> omega
   have c2 : ((m : Int) < (l.length : Int)) = True := eq_true (by omega)
   have hv : vAt l (m : Int) = l[m] := by simp [vAt, List.getD, hml]
   simp +decide only [c1, zb, za, hpin, go_sem, aD, mU]
   refine zf ze _ ?_
   simp +decide only [c2, hv, zk _ _ hml, varC, iN, zb, za, hpin, go_sem, aD, mU]
theorem ZC (l : List VarD) (s : ByteArray) (hl : l.length <= 4194304) : zx Tryz.prog 97 [.ro (.imm 96 (rows (varC true) l)), .ro (.sc (.string s))] (fun rs st => rs = [(false, [cI (yZ l s)])]) := by
 refine zp (fn := Tryz.f97) (c := Tryz.f97.body.getD .skip) (res := [.tm 4]) (n := 16) ze (by kernel_rfl) (by rfl) (by kernel_rfl) (by rfl) (by rfl) (by simp [zu]) (fun uf ub C hpin hpin2 hfull => ?_)
 simp only [Tryz.f97, oD]
 have hva := zcv l s hl
 have hrg := zbh s l 0
 have hfe : Zj l s = zcS s l 0 := rfl
 rw [<- hfe] at hrg
 unfold yZ
 refine Tri.step ze ?_
 simp +decide only [zb, za, hpin, go_sem, aD, mU]
 refine Tri.step ze ?_
 simp +decide only [zb, za, hpin, go_sem, aD, mU]
 refine zd hva hpin ?_
 generalize Zj l s = at_ at hrg |-
 simp +decide only [zb, za, hpin, go_sem, aD, mU]
 refine Tri.step ze ?_
 by_cases ha : at_ < 0
 · have c1 : (at_ < 0) = True := eq_true ha
   simp +decide only [c1, zb, za, hpin, go_sem, aD, mU]
 · have c1 : (at_ < 0) = False := eq_false ha
   obtain ⟨m, rfl⟩ : ∃ m : Nat, at_ = m := ⟨at_.toNat, by omega⟩
   have hml : m < l.length := by rcases hrg with h | h <;> omega
   have c2 : ((m : Int) < (l.length : Int)) = True := eq_true (by omega)
   have hv : vAt l (m : Int) = l[m] := by simp [vAt, List.getD, hml]
   simp +decide only [c1, zb, za, hpin, go_sem, aD, mU]
   refine zf ze _ ?_
   simp +decide only [c2, hv, zk _ _ hml, varC, iN, zb, za, hpin, go_sem, aD, mU]
theorem zkB {ps : List ParamD} {i : Nat} (h : i < ps.length) : prTy ps i = ps[i].ty := by simp [prTy, List.getD, h]
theorem zbR (p : ProgramD) (l : List VarD) (hl : l.length <= 4194304) (hf : p.fns.length <= 1048576) (hn : p.nodes.length <= 1048576) (hk : ∀ x ∈ p.nodes, x.kids.length <= 300) (n : Nat) (hnl : n < p.nodes.length)
 (ih : ∀ kid ∈ p.nodes[n].kids, zx Tryz.prog 119 [.ro (zb p), .ro (.imm 96 (rows (varC true) l)), .ro (.sc (.int .i64 kid))] (fun rs st => rs = [(false, [cI (yn p l kid)])])) :
 zx Tryz.prog 178 [.ro (zb p), .ro (.imm 96 (rows (varC true) l)), .ro (.sc (.int .i64 n))] (fun rs st => rs = [(false, [cB (Xh (yn p l) p p.nodes[n])])]) := by
 have hkx := hk p.nodes[n] (lM hnl)
 have hx : (rows (zg true) p.nodes).getD n [] = zg true p.nodes[n] := zk _ _ hnl
 have hc1 : ((n : Int) < (p.nodes.length : Int)) = True := eq_true (by omega)
 generalize p.nodes[n] = x at hkx hx ih
 have hfa := Ym p x.name hf
 have hrg := Yo x.name p.fns 0
 have hfe : xd p.fns x.name = zbJ x.name p.fns 0 := rfl
 rw [<- hfe] at hrg
 simp only [zb] at hfa ih
 unfold Xh
 refine zp (fn := Tryz.f178) (c := Tryz.f178.body.getD .skip) (res := [.tm 6]) (n := 59) ze (by kernel_rfl) (by rfl) (by kernel_rfl) (by rfl) (by rfl) (by simp [zu]) (fun uf ub C hpin hpin2 hfull => ?_)
 simp only [Tryz.f178, oD]
 refine Tri.step ze ?_
 simp +decide only [zb, za, hpin, go_sem, aD, mU]
 refine Tri.ent ?_ (Ent.frb hfull 3)
 refine Tri.step ze ?_
 simp +decide only [hc1, hx, zg, iN, zb, za, hpin, go_sem, aD, mU]
 refine Tri.ent ?_ (Ent.frb hfull 7)
 refine Tri.step ze ?_
 simp +decide only [zb, za, hpin, go_sem, aD, mU]
 refine zd hfa hpin ?_
 generalize xd p.fns x.name = at_ at hrg |-
 simp +decide only [zb, za, hpin, go_sem, aD, mU]
 refine Tri.step ze ?_
 refine zf ze _ ?_
 simp +decide only [zb, za, hpin, go_sem, aD, mU]
 refine Tri.sched ze [(0, false), (1, false), (2, false), (3, true), (5, true), (10, true), (4, true), (6, true), (7, true), (8, true), (9, true), (11, false), (12, false), (13, false), (14, false)] zO (by kernel_rfl) (fun C2 hC2 => ?_)
 have hp2 := zP hC2 hpin
 by_cases ha : at_ < 0
 · have c1 : (at_ < 0) = True := eq_true ha
   have c2 : decide (0 <= at_) = false := decide_eq_false (by omega)
   rcases zeD p.fns at_.toNat with ⟨y, hy⟩ | hy
   · simp +decide only [c1, c2, hy, fnC, zg, zb, za, hp2, hpin, go_sem, aD, mU]
   · simp +decide only [c1, c2, hy, zg, zb, za, hp2, hpin, go_sem, aD, mU]
 have c1 : (at_ < 0) = False := eq_false ha
 have c2 : decide (0 <= at_) = true := decide_eq_true (by omega)
 obtain ⟨m, rfl⟩ : ∃ m : Nat, at_ = m := ⟨at_.toNat, by omega⟩
 have hml : m < p.fns.length := by rcases hrg with h | h <;> omega
 have hy : (rows (fnC true) p.fns).getD m [] = fnC true p.fns[m] := zk _ _ hml
 have hc2 : ((m : Int) < (p.fns.length : Int)) = True := eq_true (by omega)
 rw [yS hml]
 generalize p.fns[m] = y at hy
 cases hlen : (y.params.length : Int) == (x.kids.length : Int) with
 | false =>
  simp +decide only [c1, c2, hy, hc2, hlen, fnC, zg, bne, iN, zb, za, hp2, hpin, go_sem, aD, mU]
 | true =>
 have hle := eq_of_beq hlen
 simp +decide only [c1, c2, hy, hc2, hlen, fnC, zg, bne, iN, zb, za, hp2, hpin, go_sem, aD, mU]
 refine Tri.step ze ?_
 simp +decide only [zg, zb, za, hpin, go_sem, aD, mU]
 refine Tri.loop (ι := Nat) (fun i => i <= x.kids.length /\ zL (fun i => yn p l (x.kids.getD i 0) == prTy y.params i) i = true) (fun i => ⟨59, [(1, .imm 96 (rows (varC true) l)), (3, .ip (za true p) 0), (6, vB false), (7, .ip (zg true x) 0), (8, vI m), (36, roI x.kids), (37, vI x.kids.length), (38, vI i)], []⟩) (fun i => x.kids.length - i) 0 ⟨by simp, rfl⟩ ?_ ?_
 · refine Ent.weak ?_ ?_ ?_ ?_ <;> simp +decide [subT, subB, zj, zi, zm, St.get, look, vI, vB, vS, cI, cS, cB, zg, za, roI]
 · rintro i ⟨hi, hq⟩
   refine zf ze _ ?_
   by_cases h' : i < x.kids.length
   · have e : ((i : Int) < (x.kids.length : Int)) = True := by simp [h']
     have hip : i < y.params.length := by omega
     have e2 : ((i : Int) < (y.params.length : Int)) = True := eq_true (by omega)
     have hg : x.kids.getD i 0 = x.kids[i] := by simp [List.getD, h']
     have hpt := zkB hip
     have hz : (rows (zn true) y.params).getD i [] = zn true y.params[i] := zk _ _ hip
     have hih := ih x.kids[i] (lM h')
     simp +decide only [e, h', zw _ _ h', iN, zg, za, vB, vI, zb, za, hpin, go_sem, aD, mU]
     refine Tri.sched ze [(1, true), (2, true), (4, true), (6, true), (10, true), (0, true), (5, true), (7, true), (8, true), (9, true), (11, true), (12, true), (13, true), (3, false), (14, false)] zO (by kernel_rfl) (fun C3 hC3 => ?_)
     have hp3 := zP hC3 hpin
     simp +decide only [e2, hy, hc2, hz, fnC, zn, iN, zb, za, hp3, go_sem, aD, mU]
     refine zd hih hp3 ?_
     cases hc : yn p l x.kids[i] == y.params[i].ty with
     | false =>
      have hff : zL (fun i => yn p l (x.kids.getD i 0) == prTy y.params i) x.kids.length = false := zB h' (by simp only [hg, hpt, hc])
      simp +decide only [hc, hff, bne, zb, za, hp3, hpin, go_sem, aD, mU]
     | true =>
      simp +decide only [hc, bne, zb, za, hp3, hpin, go_sem, aD, mU]
      refine ⟨i + 1, ⟨h', by rw [zQ, hq, hg, hpt, hc]; rfl⟩, by omega, Ent.weak ?_ ?_ ?_ ?_⟩
      all_goals simp +decide [subT, subB, zj, zi, zm, St.get, look, vI, vB, vS, cI, cS, cB, zg, za, roI, w64s (n := x.kids.length) h' (by omega)]
   · have hil : i = x.kids.length := by omega
     subst hil
     have e : ((x.kids.length : Int) < (x.kids.length : Int)) = False := by simp
     simp +decide only [e, vB, vI, zb, za, hpin, go_sem, aD, mU]
     refine zf ze _ ?_
     simp +decide only [hq, zb, za, hpin, go_sem, aD, mU]
theorem Xm (p : ProgramD) (hD : Deep p.nodes) (l : List VarD) (hl : l.length <= 4194304) (hf : p.fns.length <= 1048576) (hn : p.nodes.length <= 1048576) (hk : ∀ x ∈ p.nodes, x.kids.length <= 300) (n : Nat) : n < p.nodes.length ->
 zx Tryz.prog 119 [.ro (zb p), .ro (.imm 96 (rows (varC true) l)), .ro (.sc (.int .i64 n))] (fun rs st => rs = [(false, [cI (yn p l n)])]) := by
 induction n using Nat.strongRecOn with
 | ind n ih =>
 intro hnl
 have hkid := hD.kid hnl
 have hkx := hk p.nodes[n] (lM hnl)
 have hsh := zy (xJ (hD.deep n hnl) hnl)
 have hrec : ∀ kid ∈ p.nodes[n].kids, zx Tryz.prog 119 [.ro (zb p), .ro (.imm 96 (rows (varC true) l)), .ro (.sc (.int .i64 kid))] (fun rs st => rs = [(false, [cI (yn p l kid)])]) := fun kid hkk => by
  obtain ⟨q0, q1, q2⟩ := hkid kid hkk
  have e : kid = (kid.toNat : Int) := by omega
  have := ih kid.toNat q2 (by omega)
  rw [<- e] at this
  exact this
 have hcr := zbR p l hl hf hn hk n hnl hrec
 have heq := zks hD l hnl
 have hx : (rows (zg true) p.nodes).getD n [] = zg true p.nodes[n] := zk _ _ hnl
 have hc1 : ((n : Int) < (p.nodes.length : Int)) = True := eq_true (by omega)
 generalize yn p l n = R at heq |-
 generalize p.nodes[n] = x at hkid hkx hsh hrec hcr heq hx
 have hvt := ZD l x.name hl
 have hfa := Ym p x.name hf
 simp only [zb] at hfa hrec hcr
 have hrg := Yo x.name p.fns 0
 have hfe : xd p.fns x.name = zbJ x.name p.fns 0 := rfl
 rw [<- hfe] at hrg
 unfold zjk at heq
 generalize yZ l x.name = tv at heq hvt
 refine zp (fn := Tryz.f119) (c := Tryz.f119.body.getD .skip) (res := [.tm 6]) (n := 105) ze (by kernel_rfl) (by rfl) (by kernel_rfl) (by rfl) (by rfl) (by simp [zu]) (fun uf ub C hpin hpin2 hfull => ?_)
 simp only [Tryz.f119, oD]
 refine Tri.step ze ?_
 simp +decide only [zb, za, hpin, go_sem, aD, mU]
 refine Tri.ent ?_ (Ent.frb hfull 3)
 refine Tri.step ze ?_
 simp +decide only [hc1, hx, zg, iN, zb, za, hpin, go_sem, aD, mU]
 refine Tri.ent ?_ (Ent.frb hfull 7)
 refine Tri.step ze ?_
 simp +decide only [zb, za, hpin, go_sem, aD, mU]
 refine zd hvt hpin ?_
 simp +decide only [zb, za, hpin, go_sem, aD, mU]
 refine Tri.step ze ?_
 cases h1 : x.kind == 1 with
 | true =>
  have ek := eq_of_beq h1
  rw [ek] at heq
  simp +decide only [Bool.or_true, bT, bP, bO, if_true, if_false, Int.reduceBEq, bF] at heq
  simp +decide only [h1, heq, zg, zb, za, hpin, go_sem, aD, mU]
 | false =>
 cases h7 : x.kind == 7 with
 | true =>
  have ek := eq_of_beq h7
  rw [ek] at heq
  simp +decide only [Bool.or_true, bT, bP, bO, if_true, if_false, Int.reduceBEq, bF] at heq
  simp +decide only [h1, h7, heq, zg, zb, za, hpin, go_sem, aD, mU]
 | false =>
 cases h2 : x.kind == 2 with
 | true =>
  have ek := eq_of_beq h2
  rw [ek] at heq
  simp +decide only [Bool.or_true, bT, bP, bO, if_true, if_false, Int.reduceBEq, bF] at heq
  simp +decide only [h1, h7, h2, heq, zg, zb, za, hpin, go_sem, aD, mU]
 | false =>
 cases h3 : x.kind == 3 with
 | true =>
  have ek := eq_of_beq h3
  rw [ek] at heq
  simp +decide only [Bool.or_true, bT, bP, bO, if_true, if_false, Int.reduceBEq, bF] at heq
  unfold ziE at heq
  cases t2 : tv == 2 with
  | true =>
   simp +decide only [t2, bT, if_true] at heq
   simp +decide only [h1, h7, h2, h3, t2, heq, zg, zb, za, hpin, go_sem, aD, mU]
  | false =>
  cases t3 : tv == 3 with
  | true =>
   simp +decide only [t2, t3, bT, bO, if_true] at heq
   simp +decide only [h1, h7, h2, h3, t2, t3, heq, zg, zb, za, hpin, go_sem, aD, mU]
  | false =>
  cases t4 : tv == 4 with
  | true =>
   simp +decide only [t2, t3, t4, bT, bO, if_true] at heq
   simp +decide only [h1, h7, h2, h3, t2, t3, t4, heq, zg, zb, za, hpin, go_sem, aD, mU]
  | false =>
  simp +decide only [t2, t3, t4, bO, if_false, bF] at heq
  simp +decide only [h1, h7, h2, h3, t2, t3, t4, zg, zb, za, hpin, go_sem, aD, mU]
  refine zf ze _ ?_
  simp +decide only [heq, zb, za, hpin, go_sem, aD, mU]
 | false =>
 cases h4 : x.kind == 4 with
 | true =>
  have ek := eq_of_beq h4
  rw [ek] at heq
  simp +decide only [Bool.or_true, bT, bP, bO, if_true, if_false, Int.reduceBEq, bF] at heq
  unfold ziE at heq
  cases t2 : tv == 2 with
  | true =>
   simp +decide only [t2, bT, if_true] at heq
   simp +decide only [h1, h7, h2, h3, h4, t2, heq, zg, zb, za, hpin, go_sem, aD, mU]
  | false =>
  cases t3 : tv == 3 with
  | true =>
   simp +decide only [t2, t3, bT, bO, if_true] at heq
   simp +decide only [h1, h7, h2, h3, h4, t2, t3, heq, zg, zb, za, hpin, go_sem, aD, mU]
  | false =>
  cases t4 : tv == 4 with
  | true =>
   simp +decide only [t2, t3, t4, bT, bO, if_true] at heq
   simp +decide only [h1, h7, h2, h3, h4, t2, t3, t4, heq, zg, zb, za, hpin, go_sem, aD, mU]
  | false =>
  simp +decide only [t2, t3, t4, bO, if_false, bF] at heq
  simp +decide only [h1, h7, h2, h3, h4, t2, t3, t4, zg, zb, za, hpin, go_sem, aD, mU]
  refine zf ze _ ?_
  simp +decide only [heq, zb, za, hpin, go_sem, aD, mU]
 | false =>
 cases h5 : x.kind == 5 with
 | true =>
  have ek := eq_of_beq h5
  rw [ek] at heq
  simp +decide only [Bool.or_true, bT, bP, bO, if_true, if_false, Int.reduceBEq, bF] at heq
  cases t2 : tv == 2 with
  | true =>
   simp +decide only [t2, if_true] at heq
   simp +decide only [h1, h7, h2, h3, h4, h5, t2, heq, zg, zb, za, hpin, go_sem, aD, mU]
  | false =>
  simp +decide only [t2, if_false, bF] at heq
  simp +decide only [h1, h7, h2, h3, h4, h5, t2, zg, zb, za, hpin, go_sem, aD, mU]
  refine zf ze _ ?_
  simp +decide only [heq, zb, za, hpin, go_sem, aD, mU]
 | false =>
 cases h6 : x.kind == 6 with
 | true =>
  have ek := eq_of_beq h6
  rw [ek] at heq
  simp +decide only [Bool.or_true, bT, bP, bO, if_true, if_false, Int.reduceBEq, bF] at heq
  cases t2 : tv == 2 with
  | true =>
   simp +decide only [t2, if_true] at heq
   simp +decide only [h1, h7, h2, h3, h4, h5, h6, t2, heq, zg, zb, za, hpin, go_sem, aD, mU]
  | false =>
  simp +decide only [t2, if_false, bF] at heq
  simp +decide only [h1, h7, h2, h3, h4, h5, h6, t2, zg, zb, za, hpin, go_sem, aD, mU]
  refine zf ze _ ?_
  simp +decide only [heq, zb, za, hpin, go_sem, aD, mU]
 | false =>
 cases h8 : x.kind == 8 with
 | true =>
  have ek := eq_of_beq h8
  rw [ek] at heq
  simp +decide only [Bool.or_true, bT, bP, bO, if_true, if_false, Int.reduceBEq, bF] at heq
  have hpos : 0 < x.kids.length := by rw [ek] at hsh; have := hsh.1; simp [zJ] at this; omega
  have hg0 : (row1 cI x.kids).getD (Int.toNat 0) [] = [cI x.kids[0]] := zw cI x.kids hpos
  have hc0 : ((0 : Int) < (x.kids.length : Int)) = True := eq_true (by omega)
  have hk0 : x.kids.getD 0 0 = x.kids[0] := by simp [List.getD, hpos]
  have hih := hrec x.kids[0] (lM hpos)
  rw [hk0] at heq
  simp only [cI] at hg0
  simp +decide only [h1, h7, h2, h3, h4, h5, h6, h8, zg, zb, za, hpin, go_sem, aD, mU]
  refine Tri.sched ze [(1, true), (2, true), (0, true), (3, false), (4, false), (5, false), (6, false), (7, false)] zO (by kernel_rfl) (fun C2 hC2 => ?_)
  have hp2 := zP hC2 hpin
  simp +decide only [hg0, hc0, hpos, zb, za, hp2, go_sem, aD, mU]
  refine zd hih hp2 ?_
  cases hT : yn p l x.kids[0] == 1 with
  | true =>
   simp +decide only [hT, if_true] at heq
   simp +decide only [hT, heq, zb, za, hp2, hpin, go_sem, aD, mU]
  | false =>
  simp +decide only [hT, if_false, bF] at heq
  simp +decide only [hT, zb, za, hp2, hpin, go_sem, aD, mU]
  refine zf ze _ ?_
  simp +decide only [heq, zb, za, hpin, go_sem, aD, mU]
 | false =>
 cases h9 : x.kind == 9 with
 | true =>
  have ek := eq_of_beq h9
  rw [ek] at heq
  simp +decide only [Bool.or_true, bT, bP, bO, if_true, if_false, Int.reduceBEq, bF] at heq
  have hpos : 1 < x.kids.length := by rw [ek] at hsh; have := hsh.1; simp [zJ] at this; omega
  have hg0 : (row1 cI x.kids).getD (Int.toNat 0) [] = [cI (x.kids[0]'(by omega))] := zw cI x.kids (by omega)
  have hg1 : (row1 cI x.kids).getD (Int.toNat 1) [] = [cI x.kids[1]] := zw cI x.kids hpos
  have hc0 : ((0 : Int) < (x.kids.length : Int)) = True := eq_true (by omega)
  have hc01 : ((1 : Int) < (x.kids.length : Int)) = True := eq_true (by omega)
  have hk0 : x.kids.getD 0 0 = x.kids[0]'(by omega) := by simp [List.getD, show 0 < x.kids.length by omega]
  have hk1 : x.kids.getD 1 0 = x.kids[1] := by simp [List.getD, hpos]
  have hih := hrec (x.kids[0]'(by omega)) (lM _)
  have hih1 := hrec x.kids[1] (lM hpos)
  rw [hk0, hk1] at heq
  simp only [cI] at hg0 hg1
  simp +decide only [h1, h7, h2, h3, h4, h5, h6, h8, h9, zg, zb, za, hpin, go_sem, aD, mU]
  refine Tri.sched ze [(1, true), (2, true), (0, true), (3, false), (4, false), (5, false), (6, false), (7, false), (8, false), (10, true), (11, true), (9, true), (12, false), (13, false), (14, false), (15, false), (16, false), (17, false)] zO (by kernel_rfl) (fun C2 hC2 => ?_)
  have hp2 := zP hC2 hpin
  simp +decide only [hg0, hc0, hpos, zb, za, hp2, go_sem, aD, mU]
  refine zd hih hp2 ?_
  cases hT : yn p l (x.kids[0]'(by omega)) == 1 with
  | false =>
   simp +decide only [hT, Bool.false_and, if_false, bF] at heq
   simp +decide only [hT, hg0, hg1, hc0, hc01, hpos, zb, za, hp2, hpin, go_sem, aD, mU]
   refine zf ze _ ?_
   simp +decide only [heq, zb, za, hpin, go_sem, aD, mU]
  | true =>
  simp +decide only [hT, hg0, hg1, hc0, hc01, hpos, zb, za, hp2, go_sem, aD, mU]
  refine zd hih1 hp2 ?_
  cases hT1 : yn p l x.kids[1] == 1 with
  | true =>
   simp +decide only [hT, hT1, Bool.true_and, if_true] at heq
   simp +decide only [hT1, heq, zb, za, hp2, hpin, go_sem, aD, mU]
  | false =>
  simp +decide only [hT, hT1, Bool.true_and, if_false, bF] at heq
  simp +decide only [hT1, zb, za, hp2, hpin, go_sem, aD, mU]
  refine zf ze _ ?_
  simp +decide only [heq, zb, za, hpin, go_sem, aD, mU]
 | false =>
 cases h10 : x.kind == 10 with
 | true =>
  have ek := eq_of_beq h10
  rw [ek] at heq
  simp +decide only [Bool.or_true, bT, bP, bO, if_true, if_false, Int.reduceBEq, bF] at heq
  have hpos : 1 < x.kids.length := by rw [ek] at hsh; have := hsh.1; simp [zJ] at this; omega
  have hg0 : (row1 cI x.kids).getD (Int.toNat 0) [] = [cI (x.kids[0]'(by omega))] := zw cI x.kids (by omega)
  have hg1 : (row1 cI x.kids).getD (Int.toNat 1) [] = [cI x.kids[1]] := zw cI x.kids hpos
  have hc0 : ((0 : Int) < (x.kids.length : Int)) = True := eq_true (by omega)
  have hc01 : ((1 : Int) < (x.kids.length : Int)) = True := eq_true (by omega)
  have hk0 : x.kids.getD 0 0 = x.kids[0]'(by omega) := by simp [List.getD, show 0 < x.kids.length by omega]
  have hk1 : x.kids.getD 1 0 = x.kids[1] := by simp [List.getD, hpos]
  have hih := hrec (x.kids[0]'(by omega)) (lM _)
  have hih1 := hrec x.kids[1] (lM hpos)
  rw [hk0, hk1] at heq
  simp only [cI] at hg0 hg1
  simp +decide only [h1, h7, h2, h3, h4, h5, h6, h8, h9, h10, zg, zb, za, hpin, go_sem, aD, mU]
  refine Tri.sched ze [(1, true), (2, true), (0, true), (3, false), (4, false), (5, false), (6, false), (7, false), (8, false), (10, true), (11, true), (9, true), (12, false), (13, false), (14, false), (15, false), (16, false), (17, false)] zO (by kernel_rfl) (fun C2 hC2 => ?_)
  have hp2 := zP hC2 hpin
  simp +decide only [hg0, hc0, hpos, zb, za, hp2, go_sem, aD, mU]
  refine zd hih hp2 ?_
  cases hT : yn p l (x.kids[0]'(by omega)) == 1 with
  | false =>
   simp +decide only [hT, Bool.false_and, if_false, bF] at heq
   simp +decide only [hT, hg0, hg1, hc0, hc01, hpos, zb, za, hp2, hpin, go_sem, aD, mU]
   refine zf ze _ ?_
   simp +decide only [heq, zb, za, hpin, go_sem, aD, mU]
  | true =>
  simp +decide only [hT, hg0, hg1, hc0, hc01, hpos, zb, za, hp2, go_sem, aD, mU]
  refine zd hih1 hp2 ?_
  cases hT1 : yn p l x.kids[1] == 1 with
  | true =>
   simp +decide only [hT, hT1, Bool.true_and, if_true] at heq
   simp +decide only [hT1, heq, zb, za, hp2, hpin, go_sem, aD, mU]
  | false =>
  simp +decide only [hT, hT1, Bool.true_and, if_false, bF] at heq
  simp +decide only [hT1, zb, za, hp2, hpin, go_sem, aD, mU]
  refine zf ze _ ?_
  simp +decide only [heq, zb, za, hpin, go_sem, aD, mU]
 | false =>
 cases h11 : x.kind == 11 with
 | true =>
  have ek := eq_of_beq h11
  rw [ek] at heq
  simp +decide only [Bool.or_true, bT, bP, bO, if_true, if_false, Int.reduceBEq, bF] at heq
  have hpos : 1 < x.kids.length := by rw [ek] at hsh; have := hsh.1; simp [zJ] at this; omega
  have hg0 : (row1 cI x.kids).getD (Int.toNat 0) [] = [cI (x.kids[0]'(by omega))] := zw cI x.kids (by omega)
  have hg1 : (row1 cI x.kids).getD (Int.toNat 1) [] = [cI x.kids[1]] := zw cI x.kids hpos
  have hc0 : ((0 : Int) < (x.kids.length : Int)) = True := eq_true (by omega)
  have hc01 : ((1 : Int) < (x.kids.length : Int)) = True := eq_true (by omega)
  have hk0 : x.kids.getD 0 0 = x.kids[0]'(by omega) := by simp [List.getD, show 0 < x.kids.length by omega]
  have hk1 : x.kids.getD 1 0 = x.kids[1] := by simp [List.getD, hpos]
  have hih := hrec (x.kids[0]'(by omega)) (lM _)
  have hih1 := hrec x.kids[1] (lM hpos)
  rw [hk0, hk1] at heq
  simp only [cI] at hg0 hg1
  simp +decide only [h1, h7, h2, h3, h4, h5, h6, h8, h9, h10, h11, zg, zb, za, hpin, go_sem, aD, mU]
  refine Tri.sched ze [(1, true), (2, true), (0, true), (3, false), (4, false), (5, false), (6, false), (7, false), (8, false), (10, true), (11, true), (9, true), (12, false), (13, false), (14, false), (15, false), (16, false), (17, false)] zO (by kernel_rfl) (fun C2 hC2 => ?_)
  have hp2 := zP hC2 hpin
  simp +decide only [hg0, hc0, hpos, zb, za, hp2, go_sem, aD, mU]
  refine zd hih hp2 ?_
  cases hT : yn p l (x.kids[0]'(by omega)) == 1 with
  | false =>
   simp +decide only [hT, Bool.false_and, if_false, bF] at heq
   simp +decide only [hT, hg0, hg1, hc0, hc01, hpos, zb, za, hp2, hpin, go_sem, aD, mU]
   refine zf ze _ ?_
   simp +decide only [heq, zb, za, hpin, go_sem, aD, mU]
  | true =>
  simp +decide only [hT, hg0, hg1, hc0, hc01, hpos, zb, za, hp2, go_sem, aD, mU]
  refine zd hih1 hp2 ?_
  cases hT1 : yn p l x.kids[1] == 1 with
  | true =>
   simp +decide only [hT, hT1, Bool.true_and, if_true] at heq
   simp +decide only [hT1, heq, zb, za, hp2, hpin, go_sem, aD, mU]
  | false =>
  simp +decide only [hT, hT1, Bool.true_and, if_false, bF] at heq
  simp +decide only [hT1, zb, za, hp2, hpin, go_sem, aD, mU]
  refine zf ze _ ?_
  simp +decide only [heq, zb, za, hpin, go_sem, aD, mU]
 | false =>
 cases h12 : x.kind == 12 with
 | true =>
  have ek := eq_of_beq h12
  rw [ek] at heq
  simp +decide only [Bool.or_true, bT, bP, bO, if_true, if_false, Int.reduceBEq, bF] at heq
  simp +decide only [h1, h7, h2, h3, h4, h5, h6, h8, h9, h10, h11, h12, zg, zb, za, hpin, go_sem, aD, mU]
  refine zd hcr hpin ?_
  cases hc : Xh (yn p l) p x with
  | false =>
   simp +decide only [hc, if_false, bF] at heq
   simp +decide only [zb, za, hpin, go_sem, aD, mU]
   refine zf ze _ ?_
   simp +decide only [heq, zb, za, hpin, go_sem, aD, mU]
  | true =>
  simp +decide only [hc, if_true] at heq
  have hge : 0 <= xd p.fns x.name := by
   unfold Xh at hc
   exact of_decide_eq_true (Bool.and_eq_true_iff.1 hc).1
  simp +decide only [zb, za, hpin, go_sem, aD, mU]
  refine Tri.sched ze [(0, true), (3, true), (1, true), (2, true), (4, false), (5, false), (6, false), (7, false), (8, false), (9, false)] zO (by kernel_rfl) (fun C2 hC2 => ?_)
  have hp2 := zP hC2 hpin
  simp +decide only [zb, za, hp2, go_sem, aD, mU]
  refine zd hfa hp2 ?_
  generalize xd p.fns x.name = at_ at hrg hge heq |-
  obtain ⟨m, rfl⟩ : ∃ m : Nat, at_ = m := ⟨at_.toNat, by omega⟩
  have hml : m < p.fns.length := by rcases hrg with h | h <;> omega
  have hy : (rows (fnC true) p.fns).getD m [] = fnC true p.fns[m] := zk _ _ hml
  have hc2 : ((m : Int) < (p.fns.length : Int)) = True := eq_true (by omega)
  rw [yS hml] at heq
  simp +decide only [hy, hc2, heq, fnC, iN, zb, za, hp2, hpin, go_sem, aD, mU]
 | false =>
 simp +decide only [h1, h7, h2, h3, h4, h5, h6, h8, h9, h10, h11, h12, bP, bO, if_false, bF] at heq
 simp +decide only [h1, h7, h2, h3, h4, h5, h6, h8, h9, h10, h11, h12, zg, zb, za, hpin, go_sem, aD, mU]
 refine zf ze _ ?_
 simp +decide only [heq, zb, za, hpin, go_sem, aD, mU]
section
variable {P : Program} {w w1 : World} {C : Cx} {X : Nat -> Prop} {gh gh1 : Gh} {st : St} {a : Act} {v : V} {u : Value} {ob : List (Nat × Ob)} {S : Nat -> Prop} {K : St -> Prop}
theorem Ow.plainc {e : TypeId} {es : List (List D)} {F : Nat -> Prop} (h : Ow P w S (.row true e es) u F) : Ow P w S (.sc u) u F := by
 cases h with
 | shared h => exact .sc h.one
theorem Tri.plain (o j : Nat) {cs : List D} {e : TypeId} {es : List (List D)} {c : Code} {Q : Exit -> St -> Prop} (ho : look st.ob o = some (.box cs)) (hj : cs[j]? = some (.row true e es)) (hh : ∀ z : Value, Tri P C (st.swap o (.box (cs.set j (.sc z)))) c Q) : Tri P C st c Q := fun a w gh h => by
 have hbF : gh.F o (gh.bb o) := by cases h.obs o _ ho with | box xs G hb hl h1 hc hx dis nb hF => exact (hF _).2 (Or.inl rfl)
 have hob := h.obs o _ ho
 have g1 : (gh.upd o (gh.hv o) (gh.bb o) (gh.bo o) (gh.F o)).F o = gh.F o := by simp [Gh.upd]
 have g2 : (gh.upd o (gh.hv o) (gh.bb o) (gh.bo o) (gh.F o)).bb o = gh.bb o := by simp [Gh.upd]
 have g3 : (gh.upd o (gh.hv o) (gh.bb o) (gh.bo o) (gh.F o)).bo o = gh.bo o := by simp [Gh.upd]
 cases hob with
 | box xs G hb hl h1 hc hx dis nb hF =>
  refine hh (xs.getD j undef) a w _ (h.swap (F := gh.F o) ho (by simp [Ob.like]) (Nat.le_refl _) (fun _ _ _ _ _ _ => rfl) (fun _ _ => rfl) (World.keptBut_refl w _) ?_ (fun k hk => Or.inl hk) (fun k hk => ⟨Or.inr hk, h.xF o _ k ho hk⟩) (fun cs' k _ hk he => h.xF o _ k ho hk (he ▸ hbF)))
  have back : ∀ q d, (cs.set j (.sc (xs.getD j undef)))[q]? = some d -> ∃ d0, cs[q]? = some d0 := fun q d hd => by
   rw [List.getElem?_set] at hd
   split at hd
   · rename_i ejq; subst ejq; exact ⟨_, hj⟩
   · exact ⟨d, hd⟩
  refine ObR.box xs G (by rw [g2]; exact hb) (by rw [List.length_set]; exact hl) h1 (by rw [g2, g3]; exact hc) (fun q d hd => ?_) (fun q q' d d' k hd hd' => ?_) (fun q d k hd hk => ?_) (fun k => ?_)
  · rw [List.getElem?_set] at hd
    split at hd
    · rename_i ejq
      subst ejq
      split at hd
      · cases hd; exact (hx j _ hj).plainc
      · cases hd
    · exact hx q d hd
  · obtain ⟨d0, h0⟩ := back _ _ hd
    obtain ⟨d1, h2⟩ := back _ _ hd'
    exact dis q q' d0 d1 k h0 h2
  · obtain ⟨d0, h0⟩ := back _ _ hd
    rw [g2]; exact nb q d0 k h0 hk
  · rw [g1, g2, hF k]
    constructor
    · rintro (hh | ⟨q, d, hd, hk⟩)
      · exact Or.inl hh
      · right
        by_cases eq : j = q
        · subst eq
          exact ⟨j, .sc (xs.getD j undef), by rw [List.getElem?_set_self (List.getElem?_eq_some_iff.1 hd).1], hk⟩
        · exact ⟨q, d, by rw [List.getElem?_set_ne eq]; exact hd, hk⟩
    · rintro (hh | ⟨q, d, hd, hk⟩)
      · exact Or.inl hh
      · obtain ⟨d0, h0⟩ := back _ _ hd
        exact Or.inr ⟨q, d0, h0, hk⟩
end
theorem zqx (p : ProgramD) (l : List VarD) (n : Nat) (hnl : n < p.nodes.length) (hpos : 1 < p.nodes[n].kids.length)
 (ih : ∀ kid ∈ p.nodes[n].kids, zx Tryz.prog 58 [.ro (zb p), .ro (.imm 96 (rows (varC true) l)), .ro (.sc (.int .i64 kid))] (fun rs st => rs = [(false, [cI (yn p l kid)])])) :
 zx Tryz.prog 136 [.ro (zb p), .ro (.imm 96 (rows (varC true) l)), .ro (.sc (.int .i64 n))] (fun rs st => rs = [(false, [cB (yn p l (p.nodes[n].kids.getD 0 0) == 1 && yn p l (p.nodes[n].kids.getD 1 0) == 1)])]) := by
 have hx : (rows (zg true) p.nodes).getD n [] = zg true p.nodes[n] := zk _ _ hnl
 have hc1 : ((n : Int) < (p.nodes.length : Int)) = True := eq_true (by omega)
 generalize p.nodes[n] = x at hx ih hpos |-
 have hk0 : x.kids.getD 0 0 = x.kids[0]'(by omega) := by simp [List.getD, show 0 < x.kids.length by omega]
 have hk1 : x.kids.getD 1 0 = x.kids[1] := by simp [List.getD, hpos]
 rw [hk0, hk1]
 have hg0 : (row1 cI x.kids).getD (Int.toNat 0) [] = [cI (x.kids[0]'(by omega))] := zw cI x.kids (by omega)
 have hg1 : (row1 cI x.kids).getD (Int.toNat 1) [] = [cI x.kids[1]] := zw cI x.kids hpos
 have hc0 : ((0 : Int) < (x.kids.length : Int)) = True := eq_true (by omega)
 have hc01 : ((1 : Int) < (x.kids.length : Int)) = True := eq_true (by omega)
 have hih := ih (x.kids[0]'(by omega)) (lM _)
 have hih1 := ih x.kids[1] (lM hpos)
 simp only [cI] at hg0 hg1
 simp only [zb] at hih hih1
 refine zp (fn := Tryz.f136) (c := Tryz.f136.body.getD .skip) (res := [.tm 6]) (n := 31) ze (by kernel_rfl) (by rfl) (by kernel_rfl) (by rfl) (by rfl) (by simp [zu]) (fun uf ub C hpin hpin2 hfull => ?_)
 simp only [Tryz.f136, oD]
 refine Tri.step ze ?_
 simp +decide only [zb, za, hpin, go_sem, aD, mU]
 refine Tri.ent ?_ (Ent.frb hfull 3)
 refine Tri.step ze ?_
 simp +decide only [hc1, hx, zg, iN, zb, za, hpin, go_sem, aD, mU]
 refine Tri.ent ?_ (Ent.frb hfull 7)
 refine Tri.step ze ?_
 simp +decide only [zb, za, hpin, go_sem, aD, mU]
 refine Tri.sched ze [(1, true), (2, true), (0, true), (3, false), (4, false), (5, false), (6, false), (7, false), (8, false), (10, true), (11, true), (9, true), (12, false), (13, false), (14, false), (15, false), (16, false), (17, false), (18, false)] zO (by kernel_rfl) (fun C2 hC2 => ?_)
 have hp2 := zP hC2 hpin
 simp +decide only [hg0, hc0, hpos, zg, zb, za, hp2, go_sem, aD, mU]
 refine zd hih hp2 ?_
 cases hT : yn p l (x.kids[0]'(by omega)) == 1 with
 | false =>
  simp +decide only [hT, hg0, hg1, hc0, hc01, hpos, zb, za, hp2, hpin, go_sem, aD, mU]
  refine zf ze _ ?_
  simp +decide only [zb, za, hpin, go_sem, aD, mU]
 | true =>
 simp +decide only [hT, hg0, hg1, hc0, hc01, hpos, zb, za, hp2, go_sem, aD, mU]
 refine zd hih1 hp2 ?_
 simp +decide only [zb, za, hp2, hpin, go_sem, aD, mU]
 refine zf ze _ ?_
 simp +decide only [zb, za, hpin, go_sem, aD, mU]
def sigR (ok : Bool) (q : ByteArray × Value × Int × Int × Int) : List RV := [(true, [cS q.1, .sc q.2.1, cI q.2.2.1, cI q.2.2.2.1, cI q.2.2.2.2]), (false, [cB ok])]
theorem zoW (p : ProgramD) (l : List VarD) (hf : p.fns.length <= 1048576) (hk : ∀ x ∈ p.nodes, x.kids.length <= 300) (n : Nat) (hnl : n < p.nodes.length)
 (ih : ∀ kid ∈ p.nodes[n].kids, zx Tryz.prog 58 [.ro (zb p), .ro (.imm 96 (rows (varC true) l)), .ro (.sc (.int .i64 kid))] (fun rs st => rs = [(false, [cI (yn p l kid)])])) :
 zx Tryz.prog 137 [.ro (zb p), .ro (.imm 96 (rows (varC true) l)), .ro (.sc (.int .i64 n))] (fun rs st => ∃ q, (Xh (yn p l) p p.nodes[n] = true -> q.2.2.1 = (fAt p.fns (xd p.fns p.nodes[n].name)).res) /\ rs = sigR (Xh (yn p l) p p.nodes[n]) q) := by
 have hkx := hk p.nodes[n] (lM hnl)
 have hx : (rows (zg true) p.nodes).getD n [] = zg true p.nodes[n] := zk _ _ hnl
 have hc1 : ((n : Int) < (p.nodes.length : Int)) = True := eq_true (by omega)
 generalize p.nodes[n] = x at hkx hx ih
 have hfa := XL p x.name hf
 have hrg := Yo x.name p.fns 0
 have hfe : xd p.fns x.name = zbJ x.name p.fns 0 := rfl
 rw [<- hfe] at hrg
 simp only [zb] at hfa ih
 unfold Xh
 refine zp (fn := Tryz.f137) (c := Tryz.f137.body.getD .skip) (res := [.ce 6 104, .tm 7]) (n := 68) ze (by kernel_rfl) (by rfl) (by kernel_rfl) (by rfl) (by rfl) (by simp [zu]) (fun uf ub C hpin hpin2 hfull => ?_)
 simp only [Tryz.f137, oD]
 refine Tri.step ze ?_
 simp +decide only [zb, za, hpin, go_sem, aD, mU]
 refine Tri.ent ?_ (Ent.frb hfull 3)
 refine Tri.step ze ?_
 simp +decide only [hc1, hx, zg, iN, zb, za, hpin, go_sem, aD, mU]
 refine Tri.ent ?_ (Ent.frb hfull 8)
 refine Tri.step ze ?_
 simp +decide only [zb, za, hpin, go_sem, aD, mU]
 refine zd hfa hpin ?_
 generalize xd p.fns x.name = at_ at hrg |-
 simp +decide only [zb, za, hpin, go_sem, aD, mU]
 refine Tri.step ze ?_
 refine zf ze _ ?_
 simp +decide only [zb, za, hpin, go_sem, aD, mU]
 refine Tri.sched ze [(0, false), (1, false), (2, false), (3, true), (5, true), (10, true), (4, true), (6, true), (7, true), (8, true), (9, true), (11, false), (12, false), (13, false), (14, false)] zO (by kernel_rfl) (fun C2 hC2 => ?_)
 have hp2 := zP hC2 hpin
 by_cases ha : at_ < 0
 · have c1 : (at_ < 0) = True := eq_true ha
   have c2 : decide (0 <= at_) = false := decide_eq_false (by omega)
   rcases zeD p.fns at_.toNat with ⟨y, hy⟩ | hy
   · simp +decide only [c1, c2, hy, fnC, zg, zb, za, hp2, hpin, go_sem, aD, mU]
     exact ⟨(⟨#[]⟩, .slice none 0 0, 0, 0, 0), fun hh => absurd hh.1 (by omega), rfl⟩
   · simp +decide only [c1, c2, hy, zg, zb, za, hp2, hpin, go_sem, aD, mU]
     exact ⟨(⟨#[]⟩, .slice none 0 0, 0, 0, 0), fun hh => absurd hh.1 (by omega), rfl⟩
 have c1 : (at_ < 0) = False := eq_false ha
 have c2 : decide (0 <= at_) = true := decide_eq_true (by omega)
 obtain ⟨m, rfl⟩ : ∃ m : Nat, at_ = m := ⟨at_.toNat, by omega⟩
 have hml : m < p.fns.length := by rcases hrg with h | h <;> omega
 have hy : (rows (fnC true) p.fns).getD m [] = fnC true p.fns[m] := zk _ _ hml
 have hc2 : ((m : Int) < (p.fns.length : Int)) = True := eq_true (by omega)
 rw [yS hml]
 generalize p.fns[m] = y at hy
 cases hlen : (y.params.length : Int) == (x.kids.length : Int) with
 | false =>
  simp +decide only [c1, c2, hy, hc2, hlen, fnC, zg, bne, iN, zb, za, hp2, hpin, go_sem, aD, mU]
  exact ⟨(⟨#[]⟩, .slice none 0 0, 0, 0, 0), fun hh => absurd hh.1 (by simpa using hlen), rfl⟩
 | true =>
 have hle := eq_of_beq hlen
 simp +decide only [c1, c2, hy, hc2, hlen, fnC, zg, bne, iN, zb, za, hp2, hpin, go_sem, aD, mU]
 refine Tri.step ze ?_
 simp +decide only [zg, zb, za, hpin, go_sem, aD, mU]
 refine Tri.loop (ι := Nat) (fun i => i <= x.kids.length /\ zL (fun i => yn p l (x.kids.getD i 0) == prTy y.params i) i = true) (fun i => ⟨68, [(1, .imm 96 (rows (varC true) l)), (3, .ip (za true p) 0), (6, .bp 6 0), (7, vB false), (8, .ip (zg true x) 0), (9, vI m), (10, vI i)], [(6, .box [.sc (.string ⟨#[]⟩), .sc (.slice none 0 0), cI 0, cI 0, cI 0])]⟩) (fun i => x.kids.length - i) 0 ⟨by simp, rfl⟩ ?_ ?_
 · refine Ent.weak ?_ ?_ ?_ ?_ <;> simp +decide [subT, subB, zj, zi, zm, St.get, look, vI, vB, vS, cI, cS, cB, zg, za, roI]
 · rintro i ⟨hi, hq⟩
   refine zf ze _ ?_
   by_cases h' : i < x.kids.length
   · have e : ((i : Int) < (x.kids.length : Int)) = True := by simp [h']
     have hip : i < y.params.length := by omega
     have e2 : ((i : Int) < (y.params.length : Int)) = True := eq_true (by omega)
     have hg : x.kids.getD i 0 = x.kids[i] := by simp [List.getD, h']
     have hpt := zkB hip
     have hz : (rows (zn true) y.params).getD i [] = zn true y.params[i] := zk _ _ hip
     have hih := ih x.kids[i] (lM h')
     simp +decide only [e, zg, za, vB, vI, zb, za, hpin, go_sem, aD, mU]
     refine Tri.sched ze [(1, true), (2, true), (4, true), (8, true), (10, true), (14, true), (0, true), (3, true), (5, true), (6, true), (9, true), (11, true), (12, true), (13, true), (15, true), (16, true), (17, true), (7, false), (18, false)] zO (by kernel_rfl) (fun C3 hC3 => ?_)
     have hp3 := zP hC3 hpin
     simp +decide only [e, e2, h', zw _ _ h', hy, hc2, hz, fnC, zn, iN, zb, za, hp3, go_sem, aD, mU]
     refine zd hih hp3 ?_
     cases hc : yn p l x.kids[i] == y.params[i].ty with
     | false =>
      have hff : zL (fun i => yn p l (x.kids.getD i 0) == prTy y.params i) x.kids.length = false := zB h' (by simp only [hg, hpt, hc])
      simp +decide only [hc, hff, bne, zb, za, hp3, hpin, go_sem, aD, mU]
      exact ⟨(⟨#[]⟩, .slice none 0 0, 0, 0, 0), rfl⟩
     | true =>
      simp +decide only [hc, bne, zb, za, hp3, hpin, go_sem, aD, mU]
      refine ⟨i + 1, ⟨h', by rw [zQ, hq, hg, hpt, hc]; rfl⟩, by omega, Ent.weak ?_ ?_ ?_ ?_⟩
      all_goals simp +decide [subT, subB, zj, zi, zm, St.get, look, vI, vB, vS, cI, cS, cB, zg, za, roI, w64s (n := x.kids.length) h' (by omega)]
   · have hil : i = x.kids.length := by omega
     subst hil
     have e : ((x.kids.length : Int) < (x.kids.length : Int)) = False := by simp
     simp +decide only [e, zg, vB, vI, zb, za, hpin, go_sem, aD, mU]
     refine Tri.step ze ?_
     simp +decide only [hy, hc2, fnC, iN, zb, za, hpin, go_sem, aD, mU]
     refine Tri.plain 6 1 (cs := fnC true y) rfl rfl (fun z => ?_)
     refine zf ze _ ?_
     simp +decide only [hq, fnC, zb, za, hpin, go_sem, aD, mU]
     exact ⟨(y.name, z, y.res, y.body, y.ret), fun _ => rfl, rfl⟩
theorem Xl (p : ProgramD) (hD : Deep p.nodes) (l : List VarD) (hl : l.length <= 4194304) (hf : p.fns.length <= 1048576) (hn : p.nodes.length <= 1048576) (hk : ∀ x ∈ p.nodes, x.kids.length <= 300) (n : Nat) : n < p.nodes.length ->
 zx Tryz.prog 58 [.ro (zb p), .ro (.imm 96 (rows (varC true) l)), .ro (.sc (.int .i64 n))] (fun rs st => rs = [(false, [cI (yn p l n)])]) := by
 induction n using Nat.strongRecOn with
 | ind n ih =>
 intro hnl
 have hkid := hD.kid hnl
 have hkx := hk p.nodes[n] (lM hnl)
 have hsh := zy (xJ (hD.deep n hnl) hnl)
 have hrec : ∀ kid ∈ p.nodes[n].kids, zx Tryz.prog 58 [.ro (zb p), .ro (.imm 96 (rows (varC true) l)), .ro (.sc (.int .i64 kid))] (fun rs st => rs = [(false, [cI (yn p l kid)])]) := fun kid hkk => by
  obtain ⟨q0, q1, q2⟩ := hkid kid hkk
  have e : kid = (kid.toNat : Int) := by omega
  have := ih kid.toNat q2 (by omega)
  rw [<- e] at this
  exact this
 have hcr := zoW p l hf hk n hnl hrec
 have htw := fun hpos => zqx p l n hnl hpos hrec
 have heq := zks hD l hnl
 have hx : (rows (zg true) p.nodes).getD n [] = zg true p.nodes[n] := zk _ _ hnl
 have hc1 : ((n : Int) < (p.nodes.length : Int)) = True := eq_true (by omega)
 generalize yn p l n = R at heq |-
 generalize p.nodes[n] = x at hkid hkx hsh hrec hcr heq hx htw
 have hvt := ZC l x.name hl
 simp only [zb] at hrec hcr htw
 unfold zjk at heq
 generalize yZ l x.name = tv at heq hvt
 refine zp (fn := Tryz.f58) (c := Tryz.f58.body.getD .skip) (res := [.tm 6]) (n := 83) ze (by kernel_rfl) (by rfl) (by kernel_rfl) (by rfl) (by rfl) (by simp [zu]) (fun uf ub C hpin hpin2 hfull => ?_)
 simp only [Tryz.f58, oD]
 refine Tri.step ze ?_
 simp +decide only [zb, za, hpin, go_sem, aD, mU]
 refine Tri.ent ?_ (Ent.frb hfull 3)
 refine Tri.step ze ?_
 simp +decide only [hc1, hx, zg, iN, zb, za, hpin, go_sem, aD, mU]
 refine Tri.ent ?_ (Ent.frb hfull 7)
 refine Tri.step ze ?_
 simp +decide only [zb, za, hpin, go_sem, aD, mU]
 refine zd hvt hpin ?_
 simp +decide only [zb, za, hpin, go_sem, aD, mU]
 refine Tri.stop ze ⟨83, [(1, .imm 96 (rows (varC true) l)), (2, vI n), (3, .ip (za true p) 0), (7, .ip (zg true x) 0), (8, vI tv), (9, vB (ziE tv))], []⟩ ?_ ?_
 · unfold ziE
   cases t2 : tv == 2 with
   | true => simp +decide only [t2, bT, bO, zg, zb, za, hpin, go_sem, aD, mU]; refine Ent.weak ?_ ?_ ?_ ?_ <;> simp +decide [subT, subB, zj, zi, zm, St.get, look, vI, vB, vS, cI, cS, cB, zg, za, roI, t2]
   | false =>
   cases t3 : tv == 3 with
   | true => simp +decide only [t2, t3, bT, bO, zg, zb, za, hpin, go_sem, aD, mU]; refine Ent.weak ?_ ?_ ?_ ?_ <;> simp +decide [subT, subB, zj, zi, zm, St.get, look, vI, vB, vS, cI, cS, cB, zg, za, roI, t2, t3]
   | false =>
   cases t4 : tv == 4 with
   | true => simp +decide only [t2, t3, t4, bT, bO, zg, zb, za, hpin, go_sem, aD, mU]; refine Ent.weak ?_ ?_ ?_ ?_ <;> simp +decide [subT, subB, zj, zi, zm, St.get, look, vI, vB, vS, cI, cS, cB, zg, za, roI, t2, t3, t4]
   | false => simp +decide only [t2, t3, t4, bT, bO, zg, zb, za, hpin, go_sem, aD, mU]; refine Ent.weak ?_ ?_ ?_ ?_ <;> simp +decide [subT, subB, zj, zi, zm, St.get, look, vI, vB, vS, cI, cS, cB, zg, za, roI, t2, t3, t4]
 refine Tri.step ze ?_
 cases h1 : x.kind == 1 with
 | true =>
  have ek := eq_of_beq h1
  rw [ek] at heq
  simp +decide only [Bool.or_true, bT, bP, bO, if_true, if_false, Int.reduceBEq, bF] at heq
  simp +decide only [h1, heq, za, vB, vI, zg, zb, za, hpin, go_sem, aD, mU]
 | false =>
 cases h7 : x.kind == 7 with
 | true =>
  have ek := eq_of_beq h7
  rw [ek] at heq
  simp +decide only [Bool.or_true, bT, bP, bO, if_true, if_false, Int.reduceBEq, bF] at heq
  simp +decide only [h1, h7, heq, za, vB, vI, zg, zb, za, hpin, go_sem, aD, mU]
 | false =>
 cases h2 : x.kind == 2 with
 | true =>
  have ek := eq_of_beq h2
  rw [ek] at heq
  simp +decide only [Bool.or_true, bT, bP, bO, if_true, if_false, Int.reduceBEq, bF] at heq
  simp +decide only [h1, h7, h2, heq, za, vB, vI, zg, zb, za, hpin, go_sem, aD, mU]
 | false =>
 cases h3 : x.kind == 3 with
 | true =>
  have ek := eq_of_beq h3
  rw [ek] at heq
  simp +decide only [Bool.or_true, bT, bP, bO, if_true, if_false, Int.reduceBEq, bF] at heq
  cases hh : ziE tv with
  | true =>
   simp +decide only [hh, if_true] at heq
   simp +decide only [h1, h7, h2, h3, hh, heq, za, vB, vI, zg, zb, za, hpin, go_sem, aD, mU]
  | false =>
  simp +decide only [hh, if_false, bF] at heq
  simp +decide only [h1, h7, h2, h3, hh, za, vB, vI, zg, zb, za, hpin, go_sem, aD, mU]
  refine zf ze _ ?_
  simp +decide only [heq, zb, za, hpin, go_sem, aD, mU]
 | false =>
 cases h4 : x.kind == 4 with
 | true =>
  have ek := eq_of_beq h4
  rw [ek] at heq
  simp +decide only [Bool.or_true, bT, bP, bO, if_true, if_false, Int.reduceBEq, bF] at heq
  cases hh : ziE tv with
  | true =>
   simp +decide only [hh, if_true] at heq
   simp +decide only [h1, h7, h2, h3, h4, hh, heq, za, vB, vI, zg, zb, za, hpin, go_sem, aD, mU]
  | false =>
  simp +decide only [hh, if_false, bF] at heq
  simp +decide only [h1, h7, h2, h3, h4, hh, za, vB, vI, zg, zb, za, hpin, go_sem, aD, mU]
  refine zf ze _ ?_
  simp +decide only [heq, zb, za, hpin, go_sem, aD, mU]
 | false =>
 cases h5 : x.kind == 5 with
 | true =>
  have ek := eq_of_beq h5
  rw [ek] at heq
  simp +decide only [Bool.or_true, bT, bP, bO, if_true, if_false, Int.reduceBEq, bF] at heq
  cases t2 : tv == 2 with
  | true =>
   simp +decide only [t2, if_true] at heq
   simp +decide only [h1, h7, h2, h3, h4, h5, t2, heq, za, vB, vI, zg, zb, za, hpin, go_sem, aD, mU]
  | false =>
  simp +decide only [t2, if_false, bF] at heq
  simp +decide only [h1, h7, h2, h3, h4, h5, t2, za, vB, vI, zg, zb, za, hpin, go_sem, aD, mU]
  refine zf ze _ ?_
  simp +decide only [heq, zb, za, hpin, go_sem, aD, mU]
 | false =>
 cases h6 : x.kind == 6 with
 | true =>
  have ek := eq_of_beq h6
  rw [ek] at heq
  simp +decide only [Bool.or_true, bT, bP, bO, if_true, if_false, Int.reduceBEq, bF] at heq
  cases t2 : tv == 2 with
  | true =>
   simp +decide only [t2, if_true] at heq
   simp +decide only [h1, h7, h2, h3, h4, h5, h6, t2, heq, za, vB, vI, zg, zb, za, hpin, go_sem, aD, mU]
  | false =>
  simp +decide only [t2, if_false, bF] at heq
  simp +decide only [h1, h7, h2, h3, h4, h5, h6, t2, za, vB, vI, zg, zb, za, hpin, go_sem, aD, mU]
  refine zf ze _ ?_
  simp +decide only [heq, zb, za, hpin, go_sem, aD, mU]
 | false =>
 cases h8 : x.kind == 8 with
 | true =>
  have ek := eq_of_beq h8
  rw [ek] at heq
  simp +decide only [Bool.or_true, bT, bP, bO, if_true, if_false, Int.reduceBEq, bF] at heq
  have hpos : 0 < x.kids.length := by rw [ek] at hsh; have := hsh.1; simp [zJ] at this; omega
  have hg0 : (row1 cI x.kids).getD (Int.toNat 0) [] = [cI x.kids[0]] := zw cI x.kids hpos
  have hc0 : ((0 : Int) < (x.kids.length : Int)) = True := eq_true (by omega)
  have hk0 : x.kids.getD 0 0 = x.kids[0] := by simp [List.getD, hpos]
  have hih := hrec x.kids[0] (lM hpos)
  rw [hk0] at heq
  simp only [cI] at hg0
  simp +decide only [h1, h7, h2, h3, h4, h5, h6, h8, za, vB, vI, zg, zb, za, hpin, go_sem, aD, mU]
  refine Tri.sched ze [(1, true), (2, true), (0, true), (3, false), (4, false), (5, false), (6, false), (7, false)] zO (by kernel_rfl) (fun C2 hC2 => ?_)
  have hp2 := zP hC2 hpin
  simp +decide only [hg0, hc0, hpos, zb, za, hp2, go_sem, aD, mU]
  refine zd hih hp2 ?_
  cases hT : yn p l x.kids[0] == 1 with
  | true =>
   simp +decide only [hT, if_true] at heq
   simp +decide only [hT, heq, zb, za, hp2, hpin, go_sem, aD, mU]
  | false =>
  simp +decide only [hT, if_false, bF] at heq
  simp +decide only [hT, zb, za, hp2, hpin, go_sem, aD, mU]
  refine zf ze _ ?_
  simp +decide only [heq, zb, za, hpin, go_sem, aD, mU]
 | false =>
 cases h9 : x.kind == 9 with
 | true =>
  have ek := eq_of_beq h9
  rw [ek] at heq
  simp +decide only [Bool.or_true, bT, bP, bO, if_true, if_false, Int.reduceBEq, bF] at heq
  have hpos : 1 < x.kids.length := by rw [ek] at hsh; have := hsh.1; simp [zJ] at this; omega
  have htw2 := htw hpos
  simp +decide only [h1, h7, h2, h3, h4, h5, h6, h8, h9, za, vB, vI, zg, zb, za, hpin, go_sem, aD, mU]
  refine zd htw2 hpin ?_
  cases hT : yn p l (x.kids.getD 0 0) == 1 && yn p l (x.kids.getD 1 0) == 1 with
  | true =>
   rw [hT, if_pos rfl] at heq
   simp +decide only [heq, zb, za, hpin, go_sem, aD, mU]
  | false =>
  rw [hT, if_neg (by decide)] at heq
  simp +decide only [zb, za, hpin, go_sem, aD, mU]
  refine zf ze _ ?_
  simp +decide only [heq, zb, za, hpin, go_sem, aD, mU]
 | false =>
 cases h10 : x.kind == 10 with
 | true =>
  have ek := eq_of_beq h10
  rw [ek] at heq
  simp +decide only [Bool.or_true, bT, bP, bO, if_true, if_false, Int.reduceBEq, bF] at heq
  have hpos : 1 < x.kids.length := by rw [ek] at hsh; have := hsh.1; simp [zJ] at this; omega
  have htw2 := htw hpos
  simp +decide only [h1, h7, h2, h3, h4, h5, h6, h8, h9, h10, za, vB, vI, zg, zb, za, hpin, go_sem, aD, mU]
  refine zd htw2 hpin ?_
  cases hT : yn p l (x.kids.getD 0 0) == 1 && yn p l (x.kids.getD 1 0) == 1 with
  | true =>
   rw [hT, if_pos rfl] at heq
   simp +decide only [heq, zb, za, hpin, go_sem, aD, mU]
  | false =>
  rw [hT, if_neg (by decide)] at heq
  simp +decide only [zb, za, hpin, go_sem, aD, mU]
  refine zf ze _ ?_
  simp +decide only [heq, zb, za, hpin, go_sem, aD, mU]
 | false =>
 cases h11 : x.kind == 11 with
 | true =>
  have ek := eq_of_beq h11
  rw [ek] at heq
  simp +decide only [Bool.or_true, bT, bP, bO, if_true, if_false, Int.reduceBEq, bF] at heq
  have hpos : 1 < x.kids.length := by rw [ek] at hsh; have := hsh.1; simp [zJ] at this; omega
  have htw2 := htw hpos
  simp +decide only [h1, h7, h2, h3, h4, h5, h6, h8, h9, h10, h11, za, vB, vI, zg, zb, za, hpin, go_sem, aD, mU]
  refine zd htw2 hpin ?_
  cases hT : yn p l (x.kids.getD 0 0) == 1 && yn p l (x.kids.getD 1 0) == 1 with
  | true =>
   rw [hT, if_pos rfl] at heq
   simp +decide only [heq, zb, za, hpin, go_sem, aD, mU]
  | false =>
  rw [hT, if_neg (by decide)] at heq
  simp +decide only [zb, za, hpin, go_sem, aD, mU]
  refine zf ze _ ?_
  simp +decide only [heq, zb, za, hpin, go_sem, aD, mU]
 | false =>
 cases h12 : x.kind == 12 with
 | true =>
  have ek := eq_of_beq h12
  rw [ek] at heq
  simp +decide only [Bool.or_true, bT, bP, bO, if_true, if_false, Int.reduceBEq, bF] at heq
  simp +decide only [h1, h7, h2, h3, h4, h5, h6, h8, h9, h10, h11, h12, za, vB, vI, zg, zb, za, hpin, go_sem, aD, mU]
  refine zlg hcr hpin ?_ ?_
  · simp +decide only [zb, za, hpin, go_sem, aD, mU]
  rintro ⟨qa, qz, qr, qb, qc⟩ hq
  unfold sigR
  cases hc : Xh (yn p l) p x with
  | false =>
   rw [hc, if_neg (by decide)] at heq
   simp +decide only [zb, za, hpin, go_sem, aD, mU]
   refine zf ze _ ?_
   simp +decide only [heq, zb, za, hpin, go_sem, aD, mU]
  | true =>
  have hqr : qr = (fAt p.fns (xd p.fns x.name)).res := hq hc
  rw [hc, if_pos rfl, <- hqr] at heq
  simp +decide only [heq, zb, za, hpin, go_sem, aD, mU]
 | false =>
 simp +decide only [h1, h7, h2, h3, h4, h5, h6, h8, h9, h10, h11, h12, bP, bO, if_false, bF] at heq
 simp +decide only [h1, h7, h2, h3, h4, h5, h6, h8, h9, h10, h11, h12, za, vB, vI, zg, zb, za, hpin, go_sem, aD, mU]
 refine zf ze _ ?_
 simp +decide only [heq, zb, za, hpin, go_sem, aD, mU]
def tyOf (p : ProgramD) (l : List VarD) (v : VarD) : Int := yn p l ((nAt p.nodes v.node).kids.getD 0 0)
def zaa (p : ProgramD) (l : List VarD) (i : Nat) : List VarD := if 0 <= (l.getD i vr0).node then l.set i ⟨(l.getD i vr0).name, tyOf p l (l.getD i vr0), (l.getD i vr0).node⟩ else l
def yd (p : ProgramD) (l : List VarD) : Nat -> List VarD
 | 0 => l
 | i + 1 => zaa p (yd p l i) i
def zqr (p : ProgramD) (l : List VarD) : Prop := ∀ i (h : i < l.length), l[i].node < 0 \/ (l[i].node.toNat < p.nodes.length /\ 0 < (nAt p.nodes l[i].node).kids.length)
theorem Xn (p : ProgramD) (l : List VarD) (i : Nat) : (zaa p l i).length = l.length := by unfold zaa; split <;> simp
theorem zM (p : ProgramD) (l : List VarD) : ∀ i, (yd p l i).length = l.length
 | 0 => rfl
 | i + 1 => by unfold yd; rw [Xn, zM p l i]
theorem zjl (p : ProgramD) (l : List VarD) (i j : Nat) (hj : j < l.length) : ((zaa p l i)[j]'(by rw [Xn]; exact hj)).node = l[j].node := by
 unfold zaa
 split
 · simp only [List.getElem_set]
   split
   · rename_i h; subst h; simp [List.getD, hj]
   · rfl
 · rfl
theorem zhy (p : ProgramD) (l : List VarD) (i j : Nat) (hj : j < l.length) (hne : i ≠ j) : (zaa p l i)[j]'(by rw [Xn]; exact hj) = l[j] := by
 unfold zaa
 split
 · simp only [List.getElem_set, if_neg hne]
 · rfl
theorem zdu {p : ProgramD} {l : List VarD} (h : zqr p l) : ∀ i, zqr p (yd p l i)
 | 0 => h
 | i + 1 => fun j hj => by
  have h1 := zdu h i
  have hj2 : j < (yd p l i).length := by rw [zM] at hj |-; exact hj
  have h2 := h1 j hj2
  have e : ((yd p l (i + 1))[j]).node = ((yd p l i)[j]).node := zjl p (yd p l i) i j hj2
  rw [e]; exact h2
theorem zaT (p : ProgramD) (l : List VarD) {j : Nat} (hj : j < l.length) : ∀ i, j < i -> (yd p l i)[j]'(by rw [zM]; exact hj) = (yd p l (j + 1))[j]'(by rw [zM]; exact hj)
 | 0, h => by omega
 | i + 1, h => by
  by_cases e : j = i
  · subst e; rfl
  · have h1 := zaT p l hj i (by omega)
    rw [<- h1]
    exact zhy p (yd p l i) i j (by rw [zM]; exact hj) (fun hh => e hh.symm)
def tyB (l : List VarD) (i : Nat) : Bool := !((l.getD i vr0).ty == 0)
noncomputable def yi (p : ProgramD) (fn : Int) : List VarD := yd p (YL p fn) (YL p fn).length
noncomputable def XQ (p : ProgramD) (fn : Int) : Bool := zL (tyB (yi p fn)) (yi p fn).length
theorem zmi {p : ProgramD} (hD : Deep p.nodes) (fn : Int) : zqr p (YL p fn) := by
 have key : ∀ v ∈ YL p fn, v.node < 0 \/ (v.node.toNat < p.nodes.length /\ 0 < (nAt p.nodes v.node).kids.length) := fun v hv => by
  unfold YL at hv
  split at hv
  · rcases List.mem_append.1 hv with hv | hv
    · unfold yf at hv
      obtain ⟨x, _, rfl⟩ := List.mem_map.1 hv
      left; simp [zcB]
    · unfold xb at hv
      obtain ⟨k, hk, hv⟩ := List.mem_flatMap.1 hv
      unfold letV at hv
      split at hv
      · rename_i h13
        simp at hv
        subst hv
        have hm := yb hk
        right
        refine ⟨hm.2.1, ?_⟩
        have hsh := zy (xJ (hD.deep _ hm.2.1) hm.2.1)
        rw [xE hm.2.1] at h13 |-
        have ek := eq_of_beq h13
        rw [ek] at hsh
        have := hsh.1
        simp [zJ] at this
        omega
      · simp at hv
  · simp at hv
 exact fun i h => key _ (lM h)
theorem zmj (l : List VarD) (i : Nat) (x : VarD) : (rows (varC false) l).set i [cS x.name, cI x.ty, cI x.node] = rows (varC false) (l.set i x) := zkz (varC false) l i x
theorem zgi (p : ProgramD) (hD : Deep p.nodes) (l : List VarD) (hl : l.length <= 4194304) (hf : p.fns.length <= 1048576) (hn : p.nodes.length <= 1048576) (hk : ∀ x ∈ p.nodes, x.kids.length <= 300) (n : Nat) (hnl : n < p.nodes.length) :
 zx Tryz.prog 67 [.ro (zb p), .ro (.imm 96 (rows (varC true) l)), .ro (.sc (.int .i64 n))] (fun rs st => rs = [(false, [cI (yn p l n)])]) := by
 have hty := Xm p hD l hl hf hn hk n hnl
 have hde := zbj p.nodes n hn (fun x hx => by have := hk x hx; omega)
 have hd0 : (ye p.nodes (n : Int) == 0) = false := by
  have h9 : inI (n : Int) 0 (p.nodes.length - 1) = true := by simp [inI]; omega
  have := hD.deep n hnl
  simp [ye, h9, this]
 simp only [zb] at hty
 refine zp (fn := Tryz.f67) (c := Tryz.f67.body.getD .skip) (res := [.tm 6]) (n := 16) ze (by kernel_rfl) (by rfl) (by kernel_rfl) (by rfl) (by rfl) (by simp [zu]) (fun uf ub C hpin hpin2 hfull => ?_)
 simp only [Tryz.f67, oD]
 refine Tri.step ze ?_
 simp +decide only [zb, za, hpin, go_sem, aD, mU]
 refine Tri.ent ?_ (Ent.frb hfull 3)
 refine Tri.step ze ?_
 simp +decide only [zb, za, hpin, go_sem, aD, mU]
 refine zd hde hpin ?_
 simp +decide only [hd0, zb, za, hpin, go_sem, aD, mU]
 refine zf ze _ ?_
 simp +decide only [zb, za, hpin, go_sem, aD, mU]
 refine zd hty hpin ?_
 simp +decide only [zb, za, hpin, go_sem, aD, mU]
theorem YF (p : ProgramD) (hD : Deep p.nodes) (fn : Int) (hf : p.fns.length <= 1048576) (hn : p.nodes.length <= 1048576) (hk : ∀ x ∈ p.nodes, x.kids.length <= 300) (hpl : ∀ f ∈ p.fns, f.params.length <= 1048576) :
 zx Tryz.prog 63 [.ro (zb p), .ro (.sc (.int .i64 fn))] (fun rs st => rs = [(false, [.row false 96 (rows (varC false) (yi p fn))])]) := by
 have hvs := zdq p fn hf hn (fun x hx => by have := hk x hx; omega) hpl
 have hvl := Zb p fn hpl hn
 have hok := zmi hD fn
 unfold yi
 generalize YL p fn = l at hvs hvl hok |-
 simp only [zb] at hvs
 refine zp (fn := Tryz.f63) (c := Tryz.f63.body.getD .skip) (res := [.tm 4]) (n := 42) ze (by kernel_rfl) (by rfl) (by kernel_rfl) (by rfl) (by rfl) (by simp [zu]) (fun uf ub C hpin hpin2 hfull => ?_)
 simp only [Tryz.f63, oD]
 refine Tri.step ze ?_
 simp +decide only [zb, za, hpin, go_sem, aD, mU]
 refine Tri.ent ?_ (Ent.frb hfull 2)
 refine Tri.step ze ?_
 simp +decide only [zb, za, hpin, go_sem, aD, mU]
 refine zd hvs hpin ?_
 simp +decide only [zb, za, hpin, go_sem, aD, mU]
 refine Tri.step ze ?_
 simp +decide only [zb, za, hpin, go_sem, aD, mU]
 refine Tri.loop (ι := Nat) (fun i => i <= l.length) (fun i => ⟨42, [(2, .ip (za true p) 0), (5, .ref 5 [] l.length), (11, vI l.length), (12, vI i)], [(5, .row 96 (rows (varC false) (yd p l i)))]⟩) (fun i => l.length - i) 0 (by simp) ?_ ?_
 · refine Ent.weak ?_ ?_ ?_ ?_ <;> simp +decide [subT, subB, zj, zi, zm, St.get, look, vI, vB, vS, cI, cS, cB, zg, za, roI, yd]
 · rintro i hi
   refine zf ze _ ?_
   have hpl2 := zM p l i
   by_cases h' : i < l.length
   · have e : ((i : Int) < (l.length : Int)) = True := by simp [h']
     have hok2 := zdu hok i
     have hnx : yd p l (i + 1) = zaa p (yd p l i) i := rfl
     generalize yd p l i = L at hpl2 hok2 hnx
     have hiL : i < L.length := by omega
     have hge : L.getD i vr0 = L[i] := by simp [List.getD, hiL]
     have htk := ym (varC false) L
     rw [hpl2] at htk
     unfold zaa tyOf at hnx
     rw [hge] at hnx
     have hq := Zl (varC false) L hiL
     have hqd := zk (varC false) L hiL
     simp only [varC] at hq hqd
     by_cases hneg : 0 <= L[i].node
     · have c1 : (0 <= L[i].node) = True := eq_true hneg
       obtain ⟨g1, g2⟩ := (hok2 i hiL).resolve_left (by omega)
       rw [if_pos hneg, xE g1] at hnx
       rw [xE g1] at g2
       have c2 : (L[i].node < (p.nodes.length : Int)) = True := eq_true (by omega)
       have hy : (rows (zg true) p.nodes).getD L[i].node.toNat [] = zg true p.nodes[L[i].node.toNat] := zk _ _ g1
       have hkd := hD.kid g1
       generalize p.nodes[L[i].node.toNat] = x at hy g2 hnx hkd
       have hk0 : x.kids.getD 0 0 = x.kids[0] := by simp [List.getD, g2]
       obtain ⟨q0, q1, q2⟩ := hkd x.kids[0] (lM g2)
       obtain ⟨m, hm⟩ : ∃ m : Nat, x.kids[0] = m := ⟨x.kids[0].toNat, by omega⟩
       have hty := zgi p hD L (by omega) hf hn hk m (by omega)
       rw [hk0, hm] at hnx
       have hg0 : (row1 cI x.kids).getD (Int.toNat 0) [] = [cI x.kids[0]] := zw cI x.kids g2
       rw [hm] at hg0
       have hc0 : ((0 : Int) < (x.kids.length : Int)) = True := eq_true (by omega)
       have hvst := zmj L i ⟨L[i].name, yn p L m, L[i].node⟩
       rw [<- hnx] at hvst
       simp only [zb] at hty
       simp only [cI, cS] at hvst hg0 hq hqd
       simp +decide only [e, h', c1, hq, hqd, iN, vB, vI, zb, za, hpin, go_sem, aD, mU]
       refine Tri.sched ze [(0, true), (1, true), (3, true), (4, true), (6, true), (7, true), (8, true), (9, true), (2, true), (5, true), (10, false), (11, false), (12, false), (13, false), (14, false), (15, false), (16, false), (17, false), (18, false), (19, false)] zO (by kernel_rfl) (fun C2 hC2 => ?_)
       have hp2 := zP hC2 hpin
       simp +decide only [e, h', c1, c2, hq, hqd, hy, zg, hg0, hc0, g2, htk, iN, zb, za, hp2, go_sem, aD, mU]
       refine zd hty hp2 ?_
       simp +decide only [e, hpl2, htk, h', hq, hqd, hvst, iN, zb, za, hp2, hpin, go_sem, aD, mU]
       refine ⟨i + 1, h', by omega, Ent.weak ?_ ?_ ?_ ?_⟩
       all_goals simp +decide [subT, subB, zj, zi, zm, St.get, look, vI, vB, vS, cI, cS, cB, zg, za, roI, w64s (n := l.length) h' (by omega)]
     · have c1 : (0 <= L[i].node) = False := eq_false hneg
       rw [if_neg hneg] at hnx
       simp +decide only [e, h', c1, hq, hqd, iN, vB, vI, zb, za, hpin, go_sem, aD, mU]
       refine ⟨i + 1, h', by omega, Ent.weak ?_ ?_ ?_ ?_⟩
       all_goals simp +decide [subT, subB, zj, zi, zm, St.get, look, vI, vB, vS, cI, cS, cB, zg, za, roI, hnx, w64s (n := l.length) h' (by omega)]
   · have hil : i = l.length := by omega
     subst hil
     have e : ((l.length : Int) < (l.length : Int)) = False := by simp
     simp +decide only [e, vB, vI, zb, za, hpin, go_sem, aD, mU]
     refine zf ze _ ?_
     simp +decide only [hpl2, zb, za, hpin, go_sem, aD, mU]
theorem zcy (p : ProgramD) (hR : yv p = true) (fn : Nat) (hfn : fn < p.fns.length) (hf : p.fns.length <= 1048576) (hn : p.nodes.length <= 1048576) (hk : ∀ x ∈ p.nodes, x.kids.length <= 1048576) (hpl : ∀ f ∈ p.fns, f.params.length <= 1048576) :
 zx Tryz.prog 117 [.ro (zb p), .ro (.sc (.int .i64 fn))] (fun rs st => rs = if XQ p fn then [(false, [.row false 96 (rows (varC false) (yi p fn))]), (false, [cB true])] else [(false, [.row false 96 []]), (false, [cB false])]) := by
 have hG := yh (Bool.and_eq_true_iff.1 hR).1
 have hk3 : ∀ x ∈ p.nodes, x.kids.length <= 300 := fun x hx => by have := hG.deep.few x hx; omega
 have hvs := YF p hG.deep fn hf hn hk3 hpl
 have hnr := Zw p hf hn hk hpl
 have hvl : (yi p fn).length <= 2097152 := by unfold yi; rw [zM]; exact Zb p fn hpl hn
 have hin : inI (fn : Int) 0 (p.fns.length - 1) = true := by simp [inI]; omega
 rw [hR] at hnr
 unfold XQ
 generalize yi p fn = l at hvs hvl |-
 simp only [zb] at hvs hnr
 have w1 : IntKind.i64.wrap ((p.fns.length : Int) - 1) = (p.fns.length : Int) - 1 := w64 (by omega) (by omega)
 refine zp (fn := Tryz.f117) (c := Tryz.f117.body.getD .skip) (res := [.tm 4, .tm 5]) (n := 35) ze (by kernel_rfl) (by rfl) (by kernel_rfl) (by rfl) (by rfl) (by simp [zu]) (fun uf ub C hpin hpin2 hfull => ?_)
 simp only [Tryz.f117, oD]
 refine Tri.step ze ?_
 simp +decide only [zb, za, hpin, go_sem, aD, mU]
 refine Tri.ent ?_ (Ent.frb hfull 2)
 refine Tri.step ze ?_
 simp +decide only [zb, za, hpin, go_sem, aD, mU]
 refine zd hnr hpin ?_
 simp +decide only [w1, zb, za, hpin, go_sem, aD, mU]
 refine zd (in' fn 0 (p.fns.length - 1)) hpin ?_
 simp +decide only [hin, zb, za, hpin, go_sem, aD, mU]
 refine Tri.step ze ?_
 simp +decide only [zb, za, hpin, go_sem, aD, mU]
 refine zd hvs hpin ?_
 simp +decide only [zb, za, hpin, go_sem, aD, mU]
 refine Tri.step ze ?_
 simp +decide only [zb, za, hpin, go_sem, aD, mU]
 have htk := ym (varC false) l
 refine Tri.loop (ι := Nat) (fun i => i <= l.length /\ zL (tyB l) i = true) (fun i => ⟨35, [(6, .ref 6 [] l.length), (24, .ref 6 [] l.length), (25, vI l.length), (26, vI i)], [(6, .row 96 (rows (varC false) l))]⟩) (fun i => l.length - i) 0 ⟨by simp, rfl⟩ ?_ ?_
 · refine Ent.weak ?_ ?_ ?_ ?_ <;> simp +decide [subT, subB, zj, zi, zm, St.get, look, vI, vB, vS, cI, cS, cB, zg, za, roI]
 · rintro i ⟨hi, hq⟩
   refine zf ze _ ?_
   by_cases h' : i < l.length
   · have e : ((i : Int) < (l.length : Int)) = True := by simp [h']
     have hge : tyB l i = !(l[i].ty == 0) := by simp [tyB, List.getD, h']
     simp +decide only [e, h', Zl _ _ h', zk _ _ h', varC, iN, vB, vI, zb, za, hpin, go_sem, aD, mU]
     cases hz : l[i].ty == 0 with
     | true =>
      have hff : zL (tyB l) l.length = false := zB h' (by rw [hge, hz]; rfl)
      rw [hff]
      simp +decide only [hz, zb, za, hpin, go_sem, aD, mU]
     | false =>
      simp +decide only [hz, zb, za, hpin, go_sem, aD, mU]
      refine ⟨i + 1, ⟨h', by rw [zQ, hq, hge, hz]; rfl⟩, by omega, Ent.weak ?_ ?_ ?_ ?_⟩
      all_goals simp +decide [subT, subB, zj, zi, zm, St.get, look, vI, vB, vS, cI, cS, cB, zg, za, roI, w64s (n := l.length) h' (by omega)]
   · have hil : i = l.length := by omega
     subst hil
     have e : ((l.length : Int) < (l.length : Int)) = False := by simp
     rw [hq]
     simp +decide only [e, vB, vI, zb, za, hpin, go_sem, aD, mU]
     refine zf ze _ ?_
     simp +decide only [htk, zb, za, hpin, go_sem, aD, mU]
theorem zct (p : ProgramD) (hD : Deep p.nodes) (fn : Int) (hf : p.fns.length <= 1048576) (hn : p.nodes.length <= 1048576) (hk : ∀ x ∈ p.nodes, x.kids.length <= 300) (hpl : ∀ f ∈ p.fns, f.params.length <= 1048576) :
 zx Tryz.prog 106 [.ro (zb p), .ro (.sc (.int .i64 fn))] (fun rs st => rs = if XQ p fn then [(false, [.row false 96 (rows (varC false) (yi p fn))]), (false, [cB true])] else [(false, [.row false 96 []]), (false, [cB false])]) := by
 have hvs := zdp p fn hf hn (fun x hx => by have := hk x hx; omega) hpl
 have hvl := Zb p fn hpl hn
 have hok := zmi hD fn
 unfold XQ yi
 generalize YL p fn = l at hvs hvl hok |-
 simp only [zb] at hvs
 have hll := zM p l l.length
 have hbad : ∀ i (h : i < l.length), (((yd p l (i + 1)).getD i vr0).ty == 0) = true -> zL (tyB (yd p l l.length)) (yd p l l.length).length = false := fun i h hz => by
  refine zB (i := i) (by omega) ?_
  have h1 := zaT p l h l.length h
  have h2 : (yd p l (i + 1)).getD i vr0 = (yd p l (i + 1))[i]'(by rw [zM]; exact h) := by simp [List.getD, zM, h]
  have h3 : (yd p l l.length).getD i vr0 = (yd p l l.length)[i]'(by rw [zM]; exact h) := by simp [List.getD, zM, h]
  unfold tyB
  rw [h3, h1, <- h2, hz]; rfl
 have hgood : (∀ i (h : i < l.length), (((yd p l (i + 1)).getD i vr0).ty == 0) = false) -> zL (tyB (yd p l l.length)) (yd p l l.length).length = true := fun hall => by
  rw [xy]
  intro i hi
  rw [hll] at hi
  have h1 := zaT p l hi l.length hi
  have h2 : (yd p l (i + 1)).getD i vr0 = (yd p l (i + 1))[i]'(by rw [zM]; exact hi) := by simp [List.getD, zM, hi]
  have h3 : (yd p l l.length).getD i vr0 = (yd p l l.length)[i]'(by rw [zM]; exact hi) := by simp [List.getD, zM, hi]
  unfold tyB
  rw [h3, h1, <- h2, hall i hi]; rfl
 refine zp (fn := Tryz.f106) (c := Tryz.f106.body.getD .skip) (res := [.tm 4, .tm 5]) (n := 50) ze (by kernel_rfl) (by rfl) (by kernel_rfl) (by rfl) (by rfl) (by simp [zu]) (fun uf ub C hpin hpin2 hfull => ?_)
 simp only [Tryz.f106, oD]
 refine Tri.step ze ?_
 simp +decide only [zb, za, hpin, go_sem, aD, mU]
 refine Tri.ent ?_ (Ent.frb hfull 2)
 refine Tri.step ze ?_
 simp +decide only [zb, za, hpin, go_sem, aD, mU]
 refine zd hvs hpin ?_
 simp +decide only [zb, za, hpin, go_sem, aD, mU]
 refine Tri.step ze ?_
 simp +decide only [zb, za, hpin, go_sem, aD, mU]
 refine Tri.loop (ι := Nat) (fun i => i <= l.length /\ ∀ j (h : j < l.length), j < i -> (((yd p l (j + 1)).getD j vr0).ty == 0) = false) (fun i => ⟨50, [(2, .ip (za true p) 0), (6, .ref 6 [] l.length), (7, vI i)], [(6, .row 96 (rows (varC false) (yd p l i)))]⟩) (fun i => l.length - i) 0 ⟨by simp, fun j hj h0 => by omega⟩ ?_ ?_
 · refine Ent.weak ?_ ?_ ?_ ?_ <;> simp +decide [subT, subB, zj, zi, zm, St.get, look, vI, vB, vS, cI, cS, cB, zg, za, roI, yd]
 · rintro i ⟨hi, hall⟩
   have hpl2 := zM p l i
   by_cases h' : i < l.length
   · have e : ((i : Int) < (l.length : Int)) = True := by simp [h']
     have hok2 := zdu hok i
     have hnx : yd p l (i + 1) = zaa p (yd p l i) i := rfl
     have hnl2 := zM p l (i + 1)
     have hbad2 := hbad i h'
     have hall2 : (((yd p l (i + 1)).getD i vr0).ty == 0) = false -> ∀ j (h : j < l.length), j < i + 1 -> (((yd p l (j + 1)).getD j vr0).ty == 0) = false := fun hz j hj hj2 => by
      by_cases ej : j = i
      · subst ej; exact hz
      · exact hall j hj (by omega)
     generalize zL (tyB (yd p l l.length)) (yd p l l.length).length = RB at hbad2 |-
     generalize yd p l l.length = FL at hbad2 |-
     have hgoal : ∀ j, j = i + 1 -> rows (varC false) (yd p l j) = rows (varC false) (yd p l (i + 1)) := fun j hj => by rw [hj]
     generalize hL : yd p l i = L at hpl2 hok2 hnx
     generalize hM : yd p l (i + 1) = M at hnx hnl2 hbad2 hall2
     have hiL : i < L.length := by omega
     have hiM : i < M.length := by omega
     have hge : L.getD i vr0 = L[i] := by simp [List.getD, hiL]
     have hgm : M.getD i vr0 = M[i] := by simp [List.getD, hiM]
     have htk := ym (varC false) L
     rw [hpl2] at htk
     rw [hgm] at hbad2 hall2
     have hnx0 := hnx
     unfold zaa tyOf at hnx
     rw [hge] at hnx
     have hq := Zl (varC false) L hiL
     have hqd := zk (varC false) L hiL
     have hqm := Zl (varC false) M hiM
     have hqdm := zk (varC false) M hiM
     simp only [varC, cI, cS] at hq hqd hqm hqdm
     have fin : ∀ (b : Bool), (M[i].ty == 0) = b -> True := fun _ _ => trivial
     refine zf ze _ ?_
     by_cases hneg : 0 <= L[i].node
     · have c1 : (0 <= L[i].node) = True := eq_true hneg
       obtain ⟨g1, g2⟩ := (hok2 i hiL).resolve_left (by omega)
       rw [if_pos hneg, xE g1] at hnx
       rw [xE g1] at g2
       have c2 : (L[i].node < (p.nodes.length : Int)) = True := eq_true (by omega)
       have hy : (rows (zg true) p.nodes).getD L[i].node.toNat [] = zg true p.nodes[L[i].node.toNat] := zk _ _ g1
       have hkd := hD.kid g1
       generalize p.nodes[L[i].node.toNat] = x at hy g2 hnx hkd
       have hk0 : x.kids.getD 0 0 = x.kids[0] := by simp [List.getD, g2]
       obtain ⟨q0, q1, q2⟩ := hkd x.kids[0] (lM g2)
       obtain ⟨m, hm⟩ : ∃ m : Nat, x.kids[0] = m := ⟨x.kids[0].toNat, by omega⟩
       have hty := Xl p hD L (by omega) hf hn hk m (by omega)
       rw [hk0, hm] at hnx
       have hg0 : (row1 cI x.kids).getD (Int.toNat 0) [] = [cI x.kids[0]] := zw cI x.kids g2
       rw [hm] at hg0
       have hc0 : ((0 : Int) < (x.kids.length : Int)) = True := eq_true (by omega)
       have hvst := zmj L i ⟨L[i].name, yn p L m, L[i].node⟩
       rw [<- hnx] at hvst
       simp only [zb] at hty
       simp only [cI, cS] at hvst hg0
       simp +decide only [e, h', c1, hq, hqd, iN, vB, vI, zb, za, hpin, go_sem, aD, mU]
       refine Tri.sched ze [(0, true), (1, true), (3, true), (4, true), (6, true), (7, true), (8, true), (9, true), (2, true), (5, true), (10, false), (11, false), (12, false), (13, false), (14, false), (15, false), (16, false), (17, false), (18, false), (19, false)] zO (by kernel_rfl) (fun C2 hC2 => ?_)
       have hp2 := zP hC2 hpin
       simp +decide only [e, h', c1, c2, hq, hqd, hy, zg, hg0, hc0, g2, htk, iN, zb, za, hp2, go_sem, aD, mU]
       refine zd hty hp2 ?_
       cases hz : M[i].ty == 0 with
       | true =>
        rw [hbad2 hz]
        simp +decide only [e, hpl2, htk, h', hq, hqd, hvst, hqm, hqdm, hz, iN, zb, za, hp2, hpin, go_sem, aD, mU]
       | false =>
       simp +decide only [e, hpl2, htk, h', hq, hqd, hvst, hqm, hqdm, hz, iN, zb, za, hp2, hpin, go_sem, aD, mU]
       refine ⟨i + 1, ⟨h', hall2 hz⟩, by omega, Ent.weak ?_ ?_ ?_ ?_⟩
       all_goals simp +decide [subT, subB, zj, zi, zm, St.get, look, vI, vB, vS, cI, cS, cB, zg, za, roI, hM, w64s (n := l.length) h' (by omega)]
     · have c1 : (0 <= L[i].node) = False := eq_false hneg
       rw [if_neg hneg] at hnx
       subst hnx
       cases hz : M[i].ty == 0 with
       | true =>
        rw [hbad2 hz]
        simp +decide only [e, h', c1, hq, hqd, hz, iN, vB, vI, zb, za, hpin, go_sem, aD, mU]
       | false =>
       simp +decide only [e, h', c1, hq, hqd, hz, iN, vB, vI, zb, za, hpin, go_sem, aD, mU]
       refine ⟨i + 1, ⟨h', hall2 hz⟩, by omega, Ent.weak ?_ ?_ ?_ ?_⟩
       all_goals simp +decide [subT, subB, zj, zi, zm, St.get, look, vI, vB, vS, cI, cS, cB, zg, za, roI, hM, w64s (n := l.length) h' (by omega)]
   · have hil : i = l.length := by omega
     subst hil
     have e : ((l.length : Int) < (l.length : Int)) = False := by simp
     have hRt := hgood (fun j hj => hall j hj hj)
     have htk := ym (varC false) (yd p l l.length)
     rw [hll] at htk
     refine zf ze _ ?_
     rw [hRt]
     simp +decide only [e, vB, vI, zb, za, hpin, go_sem, aD, mU]
     refine zf ze _ ?_
     simp +decide only [htk, hll, zb, za, hpin, go_sem, aD, mU]
def zfr (T : Int -> Int) (x : NodeD) : Int := if 0 < x.kids.length then T (x.kids.getD 0 0) else 0
def zfF (T : Int -> Int) (p : ProgramD) (l : List VarD) (x : NodeD) : Bool :=
 if x.kind == 13 then !(zfr T x == 0)
 else if x.kind == 14 then (zfr T x == yZ l x.name && (zfr T x == 1 || zfr T x == 2))
 else if x.kind == 15 then (zfr T x == 1 && (yZ l x.name == 2 || yZ l x.name == 4))
 else if x.kind == 16 || (x.kind == 17 || x.kind == 18) then zfr T x == 1
 else if x.kind == 19 then Xh T p (nAt p.nodes (x.kids.getD 0 0))
 else true
def stB (p : ProgramD) (l : List VarD) (m : Nat) : Bool := zfF (yn p l) p l (nAt p.nodes m)
open Classical in
noncomputable def Yq (p : ProgramD) (l : List VarD) (n : Nat) : Bool := decide (∀ m, Reach p.nodes n m -> stB p l m = true)
theorem zbN {p : ProgramD} (l : List VarD) {n : Nat} (hn : n < p.nodes.length) : Yq p l n = (stB p l n && p.nodes[n].kids.all (fun kid => Yq p l kid.toNat)) := by
 rw [Bool.eq_iff_iff, Bool.and_eq_true, List.all_eq_true]
 unfold Yq
 simp only [decide_eq_true_eq]
 constructor
 · intro h
   exact ⟨h n (.refl n), fun kid hk m hm => h m ((Reach.step (.refl n) hn hk).trans hm)⟩
 · rintro ⟨h1, h2⟩ m hm
   rcases hm.head with rfl | ⟨_, kid, hk, hr⟩
   · exact h1
   · exact h2 kid hk m hr
theorem zpl {p : ProgramD} (l : List VarD) {n : Nat} (hv : xV (nAt p.nodes n).kind = true) : stB p l n = true := by
 obtain ⟨v20, v16, v17, v19, v14, v15, v13⟩ := zmk hv
 have v18 : ((nAt p.nodes n).kind == 18) = false := by
  have := zy (show inI (nAt p.nodes n).kind 1 12 = true from hv)
  apply Bool.eq_false_iff.2; intro hh; have := eq_of_beq hh; omega
 unfold stB zfF
 rw [v13, v14, v15, v16, v17, v18, v19]; rfl
theorem znx {p : ProgramD} (hD : Deep p.nodes) (l : List VarD) (n : Nat) : n < p.nodes.length -> xV (nAt p.nodes n).kind = true -> Yq p l n = true := by
 induction n using Nat.strongRecOn with
 | ind n ih =>
 intro hn hv
 rw [zbN l hn, zpl l hv, Bool.true_and, List.all_eq_true]
 intro kid hk
 obtain ⟨i, hi, rfl⟩ := List.getElem_of_mem hk
 have hft := ZF (hD.deep n hn) hn hi
 rw [zR hn] at hv
 obtain ⟨v20, v16, v17, v19, _⟩ := zmk hv
 unfold yP at hft
 rw [v20, v16, v17, v19] at hft
 obtain ⟨q0, q1, q2⟩ := hD.kid hn _ hk
 have e : p.nodes[n].kids[i] = (p.nodes[n].kids[i].toNat : Int) := by omega
 refine ih _ q2 (by omega) ?_
 rw [<- e]; exact hft
theorem zhJ (p : ProgramD) (hD : Deep p.nodes) (l : List VarD) (hl : l.length <= 4194304) (hf : p.fns.length <= 1048576) (hn : p.nodes.length <= 1048576) (hk : ∀ x ∈ p.nodes, x.kids.length <= 300) (n : Nat) (hnl : n < p.nodes.length) :
 zx Tryz.prog 118 [.ro (zb p), .ro (.imm 96 (rows (varC true) l)), .ro (.sc (.int .i64 n))] (fun rs st => rs = [(false, [cB (stB p l n)])]) := by
 have hkid := hD.kid hnl
 have hsh := zy (xJ (hD.deep n hnl) hnl)
 have hx : (rows (zg true) p.nodes).getD n [] = zg true p.nodes[n] := zk _ _ hnl
 have hc1 : ((n : Int) < (p.nodes.length : Int)) = True := eq_true (by omega)
 unfold stB
 rw [zR hnl]
 generalize p.nodes[n] = x at hkid hsh hx
 have hvt := ZD l x.name hl
 obtain ⟨R, heq⟩ : ∃ R, R = zfF (yn p l) p l x := ⟨_, rfl⟩
 rw [<- heq]
 unfold zfF at heq
 generalize yZ l x.name = tv at hvt heq
 generalize hht : zfr (yn p l) x = t at heq
 refine zp (fn := Tryz.f118) (c := Tryz.f118.body.getD .skip) (res := [.tm 6]) (n := 76) ze (by kernel_rfl) (by rfl) (by kernel_rfl) (by rfl) (by rfl) (by simp [zu]) (fun uf ub C hpin hpin2 hfull => ?_)
 simp only [Tryz.f118, oD]
 refine Tri.step ze ?_
 simp +decide only [zb, za, hpin, go_sem, aD, mU]
 refine Tri.ent ?_ (Ent.frb hfull 3)
 refine Tri.step ze ?_
 simp +decide only [hc1, hx, zg, iN, zb, za, hpin, go_sem, aD, mU]
 refine Tri.ent ?_ (Ent.frb hfull 7)
 refine Tri.step ze ?_
 simp +decide only [zb, za, hpin, go_sem, aD, mU]
 refine Tri.stop ze ⟨76, [(1, .imm 96 (rows (varC true) l)), (3, .ip (za true p) 0), (7, .ip (zg true x) 0), (8, vI t)], []⟩ ?_ ?_
 · unfold zfr at hht
   by_cases hpos : 0 < x.kids.length
   · rw [if_pos hpos] at hht
     have hg0 : (row1 cI x.kids).getD (Int.toNat 0) [] = [cI x.kids[0]] := zw cI x.kids hpos
     have hc0 : ((0 : Int) < (x.kids.length : Int)) = True := eq_true (by omega)
     have hk0 : x.kids.getD 0 0 = x.kids[0] := by simp [List.getD, hpos]
     obtain ⟨q0, q1, q2⟩ := hkid x.kids[0] (lM hpos)
     obtain ⟨m, hm⟩ : ∃ m : Nat, x.kids[0] = m := ⟨x.kids[0].toNat, by omega⟩
     have hty := Xm p hD l hl hf hn hk m (by omega)
     rw [hk0, hm] at hht
     rw [hm] at hg0
     simp only [zb] at hty
     simp only [cI] at hg0
     simp +decide only [hc0, gt_iff_lt, zg, zb, za, hpin, go_sem, aD, mU]
     refine Tri.sched ze [(1, true), (2, true), (0, true), (3, false), (4, false), (5, false), (6, false), (7, false)] zO (by kernel_rfl) (fun C2 hC2 => ?_)
     have hp2 := zP hC2 hpin
     simp +decide only [hg0, hc0, hpos, zb, za, hp2, go_sem, aD, mU]
     refine zd hty hp2 ?_
     simp +decide only [hht, zb, za, hp2, hpin, go_sem, aD, mU]
     refine Ent.weak ?_ ?_ ?_ ?_ <;> simp +decide [subT, subB, zj, zi, zm, St.get, look, vI, vB, vS, cI, cS, cB, zg, za, roI]
   · rw [if_neg hpos] at hht
     have hc0 : ((0 : Int) < (x.kids.length : Int)) = False := eq_false (by omega)
     simp +decide only [hc0, gt_iff_lt, zg, zb, za, hpin, go_sem, aD, mU]
     refine Ent.weak ?_ ?_ ?_ ?_ <;> simp +decide [subT, subB, zj, zi, zm, St.get, look, vI, vB, vS, cI, cS, cB, zg, za, roI, <- hht]
 refine Tri.step ze ?_
 simp +decide only [zg, za, vB, vI, zb, za, hpin, go_sem, aD, mU]
 refine zd hvt hpin ?_
 simp +decide only [zb, za, hpin, go_sem, aD, mU]
 refine Tri.step ze ?_
 cases h13 : x.kind == 13 with
 | true =>
  have ek := eq_of_beq h13
  rw [ek] at heq
  simp +decide only [Bool.or_true, bT, bP, bO, if_true, if_false, Int.reduceBEq, bF] at heq
  simp +decide only [h13, heq, Bool.or_true, bT, bP, bO, bne, zg, zb, za, hpin, go_sem, aD, mU]
 | false =>
 cases h14 : x.kind == 14 with
 | true =>
  have ek := eq_of_beq h14
  rw [ek] at heq
  simp +decide only [Bool.or_true, bT, bP, bO, if_true, if_false, Int.reduceBEq, bF] at heq
  cases e1 : t == tv with
  | false =>
   simp only [e1, Bool.true_and, Bool.false_and, bT, bO, bP] at heq
   simp +decide only [h13, h14, e1, heq, Bool.or_true, bT, bP, bO, bne, zg, zb, za, hpin, go_sem, aD, mU]
  | true =>
  cases e2 : t == 1 with
  | true =>
   simp only [e1, e2, Bool.true_and, Bool.false_and, bT, bO, bP] at heq
   simp +decide only [h13, h14, e1, e2, heq, Bool.or_true, bT, bP, bO, bne, zg, zb, za, hpin, go_sem, aD, mU]
  | false =>
  cases e3 : t == 2 with
  | true =>
   simp only [e1, e2, e3, Bool.true_and, Bool.false_and, bT, bO, bP] at heq
   simp +decide only [h13, h14, e1, e2, e3, heq, Bool.or_true, bT, bP, bO, bne, zg, zb, za, hpin, go_sem, aD, mU]
  | false =>
   simp only [e1, e2, e3, Bool.true_and, Bool.false_and, bT, bO, bP] at heq
   simp +decide only [h13, h14, e1, e2, e3, heq, Bool.or_true, bT, bP, bO, bne, zg, zb, za, hpin, go_sem, aD, mU]
 | false =>
 cases h15 : x.kind == 15 with
 | true =>
  have ek := eq_of_beq h15
  rw [ek] at heq
  simp +decide only [Bool.or_true, bT, bP, bO, if_true, if_false, Int.reduceBEq, bF] at heq
  cases e1 : t == 1 with
  | false =>
   simp only [e1, Bool.true_and, Bool.false_and, bT, bO, bP] at heq
   simp +decide only [h13, h14, h15, e1, heq, Bool.or_true, bT, bP, bO, bne, zg, zb, za, hpin, go_sem, aD, mU]
  | true =>
  cases e2 : tv == 2 with
  | true =>
   simp only [e1, e2, Bool.true_and, Bool.false_and, bT, bO, bP] at heq
   simp +decide only [h13, h14, h15, e1, e2, heq, Bool.or_true, bT, bP, bO, bne, zg, zb, za, hpin, go_sem, aD, mU]
  | false =>
  cases e3 : tv == 4 with
  | true =>
   simp only [e1, e2, e3, Bool.true_and, Bool.false_and, bT, bO, bP] at heq
   simp +decide only [h13, h14, h15, e1, e2, e3, heq, Bool.or_true, bT, bP, bO, bne, zg, zb, za, hpin, go_sem, aD, mU]
  | false =>
   simp only [e1, e2, e3, Bool.true_and, Bool.false_and, bT, bO, bP] at heq
   simp +decide only [h13, h14, h15, e1, e2, e3, heq, Bool.or_true, bT, bP, bO, bne, zg, zb, za, hpin, go_sem, aD, mU]
 | false =>
 cases h16 : x.kind == 16 with
 | true =>
  have ek := eq_of_beq h16
  rw [ek] at heq
  simp +decide only [Bool.or_true, bT, bP, bO, if_true, if_false, Int.reduceBEq, bF] at heq
  simp +decide only [h13, h14, h15, h16, heq, Bool.or_true, bT, bP, bO, bne, zg, zb, za, hpin, go_sem, aD, mU]
 | false =>
 cases h17 : x.kind == 17 with
 | true =>
  have ek := eq_of_beq h17
  rw [ek] at heq
  simp +decide only [Bool.or_true, bT, bP, bO, if_true, if_false, Int.reduceBEq, bF] at heq
  simp +decide only [h13, h14, h15, h16, h17, heq, Bool.or_true, bT, bP, bO, bne, zg, zb, za, hpin, go_sem, aD, mU]
 | false =>
 cases h18 : x.kind == 18 with
 | true =>
  have ek := eq_of_beq h18
  rw [ek] at heq
  simp +decide only [Bool.or_true, bT, bP, bO, if_true, if_false, Int.reduceBEq, bF] at heq
  simp +decide only [h13, h14, h15, h16, h17, h18, heq, Bool.or_true, bT, bP, bO, bne, zg, zb, za, hpin, go_sem, aD, mU]
 | false =>
 cases h19 : x.kind == 19 with
 | true =>
  have ek := eq_of_beq h19
  rw [ek] at heq
  simp +decide only [Bool.or_true, bT, bP, bO, if_true, if_false, Int.reduceBEq, bF] at heq
  have hpos : 0 < x.kids.length := by rw [ek] at hsh; have := hsh.1; simp [zJ] at this; omega
  have hg0 : (row1 cI x.kids).getD (Int.toNat 0) [] = [cI x.kids[0]] := zw cI x.kids hpos
  have hc0 : ((0 : Int) < (x.kids.length : Int)) = True := eq_true (by omega)
  have hk0 : x.kids.getD 0 0 = x.kids[0] := by simp [List.getD, hpos]
  obtain ⟨q0, q1, q2⟩ := hkid x.kids[0] (lM hpos)
  obtain ⟨m, hm⟩ : ∃ m : Nat, x.kids[0] = m := ⟨x.kids[0].toNat, by omega⟩
  have hml : m < p.nodes.length := by omega
  have hcr := zbR p l hl hf hn hk m hml (fun kid hkk => by
   obtain ⟨r0, r1, r2⟩ := hD.kid hml kid hkk
   have e : kid = (kid.toNat : Int) := by omega
   have := Xm p hD l hl hf hn hk kid.toNat (by omega)
   rw [<- e] at this
   exact this)
  rw [hk0, hm, zR hml] at heq
  rw [<- heq] at hcr
  rw [hm] at hg0
  simp only [zb] at hcr
  simp only [cI] at hg0
  simp +decide only [h13, h14, h15, h16, h17, h18, h19, Bool.or_true, bT, bP, bO, bne, zg, zb, za, hpin, go_sem, aD, mU]
  refine Tri.sched ze [(1, true), (2, true), (0, true), (3, false), (4, false), (5, false), (6, false), (7, false)] zO (by kernel_rfl) (fun C2 hC2 => ?_)
  have hp2 := zP hC2 hpin
  simp +decide only [hg0, hc0, hpos, zb, za, hp2, go_sem, aD, mU]
  refine zd hcr hp2 ?_
  simp +decide only [zb, za, hp2, hpin, go_sem, aD, mU]
 | false =>
 simp +decide only [h13, h14, h15, h16, h17, h18, h19, bP, if_false, bF] at heq
 simp +decide only [h13, h14, h15, h16, h17, h18, h19, Bool.or_true, bT, bP, bO, bne, zg, zb, za, hpin, go_sem, aD, mU]
 refine zf ze _ ?_
 simp +decide only [heq, zb, za, hpin, go_sem, aD, mU]
noncomputable def xc (p : ProgramD) (i : Nat) : Bool := XQ p i && (Yq p (yi p i) (fAt p.fns i).body.toNat && (decide ((fAt p.fns i).ret < 0) || yn p (yi p i) (fAt p.fns i).ret == (fAt p.fns i).res))
noncomputable def zX (p : ProgramD) : Bool := yv p && zL (xc p) p.fns.length
theorem zlm {p : ProgramD} (l : List VarD) {b : Nat} (hd : dAt p.nodes b ≠ 0) : (xn p.nodes b).all (fun x => stB p l x.toNat) = Yq p l b := by
 rw [Bool.eq_iff_iff, List.all_eq_true]
 unfold Yq
 simp only [decide_eq_true_eq]
 constructor
 · intro h m hm
   have := h (m : Int) (by unfold xn; exact List.mem_map.2 ⟨m, (Zd hd).2 hm, rfl⟩)
   exact this
 · intro h x hx
   unfold xn at hx
   obtain ⟨m, hm, rfl⟩ := List.mem_map.1 hx
   exact h m ((Zd hd).1 hm)
theorem xI (p : ProgramD) (fn : Int) (hpl : ∀ f ∈ p.fns, f.params.length <= 1048576) (hn : p.nodes.length <= 1048576) : (yi p fn).length <= 2097152 := by
 unfold yi; rw [zM]; exact Zb p fn hpl hn
theorem YP (p : ProgramD) (hf : p.fns.length <= 1048576) (hn : p.nodes.length <= 1048576) (hk : ∀ x ∈ p.nodes, x.kids.length <= 1048576) (hpl : ∀ f ∈ p.fns, f.params.length <= 1048576) : zx Tryz.prog 39 [.ro (zb p)] (fun rs st => rs = [(false, [cB (zX p)])]) := by
 have hps := Zw p hf hn hk hpl
 simp only [zb] at hps
 unfold zX
 refine zp (fn := Tryz.f39) (c := Tryz.f39.body.getD .skip) (res := [.tm 2]) (n := 58) ze (by kernel_rfl) (by rfl) (by kernel_rfl) (by rfl) (by rfl) (by simp [zu]) (fun uf ub C hpin hpin2 hfull => ?_)
 simp only [Tryz.f39, oD]
 refine Tri.step ze ?_
 simp +decide only [zb, za, hpin, go_sem, aD, mU]
 refine Tri.ent ?_ (Ent.frb hfull 1)
 refine Tri.step ze ?_
 simp +decide only [zb, za, hpin, go_sem, aD, mU]
 refine zd hps hpin ?_
 cases h0 : yv p with
 | false => simp +decide only [zb, za, hpin, go_sem, aD, mU]
 | true =>
 have hG := yh (Bool.and_eq_true_iff.1 h0).1
 have hk3 : ∀ x ∈ p.nodes, x.kids.length <= 300 := fun x hx => by have := hG.deep.few x hx; omega
 simp +decide only [zb, za, hpin, go_sem, aD, mU]
 refine Tri.step ze ?_
 simp +decide only [zb, za, hpin, go_sem, aD, mU]
 refine Tri.loop (ι := Nat) (fun i => i <= p.fns.length /\ zL (xc p) i = true) (fun i => ⟨58, [(1, .ip (za true p) 0), (2, vB false), (13, .imm 104 (rows (fnC true) p.fns)), (14, vI p.fns.length), (15, vI i)], []⟩) (fun i => p.fns.length - i) 0 ⟨by simp, rfl⟩ ?_ ?_
 · refine Ent.weak ?_ ?_ ?_ ?_ <;> simp +decide [subT, subB, zj, zi, zm, St.get, look, vI, vB, vS, cI, cS, cB, zg, za, roI]
 · rintro i ⟨hi, hq⟩
   refine zf ze _ ?_
   by_cases h' : i < p.fns.length
   · have e : ((i : Int) < (p.fns.length : Int)) = True := by simp [h']
     have hx : (rows (fnC true) p.fns).getD i [] = fnC true p.fns[i] := zk _ _ h'
     have hok := hG.fn i h'
     have hfe : xc p i = (XQ p i && (Yq p (yi p i) p.fns[i].body.toNat && (decide (p.fns[i].ret < 0) || yn p (yi p i) p.fns[i].ret == p.fns[i].res))) := by unfold xc; rw [yS h']
     obtain ⟨⟨b0, b1⟩, hret⟩ := ZY hok
     generalize p.fns[i] = g at hx hok hfe b0 b1 hret
     have hts := zcy p h0 i h' hf hn hk hpl
     have hll := xI p i hpl hn
     simp only [zb] at hts
     simp +decide only [e, h', hx, fnC, iN, za, vB, vI, zb, za, hpin, go_sem, aD, mU]
     cases hB : XQ p i with
     | false =>
      have hff : zL (xc p) p.fns.length = false := zB h' (by rw [hfe, hB]; rfl)
      rw [hB] at hts
      simp only [if_false, bF] at hts
      refine zd hts hpin ?_
      simp +decide only [hff, zb, za, hpin, go_sem, aD, mU]
     | true =>
     rw [hB] at hts
     rw [hB, Bool.true_and] at hfe
     simp only [if_true] at hts
     refine zd hts hpin ?_
     generalize yi p i = l at hll hfe |-
     obtain ⟨b, hbb⟩ : ∃ b : Nat, g.body = b := ⟨g.body.toNat, by omega⟩
     have hbl : b < p.nodes.length := by omega
     have hun := zdt p.nodes b (hG.deep.deep b hbl) hn hk
     have hud := zlm l (hG.deep.deep b hbl)
     have hum : ∀ j (hj : j < (xn p.nodes b).length), 0 <= (xn p.nodes b)[j] /\ (xn p.nodes b)[j].toNat < p.nodes.length := fun j hj => by
      have hm := lM hj
      unfold xn at hm
      obtain ⟨m, hm, he⟩ := List.mem_map.1 hm
      have hm2 := ((Zd (hG.deep.deep b hbl)).1 hm).le (hG.deep.deep b hbl)
      unfold xn at hj |-
      rw [<- he]
      constructor
      · omega
      · simp; omega
     rw [hbb] at hfe
     rw [show (b : Int).toNat = b by omega] at hfe
     simp +decide only [hbb, zb, za, hpin, go_sem, aD, mU]
     refine zd hun hpin ?_
     simp +decide only [zb, za, hpin, go_sem, aD, mU]
     have hul : (xn p.nodes b).length <= b + 1 := by have := zbk p.nodes b; simpa [xn] using this
     generalize xn p.nodes b = U at hud hum hul |-
     refine Tri.ent ?_ (Ent.frz hfull 5)
     refine Tri.ent ?_ (Ent.frb hfull 4)
     simp +decide only [zb, za, hpin, go_sem, aD, mU]
     refine Tri.loop (ι := Nat) (fun j => j <= U.length /\ (U.take j).all (fun x => stB p l x.toNat) = true) (fun j => ⟨58, [(1, .ip (za true p) 0), (2, vB false), (3, vI i), (4, .ip [cS g.name, .row true 107 (rows (zn true) g.params), cI g.res, cI b, cI g.ret] 0), (5, .imm 96 (rows (varC true) l)), (13, .imm 104 (rows (fnC true) p.fns)), (14, vI p.fns.length), (15, vI i), (32, .ref 3032 [] U.length), (33, vI U.length), (34, vI j)], [(3032, .row 3 (row1 cI U))]⟩) (fun j => U.length - j) 0 ⟨by simp, by simp⟩ ?_ ?_
     · refine Ent.weak ?_ ?_ ?_ ?_ <;> simp +decide [subT, subB, zj, zi, zm, St.get, look, vI, vB, vS, cI, cS, cB, zg, za, roI]
     · rintro j ⟨hj, hq2⟩
       refine zf ze _ ?_
       by_cases hj' : j < U.length
       · have e2 : ((j : Int) < (U.length : Int)) = True := by simp [hj']
         obtain ⟨g0, g1⟩ := hum j hj'
         obtain ⟨m, hm⟩ : ∃ m : Nat, U[j] = m := ⟨U[j].toNat, by omega⟩
         have hml : m < p.nodes.length := by omega
         have hsr := zhJ p hG.deep l (by omega) hf hn hk3 m hml
         have hUj : stB p l U[j].toNat = stB p l m := by rw [hm]; rfl
         simp only [zb] at hsr
         simp +decide only [e2, hj', zW _ _ hj', hm, iN, za, vB, vI, zb, za, hpin, go_sem, aD, mU]
         refine zd hsr hpin ?_
         cases hc : stB p l m with
         | false =>
          have hff2 : U.all (fun x => stB p l x.toNat) = false := by rw [List.all_eq_false]; exact ⟨U[j], lM hj', by rw [hUj, hc]; decide⟩
          rw [hud] at hff2
          rw [hff2, Bool.false_and] at hfe
          have hff : zL (xc p) p.fns.length = false := zB h' hfe
          simp +decide only [hff, zb, za, hpin, go_sem, aD, mU]
         | true =>
          simp +decide only [zb, za, hpin, go_sem, aD, mU]
          refine ⟨j + 1, ⟨hj', by rw [zbU hj', hq2, hUj, hc]; rfl⟩, by omega, Ent.weak ?_ ?_ ?_ ?_⟩
          all_goals simp +decide [subT, subB, zj, zi, zm, St.get, look, vI, vB, vS, cI, cS, cB, zg, za, roI, w64s (n := U.length) hj' (by omega)]
       · have hjl : j = U.length := by omega
         subst hjl
         have e2 : ((U.length : Int) < (U.length : Int)) = False := by simp
         rw [List.take_length, hud] at hq2
         rw [hq2, Bool.true_and] at hfe
         simp +decide only [e2, za, vB, vI, zb, za, hpin, go_sem, aD, mU]
         refine Tri.sched ze [(0, false), (1, false), (2, false), (3, false), (5, true), (6, true), (9, true), (4, true), (7, true), (10, true), (8, false), (11, false), (12, false)] zO (by kernel_rfl) (fun C2 hC2 => ?_)
         have hp2 := zP hC2 hpin
         rcases hret with hneg | ⟨x0, x1⟩
         · have y0 : (0 <= g.ret) = False := eq_false (by omega)
           have y1 : decide (g.ret < 0) = true := decide_eq_true hneg
           rw [y1, bT] at hfe
           simp +decide only [y0, ge_iff_le, zb, za, hp2, hpin, go_sem, aD, mU]
           refine ⟨i + 1, ⟨h', by rw [zQ, hq, hfe]; rfl⟩, by omega, Ent.weak ?_ ?_ ?_ ?_⟩
           all_goals simp +decide [subT, subB, zj, zi, zm, St.get, look, vI, vB, vS, cI, cS, cB, zg, za, roI, w64s (n := p.fns.length) h' (by omega)]
         · have y0 : (0 <= g.ret) = True := eq_true x0
           have y1 : decide (g.ret < 0) = false := decide_eq_false (by omega)
           rw [y1, bO] at hfe
           obtain ⟨r, hrr⟩ : ∃ r : Nat, g.ret = r := ⟨g.ret.toNat, by omega⟩
           have hrl : r < p.nodes.length := by omega
           have hty := Xm p hG.deep l (by omega) hf hn hk3 r hrl
           rw [hrr] at hfe
           simp only [zb] at hty
           simp +decide only [y0, hrr, ge_iff_le, iN, zb, za, hp2, go_sem, aD, mU]
           refine zd hty hp2 ?_
           cases g2 : yn p l r == g.res with
           | false =>
            rw [g2] at hfe
            have hff : zL (xc p) p.fns.length = false := zB h' hfe
            simp +decide only [g2, hff, bne, zb, za, hp2, hpin, go_sem, aD, mU]
           | true =>
            rw [g2] at hfe
            simp +decide only [g2, bne, zb, za, hp2, hpin, go_sem, aD, mU]
            refine ⟨i + 1, ⟨h', by rw [zQ, hq, hfe]; rfl⟩, by omega, Ent.weak ?_ ?_ ?_ ?_⟩
            all_goals simp +decide [subT, subB, zj, zi, zm, St.get, look, vI, vB, vS, cI, cS, cB, zg, za, roI, w64s (n := p.fns.length) h' (by omega)]
   · have hil : i = p.fns.length := by omega
     subst hil
     have e : ((p.fns.length : Int) < (p.fns.length : Int)) = False := by simp
     simp +decide only [e, vB, vI, zb, za, hpin, go_sem, aD, mU]
     refine zf ze _ ?_
     simp +decide only [hq, zb, za, hpin, go_sem, aD, mU]
theorem zqp {f : Int -> Bool} : ∀ l : List Int, l.length = 1 -> l.all f = f (l.getD 0 0)
 | [a], _ => by simp
theorem zqo {f : Int -> Bool} : ∀ l : List Int, l.length = 2 -> l.all f = (f (l.getD 0 0) && f (l.getD 1 0))
 | [a, b], _ => by simp
theorem znH {f : Int -> Bool} : ∀ l : List Int, l.length = 3 -> l.all f = (f (l.getD 0 0) && (f (l.getD 1 0) && f (l.getD 2 0)))
 | [a, b, c], _ => by simp
def zkr (p : ProgramD) (l : List VarD) (n : Nat) : Prop := XG (nAt p.nodes n).kind = true ->
 zx Tryz.prog 168 [.ro (zb p), .ro (.imm 96 (rows (varC true) l)), .ro (.sc (.int .i64 n))] (fun rs st => rs = [(false, [cB (Yq p l n)])])
def zhs (p : ProgramD) (l : List VarD) (n : Nat) : Prop := (nAt p.nodes n).kind == 20 ->
 zx Tryz.prog 107 [.ro (zb p), .ro (.imm 96 (rows (varC true) l)), .ro (.sc (.int .i64 n))] (fun rs st => rs = [(false, [cB (Yq p l n)])])
theorem zmr (p : ProgramD) (hD : Deep p.nodes) (l : List VarD) (hk : ∀ x ∈ p.nodes, x.kids.length <= 300) (n : Nat) (hnl : n < p.nodes.length) (ih : ∀ m, m < n -> zkr p l m) : zhs p l n := by
 intro h20
 have heq := zbN l hnl
 have hst : stB p l n = true := by
  unfold stB zfF
  have ek := eq_of_beq h20
  rw [ek]; rfl
 rw [hst, Bool.true_and] at heq
 rw [zR hnl] at h20
 have hkid := hD.kid hnl
 have hkx := hk p.nodes[n] (lM hnl)
 have hx : (rows (zg true) p.nodes).getD n [] = zg true p.nodes[n] := zk _ _ hnl
 have hrec : ∀ i (hi : i < p.nodes[n].kids.length), zx Tryz.prog 168 [.ro (zb p), .ro (.imm 96 (rows (varC true) l)), .ro (.sc (.int .i64 p.nodes[n].kids[i]))] (fun rs st => rs = [(false, [cB (Yq p l p.nodes[n].kids[i].toNat)])]) := fun i hi => by
  have hft := ZF (hD.deep n hnl) hnl hi
  unfold yP at hft
  rw [h20, if_pos rfl] at hft
  obtain ⟨q0, q1, q2⟩ := hkid p.nodes[n].kids[i] (lM hi)
  have e : p.nodes[n].kids[i] = (p.nodes[n].kids[i].toNat : Int) := by omega
  have := ih p.nodes[n].kids[i].toNat q2 (by rw [<- e]; exact hft)
  rw [<- e] at this
  exact this
 generalize Yq p l n = R at heq |-
 have hc1 : ((n : Int) < (p.nodes.length : Int)) = True := eq_true (by omega)
 generalize p.nodes[n] = x at hkid hkx heq hx hrec
 simp only [zb] at hrec
 refine zp (fn := Tryz.f107) (c := Tryz.f107.body.getD .skip) (res := [.tm 6]) (n := 32) ze (by kernel_rfl) (by rfl) (by kernel_rfl) (by rfl) (by rfl) (by simp [zu]) (fun uf ub C hpin hpin2 hfull => ?_)
 simp only [Tryz.f107, oD]
 refine Tri.step ze ?_
 simp +decide only [zb, za, hpin, go_sem, aD, mU]
 refine Tri.ent ?_ (Ent.frb hfull 3)
 refine Tri.step ze ?_
 simp +decide only [zb, za, hpin, go_sem, aD, mU]
 refine Tri.loop (ι := Nat) (fun i => i <= x.kids.length /\ (x.kids.take i).all (fun kid => Yq p l kid.toNat) = true) (fun i => ⟨32, [(1, .imm 96 (rows (varC true) l)), (2, vI n), (3, .ip (za true p) 0), (6, vB false), (7, vI i)], []⟩) (fun i => x.kids.length - i) 0 ⟨by simp, by simp⟩ ?_ ?_
 · refine Ent.weak ?_ ?_ ?_ ?_ <;> simp +decide [subT, subB, zj, zi, zm, St.get, look, vI, vB, vS, cI, cS, cB, zg, za, roI]
 · rintro i ⟨hi, hq⟩
   refine zf ze _ ?_
   by_cases h' : i < x.kids.length
   · have e : ((i : Int) < (x.kids.length : Int)) = True := by simp [h']
     have hs := hrec i h'
     simp +decide only [e, hc1, hx, zg, iN, vB, vI, zb, za, hpin, go_sem, aD, mU]
     refine Tri.sched ze [(1, true), (2, true), (4, true), (8, true), (0, true), (3, false), (5, false), (6, false), (7, false), (9, false), (10, false), (11, false), (12, false)] zO (by kernel_rfl) (fun C2 hC2 => ?_)
     have hp2 := zP hC2 hpin
     simp +decide only [e, hc1, hx, h', zw _ _ h', zg, iN, zb, za, hp2, go_sem, aD, mU]
     refine zd hs hp2 ?_
     cases hc : Yq p l x.kids[i].toNat with
     | false =>
      have hff : x.kids.all (fun kid => Yq p l kid.toNat) = false := by rw [List.all_eq_false]; exact ⟨x.kids[i], lM h', by simp [hc]⟩
      rw [hff] at heq
      simp +decide only [heq, zb, za, hp2, hpin, go_sem, aD, mU]
     | true =>
      simp +decide only [zb, za, hp2, hpin, go_sem, aD, mU]
      refine ⟨i + 1, ⟨h', by rw [zbU h', hq, hc]; rfl⟩, by omega, Ent.weak ?_ ?_ ?_ ?_⟩
      all_goals simp +decide [subT, subB, zj, zi, zm, St.get, look, vI, vB, vS, cI, cS, cB, zg, za, roI, w64s (n := x.kids.length) h' (by omega)]
   · have hil : i = x.kids.length := by omega
     subst hil
     have e : ((x.kids.length : Int) < (x.kids.length : Int)) = False := by simp
     rw [List.take_length] at hq
     rw [hq] at heq
     simp +decide only [e, hc1, hx, zg, iN, vB, vI, zb, za, hpin, go_sem, aD, mU]
     refine zf ze _ ?_
     simp +decide only [heq, zb, za, hpin, go_sem, aD, mU]
theorem znQ (p : ProgramD) (hD : Deep p.nodes) (l : List VarD) (hl : l.length <= 4194304) (hf : p.fns.length <= 1048576) (hn : p.nodes.length <= 1048576) (hk : ∀ x ∈ p.nodes, x.kids.length <= 300) (n : Nat) (hnl : n < p.nodes.length) (ih : ∀ m, m < n -> zhs p l m) : zkr p l n := by
 intro hst
 have heq := zbN l hnl
 unfold stB at heq
 rw [zR hnl] at hst heq
 have hkid := hD.kid hnl
 have hx : (rows (zg true) p.nodes).getD n [] = zg true p.nodes[n] := zk _ _ hnl
 have hsr := zy (show inI p.nodes[n].kind 13 19 = true from hst)
 have v20 : (p.nodes[n].kind == 20) = false := by apply Bool.eq_false_iff.2; intro hh; have := eq_of_beq hh; omega
 have hsh := zy (xJ (hD.deep n hnl) hnl)
 have hpos : 0 < p.nodes[n].kids.length := by
  have h1 : 1 <= (zJ p.nodes[n].kind).1 := by
   rcases (show p.nodes[n].kind = 13 \/ p.nodes[n].kind = 14 \/ p.nodes[n].kind = 15 \/ p.nodes[n].kind = 16 \/ p.nodes[n].kind = 17 \/ p.nodes[n].kind = 18 \/ p.nodes[n].kind = 19 by omega) with h | h | h | h | h | h | h <;> rw [h] <;> decide
  omega
 have hv0 : Yq p l p.nodes[n].kids[0].toNat = true := by
  have hft := ZF (hD.deep n hnl) hnl hpos
  obtain ⟨q0, q1, q2⟩ := hkid p.nodes[n].kids[0] (lM hpos)
  have e : p.nodes[n].kids[0] = (p.nodes[n].kids[0].toNat : Int) := by omega
  refine znx hD l _ (by omega) ?_
  rw [<- e]
  unfold yP at hft
  have h00 : decide ((0 : Int) < ((0 : Nat) : Int)) = false := by decide
  rw [v20, if_neg (by decide), h00, Bool.and_false, if_neg (by decide)] at hft
  split at hft
  · have := eq_of_beq hft; rw [this]; decide
  · exact hft
 have hblk : ∀ i (hi : i < p.nodes[n].kids.length), 0 < i -> ((p.nodes[n].kind == 16) = true \/ (p.nodes[n].kind == 17) = true) -> zx Tryz.prog 107 [.ro (zb p), .ro (.imm 96 (rows (varC true) l)), .ro (.sc (.int .i64 p.nodes[n].kids[i]))] (fun rs st => rs = [(false, [cB (Yq p l p.nodes[n].kids[i].toNat)])]) := fun i hi hi0 h67 => by
  have hft := ZF (hD.deep n hnl) hnl hi
  unfold yP at hft
  have h68 : (p.nodes[n].kind == 16 || p.nodes[n].kind == 17) = true := by rw [Bool.or_eq_true]; exact h67
  have hi1 : decide ((0 : Int) < (i : Int)) = true := decide_eq_true (by omega)
  rw [v20, if_neg (by decide), h68, hi1, Bool.true_and, if_pos rfl] at hft
  obtain ⟨q0, q1, q2⟩ := hkid p.nodes[n].kids[i] (lM hi)
  have e : p.nodes[n].kids[i] = (p.nodes[n].kids[i].toNat : Int) := by omega
  have := ih p.nodes[n].kids[i].toNat q2 (by rw [<- e]; exact hft)
  rw [<- e] at this
  exact this
 generalize Yq p l n = R at heq |-
 have hc1 : ((n : Int) < (p.nodes.length : Int)) = True := eq_true (by omega)
 generalize p.nodes[n] = x at hkid hsh heq hx hsr hpos hv0 hblk
 have hvt := ZC l x.name hl
 have hg0 : (row1 cI x.kids).getD (Int.toNat 0) [] = [cI x.kids[0]] := zw cI x.kids hpos
 have hc0 : ((0 : Int) < (x.kids.length : Int)) = True := eq_true (by omega)
 have hk0 : x.kids.getD 0 0 = x.kids[0] := by simp [List.getD, hpos]
 obtain ⟨q0, q1, q2⟩ := hkid x.kids[0] (lM hpos)
 obtain ⟨m, hm⟩ : ∃ m : Nat, x.kids[0] = m := ⟨x.kids[0].toNat, by omega⟩
 have hml : m < p.nodes.length := by omega
 have hty := Xl p hD l hl hf hn hk m hml
 have hsg := zoW p l hf hk m hml (fun kid hkk => by
  obtain ⟨r0, r1, r2⟩ := hD.kid hml kid hkk
  have e : kid = (kid.toNat : Int) := by omega
  have := Xl p hD l hl hf hn hk kid.toNat (by omega)
  rw [<- e] at this
  exact this)
 have hone : x.kids.length = 1 -> x.kids.all (fun kid => Yq p l kid.toNat) = true := fun h1 => by rw [zqp _ h1, hk0]; exact hv0
 have hhead : zfr (yn p l) x = yn p l m := by unfold zfr; rw [if_pos hpos, hk0, hm]
 unfold zfF at heq
 rw [hhead, hk0, hm, zR hml] at heq
 rw [hm] at hg0
 generalize yZ l x.name = tv at hvt heq
 generalize yn p l m = t at hty heq
 simp only [zb] at hty hsg hblk
 simp only [cI] at hg0
 refine zp (fn := Tryz.f168) (c := Tryz.f168.body.getD .skip) (res := [.tm 6]) (n := 110) ze (by kernel_rfl) (by rfl) (by kernel_rfl) (by rfl) (by rfl) (by simp [zu]) (fun uf ub C hpin hpin2 hfull => ?_)
 simp only [Tryz.f168, oD]
 refine Tri.step ze ?_
 simp +decide only [zb, za, hpin, go_sem, aD, mU]
 refine Tri.ent ?_ (Ent.frb hfull 3)
 refine Tri.step ze ?_
 simp +decide only [hc1, hx, zg, iN, zb, za, hpin, go_sem, aD, mU]
 refine Tri.ent ?_ (Ent.frb hfull 7)
 refine Tri.step ze ?_
 simp +decide only [zb, za, hpin, go_sem, aD, mU]
 refine Tri.step ze ?_
 cases h19 : x.kind == 19 with
 | true =>
  have ek := eq_of_beq h19
  rw [ek] at heq hsh
  have h1 : x.kids.length = 1 := by have h1 := hsh.1; have h2 := hsh.2; simp [zJ] at h1 h2; omega
  rw [hone h1, Bool.and_true] at heq
  simp +decide only [Bool.or_true, bT, bP, bO, if_true, if_false, Int.reduceBEq, bF] at heq
  rw [<- heq] at hsg
  simp +decide only [h19, zg, zb, za, hpin, go_sem, aD, mU]
  refine Tri.fork ze (.one 1 true (.one 2 true (.one 0 true (.one 3 true (.one 4 true (.one 5 true (.two 6 (.one 7 true (.one 8 true (.one 9 true (.one 10 false (.one 11 false (.one 12 false .done)))))) 10 (.one 6 false (.one 7 false (.one 8 true (.one 9 true (.one 11 false (.one 12 false .done))))))))))))) zO (by kernel_rfl) (fun C2 hC2 => ?_)
  have hp2 := zP hC2 hpin
  simp +decide only [hg0, hc0, hpos, zb, za, hp2, go_sem, aD, mU]
  refine ⟨?_, ?_⟩
  all_goals refine zlg hsg hp2 ?_ ?_
  all_goals first | (simp +decide only [zb, za, hp2, go_sem, aD, mU]; done) | skip
  all_goals rintro ⟨qa, qz, qr, qb, qc⟩ hq
  all_goals unfold sigR
  all_goals simp +decide only [zb, za, hp2, hpin, go_sem, aD, mU]
 | false =>
 simp +decide only [h19, zg, zb, za, hpin, go_sem, aD, mU]
 refine Tri.step ze ?_
 refine Tri.sched ze [(1, true), (2, true), (0, true), (3, false), (4, false), (5, false), (6, false), (7, false)] zO (by kernel_rfl) (fun C2 hC2 => ?_)
 have hp2 := zP hC2 hpin
 simp +decide only [hg0, hc0, hpos, zg, zb, za, hp2, go_sem, aD, mU]
 refine zd hty hp2 ?_
 simp +decide only [zb, za, hp2, hpin, go_sem, aD, mU]
 refine Tri.step ze ?_
 simp +decide only [zb, za, hpin, go_sem, aD, mU]
 refine zd hvt hpin ?_
 simp +decide only [zb, za, hpin, go_sem, aD, mU]
 refine Tri.step ze ?_
 cases h13 : x.kind == 13 with
 | true =>
  have ek := eq_of_beq h13
  rw [ek] at heq hsh
  have hln : x.kids.length = 1 := by have h1 := hsh.1; have h2 := hsh.2; simp [zJ] at h1 h2; omega
  rw [hone hln, Bool.and_true] at heq
  simp +decide only [Bool.or_true, bT, bP, bO, if_true, if_false, Int.reduceBEq, bF] at heq
  simp +decide only [h19, h13, heq, Bool.or_true, bT, bP, bO, bne, zg, zb, za, hp2, hpin, go_sem, aD, mU]
 | false =>
 cases h14 : x.kind == 14 with
 | true =>
  have ek := eq_of_beq h14
  rw [ek] at heq hsh
  have hln : x.kids.length = 1 := by have h1 := hsh.1; have h2 := hsh.2; simp [zJ] at h1 h2; omega
  rw [hone hln, Bool.and_true] at heq
  simp +decide only [Bool.or_true, bT, bP, bO, if_true, if_false, Int.reduceBEq, bF] at heq
  cases e1 : t == tv with
  | false =>
   simp only [e1, Bool.true_and, Bool.false_and, bT, bO, bP] at heq
   simp +decide only [h19, h13, h14, e1, heq, Bool.or_true, bT, bP, bO, bne, zg, zb, za, hp2, hpin, go_sem, aD, mU]
  | true =>
  cases e2 : t == 1 with
  | true =>
   simp only [e1, e2, Bool.true_and, Bool.false_and, bT, bO, bP] at heq
   simp +decide only [h19, h13, h14, e1, e2, heq, Bool.or_true, bT, bP, bO, bne, zg, zb, za, hp2, hpin, go_sem, aD, mU]
  | false =>
  cases e3 : t == 2 with
  | true =>
   simp only [e1, e2, e3, Bool.true_and, Bool.false_and, bT, bO, bP] at heq
   simp +decide only [h19, h13, h14, e1, e2, e3, heq, Bool.or_true, bT, bP, bO, bne, zg, zb, za, hp2, hpin, go_sem, aD, mU]
  | false =>
   simp only [e1, e2, e3, Bool.true_and, Bool.false_and, bT, bO, bP] at heq
   simp +decide only [h19, h13, h14, e1, e2, e3, heq, Bool.or_true, bT, bP, bO, bne, zg, zb, za, hp2, hpin, go_sem, aD, mU]
 | false =>
 cases h15 : x.kind == 15 with
 | true =>
  have ek := eq_of_beq h15
  rw [ek] at heq hsh
  have hln : x.kids.length = 1 := by have h1 := hsh.1; have h2 := hsh.2; simp [zJ] at h1 h2; omega
  rw [hone hln, Bool.and_true] at heq
  simp +decide only [Bool.or_true, bT, bP, bO, if_true, if_false, Int.reduceBEq, bF] at heq
  cases e1 : t == 1 with
  | false =>
   simp only [e1, Bool.true_and, Bool.false_and, bT, bO, bP] at heq
   simp +decide only [h19, h13, h14, h15, e1, heq, Bool.or_true, bT, bP, bO, bne, zg, zb, za, hp2, hpin, go_sem, aD, mU]
  | true =>
  cases e2 : tv == 2 with
  | true =>
   simp only [e1, e2, Bool.true_and, Bool.false_and, bT, bO, bP] at heq
   simp +decide only [h19, h13, h14, h15, e1, e2, heq, Bool.or_true, bT, bP, bO, bne, zg, zb, za, hp2, hpin, go_sem, aD, mU]
  | false =>
  cases e3 : tv == 4 with
  | true =>
   simp only [e1, e2, e3, Bool.true_and, Bool.false_and, bT, bO, bP] at heq
   simp +decide only [h19, h13, h14, h15, e1, e2, e3, heq, Bool.or_true, bT, bP, bO, bne, zg, zb, za, hp2, hpin, go_sem, aD, mU]
  | false =>
   simp only [e1, e2, e3, Bool.true_and, Bool.false_and, bT, bO, bP] at heq
   simp +decide only [h19, h13, h14, h15, e1, e2, e3, heq, Bool.or_true, bT, bP, bO, bne, zg, zb, za, hp2, hpin, go_sem, aD, mU]
 | false =>
 cases h16 : x.kind == 16 with
 | true =>
  have hb67 : (x.kind == 16) = true \/ (x.kind == 17) = true := Or.inl h16
  have ek := eq_of_beq h16
  rw [ek] at heq hsh
  have hln : x.kids.length = 3 := by have h1 := hsh.1; have h2 := hsh.2; simp [zJ] at h1 h2; omega
  simp +decide only [Bool.or_true, bT, bP, bO, if_true, if_false, Int.reduceBEq, bF] at heq
  have hg1 : (row1 cI x.kids).getD (Int.toNat 1) [] = [cI (x.kids[1]'(by omega))] := zw cI x.kids (by omega)
  have hc01 : ((1 : Int) < (x.kids.length : Int)) = True := eq_true (by omega)
  have hk1 : x.kids.getD 1 0 = x.kids[1]'(by omega) := by simp [List.getD, show 1 < x.kids.length by omega]
  have hb1 := hblk 1 (by omega) (by omega) hb67
  have hg2 : (row1 cI x.kids).getD (Int.toNat 2) [] = [cI (x.kids[2]'(by omega))] := zw cI x.kids (by omega)
  have hc02 : ((2 : Int) < (x.kids.length : Int)) = True := eq_true (by omega)
  have hk2 : x.kids.getD 2 0 = x.kids[2]'(by omega) := by simp [List.getD, show 2 < x.kids.length by omega]
  have hb2 := hblk 2 (by omega) (by omega) hb67
  rw [znH _ hln, hk0, hk1, hk2, hv0, Bool.true_and] at heq
  simp only [cI] at hg1 hg2
  simp +decide only [h19, h13, h14, h15, h16, Bool.or_true, bT, bP, bO, bne, zg, zb, za, hp2, hpin, go_sem, aD, mU]
  refine Tri.sched ze [(0, false), (1, false), (2, false), (4, true), (5, true), (3, true), (6, false), (7, false), (8, false), (9, false), (10, false), (11, false), (13, true), (14, true), (12, true), (15, false), (16, false), (17, false), (18, false), (19, false), (20, false)] zO (by kernel_rfl) (fun C3 hC3 => ?_)
  have hp3 := zP hC3 hpin
  cases e1 : t == 1 with
  | false =>
   rw [e1, Bool.false_and] at heq
   simp +decide only [e1, heq, hg1, hg2, hc01, hc02, zb, za, hp3, hpin, go_sem, aD, mU]
   try (refine zf ze _ ?_; simp +decide only [heq, zb, za, hpin, go_sem, aD, mU])
  | true =>
  rw [e1, Bool.true_and] at heq
  simp +decide only [e1, hg1, hg2, hc01, hc02, show 1 < x.kids.length by omega, show 2 < x.kids.length by omega, zb, za, hp3, go_sem, aD, mU]
  refine zd hb1 hp3 ?_
  cases e2 : Yq p l (x.kids[1]'(by omega)).toNat with
  | false =>
   rw [e2, Bool.false_and] at heq
   simp +decide only [e2, heq, hg1, hg2, hc01, hc02, zb, za, hp3, hpin, go_sem, aD, mU]
   try (refine zf ze _ ?_; simp +decide only [heq, zb, za, hpin, go_sem, aD, mU])
  | true =>
  rw [e2, Bool.true_and] at heq
  simp +decide only [e2, hg1, hg2, hc01, hc02, show 1 < x.kids.length by omega, show 2 < x.kids.length by omega, zb, za, hp3, go_sem, aD, mU]
  refine zd hb2 hp3 ?_
  rw [<- heq]
  simp +decide only [zb, za, hp3, hpin, go_sem, aD, mU]
  try (refine zf ze _ ?_; simp +decide only [zb, za, hpin, go_sem, aD, mU])
 | false =>
 cases h17 : x.kind == 17 with
 | true =>
  have hb67 : (x.kind == 16) = true \/ (x.kind == 17) = true := Or.inr h17
  have ek := eq_of_beq h17
  rw [ek] at heq hsh
  have hln : x.kids.length = 2 := by have h1 := hsh.1; have h2 := hsh.2; simp [zJ] at h1 h2; omega
  simp +decide only [Bool.or_true, bT, bP, bO, if_true, if_false, Int.reduceBEq, bF] at heq
  have hg1 : (row1 cI x.kids).getD (Int.toNat 1) [] = [cI (x.kids[1]'(by omega))] := zw cI x.kids (by omega)
  have hc01 : ((1 : Int) < (x.kids.length : Int)) = True := eq_true (by omega)
  have hk1 : x.kids.getD 1 0 = x.kids[1]'(by omega) := by simp [List.getD, show 1 < x.kids.length by omega]
  have hb1 := hblk 1 (by omega) (by omega) hb67
  rw [zqo _ hln, hk0, hk1, hv0, Bool.true_and] at heq
  simp only [cI] at hg1
  simp +decide only [h19, h13, h14, h15, h16, h17, Bool.or_true, bT, bP, bO, bne, zg, zb, za, hp2, hpin, go_sem, aD, mU]
  refine Tri.sched ze [(0, false), (1, false), (2, false), (4, true), (5, true), (3, true), (6, false), (7, false), (8, false), (9, false), (10, false), (11, false)] zO (by kernel_rfl) (fun C3 hC3 => ?_)
  have hp3 := zP hC3 hpin
  cases e1 : t == 1 with
  | false =>
   rw [e1, Bool.false_and] at heq
   simp +decide only [e1, heq, hg1, hc01, zb, za, hp3, hpin, go_sem, aD, mU]
   try (refine zf ze _ ?_; simp +decide only [heq, zb, za, hpin, go_sem, aD, mU])
  | true =>
  rw [e1, Bool.true_and] at heq
  simp +decide only [e1, hg1, hc01, show 1 < x.kids.length by omega, zb, za, hp3, go_sem, aD, mU]
  refine zd hb1 hp3 ?_
  rw [<- heq]
  simp +decide only [zb, za, hp3, hpin, go_sem, aD, mU]
  try (refine zf ze _ ?_; simp +decide only [zb, za, hpin, go_sem, aD, mU])
 | false =>
 have h18 : (x.kind == 18) = true := by
  have g13 : x.kind ≠ 13 := by simpa using h13
  have g14 : x.kind ≠ 14 := by simpa using h14
  have g15 : x.kind ≠ 15 := by simpa using h15
  have g16 : x.kind ≠ 16 := by simpa using h16
  have g17 : x.kind ≠ 17 := by simpa using h17
  have g19 : x.kind ≠ 19 := by simpa using h19
  have : x.kind = 18 := by omega
  rw [this]; rfl
 have ek := eq_of_beq h18
 rw [ek] at heq hsh
 have hln : x.kids.length = 1 := by have h1 := hsh.1; have h2 := hsh.2; simp [zJ] at h1 h2; omega
 rw [hone hln, Bool.and_true] at heq
 simp +decide only [Bool.or_true, bT, bP, bO, if_true, if_false, Int.reduceBEq, bF] at heq
 simp +decide only [h19, h13, h14, h15, h16, h17, Bool.or_true, bT, bP, bO, bne, zg, zb, za, hp2, hpin, go_sem, aD, mU]
 refine zf ze _ ?_
 simp +decide only [heq, zb, za, hp2, hpin, go_sem, aD, mU]
theorem zmq (p : ProgramD) (hD : Deep p.nodes) (l : List VarD) (hl : l.length <= 4194304) (hf : p.fns.length <= 1048576) (hn : p.nodes.length <= 1048576) (hk : ∀ x ∈ p.nodes, x.kids.length <= 300) (n : Nat) : n < p.nodes.length -> zkr p l n /\ zhs p l n := by
 induction n using Nat.strongRecOn with
 | ind n ih =>
 intro hnl
 exact ⟨znQ p hD l hl hf hn hk n hnl (fun m hm => (ih m hm (by omega)).2), zmr p hD l hk n hnl (fun m hm => (ih m hm (by omega)).1)⟩
theorem YO (p : ProgramD) (hf : p.fns.length <= 1048576) (hn : p.nodes.length <= 1048576) (hk : ∀ x ∈ p.nodes, x.kids.length <= 1048576) (hpl : ∀ f ∈ p.fns, f.params.length <= 1048576) : zx Tryz.prog 34 [.ro (zb p)] (fun rs st => rs = [(false, [cB (zX p)])]) := by
 have hps := YY p hf hn hk hpl
 simp only [zb] at hps
 unfold zX
 refine zp (fn := Tryz.f34) (c := Tryz.f34.body.getD .skip) (res := [.tm 2]) (n := 53) ze (by kernel_rfl) (by rfl) (by kernel_rfl) (by rfl) (by rfl) (by simp [zu]) (fun uf ub C hpin hpin2 hfull => ?_)
 simp only [Tryz.f34, oD]
 refine Tri.step ze ?_
 simp +decide only [zb, za, hpin, go_sem, aD, mU]
 refine Tri.ent ?_ (Ent.frb hfull 1)
 refine Tri.step ze ?_
 simp +decide only [zb, za, hpin, go_sem, aD, mU]
 refine zd hps hpin ?_
 cases h0 : yv p with
 | false => simp +decide only [zb, za, hpin, go_sem, aD, mU]
 | true =>
 have hG := yh (Bool.and_eq_true_iff.1 h0).1
 have hk3 : ∀ x ∈ p.nodes, x.kids.length <= 300 := fun x hx => by have := hG.deep.few x hx; omega
 simp +decide only [zb, za, hpin, go_sem, aD, mU]
 refine Tri.step ze ?_
 simp +decide only [zb, za, hpin, go_sem, aD, mU]
 refine Tri.loop (ι := Nat) (fun i => i <= p.fns.length /\ zL (xc p) i = true) (fun i => ⟨53, [(1, .ip (za true p) 0), (2, vB false), (3, vI i)], []⟩) (fun i => p.fns.length - i) 0 ⟨by simp, rfl⟩ ?_ ?_
 · refine Ent.weak ?_ ?_ ?_ ?_ <;> simp +decide [subT, subB, zj, zi, zm, St.get, look, vI, vB, vS, cI, cS, cB, zg, za, roI]
 · rintro i ⟨hi, hq⟩
   refine zf ze _ ?_
   by_cases h' : i < p.fns.length
   · have e : ((i : Int) < (p.fns.length : Int)) = True := by simp [h']
     have hx : (rows (fnC true) p.fns).getD i [] = fnC true p.fns[i] := zk _ _ h'
     have hok := hG.fn i h'
     have hfe : xc p i = (XQ p i && (Yq p (yi p i) p.fns[i].body.toNat && (decide (p.fns[i].ret < 0) || yn p (yi p i) p.fns[i].ret == p.fns[i].res))) := by unfold xc; rw [yS h']
     obtain ⟨⟨b0, b1⟩, hret⟩ := ZY hok
     have hbk : (nAt p.nodes p.fns[i].body).kind == 20 := by
      simp only [XV, Bool.and_eq_true, zcm] at hok
      exact hok.2.2.2.2.1.2
     generalize p.fns[i] = g at hx hok hfe b0 b1 hret hbk
     have hts := zct p hG.deep i hf hn hk3 hpl
     have hll := xI p i hpl hn
     obtain ⟨b, hbb⟩ : ∃ b : Nat, g.body = b := ⟨g.body.toNat, by omega⟩
     have hbl : b < p.nodes.length := by omega
     rw [hbb] at hfe hbk
     rw [show (b : Int).toNat = b by omega] at hfe
     simp only [zb] at hts
     simp +decide only [e, h', iN, za, vB, vI, zb, za, hpin, go_sem, aD, mU]
     cases hB : XQ p i with
     | false =>
      have hff : zL (xc p) p.fns.length = false := zB h' (by rw [hfe, hB]; rfl)
      rw [hB] at hts
      simp only [if_false, bF] at hts
      refine zd hts hpin ?_
      simp +decide only [e, hx, fnC, hbb, iN, zb, za, hpin, go_sem, aD, mU]
      refine Tri.ent ?_ (Ent.frb hfull 6)
      simp +decide only [zb, za, hpin, go_sem, aD, mU]
      refine Tri.sched ze [(0, false), (1, false), (2, false), (4, true), (5, true), (3, true), (6, false), (7, false), (8, false), (9, false), (10, false), (11, false), (12, false), (13, false), (14, false), (16, true), (17, true), (20, true), (15, true), (18, true), (21, true), (19, false), (22, false), (23, false), (24, false)] zO (by kernel_rfl) (fun C2 hC2 => ?_)
      have hp2 := zP hC2 hpin
      simp +decide only [hff, zb, za, hp2, hpin, go_sem, aD, mU]
     | true =>
     rw [hB] at hts
     rw [hB, Bool.true_and] at hfe
     simp only [if_true] at hts
     refine zd hts hpin ?_
     generalize yi p i = l at hll hfe |-
     have hbs := (zmq p hG.deep l (by omega) hf hn hk3 b hbl).2 hbk
     have htk := ym (varC false) l
     have htk2 := ym (varC true) l
     simp only [zb] at hbs
     simp +decide only [e, hx, fnC, hbb, iN, zb, za, hpin, go_sem, aD, mU]
     refine Tri.ent ?_ (Ent.frb hfull 6)
     refine Tri.ent ?_ (Ent.frz hfull 4)
     simp +decide only [zb, za, hpin, go_sem, aD, mU]
     refine Tri.sched ze [(0, false), (1, false), (2, false), (4, true), (5, true), (3, true), (6, false), (7, false), (8, false), (9, false), (10, false), (11, false), (12, false), (13, false), (14, false), (16, true), (17, true), (20, true), (15, true), (18, true), (21, true), (19, false), (22, false), (23, false), (24, false)] zO (by kernel_rfl) (fun C2 hC2 => ?_)
     have hp2 := zP hC2 hpin
     simp +decide only [hbb, zb, za, hp2, go_sem, aD, mU]
     refine zd hbs hp2 ?_
     cases hc : Yq p l b with
     | false =>
      rw [hc, Bool.false_and] at hfe
      have hff : zL (xc p) p.fns.length = false := zB h' hfe
      simp +decide only [hff, zb, za, hp2, hpin, go_sem, aD, mU]
     | true =>
     rw [hc, Bool.true_and] at hfe
     rcases hret with hneg | ⟨x0, x1⟩
     · have y0 : (0 <= g.ret) = False := eq_false (by omega)
       have y1 : decide (g.ret < 0) = true := decide_eq_true hneg
       rw [y1, bT] at hfe
       simp +decide only [y0, ge_iff_le, zb, za, hp2, hpin, go_sem, aD, mU]
       refine ⟨i + 1, ⟨h', by rw [zQ, hq, hfe]; rfl⟩, by omega, Ent.weak ?_ ?_ ?_ ?_⟩
       all_goals simp +decide [subT, subB, zj, zi, zm, St.get, look, vI, vB, vS, cI, cS, cB, zg, za, roI, w64s (n := p.fns.length) h' (by omega)]
     · have y0 : (0 <= g.ret) = True := eq_true x0
       have y1 : decide (g.ret < 0) = false := decide_eq_false (by omega)
       rw [y1, bO] at hfe
       obtain ⟨r, hrr⟩ : ∃ r : Nat, g.ret = r := ⟨g.ret.toNat, by omega⟩
       have hrl : r < p.nodes.length := by omega
       have hty := Xl p hG.deep l (by omega) hf hn hk3 r hrl
       rw [hrr] at hfe
       simp only [zb] at hty
       simp +decide only [y0, hrr, ge_iff_le, iN, zb, za, hp2, go_sem, aD, mU]
       refine zd hty hp2 ?_
       cases g2 : yn p l r == g.res with
       | false =>
        rw [g2] at hfe
        have hff : zL (xc p) p.fns.length = false := zB h' hfe
        simp +decide only [g2, hff, bne, zb, za, hp2, hpin, go_sem, aD, mU]
       | true =>
        rw [g2] at hfe
        simp +decide only [g2, bne, zb, za, hp2, hpin, go_sem, aD, mU]
        refine ⟨i + 1, ⟨h', by rw [zQ, hq, hfe]; rfl⟩, by omega, Ent.weak ?_ ?_ ?_ ?_⟩
        all_goals simp +decide [subT, subB, zj, zi, zm, St.get, look, vI, vB, vS, cI, cS, cB, zg, za, roI, w64s (n := p.fns.length) h' (by omega)]
   · have hil : i = p.fns.length := by omega
     subst hil
     have e : ((p.fns.length : Int) < (p.fns.length : Int)) = False := by simp
     simp +decide only [e, vB, vI, zb, za, hpin, go_sem, aD, mU]
     refine zf ze _ ?_
     simp +decide only [hq, zb, za, hpin, go_sem, aD, mU]
noncomputable def YQ (p : ProgramD) (fn : Int) : Bool := yv p && (inI fn 0 (p.fns.length - 1) && XQ p fn)
noncomputable def zab (p : ProgramD) (fn : Int) : List VarD := if YQ p fn then yi p fn else []
theorem zgs {α : Type} (f : α -> Nat) (l m : List α) : sumN f (l ++ m) = sumN f l + sumN f m := by simp [sumN]
theorem zmv {α : Type} (f : α -> Nat) (l : List α) (n : Nat) : sumN f (l.drop n) <= sumN f l := by
 have := zgs f (l.take n) (l.drop n)
 rw [List.take_append_drop] at this
 omega
theorem zbo {α : Type} (f : α -> Nat) (x : α) (l : List α) : sumN f (x :: l) = f x + sumN f l := by simp [sumN]
theorem zmu (nodes : List NodeD) : ∀ (U : List Int) (a : Nat), U.Pairwise (· < ·) -> (∀ k ∈ U, (a : Int) <= k /\ k.toNat < nodes.length) -> sumN (fun k => zC (nAt nodes k)) U <= sumN zC (nodes.drop a)
 | [], a, _, _ => by simp [sumN]
 | k :: r, a, hp, hk => by
  obtain ⟨hp1, hp2⟩ := List.pairwise_cons.1 hp
  obtain ⟨g1, g2⟩ := hk k List.mem_cons_self
  have h1 := zmu nodes r (k.toNat + 1) hp2 (fun q hq => ⟨by have := hp1 q hq; omega, (hk q (List.mem_cons_of_mem _ hq)).2⟩)
  have e : nodes.drop k.toNat = nodes[k.toNat] :: nodes.drop (k.toNat + 1) := List.drop_eq_getElem_cons g2
  have h2 : sumN zC (nodes.drop k.toNat) <= sumN zC (nodes.drop a) := by
   have e2 : nodes.drop k.toNat = (nodes.drop a).drop (k.toNat - a) := by rw [List.drop_drop]; congr 1; omega
   rw [e2]; exact zmv _ _ _
  rw [e, zbo] at h2
  rw [zbo, xE g2]
  omega
theorem ziu (nodes : List NodeD) : ∀ U : List Int, (∀ k ∈ U, (nAt nodes k).kind == 13 -> 0 < (nAt nodes k).kids.length) -> (xb nodes U).length + sumN zdr (xb nodes U) <= sumN (fun k => zC (nAt nodes k)) U
 | [], _ => by simp [xb, sumN]
 | k :: r, h => by
  have h1 := ziu nodes r (fun q hq => h q (List.mem_cons_of_mem _ hq))
  have e : xb nodes (k :: r) = letV nodes k ++ xb nodes r := by simp [xb]
  rw [e, List.length_append, zgs, zbo]
  have h2 : (letV nodes k).length + sumN zdr (letV nodes k) <= zC (nAt nodes k) := by
   unfold letV
   split
   · rename_i h13
     have := h k List.mem_cons_self h13
     simp [sumN, zdr, zC]; omega
   · simp [sumN]
  omega
theorem zid : ∀ l : List ParamD, sumN zdr (yf l) = sumN zK l
 | [] => by simp [yf, sumN]
 | x :: r => by
  have h := zid r
  have e : yf (x :: r) = zcB x :: yf r := rfl
  rw [e, zbo, zbo, h]; rfl
theorem zqw {p : ProgramD} (hD : Deep p.nodes) (fn : Int) : (YL p fn).length + sumN zdr (YL p fn) <= zF p := by
 unfold YL
 split
 · rename_i h0
   have hr := zy h0
   obtain ⟨f, rfl⟩ : ∃ f : Nat, fn = f := ⟨fn.toNat, by omega⟩
   have hfl : f < p.fns.length := by omega
   rw [yS hfl, List.length_append, zgs, Zv, zid]
   have h1 := Zy ya hfl
   have h2 := ziu p.nodes (zI p.nodes p.fns[f].body) (fun k hk h13 => by
    have hm := yb hk
    have hsh := zy (xJ (hD.deep _ hm.2.1) hm.2.1)
    rw [xE hm.2.1] at h13 |-
    have ek := eq_of_beq h13
    rw [ek] at hsh
    have := hsh.1
    simp [zJ] at this
    omega)
   have h3 := zmu p.nodes (zI p.nodes p.fns[f].body) 0 (Xj _ _) (fun k hk => by have := yb hk; exact ⟨by omega, this.2.1⟩)
   rw [List.drop_zero] at h3
   have h4 : p.fns[f].params.length + sumN zK p.fns[f].params <= ya p.fns[f] := by unfold ya; omega
   unfold zF
   omega
 · simp [sumN]
theorem zdv (p : ProgramD) (fn : Int) (hf : p.fns.length <= 1048576) (hn : p.nodes.length <= 1048576) (hk : ∀ x ∈ p.nodes, x.kids.length <= 1048576) (hpl : ∀ f ∈ p.fns, f.params.length <= 1048576) :
 zx Tryz.prog 117 [.ro (zb p), .ro (.sc (.int .i64 fn))] (fun rs st => rs = [(false, [.row false 96 (rows (varC false) (zab p fn))]), (false, [cB (YQ p fn)])]) := by
 have e0 : rows (varC false) ([] : List VarD) = [] := rfl
 have w1 : IntKind.i64.wrap ((p.fns.length : Int) - 1) = (p.fns.length : Int) - 1 := w64 (by omega) (by omega)
 have hnr := Zw p hf hn hk hpl
 unfold zab YQ
 cases hR : yv p with
 | true =>
  cases h0 : inI fn 0 (p.fns.length - 1) with
  | true =>
   have hr := zy h0
   obtain ⟨f, rfl⟩ : ∃ f : Nat, fn = f := ⟨fn.toNat, by omega⟩
   have := zcy p hR f (by omega) hf hn hk hpl
   cases hB : XQ p f with
   | true => rw [hB] at this; simpa using this
   | false => rw [hB] at this; simpa [e0] using this
  | false =>
   rw [hR] at hnr
   simp only [zb] at hnr
   refine zp (fn := Tryz.f117) (c := Tryz.f117.body.getD .skip) (res := [.tm 4, .tm 5]) (n := 35) ze (by kernel_rfl) (by rfl) (by kernel_rfl) (by rfl) (by rfl) (by simp [zu]) (fun uf ub C hpin hpin2 hfull => ?_)
   simp only [Tryz.f117, oD]
   refine Tri.step ze ?_
   simp +decide only [zb, za, hpin, go_sem, aD, mU]
   refine Tri.ent ?_ (Ent.frb hfull 2)
   refine Tri.step ze ?_
   simp +decide only [zb, za, hpin, go_sem, aD, mU]
   refine zd hnr hpin ?_
   simp +decide only [w1, zb, za, hpin, go_sem, aD, mU]
   refine zd (in' fn 0 (p.fns.length - 1)) hpin ?_
   simp +decide only [h0, e0, zb, za, hpin, go_sem, aD, mU]
 | false =>
  rw [hR] at hnr
  simp only [zb] at hnr
  refine zp (fn := Tryz.f117) (c := Tryz.f117.body.getD .skip) (res := [.tm 4, .tm 5]) (n := 35) ze (by kernel_rfl) (by rfl) (by kernel_rfl) (by rfl) (by rfl) (by simp [zu]) (fun uf ub C hpin hpin2 hfull => ?_)
  simp only [Tryz.f117, oD]
  refine Tri.step ze ?_
  simp +decide only [zb, za, hpin, go_sem, aD, mU]
  refine Tri.ent ?_ (Ent.frb hfull 2)
  refine Tri.step ze ?_
  simp +decide only [zb, za, hpin, go_sem, aD, mU]
  refine zd hnr hpin ?_
  simp +decide only [e0, zb, za, hpin, go_sem, aD, mU]
theorem XZ (p : ProgramD) (fn : Int) (hf : p.fns.length <= 1048576) (hn : p.nodes.length <= 1048576) (hk : ∀ x ∈ p.nodes, x.kids.length <= 1048576) (hpl : ∀ f ∈ p.fns, f.params.length <= 1048576) :
 zx Tryz.prog 54 [.ro (zb p), .ro (.sc (.int .i64 fn))] (fun rs st => rs = [(false, [.row false 96 (rows (varC false) (zab p fn))]), (false, [cB (YQ p fn)])]) := by
 have e0 : rows (varC false) ([] : List VarD) = [] := rfl
 have w1 : IntKind.i64.wrap ((p.fns.length : Int) - 1) = (p.fns.length : Int) - 1 := w64 (by omega) (by omega)
 have hnr := YY p hf hn hk hpl
 simp only [zb] at hnr
 unfold zab YQ
 refine zp (fn := Tryz.f54) (c := Tryz.f54.body.getD .skip) (res := [.tm 4, .tm 5]) (n := 24) ze (by kernel_rfl) (by rfl) (by kernel_rfl) (by rfl) (by rfl) (by simp [zu]) (fun uf ub C hpin hpin2 hfull => ?_)
 simp only [Tryz.f54, oD]
 refine Tri.step ze ?_
 simp +decide only [zb, za, hpin, go_sem, aD, mU]
 refine Tri.ent ?_ (Ent.frb hfull 2)
 refine Tri.step ze ?_
 simp +decide only [zb, za, hpin, go_sem, aD, mU]
 refine zd hnr hpin ?_
 cases hR : yv p with
 | false => simp +decide only [e0, zb, za, hpin, go_sem, aD, mU]
 | true =>
 have hG := yh (Bool.and_eq_true_iff.1 hR).1
 have hk3 : ∀ x ∈ p.nodes, x.kids.length <= 300 := fun x hx => by have := hG.deep.few x hx; omega
 simp +decide only [w1, zb, za, hpin, go_sem, aD, mU]
 refine zd (xp fn 0 (p.fns.length - 1)) hpin ?_
 cases h0 : inI fn 0 (p.fns.length - 1) with
 | false => simp +decide only [e0, zb, za, hpin, go_sem, aD, mU]
 | true =>
 have hts := zct p hG.deep fn hf hn hk3 hpl
 simp only [zb] at hts
 simp +decide only [zb, za, hpin, go_sem, aD, mU]
 refine zf ze _ ?_
 simp +decide only [zb, za, hpin, go_sem, aD, mU]
 have htk := ym (varC false) (yi p fn)
 cases hB : XQ p fn with
 | true =>
  rw [hB] at hts
  simp only [if_true] at hts
  refine zd hts hpin ?_
  simp +decide only [htk, zb, za, hpin, go_sem, aD, mU]
 | false =>
  rw [hB] at hts
  simp only [if_false, bF] at hts
  refine zd hts hpin ?_
  simp +decide only [e0, zb, za, hpin, go_sem, aD, mU]
def zkk (t : Int) : Bool := t == 1 || t == 3
def effB (k t : Int) : Int :=
 if k == 2 then (if zkk t then 1 else 4)
 else if k == 3 || k == 4 then 1
 else if k == 5 then 8
 else if k == 6 then 16
 else if k == 14 then 2
 else if k == 15 then 32
 else if k == 13 then 64
 else 0
def ZI : List EffectD -> ByteArray -> Nat
 | [], _ => 0
 | x :: r, s => if x.name = s then 0 else ZI r s + 1
theorem zkX : ∀ (l : List EffectD) (s : ByteArray), ZI l s <= l.length
 | [], _ => Nat.le_refl _
 | x :: r, s => by
  unfold ZI
  have := zkX r s
  split <;> simp <;> omega
def ef0 : EffectD := ⟨⟨#[]⟩, 0⟩
def zeO (l : List EffectD) (s : ByteArray) (b : Int) : List EffectD :=
 if ZI l s < l.length then l.set (ZI l s) ⟨(l.getD (ZI l s) ef0).name, bits .or .i64 (l.getD (ZI l s) ef0).bits b⟩ else l ++ [⟨s, bits .or .i64 0 b⟩]
theorem zhj (l : List EffectD) (s : ByteArray) (b : Int) : (zeO l s b).length <= l.length + 1 := by unfold zeO; split <;> simp
def XM (nodes : List NodeD) (vars : List VarD) (l : List EffectD) (k : Int) : List EffectD :=
 if effB (nAt nodes k).kind (yZ vars (nAt nodes k).name) == 0 then l else zeO l (nAt nodes k).name (effB (nAt nodes k).kind (yZ vars (nAt nodes k).name))
def yG (nodes : List NodeD) (vars : List VarD) (U : List Int) : List EffectD := U.foldl (XM nodes vars) []
theorem ziM (nodes : List NodeD) (vars : List VarD) {U : List Int} {i : Nat} (h : i < U.length) : yG nodes vars (U.take (i + 1)) = XM nodes vars (yG nodes vars (U.take i)) U[i] := by
 unfold yG; rw [List.take_succ_eq_append_getElem h, List.foldl_append]; rfl
theorem zfx (nodes : List NodeD) (vars : List VarD) (l : List EffectD) (k : Int) : (XM nodes vars l k).length <= l.length + 1 := by
 unfold XM; split
 · omega
 · exact zhj _ _ _
theorem ZB (nodes : List NodeD) (vars : List VarD) (U : List Int) : (yG nodes vars U).length <= U.length := by
 unfold yG
 suffices h : ∀ (U : List Int) (l : List EffectD), (U.foldl (XM nodes vars) l).length <= l.length + U.length by simpa using h U []
 intro U
 induction U with
 | nil => intro l; simp
 | cons k r ih =>
  intro l
  have h1 := ih (XM nodes vars l k)
  have h2 := zfx nodes vars l k
  simp only [List.foldl_cons, List.length_cons]
  omega
def zbf (p : ProgramD) (R : List Int) (m : Nat) : Prop := ∃ k ∈ R, (m : Int) ∈ zI p.nodes k
noncomputable def xH (p : ProgramD) (R : List Int) : List Int := ints (pick (zbf p R) p.nodes.length)
theorem zeX (p : ProgramD) (R : List Int) (x : Int) : x ∈ xH p R ↔ ∃ k ∈ R, x ∈ zI p.nodes k := by
 unfold xH
 rw [Xd, zgA]
 constructor
 · rintro ⟨h0, _, k, hk, h⟩
   exact ⟨k, hk, by rw [show x = (x.toNat : Int) by omega]; exact h⟩
 · rintro ⟨k, hk, h⟩
   have h1 := yb h
   exact ⟨h1.1, h1.2.1, k, hk, by rw [show ((x.toNat : Nat) : Int) = x by omega]; exact h⟩
theorem ZK (p : ProgramD) (R : List Int) : (xH p R).length <= p.nodes.length := by
 unfold xH; rw [zA]; exact Xv _ _
theorem zeQ (t : Int) : zx Tryz.prog 181 [.ro (.sc (.int .i64 t))] (fun rs st => rs = [(false, [cB (zkk t)])]) := by
 refine zq (fn := Tryz.f181) (c := Tryz.f181.body.getD .skip) (res := [.tm 2]) (n := 9) ze (by kernel_rfl) (by rfl) (by kernel_rfl) (by rfl) (by rfl) (by simp [zu]) (fun C hpin hfull => ?_)
 simp +decide only [Tryz.f181, zb, za, hpin, go_sem, aD, mU]
 unfold zkk
 cases h1 : t == 1 with
 | true => simp +decide only [h1, bT, bO, zb, za, hpin, go_sem, aD, mU]
 | false => simp +decide only [h1, bO, zb, za, hpin, go_sem, aD, mU]
theorem zeP (t : Int) : zx Tryz.prog 170 [.ro (.sc (.int .i64 t))] (fun rs st => rs = [(false, [cB (zkk t)])]) := by
 refine zq (fn := Tryz.f170) (c := Tryz.f170.body.getD .skip) (res := [.tm 2]) (n := 9) ze (by kernel_rfl) (by rfl) (by kernel_rfl) (by rfl) (by rfl) (by simp [zu]) (fun C hpin hfull => ?_)
 simp +decide only [Tryz.f170, zb, za, hpin, go_sem, aD, mU]
 unfold zkk
 cases h1 : t == 1 with
 | true => simp +decide only [h1, bT, bO, zb, za, hpin, go_sem, aD, mU]
 | false => simp +decide only [h1, bO, zb, za, hpin, go_sem, aD, mU]
theorem zlY (k t : Int) : zx Tryz.prog 192 [.ro (.sc (.int .i64 k)), .ro (.sc (.int .i64 t))] (fun rs st => rs = [(false, [cI (effB k t)])]) := by
 refine zq (fn := Tryz.f192) (c := Tryz.f192.body.getD .skip) (res := [.tm 4]) (n := 23) ze (by kernel_rfl) (by rfl) (by kernel_rfl) (by rfl) (by rfl) (by simp [zu]) (fun C hpin hfull => ?_)
 obtain ⟨e, he⟩ : ∃ e, effB k t = e := ⟨_, rfl⟩
 rw [he]
 unfold effB at he
 cases h2 : k == 2 with
 | true =>
  have ek := eq_of_beq h2
  rw [ek] at he
  subst ek
  cases hc : zkk t with
  | true =>
   simp +decide only [hc, if_true, if_false, Int.reduceBEq, bF] at he
   subst he
   simp +decide only [Tryz.f192, Int.reduceBEq, zb, za, hpin, go_sem, aD, mU]
   refine zd (zeQ t) hpin ?_
   simp +decide only [hc, zb, za, hpin, go_sem, aD, mU]
  | false =>
   simp +decide only [hc, if_true, if_false, Int.reduceBEq, bF] at he
   subst he
   simp +decide only [Tryz.f192, Int.reduceBEq, zb, za, hpin, go_sem, aD, mU]
   refine zd (zeQ t) hpin ?_
   simp +decide only [hc, zb, za, hpin, go_sem, aD, mU]
 | false =>
 cases h3 : k == 3 with
 | true =>
  have ek := eq_of_beq h3
  rw [ek] at he
  simp +decide only [Bool.or_true, bT, bP, bO, if_true, if_false, Int.reduceBEq, bF] at he
  subst he
  simp +decide only [Tryz.f192, h2, h3, zb, za, hpin, go_sem, aD, mU]
 | false =>
 cases h4 : k == 4 with
 | true =>
  have ek := eq_of_beq h4
  rw [ek] at he
  simp +decide only [Bool.or_true, bT, bP, bO, if_true, if_false, Int.reduceBEq, bF] at he
  subst he
  simp +decide only [Tryz.f192, h2, h3, h4, zb, za, hpin, go_sem, aD, mU]
 | false =>
 cases h5 : k == 5 with
 | true =>
  have ek := eq_of_beq h5
  rw [ek] at he
  simp +decide only [Bool.or_true, bT, bP, bO, if_true, if_false, Int.reduceBEq, bF] at he
  subst he
  simp +decide only [Tryz.f192, h2, h3, h4, h5, zb, za, hpin, go_sem, aD, mU]
 | false =>
 cases h6 : k == 6 with
 | true =>
  have ek := eq_of_beq h6
  rw [ek] at he
  simp +decide only [Bool.or_true, bT, bP, bO, if_true, if_false, Int.reduceBEq, bF] at he
  subst he
  simp +decide only [Tryz.f192, h2, h3, h4, h5, h6, zb, za, hpin, go_sem, aD, mU]
 | false =>
 cases h14 : k == 14 with
 | true =>
  have ek := eq_of_beq h14
  rw [ek] at he
  simp +decide only [Bool.or_true, bT, bP, bO, if_true, if_false, Int.reduceBEq, bF] at he
  subst he
  simp +decide only [Tryz.f192, h2, h3, h4, h5, h6, h14, zb, za, hpin, go_sem, aD, mU]
 | false =>
 cases h15 : k == 15 with
 | true =>
  have ek := eq_of_beq h15
  rw [ek] at he
  simp +decide only [Bool.or_true, bT, bP, bO, if_true, if_false, Int.reduceBEq, bF] at he
  subst he
  simp +decide only [Tryz.f192, h2, h3, h4, h5, h6, h14, h15, zb, za, hpin, go_sem, aD, mU]
 | false =>
 cases h13 : k == 13 with
 | true =>
  have ek := eq_of_beq h13
  rw [ek] at he
  simp +decide only [Bool.or_true, bT, bP, bO, if_true, if_false, Int.reduceBEq, bF] at he
  subst he
  simp +decide only [Tryz.f192, h2, h3, h4, h5, h6, h14, h15, h13, zb, za, hpin, go_sem, aD, mU]
 | false =>
 simp +decide only [h2, h3, h4, h5, h6, h14, h15, h13, bP, bO, if_false, bF] at he
 subst he
 simp +decide only [Tryz.f192, h2, h3, h4, h5, h6, h14, h15, h13, zb, za, hpin, go_sem, aD, mU]
theorem zlX (k t : Int) : zx Tryz.prog 157 [.ro (.sc (.int .i64 k)), .ro (.sc (.int .i64 t))] (fun rs st => rs = [(false, [cI (effB k t)])]) := by
 refine zq (fn := Tryz.f157) (c := Tryz.f157.body.getD .skip) (res := [.tm 4]) (n := 23) ze (by kernel_rfl) (by rfl) (by kernel_rfl) (by rfl) (by rfl) (by simp [zu]) (fun C hpin hfull => ?_)
 obtain ⟨e, he⟩ : ∃ e, effB k t = e := ⟨_, rfl⟩
 rw [he]
 unfold effB at he
 cases h2 : k == 2 with
 | true =>
  have ek := eq_of_beq h2
  rw [ek] at he
  subst ek
  cases hc : zkk t with
  | true =>
   simp +decide only [hc, if_true, if_false, Int.reduceBEq, bF] at he
   subst he
   simp +decide only [Tryz.f157, Int.reduceBEq, zb, za, hpin, go_sem, aD, mU]
   refine zd (zeP t) hpin ?_
   simp +decide only [hc, zb, za, hpin, go_sem, aD, mU]
  | false =>
   simp +decide only [hc, if_true, if_false, Int.reduceBEq, bF] at he
   subst he
   simp +decide only [Tryz.f157, Int.reduceBEq, zb, za, hpin, go_sem, aD, mU]
   refine zd (zeP t) hpin ?_
   simp +decide only [hc, zb, za, hpin, go_sem, aD, mU]
 | false =>
 cases h3 : k == 3 with
 | true =>
  have ek := eq_of_beq h3
  rw [ek] at he
  simp +decide only [Bool.or_true, bT, bP, bO, if_true, if_false, Int.reduceBEq, bF] at he
  subst he
  simp +decide only [Tryz.f157, h2, h3, zb, za, hpin, go_sem, aD, mU]
 | false =>
 cases h4 : k == 4 with
 | true =>
  have ek := eq_of_beq h4
  rw [ek] at he
  simp +decide only [Bool.or_true, bT, bP, bO, if_true, if_false, Int.reduceBEq, bF] at he
  subst he
  simp +decide only [Tryz.f157, h2, h3, h4, zb, za, hpin, go_sem, aD, mU]
 | false =>
 cases h5 : k == 5 with
 | true =>
  have ek := eq_of_beq h5
  rw [ek] at he
  simp +decide only [Bool.or_true, bT, bP, bO, if_true, if_false, Int.reduceBEq, bF] at he
  subst he
  simp +decide only [Tryz.f157, h2, h3, h4, h5, zb, za, hpin, go_sem, aD, mU]
 | false =>
 cases h6 : k == 6 with
 | true =>
  have ek := eq_of_beq h6
  rw [ek] at he
  simp +decide only [Bool.or_true, bT, bP, bO, if_true, if_false, Int.reduceBEq, bF] at he
  subst he
  simp +decide only [Tryz.f157, h2, h3, h4, h5, h6, zb, za, hpin, go_sem, aD, mU]
 | false =>
 cases h14 : k == 14 with
 | true =>
  have ek := eq_of_beq h14
  rw [ek] at he
  simp +decide only [Bool.or_true, bT, bP, bO, if_true, if_false, Int.reduceBEq, bF] at he
  subst he
  simp +decide only [Tryz.f157, h2, h3, h4, h5, h6, h14, zb, za, hpin, go_sem, aD, mU]
 | false =>
 cases h15 : k == 15 with
 | true =>
  have ek := eq_of_beq h15
  rw [ek] at he
  simp +decide only [Bool.or_true, bT, bP, bO, if_true, if_false, Int.reduceBEq, bF] at he
  subst he
  simp +decide only [Tryz.f157, h2, h3, h4, h5, h6, h14, h15, zb, za, hpin, go_sem, aD, mU]
 | false =>
 cases h13 : k == 13 with
 | true =>
  have ek := eq_of_beq h13
  rw [ek] at he
  simp +decide only [Bool.or_true, bT, bP, bO, if_true, if_false, Int.reduceBEq, bF] at he
  subst he
  simp +decide only [Tryz.f157, h2, h3, h4, h5, h6, h14, h15, h13, zb, za, hpin, go_sem, aD, mU]
 | false =>
 simp +decide only [h2, h3, h4, h5, h6, h14, h15, h13, bP, bO, if_false, bF] at he
 subst he
 simp +decide only [Tryz.f157, h2, h3, h4, h5, h6, h14, h15, h13, zb, za, hpin, go_sem, aD, mU]
theorem YE (p : ProgramD) (R : List Int) (hR : R.length <= 1048576) (hn : p.nodes.length <= 1048576) (hk : ∀ x ∈ p.nodes, x.kids.length <= 1048576) : zx Tryz.prog 101 [.ro (zb p), .ro (roI R)] (fun rs st => rs = [(false, [.row false 3 (row1 cI (xH p R))])]) := by
 refine zp (fn := Tryz.f101) (c := Tryz.f101.body.getD .skip) (res := [.tm 4]) (n := 37) ze (by kernel_rfl) (by rfl) (by kernel_rfl) (by rfl) (by rfl) (by simp [zu]) (fun uf ub C hpin hpin2 hfull => ?_)
 simp only [Tryz.f101, oD]
 refine Tri.step ze ?_
 simp +decide only [zb, za, hpin, go_sem, aD, mU]
 refine Tri.ent ?_ (Ent.frb hfull 2)
 refine Tri.step ze ?_
 simp +decide only [zb, za, hpin, go_sem, aD, mU]
 refine Tri.step ze ?_
 simp +decide only [zb, za, hpin, go_sem, aD, mU]
 have hmem := zeX p R
 have hris : (xH p R).Pairwise (· < ·) := Xu _ _
 generalize xH p R = Z at hmem hris |-
 refine Tri.loop (ι := Nat × List Nat) (fun q => q.1 <= R.length /\ q.2.Nodup /\ ∀ m, m ∈ q.2 ↔ ∃ a, ∃ (ha : a < R.length), a < q.1 /\ (m : Int) ∈ zI p.nodes R[a]) (fun q => ⟨37, [(2, .ip (za true p) 0), (5, .ref 5 [] q.2.length), (10, roI R), (11, vI R.length), (12, vI q.1)], [(5, .row 3 (row1 cI (ints q.2)))]⟩) (fun q => R.length - q.1) (0, []) ⟨by simp, by simp, fun m => ⟨fun h => by simp at h, fun ⟨a, ha, h0, _⟩ => by omega⟩⟩ ?_ ?_
 · refine Ent.weak ?_ ?_ ?_ ?_ <;> simp +decide [subT, subB, zj, zi, zm, St.get, look, vI, vB, vS, cI, cS, cB, zg, za, roI, ints, row1]
 · rintro ⟨i, l⟩ ⟨hi, hnd, hq⟩
   simp only at hi hnd hq |-
   have hll : l.length <= p.nodes.length := Xz hnd (fun x hx => by
    obtain ⟨a, ha, _, h⟩ := (hq x).1 hx
    exact YN h)
   refine zf ze _ ?_
   by_cases h' : i < R.length
   · have e : ((i : Int) < (R.length : Int)) = True := by simp [h']
     simp +decide only [e, h', zw _ _ h', iN, vB, vI, zb, za, hpin, go_sem, aD, mU]
     refine zd (Yv p R[i] hn hk) hpin ?_
     simp +decide only [zb, za, hpin, go_sem, aD, mU]
     have hul := yB p.nodes R[i]
     have hum : ∀ b (hb : b < (zI p.nodes R[i]).length), 0 <= (zI p.nodes R[i])[b] := fun b hb => (yb (lM hb)).1
     have hulm : ∀ m : Nat, (m : Int) ∈ zI p.nodes R[i] -> m < p.nodes.length := fun m h => YN h
     have hnext : ∀ L : List Nat, (∀ m, m ∈ L ↔ (∃ a, ∃ (ha : a < R.length), a < i /\ (m : Int) ∈ zI p.nodes R[a]) \/ (m : Int) ∈ zI p.nodes R[i]) -> ∀ m, m ∈ L ↔ ∃ a, ∃ (ha : a < R.length), a < i + 1 /\ (m : Int) ∈ zI p.nodes R[a] := fun L hL m => by
      rw [hL m]
      constructor
      · rintro (⟨a, ha, h1, h2⟩ | h)
        · exact ⟨a, ha, by omega, h2⟩
        · exact ⟨i, h', by omega, h⟩
      · rintro ⟨a, ha, h1, h2⟩
        by_cases ea : a = i
        · subst ea; exact Or.inr h2
        · exact Or.inl ⟨a, ha, by omega, h2⟩
     generalize zI p.nodes R[i] = U at hul hum hulm hnext |-
     refine Tri.loop (ι := Nat × List Nat) (fun q => q.1 <= U.length /\ q.2.Nodup /\ ∀ m, m ∈ q.2 ↔ (∃ a, ∃ (ha : a < R.length), a < i /\ (m : Int) ∈ zI p.nodes R[a]) \/ (m : Int) ∈ U.take q.1) (fun q => ⟨37, [(2, .ip (za true p) 0), (5, .ref 5 [] q.2.length), (10, roI R), (11, vI R.length), (12, vI i), (18, .ref 3018 [] U.length), (19, vI U.length), (20, vI q.1)], [(3018, .row 3 (row1 cI U)), (5, .row 3 (row1 cI (ints q.2)))]⟩) (fun q => U.length - q.1) (0, l) ⟨by simp, hnd, fun m => by rw [hq m]; simp⟩ ?_ ?_
     · refine Ent.weak ?_ ?_ ?_ ?_ <;> simp +decide [subT, subB, zj, zi, zm, St.get, look, vI, vB, vS, cI, cS, cB, zg, za, roI]
     · rintro ⟨j, L⟩ ⟨hj, hLn, hL⟩
       simp only at hj hLn hL |-
       have hLl : L.length <= p.nodes.length := Xz hLn (fun x hx => by
        rcases (hL x).1 hx with ⟨a, ha, _, h⟩ | h
        · exact YN h
        · exact hulm x (List.mem_of_mem_take h))
       refine zf ze _ ?_
       by_cases hj' : j < U.length
       · have e2 : ((j : Int) < (U.length : Int)) = True := by simp [hj']
         have q0 := hum j hj'
         have hcast : ((U[j].toNat : Nat) : Int) = U[j] := by omega
         have htk : ∀ m : Nat, (m : Int) ∈ U.take (j + 1) ↔ (m : Int) ∈ U.take j \/ m = U[j].toNat := fun m => by
          rw [List.take_succ_eq_append_getElem hj', List.mem_append, List.mem_singleton]
          constructor
          · rintro (h | h)
            · exact Or.inl h
            · right; omega
          · rintro (h | h)
            · exact Or.inl h
            · right; omega
         simp +decide only [e2, hj', zW _ _ hj', zA, iN, vB, vI, zb, za, hpin, go_sem, aD, mU]
         refine zd (Zf (ints L) U[j] (by rw [zA]; omega)) hpin ?_
         simp +decide only [zA, zer, zb, za, hpin, go_sem, aD, mU]
         rw [zgV q0]
         cases hc : L.contains U[j].toNat with
         | true =>
          have hmm : U[j].toNat ∈ L := by simpa using hc
          simp +decide only [hc, zb, za, hpin, go_sem, aD, mU]
          refine ⟨(j + 1, L), ⟨hj', hLn, fun m => ?_⟩, by simp only; omega, Ent.weak ?_ ?_ ?_ ?_⟩
          · rw [hL m, htk m]
            constructor
            · rintro (h | h)
              · exact Or.inl h
              · exact Or.inr (Or.inl h)
            · rintro (h | h | h)
              · exact Or.inl h
              · exact Or.inr h
              · subst h; exact (hL _).1 hmm
          all_goals simp +decide [subT, subB, zj, zi, zm, St.get, look, vI, vB, vS, cI, cS, cB, zg, za, roI, w64s (n := U.length) hj' (by omega)]
         | false =>
          have hnm : U[j].toNat ∉ L := by simpa using hc
          have hb1 : L.length + 1 <= 140737488355328 := by omega
          have hb2 : (L.length + 1) * 8 <= 140737488355328 := by omega
          have hsn := zes L q0
          simp +decide only [hc, zA, hb1, hb2, zb, za, hpin, go_sem, aD, mU]
          refine ⟨(j + 1, L ++ [U[j].toNat]), ⟨hj', ?_, fun m => ?_⟩, by simp only; omega, Ent.weak ?_ ?_ ?_ ?_⟩
          · rw [List.nodup_append]
            exact ⟨hLn, by simp, fun a ha b hb => by simp at hb; subst hb; exact fun e => hnm (e ▸ ha)⟩
          · rw [List.mem_append, List.mem_singleton, hL m, htk m, or_assoc]
          all_goals simp +decide [subT, subB, zj, zi, zm, St.get, look, vI, vB, vS, cI, cS, cB, zg, za, roI, w64s (n := U.length) hj' (by omega), <- hsn, row1, ints, Int.max_eq_left q0]
       · have hjl : j = U.length := by omega
         subst hjl
         have e2 : ((U.length : Int) < (U.length : Int)) = False := by simp
         rw [List.take_length] at hL
         simp +decide only [e2, vB, vI, zb, za, hpin, go_sem, aD, mU]
         refine ⟨(i + 1, L), ⟨h', hLn, hnext L hL⟩, by simp only; omega, Ent.weak ?_ ?_ ?_ ?_⟩
         all_goals simp +decide [subT, subB, zj, zi, zm, St.get, look, vI, vB, vS, cI, cS, cB, zg, za, roI, w64s (n := R.length) h' (by omega)]
   · have hil : i = R.length := by omega
     subst hil
     have e : ((R.length : Int) < (R.length : Int)) = False := by simp
     have hs : xO (ints l) = Z := by
      refine zdC ?_ hris (fun z => ?_)
      · unfold ints
        exact List.Pairwise.map _ (fun a b hab h => hab (by omega)) hnd
      · rw [Xd, hmem z]
        constructor
        · rintro ⟨h0, h⟩
          obtain ⟨a, ha, _, h2⟩ := (hq _).1 h
          exact ⟨R[a], lM ha, by rw [show ((z.toNat : Nat) : Int) = z by omega] at h2; exact h2⟩
        · rintro ⟨k, hkk, h⟩
          obtain ⟨a, ha, rfl⟩ := List.getElem_of_mem hkk
          have h0 := (yb h).1
          exact ⟨h0, (hq _).2 ⟨a, ha, ha, by rw [show ((z.toNat : Nat) : Int) = z by omega]; exact h⟩⟩
     have hzl : Z.length = l.length := by rw [<- hs, yC, zA]
     simp +decide only [e, vB, vI, zb, za, hpin, go_sem, aD, mU]
     refine Tri.step ze ?_
     simp +decide only [zA, zb, za, hpin, go_sem, aD, mU]
     refine xX (YG (ints l) (by rw [zA]; omega)) hpin [(2000, 5)] ⟨rfl, rfl, rfl⟩ (fun uf => ⟨rfl, rfl⟩) (fun uf => ?_) ?_
     · simp +decide only [zA, zb, za, go_sem, aD, mU]
     simp +decide only [zA, yC, hs, hzl, zb, za, hpin, go_sem, aD, mU]
     refine zf ze _ ?_
     simp +decide only [zA, hzl, zb, za, hpin, go_sem, aD, mU]
end Go.Proofs.YtjjigphfjclofaaGreatDoor.AW
