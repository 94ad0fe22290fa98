/- What the statements of this set lean on, part 9. No condition beyond those named. -/
import Derived.Test.YtjjigphfjclofaaGreatDoorLx8
namespace Go.Proofs.YtjjigphfjclofaaGreatDoor.AW
open Go.RowKit
open Nat renaming reduceAdd → aD, reduceMul → mU
open Int renaming natCast_nonneg → iN
open Bool renaming false_eq_true → bF, false_or → bO, true_or → bT, or_false → bP
open List renaming getElem_mem → lM, getElem?_eq_getElem → lE
open Option renaming getD_some → oD, map_eq_some_iff → oM
set_option maxHeartbeats 8000000
set_option maxRecDepth 100000
set_option linter.unusedSimpArgs false
set_option linter.unusedVariables false
noncomputable def ZA (p : ProgramD) (f : Nat) (b i j : Int) : Bool := (zI p.nodes (fAt p.fns f).body).contains b && ((nAt p.nodes b).kind == 20 && (decide (0 <= i) && (decide (i <= j) && decide (j < (nAt p.nodes b).kids.length))))
theorem zgU (p : ProgramD) (f : Nat) (hfl : f < p.fns.length) (b i j : Int) (hn : p.nodes.length <= 1048576) (hk : ∀ x ∈ p.nodes, x.kids.length <= 1048576) :
 zx Tryz.prog 98 [.ro (zb p), .ro (.sc (.int .i64 f)), .ro (.sc (.int .i64 b)), .ro (.sc (.int .i64 i)), .ro (.sc (.int .i64 j))] (fun rs st => rs = [(false, [cB (ZA p f b i j)])]) := by
 have hx : (rows (fnC true) p.fns).getD f [] = fnC true p.fns[f] := zk _ _ hfl
 have c1 : ((f : Int) < (p.fns.length : Int)) = True := eq_true (by omega)
 have hun := Yv p p.fns[f].body hn hk
 have hul := yB p.nodes p.fns[f].body
 have hum : (zI p.nodes p.fns[f].body).contains b = true -> 0 <= b /\ b.toNat < p.nodes.length := fun h => by
  have := yb (List.contains_iff_mem.1 h)
  exact ⟨this.1, this.2.1⟩
 unfold ZA
 rw [yS hfl]
 simp only [zb] at hun
 generalize zI p.nodes p.fns[f].body = U at hun hul hum |-
 have hha := Zf U b (by omega)
 have htk : List.take U.length (row1 cI U) = row1 cI U := yj cI U
 have hsh : shLL (row1 cI U) = row1 cI U := yJ U
 simp only [cB, roI] at hha
 refine zp (fn := Tryz.f98) (c := Tryz.f98.body.getD .skip) (res := [.tm 10]) (n := 49) ze (by kernel_rfl) (by rfl) (by kernel_rfl) (by rfl) (by rfl) (by simp [zu]) (fun uf ub C hpin hpin2 hfull => ?_)
 simp only [Tryz.f98, oD]
 refine Tri.step ze ?_
 simp +decide only [zo, zb, za, hpin, go_sem, aD, mU]
 refine Tri.ent ?_ (Ent.frb hfull 5)
 refine Tri.seq (Tri.seq ?_)
 refine Tri.sched ze [(1, true), (3, true), (8, true), (0, true), (2, false), (4, false), (5, false), (6, false), (7, false), (9, false), (10, false), (11, false), (12, true), (14, true), (13, false), (15, false), (16, false), (17, false), (18, false), (19, false)] zO (by kernel_rfl) (fun C2 hC2 => ?_)
 have hp2 := zP hC2 hpin
 simp +decide only [c1, hfl, hx, fnC, iN, zo, zb, za, hp2, hpin, go_sem, aD, mU]
 refine zd hun hp2 ?_
 simp +decide only [htk, hsh, zo, zb, za, hp2, hpin, go_sem, aD, mU]
 refine zd hha hp2 ?_
 cases h1 : U.contains b with
 | false =>
  rcases Xs p.nodes b.toNat with ⟨x, hxk⟩ | hxk
  all_goals
   simp +decide only [hxk, zg, zo, zb, za, hp2, hpin, go_sem, aD, mU]
   refine zf ze _ ?_
   simp +decide only [zo, zb, za, hp2, hpin, go_sem, aD, mU]
 | true =>
 obtain ⟨b0, b1⟩ := hum h1
 obtain ⟨k, rfl⟩ : ∃ k : Nat, b = k := ⟨b.toNat, by omega⟩
 rw [Int.toNat_natCast] at b1
 rw [zR b1]
 have ck : ((k : Int) < (p.nodes.length : Int)) = True := eq_true (by omega)
 have hxk : (rows (zg true) p.nodes).getD k [] = zg true p.nodes[k] := zk _ _ b1
 generalize p.nodes[k] = x at hxk |-
 cases h2 : x.kind == 20 with
 | false =>
  simp +decide only [ck, b1, hxk, h2, bne, zg, iN, zo, zb, za, hp2, hpin, go_sem, aD, mU]
  refine zf ze _ ?_
  simp +decide only [zo, zb, za, hp2, hpin, go_sem, aD, mU]
 | true =>
 simp +decide only [ck, b1, hxk, h2, bne, zg, iN, zo, zb, za, hp2, hpin, go_sem, aD, mU]
 refine zf ze _ ?_
 simp +decide only [zo, zb, za, hp2, hpin, go_sem, aD, mU]
 refine zf ze _ ?_
 by_cases h3 : 0 <= i
 · have c3 : (0 <= i) = True := eq_true h3
   by_cases h4 : i <= j
   · have c4 : (i <= j) = True := eq_true h4
     by_cases h5 : j < (x.kids.length : Int)
     · have c5 : (j < (x.kids.length : Int)) = True := eq_true h5
       simp +decide only [c3, c4, c5, ck, b1, hxk, zg, ge_iff_le, Bool.and_self, iN, zo, zb, za, hp2, hpin, go_sem, aD, mU]
     · have c5 : (j < (x.kids.length : Int)) = False := eq_false h5
       simp +decide only [c3, c4, c5, ck, b1, hxk, zg, ge_iff_le, iN, zo, zb, za, hp2, hpin, go_sem, aD, mU]
   · have c4 : (i <= j) = False := eq_false h4
     simp +decide only [c3, c4, ck, b1, hxk, zg, ge_iff_le, iN, zo, zb, za, hp2, hpin, go_sem, aD, mU]
 · have c3 : (0 <= i) = False := eq_false h3
   simp +decide only [c3, ck, b1, hxk, zg, ge_iff_le, iN, zo, zb, za, hp2, hpin, go_sem, aD, mU]
theorem ziF (p : ProgramD) (f : Nat) (hfl : f < p.fns.length) (hR : zX p = true) (R : List Int) (hRl : R.length <= 1048576) (hf : p.fns.length <= 1048576) (hn : p.nodes.length <= 1048576) (hk : ∀ x ∈ p.nodes, x.kids.length <= 1048576) (hpl : ∀ f ∈ p.fns, f.params.length <= 1048576) :
 zx Tryz.prog 100 [.ro (zb p), .ro (.sc (.int .i64 f)), .ro (roI R)] (fun rs st => rs = [(false, [.row false 107 (rows (zn false) ((zbH p f R).getD []))]), (false, [cB (zbH p f R).isSome])]) := by
 have hG := yh (YS hR).1
 have hD := hG.deep
 have hk3 : ∀ x ∈ p.nodes, x.kids.length <= 300 := fun x hx => by have := hD.few x hx; omega
 have hvl := xI p f hpl hn
 have hts := YF p hD f hf hn hk3 hpl
 have hua := YE p R hRl hn hk
 have hef := zfw p f R hRl hf hn hk hpl
 have hil := ZK p R
 have hEl : (effL p f R).length <= p.nodes.length := by
  unfold effL
  split
  · exact Nat.le_trans (ZB _ _ _) (ZK p R)
  · simp
 have hus := fun s => zgf p f s hf hn hk
 have hlU : ∀ s, (zbX p f s).length <= p.nodes.length := fun s => Nat.le_trans (Yt p s (fnNs p f)) (XK p f)
 unfold zbH
 simp only [zb, roI] at hts hua hef hus
 generalize yi p f = l at hvl hts |-
 generalize xH p R = ins at hil hua |-
 generalize effL p f R = E at hEl hef |-
 have hsh : shLL (row1 cI ins) = row1 cI ins := yJ ins
 refine zp (fn := Tryz.f100) (c := Tryz.f100.body.getD .skip) (res := [.tm 6, .tm 7]) (n := 81) ze (by kernel_rfl) (by rfl) (by kernel_rfl) (by rfl) (by rfl) (by simp [zu]) (fun uf ub C hpin hpin2 hfull => ?_)
 simp only [Tryz.f100, oD]
 refine Tri.step ze ?_
 simp +decide only [zo, zb, za, hpin, go_sem, aD, mU]
 refine Tri.ent ?_ (Ent.frb hfull 3)
 refine Tri.step ze ?_
 simp +decide only [zo, zb, za, hpin, go_sem, aD, mU]
 refine zd hts hpin ?_
 simp +decide only [zo, zb, za, hpin, go_sem, aD, mU]
 refine Tri.ent ?_ (Ent.frz hfull 8)
 refine Tri.step ze ?_
 simp +decide only [zda, zo, zb, za, hpin, go_sem, aD, mU]
 refine zd hua hpin ?_
 simp +decide only [zo, zb, za, hpin, go_sem, aD, mU]
 refine Tri.ent ?_ (Ent.frz hfull 9)
 refine Tri.step ze ?_
 simp +decide only [hsh, zo, zb, za, hpin, go_sem, aD, mU]
 refine Tri.step ze ?_
 simp +decide only [zo, zb, za, hpin, go_sem, aD, mU]
 refine zd hef hpin ?_
 simp +decide only [zo, zb, za, hpin, go_sem, aD, mU]
 refine Tri.loop (ι := Nat × List ParamD) (fun a => a.1 <= E.length /\ hdL p f l ins (E.take a.1) [] = some a.2) (fun a => ⟨81, [(1, vI f), (3, .ip (za true p) 0), (8, .imm 96 (rows (varC true) l)), (9, roI ins), (10, .ref 10 [] a.2.length), (25, .ref 3025 [] E.length), (26, vI E.length), (27, vI a.1)], [(10, .row 107 (rows (zn false) a.2)), (3025, .row 166 (rows (zr false) E))]⟩) (fun a => E.length - a.1) (0, []) ⟨by simp, rfl⟩ ?_ ?_
 · refine Ent.weak ?_ ?_ ?_ ?_ <;> simp +decide [zH, zS, subT, subB, zj, zi, zm, St.get, look, vI, vB, vS, cI, cS, cB, zg, fnC, zn, zr, za, roI, rows]
 rintro ⟨i, o⟩ ⟨hi, ho⟩
 simp only at hi ho
 have hol := zgZ p f l ins _ _ _ (by simp) ho
 refine zf ze _ ?_
 by_cases h' : i < E.length
 · have e : ((i : Int) < (E.length : Int)) = True := by simp [h']
   have hgq := Ye (zr false) E h'
   have hnx : hdL p f l ins (E.take (i + 1)) [] = zex p f l ins o E[i] := by
    rw [List.take_succ_eq_append_getElem h', zkP, ho]; rfl
   have hbad : zex p f l ins o E[i] = none -> hdL p f l ins E [] = none := fun hh => by
    rw [<- List.take_append_drop (i + 1) E]
    exact zkQ p f l ins _ _ _ (by rw [hnx, hh])
   generalize E[i] = x at hgq hnx hbad
   simp only [zr, cI, cS] at hgq
   have husx := hus x.name
   have hlx := hlU x.name
   have hkep : ziy p f ins x.name = (zbX p f x.name).all (fun y => ins.contains y) := rfl
   generalize zbX p f x.name = Us at husx hlx hkep
   unfold zex zaO at hnx hbad
   cases h1 : band x.bits 64 == 0 with
   | false =>
    rw [h1] at hnx hbad
    simp only [Bool.not_false, if_true] at hnx hbad
    simp +decide only [e, h', hgq, h1, xR, bne, iN, vB, vI, zo, zb, za, hpin, go_sem, aD, mU]
    refine zd husx hpin ?_
    simp +decide only [zo, zb, za, hpin, go_sem, aD, mU]
    refine Tri.loop (ι := Nat) (fun m => m <= Us.length /\ (Us.take m).all (fun y => ins.contains y) = true) (fun m => ⟨81, [(1, vI f), (3, .ip (za true p) 0), (8, .imm 96 (rows (varC true) l)), (9, roI ins), (10, .ref 10 [] o.length), (25, .ref 3025 [] E.length), (26, vI E.length), (27, vI i), (39, .ref 3039 [] Us.length), (40, vI Us.length), (41, vI m)], [(3039, .row 3 (row1 cI Us)), (10, .row 107 (rows (zn false) o)), (3025, .row 166 (rows (zr false) E))]⟩) (fun m => Us.length - m) 0 (by simp) ?_ ?_
    · refine Ent.weak ?_ ?_ ?_ ?_ <;> simp +decide [zH, zS, subT, subB, zj, zi, zm, St.get, look, vI, vB, vS, cI, cS, cB, zg, fnC, zn, zr, za, roI]
    rintro m ⟨hm, hal⟩
    refine zf ze _ ?_
    by_cases hm' : m < Us.length
    · have em : ((m : Int) < (Us.length : Int)) = True := by simp [hm']
      have hgi := zW cI Us hm'
      have hha := Zf ins Us[m] (by omega)
      have hall : (Us.take (m + 1)).all (fun y => ins.contains y) = ins.contains Us[m] := by
       rw [List.take_succ_eq_append_getElem hm', List.all_append, hal]; simp
      have hbad2 : ins.contains Us[m] = false -> Us.all (fun y => ins.contains y) = false := fun hh => Xi hm' hh
      simp only [cI, cB, roI] at hgi hha
      generalize Us[m] = u at hgi hha hall hbad2
      simp +decide only [em, hm', hgi, iN, vB, vI, zo, zb, za, hpin, go_sem, aD, mU]
      refine zd hha hpin ?_
      cases h2 : ins.contains u with
      | false =>
       have hno : hdL p f l ins E [] = none := hbad (by rw [hkep, hbad2 h2]; rfl)
       simp +decide only [hno, Option.isSome_none, rows, vB, vI, zo, zb, za, hpin, go_sem, aD, mU]
      | true =>
       simp +decide only [vB, vI, zo, zb, za, hpin, go_sem, aD, mU]
       refine ⟨m + 1, ⟨hm', by rw [hall, h2]⟩, by omega, Ent.weak ?_ ?_ ?_ ?_⟩
       all_goals simp +decide [zH, zS, subT, subB, zj, zi, zm, St.get, look, vI, vB, vS, cI, cS, cB, zg, fnC, zn, zr, za, roI, w64s (n := Us.length) hm' (by omega)]
    · have hml : m = Us.length := by omega
      subst hml
      have em : ((Us.length : Int) < (Us.length : Int)) = False := by simp
      rw [List.take_length] at hal
      rw [hkep, hal, if_pos rfl] at hnx
      simp +decide only [em, vB, vI, zo, zb, za, hpin, go_sem, aD, mU]
      refine ⟨(i + 1, o), ⟨h', hnx⟩, by simp only; omega, Ent.weak ?_ ?_ ?_ ?_⟩
      all_goals simp +decide [zH, zS, subT, subB, zj, zi, zm, St.get, look, vI, vB, vS, cI, cS, cB, zg, fnC, zn, zr, za, roI, w64s (n := E.length) h' (by omega)]
   | true =>
    rw [h1] at hnx hbad
    simp only [Bool.not_true, bF, if_false] at hnx hbad
    have hvt := ZD l x.name (by omega)
    have hmd := zjL x.bits (yZ l x.name)
    have hme : modE l x = xt x.bits (yZ l x.name) := rfl
    simp only [cI] at hvt hmd
    rw [hme] at hnx hbad
    generalize yZ l x.name = tv at hvt hmd hnx hbad
    generalize xt x.bits tv = md at hmd hnx hbad
    simp +decide only [e, h', hgq, h1, xR, bne, iN, vB, vI, zo, zb, za, hpin, go_sem, aD, mU]
    refine Tri.ent ?_ (Ent.frb hfull 12)
    refine Tri.sched ze [(0, true), (2, true), (3, true), (1, true), (4, false), (5, false), (6, false), (7, false)] zO (by kernel_rfl) (fun C2 hC2 => ?_)
    have hp2 := zP hC2 hpin
    simp +decide only [zo, zb, za, hp2, hpin, go_sem, aD, mU]
    refine zd hvt hp2 ?_
    simp +decide only [zo, zb, za, hp2, hpin, go_sem, aD, mU]
    refine zd hmd hp2 ?_
    cases h2 : md == 0 with
    | true =>
     have hno : hdL p f l ins E [] = none := hbad (by rw [h2]; rfl)
     simp +decide only [h2, hno, Option.isSome_none, rows, vB, vI, zo, zb, za, hp2, hpin, go_sem, aD, mU]
    | false =>
    rw [h2] at hnx hbad
    by_cases h3 : 3 <= o.length
    · have c3 : ((3 : Int) <= (o.length : Int)) = True := eq_true (by omega)
      have hno : hdL p f l ins E [] = none := hbad (by rw [decide_eq_true h3]; rfl)
      simp +decide only [h2, c3, hno, ge_iff_le, Option.isSome_none, rows, vB, vI, zo, zb, za, hp2, hpin, go_sem, aD, mU]
    have c3 : ((3 : Int) <= (o.length : Int)) = False := eq_false (by omega)
    rw [decide_eq_false h3] at hnx hbad
    simp only [Bool.or_self, bF, if_false] at hnx hbad
    have hsn := yM (zn false) o ⟨x.name, md⟩
    simp only [zn, cI, cS] at hsn
    have hb1 : o.length + 1 <= 140737488355328 := by omega
    have hb2 : (o.length + 1) * 24 <= 140737488355328 := by omega
    cases h4 : md == 4 with
    | false =>
     rw [h4] at hnx
     simp only [Bool.false_and, bF, if_false] at hnx
     simp +decide only [h2, h4, c3, hb1, hb2, hsn, ge_iff_le, vB, vI, zo, zb, za, hp2, hpin, go_sem, aD, mU]
     refine ⟨(i + 1, o ++ [⟨x.name, md⟩]), ⟨h', hnx⟩, by simp only; omega, Ent.weak ?_ ?_ ?_ ?_⟩
     all_goals simp +decide [zH, zS, subT, subB, zj, zi, zm, St.get, look, vI, vB, vS, cI, cS, cB, zg, fnC, zn, zr, za, roI, w64s (n := E.length) h' (by omega)]
    | true =>
     cases h5 : band x.bits 8 == 0 with
     | false =>
      have hno : hdL p f l ins E [] = none := hbad (by rw [h4, h5]; rfl)
      simp +decide only [h2, h4, h5, c3, hno, xR, bne, ge_iff_le, Option.isSome_none, rows, vB, vI, zo, zb, za, hp2, hpin, go_sem, aD, mU]
     | true =>
      rw [h4, h5] at hnx
      simp only [Bool.not_true, Bool.and_false, bF, if_false] at hnx
      simp +decide only [h2, h4, h5, c3, hb1, hb2, hsn, xR, bne, ge_iff_le, vB, vI, zo, zb, za, hp2, hpin, go_sem, aD, mU]
      refine ⟨(i + 1, o ++ [⟨x.name, md⟩]), ⟨h', hnx⟩, by simp only; omega, Ent.weak ?_ ?_ ?_ ?_⟩
      all_goals simp +decide [zH, zS, subT, subB, zj, zi, zm, St.get, look, vI, vB, vS, cI, cS, cB, zg, fnC, zn, zr, za, roI, w64s (n := E.length) h' (by omega)]
 · have hil' : i = E.length := by omega
   subst hil'
   have e : ((E.length : Int) < (E.length : Int)) = False := by simp
   rw [List.take_length] at ho
   simp +decide only [e, vB, vI, zo, zb, za, hpin, go_sem, aD, mU]
   refine zf ze _ ?_
   simp +decide only [ho, zo, zb, za, hpin, go_sem, aD, mU]
theorem zmg (a b : Int) (s : ByteArray) : nilRs [(true, [cI a, cI b, cS s, .sc (.slice none 0 0)])] [(true, zg false ⟨a, b, s, []⟩)] := by
 refine ⟨rfl, fun i r r' h1 h2 => ?_⟩
 match i with
 | 0 =>
  simp only [List.getElem?_cons_zero, Option.some.injEq] at h1 h2
  subst h1 h2
  refine ⟨rfl, rfl, fun j d d' g1 g2 => ?_⟩
  match j with
  | 0 => simp [zg] at g1 g2; subst g1 g2; exact zbz _
  | 1 => simp [zg] at g1 g2; subst g1 g2; exact zbz _
  | 2 => simp [zg] at g1 g2; subst g1 g2; exact zbz _
  | 3 => simp [zg] at g1 g2; subst g1 g2; exact Or.inr ⟨rfl, 3, rfl⟩
  | j + 4 => simp at g1
 | i + 1 => simp at h1
theorem ziw (s : ByteArray) (t m : Int) : zx Tryz.prog 96 [.ro (.sc (.string s)), .ro (.sc (.int .i64 t)), .ro (.sc (.int .i64 m))] (fun rs st => rs = [(true, zg false ⟨argK t m, 0, s, []⟩)]) := by
 refine SoundAt.nilRs (post := fun rs st => rs = [(true, [cI (argK t m), cI 0, cS s, .sc (.slice none 0 0)])]) ?_ (fun rs st hr => ⟨_, by rw [hr]; exact zmg _ _ _, rfl⟩)
 unfold argK
 refine zq (fn := Tryz.f96) (c := Tryz.f96.body.getD .skip) (res := [.ce 6 83]) (n := 25) ze (by kernel_rfl) (by rfl) (by kernel_rfl) (by rfl) (by rfl) (by simp [zu]) (fun C hpin hfull => ?_)
 cases h1 : t == 2 with
 | false => simp +decide only [Tryz.f96, h1, zh, zo, zb, za, hpin, go_sem, aD, mU]
 | true =>
  cases h2 : m == 3 with
  | true => simp +decide only [Tryz.f96, h1, h2, Bool.and_self, zh, zo, zb, za, hpin, go_sem, aD, mU]
  | false =>
   cases h3 : m == 4 with
   | true => simp +decide only [Tryz.f96, h1, h2, h3, Bool.and_self, zh, zo, zb, za, hpin, go_sem, aD, mU]
   | false => simp +decide only [Tryz.f96, h1, h2, h3, zh, zo, zb, za, hpin, go_sem, aD, mU]
theorem zen (l : List VarD) (E : List EffectD) (hl : l.length <= 4194304) (hE : E.length <= 1048576) : zx Tryz.prog 93 [.ro (.imm 96 (rows (varC true) l)), .ro (.imm 166 (rows (zr true) E))] (fun rs st => rs = [(false, [.row false 107 (rows (zn false) (spP l E []).1)]), (false, [cB (spP l E []).2])]) := by
 obtain ⟨Z, hZ⟩ : ∃ Z, spP l E [] = Z := ⟨_, rfl⟩
 rw [hZ]
 refine zp (fn := Tryz.f93) (c := Tryz.f93.body.getD .skip) (res := [.tm 4, .tm 5]) (n := 76) ze (by kernel_rfl) (by rfl) (by kernel_rfl) (by rfl) (by rfl) (by simp [zu]) (fun uf ub C hpin hpin2 hfull => ?_)
 simp only [Tryz.f93, oD]
 refine Tri.step ze ?_
 simp +decide only [zh, zo, zb, za, hpin, go_sem, aD, mU]
 refine Tri.step ze ?_
 simp +decide only [zh, zo, zb, za, hpin, go_sem, aD, mU]
 refine Tri.step ze ?_
 simp +decide only [zh, zo, zb, za, hpin, go_sem, aD, mU]
 refine Tri.loop (ι := Nat × List ParamD) (fun a => a.1 <= E.length /\ a.2.length <= a.1 /\ spP l (E.drop a.1) a.2 = Z) (fun a => ⟨76, [(0, .imm 96 (rows (varC true) l)), (1, .imm 166 (rows (zr true) E)), (6, .ref 6 [] a.2.length), (7, vI a.1)], [(6, .row 107 (rows (zn false) a.2))]⟩) (fun a => E.length - a.1) (0, []) ⟨by simp, by simp, hZ⟩ ?_ ?_
 · refine Ent.weak ?_ ?_ ?_ ?_ <;> simp +decide [zH, zS, subT, subB, zj, zi, zm, St.get, look, vI, vB, vS, cI, cS, cB, zg, fnC, zn, zr, za, roI, rows]
 rintro ⟨i, o⟩ ⟨hi, hol, hz⟩
 simp only at hi hol hz
 refine zf ze _ ?_
 by_cases h' : i < E.length
 · have e : ((i : Int) < (E.length : Int)) = True := by simp [h']
   have hgq : (rows (zr true) E).getD i [] = zr true E[i] := zk _ _ h'
   rw [List.drop_eq_getElem_cons h'] at hz
   generalize E[i] = x at hgq hz
   simp only [zr, cI, cS] at hgq
   unfold spP zaO at hz
   cases h1 : band x.bits 64 == 0 with
   | false =>
    rw [h1] at hz
    simp only [Bool.not_false, if_true] at hz
    simp +decide only [e, h', hgq, h1, xR, bne, iN, vB, vI, zh, zo, zb, za, hpin, go_sem, aD, mU]
    refine ⟨(i + 1, o), ⟨h', by simp only; omega, hz⟩, by simp only; omega, Ent.weak ?_ ?_ ?_ ?_⟩
    all_goals simp +decide [zH, zS, subT, subB, zj, zi, zm, St.get, look, vI, vB, vS, cI, cS, cB, zg, fnC, zn, zr, za, roI, w64s (n := E.length) h' (by omega)]
   | true =>
    rw [h1] at hz
    simp only [Bool.not_true, bF, if_false] at hz
    have hvt := ZC l x.name (by omega)
    have hmd := zjK x.bits (yZ l x.name)
    have hme : modE l x = xt x.bits (yZ l x.name) := rfl
    simp only [cI] at hvt hmd
    rw [hme] at hz
    generalize yZ l x.name = tv at hvt hmd hz
    generalize xt x.bits tv = md at hmd hz
    simp +decide only [e, h', hgq, h1, xR, bne, iN, vB, vI, zh, zo, zb, za, hpin, go_sem, aD, mU]
    refine Tri.sched ze [(0, true), (1, true), (2, true), (3, true), (5, true), (6, true), (7, true), (8, true), (9, true), (4, true), (10, false), (11, false), (12, false), (13, false)] zO (by kernel_rfl) (fun C2 hC2 => ?_)
    have hp2 := zP hC2 hpin
    simp +decide only [e, h', hgq, iN, zh, zo, zb, za, hp2, hpin, go_sem, aD, mU]
    refine zd hvt hp2 ?_
    simp +decide only [e, h', hgq, iN, zh, zo, zb, za, hp2, hpin, go_sem, aD, mU]
    refine zd hmd hp2 ?_
    have hsn := yM (zn false) o ⟨x.name, md⟩
    simp only [zn, cI, cS] at hsn
    have hb1 : o.length + 1 <= 140737488355328 := by omega
    have hb2 : (o.length + 1) * 24 <= 140737488355328 := by omega
    cases h2 : md == 0 with
    | true =>
     rw [h2] at hz
     simp only [bT, if_true] at hz
     rw [<- hz]
     simp +decide only [e, h', hgq, h2, iN, vB, vI, zh, zo, zb, za, hp2, hpin, go_sem, aD, mU]
    | false =>
    rw [h2] at hz
    simp only [bO] at hz
    cases h4 : md == 4 with
    | false =>
     rw [h4] at hz
     simp only [Bool.false_and, bF, if_false] at hz
     simp +decide only [e, h', hgq, h2, h4, hb1, hb2, hsn, iN, vB, vI, zh, zo, zb, za, hp2, hpin, go_sem, aD, mU]
     refine ⟨(i + 1, o ++ [⟨x.name, md⟩]), ⟨h', by simp; omega, hz⟩, by simp only; omega, Ent.weak ?_ ?_ ?_ ?_⟩
     all_goals simp +decide [zH, zS, subT, subB, zj, zi, zm, St.get, look, vI, vB, vS, cI, cS, cB, zg, fnC, zn, zr, za, roI, w64s (n := E.length) h' (by omega)]
    | true =>
     rw [h4] at hz
     simp only [Bool.true_and] at hz
     simp +decide only [e, h', hgq, h2, h4, iN, vB, vI, zh, zo, zb, za, hp2, hpin, go_sem, aD, mU]
     refine zd hvt hpin ?_
     cases h3 : tv == 2 with
     | false =>
      rw [h3] at hz
      simp only [Bool.false_and, bF, if_false] at hz
      simp +decide only [e, h', hgq, h3, hb1, hb2, hsn, xR, bne, iN, vB, vI, zh, zo, zb, za, hp2, hpin, go_sem, aD, mU]
      refine ⟨(i + 1, o ++ [⟨x.name, md⟩]), ⟨h', by simp; omega, hz⟩, by simp only; omega, Ent.weak ?_ ?_ ?_ ?_⟩
      all_goals simp +decide [zH, zS, subT, subB, zj, zi, zm, St.get, look, vI, vB, vS, cI, cS, cB, zg, fnC, zn, zr, za, roI, w64s (n := E.length) h' (by omega)]
     | true =>
      rw [h3] at hz
      simp only [Bool.true_and] at hz
      cases h5 : band x.bits 8 == 0 with
      | true =>
       rw [h5] at hz
       simp only [Bool.not_true, bF, if_false] at hz
       simp +decide only [e, h', hgq, h3, h5, hb1, hb2, hsn, xR, bne, iN, vB, vI, zh, zo, zb, za, hp2, hpin, go_sem, aD, mU]
       refine ⟨(i + 1, o ++ [⟨x.name, md⟩]), ⟨h', by simp; omega, hz⟩, by simp only; omega, Ent.weak ?_ ?_ ?_ ?_⟩
       all_goals simp +decide [zH, zS, subT, subB, zj, zi, zm, St.get, look, vI, vB, vS, cI, cS, cB, zg, fnC, zn, zr, za, roI, w64s (n := E.length) h' (by omega)]
      | false =>
       rw [h5] at hz
       simp only [Bool.not_false, if_true] at hz
       rw [<- hz]
       simp +decide only [e, h', hgq, h3, h5, xR, bne, iN, vB, vI, zh, zo, zb, za, hp2, hpin, go_sem, aD, mU]
 have hil' : i = E.length := by omega
 subst hil'
 have e : ((E.length : Int) < (E.length : Int)) = False := by simp
 rw [List.drop_length] at hz
 unfold spP at hz
 rw [<- hz]
 simp +decide only [e, vB, vI, zh, zo, zb, za, hpin, go_sem, aD, mU]
 refine zf ze _ ?_
 by_cases h3 : o.length <= 3
 · have c3 : ((o.length : Int) <= 3) = True := eq_true (by omega)
   simp +decide only [c3, h3, zh, zo, zb, za, hpin, go_sem, aD, mU]
 · have c3 : ((o.length : Int) <= 3) = False := eq_false (by omega)
   simp +decide only [c3, h3, zh, zo, zb, za, hpin, go_sem, aD, mU]
open Classical in
theorem zja (p : ProgramD) (R : List Int) (m : Nat) : (xH p R).contains (m : Int) = decide (zbf p R m) := by
 rw [Bool.eq_iff_iff, List.contains_iff_mem, zeX, decide_eq_true_iff]
 rfl
theorem zfn (p : ProgramD) (hD : Deep p.nodes) (f : Nat) (R : List Int) (hRv : ∀ k ∈ R, 0 <= k /\ k.toNat < p.nodes.length) (hRl : R.length <= 1048576) (E : List EffectD) (hE : E.length <= 1048576) (hf : p.fns.length <= 1048576) (hn : p.nodes.length <= 1048576) (hk : ∀ x ∈ p.nodes, x.kids.length <= 1048576) :
 zx Tryz.prog 94 [.ro (zb p), .ro (.sc (.int .i64 f)), .ro (roI R), .ro (.imm 166 (rows (zr true) E))] (fun rs st => rs = [(false, [cB (zcQ p f (xH p R) E)])]) := by
 classical
 have hus := fun s => zge p f s hf hn hk
 have hlU : ∀ s, (zbX p f s).length <= p.nodes.length := fun s => Nat.le_trans (Yt p s (fnNs p f)) (XK p f)
 have hmU := fun s x h => zml (p := p) (fn := (f : Int)) (s := s) (x := x) h
 have hm1 : ((1 : Nat) : Int) * (p.nodes.length : Int) <= 281474976710656 := by omega
 have hm2 : (p.nodes.length : Int) <= 140737488355328 := by omega
 have hof := zbx p.nodes.length
 simp only [cB] at hof
 simp only [zb] at hus
 let Q : Nat -> Nat -> Prop := fun i m => ∃ a, ∃ (ha : a < R.length), a < i /\ (m : Int) ∈ zI p.nodes R[a]
 refine zp (fn := Tryz.f94) (c := Tryz.f94.body.getD .skip) (res := [.tm 8]) (n := 67) ze (by kernel_rfl) (by rfl) (by kernel_rfl) (by rfl) (by rfl) (by simp [zu]) (fun uf ub C hpin hpin2 hfull => ?_)
 simp only [Tryz.f94, oD]
 refine Tri.step ze ?_
 simp +decide only [zh, zo, zb, za, hpin, go_sem, aD, mU]
 refine Tri.ent ?_ (Ent.frb hfull 4)
 refine Tri.step ze ?_
 simp +decide only [hm1, hm2, hof, iN, zh, zo, zb, za, hpin, go_sem, aD, mU]
 refine Tri.stop ze ⟨67, [(1, vI f), (3, .imm 166 (rows (zr true) E)), (4, .ip (za true p) 0), (9, .ref 9 [] p.nodes.length)], [(9, .row 4 (row1 cB (ofP p.nodes.length (Q R.length))))]⟩ ?_ ?_
 · simp +decide only [zh, zo, zb, za, hpin, go_sem, aD, mU]
   refine Tri.loop (ι := Nat) (fun i => i <= R.length) (fun i => ⟨67, [(1, vI f), (2, roI R), (3, .imm 166 (rows (zr true) E)), (4, .ip (za true p) 0), (9, .ref 9 [] p.nodes.length), (10, vI i)], [(9, .row 4 (row1 cB (ofP p.nodes.length (Q i))))]⟩) (fun i => R.length - i) 0 (by simp) ?_ ?_
   · have e9 : ofP p.nodes.length (Q 0) = ofP p.nodes.length (fun _ => False) := xB (fun m _ => ⟨fun ⟨a, ha, h0, _⟩ => by omega, fun h => h.elim⟩)
     refine Ent.weak ?_ ?_ ?_ ?_ <;> simp +decide [zH, zS, subT, subB, zj, zi, zm, St.get, look, vI, vB, vS, cI, cS, cB, zg, fnC, zn, zr, za, roI, e9]
   · rintro i hi
     refine zf ze _ ?_
     by_cases h' : i < R.length
     · have e : ((i : Int) < (R.length : Int)) = True := by simp [h']
       obtain ⟨n0, n1⟩ := hRv _ (lM h')
       obtain ⟨n, hnR⟩ : ∃ n : Nat, R[i] = n := ⟨R[i].toNat, by omega⟩
       have hnl : n < p.nodes.length := by omega
       have hdn := hD.deep n hnl
       have hdd : ∀ k : Int, inI k 0 (p.nodes.length - 1) = true -> ¬ (ye p.nodes k == 0) = true := fun k hk1 => by
        have hk2 := zy hk1
        have hk3 := hD.deep k.toNat (by omega)
        unfold ye
        rw [hk1]
        simpa using hk3
       have hin : inI R[i] 0 (p.nodes.length - 1) = true := by simp [inI]; omega
       have hun : ∀ a (ha : a < R.length) (m : Nat), (m : Int) ∈ zI p.nodes R[a] -> ∀ q, Reach p.nodes m q -> (q : Int) ∈ zI p.nodes R[a] := fun a ha m hm q hr => by
        have h1 := yb hm
        have hna : ¬ (ye p.nodes R[a] == 0) = true := fun hz => by
         unfold zI at hm
         rw [if_pos hz] at hm
         simp at hm
        rw [Zc hna] at hm |-
        exact hm.trans hr
       have hmk := zaA p.nodes hn hk n hdn (Q i) (fun m _ ⟨a, ha, h1, h2⟩ q hr => ⟨a, ha, h1, hun a ha m h2 q hr⟩)
       have hnx : ofP p.nodes.length (fun m => Q i m \/ Reach p.nodes n m) = ofP p.nodes.length (Q (i + 1)) := xB (fun m _ => by
        have hr := Zc (hdd R[i] hin) m
        rw [hnR, show (n : Int).toNat = n by omega] at hr
        constructor
        · rintro (⟨a, ha, h1, h2⟩ | h)
          · exact ⟨a, ha, by omega, h2⟩
          · exact ⟨i, h', by omega, by rw [hnR]; exact hr.2 h⟩
        · rintro ⟨a, ha, h1, h2⟩
          by_cases ea : a = i
          · subst ea; right; rw [hnR] at h2; exact hr.1 h2
          · exact Or.inl ⟨a, ha, by omega, h2⟩)
       rw [hnx] at hmk
       simp +decide only [e, vB, vI, zh, zo, zb, za, hpin, go_sem, aD, mU]
       refine Tri.sched ze [(0, true), (2, true), (3, true), (4, true), (6, true), (1, true), (5, false), (7, false)] zO (by kernel_rfl) (fun C2 hC2 => ?_)
       have hp2 := zP hC2 hpin
       simp +decide only [e, h', zw _ _ h', hnR, iN, vB, vI, zh, zo, zb, za, hp2, hpin, go_sem, aD, mU]
       refine xX hmk hp2 [(2000, 9)] ⟨rfl, rfl, rfl⟩ (fun uf => ⟨rfl, rfl⟩) (fun uf => ?_) ?_
       · simp +decide only [zh, zo, zb, za, hp2, hpin, go_sem, aD, mU]
       simp +decide only [zh, zo, zb, za, hp2, hpin, go_sem, aD, mU]
       refine ⟨i + 1, h', by omega, Ent.weak ?_ ?_ ?_ ?_⟩
       all_goals simp +decide [zH, zS, subT, subB, zj, zi, zm, St.get, look, vI, vB, vS, cI, cS, cB, zg, fnC, zn, zr, za, roI, w64s (n := R.length) h' (by omega)]
     · have hil : i = R.length := by omega
       subst hil
       have e : ((R.length : Int) < (R.length : Int)) = False := by simp
       simp +decide only [e, vB, vI, zh, zo, zb, za, hpin, go_sem, aD, mU]
       refine Ent.weak ?_ ?_ ?_ ?_
       all_goals simp +decide [zH, zS, subT, subB, zj, zi, zm, St.get, look, vI, vB, vS, cI, cS, cB, zg, fnC, zn, zr, za, roI]
 have hqe : Q R.length = zbf p R := by
  funext m
  apply propext
  constructor
  · rintro ⟨a, ha, _, h⟩; exact ⟨R[a], lM ha, h⟩
  · rintro ⟨k, hk1, h⟩
    obtain ⟨a, ha, rfl⟩ := List.getElem_of_mem hk1
    exact ⟨a, ha, ha, h⟩
 rw [hqe]
 have hhas := zja p R
 generalize xH p R = ins at hhas |-
 have htk : List.take p.nodes.length (row1 cB (ofP p.nodes.length (zbf p R))) = row1 cB (ofP p.nodes.length (zbf p R)) := by
  have := yj cB (ofP p.nodes.length (zbf p R))
  rwa [zh] at this
 generalize zbf p R = A at htk hhas |-
 refine Tri.ent ?_ (Ent.frz hfull 9)
 refine Tri.step ze ?_
 simp +decide only [htk, vI, zh, zo, zb, za, hpin, go_sem, aD, mU]
 refine Tri.loop (ι := Nat) (fun i => i <= E.length /\ zcQ p f ins (E.take i) = false) (fun i => ⟨67, [(1, vI f), (3, .imm 166 (rows (zr true) E)), (4, .ip (za true p) 0), (9, .imm 4 (row1 cB (ofP p.nodes.length A))), (11, vI i)], []⟩) (fun i => E.length - i) 0 ⟨by simp, rfl⟩ ?_ ?_
 · refine Ent.weak ?_ ?_ ?_ ?_ <;> simp +decide [zH, zS, subT, subB, zj, zi, zm, St.get, look, vI, vB, vS, cI, cS, cB, zg, fnC, zn, zr, za, roI, htk, zdo]
 rintro i ⟨hi, hal⟩
 refine zf ze _ ?_
 by_cases h' : i < E.length
 · have e : ((i : Int) < (E.length : Int)) = True := by simp [h']
   have hgq : (rows (zr true) E).getD i [] = zr true E[i] := zk _ _ h'
   have hnx : zcQ p f ins (E.take (i + 1)) = (zaO E[i] && !ziy p f ins E[i].name) := by
    unfold zcQ at hal |-
    rw [List.take_succ_eq_append_getElem h', List.any_append, hal]; simp
   have hbad : (zaO E[i] && !ziy p f ins E[i].name) = true -> zcQ p f ins E = true := fun hh => by
    unfold zcQ; rw [List.any_eq_true]; exact ⟨E[i], lM h', hh⟩
   generalize E[i] = x at hgq hnx hbad
   simp only [zr, cI, cS] at hgq
   have husx := hus x.name
   have hlx := hlU x.name
   have hmx := hmU x.name
   have hkep : ziy p f ins x.name = (zbX p f x.name).all (fun y => ins.contains y) := rfl
   generalize zbX p f x.name = Us at husx hlx hmx hkep
   unfold zaO at hnx hbad
   cases h1 : band x.bits 64 == 0 with
   | true =>
    rw [h1] at hnx
    simp +decide only [e, h', hgq, h1, xR, iN, vB, vI, zh, zo, zb, za, hpin, go_sem, aD, mU]
    refine ⟨i + 1, ⟨h', by rw [hnx]; rfl⟩, by omega, Ent.weak ?_ ?_ ?_ ?_⟩
    all_goals simp +decide [zH, zS, subT, subB, zj, zi, zm, St.get, look, vI, vB, vS, cI, cS, cB, zg, fnC, zn, zr, za, roI, w64s (n := E.length) h' (by omega)]
   | false =>
    rw [h1] at hnx hbad
    simp only [Bool.not_false, Bool.true_and] at hnx hbad
    simp +decide only [e, h', hgq, h1, xR, iN, vB, vI, zh, zo, zb, za, hpin, go_sem, aD, mU]
    refine Tri.sched ze [(1, true), (2, true), (3, true), (4, true), (5, true), (0, true), (6, false), (7, false), (8, false)] zO (by kernel_rfl) (fun C2 hC2 => ?_)
    have hp2 := zP hC2 hpin
    simp +decide only [e, h', hgq, iN, vB, vI, zh, zo, zb, za, hp2, hpin, go_sem, aD, mU]
    refine zd husx hp2 ?_
    simp +decide only [zh, zo, zb, za, hp2, hpin, go_sem, aD, mU]
    refine Tri.loop (ι := Nat) (fun m => m <= Us.length /\ (Us.take m).all (fun y => ins.contains y) = true) (fun m => ⟨67, [(1, vI f), (3, .imm 166 (rows (zr true) E)), (4, .ip (za true p) 0), (9, .imm 4 (row1 cB (ofP p.nodes.length A))), (11, vI i), (12, .ref 12 [] Us.length), (13, vI m)], [(12, .row 3 (row1 cI Us))]⟩) (fun m => Us.length - m) 0 (by simp) ?_ ?_
    · refine Ent.weak ?_ ?_ ?_ ?_ <;> simp +decide [zH, zS, subT, subB, zj, zi, zm, St.get, look, vI, vB, vS, cI, cS, cB, zg, fnC, zn, zr, za, roI]
    rintro m ⟨hm, ham⟩
    refine zf ze _ ?_
    by_cases hm' : m < Us.length
    · have em : ((m : Int) < (Us.length : Int)) = True := by simp [hm']
      obtain ⟨u0, u1, _, _⟩ := hmx _ (lM hm')
      obtain ⟨u, hue⟩ : ∃ u : Nat, Us[m] = u := ⟨(Us[m]).toNat, by omega⟩
      rw [hue, Int.toNat_natCast] at u1
      have hgi : (row1 cI Us)[m]? = some [.sc (.int .i64 u)] := by rw [zW cI Us hm', hue]; rfl
      have cu : ((u : Int) < (p.nodes.length : Int)) = True := eq_true (by omega)
      have hog : (row1 cB (ofP p.nodes.length A)).getD u [] = [cB (decide (A u))] := zea u1
      have hhu := hhas u
      rw [<- hhu] at hog
      have hall : (Us.take (m + 1)).all (fun y => ins.contains y) = ins.contains (u : Int) := by
       rw [List.take_succ_eq_append_getElem hm', List.all_append, ham, hue]; simp
      have hbad2 : ins.contains (u : Int) = false -> Us.all (fun y => ins.contains y) = false := fun hh => Xi hm' (by rw [hue]; exact hh)
      have hol : (ofP p.nodes.length A).length = p.nodes.length := zh _ _
      simp only [cB] at hog
      cases h2 : ins.contains (u : Int) with
      | false =>
       rw [h2] at hog
       have hyes := hbad (by rw [hkep, hbad2 h2]; rfl)
       simp +decide only [em, hm', hgi, cu, u1, hol, hog, hyes, iN, vB, vI, zh, zo, zb, za, hpin, go_sem, aD, mU]
      | true =>
       rw [h2] at hog
       simp +decide only [em, hm', hgi, cu, u1, hol, hog, iN, vB, vI, zh, zo, zb, za, hpin, go_sem, aD, mU]
       refine ⟨m + 1, ⟨hm', by rw [hall, h2]⟩, by omega, Ent.weak ?_ ?_ ?_ ?_⟩
       all_goals simp +decide [zH, zS, subT, subB, zj, zi, zm, St.get, look, vI, vB, vS, cI, cS, cB, zg, fnC, zn, zr, za, roI, w64s (n := Us.length) hm' (by omega)]
    · have hml : m = Us.length := by omega
      subst hml
      have em : ((Us.length : Int) < (Us.length : Int)) = False := by simp
      rw [List.take_length] at ham
      simp +decide only [em, vB, vI, zh, zo, zb, za, hpin, go_sem, aD, mU]
      refine ⟨i + 1, ⟨h', by rw [hnx, hkep, ham]; rfl⟩, by omega, Ent.weak ?_ ?_ ?_ ?_⟩
      all_goals simp +decide [zH, zS, subT, subB, zj, zi, zm, St.get, look, vI, vB, vS, cI, cS, cB, zg, fnC, zn, zr, za, roI, w64s (n := E.length) h' (by omega)]
 have hil' : i = E.length := by omega
 subst hil'
 have e : ((E.length : Int) < (E.length : Int)) = False := by simp
 rw [List.take_length] at hal
 simp +decide only [e, vB, vI, zh, zo, zb, za, hpin, go_sem, aD, mU]
 refine zf ze _ ?_
 simp +decide only [hal, zh, zo, zb, za, hpin, go_sem, aD, mU]
theorem hit2 (x : NodeD) (q : ParamD) : hitQ ⟨2, x.num, x.name, x.kids⟩ q = false := by
 have e1 : ((2 : Int) == 5) = false := by decide
 have e2 : ((2 : Int) == 6) = false := by decide
 simp only [hitQ, e1, e2, Bool.false_and, Bool.or_self, Bool.and_false]
theorem znm (x : NodeD) : inX [] x = x := rfl
theorem zkO {ps : List ParamD} {m : Nat} (h : m < ps.length) (y : NodeD) : inX (ps.take (m + 1)) y = if hitQ (inX (ps.take m) y) ps[m] then ⟨2, (inX (ps.take m) y).num, (inX (ps.take m) y).name, (inX (ps.take m) y).kids⟩ else inX (ps.take m) y := by
 have e : (ps.take (m + 1)).any (hitQ y) = ((ps.take m).any (hitQ y) || hitQ y ps[m]) := by
  rw [List.take_succ_eq_append_getElem h, List.any_append]; simp
 unfold inX
 rw [e]
 cases h1 : (ps.take m).any (hitQ y) with
 | true => simp [hit2]
 | false => simp
theorem zow (ps : List ParamD) (x : NodeD) : inX ps (inX ps x) = inX ps x := by
 unfold inX
 cases h1 : ps.any (hitQ x) with
 | true =>
  simp only [if_true]
  have : ps.any (hitQ ⟨2, x.num, x.name, x.kids⟩) = false := by
   rw [List.any_eq_false]
   intro q _
   rw [hit2]; decide
  rw [this]; rfl
 | false => simp [h1]
theorem xi (ps : List ParamD) (S : List Int) (N : List NodeD) : (inN ps S N).length = N.length := by simp [inN]
theorem zbe (ps : List ParamD) (S : List Int) (N : List NodeD) {i : Nat} (h : i < N.length) (h2 : i < (inN ps S N).length) : (inN ps S N)[i] = if S.contains (i : Int) then inX ps N[i] else N[i] := by simp [inN]
theorem zpJ (ps : List ParamD) (N : List NodeD) : inN ps [] N = N := by
 apply List.ext_getElem
 · rw [xi]
 · intro i h1 h2
   rw [zbe ps [] N h2]
   simp
theorem zpI (ps : List ParamD) (S : List Int) (N : List NodeD) {u : Nat} (h : u < N.length) (h2 : u < (inN ps S N).length) : (inN ps S N).set u (inX ps (inN ps S N)[u]) = inN ps (S ++ [(u : Int)]) N := by
 apply List.ext_getElem
 · simp [xi]
 · intro i h3 h4
   have hi : i < N.length := by rw [xi] at h4; exact h4
   rw [zbe ps _ N hi, List.getElem_set]
   by_cases e : u = i
   · subst e
     rw [if_pos rfl, zbe ps S N hi]
     have hc : (S ++ [(u : Int)]).contains (u : Int) = true := by simp
     rw [hc, if_pos rfl]
     split
     · exact zow ps _
     · rfl
   · rw [if_neg e, zbe ps S N hi]
     have hc : (S ++ [(u : Int)]).contains (i : Int) = S.contains (i : Int) := by
      rw [Bool.eq_iff_iff]
      simp only [List.contains_iff_mem, List.mem_append, List.mem_singleton]
      constructor
      · rintro (h | h)
        · exact h
        · omega
      · exact Or.inl
     rw [hc]
theorem zov (ps : List ParamD) (x : NodeD) : (inX ps x).kids = x.kids := by
 unfold inX; split <;> rfl
theorem zpK {B : Nat} (ps : List ParamD) (S : List Int) {N : List NodeD} (h : ∀ x ∈ N, x.kids.length <= B) : ∀ x ∈ inN ps S N, x.kids.length <= B := fun x hx => by
 obtain ⟨i, hi, rfl⟩ := List.getElem_of_mem hx
 have hi2 : i < N.length := by rw [xi] at hi; exact hi
 rw [zbe ps S N hi2]
 have := h _ (lM hi2)
 split
 · rw [zov]; exact this
 · exact this
theorem zio {T : List NodeD} {i : Nat} (h : i < T.length) (k : Int) : zN (rows (zg false) T) i 0 (.sc (.int .i64 k)) = rows (zg false) (T.set i ⟨k, T[i].num, T[i].name, T[i].kids⟩) := by
 unfold zN
 rw [List.getD_eq_getElem?_getD, Ye (zg false) T h]
 exact zju (zg false) T i ⟨k, T[i].num, T[i].name, T[i].kids⟩
theorem znp (l : List FnD) : shLL (rows (fnC true) l) = rows (fnC true) l := by
 rw [yw]
 simp only [rows, List.map_map]
 apply List.map_congr_left
 intro x _
 have h : shLL (rows (zn true) x.params) = rows (zn true) x.params := by
  rw [yw]
  simp only [rows, List.map_map]
  apply List.map_congr_left
  intro x _
  simp [zn, shL, shD, cI, cS]
 simp only [rows] at h
 simp [fnC, shL, shD, cI, cS, rows, h]
theorem zim (l : List NodeD) : shLL (rows (zg true) l) = rows (zg true) l := by
 rw [yw]
 simp only [rows, List.map_map]
 apply List.map_congr_left
 intro x _
 simp [zg, shL, shD, cI, cS, yJ]
theorem zdl (l : List FnD) : (rows (fnC true) l).all (fun x => x.all XJ) = true := by simp [rows, fnC, cI, cS, XJ]
theorem zjt {α : Type} (f : α -> List D) (l : List α) (n : Nat) : List.take n (rows f l) = rows f (l.take n) := by simp [rows, List.map_take]
theorem zjv {α : Type} (f : α -> List D) (l : List α) (n : Nat) : List.drop n (rows f l) = rows f (l.drop n) := by simp [rows, List.map_drop]
theorem zmG {α : Type} (f : α -> List D) (l m : List α) : rows f l ++ rows f m = rows f (l ++ m) := by simp [rows]
theorem xL (n k : Nat) : (YC n k).length = k := by simp [YC]
theorem zeB (n k : Nat) : YC n (k + 1) = YC n k ++ [((n + k : Nat) : Int)] := by
 unfold YC
 rw [List.range_succ, List.map_append]; rfl
theorem ziX (l : List VarD) {ps : List ParamD} {m : Nat} (h : m < ps.length) : (ps.take (m + 1)).map (argN l) = (ps.take m).map (argN l) ++ [argN l ps[m]] := by
 rw [List.take_succ_eq_append_getElem h, List.map_append]; rfl
structure PartIs (p : ProgramD) (f b i j : Nat) : Prop where
 right : Right p
 hf : f < p.fns.length
 hb : b < p.nodes.length
 kind : p.nodes[b].kind = 20
 hij : i <= j
 hj : j < p.nodes[b].kids.length
theorem zmS {p : ProgramD} (hR : zX p = true) {f : Nat} (hf : f < p.fns.length) {b i j : Int} (h : ZA p f b i j = true) : ∃ bn ni nj : Nat, b = bn /\ i = ni /\ j = nj /\ PartIs p f bn ni nj := by
 have hG := yh (YS hR).1
 unfold ZA at h
 obtain ⟨h1, h2⟩ := Bool.and_eq_true_iff.1 h
 obtain ⟨h3, h4⟩ := Bool.and_eq_true_iff.1 h2
 obtain ⟨h5, h6⟩ := Bool.and_eq_true_iff.1 h4
 obtain ⟨h7, h8⟩ := Bool.and_eq_true_iff.1 h6
 have hm := yb (List.contains_iff_mem.1 h1)
 have h5 := of_decide_eq_true h5
 have h7 := of_decide_eq_true h7
 have h8 := of_decide_eq_true h8
 obtain ⟨bn, rfl⟩ : ∃ n : Nat, b = n := ⟨b.toNat, by omega⟩
 obtain ⟨ni, rfl⟩ : ∃ n : Nat, i = n := ⟨i.toNat, by omega⟩
 obtain ⟨nj, rfl⟩ : ∃ n : Nat, j = n := ⟨j.toNat, by omega⟩
 have hbl : bn < p.nodes.length := by simpa using hm.2.1
 rw [zR hbl] at h3 h8
 exact ⟨bn, ni, nj, rfl, rfl, rfl, hG, hf, hbl, by simpa using h3, by omega, by omega⟩
theorem zfI {p : ProgramD} {f b i j : Nat} (h : PartIs p f b i j) : ∀ k ∈ yp p b i j, 0 <= k /\ k.toNat < p.nodes.length := fun k hk => by
 unfold yp at hk
 rw [zR h.hb] at hk
 have hb := h.hb
 have := h.right.deep.kid h.hb k (List.mem_of_mem_take (List.mem_of_mem_drop hk))
 omega
theorem zdS {p : ProgramD} {f b i j : Nat} (h : PartIs p f b i j) : (yp p b i j).length <= 12 := by
 have hb := h.hb
 unfold yp
 rw [zR hb]
 have := h.right.deep.few _ (lM hb)
 simp only [List.length_drop, List.length_take]
 omega
theorem ziC {p : ProgramD} {f b i j : Nat} (h : PartIs p f b i j) (ps : List ParamD) (S : List Int) (hb2 : b < (inN ps S p.nodes).length) : (inN ps S p.nodes)[b] = p.nodes[b]'h.hb := by
 have hb := h.hb
 have h20 := h.kind
 rw [zbe ps S p.nodes hb]
 split
 · unfold inX
   have : ps.any (hitQ p.nodes[b]) = false := by
    rw [List.any_eq_false]
    intro q _
    unfold hitQ
    rw [h20]
    have e1 : ((20 : Int) == 5) = false := by decide
    have e2 : ((20 : Int) == 6) = false := by decide
    rw [e1, e2]
    simp
   rw [this]; rfl
 · rfl
noncomputable def xfNm (p : ProgramD) (s : ByteArray) : Bool := YJ s && decide (xd p.fns s < 0)
noncomputable def zqv (p : ProgramD) (fn b i j : Int) (s : ByteArray) (ps : List ParamD) : ProgramD := xfP p fn.toNat b.toNat i.toNat j.toNat (yi p fn) ps (xH p (yp p b i.toNat j.toNat)) (yp p b i.toNat j.toNat) s
noncomputable def yU (p : ProgramD) (fn b i j : Int) (s : ByteArray) : Int := if zX p && inI fn 0 (p.fns.length - 1) then (if xfNm p s then (if ZA p fn.toNat b i j then (match zbH p fn (yp p b i.toNat j.toNat) with
 | none => 4
 | some ps => zcn (zqv p fn b i j s ps)) else 3) else 2) else 1
noncomputable def xfPr (p : ProgramD) (fn b i j : Int) (s : ByteArray) : ProgramD := if zX p && inI fn 0 (p.fns.length - 1) then (if xfNm p s then (if ZA p fn.toNat b i j then (match zbH p fn (yp p b i.toNat j.toNat) with
 | none => p
 | some ps => finP p (zqv p fn b i j s ps)) else p) else p) else p
theorem zhu {p : ProgramD} {f b i j : Nat} (h : PartIs p f b i j) (l : List VarD) {ps : List ParamD} (hps : ps.length <= 3) (ins R : List Int) (hR : R.length <= 12) (s : ByteArray) (hpl : ∀ f ∈ p.fns, f.params.length <= 1048576) : (xfP p f b i j l ps ins R s).fns.length <= 1048576 /\ (xfP p f b i j l ps ins R s).nodes.length <= 1048576 /\ (∀ x ∈ (xfP p f b i j l ps ins R s).nodes, x.kids.length <= 1048576) /\ ∀ g ∈ (xfP p f b i j l ps ins R s).fns, g.params.length <= 1048576 := by
 have h1 := h.right.few
 have h2 := h.right.fns
 have h3 := h.right.deep.few
 have hb := h.hb
 refine ⟨by simp [xfP, xfF]; omega, by simp [xfP, xfN, xi]; omega, fun x hx => ?_, fun g hg => ?_⟩
 · simp only [xfP] at hx
   rcases List.mem_or_eq_of_mem_set hx with hx | rfl
   · unfold xfN at hx
     rcases List.mem_append.1 hx with hx | hx
     · rcases List.mem_append.1 hx with hx | hx
       · rcases List.mem_append.1 hx with hx | hx
         · rcases List.mem_append.1 hx with hx | hx
           · have := zpK ps ins h3 x hx; omega
           · obtain ⟨q, _, rfl⟩ := List.mem_map.1 hx
             simp [argN]
         · rw [List.mem_singleton.1 hx]
           simp only [XP]; rw [xL]; omega
       · rw [List.mem_singleton.1 hx]; simp [xfDo]
     · rw [List.mem_singleton.1 hx]
       simp only [XY]; omega
   · have := h3 _ (lM hb)
     unfold xfB
     rw [zR hb]
     simp only [List.length_append, List.length_take, List.length_drop, List.length_singleton]
     omega
 · simp only [xfP, xfF] at hg
   rcases List.mem_append.1 hg with hg | hg
   · rcases List.mem_append.1 hg with hg | hg
     · exact hpl g (List.mem_of_mem_take hg)
     · rw [List.mem_singleton.1 hg]; simp only; omega
   · exact hpl g (List.mem_of_mem_drop hg)
theorem zcU (p : ProgramD) (fn b i j : Int) (s : ByteArray) (hf : p.fns.length <= 1048576) (hn : p.nodes.length <= 1048576) (hk : ∀ x ∈ p.nodes, x.kids.length <= 1048576) (hpl : ∀ f ∈ p.fns, f.params.length <= 1048576) :
 zx Tryz.prog 31 [.ro (zb p), .ro (.sc (.int .i64 fn)), .ro (.sc (.int .i64 b)), .ro (.sc (.int .i64 i)), .ro (.sc (.int .i64 j)), .ro (.sc (.string s))] (fun rs st => rs = [(true, za false (xfPr p fn b i j s)), (false, [cI (yU p fn b i j s)])]) := by
 have w1 : IntKind.i64.wrap ((p.fns.length : Int) - 1) = (p.fns.length : Int) - 1 := w64 (by omega) (by omega)
 have htr := YP p hf hn hk hpl
 have hcp := Xg p hf hn hk hpl
 have hnm := xD s
 have hfa := Ym p s hf
 simp only [zb, za, cI] at htr hcp hfa
 refine zp (fn := Tryz.f31) (c := Tryz.f31.body.getD .skip) (res := [.ce 12 36, .tm 13]) (n := 235) ze (by kernel_rfl) (by rfl) (by kernel_rfl) (by rfl) (by rfl) (by simp [zu]) (fun uf ub C hpin hpin2 hfull => ?_)
 simp only [Tryz.f31, oD]
 refine Tri.step ze ?_
 simp +decide only [zo, zb, za, hpin, go_sem, aD, mU]
 refine Tri.ent ?_ (Ent.frb hfull 6)
 refine Tri.step ze ?_
 simp +decide only [zo, zb, za, hpin, go_sem, aD, mU]
 refine zd htr hpin ?_
 cases hR : zX p with
 | false =>
  have e1 : xfPr p fn b i j s = p := by unfold xfPr; rw [hR]; rfl
  have e2 : yU p fn b i j s = 1 := by unfold yU; rw [hR]; rfl
  simp +decide only [zo, zb, za, hpin, go_sem, aD, mU]
  refine zd hcp hpin ?_
  simp +decide only [e1, e2, zo, zb, za, hpin, go_sem, aD, mU]
 | true =>
 simp +decide only [w1, zo, zb, za, hpin, go_sem, aD, mU]
 refine zd (in' fn 0 (p.fns.length - 1)) hpin ?_
 cases h0 : inI fn 0 (p.fns.length - 1) with
 | false =>
  have e1 : xfPr p fn b i j s = p := by unfold xfPr; rw [hR, h0]; rfl
  have e2 : yU p fn b i j s = 1 := by unfold yU; rw [hR, h0]; rfl
  simp +decide only [zo, zb, za, hpin, go_sem, aD, mU]
  refine zd hcp hpin ?_
  simp +decide only [e1, e2, zo, zb, za, hpin, go_sem, aD, mU]
 | true =>
 have hr := zy h0
 obtain ⟨f, rfl⟩ : ∃ f : Nat, fn = f := ⟨fn.toNat, by omega⟩
 have hfl : f < p.fns.length := by omega
 have hG := yh (YS hR).1
 have hD := hG.deep
 have hk3 : ∀ x ∈ p.nodes, x.kids.length <= 300 := fun x hx => by have := hD.few x hx; omega
 simp +decide only [zo, zb, za, hpin, go_sem, aD, mU]
 refine Tri.step ze ?_
 simp +decide only [zo, zb, za, hpin, go_sem, aD, mU]
 refine zd hnm hpin ?_
 have hno2 : xfNm p s = false -> xfPr p f b i j s = p /\ yU p f b i j s = 2 := fun hw => by
  refine ⟨?_, ?_⟩
  · unfold xfPr; rw [hR, h0, hw]; rfl
  · unfold yU; rw [hR, h0, hw]; rfl
 cases hN : YJ s with
 | false =>
  obtain ⟨e1, e2⟩ := hno2 (by unfold xfNm; rw [hN]; rfl)
  simp +decide only [zo, zb, za, hpin, go_sem, aD, mU]
  refine zd hcp hpin ?_
  simp +decide only [e1, e2, zo, zb, za, hpin, go_sem, aD, mU]
 | true =>
 simp +decide only [zo, zb, za, hpin, go_sem, aD, mU]
 refine zd hfa hpin ?_
 by_cases hA : xd p.fns s < 0
 case neg =>
  have hA3 : (0 <= xd p.fns s) = True := eq_true (by omega)
  obtain ⟨e1, e2⟩ := hno2 (by unfold xfNm; rw [hN, decide_eq_false hA]; rfl)
  simp +decide only [hA3, ge_iff_le, zo, zb, za, hpin, go_sem, aD, mU]
  refine zd hcp hpin ?_
  simp +decide only [e1, e2, zo, zb, za, hpin, go_sem, aD, mU]
 have hA3 : (0 <= xd p.fns s) = False := eq_false (by omega)
 have hNm : xfNm p s = true := by unfold xfNm; rw [hN, decide_eq_true hA]; rfl
 simp +decide only [hA3, ge_iff_le, zo, zb, za, hpin, go_sem, aD, mU]
 clear hno2 hfa hnm htr
 have hib := zgU p f hfl b i j hn hk
 simp only [zb, cB] at hib
 refine Tri.step ze ?_
 simp +decide only [zo, zb, za, hpin, go_sem, aD, mU]
 refine zd hib hpin ?_
 cases hB : ZA p f b i j with
 | false =>
  have e1 : xfPr p f b i j s = p := by unfold xfPr; rw [hR, h0, hNm]; simp only [Bool.and_self, if_true, Int.toNat_natCast, hB]; rfl
  have e2 : yU p f b i j s = 3 := by unfold yU; rw [hR, h0, hNm]; simp only [Bool.and_self, if_true, Int.toNat_natCast, hB]; rfl
  simp +decide only [zo, zb, za, hpin, go_sem, aD, mU]
  refine zd hcp hpin ?_
  simp +decide only [e1, e2, zo, zb, za, hpin, go_sem, aD, mU]
 | true =>
 obtain ⟨b, i, j, rfl, rfl, rfl, hP⟩ := zmS hR hfl hB
 have hbl := hP.hb
 have hij := hP.hij
 have hjl := hP.hj
 have hbk := hD.few _ (lM hbl)
 have hRl := zdS hP
 have hRv := zfI hP
 have hRe : yp p (b : Int) i j = (p.nodes[b].kids.take (j + 1)).drop i := by unfold yp; rw [zR hbl]
 have hno4 : zbH p f (yp p (b : Int) i j) = none -> xfPr p f b i j s = p /\ yU p f b i j s = 4 := fun hw => by
  refine ⟨?_, ?_⟩
  · unfold xfPr; rw [hR, h0, hNm]; simp only [Bool.and_self, if_true, Int.toNat_natCast, hB, hw]
  · unfold yU; rw [hR, h0, hNm]; simp only [Bool.and_self, if_true, Int.toNat_natCast, hB, hw]
 have hyes : ∀ ps, zbH p f (yp p (b : Int) i j) = some ps -> xfPr p f b i j s = finP p (xfP p f b i j (yi p f) ps (xH p (yp p (b : Int) i j)) (yp p (b : Int) i j) s) /\ yU p f b i j s = zcn (xfP p f b i j (yi p f) ps (xH p (yp p (b : Int) i j)) (yp p (b : Int) i j) s) := fun ps hw => by
  refine ⟨?_, ?_⟩
  · unfold xfPr; rw [hR, h0, hNm]; simp only [Bool.and_self, if_true, Int.toNat_natCast, hB, hw]; rfl
  · unfold yU; rw [hR, h0, hNm]; simp only [Bool.and_self, if_true, Int.toNat_natCast, hB, hw]; rfl
 have hci := YK (yp p (b : Int) i j) (by omega)
 have hha := ziF p f hfl hR (yp p (b : Int) i j) (by omega) hf hn hk hpl
 have hua := YE p (yp p (b : Int) i j) (by omega) hn hk
 have hlen : ∀ ps, zbH p f (yp p (b : Int) i j) = some ps -> ps.length <= 3 := fun ps h => zgZ p f _ _ _ _ _ (by simp) h
 have hts := YF p hD f hf hn hk3 hpl
 have hvl := xI p f hpl hn
 simp only [zb, za, cI, cB, roI] at hci hha hua hts
 have hil := ZK p (yp p (b : Int) i j)
 have him : ∀ m (h : m < (xH p (yp p (b : Int) i j)).length), ∃ k : Nat, (xH p (yp p (b : Int) i j))[m] = k /\ k < p.nodes.length := fun m h => ziZ h
 have hxa : ∀ ps, xfP p f b i j (yi p f) ps (xH p (yp p (b : Int) i j)) (yp p (b : Int) i j) s = ⟨(xfN p (yi p f) ps (xH p (yp p (b : Int) i j)) (yp p (b : Int) i j) s).set b (xfB p b i j ((p.nodes.length + ps.length + 1 : Nat) : Int)), xfF p f ps s⟩ := fun ps => rfl
 have ck : ((b : Int) < (p.nodes.length : Int)) = True := eq_true (by omega)
 have hxk : (rows (zg true) p.nodes).getD b [] = zg true p.nodes[b] := zk _ _ hbl
 have c1 : ((i : Int) <= ((j + 1 : Nat) : Int)) = True := eq_true (by omega)
 have c2 : (((j + 1 : Nat) : Int) <= (p.nodes[b].kids.length : Int)) = True := eq_true (by omega)
 have wj : IntKind.i64.wrap ((j : Int) + 1) = ((j + 1 : Nat) : Int) := w64s (n := p.nodes[b].kids.length) hjl (by omega)
 simp +decide only [zo, zb, za, hpin, go_sem, aD, mU]
 refine Tri.step ze ?_
 simp +decide only [ck, hbl, hxk, zg, wj, c1, c2, zgx, zgy, <- hRe, iN, zo, zb, za, hpin, go_sem, aD, mU]
 refine zd hci hpin ?_
 generalize hRg : yp p (b : Int) i j = R at hci hha hua hno4 hyes hlen hil him hRl hRv hRe hxa |-
 have htk : List.take R.length (row1 cI R) = row1 cI R := yj cI R
 have hsh : shLL (row1 cI R) = row1 cI R := yJ R
 simp +decide only [zo, zb, za, hpin, go_sem, aD, mU]
 refine Tri.step ze ?_
 simp +decide only [htk, hsh, zo, zb, za, hpin, go_sem, aD, mU]
 refine zd hha hpin ?_
 cases hH : zbH p f R with
 | none =>
  obtain ⟨e1, e2⟩ := hno4 hH
  simp +decide only [Option.isSome_none, zo, zb, za, hpin, go_sem, aD, mU]
  refine Tri.step ze ?_
  simp +decide only [zo, zb, za, hpin, go_sem, aD, mU]
  refine zd hcp hpin ?_
  simp +decide only [e1, e2, zo, zb, za, hpin, go_sem, aD, mU]
 | some ps =>
 obtain ⟨e1, e2⟩ := hyes ps hH
 have hpsl := hlen ps hH
 rw [e1, e2]
 have hxa := hxa ps
 clear hno4 hyes hlen hha e1 e2
 simp +decide only [zo, zb, za, hpin, go_sem, aD, mU]
 refine Tri.ent ?_ (Ent.frz hfull 15)
 refine Tri.step ze ?_
 simp +decide only [zo, zb, za, hpin, go_sem, aD, mU]
 refine Tri.step ze ?_
 simp +decide only [zo, zb, za, hpin, go_sem, aD, mU]
 refine zd hcp hpin ?_
 simp +decide only [zo, zb, za, hpin, go_sem, aD, mU]
 refine Tri.step ze ?_
 simp +decide only [htk, hsh, zo, zb, za, hpin, go_sem, aD, mU]
 refine zd hua hpin ?_
 generalize xH p R = ins at hil him hxa hua |-
 simp +decide only [zo, zb, za, hpin, go_sem, aD, mU]
 refine Tri.loop (ι := Nat) (fun m => m <= ins.length) (fun m => ⟨235, [(1, vI f), (2, vI b), (3, vI i), (4, vI j), (5, vS s), (6, .ip (za true p) 0), (12, .bp 12 0), (14, .ref 14 [] R.length), (15, .imm 107 (rows (zn true) ps)), (17, .bp 17 0), (93, .ref 3093 [] ins.length), (94, vI ins.length), (95, vI m)], [(17, .box [.row false 83 (rows (zg false) (inN ps (ins.take m) p.nodes)), .row false 104 (rows (fnC false) p.fns)]), (14, .row 3 (row1 cI R)), (3093, .row 3 (row1 cI ins)), (12, .box [.sc (.slice none 0 0), .sc (.slice none 0 0)])]⟩) (fun m => ins.length - m) 0 (by simp) ?_ ?_
 · refine Ent.weak ?_ ?_ ?_ ?_ <;> simp +decide [zH, zS, subT, subB, zj, zi, zm, St.get, look, vI, vB, vS, cI, cS, cB, zg, fnC, zn, zr, za, roI, zpJ]
 rintro m hm
 refine zf ze _ ?_
 by_cases hm' : m < ins.length
 · have e : ((m : Int) < (ins.length : Int)) = True := by simp [hm']
   obtain ⟨u, hue, hul⟩ := him m hm'
   have hgi : (row1 cI ins)[m]? = some [.sc (.int .i64 u)] := by rw [zW cI ins hm', hue]; rfl
   have hnx : inN ps (ins.take (m + 1)) p.nodes = inN ps (ins.take m ++ [(u : Int)]) p.nodes := by rw [List.take_succ_eq_append_getElem hm', hue]
   have h2 : u < (inN ps (ins.take m) p.nodes).length := by rw [xi]; exact hul
   have hset := zpI ps (ins.take m) p.nodes hul h2
   rw [<- hnx] at hset
   have hTl : (inN ps (ins.take m) p.nodes).length = p.nodes.length := xi _ _ _
   clear hnx
   obtain ⟨T1, hT1⟩ : ∃ T, T = inN ps (ins.take (m + 1)) p.nodes := ⟨_, rfl⟩
   rw [<- hT1] at hset
   obtain ⟨y, hy⟩ : ∃ y, (inN ps (ins.take m) p.nodes)[u] = y := ⟨_, rfl⟩
   rw [hy] at hset
   have hs0 : (inN ps (ins.take m) p.nodes).set u y = inN ps (ins.take m) p.nodes := by rw [<- hy, List.set_getElem_self]
   clear hy
   generalize inN ps (ins.take m) p.nodes = T0 at hset h2 hTl hs0 |-
   have hpall : ps.take ps.length = ps := List.take_length
   simp +decide only [e, hm', hgi, iN, vB, vI, vS, zo, zb, za, hpin, go_sem, aD, mU]
   refine Tri.loop (ι := Nat) (fun q => q <= ps.length) (fun q => ⟨235, [(1, vI f), (2, vI b), (3, vI i), (4, vI j), (5, vS s), (6, .ip (za true p) 0), (12, .bp 12 0), (14, .ref 14 [] R.length), (15, .imm 107 (rows (zn true) ps)), (17, .bp 17 0), (19, vI u), (93, .ref 3093 [] ins.length), (94, vI ins.length), (95, vI m), (99, .imm 107 (rows (zn true) ps)), (100, vI ps.length), (101, vI q)], [(17, .box [.row false 83 (rows (zg false) (T0.set u (inX (ps.take q) y))), .row false 104 (rows (fnC false) p.fns)]), (14, .row 3 (row1 cI R)), (3093, .row 3 (row1 cI ins)), (12, .box [.sc (.slice none 0 0), .sc (.slice none 0 0)])]⟩) (fun q => ps.length - q) 0 (by simp) ?_ ?_
   · refine Ent.weak ?_ ?_ ?_ ?_ <;> simp +decide [zH, zS, subT, subB, zj, zi, zm, St.get, look, vI, vB, vS, cI, cS, cB, zg, fnC, zn, zr, za, roI, znm, hs0]
   rintro q hq0
   refine zf ze _ ?_
   by_cases hq' : q < ps.length
   · have eq : ((q : Int) < (ps.length : Int)) = True := by simp [hq']
     have hgp : (rows (zn true) ps).getD q [] = zn true ps[q] := zk _ _ hq'
     have hstep := zkO hq' y
     unfold hitQ at hstep
     have hz2 : u < (T0.set u (inX (ps.take q) y)).length := by rw [List.length_set]; exact h2
     have hzl : (T0.set u (inX (ps.take q) y)).length = p.nodes.length := by rw [List.length_set]; exact hTl
     have hzg : (T0.set u (inX (ps.take q) y))[u] = inX (ps.take q) y := by simp
     have hgq := Ye (zg false) _ hz2
     have hs2 := zio hz2 2
     rw [hzg] at hgq hs2
     rw [List.set_set] at hs2
     obtain ⟨Z1, hZ1⟩ : ∃ Z, Z = inX (ps.take (q + 1)) y := ⟨_, rfl⟩
     rw [<- hZ1] at hstep
     generalize ps[q] = x at hgp hstep
     generalize inX (ps.take q) y = z at hstep hgq hs2 hz2 hzl |-
     have cu : ((u : Int) < ((T0.set u z).length : Int)) = True := eq_true (by omega)
     simp only [zg, cI, cS] at hgq
     simp only [zn, cI, cS] at hgp
     generalize hTz : T0.set u z = Tz at hgq hs2 hz2 cu hzl |-
     have hs3 : (rows (zg false) Tz).set u (((rows (zg false) Tz)[u]?.getD []).set 0 (D.sc (.int .i64 2))) = rows (zg false) (T0.set u ⟨2, z.num, z.name, z.kids⟩) := by rw [<- hs2]; unfold zN; simp [List.getD]
     simp +decide only [eq, hq', hgp, cu, hz2, hgq, zn, iN, vB, vI, vS, zo, zb, za, hpin, go_sem, aD, mU]
     refine Tri.ent ?_ (Ent.frb hfull 21)
     refine Tri.fork ze (.one 0 true (.one 1 true (.one 2 true (.one 4 true (.one 5 true (.one 3 false (.one 6 false (.one 7 false (.one 8 false (.one 9 false (.one 10 false (.one 11 false (.one 12 false (.one 13 false (.one 14 false (.one 15 false (.one 16 false (.one 17 false (.one 18 false (.one 19 false (.one 20 false (.one 21 false (.one 22 false (.one 23 false (.one 24 false (.one 25 false (.one 26 false (.one 27 false (.one 28 false (.one 29 false (.one 30 false .done))))))))))))))))))))))))))))))) zO (by kernel_rfl) (fun C2 hC2 => ?_)
     have hp2 := zP hC2 hpin
     by_cases hnn : z.name = x.name
     · rw [decide_eq_true hnn] at hstep
       cases k5 : z.kind == 5 <;> cases t3 : x.ty == 3 <;> cases k6 : z.kind == 6 <;> cases t4 : x.ty == 4
       all_goals
        rw [k5, t3, k6, t4] at hstep
        simp only [Bool.and_self, Bool.and_false, Bool.false_and, Bool.or_self, bP, bO, Bool.true_and, Bool.and_true, bF, if_true, if_false] at hstep
        simp +decide only [eq, hq', cu, hz2, hgq, hnn, k5, t3, k6, t4, hs2, hs3, iN, vB, vI, vS, zo, zb, za, hp2, hpin, go_sem, aD, mU]
        refine ⟨q + 1, hq', by omega, Ent.weak ?_ ?_ ?_ ?_⟩
       all_goals simp +decide [zH, zS, subT, subB, zj, zi, zm, St.get, look, vI, vB, vS, cI, cS, cB, zg, fnC, zn, zr, za, roI, <- hZ1, hstep, hTz, hs2, hs3, w64s (n := ps.length) hq' (by omega)]
     · rw [decide_eq_false hnn] at hstep
       simp only [Bool.false_and, bF, if_false] at hstep
       simp +decide only [eq, hq', cu, hz2, hgq, hnn, iN, vB, vI, vS, zo, zb, za, hp2, hpin, go_sem, aD, mU]
       refine ⟨q + 1, hq', by omega, Ent.weak ?_ ?_ ?_ ?_⟩
       all_goals simp +decide [zH, zS, subT, subB, zj, zi, zm, St.get, look, vI, vB, vS, cI, cS, cB, zg, fnC, zn, zr, za, roI, <- hZ1, hstep, hTz, w64s (n := ps.length) hq' (by omega)]
   · have hql : q = ps.length := by omega
     subst hql
     have eq : ((ps.length : Int) < (ps.length : Int)) = False := by simp
     simp +decide only [eq, hpall, hset, vB, vI, vS, zo, zb, za, hpin, go_sem, aD, mU]
     refine ⟨m + 1, hm', by omega, Ent.weak ?_ ?_ ?_ ?_⟩
     all_goals simp +decide [zH, zS, subT, subB, zj, zi, zm, St.get, look, vI, vB, vS, cI, cS, cB, zg, fnC, zn, zr, za, roI, <- hT1, hpall, hset, w64s (n := ins.length) hm' (by omega)]
 have hml : m = ins.length := by omega
 subst hml
 have e : ((ins.length : Int) < (ins.length : Int)) = False := by simp
 simp +decide only [e, vB, vI, vS, zo, zb, za, hpin, go_sem, aD, mU]
 have hXl : (inN ps ins p.nodes).length = p.nodes.length := xi _ _ _
 have hXb := fun h => ziC hP ps ins h
 have hNs := hG.few
 have hfs8 := hG.fns
 clear hua him hil
 unfold xfN at hxa
 generalize inN ps ins p.nodes = X0 at hXl hXb hxa |-
 refine Tri.step ze ?_
 simp +decide only [zo, zb, za, hpin, go_sem, aD, mU]
 refine zd hts hpin ?_
 simp +decide only [zo, zb, za, hpin, go_sem, aD, mU]
 generalize yi p f = l at hvl hts hxa |-
 refine Tri.ent ?_ (Ent.frz hfull 23)
 refine Tri.step ze ?_
 simp +decide only [zda, zo, zb, za, hpin, go_sem, aD, mU]
 refine Tri.step ze ?_
 simp +decide only [zo, zb, za, hpin, go_sem, aD, mU]
 refine Tri.loop (ι := Nat) (fun m => m <= ps.length) (fun m => ⟨235, [(1, vI f), (2, vI b), (3, vI i), (4, vI j), (5, vS s), (6, .ip (za true p) 0), (12, .bp 12 0), (14, .ref 14 [] R.length), (15, .imm 107 (rows (zn true) ps)), (17, .bp 17 0), (23, .imm 96 (rows (varC true) l)), (24, .ref 24 [] m), (148, .imm 107 (rows (zn true) ps)), (149, vI ps.length), (150, vI m)], [(24, .row 3 (row1 cI (YC p.nodes.length m))), (17, .box [.row false 83 (rows (zg false) (X0 ++ (ps.take m).map (argN l))), .row false 104 (rows (fnC false) p.fns)]), (14, .row 3 (row1 cI R)), (12, .box [.sc (.slice none 0 0), .sc (.slice none 0 0)])]⟩) (fun m => ps.length - m) 0 (by simp) ?_ ?_
 · refine Ent.weak ?_ ?_ ?_ ?_ <;> simp +decide [zH, zS, subT, subB, zj, zi, zm, St.get, look, vI, vB, vS, cI, cS, cB, zg, fnC, zn, zr, za, roI, YC, row1]
 rintro m hm
 refine zf ze _ ?_
 by_cases hm' : m < ps.length
 · have e : ((m : Int) < (ps.length : Int)) = True := by simp [hm']
   have hgp : (rows (zn true) ps).getD m [] = zn true ps[m] := zk _ _ hm'
   have hnx := ziX l hm'
   have hfn := zeB p.nodes.length m
   have hfl2 := xL p.nodes.length m
   have hYl : (X0 ++ (ps.take m).map (argN l)).length = p.nodes.length + m := by simp; omega
   have hsn := xx cI (YC p.nodes.length m) ((p.nodes.length + m : Nat) : Int)
   rw [<- hfn] at hsn
   obtain ⟨Y1, hY1⟩ : ∃ Y, Y = X0 ++ (ps.take (m + 1)).map (argN l) := ⟨_, rfl⟩
   rw [hnx, <- List.append_assoc] at hY1
   rw [show argN l ps[m] = ⟨argK (yZ l ps[m].name) ps[m].ty, 0, ps[m].name, []⟩ from rfl] at hY1
   have hnx2 : X0 ++ (ps.take (m + 1)).map (argN l) = Y1 := by rw [hY1, hnx, List.append_assoc]; rfl
   have hnx3 : X0 ++ List.take (m + 1) (ps.map (argN l)) = Y1 := by rw [<- List.map_take]; exact hnx2
   clear hnx hfn
   generalize X0 ++ (ps.take m).map (argN l) = Y0 at hYl hY1 |-
   have hmr : row1 cI (YC p.nodes.length m) = row1 cI (YC p.nodes.length m) := rfl
   generalize ps[m] = x at hgp hY1
   have hvt := ZD l x.name (by omega)
   simp only [cI] at hvt hsn
   generalize yZ l x.name = tv at hvt hY1
   simp only [zn, cI, cS] at hgp
   have hb1 : m + 1 <= 140737488355328 := by omega
   have hb2 : (m + 1) * 8 <= 140737488355328 := by omega
   have hA : ∀ k, SoundAt Tryz.prog 70 (fun uf => zu 0 [.ro (.bp 2000 0), .ro (.agg [.sc (.int .i64 k), .sc (.int .i64 0), .sc (.string x.name), .sc (.slice none 0 0)])]) [(2000, .box (za false ⟨Y0, p.fns⟩))] (fun rs st => rs = [(false, [cI Y0.length])] /\ xr st.ob [(2000, .box (za false ⟨Y0 ++ [⟨k, 0, x.name, []⟩], p.fns⟩))]) := fun k => zko Y0 p.fns k 0 x.name (by omega)
   simp only [za, cI, hYl] at hA
   simp +decide only [e, hm', hgp, iN, vB, vI, vS, zo, zb, za, hpin, go_sem, aD, mU]
   refine zd hvt hpin ?_
   have key : ∀ k, argK tv x.ty = k -> Y0 ++ [⟨k, 0, x.name, []⟩] = Y1 := fun k hk => by rw [hY1, hk]
   cases t2 : tv == 2 with
   | false =>
    have hkk := key 2 (by unfold argK; rw [t2]; rfl)
    simp +decide only [t2, zo, zb, za, hpin, go_sem, aD, mU]
    refine zd hvt hpin ?_
    have hA2 := hA 2
    rw [hkk] at hA2
    simp +decide only [t2, zo, zb, za, hpin, go_sem, aD, mU]
    refine yr hA2 hpin hfull [(2000, 17)] [] [(2000, 17)] ⟨rfl, rfl, rfl, rfl⟩ (fun uf => ?_) ?_
    · simp +decide only [zo, zb, za, hpin, go_sem, aD, mU]
    simp +decide only [hb1, hb2, hsn, hfl2, vB, vI, vS, zo, zb, za, hpin, go_sem, aD, mU]
    refine ⟨m + 1, hm', by omega, Ent.weak ?_ ?_ ?_ ?_⟩
    all_goals simp +decide [zH, zS, subT, subB, zj, zi, zm, St.get, look, vI, vB, vS, cI, cS, cB, zg, fnC, zn, zr, za, roI, hnx2, hnx3, w64s (n := ps.length) hm' (by omega)]
   | true =>
    cases t3 : x.ty == 3 with
    | true =>
     have hA2 := hA 5
     rw [key 5 (by unfold argK; rw [t2, t3]; rfl)] at hA2
     simp +decide only [t2, t3, zo, zb, za, hpin, go_sem, aD, mU]
     refine yr hA2 hpin hfull [(2000, 17)] [] [(2000, 17)] ⟨rfl, rfl, rfl, rfl⟩ (fun uf => ?_) ?_
     · simp +decide only [zo, zb, za, hpin, go_sem, aD, mU]
     simp +decide only [hb1, hb2, hsn, hfl2, vB, vI, vS, zo, zb, za, hpin, go_sem, aD, mU]
     refine ⟨m + 1, hm', by omega, Ent.weak ?_ ?_ ?_ ?_⟩
     all_goals simp +decide [zH, zS, subT, subB, zj, zi, zm, St.get, look, vI, vB, vS, cI, cS, cB, zg, fnC, zn, zr, za, roI, hnx2, hnx3, w64s (n := ps.length) hm' (by omega)]
    | false =>
     simp +decide only [t2, t3, zo, zb, za, hpin, go_sem, aD, mU]
     refine zd hvt hpin ?_
     cases t4 : x.ty == 4 with
     | true =>
      have hA2 := hA 6
      rw [key 6 (by unfold argK; rw [t2, t3, t4]; rfl)] at hA2
      simp +decide only [t2, t4, zo, zb, za, hpin, go_sem, aD, mU]
      refine yr hA2 hpin hfull [(2000, 17)] [] [(2000, 17)] ⟨rfl, rfl, rfl, rfl⟩ (fun uf => ?_) ?_
      · simp +decide only [zo, zb, za, hpin, go_sem, aD, mU]
      simp +decide only [hb1, hb2, hsn, hfl2, vB, vI, vS, zo, zb, za, hpin, go_sem, aD, mU]
      refine ⟨m + 1, hm', by omega, Ent.weak ?_ ?_ ?_ ?_⟩
      all_goals simp +decide [zH, zS, subT, subB, zj, zi, zm, St.get, look, vI, vB, vS, cI, cS, cB, zg, fnC, zn, zr, za, roI, hnx2, hnx3, w64s (n := ps.length) hm' (by omega)]
     | false =>
      have hA2 := hA 2
      rw [key 2 (by unfold argK; rw [t2, t3, t4]; rfl)] at hA2
      simp +decide only [t2, t4, zo, zb, za, hpin, go_sem, aD, mU]
      refine yr hA2 hpin hfull [(2000, 17)] [] [(2000, 17)] ⟨rfl, rfl, rfl, rfl⟩ (fun uf => ?_) ?_
      · simp +decide only [zo, zb, za, hpin, go_sem, aD, mU]
      simp +decide only [hb1, hb2, hsn, hfl2, vB, vI, vS, zo, zb, za, hpin, go_sem, aD, mU]
      refine ⟨m + 1, hm', by omega, Ent.weak ?_ ?_ ?_ ?_⟩
      all_goals simp +decide [zH, zS, subT, subB, zj, zi, zm, St.get, look, vI, vB, vS, cI, cS, cB, zg, fnC, zn, zr, za, roI, hnx2, hnx3, w64s (n := ps.length) hm' (by omega)]
 have hml : m = ps.length := by omega
 subst hml
 have e : ((ps.length : Int) < (ps.length : Int)) = False := by simp
 simp +decide only [e, vB, vI, vS, zo, zb, za, hpin, go_sem, aD, mU]
 have hX1l : (X0 ++ ps.map (argN l)).length = p.nodes.length + ps.length := by simp; omega
 have hX1b : ∀ h, (X0 ++ ps.map (argN l))[b]'h = p.nodes[b] := fun h => by
  rw [List.getElem_append_left (by omega)]; exact hXb _
 generalize X0 ++ ps.map (argN l) = X1 at hX1l hX1b hxa |-
 clear hXl hXb e
 have hA1 := zcr X1 p.fns (XP s p.nodes.length ps.length) (by omega)
 have hX2l : (X1 ++ [XP s p.nodes.length ps.length]).length = p.nodes.length + ps.length + 1 := by simp; omega
 have hX2b : ∀ h, (X1 ++ [XP s p.nodes.length ps.length])[b]'h = p.nodes[b] := fun h => by
  rw [List.getElem_append_left (by omega)]; exact hX1b _
 generalize X1 ++ [XP s p.nodes.length ps.length] = X2 at hX2l hX2b hxa hA1
 have hA2 := zcr X2 p.fns (xfDo (p.nodes.length + ps.length)) (by omega)
 have hX3l : (X2 ++ [xfDo (p.nodes.length + ps.length)]).length = p.nodes.length + ps.length + 2 := by simp; omega
 have hX3b : ∀ h, (X2 ++ [xfDo (p.nodes.length + ps.length)])[b]'h = p.nodes[b] := fun h => by
  rw [List.getElem_append_left (by omega)]; exact hX2b _
 generalize X2 ++ [xfDo (p.nodes.length + ps.length)] = X3 at hX3l hX3b hxa hA2
 have hA3 := zcr X3 p.fns (XY R) (by omega)
 have hX4l : (X3 ++ [XY R]).length = p.nodes.length + ps.length + 3 := by simp; omega
 have hX4b : ∀ h, (X3 ++ [XY R])[b]'h = p.nodes[b] := fun h => by
  rw [List.getElem_append_left (by omega)]; exact hX3b _
 generalize X3 ++ [XY R] = X4 at hX4l hX4b hxa hA3
 have hb4 : b < X4.length := by omega
 have cb4 : ((b : Int) < (X4.length : Int)) = True := eq_true (by omega)
 have hgq := Ye (zg false) X4 hb4
 have hst := zec hb4 (p.nodes[b].kids.take i ++ [((p.nodes.length + ps.length + 1 : Nat) : Int)] ++ p.nodes[b].kids.drop (j + 1))
 rw [hX4b hb4] at hgq hst
 have hxb : xfB p b i j ((p.nodes.length + ps.length + 1 : Nat) : Int) = ⟨p.nodes[b].kind, p.nodes[b].num, p.nodes[b].name, p.nodes[b].kids.take i ++ [((p.nodes.length + ps.length + 1 : Nat) : Int)] ++ p.nodes[b].kids.drop (j + 1)⟩ := by unfold xfB; rw [zR hbl]
 rw [<- hxb] at hst
 have hcut := zkj p.nodes[b].kids [((p.nodes.length + ps.length + 1 : Nat) : Int)] i (j + 1) (by omega) (by omega) (by omega) (by simp)
 have hr1 : row1 cI [((p.nodes.length + ps.length + 1 : Nat) : Int)] = [[.sc (.int .i64 ((p.nodes.length + ps.length + 1 : Nat) : Int))]] := rfl
 simp only [roI] at hcut
 rw [hr1] at hcut
 have hsm := zhu hP l (by omega) ins R hRl s hpl (ps := ps)
 rw [hxa] at hsm |-
 obtain ⟨m1, m2, m3, m4⟩ := hsm
 have hfin := zft p _ hf hn hk hpl m1 m2 m3 m4
 clear hxa m1 m2 m3 m4 hxb
 unfold xfF at hfin |-
 generalize X4.set b (xfB p b i j ((p.nodes.length + ps.length + 1 : Nat) : Int)) = T2 at hst hfin |-
 generalize p.nodes[b] = y at *
 simp only [zg, cI, cS] at hgq
 simp only [XP, xfDo, XY, xL, za, cI, hX1l, hX2l, hX3l] at hA1 hA2 hA3
 simp only [row1, List.map_cons, List.map_nil, List.length_cons, List.length_nil, Nat.zero_add, cI] at hA2
 refine Tri.step ze ?_
 simp +decide only [zo, zb, za, hpin, go_sem, aD, mU]
 refine zff hA1 hpin hfull [(2001, 24), (2000, 17)] [(2000, 17)] [(2001, 24)] [(2000, 17)] ⟨rfl, rfl, rfl, rfl, rfl⟩ (by rfl) (fun uf => ?_) ?_
 · simp +decide only [zo, zb, za, hpin, go_sem, aD, mU]
 simp +decide only [zo, zb, za, hpin, go_sem, aD, mU]
 refine Tri.step ze ?_
 simp +decide only [zo, zb, za, hpin, go_sem, aD, mU]
 refine zff hA2 hpin hfull [(2001, 3189), (2000, 17)] [(2000, 17)] [(2001, 3189)] [(2000, 17)] ⟨rfl, rfl, rfl, rfl, rfl⟩ (by rfl) (fun uf => ?_) ?_
 · simp +decide only [zo, zb, za, hpin, go_sem, aD, mU]
 simp +decide only [zo, zb, za, hpin, go_sem, aD, mU]
 refine Tri.step ze ?_
 simp +decide only [zo, zb, za, hpin, go_sem, aD, mU]
 refine zff hA3 hpin hfull [(2001, 14), (2000, 17)] [(2000, 17)] [(2001, 14)] [(2000, 17)] ⟨rfl, rfl, rfl, rfl, rfl⟩ (by rfl) (fun uf => ?_) ?_
 · simp +decide only [zo, zb, za, hpin, go_sem, aD, mU]
 simp +decide only [zo, zb, za, hpin, go_sem, aD, mU]
 refine Tri.stop ze ⟨235, [(1, vI f), (5, vS s), (6, .ip (za true p) 0), (12, .bp 12 0), (15, .imm 107 (rows (zn true) ps)), (17, .bp 17 0), (31, vI ((p.nodes.length + ps.length + 2 : Nat) : Int))], [(17, .box [.row false 83 (rows (zg false) T2), .row false 104 (rows (fnC false) p.fns)]), (12, .box [.sc (.slice none 0 0), .sc (.slice none 0 0)])]⟩ ?_ ?_
 · refine Tri.fork ze (.one 0 true (.one 2 true (.one 3 true (.one 5 true (.one 9 true (.one 10 true (.one 11 true (.one 12 true (.three 1 (.two 4 (.one 6 true (.one 7 true (.two 8 (.one 13 false (.one 14 false (.one 15 false (.one 16 false (.one 17 false .done))))) 13 (.one 8 false (.one 14 false (.one 15 false (.one 16 false (.one 17 false .done)))))))) 13 (.one 4 false (.one 6 false (.one 7 false (.one 8 false (.one 14 false (.one 15 false (.one 16 false (.one 17 false .done))))))))) 4 (.one 6 true (.one 7 true (.three 1 (.two 8 (.one 13 false (.one 14 false (.one 15 false (.one 16 false (.one 17 false .done))))) 13 (.one 8 false (.one 14 false (.one 15 false (.one 16 false (.one 17 false .done)))))) 8 (.two 1 (.one 13 false (.one 14 false (.one 15 false (.one 16 false (.one 17 false .done))))) 13 (.two 1 (.one 14 false (.one 15 false (.one 16 false (.one 17 false .done)))) 14 (.one 1 false (.one 15 false (.one 16 false (.one 17 false .done)))))) 13 (.two 1 (.one 8 false (.one 14 false (.one 15 false (.one 16 false (.one 17 false .done))))) 8 (.two 1 (.one 14 false (.one 15 false (.one 16 false (.one 17 false .done)))) 14 (.one 1 false (.one 15 false (.one 16 false (.one 17 false .done))))))))) 13 (.two 1 (.one 4 false (.one 6 false (.one 7 false (.one 8 false (.one 14 false (.one 15 false (.one 16 false (.one 17 false .done)))))))) 4 (.one 6 true (.one 7 true (.two 1 (.one 8 false (.one 14 false (.one 15 false (.one 16 false (.one 17 false .done))))) 8 (.two 1 (.one 14 false (.one 15 false (.one 16 false (.one 17 false .done)))) 14 (.one 1 false (.one 15 false (.one 16 false (.one 17 false .done)))))))))))))))))) zO (by kernel_rfl) (fun C2 hC2 => ?_)
   have hp2 := zP hC2 hpin
   simp +decide only [hgq, cb4, hb4, wj, iN, zo, zb, za, hp2, hpin, go_sem, aD, mU]
   have hst2 := hst
   unfold zN at hst2
   have hsy : shLL (row1 cI y.kids) = row1 cI y.kids := yJ _
   have hty : List.take y.kids.length (row1 cI y.kids) = row1 cI y.kids := yj cI y.kids
   and_intros
   all_goals
    refine zd hcut hp2 ?_
    simp +decide only [hsy, hty, hst, hst2, hgq, cb4, hb4, iN, shLL, zo, zb, za, hp2, hpin, go_sem, aD, mU]
    refine ⟨rfl, Ent.weak ?_ ?_ ?_ ?_⟩
   all_goals simp +decide [zH, zS, subT, subB, zj, zi, zm, St.get, look, vI, vB, vS, cI, cS, cB, zg, fnC, zn, zr, za, roI, hst, hst2]
 refine Tri.step ze ?_
 simp +decide only [vI, vS, zo, zb, za, hpin, go_sem, aD, mU]
 refine Tri.ent (st' := ⟨235, [(1, vI f), (6, .ip (za true p) 0), (12, .bp 12 0), (17, .bp 17 0), (32, .bp 32 0)], [(17, .box [.row false 83 (rows (zg false) T2), .row false 104 (rows (fnC false) p.fns)]), (32, .box [.sc (.string s), .row true 107 (rows (zn true) ps), .sc (.int .i64 0), .sc (.int .i64 ((p.nodes.length + ps.length + 2 : Nat) : Int)), .sc (.int .i64 (-1))]), (12, .box [.sc (.slice none 0 0), .sc (.slice none 0 0)])]⟩) ?_ (Ent.weak ?_ ?_ ?_ ?_)
 rotate_left
 · simp +decide [zH, zS, subT, subB, zj, zi, zm, St.get, look, vI, vB, vS, cI, cS, cB, zg, fnC, zn, zr, za, roI]
 · simp +decide [zH, zS, subT, subB, zj, zi, zm, St.get, look, vI, vB, vS, cI, cS, cB, zg, fnC, zn, zr, za, roI]
 · simp +decide [zH, zS, subT, subB, zj, zi, zm, St.get, look, vI, vB, vS, cI, cS, cB, zg, fnC, zn, zr, za, roI]
 · simp +decide [zH, zS, subT, subB, zj, zi, zm, St.get, look, vI, vB, vS, cI, cS, cB, zg, fnC, zn, zr, za, roI]
 refine Tri.ent ?_ (Ent.shb hfull 17)
 refine Tri.ent ?_ (Ent.frb hfull 32)
 have hpsh : shLL (rows (zn true) ps) = rows (zn true) ps := by
  rw [yw]
  simp only [rows, List.map_map]
  apply List.map_congr_left
  intro x _
  simp [zn, shL, shD, cI, cS]
 have cf1 : ((f : Int) <= (p.fns.length : Int)) = True := eq_true (by omega)
 have cf2 : ((0 : Int) <= (f : Int)) = True := eq_true (by omega)
 have hF1l : (p.fns.take f).length = f := by simp; omega
 have hF2l : (p.fns.take f ++ [(⟨s, ps, 0, ((p.nodes.length + ps.length + 2 : Nat) : Int), -1⟩ : FnD)]).length = f + 1 := by simp; omega
 have hF3l : (p.fns.drop f).length = p.fns.length - f := by simp
 have hF4l : (p.fns.take f ++ [(⟨s, ps, 0, ((p.nodes.length + ps.length + 2 : Nat) : Int), -1⟩ : FnD)] ++ p.fns.drop f).length = f + 1 + (p.fns.length - f) := by simp; omega
 have hfr1 := zdl (p.fns.take f)
 have hfr2 := zdl (p.fns.drop f)
 have b1 : f <= 140737488355328 := by omega
 have b2 : f * 64 <= 140737488355328 := by omega
 have b3 : f + 1 <= 140737488355328 := by omega
 have b4 : (f + 1) * 64 <= 140737488355328 := by omega
 have b5 : f + 1 + (p.fns.length - f) <= 140737488355328 := by omega
 have b6 : (f + 1 + (p.fns.length - f)) * 64 <= 140737488355328 := by omega
 have hsn : rows (fnC true) (p.fns.take f) ++ [[D.sc (.string s), .row true 107 (rows (zn true) ps), .sc (.int .i64 0), .sc (.int .i64 ((p.nodes.length + ps.length + 2 : Nat) : Int)), .sc (.int .i64 (-1))]] = rows (fnC true) (p.fns.take f ++ [⟨s, ps, 0, ((p.nodes.length + ps.length + 2 : Nat) : Int), -1⟩]) := yM (fnC true) (p.fns.take f) ⟨s, ps, 0, ((p.nodes.length + ps.length + 2 : Nat) : Int), -1⟩
 generalize hF2 : p.fns.take f ++ [(⟨s, ps, 0, ((p.nodes.length + ps.length + 2 : Nat) : Int), -1⟩ : FnD)] = F2 at hF2l hF4l hsn hfin |-
 simp +decide only [zai, znq, hpsh, vI, zo, zb, za, hpin, go_sem, aD, mU]
 refine Tri.stop ze ⟨235, [(6, .ip (za true p) 0), (12, .bp 12 0), (17, .bp 17 0)], [(17, .box [.row true 83 (rows (zg true) T2), .row false 104 (rows (fnC true) (F2 ++ p.fns.drop f))]), (12, .box [.sc (.slice none 0 0), .sc (.slice none 0 0)])]⟩ ?_ ?_
 · refine Tri.fork ze (.one 0 true (.one 2 true (.one 8 true (.one 10 true (.one 5 true (.three 1 (.one 3 true (.three 4 (.two 6 (.two 7 (.one 9 false (.one 11 false (.one 12 false (.one 13 false (.one 14 false .done))))) 9 (.one 11 true (.one 7 false (.one 12 false (.one 13 false (.one 14 false .done)))))) 9 (.one 11 true (.one 6 false (.one 7 false (.one 12 false (.one 13 false (.one 14 false .done))))))) 6 (.two 4 (.two 7 (.one 9 false (.one 11 false (.one 12 false (.one 13 false (.one 14 false .done))))) 9 (.one 11 true (.one 7 false (.one 12 false (.one 13 false (.one 14 false .done)))))) 9 (.one 11 true (.one 4 false (.one 7 false (.one 12 false (.one 13 false (.one 14 false .done))))))) 9 (.one 11 true (.two 4 (.one 6 false (.one 7 false (.one 12 false (.one 13 false (.one 14 false .done))))) 6 (.one 4 false (.one 7 false (.one 12 false (.one 13 false (.one 14 false .done))))))))) 6 (.two 1 (.one 3 true (.two 4 (.two 7 (.one 9 false (.one 11 false (.one 12 false (.one 13 false (.one 14 false .done))))) 9 (.one 11 true (.one 7 false (.one 12 false (.one 13 false (.one 14 false .done)))))) 9 (.one 11 true (.one 4 false (.one 7 false (.one 12 false (.one 13 false (.one 14 false .done)))))))) 9 (.one 11 true (.one 1 false (.one 3 false (.one 4 false (.one 7 false (.one 12 false (.one 13 false (.one 14 false .done))))))))) 9 (.one 11 true (.two 1 (.one 3 true (.two 4 (.one 6 false (.one 7 false (.one 12 false (.one 13 false (.one 14 false .done))))) 6 (.one 4 false (.one 7 false (.one 12 false (.one 13 false (.one 14 false .done))))))) 6 (.one 1 false (.one 3 false (.one 4 false (.one 7 false (.one 12 false (.one 13 false (.one 14 false .done))))))))))))))) zO (by kernel_rfl) (fun C2 hC2 => ?_)
   have hp2 := zP hC2 hpin
   simp +decide only [cf1, cf2, zjt, zjv, hfr1, hfr2, b1, b2, b3, b4, b5, b6, hF1l, hF2l, hF3l, hF4l, hsn, zmG, iN, Int.le_refl, zo, zb, za, hp2, hpin, go_sem, aD, mU]
   and_intros
   all_goals
    refine Ent.weak ?_ ?_ ?_ ?_
   all_goals simp +decide [zH, zS, subT, subB, zj, zi, zm, St.get, look, vI, vB, vS, cI, cS, cB, zg, fnC, zn, zr, za, roI]
 refine Tri.ent ?_ (Ent.frb hfull 17)
 simp only [zb, za, cI] at hfin
 refine Tri.step ze ?_
 simp +decide only [zim, znp, za, zo, zb, za, hpin, go_sem, aD, mU]
 refine zd hfin hpin ?_
 simp +decide only [za, zo, zb, za, hpin, go_sem, aD, mU]
 refine zf ze _ ?_
 simp +decide only [za, zo, zb, za, hpin, go_sem, aD, mU]
theorem zeo (p : ProgramD) (hD : Deep p.nodes) (R : List Int) (hRv : ∀ k ∈ R, 0 <= k /\ k.toNat < p.nodes.length) (hRl : R.length <= 1048576) (ps : List ParamD) (hps : ps.length <= 1048576) (hn : p.nodes.length <= 1048576) (hk : ∀ x ∈ p.nodes, x.kids.length <= 1048576) :
 SoundAt Tryz.prog 95 (fun uf => zu 0 [.ro (.bp 2000 0), .ro (.ref 2001 [] R.length), .ro (.imm 107 (rows (zn true) ps))]) [(2001, .row 3 (row1 cI R)), (2000, .box (za false p))]
  (fun rs st => rs = [] /\ xr st.ob [(2001, .row 3 (row1 cI R)), (2000, .box (za false ⟨inN ps (xH p R) p.nodes, p.fns⟩))]) := by
 classical
 have hm1 : ((1 : Nat) : Int) * (p.nodes.length : Int) <= 281474976710656 := by omega
 have hm2 : (p.nodes.length : Int) <= 140737488355328 := by omega
 have hof := zbx p.nodes.length
 simp only [cB] at hof
 have htN : List.take p.nodes.length (rows (zg false) p.nodes) = rows (zg false) p.nodes := ym (zg false) p.nodes
 let Q : Nat -> Nat -> Prop := fun i m => ∃ a, ∃ (ha : a < R.length), a < i /\ (m : Int) ∈ zI p.nodes R[a]
 refine zp (fn := Tryz.f95) (c := Tryz.f95.body.getD .skip) (res := []) (n := 106) ze (by kernel_rfl) (by rfl) (by kernel_rfl) (by rfl) (by rfl) (by simp [zu]) (fun uf ub C hpin hpin2 hfull => ?_)
 simp only [Tryz.f95, oD]
 refine Tri.step ze ?_
 simp +decide only [hm1, hm2, hof, iN, zh, zo, zb, za, hpin, hpin2, go_sem, aD, mU]
 refine Tri.stop ze ⟨106, [(0, .bp 2000 0), (2, .imm 107 (rows (zn true) ps)), (6, .ref 6 [] p.nodes.length)], [(6, .row 4 (row1 cB (ofP p.nodes.length (Q R.length)))), (2001, .row 3 (row1 cI R)), (2000, .box [.row false 83 (rows (zg false) p.nodes), .row false 104 (rows (fnC false) p.fns)])]⟩ ?_ ?_
 · simp +decide only [zh, zo, zb, za, hpin, hpin2, go_sem, aD, mU]
   refine Tri.loop (ι := Nat) (fun i => i <= R.length) (fun i => ⟨106, [(0, .bp 2000 0), (1, .ref 2001 [] R.length), (2, .imm 107 (rows (zn true) ps)), (6, .ref 6 [] p.nodes.length), (7, vI i)], [(6, .row 4 (row1 cB (ofP p.nodes.length (Q i)))), (2001, .row 3 (row1 cI R)), (2000, .box [.row false 83 (rows (zg false) p.nodes), .row false 104 (rows (fnC false) p.fns)])]⟩) (fun i => R.length - i) 0 (by simp) ?_ ?_
   · have e9 : ofP p.nodes.length (Q 0) = ofP p.nodes.length (fun _ => False) := xB (fun m _ => ⟨fun ⟨a, ha, h0, _⟩ => by omega, fun h => h.elim⟩)
     refine Ent.weak ?_ ?_ ?_ ?_ <;> simp +decide [zH, zS, subT, subB, zj, zi, zm, St.get, look, vI, vB, vS, cI, cS, cB, zg, fnC, zn, zr, za, roI, e9]
   · rintro i hi
     refine zf ze _ ?_
     by_cases h' : i < R.length
     · have e : ((i : Int) < (R.length : Int)) = True := by simp [h']
       obtain ⟨n0, n1⟩ := hRv _ (lM h')
       obtain ⟨n, hnR⟩ : ∃ n : Nat, R[i] = n := ⟨R[i].toNat, by omega⟩
       have hnl : n < p.nodes.length := by omega
       have hdn := hD.deep n hnl
       have hdd : ∀ k : Int, inI k 0 (p.nodes.length - 1) = true -> ¬ (ye p.nodes k == 0) = true := fun k hk1 => by
        have hk2 := zy hk1
        have hk3 := hD.deep k.toNat (by omega)
        unfold ye
        rw [hk1]
        simpa using hk3
       have hin : inI R[i] 0 (p.nodes.length - 1) = true := by simp [inI]; omega
       have hun : ∀ a (ha : a < R.length) (m : Nat), (m : Int) ∈ zI p.nodes R[a] -> ∀ q, Reach p.nodes m q -> (q : Int) ∈ zI p.nodes R[a] := fun a ha m hm q hr => by
        have h1 := yb hm
        have hna : ¬ (ye p.nodes R[a] == 0) = true := fun hz => by
         unfold zI at hm
         rw [if_pos hz] at hm
         simp at hm
        rw [Zc hna] at hm |-
        exact hm.trans hr
       have hmk := zaA p.nodes hn hk n hdn (Q i) (fun m _ ⟨a, ha, h1, h2⟩ q hr => ⟨a, ha, h1, hun a ha m h2 q hr⟩)
       have hnx : ofP p.nodes.length (fun m => Q i m \/ Reach p.nodes n m) = ofP p.nodes.length (Q (i + 1)) := xB (fun m _ => by
        have hr := Zc (hdd R[i] hin) m
        rw [hnR, show (n : Int).toNat = n by omega] at hr
        constructor
        · rintro (⟨a, ha, h1, h2⟩ | h)
          · exact ⟨a, ha, by omega, h2⟩
          · exact ⟨i, h', by omega, by rw [hnR]; exact hr.2 h⟩
        · rintro ⟨a, ha, h1, h2⟩
          by_cases ea : a = i
          · subst ea; right; rw [hnR] at h2; exact hr.1 h2
          · exact Or.inl ⟨a, ha, by omega, h2⟩)
       rw [hnx] at hmk
       have hgR : (row1 cI R)[i]? = some [.sc (.int .i64 n)] := by rw [zW _ _ h', hnR]; rfl
       simp +decide only [e, vB, vI, zh, zo, zb, za, hpin, hpin2, go_sem, aD, mU]
       refine Tri.fork ze (.one 0 true (.one 1 true (.one 2 true (.one 4 true (.one 5 true (.one 6 true (.one 8 true (.two 3 (.one 7 false (.one 9 false .done)) 7 (.one 3 false (.one 9 false .done)))))))))) zO (by kernel_rfl) (fun C2 hC2 => ?_)
       have hp2 := zP hC2 hpin
       have hp22 : ∀ o, xu o = true -> C2.pin o = some (uf o, ub o) := by rw [hC2]; exact hpin2
       simp +decide only [e, h', hgR, htN, zai, iN, vB, vI, zh, zo, zb, za, hp2, hp22, hpin, hpin2, go_sem, aD, mU]
       and_intros
       all_goals
        refine xX hmk hp2 [(2000, 6)] ⟨rfl, rfl, rfl⟩ (fun uf => ⟨rfl, rfl⟩) (fun uf => ?_) ?_
        · simp +decide only [htN, zai, zh, zo, zb, za, hp2, hp22, hpin, hpin2, go_sem, aD, mU]
        simp +decide only [htN, zai, zh, zo, zb, za, hp2, hp22, hpin, hpin2, go_sem, aD, mU]
        refine ⟨i + 1, h', by omega, Ent.weak ?_ ?_ ?_ ?_⟩
       all_goals simp +decide [zH, zS, subT, subB, zj, zi, zm, St.get, look, vI, vB, vS, cI, cS, cB, zg, fnC, zn, zr, za, roI, w64s (n := R.length) h' (by omega)]
     · have hil : i = R.length := by omega
       subst hil
       have e : ((R.length : Int) < (R.length : Int)) = False := by simp
       simp +decide only [e, vB, vI, zh, zo, zb, za, hpin, hpin2, go_sem, aD, mU]
       refine Ent.weak ?_ ?_ ?_ ?_
       all_goals simp +decide [zH, zS, subT, subB, zj, zi, zm, St.get, look, vI, vB, vS, cI, cS, cB, zg, fnC, zn, zr, za, roI]
 have hqe : Q R.length = zbf p R := by
  funext m
  apply propext
  constructor
  · rintro ⟨a, ha, _, h⟩; exact ⟨R[a], lM ha, h⟩
  · rintro ⟨k, hk1, h⟩
    obtain ⟨a, ha, rfl⟩ := List.getElem_of_mem hk1
    exact ⟨a, ha, ha, h⟩
 rw [hqe]
 have hhas := zja p R
 generalize xH p R = ins at hhas |-
 generalize zbf p R = A at hhas |-
 have hBl := xi ps ins p.nodes
 refine zf ze _ ?_
 simp +decide only [zh, zo, zb, za, hpin, hpin2, go_sem, aD, mU]
 refine Tri.loop (ι := Nat) (fun i => i <= p.nodes.length) (fun i => ⟨106, [(0, .bp 2000 0), (2, .imm 107 (rows (zn true) ps)), (6, .ref 6 [] p.nodes.length), (8, vI i)], [(6, .row 4 (row1 cB (ofP p.nodes.length A))), (2001, .row 3 (row1 cI R)), (2000, .box [.row false 83 (rows (zg false) (mixT p.nodes (inN ps ins p.nodes) i)), .row false 104 (rows (fnC false) p.fns)])]⟩) (fun i => p.nodes.length - i) 0 (by simp) ?_ ?_
 · refine Ent.weak ?_ ?_ ?_ ?_ <;> simp +decide [zH, zS, subT, subB, zj, zi, zm, St.get, look, vI, vB, vS, cI, cS, cB, zg, fnC, zn, zr, za, roI, zbA]
 rintro i hi
 refine zf ze _ ?_
 by_cases h' : i < p.nodes.length
 · have e : ((i : Int) < (p.nodes.length : Int)) = True := by simp [h']
   have hml := XC hBl hi
   have h2 : i < (mixT p.nodes (inN ps ins p.nodes) i).length := by omega
   have hg := zdi hBl h' h2
   have hst := zdh hBl h'
   rw [zbe ps ins p.nodes h', hhas i] at hst
   have hog : (row1 cB (ofP p.nodes.length A))[i]? = some [cB (decide (A i))] := Xy h'
   simp only [cB] at hog
   obtain ⟨T1, hT1⟩ : ∃ T, T = mixT p.nodes (inN ps ins p.nodes) (i + 1) := ⟨_, rfl⟩
   rw [<- hT1] at hst
   obtain ⟨y, hy⟩ : ∃ y, p.nodes[i] = y := ⟨_, rfl⟩
   rw [hy] at hst hg
   have hs0 : (mixT p.nodes (inN ps ins p.nodes) i).set i y = mixT p.nodes (inN ps ins p.nodes) i := by rw [<- hg, List.set_getElem_self]
   clear hg
   generalize mixT p.nodes (inN ps ins p.nodes) i = T0 at hml h2 hst hs0 |-
   cases hA : decide (A i) with
   | false =>
    rw [hA] at hog hst
    simp only [bF, if_false] at hst
    rw [hs0] at hst
    simp +decide only [e, h', hog, iN, vB, vI, zh, zo, zb, za, hpin, hpin2, go_sem, aD, mU]
    refine ⟨i + 1, h', by omega, Ent.weak ?_ ?_ ?_ ?_⟩
    all_goals simp +decide [zH, zS, subT, subB, zj, zi, zm, St.get, look, vI, vB, vS, cI, cS, cB, zg, fnC, zn, zr, za, roI, <- hT1, <- hst, w64s (n := p.nodes.length) h' (by omega)]
   | true =>
    rw [hA] at hog hst
    simp only [if_true] at hst
    have hpall : ps.take ps.length = ps := List.take_length
    simp +decide only [e, h', hog, iN, vB, vI, zh, zo, zb, za, hpin, hpin2, go_sem, aD, mU]
    refine Tri.loop (ι := Nat) (fun q => q <= ps.length) (fun q => ⟨106, [(0, .bp 2000 0), (2, .imm 107 (rows (zn true) ps)), (6, .ref 6 [] p.nodes.length), (8, vI i), (9, vI q)], [(6, .row 4 (row1 cB (ofP p.nodes.length A))), (2001, .row 3 (row1 cI R)), (2000, .box [.row false 83 (rows (zg false) (T0.set i (inX (ps.take q) y))), .row false 104 (rows (fnC false) p.fns)])]⟩) (fun q => ps.length - q) 0 (by simp) ?_ ?_
    · refine Ent.weak ?_ ?_ ?_ ?_ <;> simp +decide [zH, zS, subT, subB, zj, zi, zm, St.get, look, vI, vB, vS, cI, cS, cB, zg, fnC, zn, zr, za, roI, znm, hs0]
    rintro q hq0
    refine zf ze _ ?_
    by_cases hq' : q < ps.length
    · have eq : ((q : Int) < (ps.length : Int)) = True := by simp [hq']
      have hgp : (rows (zn true) ps).getD q [] = zn true ps[q] := zk _ _ hq'
      have hstep := zkO hq' y
      unfold hitQ at hstep
      have hz2 : i < (T0.set i (inX (ps.take q) y)).length := by rw [List.length_set]; exact h2
      have hzl : (T0.set i (inX (ps.take q) y)).length = p.nodes.length := by rw [List.length_set]; exact hml
      have hzg : (T0.set i (inX (ps.take q) y))[i] = inX (ps.take q) y := by simp
      have hgq := Ye (zg false) _ hz2
      have hs2 := zio hz2 2
      rw [hzg] at hgq hs2
      rw [List.set_set] at hs2
      obtain ⟨Z1, hZ1⟩ : ∃ Z, Z = inX (ps.take (q + 1)) y := ⟨_, rfl⟩
      rw [<- hZ1] at hstep
      generalize ps[q] = x at hgp hstep
      generalize inX (ps.take q) y = z at hstep hgq hs2 hz2 hzl |-
      have cu : ((i : Int) < ((T0.set i z).length : Int)) = True := eq_true (by omega)
      simp only [zg, cI, cS] at hgq
      simp only [zn, cI, cS] at hgp
      generalize hTz : T0.set i z = Tz at hgq hs2 hz2 cu hzl |-
      have hs3 : (rows (zg false) Tz).set i (((rows (zg false) Tz)[i]?.getD []).set 0 (D.sc (.int .i64 2))) = rows (zg false) (T0.set i ⟨2, z.num, z.name, z.kids⟩) := by rw [<- hs2]; unfold zN; simp [List.getD]
      simp +decide only [eq, vB, vI, vS, zh, zo, zb, za, hpin, hpin2, go_sem, aD, mU]
      refine Tri.fork ze (.one 0 true (.one 1 true (.one 2 true (.one 3 true (.one 5 true (.one 6 true (.one 7 true (.one 9 true (.one 4 true (.one 8 false (.one 10 false (.one 11 false (.one 12 false (.one 13 false .done)))))))))))))) zO (by kernel_rfl) (fun C2 hC2 => ?_)
      have hp2 := zP hC2 hpin
      have hp22 : ∀ o, xu o = true -> C2.pin o = some (uf o, ub o) := by rw [hC2]; exact hpin2
      by_cases hnn : x.name = z.name
      · rw [decide_eq_true hnn.symm] at hstep
        cases k5 : z.kind == 5 <;> cases t3 : x.ty == 3 <;> cases k6 : z.kind == 6 <;> cases t4 : x.ty == 4
        all_goals
         rw [k5, t3, k6, t4] at hstep
         simp only [Bool.and_self, Bool.and_false, Bool.false_and, Bool.or_self, bP, bO, Bool.true_and, Bool.and_true, bF, if_true, if_false] at hstep
         simp +decide only [eq, hq', hgp, cu, hz2, hgq, hnn, k5, t3, k6, t4, hs2, hs3, bne, iN, vB, vI, vS, zh, zo, zb, za, hp2, hp22, hpin, hpin2, go_sem, aD, mU]
         refine ⟨q + 1, hq', by omega, Ent.weak ?_ ?_ ?_ ?_⟩
        all_goals simp +decide [zH, zS, subT, subB, zj, zi, zm, St.get, look, vI, vB, vS, cI, cS, cB, zg, fnC, zn, zr, za, roI, <- hZ1, hstep, hTz, hs2, hs3, w64s (n := ps.length) hq' (by omega)]
      · rw [decide_eq_false (fun e => hnn e.symm)] at hstep
        simp only [Bool.false_and, bF, if_false] at hstep
        simp +decide only [eq, hq', hgp, cu, hz2, hgq, hnn, bne, iN, vB, vI, vS, zh, zo, zb, za, hp2, hp22, hpin, hpin2, go_sem, aD, mU]
        refine ⟨q + 1, hq', by omega, Ent.weak ?_ ?_ ?_ ?_⟩
        all_goals simp +decide [zH, zS, subT, subB, zj, zi, zm, St.get, look, vI, vB, vS, cI, cS, cB, zg, fnC, zn, zr, za, roI, <- hZ1, hstep, hTz, w64s (n := ps.length) hq' (by omega)]
    · have hql : q = ps.length := by omega
      subst hql
      have eq : ((ps.length : Int) < (ps.length : Int)) = False := by simp
      simp +decide only [eq, hpall, hst, vB, vI, vS, zh, zo, zb, za, hpin, hpin2, go_sem, aD, mU]
      refine ⟨i + 1, h', by omega, Ent.weak ?_ ?_ ?_ ?_⟩
      all_goals simp +decide [zH, zS, subT, subB, zj, zi, zm, St.get, look, vI, vB, vS, cI, cS, cB, zg, fnC, zn, zr, za, roI, <- hT1, hpall, hst, w64s (n := p.nodes.length) h' (by omega)]
 have hil' : i = p.nodes.length := by omega
 subst hil'
 have e : ((p.nodes.length : Int) < (p.nodes.length : Int)) = False := by simp
 simp +decide only [e, zdj hBl, vB, vI, zh, zo, zb, za, hpin, hpin2, go_sem, aD, mU]
theorem zkg (l : List EffectD) : shLL (rows (zr false) l) = rows (zr true) l := by
 rw [yw]
 simp only [rows, List.map_map]
 apply List.map_congr_left
 intro x _
 simp [zr, shL, shD, cI, cS]
theorem zmz (l : List VarD) : ∀ (E : List EffectD) (o : List ParamD), (spP l E o).1.length <= o.length + E.length
 | [], o => by simp [spP]
 | e :: r, o => by
  unfold spP
  split
  · have := zmz l r o; simp only [List.length_cons]; omega
  · split
    · simp
    · have := zmz l r (o ++ [⟨e.name, modE l e⟩])
      simp at this |-
      omega
theorem zqu {n k : Nat} (hn : n <= 300) (hk : k <= 3) : n + k + 1 <= 140737488355328 /\ (n + k + 1) * 56 <= 140737488355328 /\ n + k + 1 + 1 <= 140737488355328 /\ (n + k + 1 + 1) * 56 <= 140737488355328 /\ n + k + 2 + 1 <= 140737488355328 /\ (n + k + 2 + 1) * 56 <= 140737488355328
 /\ IntKind.i64.wrap (((n + k + 1 : Nat) : Int) - 1) = ((n + k : Nat) : Int) /\ IntKind.i64.wrap (((n + k + 2 : Nat) : Int) - 1) = ((n + k + 1 : Nat) : Int) /\ IntKind.i64.wrap (((n + k + 3 : Nat) : Int) - 1) = ((n + k + 2 : Nat) : Int) := by
 refine ⟨by omega, by omega, by omega, by omega, by omega, by omega, ?_, ?_, ?_⟩
 · rw [show (((n + k + 1 : Nat) : Int) - 1) = ((n + k : Nat) : Int) by omega]; exact w64 (by omega) (by omega)
 · rw [show (((n + k + 2 : Nat) : Int) - 1) = ((n + k + 1 : Nat) : Int) by omega]; exact w64 (by omega) (by omega)
 · rw [show (((n + k + 3 : Nat) : Int) - 1) = ((n + k + 2 : Nat) : Int) by omega]; exact w64 (by omega) (by omega)
theorem zpe {p : ProgramD} {f b i j : Nat} (h : PartIs p f b i j) (v : Int) : ((p.nodes[b]'h.hb).kids.take i).length = i /\ ((p.nodes[b]'h.hb).kids.drop (j + 1)).length = (p.nodes[b]'h.hb).kids.length - (j + 1) /\ ((p.nodes[b]'h.hb).kids.take i ++ [v]).length = i + 1 /\ ((p.nodes[b]'h.hb).kids.take i ++ [v] ++ (p.nodes[b]'h.hb).kids.drop (j + 1)).length = i + 1 + ((p.nodes[b]'h.hb).kids.length - (j + 1))
 /\ ((i : Int) <= ((p.nodes[b]'h.hb).kids.length : Int)) = True /\ i <= 140737488355328 /\ i * 8 <= 140737488355328 /\ i + 1 <= 140737488355328 /\ (i + 1) * 8 <= 140737488355328 /\ i + 1 + ((p.nodes[b]'h.hb).kids.length - (j + 1)) <= 140737488355328 /\ (i + 1 + ((p.nodes[b]'h.hb).kids.length - (j + 1))) * 8 <= 140737488355328 := by
 have hb := h.hb
 have h1 := h.hij
 have h2 := h.hj
 have h3 := h.right.deep.few _ (lM hb)
 generalize p.nodes[b] = y at h2 h3
 obtain ⟨_, _, _, K⟩ := y
 simp only at h2 h3 |-
 refine ⟨by simp; omega, by simp, by simp; omega, by simp; omega, eq_true (by omega), by omega, by omega, by omega, by omega, by omega, by omega⟩
theorem zqW {f n : Nat} (hf : f < n) (hn : n <= 8) : f <= 140737488355328 /\ f * 64 <= 140737488355328 /\ f + 1 <= 140737488355328 /\ (f + 1) * 64 <= 140737488355328 /\ f + 1 + (n - f) <= 140737488355328 /\ (f + 1 + (n - f)) * 64 <= 140737488355328 /\ ((f : Int) <= (n : Int)) = True /\ ((0 : Int) <= (f : Int)) = True :=
 ⟨by omega, by omega, by omega, by omega, by omega, by omega, eq_true (by omega), eq_true (by omega)⟩
theorem zpP {l : List FnD} {f : Nat} (hf : f < l.length) (x : FnD) : (l.take f).length = f /\ (l.take f ++ [x]).length = f + 1 /\ (l.drop f).length = l.length - f /\ (l.take f ++ [x] ++ l.drop f).length = f + 1 + (l.length - f) :=
 ⟨by simp; omega, by simp; omega, by simp, by simp; omega⟩
theorem zcT (p : ProgramD) (fn b i j : Int) (s : ByteArray) (hf : p.fns.length <= 1048576) (hn : p.nodes.length <= 1048576) (hk : ∀ x ∈ p.nodes, x.kids.length <= 1048576) (hpl : ∀ f ∈ p.fns, f.params.length <= 1048576) :
 zx Tryz.prog 30 [.ro (zb p), .ro (.sc (.int .i64 fn)), .ro (.sc (.int .i64 b)), .ro (.sc (.int .i64 i)), .ro (.sc (.int .i64 j)), .ro (.sc (.string s))] (fun rs st => rs = [(true, za false (xfPr p fn b i j s)), (false, [cI (yU p fn b i j s)])]) := by
 have htr := YO p hf hn hk hpl
 have hcp := zgO p hf hn hk hpl
 have hto := XZ p fn hf hn hk hpl
 have hnm := Yh s
 have hfa := XL p s hf
 simp only [zb, za, cI] at htr hcp hto hfa
 refine zp (fn := Tryz.f30) (c := Tryz.f30.body.getD .skip) (res := [.ce 12 36, .tm 13]) (n := 275) ze (by kernel_rfl) (by rfl) (by kernel_rfl) (by rfl) (by rfl) (by simp [zu]) (fun uf ub C hpin hpin2 hfull => ?_)
 simp only [Tryz.f30, oD]
 refine Tri.step ze ?_
 simp +decide only [zo, zb, za, hpin, go_sem, aD, mU]
 refine Tri.ent ?_ (Ent.frb hfull 6)
 refine Tri.step ze ?_
 simp +decide only [zo, zb, za, hpin, go_sem, aD, mU]
 refine zd hcp hpin ?_
 simp +decide only [zo, zb, za, hpin, go_sem, aD, mU]
 refine Tri.step ze ?_
 simp +decide only [zo, zb, za, hpin, go_sem, aD, mU]
 refine zd hto hpin ?_
 simp +decide only [zo, zb, za, hpin, go_sem, aD, mU]
 refine Tri.ent ?_ (Ent.frz hfull 15)
 refine Tri.step ze ?_
 cases hg : YQ p fn with
 | false =>
  have hRI : (zX p && inI fn 0 (p.fns.length - 1)) = false := by
   cases hR : zX p with
   | false => rfl
   | true =>
    cases h0 : inI fn 0 (p.fns.length - 1) with
    | false => rfl
    | true => rw [zlO hR h0] at hg; cases hg
  have e1 : xfPr p fn b i j s = p := by unfold xfPr; rw [hRI]; rfl
  have e2 : yU p fn b i j s = 1 := by unfold yU; rw [hRI]; rfl
  simp +decide only [zda, e1, e2, zo, zb, za, hpin, go_sem, aD, mU]
 | true =>
 have hgl : zab p fn = yi p fn := by unfold zab; rw [hg]; rfl
 have h0 : inI fn 0 (p.fns.length - 1) = true := by unfold YQ at hg; exact (Bool.and_eq_true_iff.1 (Bool.and_eq_true_iff.1 hg).2).1
 rw [hgl]
 simp +decide only [zda, zo, zb, za, hpin, go_sem, aD, mU]
 refine zd htr hpin ?_
 cases hR : zX p with
 | false =>
  have e1 : xfPr p fn b i j s = p := by unfold xfPr; rw [hR]; rfl
  have e2 : yU p fn b i j s = 1 := by unfold yU; rw [hR]; rfl
  simp +decide only [e1, e2, zo, zb, za, hpin, go_sem, aD, mU]
 | true =>
 have hr := zy h0
 obtain ⟨f, rfl⟩ : ∃ f : Nat, fn = f := ⟨fn.toNat, by omega⟩
 have hfl : f < p.fns.length := by omega
 have hG := yh (YS hR).1
 have hD := hG.deep
 have hvl := xI p f hpl hn
 simp +decide only [zo, zb, za, hpin, go_sem, aD, mU]
 refine Tri.step ze ?_
 simp +decide only [zo, zb, za, hpin, go_sem, aD, mU]
 refine zd hnm hpin ?_
 have hno2 : xfNm p s = false -> xfPr p f b i j s = p /\ yU p f b i j s = 2 := fun hw => by
  refine ⟨?_, ?_⟩
  · unfold xfPr; rw [hR, h0, hw]; rfl
  · unfold yU; rw [hR, h0, hw]; rfl
 cases hN : YJ s with
 | false =>
  obtain ⟨e1, e2⟩ := hno2 (by unfold xfNm; rw [hN]; rfl)
  simp +decide only [e1, e2, zo, zb, za, hpin, go_sem, aD, mU]
 | true =>
 simp +decide only [zo, zb, za, hpin, go_sem, aD, mU]
 refine zd hfa hpin ?_
 by_cases hA : xd p.fns s < 0
 case neg =>
  have hA3 : (0 <= xd p.fns s) = True := eq_true (by omega)
  obtain ⟨e1, e2⟩ := hno2 (by unfold xfNm; rw [hN, decide_eq_false hA]; rfl)
  simp +decide only [hA3, ge_iff_le, e1, e2, zo, zb, za, hpin, go_sem, aD, mU]
 have hA3 : (0 <= xd p.fns s) = False := eq_false (by omega)
 have hNm : xfNm p s = true := by unfold xfNm; rw [hN, decide_eq_true hA]; rfl
 simp +decide only [hA3, ge_iff_le, zo, zb, za, hpin, go_sem, aD, mU]
 clear hno2 hfa hnm htr hto
 have hx : (rows (fnC true) p.fns).getD f [] = fnC true p.fns[f] := zk _ _ hfl
 have c1 : ((f : Int) < (p.fns.length : Int)) = True := eq_true (by omega)
 have hun := Yu p p.fns[f].body hn hk
 have hul := yB p.nodes p.fns[f].body
 have hum : (zI p.nodes p.fns[f].body).contains b = true -> 0 <= b /\ b.toNat < p.nodes.length := fun h => by
  have := yb (List.contains_iff_mem.1 h)
  exact ⟨this.1, this.2.1⟩
 have hBe : ZA p f b i j = ((zI p.nodes p.fns[f].body).contains b && ((nAt p.nodes b).kind == 20 && (decide (0 <= i) && (decide (i <= j) && decide (j < (nAt p.nodes b).kids.length))))) := by unfold ZA; rw [yS hfl]
 simp only [zb] at hun
 generalize zI p.nodes p.fns[f].body = U at hun hul hum hBe
 have hno3 : ZA p f b i j = false -> xfPr p f b i j s = p /\ yU p f b i j s = 3 := fun hB => by
  refine ⟨?_, ?_⟩
  · unfold xfPr; rw [hR, h0, hNm]; simp only [Bool.and_self, if_true, Int.toNat_natCast, hB]; rfl
  · unfold yU; rw [hR, h0, hNm]; simp only [Bool.and_self, if_true, Int.toNat_natCast, hB]; rfl
 refine Tri.step ze ?_
 refine Tri.sched ze [(1, true), (3, true), (0, true), (2, false), (4, false), (5, false), (6, false), (7, false), (8, false)] zO (by kernel_rfl) (fun C2 hC2 => ?_)
 have hp2 := zP hC2 hpin
 simp +decide only [c1, hfl, hx, fnC, iN, zo, zb, za, hp2, hpin, go_sem, aD, mU]
 refine zd hun hp2 ?_
 simp +decide only [zo, zb, za, hp2, hpin, go_sem, aD, mU]
 refine Tri.ent ?_ (Ent.frz hfull 17)
 have hsh : shLL (row1 cI U) = row1 cI U := yJ U
 refine Tri.step ze ?_
 simp +decide only [hsh, zo, zb, za, hpin, go_sem, aD, mU]
 refine Tri.stop ze ⟨275, [(1, vI f), (2, vI b), (3, vI i), (4, vI j), (5, vS s), (6, .ip (za true p) 0), (12, .bp 12 0), (14, .bp 14 0), (15, .imm 96 (rows (varC true) (yi p f))), (18, vB (U.contains b))], [(12, .box [.sc (.slice none 0 0), .sc (.slice none 0 0)]), (14, .box (za false p))]⟩ ?_ ?_
 · obtain ⟨g, hgd⟩ : ∃ g : Nat -> Bool, g = fun i => (U.take i).contains b := ⟨_, rfl⟩
   have hg0 : g 0 = false := by rw [hgd]; rfl
   have hgE : g U.length = U.contains b := by rw [hgd]; simp only [List.take_length]
   have hgS : ∀ i (h : i < U.length), g (i + 1) = (g i || U[i] == b) := fun i h => by rw [hgd]; exact znS h b
   rw [<- hgE]
   clear hgd hgE
   simp +decide only [vI, vS, vB, zo, zb, za, hpin, go_sem, aD, mU]
   refine Tri.loop (ι := Nat) (fun k => k <= U.length) (fun k => ⟨275, [(1, vI f), (2, vI b), (3, vI i), (4, vI j), (5, vS s), (6, .ip (za true p) 0), (12, .bp 12 0), (14, .bp 14 0), (15, .imm 96 (rows (varC true) (yi p f))), (17, roI U), (18, vB (g k)), (19, vI k)], [(12, .box [.sc (.slice none 0 0), .sc (.slice none 0 0)]), (14, .box (za false p))]⟩) (fun k => U.length - k) 0 (by simp) ?_ ?_
   · refine Ent.weak ?_ ?_ ?_ ?_ <;> simp +decide [zH, zS, subT, subB, zj, zi, zm, St.get, look, vI, vB, vS, cI, cS, cB, zg, fnC, zn, zr, za, roI, hg0]
   · rintro k hk0
     refine zf ze _ ?_
     by_cases h' : k < U.length
     · have e : ((k : Int) < (U.length : Int)) = True := by simp [h']
       have hth := hgS k h'
       cases hc : g k with
       | true =>
        rw [hc, bT] at hth
        simp +decide only [e, h', hc, zw _ _ h', iN, vB, vI, vS, zo, zb, za, hpin, go_sem, aD, mU]
        refine ⟨k + 1, h', by omega, Ent.weak ?_ ?_ ?_ ?_⟩
        all_goals simp +decide [zH, zS, subT, subB, zj, zi, zm, St.get, look, vI, vB, vS, cI, cS, cB, zg, fnC, zn, zr, za, roI, hth, w64s (n := U.length) h' (by omega)]
       | false =>
        rw [hc, bO] at hth
        simp +decide only [e, h', hc, zw _ _ h', iN, vB, vI, vS, zo, zb, za, hpin, go_sem, aD, mU]
        refine ⟨k + 1, h', by omega, Ent.weak ?_ ?_ ?_ ?_⟩
        all_goals simp +decide [zH, zS, subT, subB, zj, zi, zm, St.get, look, vI, vB, vS, cI, cS, cB, zg, fnC, zn, zr, za, roI, hth, w64s (n := U.length) h' (by omega)]
     · have hil : k = U.length := by omega
       subst hil
       have e : ((U.length : Int) < (U.length : Int)) = False := by simp
       simp +decide only [e, vB, vI, vS, zo, zb, za, hpin, go_sem, aD, mU]
       refine Ent.weak ?_ ?_ ?_ ?_
       all_goals simp +decide [zH, zS, subT, subB, zj, zi, zm, St.get, look, vI, vB, vS, cI, cS, cB, zg, fnC, zn, zr, za, roI]
 refine Tri.step ze ?_
 cases hc : U.contains b with
 | false =>
  obtain ⟨e1, e2⟩ := hno3 (by rw [hBe, hc]; rfl)
  rcases Xs p.nodes b.toNat with ⟨x, hxk⟩ | hxk
  all_goals simp +decide only [hxk, zg, e1, e2, vB, vI, vS, zo, zb, za, hpin, go_sem, aD, mU]
 | true =>
 obtain ⟨b0, b1⟩ := hum hc
 obtain ⟨b, rfl⟩ : ∃ k : Nat, b = k := ⟨b.toNat, by omega⟩
 rw [Int.toNat_natCast] at b1
 rw [hc, zR b1, Bool.true_and] at hBe
 have ck : ((b : Int) < (p.nodes.length : Int)) = True := eq_true (by omega)
 have hxk : (rows (zg true) p.nodes).getD b [] = zg true p.nodes[b] := zk _ _ b1
 cases h2 : p.nodes[b].kind == 20 with
 | false =>
  obtain ⟨e1, e2⟩ := hno3 (by rw [hBe, h2]; rfl)
  simp +decide only [ck, b1, hxk, h2, bne, zg, e1, e2, iN, vB, vI, vS, zo, zb, za, hpin, go_sem, aD, mU]
 | true =>
 rw [h2, Bool.true_and] at hBe
 simp +decide only [ck, b1, hxk, h2, bne, zg, iN, vB, vI, vS, zo, zb, za, hpin, go_sem, aD, mU]
 refine zd (xp i 0 j) hpin ?_
 cases h3 : inI i 0 j with
 | false =>
  have h4 := znn h3
  obtain ⟨e1, e2⟩ := hno3 (by
   rw [hBe]
   by_cases h5 : 0 <= i
   · have h6 : ¬ i <= j := fun h => h4 ⟨h5, h⟩
     rw [decide_eq_false h6]; simp
   · rw [decide_eq_false h5]; rfl)
  simp +decide only [ck, b1, hxk, zg, e1, e2, iN, vB, vI, vS, zo, zb, za, hpin, go_sem, aD, mU]
 | true =>
 have h4 := zy h3
 rw [decide_eq_true h4.1, decide_eq_true h4.2] at hBe
 simp only [Bool.true_and] at hBe
 by_cases h5 : j < (p.nodes[b].kids.length : Int)
 case neg =>
  have c5 : ((p.nodes[b].kids.length : Int) <= j) = True := eq_true (by omega)
  obtain ⟨e1, e2⟩ := hno3 (by rw [hBe, decide_eq_false h5])
  simp +decide only [ck, b1, hxk, zg, c5, ge_iff_le, e1, e2, iN, vB, vI, vS, zo, zb, za, hpin, go_sem, aD, mU]
 have c5 : ((p.nodes[b].kids.length : Int) <= j) = False := eq_false (by omega)
 rw [decide_eq_true h5] at hBe
 simp +decide only [ck, b1, hxk, zg, c5, ge_iff_le, iN, vB, vI, vS, zo, zb, za, hpin, go_sem, aD, mU]
 clear hno3 hun hul hum hx c1 hsh
 obtain ⟨b2, i, j, hb2, rfl, rfl, hP⟩ := zmS hR hfl hBe
 obtain rfl : b2 = b := by omega
 clear hb2
 have hbl := hP.hb
 have hij := hP.hij
 have hjl := hP.hj
 have hbk := hD.few _ (lM hbl)
 have hRl := zdS hP
 have hRv := zfI hP
 have hRe : yp p (b2 : Int) i j = (p.nodes[b2].kids.take (j + 1)).drop i := by unfold yp; rw [zR hbl]
 have hRn : (yp p (b2 : Int) i j).length = j + 1 - i := by rw [hRe]; simp; omega
 have hno4 : zbH p f (yp p (b2 : Int) i j) = none -> xfPr p f b2 i j s = p /\ yU p f b2 i j s = 4 := fun hw => by
  refine ⟨?_, ?_⟩
  · unfold xfPr; rw [hR, h0, hNm]; simp only [Bool.and_self, if_true, Int.toNat_natCast, hBe, hw]
  · unfold yU; rw [hR, h0, hNm]; simp only [Bool.and_self, if_true, Int.toNat_natCast, hBe, hw]
 have hyes : ∀ ps, zbH p f (yp p (b2 : Int) i j) = some ps -> xfPr p f b2 i j s = finP p (xfP p f b2 i j (yi p f) ps (xH p (yp p (b2 : Int) i j)) (yp p (b2 : Int) i j) s) /\ yU p f b2 i j s = zcn (xfP p f b2 i j (yi p f) ps (xH p (yp p (b2 : Int) i j)) (yp p (b2 : Int) i j) s) := fun ps hw => by
  refine ⟨?_, ?_⟩
  · unfold xfPr; rw [hR, h0, hNm]; simp only [Bool.and_self, if_true, Int.toNat_natCast, hBe, hw]; rfl
  · unfold yU; rw [hR, h0, hNm]; simp only [Bool.and_self, if_true, Int.toNat_natCast, hBe, hw]; rfl
 have hef := zfv p f (yp p (b2 : Int) i j) (by omega) hf hn hk hpl
 have hEl : (effL p f (yp p (b2 : Int) i j)).length <= p.nodes.length := by
  unfold effL
  rw [if_pos hg]
  exact Nat.le_trans (ZB _ _ _) (ZK p _)
 have hpr := zen (yi p f) (effL p f (yp p (b2 : Int) i j)) (by omega) (by omega)
 have hlk := zfn p hD f (yp p (b2 : Int) i j) hRv (by omega) (effL p f (yp p (b2 : Int) i j)) (by omega) hf hn hk
 have hH : zbH p f (yp p (b2 : Int) i j) = if (spP (yi p f) (effL p f (yp p (b2 : Int) i j)) []).2 && !zcQ p f (xH p (yp p (b2 : Int) i j)) (effL p f (yp p (b2 : Int) i j)) then some (spP (yi p f) (effL p f (yp p (b2 : Int) i j)) []).1 else none := zjq p f _ _ _ [] (by simp)
 have hlen : ∀ ps, zbH p f (yp p (b2 : Int) i j) = some ps -> ps.length <= 3 := fun ps h => zgZ p f _ _ _ _ _ (by simp) h
 have hin := fun ps (h : ps.length <= 1048576) => zeo p hD (yp p (b2 : Int) i j) hRv (by omega) ps h hn hk
 have hxa : ∀ ps, xfP p f b2 i j (yi p f) ps (xH p (yp p (b2 : Int) i j)) (yp p (b2 : Int) i j) s = ⟨(xfN p (yi p f) ps (xH p (yp p (b2 : Int) i j)) (yp p (b2 : Int) i j) s).set b2 (xfB p b2 i j ((p.nodes.length + ps.length + 1 : Nat) : Int)), xfF p f ps s⟩ := fun ps => rfl
 have hXb := fun ps h => ziC hP ps (xH p (yp p (b2 : Int) i j)) h
 simp only [zb, za, cI, cB, roI] at hef hpr hlk hin
 have e1 : ((i : Int) <= ((j + 1 : Nat) : Int)) = True := eq_true (by omega)
 have e2 : (((j + 1 : Nat) : Int) <= (p.nodes[b2].kids.length : Int)) = True := eq_true (by omega)
 have wj : IntKind.i64.wrap ((j : Int) + 1) = ((j + 1 : Nat) : Int) := w64s (n := p.nodes[b2].kids.length) hjl (by omega)
 have hfr := Yk (yp p (b2 : Int) i j)
 have hb1 : j + 1 - i <= 140737488355328 := by omega
 have hb2 : (j + 1 - i) * 8 <= 140737488355328 := by omega
 refine Tri.step ze ?_
 simp +decide only [ck, b1, hxk, zg, wj, e1, e2, zgx, zgy, <- hRe, hfr, hRn, hb1, hb2, iN, vB, vI, vS, zo, zb, za, hpin, go_sem, aD, mU]
 generalize hRg : yp p (b2 : Int) i j = R at hef hpr hlk hin hno4 hyes hEl hH hlen hxa hXb hRl hRv hRe hRn hfr |-
 refine Tri.ent (st' := ⟨275, [(1, vI f), (2, vI b2), (3, vI i), (4, vI j), (5, vS s), (6, .ip (za true p) 0), (12, .bp 12 0), (14, .bp 14 0), (15, .imm 96 (rows (varC true) (yi p f))), (20, .ref 20 [] R.length)], [(20, .row 3 (row1 cI R)), (12, .box [.sc (.slice none 0 0), .sc (.slice none 0 0)]), (14, .box (za false p))]⟩) ?_ (Ent.weak ?_ ?_ ?_ ?_)
 rotate_left
 · simp +decide [zH, zS, subT, subB, zj, zi, zm, St.get, look, vI, vB, vS, cI, cS, cB, zg, fnC, zn, zr, za, roI, hRn]
 · simp +decide [zH, zS, subT, subB, zj, zi, zm, St.get, look, vI, vB, vS, cI, cS, cB, zg, fnC, zn, zr, za, roI, hRn]
 · simp +decide [zH, zS, subT, subB, zj, zi, zm, St.get, look, vI, vB, vS, cI, cS, cB, zg, fnC, zn, zr, za, roI, hRn]
 · simp +decide [zH, zS, subT, subB, zj, zi, zm, St.get, look, vI, vB, vS, cI, cS, cB, zg, fnC, zn, zr, za, roI, hRn]
 clear hRn hb1 hb2 hRe
 have htk : List.take R.length (row1 cI R) = row1 cI R := yj cI R
 have hsh : shLL (row1 cI R) = row1 cI R := yJ R
 generalize effL p f R = E at hef hpr hlk hEl hH
 generalize xH p R = ins at hlk hH hin hyes hxa hXb
 generalize yi p f = l at hvl hpr hH hyes hxa |-
 refine Tri.step ze ?_
 simp +decide only [htk, hsh, vI, vS, zo, zb, za, hpin, go_sem, aD, mU]
 refine zd hef hpin ?_
 simp +decide only [zo, zb, za, hpin, go_sem, aD, mU]
 refine Tri.ent ?_ (Ent.frz hfull 21)
 refine Tri.step ze ?_
 simp +decide only [zkg, zo, zb, za, hpin, go_sem, aD, mU]
 refine zd hpr hpin ?_
 have hsl := zmz l E []
 generalize spP l E [] = Z at hpr hH hsl |-
 obtain ⟨ps, ok⟩ := Z
 simp only at hH hsl
 simp +decide only [zo, zb, za, hpin, go_sem, aD, mU]
 refine Tri.ent ?_ (Ent.frz hfull 22)
 refine Tri.step ze ?_
 cases ok with
 | false =>
  obtain ⟨e3, e4⟩ := hno4 (by rw [hH]; rfl)
  simp +decide only [zca, e3, e4, zo, zb, za, hpin, go_sem, aD, mU]
 | true =>
 simp +decide only [zca, htk, hsh, zo, zb, za, hpin, go_sem, aD, mU]
 refine zd hlk hpin ?_
 cases hlb : zcQ p f ins E with
 | true =>
  obtain ⟨e3, e4⟩ := hno4 (by rw [hH, hlb]; rfl)
  simp +decide only [e3, e4, zo, zb, za, hpin, go_sem, aD, mU]
 | false =>
 have hHs : zbH p f R = some ps := by rw [hH, hlb]; rfl
 obtain ⟨e3, e4⟩ := hyes ps hHs
 have hpsl := hlen ps hHs
 have hxa := hxa ps
 have hXb := hXb ps
 have hin := hin ps (by omega)
 simp +decide only [zo, zb, za, hpin, go_sem, aD, mU]
 rw [e3, e4]
 clear hno4 hyes hlen e3 e4 hpr hlk hef hH
 refine Tri.ent (st' := ⟨275, [(1, vI f), (2, vI b2), (3, vI i), (4, vI j), (5, vS s), (6, .ip (za true p) 0), (12, .bp 12 0), (14, .bp 14 0), (15, .imm 96 (rows (varC true) l)), (20, .ref 20 [] R.length), (22, .imm 107 (rows (zn true) ps))], [(20, .row 3 (row1 cI R)), (12, .box [.sc (.slice none 0 0), .sc (.slice none 0 0)]), (14, .box (za false p))]⟩) ?_ (Ent.weak ?_ ?_ ?_ ?_)
 rotate_left
 · simp +decide [zH, zS, subT, subB, zj, zi, zm, St.get, look, vI, vB, vS, cI, cS, cB, zg, fnC, zn, zr, za, roI]
 · simp +decide [zH, zS, subT, subB, zj, zi, zm, St.get, look, vI, vB, vS, cI, cS, cB, zg, fnC, zn, zr, za, roI]
 · simp +decide [zH, zS, subT, subB, zj, zi, zm, St.get, look, vI, vB, vS, cI, cS, cB, zg, fnC, zn, zr, za, roI]
 · simp +decide [zH, zS, subT, subB, zj, zi, zm, St.get, look, vI, vB, vS, cI, cS, cB, zg, fnC, zn, zr, za, roI]
 refine Tri.step ze ?_
 simp +decide only [vI, vS, zo, zb, za, hpin, go_sem, aD, mU]
 refine zd hcp hpin ?_
 simp +decide only [zo, zb, za, hpin, go_sem, aD, mU]
 refine Tri.step ze ?_
 simp +decide only [zo, zb, za, hpin, go_sem, aD, mU]
 refine yr hin hpin hfull [(2001, 20), (2000, 24)] [(2001, 20)] [(2000, 24)] ⟨rfl, rfl, rfl, rfl⟩ (fun uf => ?_) ?_
 · simp +decide only [htk, hsh, zo, zb, za, hpin, go_sem, aD, mU]
 simp +decide only [zo, zb, za, hpin, go_sem, aD, mU]
 have hXl : (inN ps ins p.nodes).length = p.nodes.length := xi _ _ _
 have hNs := hG.few
 have hfs8 := hG.fns
 unfold xfN at hxa
 generalize inN ps ins p.nodes = X0 at hXl hXb hxa |-
 refine Tri.step ze ?_
 simp +decide only [zo, zb, za, hpin, go_sem, aD, mU]
 refine Tri.ent ?_ (Ent.nilr 25 3 3)
 refine Tri.step ze ?_
 simp +decide only [zo, zb, za, hpin, go_sem, aD, mU]
 refine Tri.loop (ι := Nat) (fun m => m <= ps.length) (fun m => ⟨275, [(1, vI f), (2, vI b2), (3, vI i), (4, vI j), (5, vS s), (6, .ip (za true p) 0), (12, .bp 12 0), (14, .bp 14 0), (15, .imm 96 (rows (varC true) l)), (20, .ref 20 [] R.length), (22, .imm 107 (rows (zn true) ps)), (24, .bp 24 0), (25, .bp 25 0), (26, vI m)], [(24, .box [.row false 83 (rows (zg false) (X0 ++ (ps.take m).map (argN l))), .row false 104 (rows (fnC false) p.fns)]), (25, .box [.sc (.int .i64 12), .sc (.int .i64 0), .sc (.string s), .row false 3 (row1 cI (YC p.nodes.length m))]), (20, .row 3 (row1 cI R)), (12, .box [.sc (.slice none 0 0), .sc (.slice none 0 0)]), (14, .box (za false p))]⟩) (fun m => ps.length - m) 0 (by simp) ?_ ?_
 · refine Ent.weak ?_ ?_ ?_ ?_ <;> simp +decide [zH, zS, subT, subB, zj, zi, zm, St.get, look, vI, vB, vS, cI, cS, cB, zg, fnC, zn, zr, za, roI, YC, row1]
 rintro m hm
 refine zf ze _ ?_
 by_cases hm' : m < ps.length
 · have e : ((m : Int) < (ps.length : Int)) = True := by simp [hm']
   have hgp : (rows (zn true) ps).getD m [] = zn true ps[m] := zk _ _ hm'
   have hnx := ziX l hm'
   have hfn := zeB p.nodes.length m
   have hfl2 := xL p.nodes.length m
   have hfl3 := xL p.nodes.length (m + 1)
   have hYl : (X0 ++ (ps.take m).map (argN l)).length = p.nodes.length + m := by simp; omega
   have hsn := xx cI (YC p.nodes.length m) ((p.nodes.length + m : Nat) : Int)
   rw [<- hfn] at hsn
   obtain ⟨Y1, hY1⟩ : ∃ Y, Y = X0 ++ (ps.take (m + 1)).map (argN l) := ⟨_, rfl⟩
   rw [hnx, <- List.append_assoc] at hY1
   rw [show argN l ps[m] = ⟨argK (yZ l ps[m].name) ps[m].ty, 0, ps[m].name, []⟩ from rfl] at hY1
   have hnx2 : X0 ++ (ps.take (m + 1)).map (argN l) = Y1 := by rw [hY1, hnx, List.append_assoc]; rfl
   have hnx3 : X0 ++ List.take (m + 1) (ps.map (argN l)) = Y1 := by rw [<- List.map_take]; exact hnx2
   clear hnx hfn
   generalize X0 ++ (ps.take m).map (argN l) = Y0 at hYl hY1 |-
   generalize ps[m] = x at hgp hY1
   have hvt := ZC l x.name (by omega)
   have hag := ziw x.name (yZ l x.name) x.ty
   simp only [cI] at hvt hsn
   have hsY := yM (zg false) Y0 ⟨argK (yZ l x.name) x.ty, 0, x.name, []⟩
   rw [<- hY1] at hsY
   have hY1l : Y1.length = p.nodes.length + m + 1 := by rw [hY1]; simp; omega
   generalize yZ l x.name = tv at hvt hag hsY
   simp only [zg, cI, cS, row1, List.map_nil] at hag hsY
   simp only [zn, cI, cS] at hgp
   have hb1 : m + 1 <= 140737488355328 := by omega
   have hb2 : (m + 1) * 8 <= 140737488355328 := by omega
   have hb3 : p.nodes.length + m + 1 <= 140737488355328 := by omega
   have hb4 : (p.nodes.length + m + 1) * 56 <= 140737488355328 := by omega
   have w2 : IntKind.i64.wrap (((p.nodes.length + m + 1 : Nat) : Int) - 1) = ((p.nodes.length + m : Nat) : Int) := by rw [show (((p.nodes.length + m + 1 : Nat) : Int) - 1) = ((p.nodes.length + m : Nat) : Int) by omega]; exact w64 (by omega) (by omega)
   simp +decide only [e, vB, vI, vS, zo, zb, za, hpin, go_sem, aD, mU]
   refine Tri.fork ze (.one 0 true (.one 2 true (.one 3 true (.one 4 true (.one 5 true (.one 7 true (.one 8 true (.one 9 true (.one 10 true (.one 11 true (.one 14 true (.one 15 true (.one 16 true (.one 17 true (.one 6 true (.one 12 true (.one 18 true (.two 1 (.one 13 false (.one 19 false (.one 20 false (.one 21 false (.one 22 false (.one 23 false .done)))))) 13 (.two 1 (.one 19 false (.one 20 false (.one 21 false (.one 22 false (.one 23 false .done))))) 19 (.two 1 (.one 20 false (.one 21 false (.one 22 false (.one 23 false .done)))) 20 (.one 1 false (.one 21 false (.one 22 false (.one 23 false .done)))))))))))))))))))))))) zO (by kernel_rfl) (fun C2 hC2 => ?_)
   have hp2 := zP hC2 hpin
   simp +decide only [e, hm', hgp, iN, vB, vI, vS, zo, zb, za, hp2, hpin, go_sem, aD, mU]
   and_intros
   all_goals
    refine zd hvt hp2 ?_
    simp +decide only [e, hm', hgp, iN, vB, vI, vS, zo, zb, za, hp2, hpin, go_sem, aD, mU]
   all_goals and_intros
   all_goals
    refine zd hag hp2 ?_
    simp +decide only [e, hm', hgp, hYl, hb1, hb2, hb3, hb4, hsY, hY1l, w2, hsn, hfl2, hfl3, iN, vB, vI, vS, zo, zb, za, hp2, hpin, go_sem, aD, mU]
   all_goals and_intros
   all_goals
    refine ⟨m + 1, hm', by omega, Ent.weak ?_ ?_ ?_ ?_⟩
   all_goals simp +decide [zH, zS, subT, subB, zj, zi, zm, St.get, look, vI, vB, vS, cI, cS, cB, zg, fnC, zn, zr, za, roI, hnx2, hnx3, hfl3, w64s (n := ps.length) hm' (by omega)]
 have hml : m = ps.length := by omega
 subst hml
 have e : ((ps.length : Int) < (ps.length : Int)) = False := by simp
 simp +decide only [e, vB, vI, vS, zo, zb, za, hpin, go_sem, aD, mU]
 have hX1l : (X0 ++ ps.map (argN l)).length = p.nodes.length + ps.length := by simp; omega
 have hX1b : ∀ h, (X0 ++ ps.map (argN l))[b2]'h = p.nodes[b2] := fun h => by
  rw [List.getElem_append_left (by omega)]; exact hXb _
 generalize X0 ++ ps.map (argN l) = X1 at hX1l hX1b hxa |-
 clear hXl hXb e
 have hs2 := yM (zg false) X1 (XP s p.nodes.length ps.length)
 have hX2l : (X1 ++ [XP s p.nodes.length ps.length]).length = p.nodes.length + ps.length + 1 := by simp; omega
 have hX2b : ∀ h, (X1 ++ [XP s p.nodes.length ps.length])[b2]'h = p.nodes[b2] := fun h => by
  rw [List.getElem_append_left (by omega)]; exact hX1b _
 generalize X1 ++ [XP s p.nodes.length ps.length] = X2 at hX2l hX2b hxa hs2
 have hs3 := yM (zg false) X2 (xfDo (p.nodes.length + ps.length))
 have hX3l : (X2 ++ [xfDo (p.nodes.length + ps.length)]).length = p.nodes.length + ps.length + 2 := by simp; omega
 have hX3b : ∀ h, (X2 ++ [xfDo (p.nodes.length + ps.length)])[b2]'h = p.nodes[b2] := fun h => by
  rw [List.getElem_append_left (by omega)]; exact hX2b _
 generalize X2 ++ [xfDo (p.nodes.length + ps.length)] = X3 at hX3l hX3b hxa hs3
 have hb4 : b2 < X3.length := by omega
 have cb4 : ((b2 : Int) < (X3.length : Int)) = True := eq_true (by omega)
 have hb5 : b2 < p.nodes.length + ps.length + 2 := by omega
 have cb5 : ((b2 : Int) < ((p.nodes.length + ps.length + 2 : Nat) : Int)) = True := eq_true (by omega)
 have hgq := Ye (zg false) X3 hb4
 have hst := zec hb4 (p.nodes[b2].kids.take i ++ [((p.nodes.length + ps.length + 1 : Nat) : Int)] ++ p.nodes[b2].kids.drop (j + 1))
 rw [hX3b hb4] at hgq hst
 have hxb : xfB p b2 i j ((p.nodes.length + ps.length + 1 : Nat) : Int) = ⟨p.nodes[b2].kind, p.nodes[b2].num, p.nodes[b2].name, p.nodes[b2].kids.take i ++ [((p.nodes.length + ps.length + 1 : Nat) : Int)] ++ p.nodes[b2].kids.drop (j + 1)⟩ := by unfold xfB; rw [zR hbl]
 rw [<- hxb] at hst
 have hsm := zhu hP l (by omega) ins R hRl s hpl (ps := ps)
 rw [hxa, List.set_append_left _ _ hb4] at hsm
 rw [hxa, List.set_append_left _ _ hb4]
 obtain ⟨m1, m2, m3, m4⟩ := hsm
 have hp19 := zep _ m1 m2 m3 m4
 clear hxa m1 m2 m3 m4 hxb
 have hX4l : (X3.set b2 (xfB p b2 i j ((p.nodes.length + ps.length + 1 : Nat) : Int))).length = p.nodes.length + ps.length + 2 := by simp; omega
 generalize X3.set b2 (xfB p b2 i j ((p.nodes.length + ps.length + 1 : Nat) : Int)) = X4 at hst hX4l hp19 |-
 have hs5 := yM (zg false) X4 (XY R)
 have hX5l : (X4 ++ [XY R]).length = p.nodes.length + ps.length + 3 := by simp; omega
 unfold xfF at hp19 |-
 generalize X4 ++ [XY R] = T2 at hs5 hX5l hp19 |-
 obtain ⟨hLi, hLd, hL1, hL2, ci1, q0, q1, q2, q3, q4, q5⟩ := zpe hP ((p.nodes.length + ps.length + 1 : Nat) : Int)
 obtain ⟨z1, z2, z3, z4, z5, z6, w2, w3, w4⟩ := zqu hNs hpsl
 have hfk1 := Yk (p.nodes[b2].kids.take i)
 have hfk2 := Yk (p.nodes[b2].kids.drop (j + 1))
 have hsk := xx cI (p.nodes[b2].kids.take i) ((p.nodes.length + ps.length + 1 : Nat) : Int)
 simp only [zg, XP, xfDo, XY, cI, cS] at hs2 hs3 hs5 hgq
 simp only [row1, List.map_cons, List.map_nil, cI] at hs3
 simp only [cI] at hsk
 refine Tri.step ze ?_
 simp +decide only [hX1l, hX2l, z1, z2, hs2, xL, zo, zb, za, hpin, go_sem, aD, mU]
 refine Tri.step ze ?_
 simp +decide only [hX2l, hX3l, z3, z4, w2, hs3, zo, zb, za, hpin, go_sem, aD, mU]
 refine Tri.step ze ?_
 simp +decide only [ck, b1, hxk, zg, ci1, zgx, hfk1, hLi, q0, q1, iN, zo, zb, za, hpin, go_sem, aD, mU]
 refine Tri.step ze ?_
 simp +decide only [hX3l, w3, hLi, hL1, q2, q3, hsk, zo, zb, za, hpin, go_sem, aD, mU]
 refine Tri.stop ze ⟨275, [(1, vI f), (2, vI b2), (4, vI j), (5, vS s), (6, .ip (za true p) 0), (12, .bp 12 0), (14, .bp 14 0), (20, .ref 20 [] R.length), (22, .imm 107 (rows (zn true) ps)), (24, .bp 24 0)], [(24, .box [.row false 83 (rows (zg false) X4), .row false 104 (rows (fnC false) p.fns)]), (20, .row 3 (row1 cI R)), (12, .box [.sc (.slice none 0 0), .sc (.slice none 0 0)]), (14, .box (za false p))]⟩ ?_ ?_
 · refine Tri.fork ze (.one 0 true (.one 2 true (.one 3 true (.one 4 true (.one 6 true (.one 10 true (.one 11 true (.one 5 true (.one 7 true (.one 8 true (.one 9 true (.one 12 true (.two 1 (.one 13 false (.one 14 false (.one 15 false (.one 16 false .done)))) 13 (.one 1 false (.one 14 false (.one 15 false (.one 16 false .done))))))))))))))))) zO (by kernel_rfl) (fun C2 hC2 => ?_)
   have hp2 := zP hC2 hpin
   have hst2 := hst
   unfold zN at hst2
   simp +decide only [ck, b1, hxk, zg, wj, e2, zgy, hfk2, hL1, hL2, hLd, q4, q5, zjx, hgq, cb4, hb4, cb5, hb5, hX3l, hst, hst2, iN, Int.le_refl, zo, zb, za, hp2, hpin, go_sem, aD, mU]
   and_intros
   all_goals
    refine Ent.weak ?_ ?_ ?_ ?_
   all_goals simp +decide [zH, zS, subT, subB, zj, zi, zm, St.get, look, vI, vB, vS, cI, cS, cB, zg, fnC, zn, zr, za, roI, hst, hst2]
 clear hst hgq hfk1 hfk2 hsk hL1 hL2 hLi hLd q0 q1 q2 q3 q4 q5
 refine Tri.step ze ?_
 simp +decide only [hX4l, hX5l, z5, z6, hs5, vI, vS, zo, zb, za, hpin, go_sem, aD, mU]
 refine Tri.ent (st' := ⟨275, [(1, vI f), (5, vS s), (6, .ip (za true p) 0), (12, .bp 12 0), (14, .bp 14 0), (22, .imm 107 (rows (zn true) ps)), (24, .bp 24 0)], [(24, .box [.row false 83 (rows (zg false) T2), .row false 104 (rows (fnC false) p.fns)]), (12, .box [.sc (.slice none 0 0), .sc (.slice none 0 0)]), (14, .box (za false p))]⟩) ?_ (Ent.weak ?_ ?_ ?_ ?_)
 rotate_left
 · simp +decide [zH, zS, subT, subB, zj, zi, zm, St.get, look, vI, vB, vS, cI, cS, cB, zg, fnC, zn, zr, za, roI]
 · simp +decide [zH, zS, subT, subB, zj, zi, zm, St.get, look, vI, vB, vS, cI, cS, cB, zg, fnC, zn, zr, za, roI]
 · simp +decide [zH, zS, subT, subB, zj, zi, zm, St.get, look, vI, vB, vS, cI, cS, cB, zg, fnC, zn, zr, za, roI]
 · simp +decide [zH, zS, subT, subB, zj, zi, zm, St.get, look, vI, vB, vS, cI, cS, cB, zg, fnC, zn, zr, za, roI]
 refine Tri.ent ?_ (Ent.shb hfull 24)
 obtain ⟨hF1l, hF2l, hF3l, hF4l⟩ := zpP hfl (⟨s, ps, 0, ((p.nodes.length + ps.length + 2 : Nat) : Int), -1⟩ : FnD)
 obtain ⟨y1, y2, y3, y4, y5, y6, cf1, cf2⟩ := zqW hfl hfs8
 have hfr1 := zdl (p.fns.take f)
 have hfr2 := zdl (p.fns.drop f)
 have hsn : rows (fnC true) (p.fns.take f) ++ [[D.sc (.string s), .row true 107 (rows (zn true) ps), .sc (.int .i64 0), .sc (.int .i64 ((p.nodes.length + ps.length + 2 : Nat) : Int)), .sc (.int .i64 (-1))]] = rows (fnC true) (p.fns.take f ++ [⟨s, ps, 0, ((p.nodes.length + ps.length + 2 : Nat) : Int), -1⟩]) := yM (fnC true) (p.fns.take f) ⟨s, ps, 0, ((p.nodes.length + ps.length + 2 : Nat) : Int), -1⟩
 generalize hF2 : p.fns.take f ++ [(⟨s, ps, 0, ((p.nodes.length + ps.length + 2 : Nat) : Int), -1⟩ : FnD)] = F2 at hF2l hF4l hsn hp19 |-
 refine Tri.step ze ?_
 simp +decide only [zai, znq, cf1, cf2, zjt, zjv, hfr1, hF1l, y1, y2, vI, vS, iN, zo, zb, za, hpin, go_sem, aD, mU]
 refine Tri.step ze ?_
 simp +decide only [hX5l, w4, hF1l, hF2l, y3, y4, hsn, zo, zb, za, hpin, go_sem, aD, mU]
 refine Tri.step ze ?_
 simp +decide only [cf1, cf2, zjt, zjv, hfr2, hF2l, hF3l, hF4l, y5, y6, zmG, iN, Int.le_refl, zo, zb, za, hpin, go_sem, aD, mU]
 refine Tri.ent ?_ (Ent.frb hfull 24)
 simp only [zb, za, cI] at hp19
 refine Tri.step ze ?_
 simp +decide only [zim, znp, za, zo, zb, za, hpin, go_sem, aD, mU]
 refine zd hp19 hpin ?_
 simp +decide only [zo, zb, za, hpin, go_sem, aD, mU]
 refine Tri.step ze ?_
 generalize (⟨T2, F2 ++ p.fns.drop f⟩ : ProgramD) = O at hp19 |-
 have hfo : finP p O = (if zeI O then zag O else p) := rfl
 have hco : zcn O = (if zeI O then 0 else 1) := rfl
 cases hO : zeI O with
 | false =>
  rw [hO] at hfo hco
  simp only [bF, if_false] at hfo hco
  simp +decide only [hfo, hco, za, zo, zb, za, hpin, go_sem, aD, mU]
 | true =>
  rw [hO] at hfo hco
  simp only [if_true] at hfo hco
  simp +decide only [hfo, hco, za, zo, zb, za, hpin, go_sem, aD, mU]
  refine zf ze _ ?_
  simp +decide only [za, zo, zb, za, hpin, go_sem, aD, mU]
theorem zpf (p : ProgramD) (fn b i j : Int) (s : ByteArray) (h : zF p <= 1048576) : zF (xfPr p fn b i j s) <= 1048576 := by
 unfold xfPr
 split
 · split
   · split
     · split
       · exact h
       · exact zoA p _ h
     · exact h
   · exact h
 · exact h
end Go.Proofs.YtjjigphfjclofaaGreatDoor.AW
