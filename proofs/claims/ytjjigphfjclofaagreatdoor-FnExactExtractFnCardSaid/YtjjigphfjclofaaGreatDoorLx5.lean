/- What the statements of this set lean on, part 5. No condition beyond those named. -/
import Derived.Test.YtjjigphfjclofaaGreatDoorLx4
import Derived.Test.YtjjigphfjclofaaGreatDoorProg
import Derived.KernelRfl
namespace Go.Proofs.YtjjigphfjclofaaGreatDoor.AW
open Go.RowKit
open Nat renaming reduceAdd → aD, reduceMul → mU
open Int renaming natCast_nonneg → iN
open Bool renaming false_eq_true → bF, false_or → bO, true_or → bT, or_false → bP
open List renaming getElem_mem → lM, getElem?_eq_getElem → lE
open Option renaming getD_some → oD, map_eq_some_iff → oM
set_option maxHeartbeats 4000000
set_option maxRecDepth 100000
set_option linter.unusedSimpArgs false
set_option linter.unusedVariables false
theorem ze : xN Tryz.prog := znU (by kernel_rfl)
theorem zO : Tryz.prog.follows .mixedOrders = true := by kernel_rfl
theorem zro : elT Tryz.prog 27 = some 3 := by kernel_rfl
theorem zrO : isR Tryz.prog 27 = some false := by kernel_rfl
theorem zpi : szT Tryz.prog 27 = 1 := by kernel_rfl
attribute [go_sem] zro zrO zpi
theorem rInt : isR Tryz.prog 3 = some false := by kernel_rfl
theorem zhF : szT Tryz.prog 3 = 1 := by kernel_rfl
theorem zInt : zeroCells Tryz.prog 3 = some [.int .i64 0] := by kernel_rfl
theorem zsK : ZJ Tryz.prog 3 = 8 := by kernel_rfl
attribute [go_sem] rInt zhF zInt zsK
theorem rStr : isR Tryz.prog 9 = some false := by kernel_rfl
theorem uStr : Tryz.prog.underlying 9 = some .string := by kernel_rfl
theorem zrC : szT Tryz.prog 9 = 1 := by kernel_rfl
theorem zsJ : ZJ Tryz.prog 9 = 16 := by kernel_rfl
attribute [go_sem] rStr uStr zrC zsJ
theorem zrn : elT Tryz.prog 99 = some 9 := by kernel_rfl
theorem zrK : isR Tryz.prog 99 = some false := by kernel_rfl
theorem zqy : szT Tryz.prog 99 = 1 := by kernel_rfl
theorem zStr : zeroCells Tryz.prog 9 = some [.string ⟨#[]⟩] := by kernel_rfl
attribute [go_sem] zrn zrK zqy zStr
theorem zrQ : isR Tryz.prog 4 = some false := by kernel_rfl
theorem zqz : szT Tryz.prog 4 = 1 := by kernel_rfl
theorem zrA : Tryz.prog.underlying 4 = some .bool := by kernel_rfl
attribute [go_sem] zrQ zqz zrA
abbrev roI (l : List Int) : V := .imm 3 (row1 cI l)
attribute [go_sem] roI
abbrev ro64 (n : Int) : V := .sc (.int .i64 n)
attribute [go_sem] ro64
def ZL (k : Int) (n : Nat) : List Int := (List.range n).map fun (i : Nat) => k + i
theorem zt (k : Int) (n : Nat) : (ZL k n).length = n := by simp [ZL]
theorem zna (k : Int) (n i : Nat) (h : i < (ZL k n).length) : (ZL k n)[i] = k + i := by simp [ZL]
theorem Zf (l : List Int) (n : Int) (hl : l.length < 9223372036854775807) : zx Tryz.prog 88 [.ro (roI l), .ro (.sc (.int .i64 n))] (fun rs st => rs = [(false, [cB (l.contains n)])]) := by
 refine zq (fn := Tryz.f88) (c := Tryz.f88.body.getD .skip) (res := [.tm 4]) (n := 17) ze (by kernel_rfl) (by rfl) (by kernel_rfl) (by rfl) (by rfl) (by simp [zu]) (fun C hpin hfull => ?_)
 simp +decide only [Tryz.f88, go_sem, aD, mU]
 refine Tri.loop (ι := Nat) (fun i => i <= l.length /\ (l.take i).contains n = false) (fun i => ⟨17, [(0, roI l), (1, vI n), (4, vB false), (7, roI l), (8, vI l.length), (9, vI i)], []⟩) (fun i => l.length - i) 0 (by simp) ?_ ?_
 · refine Ent.weak ?_ ?_ ?_ ?_ <;> simp +decide [subT, subB, zj, zi, zm, St.get, look, vI, vB, vS]
 · rintro i ⟨hi, hn⟩
   refine zf ze _ ?_
   by_cases h : i < l.length
   · have e : ((i : Int) < (l.length : Int)) = True := by simp [h]
     simp +decide only [e, zw _ _ h, iN, vI, vB, go_sem, aD, mU]
     cases hq : (l[i] == n) with
     | true =>
      simp +decide only [vB, go_sem, aD, mU]
      have : l.contains n = true := by simp at hq |-; exact hq ▸ lM h
      rw [this]
     | false =>
      simp +decide only [vB, go_sem, aD, mU]
      refine ⟨i + 1, ⟨h, ?_⟩, by omega, Ent.weak ?_ ?_ ?_ ?_⟩
      · rw [List.take_succ_eq_append_getElem h, List.contains_append]
        simp at hn hq |-
        exact ⟨hn, fun e => hq e.symm⟩
      all_goals simp +decide [subT, subB, zj, zi, St.get, look, w64s (n := l.length) h (by omega), vI, vB]
   · have hil : i = l.length := by omega
     have e : ((i : Int) < (l.length : Int)) = False := by simp; omega
     rw [hil, List.take_length] at hn
     simp +decide only [e, hn, vI, vB, go_sem, aD, mU]
theorem zbB (l : List Int) (k : Int) (hl : l.length < 9223372036854775807) (h0 : 0 <= k) (h1 : k + l.length < 9223372036854775807) :
 SoundAt Tryz.prog 48 (fun uf => zu 0 [.ro (.ref 2000 [] l.length), .ro (.sc (.int .i64 k))]) [(2000, .row 3 (row1 cI l))]
  (fun rs st => rs = [(false, [cI (k + l.length)])] /\ xr st.ob [(2000, .row 3 (row1 cI (ZL k l.length)))]) := by
 refine yL (fn := Tryz.f48) (c := Tryz.f48.body.getD .skip) (res := [.tm 4]) (n := 19) ze (by kernel_rfl) (by rfl) (by kernel_rfl) (by rfl) (by rfl) (by simp [zu]) (fun uf ub C hpin hpin2 hfull => ?_)
 simp +decide only [Tryz.f48, go_sem, aD, mU]
 let L : Nat -> List Int := fun i => ZL k i ++ l.drop i
 have hL : ∀ i, i <= l.length -> (L i).length = l.length := fun i hi => by simp [L, ZL]; omega
 refine Tri.loop (ι := Nat) (fun i => i <= l.length) (fun i => ⟨19, [(0, .ref 2000 [] l.length), (1, vI (k + i)), (5, vI i)], [(2000, .row 3 (row1 cI (L i)))]⟩) (fun i => l.length - i) 0 (by simp) ?_ ?_
 · refine Ent.weak ?_ ?_ ?_ ?_ <;> simp +decide [subT, subB, zj, zi, St.get, look, vI, vB, L, ZL]
 · rintro i hi
   refine zf ze _ ?_
   by_cases h : i < l.length
   · have e : ((i : Int) < (l.length : Int)) = True := by simp [h]
     have e2 : i < (L i).length := by rw [hL i hi]; exact h
     simp +decide only [e, hL i hi, zw _ _ e2, iN, vI, vB, go_sem, aD, mU]
     refine ⟨h, i + 1, h, by omega, Ent.weak ?_ ?_ ?_ ?_⟩
     · have e3 : IntKind.i64.wrap (k + i + 1) = k + ((i + 1 : Nat) : Int) := by rw [w64 (by omega) (by omega)]; omega
       simp +decide [subT, St.get, look, w64s (n := l.length) h (by omega), e3, vI, vB]
     · have e4 : (row1 cI (L i)).set i [D.sc (.int .i64 (k + i))] = row1 cI (L (i + 1)) := by
        have := zdf cI (L i) i (k + i)
        simp only [cI] at this |-
        rw [this]
        congr 1
        apply List.ext_getElem
        · simp [L, ZL]; omega
        · intro j h1 h2
          simp only [L, ZL, List.getElem_set, List.getElem_append, List.length_map, List.length_range, List.getElem_map, List.getElem_range, List.getElem_drop]
          by_cases e1 : i = j
          · subst e1; simp
          · rw [if_neg e1]
            by_cases e2 : j < i
            · rw [dif_pos e2, dif_pos (by omega)]
            · rw [dif_neg e2, dif_neg (by omega)]; congr 1; omega
       simp +decide [subB, look, e4, cI]
     all_goals simp +decide [zj, zi, look, vI]
   · have hil : i = l.length := by omega
     subst hil
     have e : ((l.length : Int) < (l.length : Int)) = False := by simp
     simp +decide only [e, vI, vB, go_sem, aD, mU]
     simp [L, ZL]
theorem zgX (l : List Int) (k : Int) (hl : l.length < 9223372036854775807) (h0 : 0 <= k) (h1 : k + l.length < 9223372036854775807) :
 zx Tryz.prog 50 [.ro (roI l), .ro (.sc (.int .i64 k))] (fun rs st => rs = [(false, [cI (if l = ZL k l.length then k + l.length else -1)])]) := by
 refine zq (fn := Tryz.f50) (c := Tryz.f50.body.getD .skip) (res := [.tm 4]) (n := 21) ze (by kernel_rfl) (by rfl) (by kernel_rfl) (by rfl) (by rfl) (by simp [zu]) (fun C hpin hfull => ?_)
 simp +decide only [Tryz.f50, go_sem, aD, mU]
 refine Tri.loop (ι := Nat) (fun i => i <= l.length /\ l.take i = ZL k i) (fun i => ⟨21, [(0, roI l), (1, vI (k + i)), (5, vI i)], []⟩) (fun i => l.length - i) 0 (by simp [ZL]) ?_ ?_
 · refine Ent.weak ?_ ?_ ?_ ?_ <;> simp +decide [subT, subB, zj, zi, zm, St.get, look, vI, vB, vS]
 · rintro i ⟨hi, hn⟩
   refine zf ze _ ?_
   by_cases h : i < l.length
   · have e : ((i : Int) < (l.length : Int)) = True := by simp [h]
     simp +decide only [e, zw _ _ h, iN, vI, vB, go_sem, aD, mU]
     cases hq : (l[i] != k + i) with
     | true =>
      simp +decide only [vI, go_sem, aD, mU]
      have : ¬ l = ZL k l.length := fun e1 => by
       have e2 : l[i] = k + i := by
        have := List.getElem_of_eq e1 h
        rw [this, zna]
       simp [e2] at hq
      rw [if_neg this]
     | false =>
      simp +decide only [vI, go_sem, aD, mU]
      refine ⟨i + 1, ⟨h, ?_⟩, by omega, Ent.weak ?_ ?_ ?_ ?_⟩
      · rw [List.take_succ_eq_append_getElem h, hn]
        simp at hq
        simp [ZL, List.range_succ, hq]
      · have e3 : IntKind.i64.wrap (k + i + 1) = k + ((i + 1 : Nat) : Int) := by rw [w64 (by omega) (by omega)]; omega
        simp +decide [subT, St.get, look, w64s (n := l.length) h (by omega), e3, vI, vB]
      all_goals simp +decide [subB, zj, zi, look, vI]
   · have hil : i = l.length := by omega
     subst hil
     have e : ((l.length : Int) < (l.length : Int)) = False := by simp
     rw [List.take_length] at hn
     simp +decide only [e, vI, vB, go_sem, aD, mU]
     rw [if_pos hn]
theorem zkd (l l' : List Int) (hl : l.length < 9223372036854775807) : zx Tryz.prog 42 [.ro (roI l), .ro (roI l')] (fun rs st => rs = [(false, [cB (decide (l = l'))])]) := by
 refine zq (fn := Tryz.f42) (c := Tryz.f42.body.getD .skip) (res := [.tm 4]) (n := 26) ze (by kernel_rfl) (by rfl) (by kernel_rfl) (by rfl) (by rfl) (by simp [zu]) (fun C hpin hfull => ?_)
 by_cases hlen : l.length = l'.length
 · have e0 : ((l.length : Int) != (l'.length : Int)) = false := by simp [hlen]
   simp +decide only [Tryz.f42, e0, go_sem, aD, mU]
   refine Tri.loop (ι := Nat) (fun i => i <= l.length /\ l.take i = l'.take i) (fun i => ⟨26, [(0, roI l), (1, roI l'), (5, vI i)], []⟩) (fun i => l.length - i) 0 (by simp) ?_ ?_
   · refine Ent.weak ?_ ?_ ?_ ?_ <;> simp +decide [subT, subB, zj, zi, zm, St.get, look, vI, vB, vS]
   · rintro i ⟨hi, hn⟩
     refine zf ze _ ?_
     by_cases h : i < l.length
     · have e : ((i : Int) < (l.length : Int)) = True := by simp [h]
       have h' : i < l'.length := by omega
       have e' : ((i : Int) < (l'.length : Int)) = True := by simp [h']
       simp +decide only [e, vI, vB, go_sem, aD, mU]
       refine Tri.draw ze zO (by kernel_rfl) ?_
       simp +decide only [e, e', zw _ _ h, zw _ _ h', iN, vI, vB, go_sem, aD, mU]
       cases hq : (l[i] != l'[i]) with
       | true =>
        simp +decide only [vI, vB, go_sem, aD, mU]
        have : ¬ l = l' := fun e1 => by subst e1; simp at hq
        simp [this]
       | false =>
        simp +decide only [vI, go_sem, aD, mU]
        refine ⟨i + 1, ⟨h, ?_⟩, by omega, Ent.weak ?_ ?_ ?_ ?_⟩
        · rw [List.take_succ_eq_append_getElem h, List.take_succ_eq_append_getElem h', hn]
          simp at hq; rw [hq]
        all_goals simp +decide [subT, subB, zj, zi, St.get, look, w64s (n := l.length) h (by omega), vI, vB]
     · have hil : i = l.length := by omega
       subst hil
       have e : ((l.length : Int) < (l.length : Int)) = False := by simp
       simp +decide only [e, vI, vB, go_sem, aD, mU]
       rw [List.take_length, hlen, List.take_length] at hn
       simp [hn]
 · have e0 : ((l.length : Int) != (l'.length : Int)) = true := by simp; omega
   have e1 : ¬ l = l' := fun e => hlen (by rw [e])
   simp +decide only [Tryz.f42, e0, e1, go_sem, aD, mU]
theorem zou (n lo hi : Int) : zx Tryz.prog 40 [.ro (.sc (.int .i64 n)), .ro (.sc (.int .i64 lo)), .ro (.sc (.int .i64 hi))] (fun rs st => rs = [(false, [cB (decide (lo <= n) && decide (n <= hi))])]) := by
 refine zq (fn := Tryz.f40) (c := Tryz.f40.body.getD .skip) (res := [.tm 6]) (n := 15) ze (by kernel_rfl) (by rfl) (by kernel_rfl) (by rfl) (by rfl) (by simp [zu]) (fun C hpin hfull => ?_)
 simp +decide only [Tryz.f40, go_sem, aD, mU]
 by_cases h : lo <= n <;> simp [h]
theorem zjP (n lo hi : Int) : zx Tryz.prog 35 [.ro (.sc (.int .i64 n)), .ro (.sc (.int .i64 lo)), .ro (.sc (.int .i64 hi))] (fun rs st => rs = [(false, [cB (decide (lo <= n) && decide (n <= hi))])]) := by
 refine zq (fn := Tryz.f35) (c := Tryz.f35.body.getD .skip) (res := [.tm 6]) (n := 15) ze (by kernel_rfl) (by rfl) (by kernel_rfl) (by rfl) (by rfl) (by simp [zu]) (fun C hpin hfull => ?_)
 simp +decide only [Tryz.f35, go_sem, aD, mU]
 by_cases h : lo <= n <;> simp [h]
theorem zhE (l : List Int) (x : Int) (hl : l.length < 4611686018427387904) (h0 : -4611686018427387904 < x) (h1 : x < 4611686018427387904) : zx Tryz.prog 162 [.ro (roI l), .ro (.sc (.int .i64 x))] (fun rs st => rs = [(false, [cI (if x - l.length < 0 then -1 else x - l.length)])]) := by
 refine zq (fn := Tryz.f162) (c := Tryz.f162.body.getD .skip) (res := [.tm 4]) (n := 12) ze (by kernel_rfl) (by rfl) (by kernel_rfl) (by rfl) (by rfl) (by simp [zu]) (fun C hpin hfull => ?_)
 have e : IntKind.i64.wrap (x - (l.length : Int)) = x - l.length := w64 (by omega) (by omega)
 simp +decide only [Tryz.f162, e, go_sem, aD, mU]
 by_cases h : x - (l.length : Int) < 0
 · have e2 : (x - (l.length : Int) < 0) = True := by simp [h]
   simp +decide only [e2, go_sem, aD, mU]
 · have e2 : (x - (l.length : Int) < 0) = False := by simp; omega
   simp +decide only [e2, go_sem, aD, mU]
theorem zhB (l : List Int) (hl : l.length <= 35184372088832) : zx Tryz.prog 173 [.ro (roI l)] (fun rs st => rs = [(false, [.row false 3 (row1 cI l)])]) := by
 refine zq (fn := Tryz.f173) (c := Tryz.f173.body.getD .skip) (res := [.tm 2]) (n := 22) ze (by kernel_rfl) (by rfl) (by kernel_rfl) (by rfl) (by rfl) (by simp [zu]) (fun C hpin hfull => ?_)
 have e1 : (8 : Nat) * (l.length : Int) <= 281474976710656 := by omega
 simp +decide only [Tryz.f173, hpin, go_sem, aD, mU]
 refine ⟨by omega, by omega, by omega, ?_⟩
 let L : Nat -> List Int := fun i => l.take i ++ List.replicate (l.length - i) 0
 have hL : ∀ i, i <= l.length -> (L i).length = l.length := fun i hi => by simp [L]; omega
 refine Tri.loop (ι := Nat) (fun i => i <= l.length) (fun i => ⟨22, [(0, roI l), (2, .ref 2 [] 0), (3, .ref 3 [] l.length), (4, vI i)], [(3, .row 3 (row1 cI (L i))), (2, .row 3 [])]⟩) (fun i => l.length - i) 0 (by simp) ?_ ?_
 · refine Ent.weak ?_ ?_ ?_ ?_ <;> simp +decide [subT, subB, zj, zi, St.get, look, vI, vB, L, row1, cI]
 · rintro i hi
   refine zf ze _ ?_
   by_cases h : i < l.length
   · have e : ((i : Int) < (l.length : Int)) = True := by simp [h]
     have e2 : i < (L i).length := by rw [hL i hi]; exact h
     simp +decide only [e, h, hL i hi, zw _ _ h, zw _ _ e2, iN, vI, vB, go_sem, aD, mU]
     refine ⟨i + 1, h, by omega, Ent.weak ?_ ?_ ?_ ?_⟩
     · simp +decide [subT, St.get, look, w64s (n := l.length) h (by omega), vI, vB]
     · have e4 : (row1 cI (L i)).set i [D.sc (.int .i64 l[i])] = row1 cI (L (i + 1)) := by
        have := zdf cI (L i) i l[i]
        simp only [cI] at this |-
        rw [this]
        congr 1
        apply List.ext_getElem
        · simp [L]; omega
        · intro j h1 h2
          simp only [L, List.getElem_set, List.getElem_append, List.length_take, List.getElem_take, List.getElem_replicate]
          by_cases e1 : i = j
          · subst e1; simp; omega
          · rw [if_neg e1]
            by_cases e2 : j < i
            · rw [dif_pos (by omega), dif_pos (by omega)]
            · rw [dif_neg (by omega), dif_neg (by omega)]
       simp +decide [subB, look, e4, cI]
     all_goals simp +decide [zj, zi, look, vI]
   · have hil : i = l.length := by omega
     subst hil
     have e : ((l.length : Int) < (l.length : Int)) = False := by simp
     simp +decide only [e, hL l.length (Nat.le_refl _), hpin, vI, vB, go_sem, aD, mU]
     simp [L]
theorem zmt (l : List Int) (left : Int) (h0 : 0 <= left) (h1 : left < 1152921504606846976) (hl : l.length < 1152921504606846976) : zx Tryz.prog 162 [.ro (roI l), .ro (.sc (.int .i64 left))] (fun rs st => rs = [(false, [cI (sub left l.length)])]) := by
 have := zhE l left (by omega) (by omega) (by omega)
 exact this
theorem zmp (l : List Int) (hl : l.length <= 1048576) : zx Tryz.prog 173 [.ro (roI l)] (fun rs st => rs = [(false, [.row false 3 (row1 cI l)])]) := zhB l (by omega)
theorem ziJ (l : List Int) (hl : l.length <= 1048576) : zx Tryz.prog 42 [.ro (roI l), .ro (roI l)] (fun rs st => rs = [(false, [cB true])]) := by
 have := zkd l l (by omega)
 simpa using this
theorem zrk : fo Tryz.prog 139 0 = some 0 := by kernel_rfl
theorem zrj : fo Tryz.prog 139 1 = some 1 := by kernel_rfl
theorem zri : fo Tryz.prog 139 2 = some 2 := by kernel_rfl
theorem zrh : fo Tryz.prog 139 3 = some 3 := by kernel_rfl
theorem zrg : fo Tryz.prog 139 4 = some 4 := by kernel_rfl
theorem zrf : fo Tryz.prog 139 5 = some 5 := by kernel_rfl
theorem zre : fo Tryz.prog 139 6 = some 6 := by kernel_rfl
theorem zrP : isR Tryz.prog 139 = some true := by kernel_rfl
theorem zrH : szT Tryz.prog 139 = 7 := by kernel_rfl
theorem zry : zeroCells Tryz.prog 139 = some [.int .i64 0, .int .i64 0, .int .i64 0, .int .i64 0, .int .i64 0, .string ⟨#[]⟩, .slice none 0 0] := by kernel_rfl
theorem zsM : ZJ Tryz.prog 139 = 80 := by kernel_rfl
theorem zqR : xz Tryz.prog 139 = some [(0, 1), (1, 1), (2, 1), (3, 1), (4, 1), (5, 1), (6, 1)] := by kernel_rfl
attribute [go_sem] zrk zrj zri zrh zrg zrf zre zrP zrH zry zsM zqR
theorem zsF : elT Tryz.prog 28 = some 139 := by kernel_rfl
theorem zqL : isR Tryz.prog 28 = some false := by kernel_rfl
theorem zqF : szT Tryz.prog 28 = 1 := by kernel_rfl
attribute [go_sem] zsF zqL zqF
structure InsD where
 op : Int
 a : Int
 b : Int
 c : Int
 num : Int
 name : ByteArray
 args : List Int
def insC (sh : Bool) (x : InsD) : List D := [cI x.op, cI x.a, cI x.b, cI x.c, cI x.num, cS x.name, .row sh 3 (row1 cI x.args)]
def insW (x : InsD) : V := .agg [.sc (.int .i64 x.op), .sc (.int .i64 x.a), .sc (.int .i64 x.b), .sc (.int .i64 x.c), .sc (.int .i64 x.num), .sc (.string x.name), roI x.args]
def zgW (x : InsD) : Nat := x.name.size + x.args.length
theorem znl (sh : Bool) : shF (insC sh) = insC true := by funext x; simp [shF, insC, shL, shD, cI, cS, cB, yJ, Zt]
theorem zet (x : InsD) : ZG (insC false x) = true := by simp [insC, ZG, noSh, cI, cS, cB, Zp]
attribute [go_sem] znl zet
theorem ziA (l : List InsD) : xC (rows (insC false) l) = true := xe zet l
attribute [go_sem] ziA
theorem zqb : fo Tryz.prog 30 0 = some 0 := by kernel_rfl
theorem zqa : fo Tryz.prog 30 1 = some 1 := by kernel_rfl
theorem zpZ : fo Tryz.prog 30 2 = some 2 := by kernel_rfl
theorem zpY : fo Tryz.prog 30 3 = some 3 := by kernel_rfl
theorem zqO : isR Tryz.prog 30 = some true := by kernel_rfl
theorem zqI : szT Tryz.prog 30 = 4 := by kernel_rfl
theorem zqt : zeroCells Tryz.prog 30 = some [.string ⟨#[]⟩, .int .i64 0, .slice none 0 0, .slice none 0 0] := by kernel_rfl
theorem zrv : ZJ Tryz.prog 30 = 72 := by kernel_rfl
theorem zpC : xz Tryz.prog 30 = some [(0, 1), (1, 1), (2, 1), (3, 1)] := by kernel_rfl
attribute [go_sem] zqb zqa zpZ zpY zqO zqI zqt zrv zpC
theorem zrr : elT Tryz.prog 43 = some 30 := by kernel_rfl
theorem zpw : isR Tryz.prog 43 = some false := by kernel_rfl
theorem zpp : szT Tryz.prog 43 = 1 := by kernel_rfl
attribute [go_sem] zrr zpw zpp
structure CodeD where
 name : ByteArray
 params : Int
 locals : List Int
 words : List InsD
def zmb (sh : Bool) (x : CodeD) : List D := [cS x.name, cI x.params, .row sh 3 (row1 cI x.locals), .row sh 139 (rows (insC sh) x.words)]
theorem zoJ (sh : Bool) : shF (zmb sh) = zmb true := by funext x; simp [shF, zmb, shL, shD, cI, cS, cB, yJ, Zt, znl]
theorem zfY (x : CodeD) : ZG (zmb false x) = true := by simp [zmb, ZG, noSh, cI, cS, cB, Zp, xe zet]
attribute [go_sem] zoJ zfY
theorem zhn (l : List CodeD) : xC (rows (zmb false) l) = true := xe zfY l
attribute [go_sem] zhn
theorem zpX : fo Tryz.prog 83 0 = some 0 := by kernel_rfl
theorem zpW : fo Tryz.prog 83 1 = some 1 := by kernel_rfl
theorem zpV : fo Tryz.prog 83 2 = some 2 := by kernel_rfl
theorem zpU : fo Tryz.prog 83 3 = some 3 := by kernel_rfl
theorem zqN : isR Tryz.prog 83 = some true := by kernel_rfl
theorem zqH : szT Tryz.prog 83 = 4 := by kernel_rfl
theorem zqs : zeroCells Tryz.prog 83 = some [.int .i64 0, .int .i64 0, .string ⟨#[]⟩, .slice none 0 0] := by kernel_rfl
theorem zru : ZJ Tryz.prog 83 = 56 := by kernel_rfl
theorem zpB : xz Tryz.prog 83 = some [(0, 1), (1, 1), (2, 1), (3, 1)] := by kernel_rfl
attribute [go_sem] zpX zpW zpV zpU zqN zqH zqs zru zpB
theorem zrq : elT Tryz.prog 33 = some 83 := by kernel_rfl
theorem zpv : isR Tryz.prog 33 = some false := by kernel_rfl
theorem zpo : szT Tryz.prog 33 = 1 := by kernel_rfl
attribute [go_sem] zrq zpv zpo
theorem zpT : fo Tryz.prog 126 0 = some 0 := by kernel_rfl
theorem zpS : fo Tryz.prog 126 1 = some 1 := by kernel_rfl
theorem zpR : fo Tryz.prog 126 2 = some 2 := by kernel_rfl
theorem zpQ : fo Tryz.prog 126 3 = some 3 := by kernel_rfl
theorem zqM : isR Tryz.prog 126 = some true := by kernel_rfl
theorem zqG : szT Tryz.prog 126 = 4 := by kernel_rfl
attribute [go_sem] zpT zpS zpR zpQ zqM zqG
theorem zrp : elT Tryz.prog 22 = some 126 := by kernel_rfl
theorem zpu : isR Tryz.prog 22 = some false := by kernel_rfl
theorem zpn : szT Tryz.prog 22 = 1 := by kernel_rfl
attribute [go_sem] zrp zpu zpn
structure NodeD where
 kind : Int
 num : Int
 name : ByteArray
 kids : List Int
def zg (sh : Bool) (x : NodeD) : List D := [cI x.kind, cI x.num, cS x.name, .row sh 3 (row1 cI x.kids)]
def zo (x : NodeD) : V := .agg [.sc (.int .i64 x.kind), .sc (.int .i64 x.num), .sc (.string x.name), roI x.kids]
def zC (x : NodeD) : Nat := x.name.size + x.kids.length
def zaj (x : NodeD) : Prop := x.name.size < 1152921504606846976 /\ x.kids.length < 1152921504606846976
theorem zkK (sh : Bool) : shF (zg sh) = zg true := by funext x; simp [shF, zg, shL, shD, cI, cS, cB, yJ, Zt]
theorem zcg (x : NodeD) : ZG (zg false x) = true := by simp [zg, ZG, noSh, cI, cS, cB, Zp]
attribute [go_sem] zkK zcg
theorem zgI (l : List NodeD) : xC (rows (zg false) l) = true := xe zcg l
attribute [go_sem] zgI
def zcf (x : NodeD) : List D := [cI x.kind, cI x.num, cS x.name, .row true 3 (row1 cI x.kids)]
def zjG (x : NodeD) : V := .agg [.sc (.int .i64 x.kind), .sc (.int .i64 x.num), .sc (.string x.name), roI x.kids]
theorem zkJ : shF zcf = zcf := by funext x; simp [shF, zcf, shL, shD, cI, cS, cB, yJ, Zt]
attribute [go_sem] zkJ
theorem zoE : fo Tryz.prog 107 0 = some 0 := by kernel_rfl
theorem zoD : fo Tryz.prog 107 1 = some 1 := by kernel_rfl
theorem zpy : isR Tryz.prog 107 = some true := by kernel_rfl
theorem zpr : szT Tryz.prog 107 = 2 := by kernel_rfl
theorem zpd : zeroCells Tryz.prog 107 = some [.string ⟨#[]⟩, .int .i64 0] := by kernel_rfl
theorem zqm : ZJ Tryz.prog 107 = 24 := by kernel_rfl
theorem zof : xz Tryz.prog 107 = some [(0, 1), (1, 1)] := by kernel_rfl
attribute [go_sem] zoE zoD zpy zpr zpd zqm zof
theorem zqg : elT Tryz.prog 102 = some 107 := by kernel_rfl
theorem zob : isR Tryz.prog 102 = some false := by kernel_rfl
theorem znX : szT Tryz.prog 102 = 1 := by kernel_rfl
attribute [go_sem] zqg zob znX
theorem zoC : fo Tryz.prog 188 0 = some 0 := by kernel_rfl
theorem zoB : fo Tryz.prog 188 1 = some 1 := by kernel_rfl
theorem zpx : isR Tryz.prog 188 = some true := by kernel_rfl
theorem zpq : szT Tryz.prog 188 = 2 := by kernel_rfl
attribute [go_sem] zoC zoB zpx zpq
theorem zqf : elT Tryz.prog 128 = some 188 := by kernel_rfl
theorem zoa : isR Tryz.prog 128 = some false := by kernel_rfl
theorem znW : szT Tryz.prog 128 = 1 := by kernel_rfl
attribute [go_sem] zqf zoa znW
structure ParamD where
 name : ByteArray
 ty : Int
def zn (sh : Bool) (x : ParamD) : List D := [cS x.name, cI x.ty]
def zkH (x : ParamD) : V := .agg [.sc (.string x.name), .sc (.int .i64 x.ty)]
def zK (x : ParamD) : Nat := x.name.size
def ZV (x : ParamD) : Prop := x.name.size < 1152921504606846976
theorem zif (sh : Bool) : shF (zn sh) = zn true := by funext x; simp [shF, zn, shL, shD, cI, cS, cB, yJ, Zt]
theorem zba (x : ParamD) : ZG (zn false x) = true := by simp [zn, ZG, noSh, cI, cS, cB, Zp]
attribute [go_sem] zif zba
theorem zfl (l : List ParamD) : xC (rows (zn false) l) = true := xe zba l
attribute [go_sem] zfl
def YT (x : ParamD) : List D := [cS x.name, cI x.ty]
def zdV (x : ParamD) : V := .agg [.sc (.string x.name), .sc (.int .i64 x.ty)]
theorem zie : shF YT = YT := by funext x; simp [shF, YT, shL, shD, cI, cS, cB, yJ, Zt]
attribute [go_sem] zie
theorem zsA : fo Tryz.prog 104 0 = some 0 := by kernel_rfl
theorem zsz : fo Tryz.prog 104 1 = some 1 := by kernel_rfl
theorem zsy : fo Tryz.prog 104 2 = some 2 := by kernel_rfl
theorem zsx : fo Tryz.prog 104 3 = some 3 := by kernel_rfl
theorem zsw : fo Tryz.prog 104 4 = some 4 := by kernel_rfl
theorem rFnC : isR Tryz.prog 104 = some true := by kernel_rfl
theorem sFnC : szT Tryz.prog 104 = 5 := by kernel_rfl
theorem zFnC : zeroCells Tryz.prog 104 = some [.string ⟨#[]⟩, .slice none 0 0, .int .i64 0, .int .i64 0, .int .i64 0] := by kernel_rfl
theorem bFnC : ZJ Tryz.prog 104 = 64 := by kernel_rfl
theorem zrW : xz Tryz.prog 104 = some [(0, 1), (1, 1), (2, 1), (3, 1), (4, 1)] := by kernel_rfl
attribute [go_sem] zsA zsz zsy zsx zsw rFnC sFnC zFnC bFnC zrW
theorem eFnC : elT Tryz.prog 34 = some 104 := by kernel_rfl
theorem zrN : isR Tryz.prog 34 = some false := by kernel_rfl
theorem zrG : szT Tryz.prog 34 = 1 := by kernel_rfl
attribute [go_sem] eFnC zrN zrG
theorem zsv : fo Tryz.prog 130 0 = some 0 := by kernel_rfl
theorem zsu : fo Tryz.prog 130 1 = some 1 := by kernel_rfl
theorem zst : fo Tryz.prog 130 2 = some 2 := by kernel_rfl
theorem zss : fo Tryz.prog 130 3 = some 3 := by kernel_rfl
theorem zsr : fo Tryz.prog 130 4 = some 4 := by kernel_rfl
theorem rFnL : isR Tryz.prog 130 = some true := by kernel_rfl
theorem sFnL : szT Tryz.prog 130 = 5 := by kernel_rfl
attribute [go_sem] zsv zsu zst zss zsr rFnL sFnL
theorem eFnL : elT Tryz.prog 23 = some 130 := by kernel_rfl
theorem zrM : isR Tryz.prog 23 = some false := by kernel_rfl
theorem zrF : szT Tryz.prog 23 = 1 := by kernel_rfl
attribute [go_sem] eFnL zrM zrF
structure FnD where
 name : ByteArray
 params : List ParamD
 res : Int
 body : Int
 ret : Int
def fnC (sh : Bool) (x : FnD) : List D := [cS x.name, .row sh 107 (rows (zn sh) x.params), cI x.res, cI x.body, cI x.ret]
def fnW (x : FnD) : V := .agg [.sc (.string x.name), .imm 107 (rows (zn true) x.params), .sc (.int .i64 x.res), .sc (.int .i64 x.body), .sc (.int .i64 x.ret)]
def ya (x : FnD) : Nat := x.name.size + (x.params.length + sumN zK x.params)
def zeE (x : FnD) : Prop := x.name.size < 1152921504606846976 /\ x.params.length < 1152921504606846976 /\ (∀ y ∈ x.params, ZV y)
theorem zpb (sh : Bool) : shF (fnC sh) = fnC true := by funext x; simp [shF, fnC, shL, shD, cI, cS, cB, yJ, Zt, zif]
theorem zhd (x : FnD) : ZG (fnC false x) = true := by simp [fnC, ZG, noSh, cI, cS, cB, Zp, xe zba]
attribute [go_sem] zpb zhd
theorem zjV (l : List FnD) : xC (rows (fnC false) l) = true := xe zhd l
attribute [go_sem] zjV
def fnL (x : FnD) : List D := [cS x.name, .row true 188 (rows YT x.params), cI x.res, cI x.body, cI x.ret]
def fnV (x : FnD) : V := .agg [.sc (.string x.name), .imm 188 (rows YT x.params), .sc (.int .i64 x.res), .sc (.int .i64 x.body), .sc (.int .i64 x.ret)]
theorem zpa : shF fnL = fnL := by funext x; simp [shF, fnL, shL, shD, cI, cS, cB, yJ, Zt, zie]
attribute [go_sem] zpa
theorem zlT : fo Tryz.prog 36 0 = some 0 := by kernel_rfl
theorem zlS : fo Tryz.prog 36 1 = some 1 := by kernel_rfl
theorem zmN : isR Tryz.prog 36 = some true := by kernel_rfl
theorem zmF : szT Tryz.prog 36 = 2 := by kernel_rfl
theorem zmh : zeroCells Tryz.prog 36 = some [.slice none 0 0, .slice none 0 0] := by kernel_rfl
theorem znF : ZJ Tryz.prog 36 = 48 := by kernel_rfl
theorem zlB : xz Tryz.prog 36 = some [(0, 1), (1, 1)] := by kernel_rfl
attribute [go_sem] zlT zlS zmN zmF zmh znF zlB
theorem zlR : fo Tryz.prog 25 0 = some 0 := by kernel_rfl
theorem zlQ : fo Tryz.prog 25 1 = some 1 := by kernel_rfl
theorem zmM : isR Tryz.prog 25 = some true := by kernel_rfl
theorem zmE : szT Tryz.prog 25 = 2 := by kernel_rfl
attribute [go_sem] zlR zlQ zmM zmE
structure ProgramD where
 nodes : List NodeD
 fns : List FnD
def za (sh : Bool) (x : ProgramD) : List D := [.row sh 83 (rows (zg sh) x.nodes), .row sh 104 (rows (fnC sh) x.fns)]
def zb (x : ProgramD) : V := .agg [.imm 83 (rows (zg true) x.nodes), .imm 104 (rows (fnC true) x.fns)]
def zF (x : ProgramD) : Nat := (x.nodes.length + sumN zC x.nodes) + (x.fns.length + sumN ya x.fns)
def Yw (x : ProgramD) : Prop := x.nodes.length < 1152921504606846976 /\ (∀ y ∈ x.nodes, zaj y) /\ x.fns.length < 1152921504606846976 /\ (∀ y ∈ x.fns, zeE y)
theorem zjA (sh : Bool) : shF (za sh) = za true := by funext x; simp [shF, za, shL, shD, cI, cS, cB, yJ, Zt, zkK, zpb]
theorem zbt (x : ProgramD) : ZG (za false x) = true := by simp [za, ZG, noSh, cI, cS, cB, Zp, xe zcg, xe zhd]
attribute [go_sem] zjA zbt
theorem zcL (l : List ProgramD) : xC (rows (za false) l) = true := xe zbt l
attribute [go_sem] zcL
def Xt (x : ProgramD) : List D := [.row true 126 (rows zcf x.nodes), .row true 130 (rows fnL x.fns)]
def zE (x : ProgramD) : V := .agg [.imm 126 (rows zcf x.nodes), .imm 130 (rows fnL x.fns)]
theorem zdQ : shF Xt = Xt := by funext x; simp [shF, Xt, shL, shD, cI, cS, cB, yJ, Zt, zkJ, zpa]
attribute [go_sem] zdQ
theorem zqZ : fo Tryz.prog 96 0 = some 0 := by kernel_rfl
theorem zqY : fo Tryz.prog 96 1 = some 1 := by kernel_rfl
theorem zqX : fo Tryz.prog 96 2 = some 2 := by kernel_rfl
theorem zrJ : isR Tryz.prog 96 = some true := by kernel_rfl
theorem zrD : szT Tryz.prog 96 = 3 := by kernel_rfl
theorem zrw : zeroCells Tryz.prog 96 = some [.string ⟨#[]⟩, .int .i64 0, .int .i64 0] := by kernel_rfl
theorem zsL : ZJ Tryz.prog 96 = 32 := by kernel_rfl
theorem zqP : xz Tryz.prog 96 = some [(0, 1), (1, 1), (2, 1)] := by kernel_rfl
attribute [go_sem] zqZ zqY zqX zrJ zrD zrw zsL zqP
theorem zsE : elT Tryz.prog 74 = some 96 := by kernel_rfl
theorem zqK : isR Tryz.prog 74 = some false := by kernel_rfl
theorem zqE : szT Tryz.prog 74 = 1 := by kernel_rfl
attribute [go_sem] zsE zqK zqE
structure VarD where
 name : ByteArray
 ty : Int
 node : Int
def varC (sh : Bool) (x : VarD) : List D := [cS x.name, cI x.ty, cI x.node]
def zdr (x : VarD) : Nat := x.name.size
theorem zph (sh : Bool) : shF (varC sh) = varC true := by funext x; simp [shF, varC, shL, shD, cI, cS, cB, yJ, Zt]
theorem zhw (x : VarD) : ZG (varC false x) = true := by simp [varC, ZG, noSh, cI, cS, cB, Zp]
attribute [go_sem] zph zhw
theorem zhv (l : List VarD) : xC (rows (varC false) l) = true := xe zhw l
attribute [go_sem] zhv
theorem znt : fo Tryz.prog 166 0 = some 0 := by kernel_rfl
theorem zns : fo Tryz.prog 166 1 = some 1 := by kernel_rfl
theorem zoc : isR Tryz.prog 166 = some true := by kernel_rfl
theorem znY : szT Tryz.prog 166 = 2 := by kernel_rfl
theorem znM : zeroCells Tryz.prog 166 = some [.string ⟨#[]⟩, .int .i64 0] := by kernel_rfl
theorem zoP : ZJ Tryz.prog 166 = 24 := by kernel_rfl
theorem zmP : xz Tryz.prog 166 = some [(0, 1), (1, 1)] := by kernel_rfl
attribute [go_sem] znt zns zoc znY znM zoP zmP
theorem zoH : elT Tryz.prog 113 = some 166 := by kernel_rfl
theorem zmL : isR Tryz.prog 113 = some false := by kernel_rfl
theorem zmD : szT Tryz.prog 113 = 1 := by kernel_rfl
attribute [go_sem] zoH zmL zmD
structure EffectD where
 name : ByteArray
 bits : Int
def zr (sh : Bool) (x : EffectD) : List D := [cS x.name, cI x.bits]
theorem zlW (sh : Bool) : shF (zr sh) = zr true := by funext x; simp [shF, zr, shL, shD, cI, cS, cB, yJ, Zt]
theorem zcI (x : EffectD) : ZG (zr false x) = true := by simp [zr, ZG, noSh, cI, cS, cB, Zp]
attribute [go_sem] zlW zcI
theorem zeN (l : List EffectD) : xC (rows (zr false) l) = true := xe zcI l
attribute [go_sem] zeN
theorem zke (x : InsD) (h : zgW x <= 1048576) : zx Tryz.prog 125 [.ro (insW x), .ro (insW x)] (fun rs st => rs = [(false, [cB true])]) := by
 unfold zgW at h
 refine zq (fn := Tryz.f125) (c := Tryz.f125.body.getD .skip) (res := [.tm 4]) (n := 41) ze (by kernel_rfl) (by rfl) (by kernel_rfl) (by rfl) (by rfl) (by simp [zu]) (fun C hpin hfull => ?_)
 simp +decide only [Tryz.f125, insW, bne_self_eq_false, hpin, go_sem, aD, mU]
 refine zd (ziJ x.args (by omega)) hpin ?_
 simp +decide only [bne_self_eq_false, hpin, go_sem, aD, mU]
theorem zpc (l : List InsD) (h : l.length + sumN zgW l <= 1048576) : zx Tryz.prog 43 [.ro (.imm 139 (rows (insC true) l)), .ro (.imm 139 (rows (insC true) l))] (fun rs st => rs = [(false, [cB true])]) := by
 refine zq (fn := Tryz.f43) (c := Tryz.f43.body.getD .skip) (res := [.tm 4]) (n := 27) ze (by kernel_rfl) (by rfl) (by kernel_rfl) (by rfl) (by rfl) (by simp [zu]) (fun C hpin hfull => ?_)
 simp +decide only [Tryz.f43, bne_self_eq_false, hpin, go_sem, aD, mU]
 refine Tri.loop (ι := Nat) (fun i => i <= l.length) (fun i => ⟨27, [(0, .imm 139 (rows (insC true) l)), (1, .imm 139 (rows (insC true) l)), (5, vI i)], []⟩) (fun i => l.length - i) 0 (by simp) ?_ ?_
 · refine Ent.weak ?_ ?_ ?_ ?_ <;> simp +decide [subT, subB, zj, zi, St.get, look, vI, vB]
 · rintro i hi
   refine zf ze _ ?_
   by_cases h' : i < l.length
   · have e : ((i : Int) < (l.length : Int)) = True := by simp [h']
     have hc := Zy zgW h'
     simp +decide only [e, vI, hpin, go_sem, aD, mU]
     refine Tri.sched ze [(0, true), (1, true), (4, true), (5, true), (2, true), (6, true), (3, true), (7, true), (8, false), (9, false)] zO (by kernel_rfl) (fun C2 hC2 => ?_)
     have hp2 := zP hC2 hpin
     simp +decide only [e, h', zk _ _ h', iN, vI, insC, hp2, go_sem, aD, mU]
     refine zd (zke l[i] (by omega)) hp2 ?_
     simp +decide only [insW, hp2, go_sem, aD, mU]
     refine ⟨i + 1, h', by omega, Ent.weak ?_ ?_ ?_ ?_⟩ <;> simp +decide [subT, subB, zj, zi, St.get, look, w64s (n := l.length) h' (by omega), vI, vB]
   · have hil : i = l.length := by omega
     subst hil
     have e : ((l.length : Int) < (l.length : Int)) = False := by simp
     simp +decide only [e, vI, hpin, go_sem, aD, mU]
theorem zhD (x : NodeD) (left : Int) (h0 : 0 <= left) (h1 : left < 1152921504606846976) (hs : zaj x) : zx Tryz.prog 103 [.ro (zjG x), .ro (.sc (.int .i64 left))] (fun rs st => rs = [(false, [cI (sub left (zC x))])]) := by
 refine zq (fn := Tryz.f103) (c := Tryz.f103.body.getD .skip) (res := [.tm 4]) (n := 19) ze (by kernel_rfl) (by rfl) (by kernel_rfl) (by rfl) (by rfl) (by simp [zu]) (fun C hpin hfull => ?_)
 obtain ⟨s0, s1⟩ := hs
 have w0 : IntKind.i64.wrap (left - (x.name.size : Int)) = left - x.name.size := w64 (by omega) (by omega)
 simp +decide only [Tryz.f103, zjG, w0, hpin, go_sem, aD, mU]
 by_cases h0_ : left - ((x.name.size : Nat) : Int) < 0
 · have e : sub left (zC x) = -1 := yQ (by unfold zC; omega)
   rw [e]
   simp +decide only [h0_, hpin, go_sem, aD, mU]
 have n0 : (left - ((x.name.size : Nat) : Int) < 0) = False := by simpa using h0_
 simp +decide only [n0, hpin, go_sem, aD, mU]
 refine zd (zmt x.kids (left - ((x.name.size : Nat) : Int)) (by omega) (by omega) s1) hpin ?_
 by_cases h1_ : left - ((x.name.size : Nat) : Int) - ((x.kids.length : Nat) : Int) < 0
 · have e : sub left (zC x) = -1 := yQ (by unfold zC; omega)
   rw [e]
   rw [yQ h1_]
   simp +decide only [h1_, hpin, go_sem, aD, mU]
 rw [xZ h1_]
 have n1 : (left - ((x.name.size : Nat) : Int) - ((x.kids.length : Nat) : Int) < 0) = False := by simpa using h1_
 have e : sub left (zC x) = left - ((x.name.size : Nat) : Int) - ((x.kids.length : Nat) : Int) := by rw [xZ (by unfold zC; omega)]; unfold zC; omega
 rw [e]
 simp +decide only [n1, hpin, go_sem, aD, mU]
theorem zgq (l : List NodeD) (left : Int) (h0 : 0 <= left) (h1 : left < 1152921504606846976) (hl : l.length < 1152921504606846976) (hs : ∀ y ∈ l, zaj y) : zx Tryz.prog 32 [.ro (.imm 126 (rows zcf l)), .ro (.sc (.int .i64 left))] (fun rs st => rs = [(false, [cI (sub left (l.length + sumN zC l))])]) := by
 refine zq (fn := Tryz.f32) (c := Tryz.f32.body.getD .skip) (res := [.tm 4]) (n := 27) ze (by kernel_rfl) (by rfl) (by kernel_rfl) (by rfl) (by rfl) (by simp [zu]) (fun C hpin hfull => ?_)
 have w0 : IntKind.i64.wrap (left - (l.length : Int)) = left - l.length := w64 (by omega) (by omega)
 simp +decide only [Tryz.f32, w0, hpin, go_sem, aD, mU]
 by_cases hn : left - (l.length : Int) < 0
 · have e : sub left (l.length + sumN zC l) = -1 := yQ (by omega)
   rw [e]
   simp +decide only [hn, hpin, go_sem, aD, mU]
 have nn : (left - (l.length : Int) < 0) = False := by simpa using hn
 simp +decide only [nn, hpin, go_sem, aD, mU]
 refine Tri.loop (ι := Nat) (fun i => i <= l.length /\ 0 <= left - l.length - (sumN zC (l.take i) : Nat)) (fun i => ⟨27, [(0, .imm 126 (rows zcf l)), (1, vI (left - l.length - (sumN zC (l.take i) : Nat))), (5, vI i)], []⟩) (fun i => l.length - i) 0 ⟨Nat.zero_le _, by rw [zgr]; omega⟩ ?_ ?_
 · refine Ent.weak ?_ ?_ ?_ ?_ <;> simp +decide [subT, subB, zj, zi, zm, St.get, look, vI, vB, vS, sumN]
 · rintro i ⟨hi, hp⟩
   refine zf ze _ ?_
   by_cases h : i < l.length
   · have e : ((i : Int) < (l.length : Int)) = True := by simp [h]
     simp +decide only [e, zk _ _ h, iN, vI, zcf, hpin, go_sem, aD, mU]
     refine zd (zhD l[i] (left - l.length - (sumN zC (l.take i) : Nat)) hp (by omega) (hs _ (lM h))) hpin ?_
     have hle := Yd zC l (i + 1)
     have htk := xw zC l h
     by_cases h3 : left - l.length - (sumN zC (l.take i) : Nat) - ((zC l[i] : Nat) : Int) < 0
     · have e : sub left (l.length + sumN zC l) = -1 := yQ (by omega)
       rw [e, yQ h3]
       simp +decide only [zjG, hpin, go_sem, aD, mU]
     · rw [xZ h3]
       have n3 : (left - l.length - (sumN zC (l.take i) : Nat) - ((zC l[i] : Nat) : Int) < 0) = False := by simpa using h3
       simp +decide only [n3, zjG, hpin, go_sem, aD, mU]
       have e4 : left - l.length - (sumN zC (l.take i) : Nat) - ((zC l[i] : Nat) : Int) = left - l.length - (sumN zC (l.take (i + 1)) : Nat) := by omega
       rw [e4]
       exact ⟨i + 1, ⟨h, by omega⟩, by omega, Ent.weak (by simp +decide [subT, St.get, look, w64s (n := l.length) h (by omega), vI]) (by simp [subB]) (by simp) (by simp [zj, zi, vI])⟩
   · have hil : i = l.length := by omega
     subst hil
     have e : ((l.length : Int) < (l.length : Int)) = False := by simp
     have e2 : sub left (l.length + sumN zC l) = left - l.length - (sumN zC l : Nat) := by
      rw [List.take_length] at hp
      rw [xZ (by omega)]; omega
     rw [e2]
     simp +decide only [e, vI, hpin, go_sem, aD, mU]
theorem zhA (x : NodeD) (h : zC x <= 1048576) : zx Tryz.prog 114 [.ro (zjG x)] (fun rs st => rs = [(true, zg false x)]) := by
 unfold zC at h
 refine zq (fn := Tryz.f114) (c := Tryz.f114.body.getD .skip) (res := [.ce 2 83]) (n := 18) ze (by kernel_rfl) (by rfl) (by kernel_rfl) (by rfl) (by rfl) (by simp [zu]) (fun C hpin hfull => ?_)
 simp +decide only [Tryz.f114, zjG, hpin, go_sem, aD, mU]
 refine zd (zmp x.kids (by omega)) hpin ?_
 simp +decide only [zg, hpin, go_sem, aD, mU]
theorem zgk (l : List NodeD) (h : l.length + sumN zC l <= 1048576) : zx Tryz.prog 37 [.ro (.imm 126 (rows zcf l))] (fun rs st => rs = [(false, [.row false 83 (rows (zg false) l)])]) := by
 refine zq (fn := Tryz.f37) (c := Tryz.f37.body.getD .skip) (res := [.tm 2]) (n := 23) ze (by kernel_rfl) (by rfl) (by kernel_rfl) (by rfl) (by rfl) (by simp [zu]) (fun C hpin hfull => ?_)
 have e1 : (56 : Nat) * (l.length : Int) <= 281474976710656 := by omega
 simp +decide only [Tryz.f37, hpin, go_sem, aD, mU]
 refine ⟨by omega, by omega, by omega, ?_⟩
 let Z : List D := [.sc (.int .i64 0), .sc (.int .i64 0), .sc (.string ⟨#[]⟩), .sc (.slice none 0 0)]
 refine Tri.loop (ι := Nat) (fun i => i <= l.length) (fun i => ⟨23, [(0, .imm 126 (rows zcf l)), (2, .ref 2 [] 0), (3, .ref 3 [] l.length), (4, vI i)], [(3, .row 83 (zbL (zg false) Z l i)), (2, .row 83 [])]⟩) (fun i => l.length - i) 0 (by simp) ?_ ?_
 · refine Ent.weak ?_ ?_ ?_ ?_ <;> simp +decide [subT, subB, zj, zi, St.get, look, vI, vB, Z, zco]
 · rintro i hi
   refine zf ze _ ?_
   by_cases h' : i < l.length
   · have e : ((i : Int) < (l.length : Int)) = True := by simp [h']
     have hc := Zy zC h'
     simp +decide only [e, h', zk _ _ h', iN, vI, zcf, hpin, go_sem, aD, mU]
     refine zd (zhA l[i] (by omega)) hpin ?_
     simp +decide only [e, h', zjG, zg, Zh (zg false) Z l hi, zeK (zg false) Z l h', iN, Z, hpin, go_sem, aD, mU]
     have e4 := zeJ (zg false) Z l h'
     simp only [zg, cI, cS, cB] at e4
     refine ⟨i + 1, h', by omega, Ent.weak ?_ ?_ ?_ ?_⟩
     · simp +decide [subT, St.get, look, w64s (n := l.length) h' (by omega), vI, vB]
     · simp +decide [subB, look, e4, cI, Z]
     all_goals simp +decide [zj, zi, look, vI]
   · have hil : i = l.length := by omega
     subst hil
     have e : ((l.length : Int) < (l.length : Int)) = False := by simp
     simp +decide only [e, Zh (zg false) Z l (Nat.le_refl _), zeL, vI, hpin, go_sem, aD, mU]
theorem ziI (x : NodeD) (h : zC x <= 1048576) : zx Tryz.prog 126 [.ro (zo x), .ro (zo x)] (fun rs st => rs = [(false, [cB true])]) := by
 unfold zC at h
 refine zq (fn := Tryz.f126) (c := Tryz.f126.body.getD .skip) (res := [.tm 4]) (n := 26) ze (by kernel_rfl) (by rfl) (by kernel_rfl) (by rfl) (by rfl) (by simp [zu]) (fun C hpin hfull => ?_)
 simp +decide only [Tryz.f126, zo, bne_self_eq_false, hpin, go_sem, aD, mU]
 refine zd (ziJ x.kids (by omega)) hpin ?_
 simp +decide only [bne_self_eq_false, hpin, go_sem, aD, mU]
theorem zhg (l : List NodeD) (h : l.length + sumN zC l <= 1048576) : zx Tryz.prog 44 [.ro (.imm 83 (rows (zg true) l)), .ro (.imm 83 (rows (zg true) l))] (fun rs st => rs = [(false, [cB true])]) := by
 refine zq (fn := Tryz.f44) (c := Tryz.f44.body.getD .skip) (res := [.tm 4]) (n := 27) ze (by kernel_rfl) (by rfl) (by kernel_rfl) (by rfl) (by rfl) (by simp [zu]) (fun C hpin hfull => ?_)
 simp +decide only [Tryz.f44, bne_self_eq_false, hpin, go_sem, aD, mU]
 refine Tri.loop (ι := Nat) (fun i => i <= l.length) (fun i => ⟨27, [(0, .imm 83 (rows (zg true) l)), (1, .imm 83 (rows (zg true) l)), (5, vI i)], []⟩) (fun i => l.length - i) 0 (by simp) ?_ ?_
 · refine Ent.weak ?_ ?_ ?_ ?_ <;> simp +decide [subT, subB, zj, zi, St.get, look, vI, vB]
 · rintro i hi
   refine zf ze _ ?_
   by_cases h' : i < l.length
   · have e : ((i : Int) < (l.length : Int)) = True := by simp [h']
     have hc := Zy zC h'
     simp +decide only [e, vI, hpin, go_sem, aD, mU]
     refine Tri.sched ze [(0, true), (1, true), (4, true), (5, true), (2, true), (6, true), (3, true), (7, true), (8, false), (9, false)] zO (by kernel_rfl) (fun C2 hC2 => ?_)
     have hp2 := zP hC2 hpin
     simp +decide only [e, h', zk _ _ h', iN, vI, zg, hp2, go_sem, aD, mU]
     refine zd (ziI l[i] (by omega)) hp2 ?_
     simp +decide only [zo, hp2, go_sem, aD, mU]
     refine ⟨i + 1, h', by omega, Ent.weak ?_ ?_ ?_ ?_⟩ <;> simp +decide [subT, subB, zj, zi, St.get, look, w64s (n := l.length) h' (by omega), vI, vB]
   · have hil : i = l.length := by omega
     subst hil
     have e : ((l.length : Int) < (l.length : Int)) = False := by simp
     simp +decide only [e, vI, hpin, go_sem, aD, mU]
theorem zgp (x : ParamD) (left : Int) (h0 : 0 <= left) (h1 : left < 1152921504606846976) (hs : ZV x) : zx Tryz.prog 193 [.ro (zdV x), .ro (.sc (.int .i64 left))] (fun rs st => rs = [(false, [cI (sub left (zK x))])]) := by
 refine zq (fn := Tryz.f193) (c := Tryz.f193.body.getD .skip) (res := [.tm 4]) (n := 13) ze (by kernel_rfl) (by rfl) (by kernel_rfl) (by rfl) (by rfl) (by simp [zu]) (fun C hpin hfull => ?_)
 have s0 := hs
 unfold ZV at s0
 have w0 : IntKind.i64.wrap (left - (x.name.size : Int)) = left - x.name.size := w64 (by omega) (by omega)
 simp +decide only [Tryz.f193, zdV, w0, hpin, go_sem, aD, mU]
 by_cases h0_ : left - ((x.name.size : Nat) : Int) < 0
 · have e : sub left (zK x) = -1 := yQ (by unfold zK; omega)
   rw [e]
   simp +decide only [h0_, hpin, go_sem, aD, mU]
 have n0 : (left - ((x.name.size : Nat) : Int) < 0) = False := by simpa using h0_
 have e : sub left (zK x) = left - ((x.name.size : Nat) : Int) := by rw [xZ (by unfold zK; omega)]; unfold zK; omega
 rw [e]
 simp +decide only [n0, hpin, go_sem, aD, mU]
theorem zfh (l : List ParamD) (left : Int) (h0 : 0 <= left) (h1 : left < 1152921504606846976) (hl : l.length < 1152921504606846976) (hs : ∀ y ∈ l, ZV y) : zx Tryz.prog 163 [.ro (.imm 188 (rows YT l)), .ro (.sc (.int .i64 left))] (fun rs st => rs = [(false, [cI (sub left (l.length + sumN zK l))])]) := by
 refine zq (fn := Tryz.f163) (c := Tryz.f163.body.getD .skip) (res := [.tm 4]) (n := 27) ze (by kernel_rfl) (by rfl) (by kernel_rfl) (by rfl) (by rfl) (by simp [zu]) (fun C hpin hfull => ?_)
 have w0 : IntKind.i64.wrap (left - (l.length : Int)) = left - l.length := w64 (by omega) (by omega)
 simp +decide only [Tryz.f163, w0, hpin, go_sem, aD, mU]
 by_cases hn : left - (l.length : Int) < 0
 · have e : sub left (l.length + sumN zK l) = -1 := yQ (by omega)
   rw [e]
   simp +decide only [hn, hpin, go_sem, aD, mU]
 have nn : (left - (l.length : Int) < 0) = False := by simpa using hn
 simp +decide only [nn, hpin, go_sem, aD, mU]
 refine Tri.loop (ι := Nat) (fun i => i <= l.length /\ 0 <= left - l.length - (sumN zK (l.take i) : Nat)) (fun i => ⟨27, [(0, .imm 188 (rows YT l)), (1, vI (left - l.length - (sumN zK (l.take i) : Nat))), (5, vI i)], []⟩) (fun i => l.length - i) 0 ⟨Nat.zero_le _, by rw [zgr]; omega⟩ ?_ ?_
 · refine Ent.weak ?_ ?_ ?_ ?_ <;> simp +decide [subT, subB, zj, zi, zm, St.get, look, vI, vB, vS, sumN]
 · rintro i ⟨hi, hp⟩
   refine zf ze _ ?_
   by_cases h : i < l.length
   · have e : ((i : Int) < (l.length : Int)) = True := by simp [h]
     simp +decide only [e, zk _ _ h, iN, vI, YT, hpin, go_sem, aD, mU]
     refine zd (zgp l[i] (left - l.length - (sumN zK (l.take i) : Nat)) hp (by omega) (hs _ (lM h))) hpin ?_
     have hle := Yd zK l (i + 1)
     have htk := xw zK l h
     by_cases h3 : left - l.length - (sumN zK (l.take i) : Nat) - ((zK l[i] : Nat) : Int) < 0
     · have e : sub left (l.length + sumN zK l) = -1 := yQ (by omega)
       rw [e, yQ h3]
       simp +decide only [zdV, hpin, go_sem, aD, mU]
     · rw [xZ h3]
       have n3 : (left - l.length - (sumN zK (l.take i) : Nat) - ((zK l[i] : Nat) : Int) < 0) = False := by simpa using h3
       simp +decide only [n3, zdV, hpin, go_sem, aD, mU]
       have e4 : left - l.length - (sumN zK (l.take i) : Nat) - ((zK l[i] : Nat) : Int) = left - l.length - (sumN zK (l.take (i + 1)) : Nat) := by omega
       rw [e4]
       exact ⟨i + 1, ⟨h, by omega⟩, by omega, Ent.weak (by simp +decide [subT, St.get, look, w64s (n := l.length) h (by omega), vI]) (by simp [subB]) (by simp) (by simp [zj, zi, vI])⟩
   · have hil : i = l.length := by omega
     subst hil
     have e : ((l.length : Int) < (l.length : Int)) = False := by simp
     have e2 : sub left (l.length + sumN zK l) = left - l.length - (sumN zK l : Nat) := by
      rw [List.take_length] at hp
      rw [xZ (by omega)]; omega
     rw [e2]
     simp +decide only [e, vI, hpin, go_sem, aD, mU]
theorem zgj (x : ParamD) (h : zK x <= 1048576) : zx Tryz.prog 203 [.ro (zdV x)] (fun rs st => rs = [(true, zn false x)]) := by
 unfold zK at h
 refine zq (fn := Tryz.f203) (c := Tryz.f203.body.getD .skip) (res := [.ce 2 107]) (n := 11) ze (by kernel_rfl) (by rfl) (by kernel_rfl) (by rfl) (by rfl) (by simp [zu]) (fun C hpin hfull => ?_)
 simp +decide only [Tryz.f203, zdV, zn, hpin, go_sem, aD, mU]
theorem zfg (l : List ParamD) (h : l.length + sumN zK l <= 1048576) : zx Tryz.prog 174 [.ro (.imm 188 (rows YT l))] (fun rs st => rs = [(false, [.row false 107 (rows (zn false) l)])]) := by
 refine zq (fn := Tryz.f174) (c := Tryz.f174.body.getD .skip) (res := [.tm 2]) (n := 23) ze (by kernel_rfl) (by rfl) (by kernel_rfl) (by rfl) (by rfl) (by simp [zu]) (fun C hpin hfull => ?_)
 have e1 : (24 : Nat) * (l.length : Int) <= 281474976710656 := by omega
 simp +decide only [Tryz.f174, hpin, go_sem, aD, mU]
 refine ⟨by omega, by omega, by omega, ?_⟩
 let Z : List D := [.sc (.string ⟨#[]⟩), .sc (.int .i64 0)]
 refine Tri.loop (ι := Nat) (fun i => i <= l.length) (fun i => ⟨23, [(0, .imm 188 (rows YT l)), (2, .ref 2 [] 0), (3, .ref 3 [] l.length), (4, vI i)], [(3, .row 107 (zbL (zn false) Z l i)), (2, .row 107 [])]⟩) (fun i => l.length - i) 0 (by simp) ?_ ?_
 · refine Ent.weak ?_ ?_ ?_ ?_ <;> simp +decide [subT, subB, zj, zi, St.get, look, vI, vB, Z, zco]
 · rintro i hi
   refine zf ze _ ?_
   by_cases h' : i < l.length
   · have e : ((i : Int) < (l.length : Int)) = True := by simp [h']
     have hc := Zy zK h'
     simp +decide only [e, h', zk _ _ h', iN, vI, YT, hpin, go_sem, aD, mU]
     refine zd (zgj l[i] (by omega)) hpin ?_
     simp +decide only [e, h', zdV, zn, Zh (zn false) Z l hi, zeK (zn false) Z l h', iN, Z, hpin, go_sem, aD, mU]
     have e4 := zeJ (zn false) Z l h'
     simp only [zn, cI, cS, cB] at e4
     refine ⟨i + 1, h', by omega, Ent.weak ?_ ?_ ?_ ?_⟩
     · simp +decide [subT, St.get, look, w64s (n := l.length) h' (by omega), vI, vB]
     · simp +decide [subB, look, e4, cI, Z]
     all_goals simp +decide [zj, zi, look, vI]
   · have hil : i = l.length := by omega
     subst hil
     have e : ((l.length : Int) < (l.length : Int)) = False := by simp
     simp +decide only [e, Zh (zn false) Z l (Nat.le_refl _), zeL, vI, hpin, go_sem, aD, mU]
theorem zhf (x : ParamD) (h : zK x <= 1048576) : zx Tryz.prog 209 [.ro (zkH x), .ro (zkH x)] (fun rs st => rs = [(false, [cB true])]) := by
 unfold zK at h
 refine zq (fn := Tryz.f209) (c := Tryz.f209.body.getD .skip) (res := [.tm 4]) (n := 15) ze (by kernel_rfl) (by rfl) (by kernel_rfl) (by rfl) (by rfl) (by simp [zu]) (fun C hpin hfull => ?_)
 simp +decide only [Tryz.f209, zkH, bne_self_eq_false, hpin, go_sem, aD, mU]
theorem zfu (l : List ParamD) (h : l.length + sumN zK l <= 1048576) : zx Tryz.prog 183 [.ro (.imm 107 (rows (zn true) l)), .ro (.imm 107 (rows (zn true) l))] (fun rs st => rs = [(false, [cB true])]) := by
 refine zq (fn := Tryz.f183) (c := Tryz.f183.body.getD .skip) (res := [.tm 4]) (n := 27) ze (by kernel_rfl) (by rfl) (by kernel_rfl) (by rfl) (by rfl) (by simp [zu]) (fun C hpin hfull => ?_)
 simp +decide only [Tryz.f183, bne_self_eq_false, hpin, go_sem, aD, mU]
 refine Tri.loop (ι := Nat) (fun i => i <= l.length) (fun i => ⟨27, [(0, .imm 107 (rows (zn true) l)), (1, .imm 107 (rows (zn true) l)), (5, vI i)], []⟩) (fun i => l.length - i) 0 (by simp) ?_ ?_
 · refine Ent.weak ?_ ?_ ?_ ?_ <;> simp +decide [subT, subB, zj, zi, St.get, look, vI, vB]
 · rintro i hi
   refine zf ze _ ?_
   by_cases h' : i < l.length
   · have e : ((i : Int) < (l.length : Int)) = True := by simp [h']
     have hc := Zy zK h'
     simp +decide only [e, vI, hpin, go_sem, aD, mU]
     refine Tri.sched ze [(0, true), (1, true), (4, true), (5, true), (2, true), (6, true), (3, true), (7, true), (8, false), (9, false)] zO (by kernel_rfl) (fun C2 hC2 => ?_)
     have hp2 := zP hC2 hpin
     simp +decide only [e, h', zk _ _ h', iN, vI, zn, hp2, go_sem, aD, mU]
     refine zd (zhf l[i] (by omega)) hp2 ?_
     simp +decide only [zkH, hp2, go_sem, aD, mU]
     refine ⟨i + 1, h', by omega, Ent.weak ?_ ?_ ?_ ?_⟩ <;> simp +decide [subT, subB, zj, zi, St.get, look, w64s (n := l.length) h' (by omega), vI, vB]
   · have hil : i = l.length := by omega
     subst hil
     have e : ((l.length : Int) < (l.length : Int)) = False := by simp
     simp +decide only [e, vI, hpin, go_sem, aD, mU]
theorem zlp (x : FnD) (left : Int) (h0 : 0 <= left) (h1 : left < 1152921504606846976) (hs : zeE x) : zx Tryz.prog 104 [.ro (fnV x), .ro (.sc (.int .i64 left))] (fun rs st => rs = [(false, [cI (sub left (ya x))])]) := by
 refine zq (fn := Tryz.f104) (c := Tryz.f104.body.getD .skip) (res := [.tm 4]) (n := 19) ze (by kernel_rfl) (by rfl) (by kernel_rfl) (by rfl) (by rfl) (by simp [zu]) (fun C hpin hfull => ?_)
 obtain ⟨s0, s1, q1⟩ := hs
 have w0 : IntKind.i64.wrap (left - (x.name.size : Int)) = left - x.name.size := w64 (by omega) (by omega)
 simp +decide only [Tryz.f104, fnV, w0, hpin, go_sem, aD, mU]
 by_cases h0_ : left - ((x.name.size : Nat) : Int) < 0
 · have e : sub left (ya x) = -1 := yQ (by unfold ya; omega)
   rw [e]
   simp +decide only [h0_, hpin, go_sem, aD, mU]
 have n0 : (left - ((x.name.size : Nat) : Int) < 0) = False := by simpa using h0_
 simp +decide only [n0, hpin, go_sem, aD, mU]
 refine zd (zfh x.params (left - ((x.name.size : Nat) : Int)) (by omega) (by omega) s1 q1) hpin ?_
 by_cases h1_ : left - ((x.name.size : Nat) : Int) - (((x.params.length + sumN zK x.params) : Nat) : Int) < 0
 · have e : sub left (ya x) = -1 := yQ (by unfold ya; omega)
   rw [e]
   rw [yQ h1_]
   simp +decide only [h1_, hpin, go_sem, aD, mU]
 rw [xZ h1_]
 have n1 : (left - ((x.name.size : Nat) : Int) - (((x.params.length + sumN zK x.params) : Nat) : Int) < 0) = False := by simpa using h1_
 have e : sub left (ya x) = left - ((x.name.size : Nat) : Int) - (((x.params.length + sumN zK x.params) : Nat) : Int) := by rw [xZ (by unfold ya; omega)]; unfold ya; omega
 rw [e]
 simp +decide only [n1, hpin, go_sem, aD, mU]
theorem zjn (l : List FnD) (left : Int) (h0 : 0 <= left) (h1 : left < 1152921504606846976) (hl : l.length < 1152921504606846976) (hs : ∀ y ∈ l, zeE y) : zx Tryz.prog 33 [.ro (.imm 130 (rows fnL l)), .ro (.sc (.int .i64 left))] (fun rs st => rs = [(false, [cI (sub left (l.length + sumN ya l))])]) := by
 refine zq (fn := Tryz.f33) (c := Tryz.f33.body.getD .skip) (res := [.tm 4]) (n := 27) ze (by kernel_rfl) (by rfl) (by kernel_rfl) (by rfl) (by rfl) (by simp [zu]) (fun C hpin hfull => ?_)
 have w0 : IntKind.i64.wrap (left - (l.length : Int)) = left - l.length := w64 (by omega) (by omega)
 simp +decide only [Tryz.f33, w0, hpin, go_sem, aD, mU]
 by_cases hn : left - (l.length : Int) < 0
 · have e : sub left (l.length + sumN ya l) = -1 := yQ (by omega)
   rw [e]
   simp +decide only [hn, hpin, go_sem, aD, mU]
 have nn : (left - (l.length : Int) < 0) = False := by simpa using hn
 simp +decide only [nn, hpin, go_sem, aD, mU]
 refine Tri.loop (ι := Nat) (fun i => i <= l.length /\ 0 <= left - l.length - (sumN ya (l.take i) : Nat)) (fun i => ⟨27, [(0, .imm 130 (rows fnL l)), (1, vI (left - l.length - (sumN ya (l.take i) : Nat))), (5, vI i)], []⟩) (fun i => l.length - i) 0 ⟨Nat.zero_le _, by rw [zgr]; omega⟩ ?_ ?_
 · refine Ent.weak ?_ ?_ ?_ ?_ <;> simp +decide [subT, subB, zj, zi, zm, St.get, look, vI, vB, vS, sumN]
 · rintro i ⟨hi, hp⟩
   refine zf ze _ ?_
   by_cases h : i < l.length
   · have e : ((i : Int) < (l.length : Int)) = True := by simp [h]
     simp +decide only [e, zk _ _ h, iN, vI, fnL, hpin, go_sem, aD, mU]
     refine zd (zlp l[i] (left - l.length - (sumN ya (l.take i) : Nat)) hp (by omega) (hs _ (lM h))) hpin ?_
     have hle := Yd ya l (i + 1)
     have htk := xw ya l h
     by_cases h3 : left - l.length - (sumN ya (l.take i) : Nat) - ((ya l[i] : Nat) : Int) < 0
     · have e : sub left (l.length + sumN ya l) = -1 := yQ (by omega)
       rw [e, yQ h3]
       simp +decide only [fnV, hpin, go_sem, aD, mU]
     · rw [xZ h3]
       have n3 : (left - l.length - (sumN ya (l.take i) : Nat) - ((ya l[i] : Nat) : Int) < 0) = False := by simpa using h3
       simp +decide only [n3, fnV, hpin, go_sem, aD, mU]
       have e4 : left - l.length - (sumN ya (l.take i) : Nat) - ((ya l[i] : Nat) : Int) = left - l.length - (sumN ya (l.take (i + 1)) : Nat) := by omega
       rw [e4]
       exact ⟨i + 1, ⟨h, by omega⟩, by omega, Ent.weak (by simp +decide [subT, St.get, look, w64s (n := l.length) h (by omega), vI]) (by simp [subB]) (by simp) (by simp [zj, zi, vI])⟩
   · have hil : i = l.length := by omega
     subst hil
     have e : ((l.length : Int) < (l.length : Int)) = False := by simp
     have e2 : sub left (l.length + sumN ya l) = left - l.length - (sumN ya l : Nat) := by
      rw [List.take_length] at hp
      rw [xZ (by omega)]; omega
     rw [e2]
     simp +decide only [e, vI, hpin, go_sem, aD, mU]
theorem zlo (x : FnD) (h : ya x <= 1048576) : zx Tryz.prog 115 [.ro (fnV x)] (fun rs st => rs = [(true, fnC false x)]) := by
 unfold ya at h
 refine zq (fn := Tryz.f115) (c := Tryz.f115.body.getD .skip) (res := [.ce 2 104]) (n := 21) ze (by kernel_rfl) (by rfl) (by kernel_rfl) (by rfl) (by rfl) (by simp [zu]) (fun C hpin hfull => ?_)
 simp +decide only [Tryz.f115, fnV, hpin, go_sem, aD, mU]
 refine zd (zfg x.params (by omega)) hpin ?_
 simp +decide only [fnC, hpin, go_sem, aD, mU]
theorem zjm (l : List FnD) (h : l.length + sumN ya l <= 1048576) : zx Tryz.prog 38 [.ro (.imm 130 (rows fnL l))] (fun rs st => rs = [(false, [.row false 104 (rows (fnC false) l)])]) := by
 refine zq (fn := Tryz.f38) (c := Tryz.f38.body.getD .skip) (res := [.tm 2]) (n := 23) ze (by kernel_rfl) (by rfl) (by kernel_rfl) (by rfl) (by rfl) (by simp [zu]) (fun C hpin hfull => ?_)
 have e1 : (64 : Nat) * (l.length : Int) <= 281474976710656 := by omega
 simp +decide only [Tryz.f38, hpin, go_sem, aD, mU]
 refine ⟨by omega, by omega, by omega, ?_⟩
 let Z : List D := [.sc (.string ⟨#[]⟩), .sc (.slice none 0 0), .sc (.int .i64 0), .sc (.int .i64 0), .sc (.int .i64 0)]
 refine Tri.loop (ι := Nat) (fun i => i <= l.length) (fun i => ⟨23, [(0, .imm 130 (rows fnL l)), (2, .ref 2 [] 0), (3, .ref 3 [] l.length), (4, vI i)], [(3, .row 104 (zbL (fnC false) Z l i)), (2, .row 104 [])]⟩) (fun i => l.length - i) 0 (by simp) ?_ ?_
 · refine Ent.weak ?_ ?_ ?_ ?_ <;> simp +decide [subT, subB, zj, zi, St.get, look, vI, vB, Z, zco]
 · rintro i hi
   refine zf ze _ ?_
   by_cases h' : i < l.length
   · have e : ((i : Int) < (l.length : Int)) = True := by simp [h']
     have hc := Zy ya h'
     simp +decide only [e, h', zk _ _ h', iN, vI, fnL, hpin, go_sem, aD, mU]
     refine zd (zlo l[i] (by omega)) hpin ?_
     simp +decide only [e, h', fnV, fnC, Zh (fnC false) Z l hi, zeK (fnC false) Z l h', iN, Z, hpin, go_sem, aD, mU]
     have e4 := zeJ (fnC false) Z l h'
     simp only [fnC, cI, cS, cB] at e4
     refine ⟨i + 1, h', by omega, Ent.weak ?_ ?_ ?_ ?_⟩
     · simp +decide [subT, St.get, look, w64s (n := l.length) h' (by omega), vI, vB]
     · simp +decide [subB, look, e4, cI, Z]
     all_goals simp +decide [zj, zi, look, vI]
   · have hil : i = l.length := by omega
     subst hil
     have e : ((l.length : Int) < (l.length : Int)) = False := by simp
     simp +decide only [e, Zh (fnC false) Z l (Nat.le_refl _), zeL, vI, hpin, go_sem, aD, mU]
theorem zlV (x : FnD) (h : ya x <= 1048576) : zx Tryz.prog 127 [.ro (fnW x), .ro (fnW x)] (fun rs st => rs = [(false, [cB true])]) := by
 unfold ya at h
 refine zq (fn := Tryz.f127) (c := Tryz.f127.body.getD .skip) (res := [.tm 4]) (n := 31) ze (by kernel_rfl) (by rfl) (by kernel_rfl) (by rfl) (by rfl) (by simp [zu]) (fun C hpin hfull => ?_)
 simp +decide only [Tryz.f127, fnW, bne_self_eq_false, hpin, go_sem, aD, mU]
 refine zd (zfu x.params (by omega)) hpin ?_
 simp +decide only [bne_self_eq_false, hpin, go_sem, aD, mU]
theorem zkf (l : List FnD) (h : l.length + sumN ya l <= 1048576) : zx Tryz.prog 45 [.ro (.imm 104 (rows (fnC true) l)), .ro (.imm 104 (rows (fnC true) l))] (fun rs st => rs = [(false, [cB true])]) := by
 refine zq (fn := Tryz.f45) (c := Tryz.f45.body.getD .skip) (res := [.tm 4]) (n := 27) ze (by kernel_rfl) (by rfl) (by kernel_rfl) (by rfl) (by rfl) (by simp [zu]) (fun C hpin hfull => ?_)
 simp +decide only [Tryz.f45, bne_self_eq_false, hpin, go_sem, aD, mU]
 refine Tri.loop (ι := Nat) (fun i => i <= l.length) (fun i => ⟨27, [(0, .imm 104 (rows (fnC true) l)), (1, .imm 104 (rows (fnC true) l)), (5, vI i)], []⟩) (fun i => l.length - i) 0 (by simp) ?_ ?_
 · refine Ent.weak ?_ ?_ ?_ ?_ <;> simp +decide [subT, subB, zj, zi, St.get, look, vI, vB]
 · rintro i hi
   refine zf ze _ ?_
   by_cases h' : i < l.length
   · have e : ((i : Int) < (l.length : Int)) = True := by simp [h']
     have hc := Zy ya h'
     simp +decide only [e, vI, hpin, go_sem, aD, mU]
     refine Tri.sched ze [(0, true), (1, true), (4, true), (5, true), (2, true), (6, true), (3, true), (7, true), (8, false), (9, false)] zO (by kernel_rfl) (fun C2 hC2 => ?_)
     have hp2 := zP hC2 hpin
     simp +decide only [e, h', zk _ _ h', iN, vI, fnC, hp2, go_sem, aD, mU]
     refine zd (zlV l[i] (by omega)) hp2 ?_
     simp +decide only [fnW, hp2, go_sem, aD, mU]
     refine ⟨i + 1, h', by omega, Ent.weak ?_ ?_ ?_ ?_⟩ <;> simp +decide [subT, subB, zj, zi, St.get, look, w64s (n := l.length) h' (by omega), vI, vB]
   · have hil : i = l.length := by omega
     subst hil
     have e : ((l.length : Int) < (l.length : Int)) = False := by simp
     simp +decide only [e, vI, hpin, go_sem, aD, mU]
theorem zdz (x : ProgramD) (left : Int) (h0 : 0 <= left) (h1 : left < 1152921504606846976) (hs : Yw x) : zx Tryz.prog 9 [.ro (zE x), .ro (.sc (.int .i64 left))] (fun rs st => rs = [(false, [cI (sub left (zF x))])]) := by
 refine zq (fn := Tryz.f9) (c := Tryz.f9.body.getD .skip) (res := [.tm 4]) (n := 18) ze (by kernel_rfl) (by rfl) (by kernel_rfl) (by rfl) (by rfl) (by simp [zu]) (fun C hpin hfull => ?_)
 obtain ⟨s0, q0, s1, q1⟩ := hs
 simp +decide only [Tryz.f9, zE, hpin, go_sem, aD, mU]
 refine zd (zgq x.nodes (left) (by omega) (by omega) s0 q0) hpin ?_
 by_cases h0_ : left - (((x.nodes.length + sumN zC x.nodes) : Nat) : Int) < 0
 · have e : sub left (zF x) = -1 := yQ (by unfold zF; omega)
   rw [e]
   rw [yQ h0_]
   simp +decide only [h0_, hpin, go_sem, aD, mU]
 rw [xZ h0_]
 have n0 : (left - (((x.nodes.length + sumN zC x.nodes) : Nat) : Int) < 0) = False := by simpa using h0_
 simp +decide only [n0, hpin, go_sem, aD, mU]
 refine zd (zjn x.fns (left - (((x.nodes.length + sumN zC x.nodes) : Nat) : Int)) (by omega) (by omega) s1 q1) hpin ?_
 by_cases h1_ : left - (((x.nodes.length + sumN zC x.nodes) : Nat) : Int) - (((x.fns.length + sumN ya x.fns) : Nat) : Int) < 0
 · have e : sub left (zF x) = -1 := yQ (by unfold zF; omega)
   rw [e]
   rw [yQ h1_]
   simp +decide only [h1_, hpin, go_sem, aD, mU]
 rw [xZ h1_]
 have n1 : (left - (((x.nodes.length + sumN zC x.nodes) : Nat) : Int) - (((x.fns.length + sumN ya x.fns) : Nat) : Int) < 0) = False := by simpa using h1_
 have e : sub left (zF x) = left - (((x.nodes.length + sumN zC x.nodes) : Nat) : Int) - (((x.fns.length + sumN ya x.fns) : Nat) : Int) := by rw [xZ (by unfold zF; omega)]; unfold zF; omega
 rw [e]
 simp +decide only [n1, hpin, go_sem, aD, mU]
theorem Zk (x : ProgramD) (h : zF x <= 1048576) : zx Tryz.prog 11 [.ro (zE x)] (fun rs st => rs = [(true, za false x)]) := by
 unfold zF at h
 refine zq (fn := Tryz.f11) (c := Tryz.f11.body.getD .skip) (res := [.ce 2 36]) (n := 13) ze (by kernel_rfl) (by rfl) (by kernel_rfl) (by rfl) (by rfl) (by simp [zu]) (fun C hpin hfull => ?_)
 simp +decide only [Tryz.f11, zE, hpin, go_sem, aD, mU]
 refine zd (zgk x.nodes (by omega)) hpin ?_
 simp +decide only [hpin, go_sem, aD, mU]
 refine zd (zjm x.fns (by omega)) hpin ?_
 simp +decide only [za, hpin, go_sem, aD, mU]
theorem Zq (x : ProgramD) (h : zF x <= 1048576) : zx Tryz.prog 14 [.ro (zb x), .ro (zb x)] (fun rs st => rs = [(false, [cB true])]) := by
 unfold zF at h
 refine zq (fn := Tryz.f14) (c := Tryz.f14.body.getD .skip) (res := [.tm 4]) (n := 17) ze (by kernel_rfl) (by rfl) (by kernel_rfl) (by rfl) (by rfl) (by simp [zu]) (fun C hpin hfull => ?_)
 simp +decide only [Tryz.f14, zb, bne_self_eq_false, hpin, go_sem, aD, mU]
 refine zd (zhg x.nodes (by omega)) hpin ?_
 simp +decide only [bne_self_eq_false, hpin, go_sem, aD, mU]
 refine zd (zkf x.fns (by omega)) hpin ?_
 simp +decide only [bne_self_eq_false, hpin, go_sem, aD, mU]
theorem oInt : Opens Tryz.prog 3 (fun n : Int => [cI n]) (fun n => (Lit.int .i64 n).wf = true) := zij (k := .i64) Tryz.underlying3 (by kernel_rfl)
theorem oStr : Opens Tryz.prog 9 (fun n : ByteArray => [cS n]) (fun s => s.size <= 140737488351232) := zii Tryz.underlying9 (by kernel_rfl)
theorem zrZ : Opens Tryz.prog 27 (fun l : List Int => [D.row true 3 (row1 cI l)]) (fun l => l.length * 8 <= 140737488351232 /\ ∀ x ∈ l, (Lit.int .i64 x).wf = true) := by
 have h := Xx (t := 27) (e := 3) Tryz.underlying27 (by kernel_rfl) (of_decide_eq_true (by kernel_rfl)) (zij (k := .i64) Tryz.underlying3 (by kernel_rfl))
 have hb : Tryz.prog.bytesOf 3 = 8 := by kernel_rfl
 rw [hb] at h
 exact h
def ziq (x : NodeD) : Prop := (Lit.int .i64 x.kind).wf = true /\ (Lit.int .i64 x.num).wf = true /\ x.name.size <= 140737488351232 /\ (x.kids.length * 8 <= 140737488351232 /\ ∀ y ∈ x.kids, (Lit.int .i64 y).wf = true)
theorem zrY : Opens Tryz.prog 126 zcf ziq := by
 have h := Yx (t := 126) Tryz.underlying126 (by kernel_rfl) (xa rfl oInt (xa rfl oInt (xa rfl oStr (zay rfl zrZ))))
 exact zbv (fun x : NodeD => (x.kind, x.num, x.name, x.kids)) (fun a => ⟨a.1, a.2.1, a.2.2.1, a.2.2.2⟩) (fun _ => rfl) (fun _ => rfl) h
theorem zqT : Opens Tryz.prog 22 (fun l : List NodeD => [D.row true 126 (rows zcf l)]) (fun l => l.length * 56 <= 140737488351232 /\ ∀ y ∈ l, ziq y) := by
 have h := Xx (t := 22) (e := 126) Tryz.underlying22 (by kernel_rfl) (of_decide_eq_true (by kernel_rfl)) zrY
 have hb : Tryz.prog.bytesOf 126 = 56 := by kernel_rfl
 rw [hb] at h
 exact h
theorem zip (x : NodeD) (h : ziq x) : zaj x := by
 unfold ziq at h
 unfold zaj
 obtain ⟨p0, p1, p2, ⟨p3, q3⟩⟩ := h
 exact ⟨by omega, by omega⟩
def zdW (x : ParamD) : Prop := x.name.size <= 140737488351232 /\ (Lit.int .i64 x.ty).wf = true
theorem zqS : Opens Tryz.prog 188 YT zdW := by
 have h := Yx (t := 188) Tryz.underlying188 (by kernel_rfl) (xa rfl oStr (zay rfl oInt))
 exact zbv (fun x : ParamD => (x.name, x.ty)) (fun a => ⟨a.1, a.2⟩) (fun _ => rfl) (fun _ => rfl) h
theorem zpE : Opens Tryz.prog 128 (fun l : List ParamD => [D.row true 188 (rows YT l)]) (fun l => l.length * 24 <= 140737488351232 /\ ∀ y ∈ l, zdW y) := by
 have h := Xx (t := 128) (e := 188) Tryz.underlying128 (by kernel_rfl) (of_decide_eq_true (by kernel_rfl)) zqS
 have hb : Tryz.prog.bytesOf 188 = 24 := by kernel_rfl
 rw [hb] at h
 exact h
theorem zgB (x : ParamD) (h : zdW x) : ZV x := by
 unfold zdW at h
 unfold ZV
 obtain ⟨p0, p1⟩ := h
 omega
def fnOk (x : FnD) : Prop := x.name.size <= 140737488351232 /\ (x.params.length * 24 <= 140737488351232 /\ ∀ y ∈ x.params, zdW y) /\ (Lit.int .i64 x.res).wf = true /\ (Lit.int .i64 x.body).wf = true /\ (Lit.int .i64 x.ret).wf = true
theorem oFn : Opens Tryz.prog 130 fnL fnOk := by
 have h := Yx (t := 130) Tryz.underlying130 (by kernel_rfl) (xa rfl oStr (xa rfl zpE (xa rfl oInt (xa rfl oInt (zay rfl oInt)))))
 exact zbv (fun x : FnD => (x.name, x.params, x.res, x.body, x.ret)) (fun a => ⟨a.1, a.2.1, a.2.2.1, a.2.2.2.1, a.2.2.2.2⟩) (fun _ => rfl) (fun _ => rfl) h
theorem oFnS : Opens Tryz.prog 23 (fun l : List FnD => [D.row true 130 (rows fnL l)]) (fun l => l.length * 64 <= 140737488351232 /\ ∀ y ∈ l, fnOk y) := by
 have h := Xx (t := 23) (e := 130) Tryz.underlying23 (by kernel_rfl) (of_decide_eq_true (by kernel_rfl)) oFn
 have hb : Tryz.prog.bytesOf 130 = 64 := by kernel_rfl
 rw [hb] at h
 exact h
theorem zlP (x : FnD) (h : fnOk x) : zeE x := by
 unfold fnOk at h
 unfold zeE
 obtain ⟨p0, ⟨p1, q1⟩, p2, p3, p4⟩ := h
 exact ⟨by omega, by omega, fun y hy => zgB y (q1 y hy)⟩
def zdO (x : ProgramD) : Prop := (x.nodes.length * 56 <= 140737488351232 /\ ∀ y ∈ x.nodes, ziq y) /\ (x.fns.length * 64 <= 140737488351232 /\ ∀ y ∈ x.fns, fnOk y)
theorem zoj : Opens Tryz.prog 25 Xt zdO := by
 have h := Yx (t := 25) Tryz.underlying25 (by kernel_rfl) (xa rfl zqT (zay rfl oFnS))
 exact zbv (fun x : ProgramD => (x.nodes, x.fns)) (fun a => ⟨a.1, a.2⟩) (fun _ => rfl) (fun _ => rfl) h
theorem zdN (x : ProgramD) (h : zdO x) : Yw x := by
 unfold zdO at h
 unfold Yw
 obtain ⟨⟨p0, q0⟩, ⟨p1, q1⟩⟩ := h
 exact ⟨by omega, fun y hy => zip y (q0 y hy), by omega, fun y hy => zlP y (q1 y hy)⟩
theorem zhY (x : ProgramD) : ∀ d ∈ Xt x, shD d = d := by
 have h : shL (Xt x) = Xt x := congrFun zdQ x
 intro d hd
 rw [zad] at h
 obtain ⟨i, hi, rfl⟩ := List.getElem_of_mem hd
 have := List.getElem_of_eq h (by simpa using hi)
 simpa using this
theorem Xo {α : Type} {f : α -> Nat} (hf : ∀ x, 1 <= f x) : ∀ l : List α, l.length <= sumN f l
 | [] => by simp [sumN]
 | x :: r => by
  have h1 := Xo hf r
  have h2 := hf x
  simp only [sumN, List.map_cons, List.sum_cons, List.length_cons] at h1 |-
  omega
theorem xm {EA EB : List (List D)} {x : List D} {i : Nat} (hA : EA.length = i) : (EA ++ x :: EB).getD i [] = x := by
 subst hA; simp [List.getD]
theorem yH {EA EB : List (List D)} {x : List D} {i : Nat} (hA : EA.length = i) : (EA ++ x :: EB)[i]? = some x := by
 subst hA; simp
theorem xk {EA EB : List (List D)} {x y : List D} {i : Nat} (hA : EA.length = i) : (EA ++ x :: EB).set i y = EA ++ y :: EB := by
 subst hA; simp
theorem yx {EA EB : List (List D)} {x : List D} {i j : Nat} (hA : EA.length = i) : cellAt (EA ++ x :: EB) i j = x[j]? := by
 unfold cellAt; rw [yH hA]; rfl
theorem yN {EA EB : List (List D)} {x : List D} {i j : Nat} {d : D} (hA : EA.length = i) : zN (EA ++ x :: EB) i j d = EA ++ x.set j d :: EB := by
 unfold zN; rw [xm hA, xk hA]
theorem zjM (k : Int) (n : Nat) : (if ZL k n = ZL k (ZL k n).length then k + ((ZL k n).length : Nat) else -1) = k + n := by simp [zt]
theorem uU8 : Tryz.prog.underlying 5 = some (.int .u8) := by kernel_rfl
theorem rU8 : isR Tryz.prog 5 = some false := by kernel_rfl
theorem sU8 : szT Tryz.prog 5 = 1 := by kernel_rfl
theorem zU8 : zeroCells Tryz.prog 5 = some [.int .u8 0] := by kernel_rfl
theorem eU8 : elT Tryz.prog 150 = some 5 := by kernel_rfl
theorem rU8S : isR Tryz.prog 150 = some false := by kernel_rfl
theorem uI64 : (Tryz.prog.underlying 3).isSome = true := by kernel_rfl
def XU (q : Int) : Bool := q.tmod 3 == 0
def digB (k : Int) : ByteArray := strOfNums [IntKind.u8.wrap (IntKind.i64.wrap (48 + k.tmod 10))]
def digs (k : Int) (s : ByteArray) : ByteArray := if h : 0 < k then digs (k.tdiv 10) (digB k ++ s) else s
termination_by k.toNat
decreasing_by rw [Int.tdiv_eq_ediv_of_nonneg (by omega)]; omega
def zcN (k : Int) : ByteArray := if k <= 0 then ⟨#[109, 48]⟩ else ⟨#[109]⟩ ++ digs k ⟨#[]⟩
theorem zny (n : Nat) : ∀ (k : Int) (s : ByteArray), k.toNat <= n -> (digs k s).size <= s.size + k.toNat := by
 induction n with
 | zero => intro k s hk; rw [digs, dif_neg (by omega)]; omega
 | succ n ih =>
  intro k s hk
  rw [digs]
  by_cases h : 0 < k
  · rw [dif_pos h]
    have e : k.tdiv 10 = k / 10 := Int.tdiv_eq_ediv_of_nonneg (by omega)
    have := ih (k.tdiv 10) (digB k ++ s) (by rw [e]; omega)
    have e2 : (digB k ++ s).size = 1 + s.size := by rw [ByteArray.size_append]; simp [digB, strOfNums_size]
    rw [e] at this |-
    omega
  · rw [dif_neg h]; omega
theorem yR (k : Int) (h0 : 0 <= k) (h1 : k < 4611686018427387904) : zx Tryz.prog 52 [.ro (.sc (.int .i64 k))] (fun rs st => rs = [(false, [cS (zcN k)])]) := by
 refine zq (fn := Tryz.f52) (c := Tryz.f52.body.getD .skip) (res := [.tm 2]) (n := 20) ze (by kernel_rfl) (by rfl) (by kernel_rfl) (by rfl) (by rfl) (by simp [zu]) (fun C hpin hfull => ?_)
 simp +decide only [Tryz.f52, hpin, go_sem, aD, mU]
 by_cases hk : k <= 0
 · have e1 : zcN k = ⟨#[109, 48]⟩ := by rw [zcN, if_pos hk]
   have e2 : (k <= 0) = True := by simp [hk]
   simp +decide only [e1, e2, hpin, go_sem, aD, mU]
 have e1 : zcN k = ⟨#[109]⟩ ++ digs k ⟨#[]⟩ := by rw [zcN, if_neg hk]
 have e2 : (k <= 0) = False := by simp; omega
 simp +decide only [e1, e2, hpin, go_sem, aD, mU]
 refine Tri.loop (ι := Int × ByteArray) (fun p => 0 <= p.1 /\ p.1 <= k /\ p.2.size + p.1.toNat <= k.toNat /\ digs p.1 p.2 = digs k ⟨#[]⟩) (fun p => ⟨20, [(0, vI p.1), (3, vS p.2)], []⟩) (fun p => p.1.toNat) (k, ⟨#[]⟩) ⟨h0, by simp, by show (0 : Nat) + _ <= _; simp, rfl⟩ ?_ ?_
 · refine Ent.weak ?_ ?_ ?_ ?_ <;> simp +decide [subT, subB, zj, zi, zm, St.get, look, vI, vB, vS]
 · rintro ⟨q, s⟩ ⟨q0, q1, q2, q3⟩
   refine zf ze _ ?_
   by_cases hq : 0 < q
   · have e3 : (0 < q) = True := by simp [hq]
     have e4 : (digB q).size + s.size <= 9223372036854775807 := by simp [digB, strOfNums_size]; simp at q2; omega
     have e6 : q.tdiv 10 = q / 10 := Int.tdiv_eq_ediv_of_nonneg q0
     have e5 : IntKind.i64.wrap (q.tdiv 10) = q.tdiv 10 := w64 (by rw [e6]; omega) (by rw [e6]; omega)
     have e7 : strOfNums [IntKind.u8.wrap (IntKind.i64.wrap (48 + q.tmod 10))] = digB q := rfl
     simp +decide only [e3, e4, e5, e7, vI, vS, uU8, rU8, sU8, zU8, eU8, rU8S, uI64, hpin, go_sem, aD, mU]
     refine ⟨(q.tdiv 10, digB q ++ s), ⟨?_, ?_, ?_, ?_⟩, ?_, Ent.weak ?_ ?_ ?_ ?_⟩
     · simp only [e6]; omega
     · simp only [e6]; omega
     · simp only [e6, ByteArray.size_append, digB, strOfNums_size, List.length_cons, List.length_nil]; simp at q2; omega
     · rw [<- q3, digs.eq_def q s, dif_pos hq]
     · simp only [e6]; omega
     all_goals simp +decide [subT, subB, zj, zi, zm, St.get, look, vI, vB, vS]
   · have e3 : (0 < q) = False := by simp [hq]
     have e4 : digs q s = s := by rw [digs, dif_neg hq]
     simp only [e4] at q3
     have e5 : 1 + s.size <= 9223372036854775807 := by rw [q3]; have := zny k.toNat k ⟨#[]⟩ (Nat.le_refl _); have e9 : (⟨#[]⟩ : ByteArray).size = 0 := rfl; rw [e9] at this; omega
     have e6 : (⟨#[109]⟩ : ByteArray).size + s.size <= 9223372036854775807 := e5
     simp +decide only [e1, e3, e6, <- q3, vI, vS, hpin, go_sem, aD, mU]
def insN (x : InsD) : Nat := 6 + x.args.length
def insM (q : Int) (x : InsD) : InsD := ⟨q, (q + 1), ((q + 1) + 1), (((q + 1) + 1) + 1), ((((q + 1) + 1) + 1) + 1), zcN (((((q + 1) + 1) + 1) + 1) + 1), ZL ((((((q + 1) + 1) + 1) + 1) + 1) + 1) x.args.length⟩
def XI : Int -> List InsD -> List InsD
 | _, [] => []
 | q, x :: r => insM q x :: XI (q + (insN x : Nat)) r
theorem zam : ∀ (q : Int) (l : List InsD), (XI q l).length = l.length
 | _, [] => rfl
 | q, x :: r => by simp [XI, zam]
theorem zcG : ∀ (q : Int) (l l2 : List InsD), XI q (l ++ l2) = XI q l ++ XI (q + (sumN insN l : Nat)) l2
 | q, [], l2 => by simp [XI, sumN]
 | q, x :: r, l2 => by
  have e : q + (insN x : Nat) + (sumN insN r : Nat) = q + (sumN insN (x :: r) : Nat) := by simp only [sumN, List.map_cons, List.sum_cons]; omega
  simp only [XI, List.cons_append, zcG, e]
theorem zlM (q : Int) (l : List InsD) {i : Nat} (h : i < l.length) : XI q (l.take (i + 1)) = XI q (l.take i) ++ [insM (q + (sumN insN (l.take i) : Nat)) l[i]] := by
 rw [List.take_succ_eq_append_getElem h, zcG]; rfl
attribute [go_sem] zam
theorem znL (l : List InsD) (k : Int) (h0 : 0 <= k) (h1 : k + (sumN insN l : Nat) < 4611686018427387904) :
 SoundAt Tryz.prog 49 (fun uf => zu 0 [.ro (.ref 2000 [] l.length), .ro (.sc (.int .i64 k))]) [(2000, .row 139 (rows (insC false) l))]
  (fun rs st => rs = [(false, [cI (k + (sumN insN l : Nat))])] /\ xr st.ob [(2000, .row 139 (rows (insC false) (XI k l)))]) := by
 have hll := Xo (f := insN) (fun x => by unfold insN; omega) l
 refine yL (fn := Tryz.f49) (c := Tryz.f49.body.getD .skip) (res := [.tm 4]) (n := 63) ze (by kernel_rfl) (by rfl) (by kernel_rfl) (by rfl) (by rfl) (by simp [zu]) (fun uf ub C hpin hpin2 hfull => ?_)
 simp +decide only [Tryz.f49, hpin, go_sem, aD, mU]
 refine Tri.loop (ι := Nat) (fun i => i <= l.length) (fun i => ⟨63, [(0, .ref 2000 [] l.length), (1, vI (k + (sumN insN (l.take i) : Nat))), (5, vI i)], [(2000, .row 139 (rows (insC false) (XI k (l.take i)) ++ rows (insC false) (l.drop i)))]⟩) (fun i => l.length - i) 0 (by simp) ?_ ?_
 · refine Ent.weak ?_ ?_ ?_ ?_ <;> simp +decide [subT, subB, zj, zi, St.get, look, vI, vB, rows, sumN, XI]
 · rintro i hi
   refine zf ze _ ?_
   by_cases h' : i < l.length
   · have e : ((i : Int) < (l.length : Int)) = True := by simp [h']
     have hs1 := xw insN l h'
     have hs2 := Yd insN l (i + 1)
     have hu : insN l[i] = 6 + l[i].args.length := rfl
     rw [List.drop_eq_getElem_cons h']
     obtain ⟨EA, hEA⟩ : ∃ E, E = rows (insC false) (XI k (l.take i)) := ⟨_, rfl⟩
     obtain ⟨EB, hEB⟩ : ∃ E, E = rows (insC false) (l.drop (i + 1)) := ⟨_, rfl⟩
     obtain ⟨q, hq⟩ : ∃ q, q = k + (sumN insN (l.take i) : Nat) := ⟨_, rfl⟩
     have e4 : EA ++ insC false (insM q l[i]) :: EB = rows (insC false) (XI k (l.take (i + 1))) ++ rows (insC false) (l.drop (i + 1)) := by
      rw [hEA, hEB, hq, zlM k l h']; simp [rows]
     have hA : EA.length = i := by rw [hEA, yt, zam]; simp; omega
     have hn : EA.length + (EB.length + 1) = l.length := by rw [hA, hEB, yt, List.length_drop]; omega
     have e0 : rows (insC false) (XI k (l.take i)) ++ rows (insC false) (l[i] :: l.drop (i + 1)) = EA ++ insC false l[i] :: EB := by rw [hEA, hEB]; rfl
     rw [e0, <- hq]
     have hq0 : 0 <= q := by omega
     have w0 : IntKind.i64.wrap (q + 1) = q + 1 := w64 (by omega) (by omega)
     have w1 : IntKind.i64.wrap ((q + 1) + 1) = (q + 1) + 1 := w64 (by omega) (by omega)
     have w2 : IntKind.i64.wrap (((q + 1) + 1) + 1) = ((q + 1) + 1) + 1 := w64 (by omega) (by omega)
     have w3 : IntKind.i64.wrap ((((q + 1) + 1) + 1) + 1) = (((q + 1) + 1) + 1) + 1 := w64 (by omega) (by omega)
     have w4 : IntKind.i64.wrap (((((q + 1) + 1) + 1) + 1) + 1) = ((((q + 1) + 1) + 1) + 1) + 1 := w64 (by omega) (by omega)
     have w5 : IntKind.i64.wrap ((((((q + 1) + 1) + 1) + 1) + 1) + 1) = (((((q + 1) + 1) + 1) + 1) + 1) + 1 := w64 (by omega) (by omega)
     simp +decide only [e, h', hn, xm hA, yH hA, xk hA, yx hA, yN hA, iN, vI, insC, w0, w1, w2, w3, w4, w5, hpin, go_sem, aD, mU]
     refine zd (yR (((((q + 1) + 1) + 1) + 1) + 1) (by omega) (by omega)) hpin ?_
     simp +decide only [e, h', hn, xm hA, yH hA, xk hA, yx hA, yN hA, iN, vI, insC, w0, w1, w2, w3, w4, w5, hpin, go_sem, aD, mU]
     refine zcs 2000 [(i, 6)] 1000 (x := ?x6) (e := 3) (es := row1 cI l[i].args) ?ho ?hs (by simp) (by decide) ?ho2 (hpin 1000 rfl) (fun z => ?_)
     case ho => exact rfl
     case hs => simp [subO, subD, yx hA]
     case ho2 => exact rfl
     simp +decide only [e, h', hn, xm hA, yH hA, xk hA, yx hA, yN hA, iN, vI, insC, w0, w1, w2, w3, w4, w5, hpin, go_sem, aD, mU]
     refine Yc (zbB l[i].args ((((((q + 1) + 1) + 1) + 1) + 1) + 1) (by omega) (by omega) (by omega)) (zdR (pin3 hpin) (by decide)) [(2000, 1000)] ⟨rfl, rfl, rfl⟩ (fun uf => ⟨rfl, rfl⟩) (fun uf => ?_) ?_
     · simp +decide only [e, h', hn, xm hA, yH hA, xk hA, yx hA, yN hA, iN, vI, insC, w0, w1, w2, w3, w4, w5, zt, hpin, go_sem, aD, mU]
     simp +decide only [e, h', hn, xm hA, yH hA, xk hA, yx hA, yN hA, iN, vI, insC, w0, w1, w2, w3, w4, w5, zt, hpin, go_sem, aD, mU]
     refine ⟨i + 1, h', by omega, Ent.weak ?_ ?_ ?_ ?_⟩
     · have e5 : k + (sumN insN (l.take (i + 1)) : Nat) = (((((((q + 1) + 1) + 1) + 1) + 1) + 1) + l[i].args.length) := by omega
       simp +decide [subT, St.get, look, w64s (n := l.length) h' (by omega), vI, vB, e5, hn]
     · rw [<- e4]; simp +decide [subB, look, insC, insM, cI, cS, cB, XU]
     all_goals simp +decide [zj, zi, look, vI, hn]
   · have hil : i = l.length := by omega
     subst hil
     have e : ((l.length : Int) < (l.length : Int)) = False := by simp
     have e6 : rows (insC false) (XI k (l.take l.length)) ++ rows (insC false) (l.drop l.length) = rows (insC false) (XI k l) := by simp [rows]
     rw [e6]
     simp +decide only [e, vI, hpin, go_sem, aD, mU]
def zsH (x : CodeD) : Nat := 2 + x.locals.length + sumN insN x.words
def zsI (q : Int) (x : CodeD) : CodeD := ⟨zcN q, (q + 1), ZL ((q + 1) + 1) x.locals.length, XI (((q + 1) + 1) + x.locals.length) x.words⟩
def znA : Int -> List CodeD -> List CodeD
 | _, [] => []
 | q, x :: r => zsI q x :: znA (q + (zsH x : Nat)) r
theorem zbQ : ∀ (q : Int) (l : List CodeD), (znA q l).length = l.length
 | _, [] => rfl
 | q, x :: r => by simp [znA, zbQ]
attribute [go_sem] zbQ
def yF (x : NodeD) : Nat := 3 + x.kids.length
def zcM (q : Int) (x : NodeD) : NodeD := ⟨q, (q + 1), zcN ((q + 1) + 1), ZL (((q + 1) + 1) + 1) x.kids.length⟩
def yI : Int -> List NodeD -> List NodeD
 | _, [] => []
 | q, x :: r => zcM q x :: yI (q + (yF x : Nat)) r
theorem Zn : ∀ (q : Int) (l : List NodeD), (yI q l).length = l.length
 | _, [] => rfl
 | q, x :: r => by simp [yI, Zn]
theorem XA : ∀ (q : Int) (l l2 : List NodeD), yI q (l ++ l2) = yI q l ++ yI (q + (sumN yF l : Nat)) l2
 | q, [], l2 => by simp [yI, sumN]
 | q, x :: r, l2 => by
  have e : q + (yF x : Nat) + (sumN yF r : Nat) = q + (sumN yF (x :: r) : Nat) := by simp only [sumN, List.map_cons, List.sum_cons]; omega
  simp only [yI, List.cons_append, XA, e]
theorem zed (q : Int) (l : List NodeD) {i : Nat} (h : i < l.length) : yI q (l.take (i + 1)) = yI q (l.take i) ++ [zcM (q + (sumN yF (l.take i) : Nat)) l[i]] := by
 rw [List.take_succ_eq_append_getElem h, XA]; rfl
theorem zlI (q : Int) (l : List NodeD) {i : Nat} (h : i < l.length) (h2 : i < (yI q l).length) : (yI q l)[i] = zcM (q + (sumN yF (l.take i) : Nat)) l[i] := by
 have e : l = l.take (i + 1) ++ l.drop (i + 1) := (List.take_append_drop _ _).symm
 have hl : (yI q (l.take i)).length = i := by rw [Zn]; simp; omega
 have e2 : (yI q l)[i]? = some (zcM (q + (sumN yF (l.take i) : Nat)) l[i]) := by
  conv => lhs; rw [e, XA, zed q l h, List.append_assoc]
  rw [List.getElem?_append_right (by omega), hl, Nat.sub_self]; rfl
 exact (List.getElem?_eq_some_iff.1 e2).2
attribute [go_sem] Zn
theorem zej (l : List NodeD) (k : Int) (h0 : 0 <= k) (h1 : k + (sumN yF l : Nat) < 4611686018427387904) :
 SoundAt Tryz.prog 46 (fun uf => zu 0 [.ro (.ref 2000 [] l.length), .ro (.sc (.int .i64 k))]) [(2000, .row 83 (rows (zg false) l))]
  (fun rs st => rs = [(false, [cI (k + (sumN yF l : Nat))])] /\ xr st.ob [(2000, .row 83 (rows (zg false) (yI k l)))]) := by
 have hll := Xo (f := yF) (fun x => by unfold yF; omega) l
 refine yL (fn := Tryz.f46) (c := Tryz.f46.body.getD .skip) (res := [.tm 4]) (n := 42) ze (by kernel_rfl) (by rfl) (by kernel_rfl) (by rfl) (by rfl) (by simp [zu]) (fun uf ub C hpin hpin2 hfull => ?_)
 simp +decide only [Tryz.f46, hpin, go_sem, aD, mU]
 refine Tri.loop (ι := Nat) (fun i => i <= l.length) (fun i => ⟨42, [(0, .ref 2000 [] l.length), (1, vI (k + (sumN yF (l.take i) : Nat))), (5, vI i)], [(2000, .row 83 (rows (zg false) (yI k (l.take i)) ++ rows (zg false) (l.drop i)))]⟩) (fun i => l.length - i) 0 (by simp) ?_ ?_
 · refine Ent.weak ?_ ?_ ?_ ?_ <;> simp +decide [subT, subB, zj, zi, St.get, look, vI, vB, rows, sumN, yI]
 · rintro i hi
   refine zf ze _ ?_
   by_cases h' : i < l.length
   · have e : ((i : Int) < (l.length : Int)) = True := by simp [h']
     have hs1 := xw yF l h'
     have hs2 := Yd yF l (i + 1)
     have hu : yF l[i] = 3 + l[i].kids.length := rfl
     rw [List.drop_eq_getElem_cons h']
     obtain ⟨EA, hEA⟩ : ∃ E, E = rows (zg false) (yI k (l.take i)) := ⟨_, rfl⟩
     obtain ⟨EB, hEB⟩ : ∃ E, E = rows (zg false) (l.drop (i + 1)) := ⟨_, rfl⟩
     obtain ⟨q, hq⟩ : ∃ q, q = k + (sumN yF (l.take i) : Nat) := ⟨_, rfl⟩
     have e4 : EA ++ zg false (zcM q l[i]) :: EB = rows (zg false) (yI k (l.take (i + 1))) ++ rows (zg false) (l.drop (i + 1)) := by
      rw [hEA, hEB, hq, zed k l h']; simp [rows]
     have hA : EA.length = i := by rw [hEA, yt, Zn]; simp; omega
     have hn : EA.length + (EB.length + 1) = l.length := by rw [hA, hEB, yt, List.length_drop]; omega
     have e0 : rows (zg false) (yI k (l.take i)) ++ rows (zg false) (l[i] :: l.drop (i + 1)) = EA ++ zg false l[i] :: EB := by rw [hEA, hEB]; rfl
     rw [e0, <- hq]
     have hq0 : 0 <= q := by omega
     have w0 : IntKind.i64.wrap (q + 1) = q + 1 := w64 (by omega) (by omega)
     have w1 : IntKind.i64.wrap ((q + 1) + 1) = (q + 1) + 1 := w64 (by omega) (by omega)
     have w2 : IntKind.i64.wrap (((q + 1) + 1) + 1) = ((q + 1) + 1) + 1 := w64 (by omega) (by omega)
     simp +decide only [e, h', hn, xm hA, yH hA, xk hA, yx hA, yN hA, iN, vI, zg, w0, w1, w2, hpin, go_sem, aD, mU]
     refine zd (yR ((q + 1) + 1) (by omega) (by omega)) hpin ?_
     simp +decide only [e, h', hn, xm hA, yH hA, xk hA, yx hA, yN hA, iN, vI, zg, w0, w1, w2, hpin, go_sem, aD, mU]
     refine zcs 2000 [(i, 3)] 1000 (x := ?x3) (e := 3) (es := row1 cI l[i].kids) ?ho ?hs (by simp) (by decide) ?ho2 (hpin 1000 rfl) (fun z => ?_)
     case ho => exact rfl
     case hs => simp [subO, subD, yx hA]
     case ho2 => exact rfl
     simp +decide only [e, h', hn, xm hA, yH hA, xk hA, yx hA, yN hA, iN, vI, zg, w0, w1, w2, hpin, go_sem, aD, mU]
     refine Yc (zbB l[i].kids (((q + 1) + 1) + 1) (by omega) (by omega) (by omega)) (zdR (pin3 hpin) (by decide)) [(2000, 1000)] ⟨rfl, rfl, rfl⟩ (fun uf => ⟨rfl, rfl⟩) (fun uf => ?_) ?_
     · simp +decide only [e, h', hn, xm hA, yH hA, xk hA, yx hA, yN hA, iN, vI, zg, w0, w1, w2, zt, hpin, go_sem, aD, mU]
     simp +decide only [e, h', hn, xm hA, yH hA, xk hA, yx hA, yN hA, iN, vI, zg, w0, w1, w2, zt, hpin, go_sem, aD, mU]
     refine ⟨i + 1, h', by omega, Ent.weak ?_ ?_ ?_ ?_⟩
     · have e5 : k + (sumN yF (l.take (i + 1)) : Nat) = ((((q + 1) + 1) + 1) + l[i].kids.length) := by omega
       simp +decide [subT, St.get, look, w64s (n := l.length) h' (by omega), vI, vB, e5, hn]
     · rw [<- e4]; simp +decide [subB, look, zg, zcM, cI, cS, cB, XU]
     all_goals simp +decide [zj, zi, look, vI, hn]
   · have hil : i = l.length := by omega
     subst hil
     have e : ((l.length : Int) < (l.length : Int)) = False := by simp
     have e6 : rows (zg false) (yI k (l.take l.length)) ++ rows (zg false) (l.drop l.length) = rows (zg false) (yI k l) := by simp [rows]
     rw [e6]
     simp +decide only [e, vI, hpin, go_sem, aD, mU]
theorem zew (l : List NodeD) (k : Int) (h0 : 0 <= k) (h1 : k + (sumN yF l : Nat) < 4611686018427387904) :
 zx Tryz.prog 74 [.ro (.imm 83 (rows (zg true) (yI k l))), .ro (.sc (.int .i64 k))] (fun rs st => rs = [(false, [cI (k + (sumN yF l : Nat))])]) := by
 have hll := Xo (f := yF) (fun x => by unfold yF; omega) l
 refine zq (fn := Tryz.f74) (c := Tryz.f74.body.getD .skip) (res := [.tm 4]) (n := 50) ze (by kernel_rfl) (by rfl) (by kernel_rfl) (by rfl) (by rfl) (by simp [zu]) (fun C hpin hfull => ?_)
 simp +decide only [Tryz.f74, hpin, go_sem, aD, mU]
 refine Tri.loop (ι := Nat) (fun i => i <= l.length) (fun i => ⟨50, [(0, .imm 83 (rows (zg true) (yI k l))), (1, vI (k + (sumN yF (l.take i) : Nat))), (5, vI i)], []⟩) (fun i => l.length - i) 0 (by simp) ?_ ?_
 · refine Ent.weak ?_ ?_ ?_ ?_ <;> simp +decide [subT, subB, zj, zi, St.get, look, vI, vB, rows, sumN]
 · rintro i hi
   refine zf ze _ ?_
   by_cases h' : i < l.length
   · have e : ((i : Int) < (l.length : Int)) = True := by simp [h']
     have hs1 := xw yF l h'
     have hs2 := Yd yF l (i + 1)
     have hu : yF l[i] = 3 + l[i].kids.length := rfl
     have h2 : i < (yI k l).length := by rw [Zn]; exact h'
     have hg : (rows (zg true) (yI k l)).getD i [] = zg true (zcM (k + (sumN yF (l.take i) : Nat)) l[i]) := by rw [zk _ _ h2, zlI k l h' h2]
     obtain ⟨q, hq⟩ : ∃ q, q = k + (sumN yF (l.take i) : Nat) := ⟨_, rfl⟩
     rw [<- hq] at hg |-
     have hq0 : 0 <= q := by omega
     have w0 : IntKind.i64.wrap (q + 1) = q + 1 := w64 (by omega) (by omega)
     have w1 : IntKind.i64.wrap ((q + 1) + 1) = (q + 1) + 1 := w64 (by omega) (by omega)
     have w2 : IntKind.i64.wrap (((q + 1) + 1) + 1) = ((q + 1) + 1) + 1 := w64 (by omega) (by omega)
     simp +decide only [e, h', hg, XU, bne_self_eq_false, iN, vI, zg, zcM, w0, w1, w2, hpin, go_sem, aD, mU]
     refine Tri.sched ze [(0, true), (1, true), (2, true), (3, true), (5, true), (4, true), (6, false), (7, false)] zO (by kernel_rfl) (fun C2 hC2 => ?_)
     have hp2 := zP hC2 hpin
     simp +decide only [e, h', hg, XU, bne_self_eq_false, iN, vI, zg, zcM, w0, w1, w2, hp2, go_sem, aD, mU]
     refine zd (yR ((q + 1) + 1) (by omega) (by omega)) hp2 ?_
     simp +decide only [e, h', hg, XU, bne_self_eq_false, iN, vI, zg, zcM, w0, w1, w2, hp2, go_sem, aD, mU]
     try simp +decide only [e, h', hg, XU, bne_self_eq_false, iN, vI, zg, zcM, w0, w1, w2, hpin, go_sem, aD, mU]
     refine zd (zgX (ZL (((q + 1) + 1) + 1) l[i].kids.length) (((q + 1) + 1) + 1) (by rw [zt]; omega) (by omega) (by rw [zt]; omega)) hpin ?_
     rw [zjM]
     have n3 : (((((q + 1) + 1) + 1) + l[i].kids.length : Int) < 0) = False := by simp; omega
     try simp +decide only [e, h', hg, XU, bne_self_eq_false, iN, vI, zg, zcM, w0, w1, w2, n3, hpin, go_sem, aD, mU]
     have e5 : k + (sumN yF (l.take (i + 1)) : Nat) = ((((q + 1) + 1) + 1) + l[i].kids.length) := by omega
     refine ⟨i + 1, h', by omega, Ent.weak ?_ ?_ ?_ ?_⟩
     · simp +decide [subT, St.get, look, w64s (n := l.length) h' (by omega), vI, vB, e5]
     all_goals simp +decide [subB, zj, zi, look, vI]
   · have hil : i = l.length := by omega
     subst hil
     have e : ((l.length : Int) < (l.length : Int)) = False := by simp
     simp +decide only [e, vI, hpin, go_sem, aD, mU]
def zV (x : ParamD) : Nat := 2
def zaf (q : Int) (x : ParamD) : ParamD := ⟨zcN q, (q + 1)⟩
def yu : Int -> List ParamD -> List ParamD
 | _, [] => []
 | q, x :: r => zaf q x :: yu (q + (zV x : Nat)) r
theorem xU : ∀ (q : Int) (l : List ParamD), (yu q l).length = l.length
 | _, [] => rfl
 | q, x :: r => by simp [yu, xU]
theorem YH : ∀ (q : Int) (l l2 : List ParamD), yu q (l ++ l2) = yu q l ++ yu (q + (sumN zV l : Nat)) l2
 | q, [], l2 => by simp [yu, sumN]
 | q, x :: r, l2 => by
  have e : q + (zV x : Nat) + (sumN zV r : Nat) = q + (sumN zV (x :: r) : Nat) := by simp only [sumN, List.map_cons, List.sum_cons]; omega
  simp only [yu, List.cons_append, YH, e]
theorem zcA (q : Int) (l : List ParamD) {i : Nat} (h : i < l.length) : yu q (l.take (i + 1)) = yu q (l.take i) ++ [zaf (q + (sumN zV (l.take i) : Nat)) l[i]] := by
 rw [List.take_succ_eq_append_getElem h, YH]; rfl
theorem zjC (q : Int) (l : List ParamD) {i : Nat} (h : i < l.length) (h2 : i < (yu q l).length) : (yu q l)[i] = zaf (q + (sumN zV (l.take i) : Nat)) l[i] := by
 have e : l = l.take (i + 1) ++ l.drop (i + 1) := (List.take_append_drop _ _).symm
 have hl : (yu q (l.take i)).length = i := by rw [xU]; simp; omega
 have e2 : (yu q l)[i]? = some (zaf (q + (sumN zV (l.take i) : Nat)) l[i]) := by
  conv => lhs; rw [e, YH, zcA q l h, List.append_assoc]
  rw [List.getElem?_append_right (by omega), hl, Nat.sub_self]; rfl
 exact (List.getElem?_eq_some_iff.1 e2).2
attribute [go_sem] xU
theorem zcO (l : List ParamD) (k : Int) (h0 : 0 <= k) (h1 : k + (sumN zV l : Nat) < 4611686018427387904) :
 SoundAt Tryz.prog 128 (fun uf => zu 0 [.ro (.ref 2000 [] l.length), .ro (.sc (.int .i64 k))]) [(2000, .row 107 (rows (zn false) l))]
  (fun rs st => rs = [(false, [cI (k + (sumN zV l : Nat))])] /\ xr st.ob [(2000, .row 107 (rows (zn false) (yu k l)))]) := by
 have hll := Xo (f := zV) (fun x => by unfold zV; omega) l
 refine yL (fn := Tryz.f128) (c := Tryz.f128.body.getD .skip) (res := [.tm 4]) (n := 28) ze (by kernel_rfl) (by rfl) (by kernel_rfl) (by rfl) (by rfl) (by simp [zu]) (fun uf ub C hpin hpin2 hfull => ?_)
 simp +decide only [Tryz.f128, hpin, go_sem, aD, mU]
 refine Tri.loop (ι := Nat) (fun i => i <= l.length) (fun i => ⟨28, [(0, .ref 2000 [] l.length), (1, vI (k + (sumN zV (l.take i) : Nat))), (5, vI i)], [(2000, .row 107 (rows (zn false) (yu k (l.take i)) ++ rows (zn false) (l.drop i)))]⟩) (fun i => l.length - i) 0 (by simp) ?_ ?_
 · refine Ent.weak ?_ ?_ ?_ ?_ <;> simp +decide [subT, subB, zj, zi, St.get, look, vI, vB, rows, sumN, yu]
 · rintro i hi
   refine zf ze _ ?_
   by_cases h' : i < l.length
   · have e : ((i : Int) < (l.length : Int)) = True := by simp [h']
     have hs1 := xw zV l h'
     have hs2 := Yd zV l (i + 1)
     have hu : zV l[i] = 2 := rfl
     rw [List.drop_eq_getElem_cons h']
     obtain ⟨EA, hEA⟩ : ∃ E, E = rows (zn false) (yu k (l.take i)) := ⟨_, rfl⟩
     obtain ⟨EB, hEB⟩ : ∃ E, E = rows (zn false) (l.drop (i + 1)) := ⟨_, rfl⟩
     obtain ⟨q, hq⟩ : ∃ q, q = k + (sumN zV (l.take i) : Nat) := ⟨_, rfl⟩
     have e4 : EA ++ zn false (zaf q l[i]) :: EB = rows (zn false) (yu k (l.take (i + 1))) ++ rows (zn false) (l.drop (i + 1)) := by
      rw [hEA, hEB, hq, zcA k l h']; simp [rows]
     have hA : EA.length = i := by rw [hEA, yt, xU]; simp; omega
     have hn : EA.length + (EB.length + 1) = l.length := by rw [hA, hEB, yt, List.length_drop]; omega
     have e0 : rows (zn false) (yu k (l.take i)) ++ rows (zn false) (l[i] :: l.drop (i + 1)) = EA ++ zn false l[i] :: EB := by rw [hEA, hEB]; rfl
     rw [e0, <- hq]
     have hq0 : 0 <= q := by omega
     have w0 : IntKind.i64.wrap (q + 1) = q + 1 := w64 (by omega) (by omega)
     have w1 : IntKind.i64.wrap ((q + 1) + 1) = (q + 1) + 1 := w64 (by omega) (by omega)
     simp +decide only [e, h', hn, xm hA, yH hA, xk hA, yx hA, yN hA, iN, vI, zn, w0, w1, hpin, go_sem, aD, mU]
     refine zd (yR q (by omega) (by omega)) hpin ?_
     simp +decide only [e, h', hn, xm hA, yH hA, xk hA, yx hA, yN hA, iN, vI, zn, w0, w1, hpin, go_sem, aD, mU]
     refine ⟨i + 1, h', by omega, Ent.weak ?_ ?_ ?_ ?_⟩
     · have e5 : k + (sumN zV (l.take (i + 1)) : Nat) = ((q + 1) + 1) := by omega
       simp +decide [subT, St.get, look, w64s (n := l.length) h' (by omega), vI, vB, e5, hn]
     · rw [<- e4]; simp +decide [subB, look, zn, zaf, cI, cS, cB, XU]
     all_goals simp +decide [zj, zi, look, vI, hn]
   · have hil : i = l.length := by omega
     subst hil
     have e : ((l.length : Int) < (l.length : Int)) = False := by simp
     have e6 : rows (zn false) (yu k (l.take l.length)) ++ rows (zn false) (l.drop l.length) = rows (zn false) (yu k l) := by simp [rows]
     rw [e6]
     simp +decide only [e, vI, hpin, go_sem, aD, mU]
theorem zcR (l : List ParamD) (k : Int) (h0 : 0 <= k) (h1 : k + (sumN zV l : Nat) < 4611686018427387904) :
 zx Tryz.prog 151 [.ro (.imm 107 (rows (zn true) (yu k l))), .ro (.sc (.int .i64 k))] (fun rs st => rs = [(false, [cI (k + (sumN zV l : Nat))])]) := by
 have hll := Xo (f := zV) (fun x => by unfold zV; omega) l
 refine zq (fn := Tryz.f151) (c := Tryz.f151.body.getD .skip) (res := [.tm 4]) (n := 32) ze (by kernel_rfl) (by rfl) (by kernel_rfl) (by rfl) (by rfl) (by simp [zu]) (fun C hpin hfull => ?_)
 simp +decide only [Tryz.f151, hpin, go_sem, aD, mU]
 refine Tri.loop (ι := Nat) (fun i => i <= l.length) (fun i => ⟨32, [(0, .imm 107 (rows (zn true) (yu k l))), (1, vI (k + (sumN zV (l.take i) : Nat))), (5, vI i)], []⟩) (fun i => l.length - i) 0 (by simp) ?_ ?_
 · refine Ent.weak ?_ ?_ ?_ ?_ <;> simp +decide [subT, subB, zj, zi, St.get, look, vI, vB, rows, sumN]
 · rintro i hi
   refine zf ze _ ?_
   by_cases h' : i < l.length
   · have e : ((i : Int) < (l.length : Int)) = True := by simp [h']
     have hs1 := xw zV l h'
     have hs2 := Yd zV l (i + 1)
     have hu : zV l[i] = 2 := rfl
     have h2 : i < (yu k l).length := by rw [xU]; exact h'
     have hg : (rows (zn true) (yu k l)).getD i [] = zn true (zaf (k + (sumN zV (l.take i) : Nat)) l[i]) := by rw [zk _ _ h2, zjC k l h' h2]
     obtain ⟨q, hq⟩ : ∃ q, q = k + (sumN zV (l.take i) : Nat) := ⟨_, rfl⟩
     rw [<- hq] at hg |-
     have hq0 : 0 <= q := by omega
     have w0 : IntKind.i64.wrap (q + 1) = q + 1 := w64 (by omega) (by omega)
     have w1 : IntKind.i64.wrap ((q + 1) + 1) = (q + 1) + 1 := w64 (by omega) (by omega)
     simp +decide only [e, h', hg, XU, bne_self_eq_false, iN, vI, zn, zaf, w0, w1, hpin, go_sem, aD, mU]
     refine Tri.sched ze [(0, true), (1, true), (2, true), (3, true), (5, true), (4, true), (6, false), (7, false)] zO (by kernel_rfl) (fun C2 hC2 => ?_)
     have hp2 := zP hC2 hpin
     simp +decide only [e, h', hg, XU, bne_self_eq_false, iN, vI, zn, zaf, w0, w1, hp2, go_sem, aD, mU]
     refine zd (yR q (by omega) (by omega)) hp2 ?_
     simp +decide only [e, h', hg, XU, bne_self_eq_false, iN, vI, zn, zaf, w0, w1, hp2, go_sem, aD, mU]
     try simp +decide only [e, h', hg, XU, bne_self_eq_false, iN, vI, zn, zaf, w0, w1, hpin, go_sem, aD, mU]
     have e5 : k + (sumN zV (l.take (i + 1)) : Nat) = ((q + 1) + 1) := by omega
     refine ⟨i + 1, h', by omega, Ent.weak ?_ ?_ ?_ ?_⟩
     · simp +decide [subT, St.get, look, w64s (n := l.length) h' (by omega), vI, vB, e5]
     all_goals simp +decide [subB, zj, zi, look, vI]
   · have hil : i = l.length := by omega
     subst hil
     have e : ((l.length : Int) < (l.length : Int)) = False := by simp
     simp +decide only [e, vI, hpin, go_sem, aD, mU]
def fnN (x : FnD) : Nat := 4 + sumN zV x.params
def fnM (q : Int) (x : FnD) : FnD := ⟨zcN q, yu (q + 1) x.params, ((q + 1) + (sumN zV x.params : Nat)), (((q + 1) + (sumN zV x.params : Nat)) + 1), ((((q + 1) + (sumN zV x.params : Nat)) + 1) + 1)⟩
def fnML : Int -> List FnD -> List FnD
 | _, [] => []
 | q, x :: r => fnM q x :: fnML (q + (fnN x : Nat)) r
theorem Yl : ∀ (q : Int) (l : List FnD), (fnML q l).length = l.length
 | _, [] => rfl
 | q, x :: r => by simp [fnML, Yl]
theorem zbg : ∀ (q : Int) (l l2 : List FnD), fnML q (l ++ l2) = fnML q l ++ fnML (q + (sumN fnN l : Nat)) l2
 | q, [], l2 => by simp [fnML, sumN]
 | q, x :: r, l2 => by
  have e : q + (fnN x : Nat) + (sumN fnN r : Nat) = q + (sumN fnN (x :: r) : Nat) := by simp only [sumN, List.map_cons, List.sum_cons]; omega
  simp only [fnML, List.cons_append, zbg, e]
theorem ziH (q : Int) (l : List FnD) {i : Nat} (h : i < l.length) : fnML q (l.take (i + 1)) = fnML q (l.take i) ++ [fnM (q + (sumN fnN (l.take i) : Nat)) l[i]] := by
 rw [List.take_succ_eq_append_getElem h, zbg]; rfl
theorem zoz (q : Int) (l : List FnD) {i : Nat} (h : i < l.length) (h2 : i < (fnML q l).length) : (fnML q l)[i] = fnM (q + (sumN fnN (l.take i) : Nat)) l[i] := by
 have e : l = l.take (i + 1) ++ l.drop (i + 1) := (List.take_append_drop _ _).symm
 have hl : (fnML q (l.take i)).length = i := by rw [Yl]; simp; omega
 have e2 : (fnML q l)[i]? = some (fnM (q + (sumN fnN (l.take i) : Nat)) l[i]) := by
  conv => lhs; rw [e, zbg, ziH q l h, List.append_assoc]
  rw [List.getElem?_append_right (by omega), hl, Nat.sub_self]; rfl
 exact (List.getElem?_eq_some_iff.1 e2).2
attribute [go_sem] Yl
theorem zgK (l : List FnD) (k : Int) (h0 : 0 <= k) (h1 : k + (sumN fnN l : Nat) < 4611686018427387904) :
 SoundAt Tryz.prog 47 (fun uf => zu 0 [.ro (.ref 2000 [] l.length), .ro (.sc (.int .i64 k))]) [(2000, .row 104 (rows (fnC false) l))]
  (fun rs st => rs = [(false, [cI (k + (sumN fnN l : Nat))])] /\ xr st.ob [(2000, .row 104 (rows (fnC false) (fnML k l)))]) := by
 have hll := Xo (f := fnN) (fun x => by unfold fnN; omega) l
 refine yL (fn := Tryz.f47) (c := Tryz.f47.body.getD .skip) (res := [.tm 4]) (n := 49) ze (by kernel_rfl) (by rfl) (by kernel_rfl) (by rfl) (by rfl) (by simp [zu]) (fun uf ub C hpin hpin2 hfull => ?_)
 simp +decide only [Tryz.f47, hpin, go_sem, aD, mU]
 refine Tri.loop (ι := Nat) (fun i => i <= l.length) (fun i => ⟨49, [(0, .ref 2000 [] l.length), (1, vI (k + (sumN fnN (l.take i) : Nat))), (5, vI i)], [(2000, .row 104 (rows (fnC false) (fnML k (l.take i)) ++ rows (fnC false) (l.drop i)))]⟩) (fun i => l.length - i) 0 (by simp) ?_ ?_
 · refine Ent.weak ?_ ?_ ?_ ?_ <;> simp +decide [subT, subB, zj, zi, St.get, look, vI, vB, rows, sumN, fnML]
 · rintro i hi
   refine zf ze _ ?_
   by_cases h' : i < l.length
   · have e : ((i : Int) < (l.length : Int)) = True := by simp [h']
     have hs1 := xw fnN l h'
     have hs2 := Yd fnN l (i + 1)
     have hu : fnN l[i] = 4 + sumN zV l[i].params := rfl
     rw [List.drop_eq_getElem_cons h']
     obtain ⟨EA, hEA⟩ : ∃ E, E = rows (fnC false) (fnML k (l.take i)) := ⟨_, rfl⟩
     obtain ⟨EB, hEB⟩ : ∃ E, E = rows (fnC false) (l.drop (i + 1)) := ⟨_, rfl⟩
     obtain ⟨q, hq⟩ : ∃ q, q = k + (sumN fnN (l.take i) : Nat) := ⟨_, rfl⟩
     have e4 : EA ++ fnC false (fnM q l[i]) :: EB = rows (fnC false) (fnML k (l.take (i + 1))) ++ rows (fnC false) (l.drop (i + 1)) := by
      rw [hEA, hEB, hq, ziH k l h']; simp [rows]
     have hA : EA.length = i := by rw [hEA, yt, Yl]; simp; omega
     have hn : EA.length + (EB.length + 1) = l.length := by rw [hA, hEB, yt, List.length_drop]; omega
     have e0 : rows (fnC false) (fnML k (l.take i)) ++ rows (fnC false) (l[i] :: l.drop (i + 1)) = EA ++ fnC false l[i] :: EB := by rw [hEA, hEB]; rfl
     rw [e0, <- hq]
     have hq0 : 0 <= q := by omega
     have w0 : IntKind.i64.wrap (q + 1) = q + 1 := w64 (by omega) (by omega)
     have w1 : IntKind.i64.wrap (((q + 1) + (sumN zV l[i].params : Nat)) + 1) = ((q + 1) + (sumN zV l[i].params : Nat)) + 1 := w64 (by omega) (by omega)
     have w2 : IntKind.i64.wrap ((((q + 1) + (sumN zV l[i].params : Nat)) + 1) + 1) = (((q + 1) + (sumN zV l[i].params : Nat)) + 1) + 1 := w64 (by omega) (by omega)
     have w3 : IntKind.i64.wrap (((((q + 1) + (sumN zV l[i].params : Nat)) + 1) + 1) + 1) = ((((q + 1) + (sumN zV l[i].params : Nat)) + 1) + 1) + 1 := w64 (by omega) (by omega)
     simp +decide only [e, h', hn, xm hA, yH hA, xk hA, yx hA, yN hA, iN, vI, fnC, w0, w1, w2, w3, hpin, go_sem, aD, mU]
     refine zd (yR q (by omega) (by omega)) hpin ?_
     simp +decide only [e, h', hn, xm hA, yH hA, xk hA, yx hA, yN hA, iN, vI, fnC, w0, w1, w2, w3, hpin, go_sem, aD, mU]
     refine zcs 2000 [(i, 1)] 1000 (x := ?x1) (e := 107) (es := rows (zn false) l[i].params) ?ho ?hs (by simp) (by decide) ?ho2 (hpin 1000 rfl) (fun z => ?_)
     case ho => exact rfl
     case hs => simp [subO, subD, yx hA]
     case ho2 => exact rfl
     simp +decide only [e, h', hn, xm hA, yH hA, xk hA, yx hA, yN hA, iN, vI, fnC, w0, w1, w2, w3, hpin, go_sem, aD, mU]
     have hgeparams := Xo (f := zV) (fun x => by unfold zV; omega) l[i].params
     refine Yc (zcO l[i].params (q + 1) (by omega) (by omega)) (zdR (pin3 hpin) (by decide)) [(2000, 1000)] ⟨rfl, rfl, rfl⟩ (fun uf => ⟨rfl, rfl⟩) (fun uf => ?_) ?_
     · simp +decide only [e, h', hn, xm hA, yH hA, xk hA, yx hA, yN hA, iN, vI, fnC, w0, w1, w2, w3, hpin, go_sem, aD, mU]
     simp +decide only [e, h', hn, xm hA, yH hA, xk hA, yx hA, yN hA, iN, vI, fnC, w0, w1, w2, w3, hpin, go_sem, aD, mU]
     refine ⟨i + 1, h', by omega, Ent.weak ?_ ?_ ?_ ?_⟩
     · have e5 : k + (sumN fnN (l.take (i + 1)) : Nat) = (((((q + 1) + (sumN zV l[i].params : Nat)) + 1) + 1) + 1) := by omega
       simp +decide [subT, St.get, look, w64s (n := l.length) h' (by omega), vI, vB, e5, hn]
     · rw [<- e4]; simp +decide [subB, look, fnC, fnM, cI, cS, cB, XU]
     all_goals simp +decide [zj, zi, look, vI, hn]
   · have hil : i = l.length := by omega
     subst hil
     have e : ((l.length : Int) < (l.length : Int)) = False := by simp
     have e6 : rows (fnC false) (fnML k (l.take l.length)) ++ rows (fnC false) (l.drop l.length) = rows (fnC false) (fnML k l) := by simp [rows]
     rw [e6]
     simp +decide only [e, vI, hpin, go_sem, aD, mU]
theorem zgY (l : List FnD) (k : Int) (h0 : 0 <= k) (h1 : k + (sumN fnN l : Nat) < 4611686018427387904) :
 zx Tryz.prog 75 [.ro (.imm 104 (rows (fnC true) (fnML k l))), .ro (.sc (.int .i64 k))] (fun rs st => rs = [(false, [cI (k + (sumN fnN l : Nat))])]) := by
 have hll := Xo (f := fnN) (fun x => by unfold fnN; omega) l
 refine zq (fn := Tryz.f75) (c := Tryz.f75.body.getD .skip) (res := [.tm 4]) (n := 59) ze (by kernel_rfl) (by rfl) (by kernel_rfl) (by rfl) (by rfl) (by simp [zu]) (fun C hpin hfull => ?_)
 simp +decide only [Tryz.f75, hpin, go_sem, aD, mU]
 refine Tri.loop (ι := Nat) (fun i => i <= l.length) (fun i => ⟨59, [(0, .imm 104 (rows (fnC true) (fnML k l))), (1, vI (k + (sumN fnN (l.take i) : Nat))), (5, vI i)], []⟩) (fun i => l.length - i) 0 (by simp) ?_ ?_
 · refine Ent.weak ?_ ?_ ?_ ?_ <;> simp +decide [subT, subB, zj, zi, St.get, look, vI, vB, rows, sumN]
 · rintro i hi
   refine zf ze _ ?_
   by_cases h' : i < l.length
   · have e : ((i : Int) < (l.length : Int)) = True := by simp [h']
     have hs1 := xw fnN l h'
     have hs2 := Yd fnN l (i + 1)
     have hu : fnN l[i] = 4 + sumN zV l[i].params := rfl
     have h2 : i < (fnML k l).length := by rw [Yl]; exact h'
     have hg : (rows (fnC true) (fnML k l)).getD i [] = fnC true (fnM (k + (sumN fnN (l.take i) : Nat)) l[i]) := by rw [zk _ _ h2, zoz k l h' h2]
     obtain ⟨q, hq⟩ : ∃ q, q = k + (sumN fnN (l.take i) : Nat) := ⟨_, rfl⟩
     rw [<- hq] at hg |-
     have hq0 : 0 <= q := by omega
     have w0 : IntKind.i64.wrap (q + 1) = q + 1 := w64 (by omega) (by omega)
     have w1 : IntKind.i64.wrap (((q + 1) + (sumN zV l[i].params : Nat)) + 1) = ((q + 1) + (sumN zV l[i].params : Nat)) + 1 := w64 (by omega) (by omega)
     have w2 : IntKind.i64.wrap ((((q + 1) + (sumN zV l[i].params : Nat)) + 1) + 1) = (((q + 1) + (sumN zV l[i].params : Nat)) + 1) + 1 := w64 (by omega) (by omega)
     have w3 : IntKind.i64.wrap (((((q + 1) + (sumN zV l[i].params : Nat)) + 1) + 1) + 1) = ((((q + 1) + (sumN zV l[i].params : Nat)) + 1) + 1) + 1 := w64 (by omega) (by omega)
     simp +decide only [e, h', hg, XU, bne_self_eq_false, iN, vI, fnC, fnM, w0, w1, w2, w3, hpin, go_sem, aD, mU]
     refine Tri.sched ze [(0, true), (1, true), (2, true), (3, true), (5, true), (4, true), (6, false), (7, false)] zO (by kernel_rfl) (fun C2 hC2 => ?_)
     have hp2 := zP hC2 hpin
     simp +decide only [e, h', hg, XU, bne_self_eq_false, iN, vI, fnC, fnM, w0, w1, w2, w3, hp2, go_sem, aD, mU]
     refine zd (yR q (by omega) (by omega)) hp2 ?_
     simp +decide only [e, h', hg, XU, bne_self_eq_false, iN, vI, fnC, fnM, w0, w1, w2, w3, hp2, go_sem, aD, mU]
     try simp +decide only [e, h', hg, XU, bne_self_eq_false, iN, vI, fnC, fnM, w0, w1, w2, w3, hpin, go_sem, aD, mU]
     refine zd (zcR l[i].params (q + 1) (by omega) (by omega)) hpin ?_
     have n1 : (((q + 1) + (sumN zV l[i].params : Nat) : Int) < 0) = False := by simp; omega
     try simp +decide only [e, h', hg, XU, bne_self_eq_false, iN, vI, fnC, fnM, w0, w1, w2, w3, n1, hpin, go_sem, aD, mU]
     have e5 : k + (sumN fnN (l.take (i + 1)) : Nat) = (((((q + 1) + (sumN zV l[i].params : Nat)) + 1) + 1) + 1) := by omega
     refine ⟨i + 1, h', by omega, Ent.weak ?_ ?_ ?_ ?_⟩
     · simp +decide [subT, St.get, look, w64s (n := l.length) h' (by omega), vI, vB, e5]
     all_goals simp +decide [subB, zj, zi, look, vI]
   · have hil : i = l.length := by omega
     subst hil
     have e : ((l.length : Int) < (l.length : Int)) = False := by simp
     simp +decide only [e, vI, hpin, go_sem, aD, mU]
def zod (x : ProgramD) : Nat := 0 + sumN yF x.nodes + sumN fnN x.fns
def zoe (q : Int) (x : ProgramD) : ProgramD := ⟨yI q x.nodes, fnML (q + (sumN yF x.nodes : Nat)) x.fns⟩
def zdP : Int -> List ProgramD -> List ProgramD
 | _, [] => []
 | q, x :: r => zoe q x :: zdP (q + (zod x : Nat)) r
theorem XR : ∀ (q : Int) (l : List ProgramD), (zdP q l).length = l.length
 | _, [] => rfl
 | q, x :: r => by simp [zdP, XR]
attribute [go_sem] XR
theorem Xa (x : ProgramD) (k : Int) (h0 : 0 <= k) (h1 : k + x.nodes.length + x.fns.length + (sumN yF x.nodes : Nat) + (sumN fnN x.fns : Nat) < 4611686018427387904) :
 SoundAt Tryz.prog 15 (fun uf => zu 0 [.ro (.agg [.sc (uf 2000), .sc (uf 2001)]), .ro (.sc (.int .i64 k))]) [(2000, .row 83 (rows (zg false) (x.nodes))), (2001, .row 104 (rows (fnC false) (x.fns)))]
  (fun rs st => rs = [(false, [cI ((k + (sumN yF x.nodes : Nat)) + (sumN fnN x.fns : Nat))])] /\ xr st.ob [(2000, .row 83 (rows (zg false) (yI k x.nodes))), (2001, .row 104 (rows (fnC false) (fnML (k + (sumN yF x.nodes : Nat)) x.fns)))]) := by
 refine yL (fn := Tryz.f15) (c := Tryz.f15.body.getD .skip) (res := [.tm 4]) (n := 14) ze (by kernel_rfl) (by rfl) (by kernel_rfl) (by rfl) (by rfl) (by simp [zu]) (fun uf ub C hpin hpin2 hfull => ?_)
 simp +decide only [Tryz.f15, hpin, hpin2, go_sem, aD, mU]
 refine xX (zej x.nodes k (by omega) (by omega)) hpin [(2000, 2000)] ⟨rfl, rfl, rfl⟩ (fun uf => ⟨rfl, rfl⟩) (fun uf => ?_) ?_
 · simp +decide only [hpin2, go_sem, aD, mU]
 simp +decide only [hpin, hpin2, zt, go_sem, aD, mU]
 refine xX (zgK x.fns (k + (sumN yF x.nodes : Nat)) (by omega) (by omega)) hpin [(2000, 2001)] ⟨rfl, rfl, rfl⟩ (fun uf => ⟨rfl, rfl⟩) (fun uf => ?_) ?_
 · simp +decide only [hpin2, go_sem, aD, mU]
 simp +decide only [hpin, hpin2, zt, go_sem, aD, mU]
def varN (x : VarD) : Nat := 3
def varM (q : Int) (x : VarD) : VarD := ⟨zcN q, (q + 1), ((q + 1) + 1)⟩
def zpg : Int -> List VarD -> List VarD
 | _, [] => []
 | q, x :: r => varM q x :: zpg (q + (varN x : Nat)) r
theorem zcu : ∀ (q : Int) (l : List VarD), (zpg q l).length = l.length
 | _, [] => rfl
 | q, x :: r => by simp [zpg, zcu]
attribute [go_sem] zcu
def zqd (x : EffectD) : Nat := 2
def zqe (q : Int) (x : EffectD) : EffectD := ⟨zcN q, (q + 1)⟩
def zhh : Int -> List EffectD -> List EffectD
 | _, [] => []
 | q, x :: r => zqe q x :: zhh (q + (zqd x : Nat)) r
theorem zan : ∀ (q : Int) (l : List EffectD), (zhh q l).length = l.length
 | _, [] => rfl
 | q, x :: r => by simp [zhh, zan]
attribute [go_sem] zan
def sp1 (c : UInt8) : ByteArray := ⟨#[c]⟩
theorem zbZ (c : UInt8) : (((sp1 c).size : Nat) : Int) = 1 := rfl
theorem i10 : ((1 : Int) == 0) = false := rfl
theorem im0 : ((-1 : Int) == 0) = false := rfl
theorem i11 : ((1 : Int) == 1) = true := rfl
theorem zjr (c : UInt8) : (sp1 c).data.toList.getD (Int.toNat 0) 0 = c := rfl
theorem ziz (s : ByteArray) (c : UInt8) : zx Tryz.prog 250 [.ro (.sc (.string s)), .ro (.sc (.int .u8 (c.toNat : Int)))] (fun rs st => rs = [(false, [cI (Lib.indexByte s.data.toList c)])]) := by
 refine zq (fn := Tryz.f250) (c := Tryz.f250.body.getD .skip) (res := [.tm 4]) (n := 8) ze (by kernel_rfl) (by rfl) (by kernel_rfl) (by rfl) (by rfl) (by simp [zu]) (fun C hpin hfull => ?_)
 simp +decide only [Tryz.f250, hpin, go_sem, aD, mU]
 refine zjf (fn := Tryz.f254) (e := Extern.BytealgIndexByte.indexByte) (us := [.string s, .int .u8 (c.toNat : Int)]) (r := .int .i64 (Lib.indexByte s.data.toList c)) (by kernel_rfl) (by kernel_rfl) (by kernel_rfl) (by kernel_rfl) (by kernel_rfl) (fun w => by have := Lib.run_indexByteString (P := Tryz.prog) s (c.toNat : Int) w; simpa using this) rfl rfl ?_
 simp +decide only [hpin, go_sem, aD, mU]
theorem zpH (c : UInt8) : Lib.indexByte (sp1 c).data.toList c = 0 := by simp [sp1, Lib.indexByte]
theorem zng (s : ByteArray) (c : UInt8) : zx Tryz.prog 247 [.ro (.sc (.string s)), .ro (.sc (.string (sp1 c)))] (fun rs st => rs = [(false, [cI (Lib.indexByte s.data.toList c)])]) := by
 refine zq (fn := Tryz.f247) (c := Tryz.f247.body.getD .skip) (res := [.tm 4]) (n := 143) ze (by kernel_rfl) (by rfl) (by kernel_rfl) (by rfl) (by rfl) (by simp [zu]) (fun C hpin hfull => ?_)
 simp +decide only [Tryz.f247, zbZ, zjr, i10, i11, hpin, go_sem, aD, mU]
 cases h : decide (sp1 c = s) with
 | true =>
  have h' := of_decide_eq_true h
  subst h'
  simp +decide only [hpin, go_sem, aD, mU]
  rw [zpH]
 | false =>
  simp +decide only [zbZ, zjr, i10, i11, hpin, go_sem, aD, mU]
  refine zd (ziz s c) hpin ?_
  simp +decide only [hpin, go_sem, aD, mU]
theorem ziB (s : ByteArray) (c : UInt8) : zx Tryz.prog 236 [.ro (.sc (.string s)), .ro (.sc (.string (sp1 c)))] (fun rs st => rs = [(false, [cI (Lib.indexByte s.data.toList c)])]) := by
 refine zq (fn := Tryz.f236) (c := Tryz.f236.body.getD .skip) (res := [.tm 4]) (n := 8) ze (by kernel_rfl) (by rfl) (by kernel_rfl) (by rfl) (by rfl) (by simp [zu]) (fun C hpin hfull => ?_)
 simp +decide only [Tryz.f236, hpin, go_sem, aD, mU]
 refine zd (zng s c) hpin ?_
 simp +decide only [hpin, go_sem, aD, mU]
theorem ziP (s : ByteArray) (c : UInt8) : zx Tryz.prog 235 [.ro (.sc (.string s)), .ro (.sc (.string (sp1 c)))] (fun rs st => rs = [(false, [cI ((s.data.toList.count c : Nat) : Int)])]) := by
 refine zq (fn := Tryz.f235) (c := Tryz.f235.body.getD .skip) (res := [.tm 4]) (n := 34) ze (by kernel_rfl) (by rfl) (by kernel_rfl) (by rfl) (by rfl) (by simp [zu]) (fun C hpin hfull => ?_)
 simp +decide only [Tryz.f235, zbZ, zjr, i10, i11, hpin, go_sem, aD, mU]
 refine zjf (fn := Tryz.f246) (e := Extern.BytealgCount.count) (us := [.string s, .int .u8 (c.toNat : Int)]) (r := .int .i64 ((s.data.toList.count c : Nat) : Int)) (by kernel_rfl) (by kernel_rfl) (by kernel_rfl) (by kernel_rfl) (by kernel_rfl) (fun w => by have := Lib.run_countString (P := Tryz.prog) s (c.toNat : Int) w; simpa [Lib.countByte] using this) rfl rfl ?_
 simp +decide only [hpin, go_sem, aD, mU]
theorem zlr (s : ByteArray) : s.data.toList.length = s.size := by cases s; rfl
theorem zoF (s : ByteArray) (m : Nat) : s.extract 0 m = zaR (s.data.toList.take m) := by
 apply ByteArray.ext
 rw [ByteArray.data_extract]
 apply Array.toList_inj.1
 rw [Array.toList_extract, List.extract_eq_take_drop]
 simp [zaR]
theorem zkV (s : ByteArray) (k : Nat) : (s.extract k s.size).data.toList = s.data.toList.drop k := by
 rw [ByteArray.data_extract, Array.toList_extract, List.extract_eq_take_drop, <- zlr, List.take_of_length_le (by simp)]
theorem zoG (s : ByteArray) (k : Nat) : (s.extract k s.size).size = s.size - k := by simp
def parts (done : List (List UInt8)) (N : Nat) : List ByteArray := done.map zaR ++ List.replicate (N - done.length) ⟨#[]⟩
theorem zcz {done : List (List UInt8)} {N : Nat} (h : done.length <= N) : (parts done N).length = N := by simp [parts]; omega
theorem zic {done : List (List UInt8)} {N : Nat} (h : done.length < N) (x : List UInt8) : (parts done N).set done.length (zaR x) = parts (done ++ [x]) N := by
 unfold parts
 rw [List.set_append_right _ _ (by simp), List.length_map, Nat.sub_self]
 obtain ⟨m, hm⟩ : ∃ m, N - done.length = m + 1 := ⟨N - done.length - 1, by omega⟩
 rw [hm, List.replicate_succ, List.set_cons_zero]
 have hm2 : N - (done ++ [x]).length = m := by simp; omega
 rw [hm2]
 simp only [List.map_append, List.map_cons, List.map_nil, List.append_assoc, List.cons_append, List.nil_append]
theorem zfs (s : ByteArray) (c : UInt8) (hs : s.size <= 1048576) : zx Tryz.prog 218 [.ro (.sc (.string s)), .ro (.sc (.string (sp1 c))), .ro (.sc (.int .i64 0)), .ro (.sc (.int .i64 (-1)))] (fun rs st => rs = [(false, [.row false 9 (row1 cS (zac s c))])]) := by
 refine zq (fn := Tryz.f218) (c := Tryz.f218.body.getD .skip) (res := [.tm 8]) (n := 66) ze (by kernel_rfl) (by rfl) (by kernel_rfl) (by rfl) (by rfl) (by simp [zu]) (fun C hpin hfull => ?_)
 have hc : s.data.toList.count c <= s.size := by rw [<- zlr]; exact List.count_le_length
 have w1 : IntKind.i64.wrap (((s.data.toList.count c : Nat) : Int) + 1) = ((s.data.toList.count c + 1 : Nat) : Int) := by rw [w64 (by omega) (by omega)]; omega
 have w2 : IntKind.i64.wrap (((s.size : Nat) : Int) + 1) = ((s.size + 1 : Nat) : Int) := by rw [w64 (by omega) (by omega)]; omega
 have e0 : ¬ sp1 c = (⟨#[]⟩ : ByteArray) := by intro h; have := congrArg ByteArray.size h; simp [sp1, ByteArray.size] at this
 simp +decide only [Tryz.f218, e0, im0, zbZ, hpin, go_sem, aD, mU]
 refine zd (ziP s c) hpin ?_
 have em : ((((s.size + 1 : Nat) : Int)) < ((s.data.toList.count c + 1 : Nat) : Int)) = False := eq_false (by omega)
 have w3 : IntKind.i64.wrap (((s.data.toList.count c + 1 : Nat) : Int) - 1) = ((s.data.toList.count c : Nat) : Int) := by rw [w64 (by omega) (by omega)]; omega
 simp +decide only [w1, w2, w3, em, e0, im0, zbZ, hpin, go_sem, aD, mU]
 refine ⟨by omega, by omega, by omega, ?_⟩
 let n0 := s.data.toList.count c
 refine Tri.loop (ι := List (List UInt8) × ByteArray) (fun q => ZE s.data.toList c = q.1 ++ ZE q.2.data.toList c /\ q.1.length + q.2.data.toList.count c = n0 /\ q.2.size <= 1048576) (fun q => ⟨66, [(0, vS q.2), (1, vS (sp1 c)), (2, vI 0), (3, vI n0), (8, .ref 8 [] 0), (9, .ref 9 [] (n0 + 1)), (10, vI q.1.length)], [(9, .row 9 (row1 cS (parts q.1 (n0 + 1)))), (8, .row 9 [])]⟩) (fun q => n0 - q.1.length) ([], s) ⟨by simp, by simp [n0], hs⟩ ?_ ?_
 · refine Ent.weak ?_ ?_ ?_ ?_ <;> simp +decide [subT, subB, zj, zi, zm, St.get, look, vI, vB, vS, cS, parts, row1, n0]
 · rintro ⟨done, cur⟩ ⟨hq1, hq2, hq3⟩
   simp only at hq1 hq2 hq3 |-
   refine zf ze _ ?_
   have hcc : cur.data.toList.count c <= cur.size := by rw [<- zlr]; exact List.count_le_length
   by_cases h : done.length < n0
   · have e : ((done.length : Int) < (n0 : Int)) = True := by simpa using h
     have hpl := zcz (done := done) (N := n0 + 1) (by omega)
     simp +decide only [e, hpl, vI, vS, hpin, go_sem, aD, mU]
     refine zd (ziB cur c) hpin ?_
     have hm : 0 <= Lib.indexByte cur.data.toList c := by
      have h1 := Lib.indexByte_ge cur.data.toList c
      by_cases h2 : Lib.indexByte cur.data.toList c = -1
      · have h3 := Xp cur.data.toList c
        rw [zdB h2] at h3
        simp only [List.length_singleton] at h3
        omega
      · omega
     obtain ⟨g1, g2, g3⟩ := zdA hm
     generalize hmm : Lib.indexByte cur.data.toList c = m at hm g1 g2 g3 |-
     have en : (m < 0) = False := by simpa using hm
     have hlt : m.toNat < cur.size := by rw [<- zlr]; exact g1
     have w4 : IntKind.i64.wrap (m + 0) = m := by rw [w64 (by omega) (by omega)]; omega
     have w5 : IntKind.i64.wrap (m + 1) = m + 1 := w64 (by omega) (by omega)
     have hi : done.length < (parts done (n0 + 1)).length := by rw [hpl]; omega
     simp +decide only [e, en, hpl, w4, w5, zbZ, zw _ _ hi, vI, vS, hpin, go_sem, aD, mU]
     have e5 := zdf cS (parts done (n0 + 1)) done.length (zaR (cur.data.toList.take m.toNat))
     rw [zic (by omega)] at e5
     have e6 : cur.extract (Int.toNat 0) m.toNat = zaR (cur.data.toList.take m.toNat) := zoF cur m.toNat
     have e7 : (m + 1).toNat = m.toNat + 1 := by omega
     simp only [cS] at e5
     rw [e6, e5]
     refine ⟨by omega, by omega, by omega, by omega, (done ++ [cur.data.toList.take m.toNat], cur.extract (m.toNat + 1) cur.size), ⟨?_, ?_, ?_⟩, ?_, Ent.weak ?_ ?_ ?_ ?_⟩
     · simp only [zkV]; rw [hq1, g2]; simp
     · simp only [zkV, List.length_append, List.length_singleton]; omega
     · simp only [zoG]; omega
     · simp only [List.length_append, List.length_singleton]; omega
     · have w6 : IntKind.i64.wrap ((done.length : Int) + 1) = ((done.length + 1 : Nat) : Int) := by rw [w64 (by omega) (by omega)]; omega
       simp +decide [subT, St.get, look, vI, vS, w6, e7]
     · simp +decide [subB, look, cS]
     all_goals simp +decide [zj, zi, look, vI, vS]
   · have hd : done.length = n0 := by omega
     have e : ((done.length : Int) < (n0 : Int)) = False := by simp; omega
     have hpl := zcz (done := done) (N := n0 + 1) (by omega)
     have hi : done.length < (parts done (n0 + 1)).length := by rw [hpl]; omega
     have w6 : IntKind.i64.wrap ((done.length : Int) + 1) = ((done.length + 1 : Nat) : Int) := by rw [w64 (by omega) (by omega)]; omega
     have hx : ZE cur.data.toList c = [cur.data.toList] := by
      refine zdB ?_
      have h1 := Lib.indexByte_ge cur.data.toList c
      by_cases h2 : 0 <= Lib.indexByte cur.data.toList c
      · have := (zdA h2).2.2
        omega
      · omega
     have e5 := zdf cS (parts done (n0 + 1)) done.length (zaR cur.data.toList)
     rw [zic (by omega), zkm] at e5
     simp only [cS] at e5
     have e6 : parts (done ++ [cur.data.toList]) (n0 + 1) = zac s c := by
      unfold zac parts
      rw [hq1, hx]
      have : n0 + 1 - (done ++ [cur.data.toList]).length = 0 := by simp; omega
      rw [this]; simp
     rw [e6] at e5
     have e7 : (zac s c).length = n0 + 1 := by unfold zac; rw [List.length_map, Xp]
     simp +decide only [e, hpl, zw _ _ hi, w6, e5, vI, vS, hpin, go_sem, aD, mU]
     exact ⟨by omega, by omega, by omega, by omega⟩
theorem zjp (s : ByteArray) (c : UInt8) (hs : s.size <= 1048576) : zx Tryz.prog 211 [.ro (.sc (.string s)), .ro (.sc (.string (sp1 c)))] (fun rs st => rs = [(false, [.row false 9 (row1 cS (zac s c))])]) := by
 refine zq (fn := Tryz.f211) (c := Tryz.f211.body.getD .skip) (res := [.tm 4]) (n := 8) ze (by kernel_rfl) (by rfl) (by kernel_rfl) (by rfl) (by rfl) (by simp [zu]) (fun C hpin hfull => ?_)
 simp +decide only [Tryz.f211, hpin, go_sem, aD, mU]
 refine zd (zfs s c hs) hpin ?_
 simp +decide only [hpin, go_sem, aD, mU]
def inI (n lo hi : Int) : Bool := decide (lo <= n) && decide (n <= hi)
theorem in' (n lo hi : Int) : zx Tryz.prog 40 [.ro (.sc (.int .i64 n)), .ro (.sc (.int .i64 lo)), .ro (.sc (.int .i64 hi))] (fun rs st => rs = [(false, [cB (inI n lo hi)])]) := zou n lo hi
theorem xp (n lo hi : Int) : zx Tryz.prog 35 [.ro (.sc (.int .i64 n)), .ro (.sc (.int .i64 lo)), .ro (.sc (.int .i64 hi))] (fun rs st => rs = [(false, [cB (inI n lo hi)])]) := zjP n lo hi
def letB (n : Int) : Bool := decide (97 <= n) && decide (n <= 122)
theorem zaN (n : Int) : zx Tryz.prog 143 [.ro (.sc (.int .u8 n))] (fun rs st => rs = [(false, [cB (letB n)])]) := by
 refine zq (fn := Tryz.f143) (c := Tryz.f143.body.getD .skip) (res := [.tm 2]) (n := 9) ze (by kernel_rfl) (by rfl) (by kernel_rfl) (by rfl) (by rfl) (by simp [zu]) (fun C hpin hfull => ?_)
 simp +decide only [Tryz.f143, hpin, go_sem, aD, mU]
 by_cases h : 97 <= n <;> simp [h, letB]
theorem zal (n : Int) : zx Tryz.prog 130 [.ro (.sc (.int .u8 n))] (fun rs st => rs = [(false, [cB (letB n)])]) := by
 refine zq (fn := Tryz.f130) (c := Tryz.f130.body.getD .skip) (res := [.tm 2]) (n := 9) ze (by kernel_rfl) (by rfl) (by kernel_rfl) (by rfl) (by rfl) (by simp [zu]) (fun C hpin hfull => ?_)
 simp +decide only [Tryz.f130, hpin, go_sem, aD, mU]
 by_cases h : 97 <= n <;> simp [h, letB]
def figB (n : Int) : Bool := decide (48 <= n) && decide (n <= 57)
theorem zfq (n : Int) : zx Tryz.prog 144 [.ro (.sc (.int .u8 n))] (fun rs st => rs = [(false, [cB (figB n)])]) := by
 refine zq (fn := Tryz.f144) (c := Tryz.f144.body.getD .skip) (res := [.tm 2]) (n := 9) ze (by kernel_rfl) (by rfl) (by kernel_rfl) (by rfl) (by rfl) (by simp [zu]) (fun C hpin hfull => ?_)
 simp +decide only [Tryz.f144, hpin, go_sem, aD, mU]
 by_cases h : 48 <= n <;> simp [h, figB]
theorem zeq (n : Int) : zx Tryz.prog 132 [.ro (.sc (.int .u8 n))] (fun rs st => rs = [(false, [cB (figB n)])]) := by
 refine zq (fn := Tryz.f132) (c := Tryz.f132.body.getD .skip) (res := [.tm 2]) (n := 9) ze (by kernel_rfl) (by rfl) (by kernel_rfl) (by rfl) (by rfl) (by simp [zu]) (fun C hpin hfull => ?_)
 simp +decide only [Tryz.f132, hpin, go_sem, aD, mU]
 by_cases h : 48 <= n <;> simp [h, figB]
def keyList : List ByteArray := [⟨#[102, 110]⟩, ⟨#[108, 101, 116]⟩, ⟨#[105, 102]⟩, ⟨#[101, 108, 115, 101]⟩, ⟨#[119, 104, 105, 108, 101]⟩, ⟨#[112, 114, 105, 110, 116]⟩, ⟨#[100, 111]⟩, ⟨#[110, 101, 119]⟩, ⟨#[99, 108, 111, 110, 101]⟩, ⟨#[109, 117, 116]⟩, ⟨#[105, 110, 112, 117, 116]⟩, ⟨#[105, 110, 116]⟩, ⟨#[98, 111, 120]⟩, ⟨#[114, 101, 116]⟩]
def zjR : ByteArray := ⟨#[102, 110, 32, 108, 101, 116, 32, 105, 102, 32, 101, 108, 115, 101, 32, 119, 104, 105, 108, 101, 32, 112, 114, 105, 110, 116, 32, 100, 111, 32, 110, 101, 119, 32, 99, 108, 111, 110, 101, 32, 109, 117, 116, 32, 105, 110, 112, 117, 116, 32, 105, 110, 116, 32, 98, 111, 120, 32, 114, 101, 116]⟩
theorem zgQ : zac zjR 32 = keyList := by kernel_rfl
def xg (l : List ByteArray) (s : ByteArray) : Bool := l.any fun w => decide (w = s)
theorem zaJ {l : List ByteArray} {s : ByteArray} {i : Nat} (h : i < l.length) : xg (l.take (i + 1)) s = (xg (l.take i) s || decide (l[i] = s)) := by
 unfold xg
 rw [List.take_succ_eq_append_getElem h, List.any_append]; simp
theorem zaI {l : List ByteArray} {s : ByteArray} {i : Nat} (h : i < l.length) (he : decide (l[i] = s) = true) : xg l s = true := by
 unfold xg
 rw [List.any_eq_true]
 exact ⟨l[i], lM h, he⟩
theorem zjF (s t : ByteArray) (ht : t.size <= 1048576) : zx Tryz.prog 187 [.ro (.sc (.string s)), .ro (.sc (.string t))] (fun rs st => rs = [(false, [cB (xg (zac t 32) s)])]) := by
 refine zq (fn := Tryz.f187) (c := Tryz.f187.body.getD .skip) (res := [.tm 4]) (n := 18) ze (by kernel_rfl) (by rfl) (by kernel_rfl) (by rfl) (by rfl) (by simp [zu]) (fun C hpin hfull => ?_)
 have hl : (zac t 32).length <= 1048577 := by
  unfold zac; rw [List.length_map, Xp]
  have : t.data.toList.count 32 <= t.size := by rw [<- zlr]; exact List.count_le_length
  omega
 simp +decide only [Tryz.f187, hpin, go_sem, aD, mU]
 refine zd (zjp t 32 ht) hpin ?_
 simp +decide only [sp1, hpin, go_sem, aD, mU]
 generalize zac t 32 = l at hl |-
 refine Tri.loop (ι := Nat) (fun i => i <= l.length /\ xg (l.take i) s = false) (fun i => ⟨18, [(0, vS s), (4, vB false), (8, .ref 3008 [] l.length), (9, vI l.length), (10, vI i)], [(3008, .row 9 (row1 cS l))]⟩) (fun i => l.length - i) 0 (by simp [xg]) ?_ ?_
 · refine Ent.weak ?_ ?_ ?_ ?_ <;> simp +decide [subT, subB, zj, zi, zm, St.get, look, vI, vB, vS, cS]
 · rintro i ⟨hi, hn⟩
   refine zf ze _ ?_
   by_cases h : i < l.length
   · have e : ((i : Int) < (l.length : Int)) = True := by simp [h]
     simp +decide only [e, zw _ _ h, zbq _ _ h, iN, vI, vB, vS, hpin, go_sem, aD, mU]
     cases hq : decide (l[i] = s) with
     | true =>
      simp +decide only [vI, vB, vS, zaI h hq, hpin, go_sem, aD, mU]
     | false =>
      simp +decide only [vI, vB, vS, hpin, go_sem, aD, mU]
      refine ⟨i + 1, ⟨h, by rw [zaJ h, hn, hq]; rfl⟩, by omega, Ent.weak ?_ ?_ ?_ ?_⟩
      all_goals simp +decide [subT, subB, zj, zi, St.get, look, w64s (n := l.length) h (by omega), vI, vB, vS, cS]
   · have hil : i = l.length := by omega
     subst hil
     have e : ((l.length : Int) < (l.length : Int)) = False := by simp
     rw [List.take_length] at hn
     simp +decide only [e, hn, vI, vB, vS, hpin, go_sem, aD, mU]
theorem zfp (s : ByteArray) : zx Tryz.prog 145 [.ro (.sc (.string s))] (fun rs st => rs = [(false, [cB (xg keyList s)])]) := by
 refine zq (fn := Tryz.f145) (c := Tryz.f145.body.getD .skip) (res := [.tm 2]) (n := 5) ze (by kernel_rfl) (by rfl) (by kernel_rfl) (by rfl) (by rfl) (by simp [zu]) (fun C hpin hfull => ?_)
 simp +decide only [Tryz.f145, hpin, go_sem, aD, mU]
 have := zjF s zjR (by decide)
 rw [zgQ] at this
 refine zd this hpin ?_
 simp +decide only [zjR, hpin, go_sem, aD, mU]
theorem zlL : zx Tryz.prog 184 [] (fun rs st => rs = [(false, [.row false 9 (row1 cS keyList)])]) := by
 refine zq (fn := Tryz.f184) (c := Tryz.f184.body.getD .skip) (res := [.tm 0]) (n := 2) ze (by kernel_rfl) (by rfl) (by kernel_rfl) (by rfl) (by rfl) (by simp [zu]) (fun C hpin hfull => ?_)
 simp +decide only [Tryz.f184, hpin, go_sem, aD, mU]
 rfl
theorem zfo (s : ByteArray) : zx Tryz.prog 131 [.ro (.sc (.string s))] (fun rs st => rs = [(false, [cB (xg keyList s)])]) := by
 refine zq (fn := Tryz.f131) (c := Tryz.f131.body.getD .skip) (res := [.tm 2]) (n := 18) ze (by kernel_rfl) (by rfl) (by kernel_rfl) (by rfl) (by rfl) (by simp [zu]) (fun C hpin hfull => ?_)
 simp +decide only [Tryz.f131, hpin, go_sem, aD, mU]
 refine zd zlL hpin ?_
 simp +decide only [hpin, go_sem, aD, mU]
 have hl : keyList.length <= 14 := by decide
 generalize keyList = l at hl |-
 refine Tri.loop (ι := Nat) (fun i => i <= l.length /\ xg (l.take i) s = false) (fun i => ⟨18, [(0, vS s), (2, vB false), (3, .ref 3 [] l.length), (4, vI i)], [(3, .row 9 (row1 cS l))]⟩) (fun i => l.length - i) 0 (by simp [xg]) ?_ ?_
 · refine Ent.weak ?_ ?_ ?_ ?_ <;> simp +decide [subT, subB, zj, zi, zm, St.get, look, vI, vB, vS, cS]
 · rintro i ⟨hi, hn⟩
   refine zf ze _ ?_
   by_cases h : i < l.length
   · have e : ((i : Int) < (l.length : Int)) = True := by simp [h]
     simp +decide only [e, zw _ _ h, zbq _ _ h, iN, vI, vB, vS, hpin, go_sem, aD, mU]
     cases hq : decide (l[i] = s) with
     | true =>
      simp +decide only [vI, vB, vS, zaI h hq, hpin, go_sem, aD, mU]
     | false =>
      simp +decide only [vI, vB, vS, hpin, go_sem, aD, mU]
      refine ⟨i + 1, ⟨h, by rw [zaJ h, hn, hq]; rfl⟩, by omega, Ent.weak ?_ ?_ ?_ ?_⟩
      all_goals simp +decide [subT, subB, zj, zi, St.get, look, w64s (n := l.length) h (by omega), vI, vB, vS, cS]
   · have hil : i = l.length := by omega
     subst hil
     have e : ((l.length : Int) < (l.length : Int)) = False := by simp
     rw [List.take_length] at hn
     simp +decide only [e, hn, vI, vB, vS, hpin, go_sem, aD, mU]
def chB (n : Nat) : Bool := letB n || figB n
def zao (s : ByteArray) (i : Nat) : Bool := (s.data.toList.take i).all fun b => chB b.toNat
def YJ (s : ByteArray) : Bool := inI s.size 1 8 && (letB (((s.data.toList.getD (Int.toNat 0) 0).toNat : Nat) : Int) && (!xg keyList s && zao s s.size))
theorem Ya {s : ByteArray} {i : Nat} (h : i < s.size) : zao s (i + 1) = (zao s i && chB (s.data.toList.getD i 0).toNat) := by
 have h' : i < s.data.toList.length := by rw [zlr]; exact h
 unfold zao
 have e : s.data.toList.getD i 0 = s.data.toList[i] := by rw [List.getD_eq_getElem?_getD, lE h']; rfl
 rw [List.take_succ_eq_append_getElem h', List.all_append, e]
 simp only [List.all_cons, List.all_nil, Bool.and_true]
theorem zeR {s : ByteArray} {i : Nat} (h : i < s.size) (hc : zao s (i + 1) = false) : zao s s.size = false := by
 have h2 : s.data.toList.take s.size = s.data.toList.take (i + 1) ++ (s.data.toList.drop (i + 1)).take (s.size - (i + 1)) := by
  rw [<- List.take_add]; congr 1; omega
 unfold zao at hc |-
 rw [h2, List.all_append, hc]; rfl
theorem xD (s : ByteArray) : zx Tryz.prog 64 [.ro (.sc (.string s))] (fun rs st => rs = [(false, [cB (YJ s)])]) := by
 refine zq (fn := Tryz.f64) (c := Tryz.f64.body.getD .skip) (res := [.tm 2]) (n := 35) ze (by kernel_rfl) (by rfl) (by kernel_rfl) (by rfl) (by rfl) (by simp [zu]) (fun C hpin hfull => ?_)
 simp +decide only [Tryz.f64, hpin, go_sem, aD, mU]
 refine zd (in' s.size 1 8) hpin ?_
 simp +decide only [hpin, go_sem, aD, mU]
 unfold YJ
 cases h1 : inI s.size 1 8 with
 | false =>
  simp +decide only [hpin, go_sem, aD, mU]
 | true =>
  have hs : 1 <= s.size /\ s.size <= 8 := by simp [inI] at h1; omega
  have e0 : ((0 : Int) < (s.size : Int)) = True := by simp; omega
  simp +decide only [e0, hpin, go_sem, aD, mU]
  refine zd (zaN (((s.data.toList.getD (Int.toNat 0) 0).toNat : Nat) : Int)) hpin ?_
  simp +decide only [hpin, go_sem, aD, mU]
  cases h2 : letB (((s.data.toList.getD (Int.toNat 0) 0).toNat : Nat) : Int) with
  | false =>
   simp +decide only [hpin, go_sem, aD, mU]
  | true =>
   simp +decide only [hpin, go_sem, aD, mU]
   refine Tri.loop (ι := Nat) (fun i => i <= s.size /\ zao s i = true) (fun i => ⟨35, [(0, vS s), (2, vB false), (3, vI i)], []⟩) (fun i => s.size - i) 0 (by simp [zao]) ?_ ?_
   · refine Ent.weak ?_ ?_ ?_ ?_ <;> simp +decide [subT, subB, zj, zi, zm, St.get, look, vI, vB, vS, cS]
   · rintro i ⟨hi, hn⟩
     refine zf ze _ ?_
     by_cases h : i < s.size
     · have e : ((i : Int) < (s.size : Int)) = True := by simp [h]
       simp +decide only [e, iN, vI, vB, vS, hpin, go_sem, aD, mU]
       refine zd (zaN (((s.data.toList.getD i 0).toNat : Nat) : Int)) hpin ?_
       simp +decide only [e, iN, vI, vB, vS, hpin, go_sem, aD, mU]
       cases hl : letB (((s.data.toList.getD i 0).toNat : Nat) : Int) with
       | true =>
        simp +decide only [vI, vB, vS, hpin, go_sem, aD, mU]
        refine ⟨i + 1, ⟨h, by rw [Ya h, hn, chB, hl]; rfl⟩, by omega, Ent.weak ?_ ?_ ?_ ?_⟩
        all_goals simp +decide [subT, subB, zj, zi, St.get, look, w64s (n := s.size) h (by omega), vI, vB, vS, cS]
       | false =>
        simp +decide only [e, iN, vI, vB, vS, hpin, go_sem, aD, mU]
        refine zd (zfq (((s.data.toList.getD i 0).toNat : Nat) : Int)) hpin ?_
        simp +decide only [vI, vB, vS, hpin, go_sem, aD, mU]
        cases hf : figB (((s.data.toList.getD i 0).toNat : Nat) : Int) with
        | true =>
         simp +decide only [vI, vB, vS, hpin, go_sem, aD, mU]
         refine ⟨i + 1, ⟨h, by rw [Ya h, hn, chB, hl, hf]; rfl⟩, by omega, Ent.weak ?_ ?_ ?_ ?_⟩
         all_goals simp +decide [subT, subB, zj, zi, St.get, look, w64s (n := s.size) h (by omega), vI, vB, vS, cS]
        | false =>
         have hx := zeR h (by rw [Ya h, hn, chB, hl, hf]; rfl)
         simp +decide only [hx, vI, vB, vS, hpin, go_sem, aD, mU]
     · have hil : i = s.size := by omega
       subst hil
       have e : ((s.size : Int) < (s.size : Int)) = False := by simp
       simp +decide only [e, hn, vI, vB, vS, hpin, go_sem, aD, mU]
       refine zd (zfp s) hpin ?_
       simp +decide only [vI, vB, vS, hpin, go_sem, aD, mU]
       simp [hn]
theorem Yh (s : ByteArray) : zx Tryz.prog 55 [.ro (.sc (.string s))] (fun rs st => rs = [(false, [cB (YJ s)])]) := by
 refine zq (fn := Tryz.f55) (c := Tryz.f55.body.getD .skip) (res := [.tm 2]) (n := 36) ze (by kernel_rfl) (by rfl) (by kernel_rfl) (by rfl) (by rfl) (by simp [zu]) (fun C hpin hfull => ?_)
 simp +decide only [Tryz.f55, hpin, go_sem, aD, mU]
 refine zd (xp s.size 1 8) hpin ?_
 simp +decide only [hpin, go_sem, aD, mU]
 unfold YJ
 cases h1 : inI s.size 1 8 with
 | false =>
  simp +decide only [hpin, go_sem, aD, mU]
 | true =>
  have hs : 1 <= s.size /\ s.size <= 8 := by simp [inI] at h1; omega
  have e0 : ((0 : Int) < (s.size : Int)) = True := by simp; omega
  simp +decide only [e0, hpin, go_sem, aD, mU]
  refine zd (zal (((s.data.toList.getD (Int.toNat 0) 0).toNat : Nat) : Int)) hpin ?_
  simp +decide only [hpin, go_sem, aD, mU]
  cases h2 : letB (((s.data.toList.getD (Int.toNat 0) 0).toNat : Nat) : Int) with
  | false =>
   simp +decide only [hpin, go_sem, aD, mU]
  | true =>
   simp +decide only [hpin, go_sem, aD, mU]
   refine zd (zfo s) hpin ?_
   simp +decide only [hpin, go_sem, aD, mU]
   cases h3 : xg keyList s with
   | true => simp +decide only [hpin, go_sem, aD, mU]
   | false =>
   simp +decide only [hpin, go_sem, aD, mU]
   refine Tri.loop (ι := Nat) (fun i => i <= s.size /\ zao s i = true) (fun i => ⟨36, [(0, vS s), (2, vB false), (3, vI i)], []⟩) (fun i => s.size - i) 0 (by simp [zao]) ?_ ?_
   · refine Ent.weak ?_ ?_ ?_ ?_ <;> simp +decide [subT, subB, zj, zi, zm, St.get, look, vI, vB, vS, cS]
   · rintro i ⟨hi, hn⟩
     refine zf ze _ ?_
     by_cases h : i < s.size
     · have e : ((i : Int) < (s.size : Int)) = True := by simp [h]
       simp +decide only [e, iN, vI, vB, vS, hpin, go_sem, aD, mU]
       refine zd (zal (((s.data.toList.getD i 0).toNat : Nat) : Int)) hpin ?_
       simp +decide only [e, iN, vI, vB, vS, hpin, go_sem, aD, mU]
       cases hl : letB (((s.data.toList.getD i 0).toNat : Nat) : Int) with
       | true =>
        simp +decide only [vI, vB, vS, hpin, go_sem, aD, mU]
        refine ⟨i + 1, ⟨h, by rw [Ya h, hn, chB, hl]; rfl⟩, by omega, Ent.weak ?_ ?_ ?_ ?_⟩
        all_goals simp +decide [subT, subB, zj, zi, St.get, look, w64s (n := s.size) h (by omega), vI, vB, vS, cS]
       | false =>
        simp +decide only [e, iN, vI, vB, vS, hpin, go_sem, aD, mU]
        refine zd (zeq (((s.data.toList.getD i 0).toNat : Nat) : Int)) hpin ?_
        simp +decide only [vI, vB, vS, hpin, go_sem, aD, mU]
        cases hf : figB (((s.data.toList.getD i 0).toNat : Nat) : Int) with
        | true =>
         simp +decide only [vI, vB, vS, hpin, go_sem, aD, mU]
         refine ⟨i + 1, ⟨h, by rw [Ya h, hn, chB, hl, hf]; rfl⟩, by omega, Ent.weak ?_ ?_ ?_ ?_⟩
         all_goals simp +decide [subT, subB, zj, zi, St.get, look, w64s (n := s.size) h (by omega), vI, vB, vS, cS]
        | false =>
         have hx := zeR h (by rw [Ya h, hn, chB, hl, hf]; rfl)
         simp +decide only [hx, vI, vB, vS, hpin, go_sem, aD, mU]
     · have hil : i = s.size := by omega
       subst hil
       have e : ((s.size : Int) < (s.size : Int)) = False := by simp
       simp +decide only [e, hn, vI, vB, vS, hpin, go_sem, aD, mU]
set_option maxHeartbeats 8000000
def xV (k : Int) : Bool := inI k 1 12
def XG (k : Int) : Bool := inI k 13 19
def yo (k : Int) : Bool := inI k 2 6 || inI k 12 15
def zJ (k : Int) : Int × Int :=
 if k == 8 then (1, 1) else if k == 13 then (1, 1) else if k == 14 then (1, 1) else if k == 15 then (1, 1) else if k == 18 then (1, 1) else if k == 19 then (1, 1)
 else if k == 9 then (2, 2) else if k == 10 then (2, 2) else if k == 11 then (2, 2) else if k == 17 then (2, 2)
 else if k == 16 then (3, 3) else if k == 12 then (0, 3) else if k == 20 then (0, 12) else (0, 0)
def yP (kind i kid : Int) : Bool := if kind == 20 then XG kid else if (kind == 16 || kind == 17) && decide (0 < i) then kid == 20 else if kind == 19 then kid == 12 else xV kid
theorem Yz (k : Int) : zx Tryz.prog 146 [.ro (.sc (.int .i64 k))] (fun rs st => rs = [(false, [cB (xV k)])]) := by
 refine zq (fn := Tryz.f146) (c := Tryz.f146.body.getD .skip) (res := [.tm 2]) (n := 5) ze (by kernel_rfl) (by rfl) (by kernel_rfl) (by rfl) (by rfl) (by simp [zu]) (fun C hpin hfull => ?_)
 simp +decide only [Tryz.f146, hpin, go_sem, aD, mU]
 refine zd (in' k 1 12) hpin ?_
 simp +decide only [xV, hpin, go_sem, aD, mU]
theorem zgT (k : Int) : zx Tryz.prog 237 [.ro (.sc (.int .i64 k))] (fun rs st => rs = [(false, [cB (XG k)])]) := by
 refine zq (fn := Tryz.f237) (c := Tryz.f237.body.getD .skip) (res := [.tm 2]) (n := 5) ze (by kernel_rfl) (by rfl) (by kernel_rfl) (by rfl) (by rfl) (by simp [zu]) (fun C hpin hfull => ?_)
 simp +decide only [Tryz.f237, hpin, go_sem, aD, mU]
 refine zd (in' k 13 19) hpin ?_
 simp +decide only [XG, hpin, go_sem, aD, mU]
theorem Yy (k : Int) : zx Tryz.prog 134 [.ro (.sc (.int .i64 k))] (fun rs st => rs = [(false, [cB (xV k)])]) := by
 refine zq (fn := Tryz.f134) (c := Tryz.f134.body.getD .skip) (res := [.tm 2]) (n := 5) ze (by kernel_rfl) (by rfl) (by kernel_rfl) (by rfl) (by rfl) (by simp [zu]) (fun C hpin hfull => ?_)
 simp +decide only [Tryz.f134, hpin, go_sem, aD, mU]
 refine zd (xp k 1 12) hpin ?_
 simp +decide only [xV, hpin, go_sem, aD, mU]
theorem zgS (k : Int) : zx Tryz.prog 233 [.ro (.sc (.int .i64 k))] (fun rs st => rs = [(false, [cB (XG k)])]) := by
 refine zq (fn := Tryz.f233) (c := Tryz.f233.body.getD .skip) (res := [.tm 2]) (n := 5) ze (by kernel_rfl) (by rfl) (by kernel_rfl) (by rfl) (by rfl) (by simp [zu]) (fun C hpin hfull => ?_)
 simp +decide only [Tryz.f233, hpin, go_sem, aD, mU]
 refine zd (xp k 13 19) hpin ?_
 simp +decide only [XG, hpin, go_sem, aD, mU]
theorem zaP (k : Int) : zx Tryz.prog 221 [.ro (.sc (.int .i64 k))] (fun rs st => rs = [(false, [cB (yo k)])]) := by
 refine zq (fn := Tryz.f221) (c := Tryz.f221.body.getD .skip) (res := [.tm 2]) (n := 9) ze (by kernel_rfl) (by rfl) (by kernel_rfl) (by rfl) (by rfl) (by simp [zu]) (fun C hpin hfull => ?_)
 simp +decide only [Tryz.f221, hpin, go_sem, aD, mU]
 refine zd (in' k 2 6) hpin ?_
 simp +decide only [hpin, go_sem, aD, mU]
 unfold yo
 cases h1 : inI k 2 6 with
 | true => simp +decide only [bT, hpin, go_sem, aD, mU]
 | false =>
  simp +decide only [hpin, go_sem, aD, mU]
  refine zd (in' k 12 15) hpin ?_
  simp +decide only [bO, hpin, go_sem, aD, mU]
theorem zei (k : Int) : zx Tryz.prog 216 [.ro (.sc (.int .i64 k))] (fun rs st => rs = [(false, [cB (yo k)])]) := by
 refine zq (fn := Tryz.f216) (c := Tryz.f216.body.getD .skip) (res := [.tm 2]) (n := 14) ze (by kernel_rfl) (by rfl) (by kernel_rfl) (by rfl) (by rfl) (by simp [zu]) (fun C hpin hfull => ?_)
 simp +decide only [Tryz.f216, hpin, go_sem, aD, mU]
 cases h2 : k == 2 with
 | true =>
  have hk : k = 2 := by simpa using h2
  have hr : yo k = true := by rw [hk]; decide
  simp +decide only [h2, hr, hpin, go_sem, aD, mU]
 | false =>
 simp +decide only [h2, hpin, go_sem, aD, mU]
 cases h3 : k == 3 with
 | true =>
  have hk : k = 3 := by simpa using h3
  have hr : yo k = true := by rw [hk]; decide
  simp +decide only [h3, hr, hpin, go_sem, aD, mU]
 | false =>
 simp +decide only [h3, hpin, go_sem, aD, mU]
 cases h4 : k == 4 with
 | true =>
  have hk : k = 4 := by simpa using h4
  have hr : yo k = true := by rw [hk]; decide
  simp +decide only [h4, hr, hpin, go_sem, aD, mU]
 | false =>
 simp +decide only [h4, hpin, go_sem, aD, mU]
 cases h5 : k == 5 with
 | true =>
  have hk : k = 5 := by simpa using h5
  have hr : yo k = true := by rw [hk]; decide
  simp +decide only [h5, hr, hpin, go_sem, aD, mU]
 | false =>
 simp +decide only [h5, hpin, go_sem, aD, mU]
 cases h6 : k == 6 with
 | true =>
  have hk : k = 6 := by simpa using h6
  have hr : yo k = true := by rw [hk]; decide
  simp +decide only [h6, hr, hpin, go_sem, aD, mU]
 | false =>
 simp +decide only [h6, hpin, go_sem, aD, mU]
 cases h12 : k == 12 with
 | true =>
  have hk : k = 12 := by simpa using h12
  have hr : yo k = true := by rw [hk]; decide
  simp +decide only [h12, hr, hpin, go_sem, aD, mU]
 | false =>
 simp +decide only [h12, hpin, go_sem, aD, mU]
 cases h13 : k == 13 with
 | true =>
  have hk : k = 13 := by simpa using h13
  have hr : yo k = true := by rw [hk]; decide
  simp +decide only [h13, hr, hpin, go_sem, aD, mU]
 | false =>
 simp +decide only [h13, hpin, go_sem, aD, mU]
 cases h14 : k == 14 with
 | true =>
  have hk : k = 14 := by simpa using h14
  have hr : yo k = true := by rw [hk]; decide
  simp +decide only [h14, hr, hpin, go_sem, aD, mU]
 | false =>
 simp +decide only [h14, hpin, go_sem, aD, mU]
 cases h15 : k == 15 with
 | true =>
  have hk : k = 15 := by simpa using h15
  have hr : yo k = true := by rw [hk]; decide
  simp +decide only [h15, hr, hpin, go_sem, aD, mU]
 | false =>
 simp +decide only [h15, hpin, go_sem, aD, mU]
 have hr : yo k = false := by simp at h2 h3 h4 h5 h6 h12 h13 h14 h15; simp [yo, inI]; omega
 simp +decide only [hr, hpin, go_sem, aD, mU]
theorem zhL (k : Int) : zx Tryz.prog 219 [.ro (.sc (.int .i64 k))] (fun rs st => rs = [(false, [cI (zJ k).1]), (false, [cI (zJ k).2])]) := by
 refine zq (fn := Tryz.f219) (c := Tryz.f219.body.getD .skip) (res := [.tm 2, .tm 3]) (n := 23) ze (by kernel_rfl) (by rfl) (by kernel_rfl) (by rfl) (by rfl) (by simp [zu]) (fun C hpin hfull => ?_)
 simp +decide only [Tryz.f219, hpin, go_sem, aD, mU]
 cases h8 : k == 8 with
 | true =>
  have hk : k = 8 := by simpa using h8
  have hr : zJ k = (1, 1) := by rw [hk]; decide
  simp +decide only [h8, hr, hpin, go_sem, aD, mU]
 | false =>
 simp +decide only [h8, hpin, go_sem, aD, mU]
 cases h13 : k == 13 with
 | true =>
  have hk : k = 13 := by simpa using h13
  have hr : zJ k = (1, 1) := by rw [hk]; decide
  simp +decide only [h13, hr, hpin, go_sem, aD, mU]
 | false =>
 simp +decide only [h13, hpin, go_sem, aD, mU]
 cases h14 : k == 14 with
 | true =>
  have hk : k = 14 := by simpa using h14
  have hr : zJ k = (1, 1) := by rw [hk]; decide
  simp +decide only [h14, hr, hpin, go_sem, aD, mU]
 | false =>
 simp +decide only [h14, hpin, go_sem, aD, mU]
 cases h15 : k == 15 with
 | true =>
  have hk : k = 15 := by simpa using h15
  have hr : zJ k = (1, 1) := by rw [hk]; decide
  simp +decide only [h15, hr, hpin, go_sem, aD, mU]
 | false =>
 simp +decide only [h15, hpin, go_sem, aD, mU]
 cases h18 : k == 18 with
 | true =>
  have hk : k = 18 := by simpa using h18
  have hr : zJ k = (1, 1) := by rw [hk]; decide
  simp +decide only [h18, hr, hpin, go_sem, aD, mU]
 | false =>
 simp +decide only [h18, hpin, go_sem, aD, mU]
 cases h19 : k == 19 with
 | true =>
  have hk : k = 19 := by simpa using h19
  have hr : zJ k = (1, 1) := by rw [hk]; decide
  simp +decide only [h19, hr, hpin, go_sem, aD, mU]
 | false =>
 simp +decide only [h19, hpin, go_sem, aD, mU]
 cases h9 : k == 9 with
 | true =>
  have hk : k = 9 := by simpa using h9
  have hr : zJ k = (2, 2) := by rw [hk]; decide
  simp +decide only [h9, hr, hpin, go_sem, aD, mU]
 | false =>
 simp +decide only [h9, hpin, go_sem, aD, mU]
 cases h10 : k == 10 with
 | true =>
  have hk : k = 10 := by simpa using h10
  have hr : zJ k = (2, 2) := by rw [hk]; decide
  simp +decide only [h10, hr, hpin, go_sem, aD, mU]
 | false =>
 simp +decide only [h10, hpin, go_sem, aD, mU]
 cases h11 : k == 11 with
 | true =>
  have hk : k = 11 := by simpa using h11
  have hr : zJ k = (2, 2) := by rw [hk]; decide
  simp +decide only [h11, hr, hpin, go_sem, aD, mU]
 | false =>
 simp +decide only [h11, hpin, go_sem, aD, mU]
 cases h17 : k == 17 with
 | true =>
  have hk : k = 17 := by simpa using h17
  have hr : zJ k = (2, 2) := by rw [hk]; decide
  simp +decide only [h17, hr, hpin, go_sem, aD, mU]
 | false =>
 simp +decide only [h17, hpin, go_sem, aD, mU]
 cases h16 : k == 16 with
 | true =>
  have hk : k = 16 := by simpa using h16
  have hr : zJ k = (3, 3) := by rw [hk]; decide
  simp +decide only [h16, hr, hpin, go_sem, aD, mU]
 | false =>
 simp +decide only [h16, hpin, go_sem, aD, mU]
 cases h12 : k == 12 with
 | true =>
  have hk : k = 12 := by simpa using h12
  have hr : zJ k = (0, 3) := by rw [hk]; decide
  simp +decide only [h12, hr, hpin, go_sem, aD, mU]
 | false =>
 simp +decide only [h12, hpin, go_sem, aD, mU]
 cases h20 : k == 20 with
 | true =>
  have hk : k = 20 := by simpa using h20
  have hr : zJ k = (0, 12) := by rw [hk]; decide
  simp +decide only [h20, hr, hpin, go_sem, aD, mU]
 | false =>
 simp +decide only [h20, hpin, go_sem, aD, mU]
 have hr : zJ k = (0, 0) := by simp only [zJ, h8, h13, h14, h15, h18, h19, h9, h10, h11, h17, h16, h12, h20, bF, if_false]
 simp +decide only [hr, hpin, go_sem, aD, mU]
theorem zhK (k : Int) : zx Tryz.prog 215 [.ro (.sc (.int .i64 k))] (fun rs st => rs = [(false, [cI (zJ k).1]), (false, [cI (zJ k).2])]) := by
 refine zq (fn := Tryz.f215) (c := Tryz.f215.body.getD .skip) (res := [.tm 2, .tm 3]) (n := 23) ze (by kernel_rfl) (by rfl) (by kernel_rfl) (by rfl) (by rfl) (by simp [zu]) (fun C hpin hfull => ?_)
 simp +decide only [Tryz.f215, hpin, go_sem, aD, mU]
 cases h8 : k == 8 with
 | true =>
  have hk : k = 8 := by simpa using h8
  have hr : zJ k = (1, 1) := by rw [hk]; decide
  simp +decide only [h8, hr, hpin, go_sem, aD, mU]
 | false =>
 simp +decide only [h8, hpin, go_sem, aD, mU]
 cases h13 : k == 13 with
 | true =>
  have hk : k = 13 := by simpa using h13
  have hr : zJ k = (1, 1) := by rw [hk]; decide
  simp +decide only [h13, hr, hpin, go_sem, aD, mU]
 | false =>
 simp +decide only [h13, hpin, go_sem, aD, mU]
 cases h14 : k == 14 with
 | true =>
  have hk : k = 14 := by simpa using h14
  have hr : zJ k = (1, 1) := by rw [hk]; decide
  simp +decide only [h14, hr, hpin, go_sem, aD, mU]
 | false =>
 simp +decide only [h14, hpin, go_sem, aD, mU]
 cases h15 : k == 15 with
 | true =>
  have hk : k = 15 := by simpa using h15
  have hr : zJ k = (1, 1) := by rw [hk]; decide
  simp +decide only [h15, hr, hpin, go_sem, aD, mU]
 | false =>
 simp +decide only [h15, hpin, go_sem, aD, mU]
 cases h18 : k == 18 with
 | true =>
  have hk : k = 18 := by simpa using h18
  have hr : zJ k = (1, 1) := by rw [hk]; decide
  simp +decide only [h18, hr, hpin, go_sem, aD, mU]
 | false =>
 simp +decide only [h18, hpin, go_sem, aD, mU]
 cases h19 : k == 19 with
 | true =>
  have hk : k = 19 := by simpa using h19
  have hr : zJ k = (1, 1) := by rw [hk]; decide
  simp +decide only [h19, hr, hpin, go_sem, aD, mU]
 | false =>
 simp +decide only [h19, hpin, go_sem, aD, mU]
 cases h9 : k == 9 with
 | true =>
  have hk : k = 9 := by simpa using h9
  have hr : zJ k = (2, 2) := by rw [hk]; decide
  simp +decide only [h9, hr, hpin, go_sem, aD, mU]
 | false =>
 simp +decide only [h9, hpin, go_sem, aD, mU]
 cases h10 : k == 10 with
 | true =>
  have hk : k = 10 := by simpa using h10
  have hr : zJ k = (2, 2) := by rw [hk]; decide
  simp +decide only [h10, hr, hpin, go_sem, aD, mU]
 | false =>
 simp +decide only [h10, hpin, go_sem, aD, mU]
 cases h11 : k == 11 with
 | true =>
  have hk : k = 11 := by simpa using h11
  have hr : zJ k = (2, 2) := by rw [hk]; decide
  simp +decide only [h11, hr, hpin, go_sem, aD, mU]
 | false =>
 simp +decide only [h11, hpin, go_sem, aD, mU]
 cases h17 : k == 17 with
 | true =>
  have hk : k = 17 := by simpa using h17
  have hr : zJ k = (2, 2) := by rw [hk]; decide
  simp +decide only [h17, hr, hpin, go_sem, aD, mU]
 | false =>
 simp +decide only [h17, hpin, go_sem, aD, mU]
 cases h12 : k == 12 with
 | true =>
  have hk : k = 12 := by simpa using h12
  have hr : zJ k = (0, 3) := by rw [hk]; decide
  simp +decide only [h12, hr, hpin, go_sem, aD, mU]
 | false =>
 simp +decide only [h12, hpin, go_sem, aD, mU]
 cases h16 : k == 16 with
 | true =>
  have hk : k = 16 := by simpa using h16
  have hr : zJ k = (3, 3) := by rw [hk]; decide
  simp +decide only [h16, hr, hpin, go_sem, aD, mU]
 | false =>
 simp +decide only [h16, hpin, go_sem, aD, mU]
 cases h20 : k == 20 with
 | true =>
  have hk : k = 20 := by simpa using h20
  have hr : zJ k = (0, 12) := by rw [hk]; decide
  simp +decide only [h20, hr, hpin, go_sem, aD, mU]
 | false =>
 simp +decide only [h20, hpin, go_sem, aD, mU]
 have hr : zJ k = (0, 0) := by simp only [zJ, h8, h13, h14, h15, h18, h19, h9, h10, h11, h17, h12, h16, h20, bF, if_false]
 simp +decide only [hr, hpin, go_sem, aD, mU]
theorem zka (k i j : Int) : zx Tryz.prog 220 [.ro (.sc (.int .i64 k)), .ro (.sc (.int .i64 i)), .ro (.sc (.int .i64 j))] (fun rs st => rs = [(false, [cB (yP k i j)])]) := by
 refine zq (fn := Tryz.f220) (c := Tryz.f220.body.getD .skip) (res := [.tm 6]) (n := 32) ze (by kernel_rfl) (by rfl) (by kernel_rfl) (by rfl) (by rfl) (by simp [zu]) (fun C hpin hfull => ?_)
 simp +decide only [Tryz.f220, hpin, go_sem, aD, mU]
 cases h20 : k == 20 with
 | true =>
  have hr : yP k i j = XG j := by simp [yP, h20]
  simp +decide only [h20, hpin, go_sem, aD, mU]
  refine zd (zgT j) hpin ?_
  simp +decide only [hr, hpin, go_sem, aD, mU]
 | false =>
 simp +decide only [h20, hpin, go_sem, aD, mU]
 cases h16 : k == 16 with
 | true =>
  simp +decide only [h16, hpin, go_sem, aD, mU]
  by_cases hi : 0 < i
  · have hr : yP k i j = (j == 20) := by simp [yP, h20, h16, hi]
    have hi2 : (0 < i) = True := eq_true hi
    simp +decide only [hi2, hr, hpin, go_sem, aD, mU]
  · have h19 : (k == 19) = false := by rw [show k = 16 by simpa using h16]; decide
    have hr : yP k i j = xV j := by simp [yP, h20, h16, h19, hi]
    have hi2 : (0 < i) = False := eq_false hi
    simp +decide only [hi2, h19, hpin, go_sem, aD, mU]
    refine zd (Yz j) hpin ?_
    simp +decide only [hr, hpin, go_sem, aD, mU]
 | false =>
 simp +decide only [h16, hpin, go_sem, aD, mU]
 cases h17 : k == 17 with
 | true =>
  simp +decide only [h17, hpin, go_sem, aD, mU]
  by_cases hi : 0 < i
  · have hr : yP k i j = (j == 20) := by simp [yP, h20, h17, hi]
    have hi2 : (0 < i) = True := eq_true hi
    simp +decide only [hi2, hr, hpin, go_sem, aD, mU]
  · have h19 : (k == 19) = false := by rw [show k = 17 by simpa using h17]; decide
    have hr : yP k i j = xV j := by simp [yP, h20, h17, h19, hi]
    have hi2 : (0 < i) = False := eq_false hi
    simp +decide only [hi2, h19, hpin, go_sem, aD, mU]
    refine zd (Yz j) hpin ?_
    simp +decide only [hr, hpin, go_sem, aD, mU]
 | false =>
 simp +decide only [h17, hpin, go_sem, aD, mU]
 cases h19 : k == 19 with
 | true =>
  have hr : yP k i j = (j == 12) := by simp [yP, h20, h16, h17, h19]
  simp +decide only [h19, hr, hpin, go_sem, aD, mU]
 | false =>
 have hr : yP k i j = xV j := by simp [yP, h20, h16, h17, h19]
 simp +decide only [h19, hpin, go_sem, aD, mU]
 refine zd (Yz j) hpin ?_
 simp +decide only [hr, hpin, go_sem, aD, mU]
theorem zjZ (k i j : Int) : zx Tryz.prog 217 [.ro (.sc (.int .i64 k)), .ro (.sc (.int .i64 i)), .ro (.sc (.int .i64 j))] (fun rs st => rs = [(false, [cB (yP k i j)])]) := by
 refine zq (fn := Tryz.f217) (c := Tryz.f217.body.getD .skip) (res := [.tm 6]) (n := 25) ze (by kernel_rfl) (by rfl) (by kernel_rfl) (by rfl) (by rfl) (by simp [zu]) (fun C hpin hfull => ?_)
 simp +decide only [Tryz.f217, hpin, go_sem, aD, mU]
 cases h20 : k == 20 with
 | true =>
  have hr : yP k i j = XG j := by simp [yP, h20]
  simp +decide only [h20, hpin, go_sem, aD, mU]
  refine zd (zgS j) hpin ?_
  simp +decide only [hr, hpin, go_sem, aD, mU]
 | false =>
 simp +decide only [h20, hpin, go_sem, aD, mU]
 cases h16 : k == 16 with
 | true =>
  simp +decide only [h16, hpin, go_sem, aD, mU]
  by_cases hi : 0 < i
  · have hr : yP k i j = (j == 20) := by simp [yP, h20, h16, hi]
    have hi2 : (0 < i) = True := eq_true hi
    simp +decide only [hi2, hr, hpin, go_sem, aD, mU]
  · have h19 : (k == 19) = false := by rw [show k = 16 by simpa using h16]; decide
    have hr : yP k i j = xV j := by simp [yP, h20, h16, h19, hi]
    have hi2 : (0 < i) = False := eq_false hi
    simp +decide only [hi2, h19, hpin, go_sem, aD, mU]
    refine zd (Yy j) hpin ?_
    simp +decide only [hr, hpin, go_sem, aD, mU]
 | false =>
 simp +decide only [h16, hpin, go_sem, aD, mU]
 cases h17 : k == 17 with
 | true =>
  simp +decide only [h17, hpin, go_sem, aD, mU]
  by_cases hi : 0 < i
  · have hr : yP k i j = (j == 20) := by simp [yP, h20, h17, hi]
    have hi2 : (0 < i) = True := eq_true hi
    simp +decide only [hi2, hr, hpin, go_sem, aD, mU]
  · have h19 : (k == 19) = false := by rw [show k = 17 by simpa using h17]; decide
    have hr : yP k i j = xV j := by simp [yP, h20, h17, h19, hi]
    have hi2 : (0 < i) = False := eq_false hi
    simp +decide only [hi2, h19, hpin, go_sem, aD, mU]
    refine zd (Yy j) hpin ?_
    simp +decide only [hr, hpin, go_sem, aD, mU]
 | false =>
 simp +decide only [h17, hpin, go_sem, aD, mU]
 cases h19 : k == 19 with
 | true =>
  have hr : yP k i j = (j == 12) := by simp [yP, h20, h16, h17, h19]
  simp +decide only [h19, hr, hpin, go_sem, aD, mU]
 | false =>
 have hr : yP k i j = xV j := by simp [yP, h20, h16, h17, h19]
 simp +decide only [h19, hpin, go_sem, aD, mU]
 refine zd (Yy j) hpin ?_
 simp +decide only [hr, hpin, go_sem, aD, mU]
def nd0 : NodeD := ⟨0, 0, ⟨#[]⟩, []⟩
def nAt (nodes : List NodeD) (j : Int) : NodeD := nodes.getD j.toNat nd0
theorem xE {nodes : List NodeD} {j : Int} (h : j.toNat < nodes.length) : nAt nodes j = nodes[j.toNat] := by simp [nAt, List.getD, h]
theorem zR {nodes : List NodeD} {n : Nat} (h : n < nodes.length) : nAt nodes (n : Int) = nodes[n] := by simp [nAt, List.getD, h]
def kidB (nodes : List NodeD) (k : Int) (x : NodeD) (i : Nat) : Bool := inI (x.kids.getD i 0) 0 (k - 1) && (!(x.kids.take i).contains (x.kids.getD i 0) && yP x.kind i (nAt nodes (x.kids.getD i 0)).kind)
def zil (x : NodeD) : Bool := if x.kind == 1 then inI x.num 0 1000000000 else x.num == 0
def YZ (x : NodeD) : Bool := if yo x.kind then YJ x.name else decide (x.name = ⟨#[]⟩)
def zL (f : Nat -> Bool) (n : Nat) : Bool := (List.range n).all f
theorem zQ (f : Nat -> Bool) (n : Nat) : zL f (n + 1) = (zL f n && f n) := by simp [zL, List.range_succ]
theorem zB {f : Nat -> Bool} {n i : Nat} (h : i < n) (hf : f i = false) : zL f n = false := by
 unfold zL; rw [List.all_eq_false]; exact ⟨i, List.mem_range.2 h, by simp [hf]⟩
theorem xy {f : Nat -> Bool} {n : Nat} : zL f n = true ↔ ∀ i, i < n -> f i = true := by
 unfold zL; rw [List.all_eq_true]; exact ⟨fun h i hi => h i (List.mem_range.2 hi), fun h i hi => h i (List.mem_range.1 hi)⟩
def zby (nodes : List NodeD) (k : Int) (x : NodeD) : Bool := inI x.kind 1 20 && (inI x.kids.length (zJ x.kind).1 (zJ x.kind).2 && (zil x && (YZ x && zL (kidB nodes k x) x.kids.length)))
def YI (nodes : List NodeD) (k : Int) : Bool := inI k 0 (nodes.length - 1) && zby nodes k (nAt nodes k)
theorem zy {n a b : Int} (h : inI n a b = true) : a <= n /\ n <= b := by simpa [inI] using h
theorem znn {n a b : Int} (h : inI n a b = false) : ¬ (a <= n /\ n <= b) := by
 intro hh; rw [show inI n a b = true by simpa [inI] using hh] at h; cases h
theorem zsG {α : Type} (l : List α) : List.drop (Int.toNat 0) l = l := rfl
attribute [go_sem] zsG
theorem zrB (l : List Int) {i : Nat} (h : i <= l.length) : (row1 cI l).take i = row1 cI (l.take i) := by simp [row1, List.map_take]
theorem zjI (nodes : List NodeD) (k : Int) (hn : nodes.length <= 1048576) (hk : ∀ x ∈ nodes, x.kids.length <= 1048576) : zx Tryz.prog 212 [.ro (.imm 83 (rows (zg true) nodes)), .ro (.sc (.int .i64 k))] (fun rs st => rs = [(false, [cB (YI nodes k)])]) := by
 refine zp (fn := Tryz.f212) (c := Tryz.f212.body.getD .skip) (res := [.tm 4]) (n := 101) ze (by kernel_rfl) (by rfl) (by kernel_rfl) (by rfl) (by rfl) (by simp [zu]) (fun uf ub C hpin hpin2 hfull => ?_)
 simp only [Tryz.f212, oD]
 have w1 : IntKind.i64.wrap ((nodes.length : Int) - 1) = (nodes.length : Int) - 1 := w64 (by omega) (by omega)
 refine Tri.step ze ?_
 simp +decide only [hpin, go_sem, aD, mU]
 refine Tri.step ze ?_
 simp +decide only [w1, hpin, go_sem, aD, mU]
 refine zd (in' k 0 (nodes.length - 1)) hpin ?_
 simp +decide only [hpin, go_sem, aD, mU]
 unfold YI
 cases h0 : inI k 0 (nodes.length - 1) with
 | false => simp +decide only [hpin, go_sem, aD, mU]
 | true =>
 have hr := zy h0
 obtain ⟨n, rfl⟩ : ∃ n : Nat, k = n := ⟨k.toNat, by omega⟩
 have hnl : n < nodes.length := by omega
 rw [zR hnl, Bool.true_and]
 have hkx := hk nodes[n] (lM hnl)
 generalize hx : nodes[n] = x at hkx
 have hc1 : ((n : Int) < (nodes.length : Int)) = True := eq_true (by omega)
 simp +decide only [hpin, go_sem, aD, mU]
 refine Tri.step ze ?_
 simp +decide only [hc1, zk _ _ hnl, hx, iN, zg, hpin, go_sem, aD, mU]
 refine Tri.ent ?_ (Ent.frb hfull 5)
 refine Tri.step ze ?_
 simp +decide only [hpin, go_sem, aD, mU]
 refine zd (zhL x.kind) hpin ?_
 simp +decide only [hpin, go_sem, aD, mU]
 refine Tri.step ze ?_
 simp +decide only [hpin, go_sem, aD, mU]
 refine zd (in' x.kind 1 20) hpin ?_
 simp +decide only [hpin, go_sem, aD, mU]
 unfold zby
 cases h1 : inI x.kind 1 20 with
 | false => simp +decide only [hpin, go_sem, aD, mU]
 | true =>
 simp +decide only [hpin, go_sem, aD, mU]
 refine zd (in' x.kids.length (zJ x.kind).1 (zJ x.kind).2) hpin ?_
 simp +decide only [hpin, go_sem, aD, mU]
 cases h2 : inI x.kids.length (zJ x.kind).1 (zJ x.kind).2 with
 | false => simp +decide only [hpin, go_sem, aD, mU]
 | true =>
 simp +decide only [hpin, go_sem, aD, mU]
 refine Tri.step ze ?_
 simp +decide only [hpin, go_sem, aD, mU]
 refine Tri.loop (ι := Nat) (fun i => i <= x.kids.length /\ zL (kidB nodes n x) i = true) (fun i => ⟨101, [(0, .imm 83 (rows (zg true) nodes)), (1, vI n), (4, vB false), (5, .ip (zg true x) 0), (40, roI x.kids), (41, vI x.kids.length), (42, vI i)], []⟩) (fun i => x.kids.length - i) 0 ⟨by simp, rfl⟩ ?_ ?_
 · refine Ent.weak ?_ ?_ ?_ ?_ <;> simp +decide [subT, subB, zj, zi, zm, St.get, look, vI, vB, vS, cI, cS, cB, zg, roI]
 · rintro i ⟨hi, hq⟩
   refine zf ze _ ?_
   by_cases h' : i < x.kids.length
   · have e : ((i : Int) < (x.kids.length : Int)) = True := by simp [h']
     have w2 : IntKind.i64.wrap ((n : Int) - 1) = (n : Int) - 1 := w64 (by omega) (by omega)
     have hg : x.kids.getD i 0 = x.kids[i] := by simp [List.getD, h']
     simp +decide only [e, zw _ _ h', iN, vB, vI, zg, hpin, go_sem, aD, mU]
     refine Tri.sched ze [(0, true), (1, false), (2, false), (3, false), (4, false), (5, false), (6, true), (8, true), (10, true), (7, false), (9, false), (11, false), (12, false), (13, false), (14, true), (16, true), (17, true), (18, true), (19, true), (20, true), (15, true), (21, false), (22, false), (23, false), (24, false)] zO (by kernel_rfl) (fun C2 hC2 => ?_)
     have hp2 := zP hC2 hpin
     simp +decide only [w2, hp2, go_sem, aD, mU]
     refine zd (in' x.kids[i] 0 (n - 1)) hp2 ?_
     simp +decide only [hp2, go_sem, aD, mU]
     have hkb : kidB nodes n x i = (inI x.kids[i] 0 (n - 1) && (!(x.kids.take i).contains x.kids[i] && yP x.kind i (nAt nodes x.kids[i]).kind)) := by simp only [kidB, hg]
     cases h3 : inI x.kids[i] 0 (n - 1) with
     | false =>
      have hf : zL (kidB nodes n x) x.kids.length = false := zB h' (by rw [hkb, h3]; rfl)
      simp +decide only [hf, hp2, go_sem, aD, mU]
     | true =>
     have hr3 := zy h3
     have hkn : x.kids[i].toNat < nodes.length := by omega
     have z0 : (0 <= x.kids[i]) = True := eq_true hr3.1
     have z1 : (x.kids[i] < (nodes.length : Int)) = True := eq_true (by omega)
     have z2 : ((i : Int) <= (x.kids.length : Int)) = True := eq_true (by omega)
     rw [h3, Bool.true_and] at hkb
     simp +decide only [z0, z1, z2, h', zrB x.kids (Nat.le_of_lt h'), iN, hp2, go_sem, aD, mU]
     refine zd (Zf (x.kids.take i) x.kids[i] (by simp; omega)) hp2 ?_
     simp +decide only [z0, z1, z2, h', iN, hp2, go_sem, aD, mU]
     cases h4 : (x.kids.take i).contains x.kids[i] with
     | true =>
      have hf : zL (kidB nodes n x) x.kids.length = false := zB h' (by rw [hkb, h4]; rfl)
      simp +decide only [hf, hp2, go_sem, aD, mU]
     | false =>
     rw [h4, xE hkn] at hkb
     simp only [Bool.not_false, Bool.true_and] at hkb
     simp +decide only [z0, z1, z2, h', zk _ _ hkn, zg, iN, hp2, go_sem, aD, mU]
     refine zd (zka x.kind i nodes[x.kids[i].toNat].kind) hp2 ?_
     simp +decide only [hp2, go_sem, aD, mU]
     cases h5 : yP x.kind i nodes[x.kids[i].toNat].kind with
     | false =>
      have hf : zL (kidB nodes n x) x.kids.length = false := zB h' (by rw [hkb, h5])
      simp +decide only [hf, hp2, go_sem, aD, mU]
     | true =>
     simp +decide only [hp2, go_sem, aD, mU]
     refine ⟨i + 1, ⟨h', by rw [zQ, hq, hkb, h5]; rfl⟩, by omega, Ent.weak ?_ ?_ ?_ ?_⟩
     all_goals simp +decide [subT, subB, zj, zi, zm, St.get, look, vI, vB, vS, cI, cS, cB, zg, roI, w64s (n := x.kids.length) h' (by omega)]
   · have hil : i = x.kids.length := by omega
     subst hil
     have e : ((x.kids.length : Int) < (x.kids.length : Int)) = False := by simp
     rw [hq, Bool.and_true]
     simp +decide only [e, vB, vI, zg, hpin, go_sem, aD, mU]
     refine Tri.step ze ?_
     simp +decide only [hpin, go_sem, aD, mU]
     unfold zil
     cases h6 : x.kind == 1 with
     | true =>
      simp +decide only [h6, hpin, go_sem, aD, mU]
      refine zd (in' x.num 0 1000000000) hpin ?_
      simp +decide only [hpin, go_sem, aD, mU]
      cases h7 : inI x.num 0 1000000000 with
      | false => simp +decide only [bne, h6, hpin, go_sem, aD, mU]
      | true =>
       simp +decide only [bne, h6, hpin, go_sem, aD, mU]
       refine zf ze _ ?_
       simp +decide only [hpin, go_sem, aD, mU]
       refine zd (zaP x.kind) hpin ?_
       simp +decide only [hpin, go_sem, aD, mU]
       cases h8 : yo x.kind with
       | true =>
        have hnm : YZ x = YJ x.name := by simp [YZ, h8]
        simp +decide only [hpin, go_sem, aD, mU]
        refine zd (xD x.name) hpin ?_
        simp +decide only [hnm, hpin, go_sem, aD, mU]
       | false =>
        have hnm : YZ x = decide (x.name = ⟨#[]⟩) := by simp [YZ, h8]
        simp +decide only [hnm, hpin, go_sem, aD, mU]
     | false =>
      simp +decide only [h6, bne, hpin, go_sem, aD, mU]
      cases h7 : x.num == 0 with
      | false => simp +decide only [h7, hpin, go_sem, aD, mU]
      | true =>
       simp +decide only [h7, hpin, go_sem, aD, mU]
       refine zf ze _ ?_
       simp +decide only [hpin, go_sem, aD, mU]
       refine zd (zaP x.kind) hpin ?_
       simp +decide only [hpin, go_sem, aD, mU]
       cases h8 : yo x.kind with
       | true =>
        have hnm : YZ x = YJ x.name := by simp [YZ, h8]
        simp +decide only [hpin, go_sem, aD, mU]
        refine zd (xD x.name) hpin ?_
        simp +decide only [hnm, hpin, go_sem, aD, mU]
       | false =>
        have hnm : YZ x = decide (x.name = ⟨#[]⟩) := by simp [YZ, h8]
        simp +decide only [hnm, hpin, go_sem, aD, mU]
theorem zok (x : NodeD) : (!inI x.num 0 1000000000 || (bne x.kind 1 && bne x.num 0)) = !zil x := by
 unfold zil
 cases h : x.kind == 1 with
 | true => simp [bne, h]
 | false =>
  simp only [bne, h, Bool.not_false, Bool.true_and, bF, if_false]
  cases h2 : x.num == 0 with
  | true => have : x.num = 0 := by simpa using h2
            rw [this]; decide
  | false => simp
theorem zmX : YJ ⟨#[]⟩ = false := by decide
theorem zom (x : NodeD) : YZ x = (yo x.kind == !decide (x.name = ⟨#[]⟩) && (decide (x.name = ⟨#[]⟩) || YJ x.name)) := by
 unfold YZ
 by_cases h : x.name = ⟨#[]⟩
 · rw [h]; cases yo x.kind <;> simp [zmX]
 · cases yo x.kind <;> simp [h]
theorem zfA (l : List Int) (i : Nat) (hi : i < l.length) : (l.take i).contains l[i] = !zL (fun j => !(l.getD i 0 == l.getD j 0)) i := by
 rw [Bool.eq_iff_iff]
 simp only [List.contains_iff_mem, Bool.not_eq_true', List.mem_take_iff_getElem]
 constructor
 · rintro ⟨j, hj, he⟩
   have hj2 : j < i := by omega
   exact zB hj2 (by simp [List.getD, hi, show j < l.length by omega, he])
 · intro h
   unfold zL at h
   rw [List.all_eq_false] at h
   obtain ⟨j, hj, hb⟩ := h
   have hj2 := List.mem_range.1 hj
   refine ⟨j, by omega, ?_⟩
   simp [List.getD, hi, show j < l.length by omega] at hb
   exact hb.symm
theorem zjH (nodes : List NodeD) (k : Int) (hn : nodes.length <= 1048576) (hk : ∀ x ∈ nodes, x.kids.length <= 1048576) : zx Tryz.prog 210 [.ro (.imm 83 (rows (zg true) nodes)), .ro (.sc (.int .i64 k))] (fun rs st => rs = [(false, [cB (YI nodes k)])]) := by
 refine zp (fn := Tryz.f210) (c := Tryz.f210.body.getD .skip) (res := [.tm 4]) (n := 124) ze (by kernel_rfl) (by rfl) (by kernel_rfl) (by rfl) (by rfl) (by simp [zu]) (fun uf ub C hpin hpin2 hfull => ?_)
 simp only [Tryz.f210, oD]
 have w1 : IntKind.i64.wrap ((nodes.length : Int) - 1) = (nodes.length : Int) - 1 := w64 (by omega) (by omega)
 refine Tri.step ze ?_
 simp +decide only [hpin, go_sem, aD, mU]
 refine Tri.step ze ?_
 simp +decide only [w1, hpin, go_sem, aD, mU]
 refine zd (xp k 0 (nodes.length - 1)) hpin ?_
 simp +decide only [hpin, go_sem, aD, mU]
 unfold YI
 cases h0 : inI k 0 (nodes.length - 1) with
 | false => simp +decide only [hpin, go_sem, aD, mU]
 | true =>
 have hr := zy h0
 obtain ⟨n, rfl⟩ : ∃ n : Nat, k = n := ⟨k.toNat, by omega⟩
 have hnl : n < nodes.length := by omega
 rw [zR hnl, Bool.true_and]
 have hkx := hk nodes[n] (lM hnl)
 generalize hx : nodes[n] = x at hkx
 have hc1 : ((n : Int) < (nodes.length : Int)) = True := eq_true (by omega)
 simp +decide only [hc1, zk _ _ hnl, hx, iN, zg, hpin, go_sem, aD, mU]
 refine zd (xp x.kind 1 20) hpin ?_
 simp +decide only [hpin, go_sem, aD, mU]
 unfold zby
 cases h1 : inI x.kind 1 20 with
 | false => simp +decide only [hpin, go_sem, aD, mU]
 | true =>
 simp +decide only [hpin, go_sem, aD, mU]
 refine Tri.step ze ?_
 simp +decide only [hc1, zk _ _ hnl, hx, iN, zg, hpin, go_sem, aD, mU]
 refine Tri.ent ?_ (Ent.frb hfull 5)
 refine Tri.step ze ?_
 simp +decide only [hpin, go_sem, aD, mU]
 refine zd (zhK x.kind) hpin ?_
 simp +decide only [hpin, go_sem, aD, mU]
 have hno := zok x
 cases h2 : inI x.kids.length (zJ x.kind).1 (zJ x.kind).2 with
 | false =>
  refine Tri.step ze ?_
  simp +decide only [hpin, go_sem, aD, mU]
  refine zd (xp x.kids.length (zJ x.kind).1 (zJ x.kind).2) hpin ?_
  simp +decide only [h2, hpin, go_sem, aD, mU]
 | true =>
 rw [Bool.true_and]
 cases hq : zil x with
 | false =>
  rw [hq] at hno
  refine Tri.step ze ?_
  simp +decide only [hpin, go_sem, aD, mU]
  refine zd (xp x.kids.length (zJ x.kind).1 (zJ x.kind).2) hpin ?_
  simp +decide only [h2, hpin, go_sem, aD, mU]
  refine zd (xp x.num 0 1000000000) hpin ?_
  simp +decide only [hpin, go_sem, aD, mU]
  cases h3 : inI x.num 0 1000000000 with
  | false => simp +decide only [hpin, go_sem, aD, mU]
  | true =>
   rw [h3] at hno
   cases h4 : x.kind == 1 with
   | true => simp [bne, h4] at hno
   | false =>
    simp +decide only [h4, bne, hpin, go_sem, aD, mU]
    cases h5 : x.num == 0 with
    | true => simp [bne, h5] at hno
    | false => simp +decide only [h5, hpin, go_sem, aD, mU]
 | true =>
 rw [Bool.true_and]
 rw [hq] at hno
 refine Tri.stop ze ⟨124, [(0, .imm 83 (rows (zg true) nodes)), (1, vI n), (4, vB false), (5, .ip (zg true x) 0)], []⟩ ?_ ?_
 · simp +decide only [hpin, go_sem, aD, mU]
   refine zd (xp x.kids.length (zJ x.kind).1 (zJ x.kind).2) hpin ?_
   simp +decide only [h2, hpin, go_sem, aD, mU]
   refine zd (xp x.num 0 1000000000) hpin ?_
   simp +decide only [hpin, go_sem, aD, mU]
   cases h3 : inI x.num 0 1000000000 with
   | false => simp [h3] at hno
   | true =>
    rw [h3] at hno
    simp +decide only [hpin, go_sem, aD, mU]
    cases h4 : x.kind == 1 with
    | true =>
     simp +decide only [h4, bne, hpin, go_sem, aD, mU]
     refine Ent.weak ?_ ?_ ?_ ?_ <;> simp +decide [subT, subB, zj, zi, zm, St.get, look, vI, vB, vS, cI, cS, cB, zg, roI]
    | false =>
     simp +decide only [h4, bne, hpin, go_sem, aD, mU]
     cases h5 : x.num == 0 with
     | false => simp [bne, h4, h5] at hno
     | true =>
      simp +decide only [h5, hpin, go_sem, aD, mU]
      refine Ent.weak ?_ ?_ ?_ ?_ <;> simp +decide [subT, subB, zj, zi, zm, St.get, look, vI, vB, vS, cI, cS, cB, zg, roI]
 have hna := zom x
 cases hq2 : YZ x with
 | false =>
  rw [hq2] at hna
  rw [Bool.false_and]
  refine Tri.step ze ?_
  simp +decide only [vB, vI, zg, hpin, go_sem, aD, mU]
  refine Tri.sched ze [(0, true), (3, true), (1, true), (4, true), (5, true), (2, false), (6, false), (7, false), (8, false), (9, false), (10, false), (11, false), (12, false), (13, false), (14, false), (15, false), (16, false), (17, false)] zO (by kernel_rfl) (fun C2 hC2 => ?_)
  have hp2 := zP hC2 hpin
  simp +decide only [hp2, go_sem, aD, mU]
  refine zd (zei x.kind) hp2 ?_
  simp +decide only [bne, hp2, go_sem, aD, mU]
  cases h3 : yo x.kind == !decide (x.name = ⟨#[]⟩) with
  | false => simp +decide only [h3, hp2, go_sem, aD, mU]
  | true =>
   rw [h3, Bool.true_and] at hna
   simp +decide only [h3, hp2, go_sem, aD, mU]
   by_cases h4 : x.name = ⟨#[]⟩
   · simp [h4] at hna
   · have h40 : decide (x.name = ⟨#[]⟩) = false := decide_eq_false h4
     rw [h40, bO] at hna
     simp +decide only [h40, hp2, go_sem, aD, mU]
     refine zd (Yh x.name) hp2 ?_
     simp +decide only [<- hna, hp2, go_sem, aD, mU]
 | true =>
 rw [hq2] at hna
 rw [Bool.true_and]
 refine Tri.stop ze ⟨124, [(0, .imm 83 (rows (zg true) nodes)), (1, vI n), (4, vB false), (5, .ip (zg true x) 0)], []⟩ ?_ ?_
 · simp +decide only [vB, vI, zg, hpin, go_sem, aD, mU]
   refine Tri.sched ze [(0, true), (3, true), (1, true), (4, true), (5, true), (2, false), (6, false), (7, false), (8, false), (9, false), (10, false), (11, false), (12, false), (13, false), (14, false), (15, false), (16, false), (17, false)] zO (by kernel_rfl) (fun C2 hC2 => ?_)
   have hp2 := zP hC2 hpin
   simp +decide only [hp2, go_sem, aD, mU]
   refine zd (zei x.kind) hp2 ?_
   simp +decide only [bne, hp2, go_sem, aD, mU]
   cases h3 : yo x.kind == !decide (x.name = ⟨#[]⟩) with
   | false => simp [h3] at hna
   | true =>
    rw [h3, Bool.true_and] at hna
    simp +decide only [h3, hp2, go_sem, aD, mU]
    by_cases h4 : x.name = ⟨#[]⟩
    · simp +decide only [h4, hp2, go_sem, aD, mU]
      refine Ent.weak ?_ ?_ ?_ ?_ <;> simp +decide [subT, subB, zj, zi, zm, St.get, look, vI, vB, vS, cI, cS, cB, zg, roI, h4]
    · have h40 : decide (x.name = ⟨#[]⟩) = false := decide_eq_false h4
      rw [h40, bO] at hna
      simp +decide only [h40, hp2, go_sem, aD, mU]
      refine zd (Yh x.name) hp2 ?_
      simp +decide only [<- hna, hp2, go_sem, aD, mU]
      refine Ent.weak ?_ ?_ ?_ ?_ <;> simp +decide [subT, subB, zj, zi, zm, St.get, look, vI, vB, vS, cI, cS, cB, zg, roI]
 refine zf ze _ ?_
 simp +decide only [vB, vI, zg, hpin, go_sem, aD, mU]
 refine Tri.loop (ι := Nat) (fun i => i <= x.kids.length /\ zL (kidB nodes n x) i = true) (fun i => ⟨124, [(0, .imm 83 (rows (zg true) nodes)), (1, vI n), (4, vB false), (5, .ip (zg true x) 0), (8, vI i)], []⟩) (fun i => x.kids.length - i) 0 ⟨by simp, rfl⟩ ?_ ?_
 · refine Ent.weak ?_ ?_ ?_ ?_ <;> simp +decide [subT, subB, zj, zi, zm, St.get, look, vI, vB, vS, cI, cS, cB, zg, roI]
 · rintro i ⟨hi, hq⟩
   refine zf ze _ ?_
   by_cases h' : i < x.kids.length
   · have e : ((i : Int) < (x.kids.length : Int)) = True := by simp [h']
     have w2 : IntKind.i64.wrap ((n : Int) - 1) = (n : Int) - 1 := w64 (by omega) (by omega)
     have hg : x.kids.getD i 0 = x.kids[i] := by simp [List.getD, h']
     have hkb : kidB nodes n x i = (inI x.kids[i] 0 (n - 1) && (!(x.kids.take i).contains x.kids[i] && yP x.kind i (nAt nodes x.kids[i]).kind)) := by simp only [kidB, hg]
     simp +decide only [e, zw _ _ h', iN, vB, vI, zg, hpin, go_sem, aD, mU]
     refine Tri.sched ze [(0, true), (2, true), (5, true), (6, true), (1, false), (3, false), (4, false), (7, false), (8, false), (9, false), (10, true), (12, true), (13, true), (14, true), (16, true), (11, true), (15, false), (17, false), (18, false), (19, false), (20, false), (21, false), (22, false), (23, false), (24, false)] zO (by kernel_rfl) (fun C2 hC2 => ?_)
     have hp2 := zP hC2 hpin
     simp +decide only [e, zw _ _ h', iN, w2, hp2, go_sem, aD, mU]
     refine zd (xp x.kids[i] 0 (n - 1)) hp2 ?_
     simp +decide only [hp2, go_sem, aD, mU]
     cases h3 : inI x.kids[i] 0 (n - 1) with
     | false =>
      have hf : zL (kidB nodes n x) x.kids.length = false := zB h' (by rw [hkb, h3]; rfl)
      simp +decide only [hf, hp2, go_sem, aD, mU]
     | true =>
     have hr3 := zy h3
     have hkn : x.kids[i].toNat < nodes.length := by omega
     have z0 : (0 <= x.kids[i]) = True := eq_true hr3.1
     have z1 : (x.kids[i] < (nodes.length : Int)) = True := eq_true (by omega)
     rw [h3, Bool.true_and, xE hkn] at hkb
     simp +decide only [e, zw _ _ h', z0, z1, h', zk _ _ hkn, zg, iN, hp2, go_sem, aD, mU]
     refine zd (zjZ x.kind i nodes[x.kids[i].toNat].kind) hp2 ?_
     simp +decide only [hp2, go_sem, aD, mU]
     cases h5 : yP x.kind i nodes[x.kids[i].toNat].kind with
     | false =>
      have hf : zL (kidB nodes n x) x.kids.length = false := zB h' (by rw [hkb, h5, Bool.and_false])
      simp +decide only [hf, hp2, go_sem, aD, mU]
     | true =>
     rw [h5, Bool.and_true, zfA x.kids i h', Bool.not_not] at hkb
     simp +decide only [hp2, go_sem, aD, mU]
     refine Tri.loop (ι := Nat) (fun j => j <= i /\ zL (fun j => !(x.kids.getD i 0 == x.kids.getD j 0)) j = true) (fun j => ⟨124, [(0, .imm 83 (rows (zg true) nodes)), (1, vI n), (4, vB false), (5, .ip (zg true x) 0), (8, vI i), (9, vI j)], []⟩) (fun j => i - j) 0 ⟨by simp, rfl⟩ ?_ ?_
     · refine Ent.weak ?_ ?_ ?_ ?_ <;> simp +decide [subT, subB, zj, zi, zm, St.get, look, vI, vB, vS, cI, cS, cB, zg, roI]
     · rintro j ⟨hj, hq2⟩
       refine zf ze _ ?_
       by_cases hj' : j < i
       · have e2 : ((j : Int) < (i : Int)) = True := by simp [hj']
         have hjl : j < x.kids.length := by omega
         have e3 : ((j : Int) < (x.kids.length : Int)) = True := by simp [hjl]
         have hgj : x.kids.getD j 0 = x.kids[j] := by simp [List.getD, hjl]
         simp +decide only [e, e2, e3, zw _ _ h', zw _ _ hjl, iN, vB, vI, zg, hpin, go_sem, aD, mU]
         refine Tri.sched ze [(0, true), (2, true), (5, true), (7, true), (1, true), (3, true), (4, true), (6, false), (8, false), (9, false), (10, false)] zO (by kernel_rfl) (fun C2 hC2 => ?_)
         have hp2 := zP hC2 hpin
         simp +decide only [e, e2, e3, zw _ _ h', zw _ _ hjl, iN, hp2, go_sem, aD, mU]
         cases h6 : x.kids[i] == x.kids[j] with
         | true =>
          have hf : zL (kidB nodes n x) x.kids.length = false := zB h' (by rw [hkb]; exact zB hj' (by simp only [hg, hgj, h6]; rfl))
          simp +decide only [hf, hp2, go_sem, aD, mU]
         | false =>
          simp +decide only [hp2, go_sem, aD, mU]
          refine ⟨j + 1, ⟨hj', by rw [zQ, hq2]; simp only [hg, hgj, h6]; rfl⟩, by omega, Ent.weak ?_ ?_ ?_ ?_⟩
          all_goals simp +decide [subT, subB, zj, zi, zm, St.get, look, vI, vB, vS, cI, cS, cB, zg, roI, w64s (n := x.kids.length) hjl (by omega)]
       · have hil : j = i := by omega
         subst hil
         have e2 : ((j : Int) < (j : Int)) = False := by simp
         simp +decide only [e2, vB, vI, zg, hpin, go_sem, aD, mU]
         refine ⟨j + 1, ⟨h', by rw [zQ, hq, hkb, hq2]; rfl⟩, by omega, Ent.weak ?_ ?_ ?_ ?_⟩
         all_goals simp +decide [subT, subB, zj, zi, zm, St.get, look, vI, vB, vS, cI, cS, cB, zg, roI, w64s (n := x.kids.length) h' (by omega)]
   · have hil : i = x.kids.length := by omega
     subst hil
     have e : ((x.kids.length : Int) < (x.kids.length : Int)) = False := by simp
     rw [hq]
     simp +decide only [e, vB, vI, zg, hpin, go_sem, aD, mU]
def yD (l : List Int) (d : Int) (kids : List Int) : Int := kids.foldl (fun d kid => max d (l.getD kid.toNat 0 + 1)) d
def zbP (d : Int) : Int := if 10 < d then 0 else d
def zfz (nodes : List NodeD) (l : List Int) (n : Nat) : Int := if YI nodes n && (n == 0 || !(l.getD (n - 1) 0 == 0)) then zbP (yD l 1 (nAt nodes n).kids) else 0
def zG (nodes : List NodeD) : Nat -> List Int
 | 0 => []
 | n + 1 => zG nodes n ++ [zfz nodes (zG nodes n) n]
theorem yE (nodes : List NodeD) : ∀ n, (zG nodes n).length = n
 | 0 => rfl
 | n + 1 => by simp [zG, yE nodes n]
theorem Xf (nodes : List NodeD) {n i : Nat} (h : i < n) : (zG nodes n).getD i 0 = zfz nodes (zG nodes i) i := by
 induction n with
 | zero => omega
 | succ n ih =>
  simp only [zG, List.getD]
  by_cases hi : i < n
  · rw [List.getElem?_append_left (by rw [yE]; exact hi)]
    exact ih hi
  · have : i = n := by omega
    subst this
    rw [List.getElem?_append_right (by rw [yE]; omega), yE, Nat.sub_self]; rfl
theorem zbO (l : List Int) : ∀ (kids : List Int) (d : Int), d <= yD l d kids
 | [], d => Int.le_refl d
 | k :: r, d => by
  simp only [yD, List.foldl_cons]
  exact Int.le_trans (Int.le_max_left _ _) (zbO l r _)
theorem zcq (l kids : List Int) (d : Int) {i : Nat} (h : i < kids.length) : yD l d (kids.take (i + 1)) = max (yD l d (kids.take i)) (l.getD kids[i].toNat 0 + 1) := by
 rw [List.take_succ_eq_append_getElem h]; simp only [yD, List.foldl_append, List.foldl_cons, List.foldl_nil]
theorem zki (nodes : List NodeD) (l : List Int) (n : Nat) : 0 <= zfz nodes l n /\ zfz nodes l n <= 10 := by
 unfold zfz
 split
 · have := zbO l (nAt nodes n).kids 1
   unfold zbP
   split <;> omega
 · omega
theorem zbi (nodes : List NodeD) (n i : Nat) : 0 <= (zG nodes n).getD i 0 /\ (zG nodes n).getD i 0 <= 10 := by
 by_cases h : i < n
 · rw [Xf nodes h]; exact zki _ _ _
 · simp [List.getD, List.getElem?_eq_none (show (zG nodes n).length <= i by rw [yE]; omega)]
def dAt (nodes : List NodeD) (n : Nat) : Int := zfz nodes (zG nodes n) n
theorem zoI (nodes : List NodeD) (n : Nat) (h : dAt nodes (n + 1) ≠ 0) : dAt nodes n ≠ 0 := by
 intro h0
 apply h
 have : (zG nodes (n + 1)).getD n 0 = 0 := by rw [Xf nodes (Nat.lt_succ_self n)]; exact h0
 unfold dAt zfz
 rw [Nat.add_sub_cancel, this]
 simp
theorem zaH (nodes : List NodeD) : ∀ {n i : Nat}, i <= n -> dAt nodes n ≠ 0 -> dAt nodes i ≠ 0
 | 0, i, h, hd => by have : i = 0 := by omega
                     subst this; exact hd
 | n + 1, i, h, hd => by
  by_cases e : i = n + 1
  · subst e; exact hd
  · exact zaH nodes (by omega) (zoI nodes n hd)
def ye (nodes : List NodeD) (k : Int) : Int := if inI k 0 (nodes.length - 1) then dAt nodes k.toNat else 0
theorem XN (nodes : List NodeD) (n : Nat) (h : dAt nodes n ≠ 0) : YI nodes n = true := by
 unfold dAt zfz at h
 cases hb : YI nodes n with
 | true => rfl
 | false => simp [hb] at h
theorem zqh (nodes : List NodeD) (n : Nat) (hb : YI nodes n = true) (hd : n = 0 \/ dAt nodes (n - 1) ≠ 0) : dAt nodes n = zbP (yD (zG nodes n) 1 (nAt nodes n).kids) := by
 unfold dAt zfz
 have : (n == 0 || !((zG nodes n).getD (n - 1) 0 == 0)) = true := by
  rcases hd with hd | hd
  · simp [hd]
  · by_cases h0 : n = 0
    · simp [h0]
    · rw [Xf nodes (show n - 1 < n by omega)]
      unfold dAt at hd
      simp [hd]
 rw [hb, this]; rfl
theorem zkM {nodes : List NodeD} {n : Nat} (hb : YI nodes n = true) : ∃ h : n < nodes.length, ∀ i (hi : i < nodes[n].kids.length), 0 <= nodes[n].kids[i] /\ nodes[n].kids[i] < n /\ nodes[n].kids[i].toNat < n := by
 unfold YI at hb
 simp only [Bool.and_eq_true] at hb
 have hr := zy hb.1
 have hl : n < nodes.length := by omega
 refine ⟨hl, fun i hi => ?_⟩
 have h2 := hb.2
 rw [zR hl] at h2
 unfold zby at h2
 simp only [Bool.and_eq_true] at h2
 have h3 := xy.1 h2.2.2.2.2 i hi
 unfold kidB at h3
 simp only [Bool.and_eq_true] at h3
 have h4 := zy h3.1
 have hg : nodes[n].kids.getD i 0 = nodes[n].kids[i] := by simp [List.getD, hi]
 rw [hg] at h4
 omega
theorem maxI (a b : Int) : (if b > a then b else a) = max a b := by rw [Int.max_def]; split <;> split <;> omega
theorem zW {α : Type} (f : α -> D) (l : List α) {i : Nat} (h : i < l.length) : (row1 f l)[i]? = some [f l[i]] := by simp [row1, h]
def okD (nodes : List NodeD) (k : Int) : Bool := !(ye nodes k == 0)
def okL (nodes : List NodeD) (k : Int) : List Int := if okD nodes k then zG nodes (k.toNat + 1) else []
theorem ziN (nodes : List NodeD) (k : Int) (hn : nodes.length <= 1048576) (hk : ∀ x ∈ nodes, x.kids.length <= 1048576) : zx Tryz.prog 188 [.ro (.imm 83 (rows (zg true) nodes)), .ro (.sc (.int .i64 k))] (fun rs st => rs = [(false, [.row false 3 (row1 cI (okL nodes k))]), (false, [cB (okD nodes k)])]) := by
 refine zp (fn := Tryz.f188) (c := Tryz.f188.body.getD .skip) (res := [.tm 4, .tm 5]) (n := 51) ze (by kernel_rfl) (by rfl) (by kernel_rfl) (by rfl) (by rfl) (by simp [zu]) (fun uf ub C hpin hpin2 hfull => ?_)
 simp only [Tryz.f188, oD]
 have w1 : IntKind.i64.wrap ((nodes.length : Int) - 1) = (nodes.length : Int) - 1 := w64 (by omega) (by omega)
 have e0 : row1 cI ([] : List Int) = [] := rfl
 refine Tri.step ze ?_
 simp +decide only [hpin, go_sem, aD, mU]
 refine Tri.step ze ?_
 simp +decide only [w1, hpin, go_sem, aD, mU]
 refine zd (in' k 0 (nodes.length - 1)) hpin ?_
 simp +decide only [hpin, go_sem, aD, mU]
 cases h0 : inI k 0 (nodes.length - 1) with
 | false =>
  have hf : okD nodes k = false := by simp [okD, ye, h0]
  have hf2 : okL nodes k = [] := by simp [okL, hf]
  simp +decide only [hf, hf2, e0, hpin, go_sem, aD, mU]
 | true =>
 have hr := zy h0
 obtain ⟨n, rfl⟩ : ∃ n : Nat, k = n := ⟨k.toNat, by omega⟩
 have hnl : n < nodes.length := by omega
 have hdo : ye nodes (n : Int) = dAt nodes n := by simp [ye, h0]
 have bad : ∀ i, i <= n -> dAt nodes i = 0 -> okD nodes n = false /\ okL nodes n = [] := fun i hi hd => by
  have hz : dAt nodes n = 0 := Classical.byContradiction fun hne => zaH nodes hi hne hd
  have hf : okD nodes n = false := by simp [okD, hdo, hz]
  exact ⟨hf, by simp [okL, hf]⟩
 simp +decide only [hpin, go_sem, aD, mU]
 refine Tri.step ze ?_
 simp +decide only [hpin, go_sem, aD, mU]
 refine Tri.step ze ?_
 simp +decide only [hpin, go_sem, aD, mU]
 refine Tri.loop (ι := Nat) (fun i => i <= n + 1 /\ ∀ j, j < i -> dAt nodes j ≠ 0) (fun i => ⟨51, [(0, .imm 83 (rows (zg true) nodes)), (1, vI n), (6, .ref 6 [] i), (7, vI i)], [(6, .row 3 (row1 cI (zG nodes i)))]⟩) (fun i => n + 1 - i) 0 ⟨by simp, fun j hj => by omega⟩ ?_ ?_
 · refine Ent.weak ?_ ?_ ?_ ?_ <;> simp +decide [subT, subB, zj, zi, zm, St.get, look, vI, vB, vS, cI, cS, cB, zg, roI, zG, row1]
 · rintro i ⟨hi, hq⟩
   refine zf ze _ ?_
   have hlen := yE nodes i
   by_cases h' : i < n + 1
   · have e : ((i : Int) <= (n : Int)) = True := by simp; omega
     have hil : i < nodes.length := by omega
     have hc1 : ((i : Int) < (nodes.length : Int)) = True := eq_true (by omega)
     simp +decide only [e, vB, vI, hpin, go_sem, aD, mU]
     refine zd (zjI nodes i hn hk) hpin ?_
     simp +decide only [hpin, go_sem, aD, mU]
     cases hb : YI nodes i with
     | false =>
      obtain ⟨f1, f2⟩ := bad i (by omega) (Classical.byContradiction fun hne => by rw [XN nodes i hne] at hb; cases hb)
      simp +decide only [f1, f2, e0, hpin, go_sem, aD, mU]
     | true =>
     obtain ⟨_, hkid⟩ := zkM hb
     have hv := zqh nodes i hb (by
      by_cases hz : i = 0
      · exact Or.inl hz
      · exact Or.inr (hq (i - 1) (by omega)))
     rw [zR hil] at hv
     have hkx := hk nodes[i] (lM hil)
     generalize hx : nodes[i] = x at hv hkid hkx
     simp +decide only [hc1, zk _ _ hil, hx, iN, zg, hpin, go_sem, aD, mU]
     refine Tri.loop (ι := Nat) (fun j => j <= x.kids.length) (fun j => ⟨51, [(0, .imm 83 (rows (zg true) nodes)), (1, vI n), (6, .ref 6 [] i), (7, vI i), (8, vI (yD (zG nodes i) 1 (x.kids.take j))), (30, roI x.kids), (31, vI x.kids.length), (32, vI j)], [(6, .row 3 (row1 cI (zG nodes i)))]⟩) (fun j => x.kids.length - j) 0 (by simp) ?_ ?_
     · refine Ent.weak ?_ ?_ ?_ ?_ <;> simp +decide [subT, subB, zj, zi, zm, St.get, look, vI, vB, vS, cI, cS, cB, zg, roI, yD]
     · rintro j hj
       refine zf ze _ ?_
       by_cases hj' : j < x.kids.length
       · have e2 : ((j : Int) < (x.kids.length : Int)) = True := by simp [hj']
         obtain ⟨q0, q1, q2⟩ := hkid j hj'
         have z0 : (0 <= x.kids[j]) = True := eq_true q0
         have z1 : (x.kids[j] < (i : Int)) = True := eq_true q1
         have z2 : x.kids[j].toNat < (zG nodes i).length := by rw [hlen]; exact q2
         have hg : (zG nodes i)[x.kids[j].toNat] = (zG nodes i).getD x.kids[j].toNat 0 := by simp [List.getD, z2]
         have hrg := zbi nodes i x.kids[j].toNat
         have w2 : IntKind.i64.wrap ((zG nodes i).getD x.kids[j].toNat 0 + 1) = (zG nodes i).getD x.kids[j].toNat 0 + 1 := w64 (by omega) (by omega)
         simp +decide only [e2, z0, z1, q2, hlen, zw _ _ hj', zw _ _ z2, zW _ _ z2, maxI, hg, w2, iN, vB, vI, hpin, go_sem, aD, mU]
         refine ⟨j + 1, hj', by omega, Ent.weak ?_ ?_ ?_ ?_⟩
         all_goals simp +decide [subT, subB, zj, zi, zm, St.get, look, vI, vB, vS, cI, cS, cB, zg, roI, w64s (n := x.kids.length) hj' (by omega), zcq, hj']
       · have hjl : j = x.kids.length := by omega
         subst hjl
         have e2 : ((x.kids.length : Int) < (x.kids.length : Int)) = False := by simp
         simp +decide only [e2, vB, vI, hpin, go_sem, aD, mU]
         by_cases hd : 10 < yD (zG nodes i) 1 x.kids
         · have hd1 : (10 < yD (zG nodes i) 1 x.kids) = True := eq_true hd
           obtain ⟨f1, f2⟩ := bad i (by omega) (by rw [hv]; simp [zbP, hd])
           simp +decide only [hd1, f1, f2, e0, hpin, go_sem, aD, mU]
         · have hd1 : (10 < yD (zG nodes i) 1 x.kids) = False := eq_false hd
           have hge := zbO (zG nodes i) x.kids 1
           have hvv : dAt nodes i = yD (zG nodes i) 1 x.kids := by rw [hv]; simp [zbP, hd]
           have hb1 : i + 1 <= 140737488355328 := by omega
           have hb2 : (i + 1) * 8 <= 140737488355328 := by omega
           have hds : zG nodes (i + 1) = zG nodes i ++ [yD (zG nodes i) 1 x.kids] := by rw [<- hvv]; rfl
           simp +decide only [hd1, hlen, hb1, hb2, hpin, go_sem, aD, mU]
           refine ⟨i + 1, ⟨by omega, fun j hj => ?_⟩, by omega, Ent.weak ?_ ?_ ?_ ?_⟩
           · by_cases hji : j = i
             · subst hji; rw [hvv]; omega
             · exact hq j (by omega)
           all_goals simp +decide [subT, subB, zj, zi, zm, St.get, look, vI, vB, vS, cI, cS, cB, zg, roI, w64s (n := nodes.length) hil (by omega), hds, row1]
   · have hin : i = n + 1 := by omega
     subst hin
     have e : (((n + 1 : Nat) : Int) <= (n : Int)) = False := by simp; omega
     have hnz := hq n (by omega)
     have hf : okD nodes n = true := by simp [okD, hdo, hnz]
     have hf2 : okL nodes n = zG nodes (n + 1) := by simp [okL, hf]
     simp +decide only [e, hf, hf2, hlen, vB, vI, hpin, go_sem, aD, mU]
     refine zf ze _ ?_
     simp +decide only [hlen, hpin, go_sem, aD, mU]
theorem zbj (nodes : List NodeD) (k : Int) (hn : nodes.length <= 1048576) (hk : ∀ x ∈ nodes, x.kids.length <= 1048576) : zx Tryz.prog 148 [.ro (.imm 83 (rows (zg true) nodes)), .ro (.sc (.int .i64 k))] (fun rs st => rs = [(false, [cI (ye nodes k)])]) := by
 refine zq (fn := Tryz.f148) (c := Tryz.f148.body.getD .skip) (res := [.tm 4]) (n := 19) ze (by kernel_rfl) (by rfl) (by kernel_rfl) (by rfl) (by rfl) (by simp [zu]) (fun C hpin hfull => ?_)
 simp +decide only [Tryz.f148, hpin, go_sem, aD, mU]
 refine zd (ziN nodes k hn hk) hpin ?_
 simp +decide only [hpin, go_sem, aD, mU]
 cases hd : okD nodes k with
 | false =>
  have h0 : ye nodes k = 0 := by simpa [okD] using hd
  simp +decide only [h0, hpin, go_sem, aD, mU]
 | true =>
  have h0 : inI k 0 (nodes.length - 1) = true := by
   cases h : inI k 0 (nodes.length - 1) with
   | true => rfl
   | false => simp [okD, ye, h] at hd
  have hr := zy h0
  obtain ⟨n, rfl⟩ : ∃ n : Nat, k = n := ⟨k.toNat, by omega⟩
  have hf2 : okL nodes n = zG nodes (n + 1) := by simp [okL, hd]
  have hl := yE nodes (n + 1)
  have hlt : n < (zG nodes (n + 1)).length := by omega
  have hg : (zG nodes (n + 1))[n] = ye nodes n := by
   have := Xf nodes (show n < n + 1 by omega)
   simp only [List.getD, hlt, lE, oD] at this
   rw [this]; simp [ye, h0, dAt]
  have hc : ((n : Int) < ((n + 1 : Nat) : Int)) = True := eq_true (by omega)
  simp +decide only [hf2, hl, hc, zW _ _ hlt, hg, iN, hpin, go_sem, aD, mU]
theorem zcJ (nodes : List NodeD) (n : Nat) (hnl : n < nodes.length) (hn : nodes.length <= 1048576) (hk : ∀ x ∈ nodes, x.kids.length <= 1048576) : zx Tryz.prog 185 [.ro (.imm 83 (rows (zg true) nodes)), .ro (.sc (.int .i64 n))] (fun rs st => rs = [(false, [.row false 3 (row1 cI (zG nodes (n + 1)))])]) := by
 refine zp (fn := Tryz.f185) (c := Tryz.f185.body.getD .skip) (res := [.tm 4]) (n := 84) ze (by kernel_rfl) (by rfl) (by kernel_rfl) (by rfl) (by rfl) (by simp [zu]) (fun uf ub C hpin hpin2 hfull => ?_)
 simp only [Tryz.f185, oD]
 refine Tri.step ze ?_
 simp +decide only [hpin, go_sem, aD, mU]
 refine Tri.step ze ?_
 simp +decide only [hpin, go_sem, aD, mU]
 refine Tri.step ze ?_
 simp +decide only [hpin, go_sem, aD, mU]
 refine Tri.loop (ι := Nat) (fun i => i <= n + 1) (fun i => ⟨84, [(0, .imm 83 (rows (zg true) nodes)), (1, vI n), (5, .ref 5 [] i), (6, vI i)], [(5, .row 3 (row1 cI (zG nodes i)))]⟩) (fun i => n + 1 - i) 0 (by simp) ?_ ?_
 · refine Ent.weak ?_ ?_ ?_ ?_ <;> simp +decide [subT, subB, zj, zi, zm, St.get, look, vI, vB, vS, cI, cS, cB, zg, roI, zG, row1]
 · rintro i hi
   refine zf ze _ ?_
   have hlen := yE nodes i
   by_cases h' : i < n + 1
   · have e : ((i : Int) <= (n : Int)) = True := by simp; omega
     have hil : i < nodes.length := by omega
     have hc1 : ((i : Int) < (nodes.length : Int)) = True := eq_true (by omega)
     have hkx := hk nodes[i] (lM hil)
     have hb1 : i + 1 <= 140737488355328 := by omega
     have hb2 : (i + 1) * 8 <= 140737488355328 := by omega
     let g : Bool := YI nodes i && (i == 0 || !((zG nodes i).getD (i - 1) 0 == 0))
     have hds : zG nodes (i + 1) = zG nodes i ++ [bif g then zbP (yD (zG nodes i) 1 nodes[i].kids) else 0] := by
      simp only [zG, zfz, zR hil]
      show _ = zG nodes i ++ [bif (YI nodes i && (i == 0 || !((zG nodes i).getD (i - 1) 0 == 0))) then _ else _]
      cases (YI nodes i && (i == 0 || !((zG nodes i).getD (i - 1) 0 == 0))) <;> simp
     simp +decide only [e, hc1, vB, vI, hpin, go_sem, aD, mU]
     refine zd (zjH nodes i hn hk) hpin ?_
     cases hb : YI nodes i with
     | false =>
      have hg : g = false := by simp [g, hb]
      by_cases hz : i = 0
      · have hz1 : (0 < (i : Int)) = False := eq_false (by omega)
        have hd0 : zG nodes i = [] := by rw [hz]; rfl
        have w3 : IntKind.i64.wrap ((i : Int) - 1) = -1 := by rw [hz]; decide
        have hr0 : row1 cI ([] : List Int) = [] := rfl
        simp +decide only [hz1, w3, hd0, hr0, Option.bind_none, hpin, go_sem, aD, mU]
        rw [hg] at hds
        simp only [cond_false] at hds
        refine Tri.loop (ι := Unit) (fun _ => True) (fun _ => ⟨84, [(0, .imm 83 (rows (zg true) nodes)), (1, vI n), (5, .ref 5 [] i), (6, vI i), (7, vI 0), (8, vI 0)], [(5, .row 3 (row1 cI (zG nodes i)))]⟩) (fun _ => 0) () trivial ?_ ?_
        · refine Ent.weak ?_ ?_ ?_ ?_ <;> simp +decide [subT, subB, zj, zi, zm, St.get, look, vI, vB, vS, cI, cS, cB, zg, roI, hd0, row1]
        · rintro _ _
          refine zf ze _ ?_
          simp +decide only [vB, vI, hlen, hc1, hb1, hb2, zk _ _ hil, zg, iN, hpin, go_sem, aD, mU]
          refine ⟨i + 1, by omega, by omega, Ent.weak ?_ ?_ ?_ ?_⟩
          all_goals simp +decide [subT, subB, zj, zi, zm, St.get, look, vI, vB, vS, cI, cS, cB, zg, roI, w64s (n := nodes.length) hil (by omega), hds, row1]
      · have hz1 : (0 < (i : Int)) = True := eq_true (by omega)
        have w3 : IntKind.i64.wrap ((i : Int) - 1) = ((i - 1 : Nat) : Int) := by rw [w64 (by omega) (by omega)]; omega
        have z3 : i - 1 < (zG nodes i).length := by omega
        have z4 : (((i - 1 : Nat) : Int) < (i : Int)) = True := eq_true (by omega)
        have z5 : i - 1 < i := by omega
        simp +decide only [hz1, w3, z4, z5, hlen, zW _ _ z3, iN, hpin, go_sem, aD, mU]
        rw [hg] at hds
        simp only [cond_false] at hds
        refine Tri.loop (ι := Unit) (fun _ => True) (fun _ => ⟨84, [(0, .imm 83 (rows (zg true) nodes)), (1, vI n), (5, .ref 5 [] i), (6, vI i), (7, vI 0), (8, vI 0)], [(5, .row 3 (row1 cI (zG nodes i)))]⟩) (fun _ => 0) () trivial ?_ ?_
        · refine Ent.weak ?_ ?_ ?_ ?_ <;> simp +decide [subT, subB, zj, zi, zm, St.get, look, vI, vB, vS, cI, cS, cB, zg, roI]
        · rintro _ _
          refine zf ze _ ?_
          simp +decide only [vB, vI, hlen, hc1, hb1, hb2, zk _ _ hil, zg, iN, hpin, go_sem, aD, mU]
          refine ⟨i + 1, by omega, by omega, Ent.weak ?_ ?_ ?_ ?_⟩
          all_goals simp +decide [subT, subB, zj, zi, zm, St.get, look, vI, vB, vS, cI, cS, cB, zg, roI, w64s (n := nodes.length) hil (by omega), hds, row1]
     | true =>
     by_cases hz : i = 0
     · have hi0 : (i == 0) = true := by simp [hz]
       have hg : g = true := by simp only [g, hb, hi0]; rfl
       have hz1 : (0 < (i : Int)) = False := eq_false (by omega)
       have hd0 : zG nodes i = [] := by rw [hz]; rfl
       have w3 : IntKind.i64.wrap ((i : Int) - 1) = -1 := by rw [hz]; decide
       have hr0 : row1 cI ([] : List Int) = [] := rfl
       simp +decide only [hz1, w3, hd0, hr0, Option.bind_none, hpin, go_sem, aD, mU]
       rw [hg] at hds
       simp only [cond_true] at hds
       obtain ⟨_, hkid⟩ := zkM hb
       generalize hx : nodes[i] = x at hds hkid hkx
       refine Tri.loop (ι := Nat) (fun j => j <= x.kids.length) (fun j => ⟨84, [(0, .imm 83 (rows (zg true) nodes)), (1, vI n), (5, .ref 5 [] i), (6, vI i), (7, vI (yD (zG nodes i) 1 (x.kids.take j))), (8, vI j)], [(5, .row 3 (row1 cI (zG nodes i)))]⟩) (fun j => x.kids.length - j) 0 (by simp) ?_ ?_
       · refine Ent.weak ?_ ?_ ?_ ?_ <;> simp +decide [subT, subB, zj, zi, zm, St.get, look, vI, vB, vS, cI, cS, cB, zg, roI, yD, hd0, row1]
       · rintro j hj
         refine zf ze _ ?_
         have hpos : (0 < yD (zG nodes i) 1 (x.kids.take j)) = True := eq_true (by have := zbO (zG nodes i) (x.kids.take j) 1; omega)
         by_cases hj' : j < x.kids.length
         · have e2 : ((j : Int) < (x.kids.length : Int)) = True := by simp [hj']
           obtain ⟨q0, q1, q2⟩ := hkid j hj'
           have z0 : (0 <= x.kids[j]) = True := eq_true q0
           have z1 : (x.kids[j] < (i : Int)) = True := eq_true q1
           have z2 : x.kids[j].toNat < (zG nodes i).length := by rw [hlen]; exact q2
           have hgg : (zG nodes i)[x.kids[j].toNat] = (zG nodes i).getD x.kids[j].toNat 0 := by simp [List.getD, z2]
           have hrg := zbi nodes i x.kids[j].toNat
           have w2 : IntKind.i64.wrap ((zG nodes i).getD x.kids[j].toNat 0 + 1) = (zG nodes i).getD x.kids[j].toNat 0 + 1 := w64 (by omega) (by omega)
           have htk := zcq (zG nodes i) x.kids 1 hj'
           simp +decide only [hpos, e2, hc1, z0, z1, q2, hlen, hx, zk _ _ hil, zg, zw _ _ hj', zW _ _ z2, hgg, w2, iN, vB, vI, hpin, go_sem, aD, mU]
           by_cases hm : (zG nodes i).getD x.kids[j].toNat 0 + 1 > yD (zG nodes i) 1 (x.kids.take j)
           · have hm1 : ((zG nodes i).getD x.kids[j].toNat 0 + 1 > yD (zG nodes i) 1 (x.kids.take j)) = True := eq_true hm
             have hm2 : (yD (zG nodes i) 1 (x.kids.take j) < (zG nodes i).getD x.kids[j].toNat 0 + 1) = True := eq_true hm
             rw [show max (yD (zG nodes i) 1 (x.kids.take j)) ((zG nodes i).getD x.kids[j].toNat 0 + 1) = (zG nodes i).getD x.kids[j].toNat 0 + 1 by rw [Int.max_def]; split <;> omega] at htk
             simp +decide only [hm1, hm2, hpos, e2, hc1, z0, z1, q2, hlen, hx, zk _ _ hil, zg, zw _ _ hj', zW _ _ z2, hgg, w2, iN, vB, vI, hpin, go_sem, aD, mU]
             refine ⟨j + 1, hj', by omega, Ent.weak ?_ ?_ ?_ ?_⟩
             all_goals simp +decide [subT, subB, zj, zi, zm, St.get, look, vI, vB, vS, cI, cS, cB, zg, roI, w64s (n := x.kids.length) hj' (by omega), htk]
           · have hm1 : ((zG nodes i).getD x.kids[j].toNat 0 + 1 > yD (zG nodes i) 1 (x.kids.take j)) = False := eq_false hm
             have hm2 : (yD (zG nodes i) 1 (x.kids.take j) < (zG nodes i).getD x.kids[j].toNat 0 + 1) = False := eq_false hm
             rw [show max (yD (zG nodes i) 1 (x.kids.take j)) ((zG nodes i).getD x.kids[j].toNat 0 + 1) = yD (zG nodes i) 1 (x.kids.take j) by rw [Int.max_def]; split <;> omega] at htk
             simp +decide only [hm1, hm2, hpos, e2, hc1, hpin, go_sem, aD, mU]
             refine ⟨j + 1, hj', by omega, Ent.weak ?_ ?_ ?_ ?_⟩
             all_goals simp +decide [subT, subB, zj, zi, zm, St.get, look, vI, vB, vS, cI, cS, cB, zg, roI, w64s (n := x.kids.length) hj' (by omega), htk]
         · have hjl : j = x.kids.length := by omega
           subst hjl
           have e2 : ((x.kids.length : Int) < (x.kids.length : Int)) = False := by simp
           rw [List.take_length] at hpos
           simp +decide only [e2, hpos, hc1, hx, zk _ _ hil, zg, iN, vB, vI, hpin, go_sem, aD, mU]
           by_cases hd : 10 < yD (zG nodes i) 1 x.kids
           · have hd1 : (10 < yD (zG nodes i) 1 x.kids) = True := eq_true hd
             have hv : zbP (yD (zG nodes i) 1 x.kids) = 0 := by simp [zbP, hd]
             rw [hv] at hds
             simp +decide only [hd1, hlen, hb1, hb2, hpin, go_sem, aD, mU]
             refine ⟨i + 1, by omega, by omega, Ent.weak ?_ ?_ ?_ ?_⟩
             all_goals simp +decide [subT, subB, zj, zi, zm, St.get, look, vI, vB, vS, cI, cS, cB, zg, roI, w64s (n := nodes.length) hil (by omega), hds, row1]
           · have hd1 : (10 < yD (zG nodes i) 1 x.kids) = False := eq_false hd
             have hv : zbP (yD (zG nodes i) 1 x.kids) = yD (zG nodes i) 1 x.kids := by simp [zbP, hd]
             rw [hv] at hds
             simp +decide only [hd1, hlen, hb1, hb2, hpin, go_sem, aD, mU]
             refine ⟨i + 1, by omega, by omega, Ent.weak ?_ ?_ ?_ ?_⟩
             all_goals simp +decide [subT, subB, zj, zi, zm, St.get, look, vI, vB, vS, cI, cS, cB, zg, roI, w64s (n := nodes.length) hil (by omega), hds, row1]
     · have hz1 : (0 < (i : Int)) = True := eq_true (by omega)
       have w3 : IntKind.i64.wrap ((i : Int) - 1) = ((i - 1 : Nat) : Int) := by rw [w64 (by omega) (by omega)]; omega
       have z3 : i - 1 < (zG nodes i).length := by omega
       have z4 : (((i - 1 : Nat) : Int) < (i : Int)) = True := eq_true (by omega)
       have z5 : i - 1 < i := by omega
       have hg3 : (zG nodes i)[i - 1] = (zG nodes i).getD (i - 1) 0 := by simp [List.getD, z3]
       have hi0 : (i == 0) = false := by simp [hz]
       simp +decide only [hz1, w3, z4, z5, hlen, zW _ _ z3, hg3, iN, hpin, go_sem, aD, mU]
       cases hq : (zG nodes i).getD (i - 1) 0 == 0 with
       | true =>
        have hg : g = false := by simp only [g, hb, hi0, hq]; rfl
        simp +decide only [hq, hpin, go_sem, aD, mU]
        rw [hg] at hds
        simp only [cond_false] at hds
        refine Tri.loop (ι := Unit) (fun _ => True) (fun _ => ⟨84, [(0, .imm 83 (rows (zg true) nodes)), (1, vI n), (5, .ref 5 [] i), (6, vI i), (7, vI 0), (8, vI 0)], [(5, .row 3 (row1 cI (zG nodes i)))]⟩) (fun _ => 0) () trivial ?_ ?_
        · refine Ent.weak ?_ ?_ ?_ ?_ <;> simp +decide [subT, subB, zj, zi, zm, St.get, look, vI, vB, vS, cI, cS, cB, zg, roI]
        · rintro _ _
          refine zf ze _ ?_
          simp +decide only [vB, vI, hlen, hc1, hb1, hb2, zk _ _ hil, zg, iN, hpin, go_sem, aD, mU]
          refine ⟨i + 1, by omega, by omega, Ent.weak ?_ ?_ ?_ ?_⟩
          all_goals simp +decide [subT, subB, zj, zi, zm, St.get, look, vI, vB, vS, cI, cS, cB, zg, roI, w64s (n := nodes.length) hil (by omega), hds, row1]
       | false =>
        have hg : g = true := by simp only [g, hb, hi0, hq]; rfl
        simp +decide only [hq, hpin, go_sem, aD, mU]
        rw [hg] at hds
        simp only [cond_true] at hds
        obtain ⟨_, hkid⟩ := zkM hb
        generalize hx : nodes[i] = x at hds hkid hkx
        refine Tri.loop (ι := Nat) (fun j => j <= x.kids.length) (fun j => ⟨84, [(0, .imm 83 (rows (zg true) nodes)), (1, vI n), (5, .ref 5 [] i), (6, vI i), (7, vI (yD (zG nodes i) 1 (x.kids.take j))), (8, vI j)], [(5, .row 3 (row1 cI (zG nodes i)))]⟩) (fun j => x.kids.length - j) 0 (by simp) ?_ ?_
        · refine Ent.weak ?_ ?_ ?_ ?_ <;> simp +decide [subT, subB, zj, zi, zm, St.get, look, vI, vB, vS, cI, cS, cB, zg, roI, yD]
        · rintro j hj
          refine zf ze _ ?_
          have hpos : (0 < yD (zG nodes i) 1 (x.kids.take j)) = True := eq_true (by have := zbO (zG nodes i) (x.kids.take j) 1; omega)
          by_cases hj' : j < x.kids.length
          · have e2 : ((j : Int) < (x.kids.length : Int)) = True := by simp [hj']
            obtain ⟨q0, q1, q2⟩ := hkid j hj'
            have z0 : (0 <= x.kids[j]) = True := eq_true q0
            have z1 : (x.kids[j] < (i : Int)) = True := eq_true q1
            have z2 : x.kids[j].toNat < (zG nodes i).length := by rw [hlen]; exact q2
            have hgg : (zG nodes i)[x.kids[j].toNat] = (zG nodes i).getD x.kids[j].toNat 0 := by simp [List.getD, z2]
            have hrg := zbi nodes i x.kids[j].toNat
            have w2 : IntKind.i64.wrap ((zG nodes i).getD x.kids[j].toNat 0 + 1) = (zG nodes i).getD x.kids[j].toNat 0 + 1 := w64 (by omega) (by omega)
            have htk := zcq (zG nodes i) x.kids 1 hj'
            simp +decide only [hpos, e2, hc1, z0, z1, q2, hlen, hx, zk _ _ hil, zg, zw _ _ hj', zW _ _ z2, hgg, w2, iN, vB, vI, hpin, go_sem, aD, mU]
            by_cases hm : (zG nodes i).getD x.kids[j].toNat 0 + 1 > yD (zG nodes i) 1 (x.kids.take j)
            · have hm1 : ((zG nodes i).getD x.kids[j].toNat 0 + 1 > yD (zG nodes i) 1 (x.kids.take j)) = True := eq_true hm
              have hm2 : (yD (zG nodes i) 1 (x.kids.take j) < (zG nodes i).getD x.kids[j].toNat 0 + 1) = True := eq_true hm
              rw [show max (yD (zG nodes i) 1 (x.kids.take j)) ((zG nodes i).getD x.kids[j].toNat 0 + 1) = (zG nodes i).getD x.kids[j].toNat 0 + 1 by rw [Int.max_def]; split <;> omega] at htk
              simp +decide only [hm1, hm2, hpos, e2, hc1, z0, z1, q2, hlen, hx, zk _ _ hil, zg, zw _ _ hj', zW _ _ z2, hgg, w2, iN, vB, vI, hpin, go_sem, aD, mU]
              refine ⟨j + 1, hj', by omega, Ent.weak ?_ ?_ ?_ ?_⟩
              all_goals simp +decide [subT, subB, zj, zi, zm, St.get, look, vI, vB, vS, cI, cS, cB, zg, roI, w64s (n := x.kids.length) hj' (by omega), htk]
            · have hm1 : ((zG nodes i).getD x.kids[j].toNat 0 + 1 > yD (zG nodes i) 1 (x.kids.take j)) = False := eq_false hm
              have hm2 : (yD (zG nodes i) 1 (x.kids.take j) < (zG nodes i).getD x.kids[j].toNat 0 + 1) = False := eq_false hm
              rw [show max (yD (zG nodes i) 1 (x.kids.take j)) ((zG nodes i).getD x.kids[j].toNat 0 + 1) = yD (zG nodes i) 1 (x.kids.take j) by rw [Int.max_def]; split <;> omega] at htk
              simp +decide only [hm1, hm2, hpos, e2, hc1, hpin, go_sem, aD, mU]
              refine ⟨j + 1, hj', by omega, Ent.weak ?_ ?_ ?_ ?_⟩
              all_goals simp +decide [subT, subB, zj, zi, zm, St.get, look, vI, vB, vS, cI, cS, cB, zg, roI, w64s (n := x.kids.length) hj' (by omega), htk]
          · have hjl : j = x.kids.length := by omega
            subst hjl
            have e2 : ((x.kids.length : Int) < (x.kids.length : Int)) = False := by simp
            rw [List.take_length] at hpos
            simp +decide only [e2, hpos, hc1, hx, zk _ _ hil, zg, iN, vB, vI, hpin, go_sem, aD, mU]
            by_cases hd : 10 < yD (zG nodes i) 1 x.kids
            · have hd1 : (10 < yD (zG nodes i) 1 x.kids) = True := eq_true hd
              have hv : zbP (yD (zG nodes i) 1 x.kids) = 0 := by simp [zbP, hd]
              rw [hv] at hds
              simp +decide only [hd1, hlen, hb1, hb2, hpin, go_sem, aD, mU]
              refine ⟨i + 1, by omega, by omega, Ent.weak ?_ ?_ ?_ ?_⟩
              all_goals simp +decide [subT, subB, zj, zi, zm, St.get, look, vI, vB, vS, cI, cS, cB, zg, roI, w64s (n := nodes.length) hil (by omega), hds, row1]
            · have hd1 : (10 < yD (zG nodes i) 1 x.kids) = False := eq_false hd
              have hv : zbP (yD (zG nodes i) 1 x.kids) = yD (zG nodes i) 1 x.kids := by simp [zbP, hd]
              rw [hv] at hds
              simp +decide only [hd1, hlen, hb1, hb2, hpin, go_sem, aD, mU]
              refine ⟨i + 1, by omega, by omega, Ent.weak ?_ ?_ ?_ ?_⟩
              all_goals simp +decide [subT, subB, zj, zi, zm, St.get, look, vI, vB, vS, cI, cS, cB, zg, roI, w64s (n := nodes.length) hil (by omega), hds, row1]
   · have hin : i = n + 1 := by omega
     subst hin
     have e : (((n + 1 : Nat) : Int) <= (n : Int)) = False := by simp; omega
     simp +decide only [e, hlen, vB, vI, hpin, go_sem, aD, mU]
     refine zf ze _ ?_
     simp +decide only [hlen, hpin, go_sem, aD, mU]
end Go.Proofs.YtjjigphfjclofaaGreatDoor.AW
