/- What the statements of this set lean on, part 5. No condition beyond those named. -/
import Derived.Test.YtjjigphfjclofaaGreatDoorLx4
import Derived.Test.YtjjigphfjclofaaGreatDoorProg
import Derived.KernelRfl
namespace Go.Proofs.YtjjigphfjclofaaGreatDoor.AW
open Go.RowKit
open Nat (reduceAdd reduceMul)
set_option maxHeartbeats 4000000
set_option maxRecDepth 100000
set_option linter.unusedSimpArgs false
set_option linter.unusedVariables false
theorem ze : Za Tryz.prog := znI (by kernel_rfl)
theorem zL : Tryz.prog.follows .mixedOrders = true := by kernel_rfl
theorem zqN : elT Tryz.prog 27 = some 3 := by kernel_rfl
theorem zrn : isR Tryz.prog 27 = some false := by kernel_rfl
theorem zoQ : szT Tryz.prog 27 = 1 := by kernel_rfl
attribute [go_sem] zqN zrn zoQ
theorem rInt : isR Tryz.prog 3 = some false := by kernel_rfl
theorem zho : szT Tryz.prog 3 = 1 := by kernel_rfl
theorem zInt : zeroCells Tryz.prog 3 = some [.int .i64 0] := by kernel_rfl
theorem zrQ : ZQ Tryz.prog 3 = 8 := by kernel_rfl
attribute [go_sem] rInt zho zInt zrQ
theorem rStr : isR Tryz.prog 9 = some false := by kernel_rfl
theorem uStr : Tryz.prog.underlying 9 = some .string := by kernel_rfl
theorem zrb : szT Tryz.prog 9 = 1 := by kernel_rfl
theorem zrP : ZQ Tryz.prog 9 = 16 := by kernel_rfl
attribute [go_sem] rStr uStr zrb zrP
theorem zqM : elT Tryz.prog 99 = some 9 := by kernel_rfl
theorem zrj : isR Tryz.prog 99 = some false := by kernel_rfl
theorem zqa : szT Tryz.prog 99 = 1 := by kernel_rfl
theorem zStr : zeroCells Tryz.prog 9 = some [.string ⟨#[]⟩] := by kernel_rfl
attribute [go_sem] zqM zrj zqa zStr
theorem zrp : isR Tryz.prog 4 = some false := by kernel_rfl
theorem zqb : szT Tryz.prog 4 = 1 := by kernel_rfl
theorem zqZ : Tryz.prog.underlying 4 = some .bool := by kernel_rfl
attribute [go_sem] zrp zqb zqZ
abbrev roI (l : List Int) : V := .imm 3 (row1 cI l)
attribute [go_sem] roI
abbrev ro64 (n : Int) : V := .sc (.int .i64 n)
attribute [go_sem] ro64
def Zk (k : Int) (n : Nat) : List Int := (List.range n).map fun (i : Nat) => k + i
theorem zh (k : Int) (n : Nat) : (Zk k n).length = n := by simp [Zk]
theorem zmA (k : Int) (n i : Nat) (h : i < (Zk k n).length) : (Zk k n)[i] = k + i := by simp [Zk]
theorem zcI (l : List Int) (n : Int) (hl : l.length < 9223372036854775807) : zB Tryz.prog 88 [.ro (roI l), .ro (.sc (.int .i64 n))] (fun rs st => rs = [(false, [cB (l.contains n)])]) := by
 refine zn (fn := Tryz.f88) (c := Tryz.f88.body.getD .skip) (res := [.tm 4]) (n := 17) ze (by kernel_rfl) (by rfl) (by kernel_rfl) (by rfl) (by rfl) (by simp [zq]) (fun C hpin hfull => ?_)
 simp +decide only [Tryz.f88, go_sem, reduceAdd, reduceMul]
 refine Tri.loop (ι := Nat) (fun i => i <= l.length /\ (l.take i).contains n = false) (fun i => ⟨17, [(0, roI l), (1, vI n), (4, vB false), (7, roI l), (8, vI l.length), (9, vI i)], []⟩) (fun i => l.length - i) 0 (by simp) ?_ ?_
 · refine Ent.weak ?_ ?_ ?_ ?_ <;> simp +decide [subT, subB, zl, zk, zo, St.get, look, vI, vB, vS]
 · rintro i ⟨hi, hn⟩
   refine zf ze _ ?_
   by_cases h : i < l.length
   · have e : ((i : Int) < (l.length : Int)) = True := by simp [h]
     simp +decide only [e, zr _ _ h, Int.natCast_nonneg, vI, vB, go_sem, reduceAdd, reduceMul]
     cases hq : (l[i] == n) with
     | true =>
       simp +decide only [vB, go_sem, reduceAdd, reduceMul]
       have : l.contains n = true := by simp at hq |-; exact hq ▸ List.getElem_mem h
       rw [this]
     | false =>
       simp +decide only [vB, go_sem, reduceAdd, reduceMul]
       refine ⟨i + 1, ⟨h, ?_⟩, by omega, Ent.weak ?_ ?_ ?_ ?_⟩
       · rw [List.take_succ_eq_append_getElem h, List.contains_append]
         simp at hn hq |-
         exact ⟨hn, fun e => hq e.symm⟩
       all_goals simp +decide [subT, subB, zl, zk, St.get, look, w64s (n := l.length) h (by omega), vI, vB]
   · have hil : i = l.length := by omega
     have e : ((i : Int) < (l.length : Int)) = False := by simp; omega
     rw [hil, List.take_length] at hn
     simp +decide only [e, hn, vI, vB, go_sem, reduceAdd, reduceMul]
theorem Yc (l : List Int) (k : Int) (hl : l.length < 9223372036854775807) (h0 : 0 <= k) (h1 : k + l.length < 9223372036854775807) :
   SoundAt Tryz.prog 48 (fun uf => zq 0 [.ro (.ref 2000 [] l.length), .ro (.sc (.int .i64 k))]) [(2000, .row 3 (row1 cI l))]
     (fun rs st => rs = [(false, [cI (k + l.length)])] /\ yh st.ob [(2000, .row 3 (row1 cI (Zk k l.length)))]) := by
 refine yx (fn := Tryz.f48) (c := Tryz.f48.body.getD .skip) (res := [.tm 4]) (n := 19) ze (by kernel_rfl) (by rfl) (by kernel_rfl) (by rfl) (by rfl) (by simp [zq]) (fun uf ub C hpin hpin2 hfull => ?_)
 simp +decide only [Tryz.f48, go_sem, reduceAdd, reduceMul]
 let L : Nat -> List Int := fun i => Zk k i ++ l.drop i
 have hL : ∀ i, i <= l.length -> (L i).length = l.length := fun i hi => by simp [L, Zk]; omega
 refine Tri.loop (ι := Nat) (fun i => i <= l.length) (fun i => ⟨19, [(0, .ref 2000 [] l.length), (1, vI (k + i)), (5, vI i)], [(2000, .row 3 (row1 cI (L i)))]⟩) (fun i => l.length - i) 0 (by simp) ?_ ?_
 · refine Ent.weak ?_ ?_ ?_ ?_ <;> simp +decide [subT, subB, zl, zk, St.get, look, vI, vB, L, Zk]
 · rintro i hi
   refine zf ze _ ?_
   by_cases h : i < l.length
   · have e : ((i : Int) < (l.length : Int)) = True := by simp [h]
     have e2 : i < (L i).length := by rw [hL i hi]; exact h
     simp +decide only [e, hL i hi, zr _ _ e2, Int.natCast_nonneg, vI, vB, go_sem, reduceAdd, reduceMul]
     refine ⟨h, i + 1, h, by omega, Ent.weak ?_ ?_ ?_ ?_⟩
     · have e3 : IntKind.i64.wrap (k + i + 1) = k + ((i + 1 : Nat) : Int) := by rw [w64 (by omega) (by omega)]; omega
       simp +decide [subT, St.get, look, w64s (n := l.length) h (by omega), e3, vI, vB]
     · have e4 : (row1 cI (L i)).set i [D.sc (.int .i64 (k + i))] = row1 cI (L (i + 1)) := by
         have := zcY cI (L i) i (k + i)
         simp only [cI] at this |-
         rw [this]
         congr 1
         apply List.ext_getElem
         · simp [L, Zk]; omega
         · intro j h1 h2
           simp only [L, Zk, List.getElem_set, List.getElem_append, List.length_map, List.length_range, List.getElem_map, List.getElem_range, List.getElem_drop]
           by_cases e1 : i = j
           · subst e1; simp
           · rw [if_neg e1]
             by_cases e2 : j < i
             · rw [dif_pos e2, dif_pos (by omega)]
             · rw [dif_neg e2, dif_neg (by omega)]; congr 1; omega
       simp +decide [subB, look, e4, cI]
     all_goals simp +decide [zl, zk, look, vI]
   · have hil : i = l.length := by omega
     subst hil
     have e : ((l.length : Int) < (l.length : Int)) = False := by simp
     simp +decide only [e, vI, vB, go_sem, reduceAdd, reduceMul]
     simp [L, Zk]
theorem Xw (l : List Int) (k : Int) (hl : l.length < 9223372036854775807) (h0 : 0 <= k) (h1 : k + l.length < 9223372036854775807) :
   zB Tryz.prog 50 [.ro (roI l), .ro (.sc (.int .i64 k))] (fun rs st => rs = [(false, [cI (if l = Zk k l.length then k + l.length else -1)])]) := by
 refine zn (fn := Tryz.f50) (c := Tryz.f50.body.getD .skip) (res := [.tm 4]) (n := 21) ze (by kernel_rfl) (by rfl) (by kernel_rfl) (by rfl) (by rfl) (by simp [zq]) (fun C hpin hfull => ?_)
 simp +decide only [Tryz.f50, go_sem, reduceAdd, reduceMul]
 refine Tri.loop (ι := Nat) (fun i => i <= l.length /\ l.take i = Zk k i) (fun i => ⟨21, [(0, roI l), (1, vI (k + i)), (5, vI i)], []⟩) (fun i => l.length - i) 0 (by simp [Zk]) ?_ ?_
 · refine Ent.weak ?_ ?_ ?_ ?_ <;> simp +decide [subT, subB, zl, zk, zo, St.get, look, vI, vB, vS]
 · rintro i ⟨hi, hn⟩
   refine zf ze _ ?_
   by_cases h : i < l.length
   · have e : ((i : Int) < (l.length : Int)) = True := by simp [h]
     simp +decide only [e, zr _ _ h, Int.natCast_nonneg, vI, vB, go_sem, reduceAdd, reduceMul]
     cases hq : (l[i] != k + i) with
     | true =>
       simp +decide only [vI, go_sem, reduceAdd, reduceMul]
       have : ¬ l = Zk k l.length := fun e1 => by
         have e2 : l[i] = k + i := by
           have := List.getElem_of_eq e1 h
           rw [this, zmA]
         simp [e2] at hq
       rw [if_neg this]
     | false =>
       simp +decide only [vI, go_sem, reduceAdd, reduceMul]
       refine ⟨i + 1, ⟨h, ?_⟩, by omega, Ent.weak ?_ ?_ ?_ ?_⟩
       · rw [List.take_succ_eq_append_getElem h, hn]
         simp at hq
         simp [Zk, List.range_succ, hq]
       · have e3 : IntKind.i64.wrap (k + i + 1) = k + ((i + 1 : Nat) : Int) := by rw [w64 (by omega) (by omega)]; omega
         simp +decide [subT, St.get, look, w64s (n := l.length) h (by omega), e3, vI, vB]
       all_goals simp +decide [subB, zl, zk, look, vI]
   · have hil : i = l.length := by omega
     subst hil
     have e : ((l.length : Int) < (l.length : Int)) = False := by simp
     rw [List.take_length] at hn
     simp +decide only [e, vI, vB, go_sem, reduceAdd, reduceMul]
     rw [if_pos hn]
theorem zjD (l l' : List Int) (hl : l.length < 9223372036854775807) : zB Tryz.prog 42 [.ro (roI l), .ro (roI l')] (fun rs st => rs = [(false, [cB (decide (l = l'))])]) := by
 refine zn (fn := Tryz.f42) (c := Tryz.f42.body.getD .skip) (res := [.tm 4]) (n := 26) ze (by kernel_rfl) (by rfl) (by kernel_rfl) (by rfl) (by rfl) (by simp [zq]) (fun C hpin hfull => ?_)
 by_cases hlen : l.length = l'.length
 · have e0 : ((l.length : Int) != (l'.length : Int)) = false := by simp [hlen]
   simp +decide only [Tryz.f42, e0, go_sem, reduceAdd, reduceMul]
   refine Tri.loop (ι := Nat) (fun i => i <= l.length /\ l.take i = l'.take i) (fun i => ⟨26, [(0, roI l), (1, roI l'), (5, vI i)], []⟩) (fun i => l.length - i) 0 (by simp) ?_ ?_
   · refine Ent.weak ?_ ?_ ?_ ?_ <;> simp +decide [subT, subB, zl, zk, zo, St.get, look, vI, vB, vS]
   · rintro i ⟨hi, hn⟩
     refine zf ze _ ?_
     by_cases h : i < l.length
     · have e : ((i : Int) < (l.length : Int)) = True := by simp [h]
       have h' : i < l'.length := by omega
       have e' : ((i : Int) < (l'.length : Int)) = True := by simp [h']
       simp +decide only [e, vI, vB, go_sem, reduceAdd, reduceMul]
       refine Tri.draw ze zL (by kernel_rfl) ?_
       simp +decide only [e, e', zr _ _ h, zr _ _ h', Int.natCast_nonneg, vI, vB, go_sem, reduceAdd, reduceMul]
       cases hq : (l[i] != l'[i]) with
       | true =>
         simp +decide only [vI, vB, go_sem, reduceAdd, reduceMul]
         have : ¬ l = l' := fun e1 => by subst e1; simp at hq
         simp [this]
       | false =>
         simp +decide only [vI, go_sem, reduceAdd, reduceMul]
         refine ⟨i + 1, ⟨h, ?_⟩, by omega, Ent.weak ?_ ?_ ?_ ?_⟩
         · rw [List.take_succ_eq_append_getElem h, List.take_succ_eq_append_getElem h', hn]
           simp at hq; rw [hq]
         all_goals simp +decide [subT, subB, zl, zk, St.get, look, w64s (n := l.length) h (by omega), vI, vB]
     · have hil : i = l.length := by omega
       subst hil
       have e : ((l.length : Int) < (l.length : Int)) = False := by simp
       simp +decide only [e, vI, vB, go_sem, reduceAdd, reduceMul]
       rw [List.take_length, hlen, List.take_length] at hn
       simp [hn]
 · have e0 : ((l.length : Int) != (l'.length : Int)) = true := by simp; omega
   have e1 : ¬ l = l' := fun e => hlen (by rw [e])
   simp +decide only [Tryz.f42, e0, e1, go_sem, reduceAdd, reduceMul]
theorem zok (n lo hi : Int) : zB Tryz.prog 40 [.ro (.sc (.int .i64 n)), .ro (.sc (.int .i64 lo)), .ro (.sc (.int .i64 hi))] (fun rs st => rs = [(false, [cB (decide (lo <= n) && decide (n <= hi))])]) := by
 refine zn (fn := Tryz.f40) (c := Tryz.f40.body.getD .skip) (res := [.tm 6]) (n := 15) ze (by kernel_rfl) (by rfl) (by kernel_rfl) (by rfl) (by rfl) (by simp [zq]) (fun C hpin hfull => ?_)
 simp +decide only [Tryz.f40, go_sem, reduceAdd, reduceMul]
 by_cases h : lo <= n <;> simp [h]
theorem zjp (n lo hi : Int) : zB Tryz.prog 35 [.ro (.sc (.int .i64 n)), .ro (.sc (.int .i64 lo)), .ro (.sc (.int .i64 hi))] (fun rs st => rs = [(false, [cB (decide (lo <= n) && decide (n <= hi))])]) := by
 refine zn (fn := Tryz.f35) (c := Tryz.f35.body.getD .skip) (res := [.tm 6]) (n := 15) ze (by kernel_rfl) (by rfl) (by kernel_rfl) (by rfl) (by rfl) (by simp [zq]) (fun C hpin hfull => ?_)
 simp +decide only [Tryz.f35, go_sem, reduceAdd, reduceMul]
 by_cases h : lo <= n <;> simp [h]
theorem zhn (l : List Int) (x : Int) (hl : l.length < 4611686018427387904) (h0 : -4611686018427387904 < x) (h1 : x < 4611686018427387904) : zB Tryz.prog 162 [.ro (roI l), .ro (.sc (.int .i64 x))] (fun rs st => rs = [(false, [cI (if x - l.length < 0 then -1 else x - l.length)])]) := by
 refine zn (fn := Tryz.f162) (c := Tryz.f162.body.getD .skip) (res := [.tm 4]) (n := 12) ze (by kernel_rfl) (by rfl) (by kernel_rfl) (by rfl) (by rfl) (by simp [zq]) (fun C hpin hfull => ?_)
 have e : IntKind.i64.wrap (x - (l.length : Int)) = x - l.length := w64 (by omega) (by omega)
 simp +decide only [Tryz.f162, e, go_sem, reduceAdd, reduceMul]
 by_cases h : x - (l.length : Int) < 0
 · have e2 : (x - (l.length : Int) < 0) = True := by simp [h]
   simp +decide only [e2, go_sem, reduceAdd, reduceMul]
 · have e2 : (x - (l.length : Int) < 0) = False := by simp; omega
   simp +decide only [e2, go_sem, reduceAdd, reduceMul]
theorem zhk (l : List Int) (hl : l.length <= 35184372088832) : zB Tryz.prog 173 [.ro (roI l)] (fun rs st => rs = [(false, [.row false 3 (row1 cI l)])]) := by
 refine zn (fn := Tryz.f173) (c := Tryz.f173.body.getD .skip) (res := [.tm 2]) (n := 22) ze (by kernel_rfl) (by rfl) (by kernel_rfl) (by rfl) (by rfl) (by simp [zq]) (fun C hpin hfull => ?_)
 have e1 : (8 : Nat) * (l.length : Int) <= 281474976710656 := by omega
 simp +decide only [Tryz.f173, hpin, go_sem, reduceAdd, reduceMul]
 refine ⟨by omega, by omega, by omega, ?_⟩
 let L : Nat -> List Int := fun i => l.take i ++ List.replicate (l.length - i) 0
 have hL : ∀ i, i <= l.length -> (L i).length = l.length := fun i hi => by simp [L]; omega
 refine Tri.loop (ι := Nat) (fun i => i <= l.length) (fun i => ⟨22, [(0, roI l), (2, .ref 2 [] 0), (3, .ref 3 [] l.length), (4, vI i)], [(3, .row 3 (row1 cI (L i))), (2, .row 3 [])]⟩) (fun i => l.length - i) 0 (by simp) ?_ ?_
 · refine Ent.weak ?_ ?_ ?_ ?_ <;> simp +decide [subT, subB, zl, zk, St.get, look, vI, vB, L, row1, cI]
 · rintro i hi
   refine zf ze _ ?_
   by_cases h : i < l.length
   · have e : ((i : Int) < (l.length : Int)) = True := by simp [h]
     have e2 : i < (L i).length := by rw [hL i hi]; exact h
     simp +decide only [e, h, hL i hi, zr _ _ h, zr _ _ e2, Int.natCast_nonneg, vI, vB, go_sem, reduceAdd, reduceMul]
     refine ⟨i + 1, h, by omega, Ent.weak ?_ ?_ ?_ ?_⟩
     · simp +decide [subT, St.get, look, w64s (n := l.length) h (by omega), vI, vB]
     · have e4 : (row1 cI (L i)).set i [D.sc (.int .i64 l[i])] = row1 cI (L (i + 1)) := by
         have := zcY cI (L i) i l[i]
         simp only [cI] at this |-
         rw [this]
         congr 1
         apply List.ext_getElem
         · simp [L]; omega
         · intro j h1 h2
           simp only [L, List.getElem_set, List.getElem_append, List.length_take, List.getElem_take, List.getElem_replicate]
           by_cases e1 : i = j
           · subst e1; simp; omega
           · rw [if_neg e1]
             by_cases e2 : j < i
             · rw [dif_pos (by omega), dif_pos (by omega)]
             · rw [dif_neg (by omega), dif_neg (by omega)]
       simp +decide [subB, look, e4, cI]
     all_goals simp +decide [zl, zk, look, vI]
   · have hil : i = l.length := by omega
     subst hil
     have e : ((l.length : Int) < (l.length : Int)) = False := by simp
     simp +decide only [e, hL l.length (Nat.le_refl _), hpin, vI, vB, go_sem, reduceAdd, reduceMul]
     simp [L]
theorem zlP (l : List Int) (left : Int) (h0 : 0 <= left) (h1 : left < 1152921504606846976) (hl : l.length < 1152921504606846976) : zB Tryz.prog 162 [.ro (roI l), .ro (.sc (.int .i64 left))] (fun rs st => rs = [(false, [cI (sub left l.length)])]) := by
 have := zhn l left (by omega) (by omega) (by omega)
 exact this
theorem zlK (l : List Int) (hl : l.length <= 1048576) : zB Tryz.prog 173 [.ro (roI l)] (fun rs st => rs = [(false, [.row false 3 (row1 cI l)])]) := zhk l (by omega)
theorem zeC (l : List Int) (hl : l.length <= 1048576) : zB Tryz.prog 42 [.ro (roI l), .ro (roI l)] (fun rs st => rs = [(false, [cB true])]) := by
 have := zjD l l (by omega)
 simpa using this
theorem zqL : fo Tryz.prog 139 0 = some 0 := by kernel_rfl
theorem zqK : fo Tryz.prog 139 1 = some 1 := by kernel_rfl
theorem zqJ : fo Tryz.prog 139 2 = some 2 := by kernel_rfl
theorem zqI : fo Tryz.prog 139 3 = some 3 := by kernel_rfl
theorem zqH : fo Tryz.prog 139 4 = some 4 := by kernel_rfl
theorem zqG : fo Tryz.prog 139 5 = some 5 := by kernel_rfl
theorem zqF : fo Tryz.prog 139 6 = some 6 := by kernel_rfl
theorem zro : isR Tryz.prog 139 = some true := by kernel_rfl
theorem zrg : szT Tryz.prog 139 = 7 := by kernel_rfl
theorem zqX : zeroCells Tryz.prog 139 = some [.int .i64 0, .int .i64 0, .int .i64 0, .int .i64 0, .int .i64 0, .string ⟨#[]⟩, .slice none 0 0] := by kernel_rfl
theorem zrS : ZQ Tryz.prog 139 = 80 := by kernel_rfl
theorem zqs : Zo Tryz.prog 139 = some [(0, 1), (1, 1), (2, 1), (3, 1), (4, 1), (5, 1), (6, 1)] := by kernel_rfl
attribute [go_sem] zqL zqK zqJ zqI zqH zqG zqF zro zrg zqX zrS zqs
theorem zrN : elT Tryz.prog 28 = some 139 := by kernel_rfl
theorem zqm : isR Tryz.prog 28 = some false := by kernel_rfl
theorem zqg : szT Tryz.prog 28 = 1 := by kernel_rfl
attribute [go_sem] zrN zqm zqg
structure InsD where
 op : Int
 a : Int
 b : Int
 c : Int
 num : Int
 name : ByteArray
 args : List Int
def insC (sh : Bool) (x : InsD) : List D := [cI x.op, cI x.a, cI x.b, cI x.c, cI x.num, cS x.name, .row sh 3 (row1 cI x.args)]
def insW (x : InsD) : V := .agg [.sc (.int .i64 x.op), .sc (.int .i64 x.a), .sc (.int .i64 x.b), .sc (.int .i64 x.c), .sc (.int .i64 x.num), .sc (.string x.name), roI x.args]
def ZU (x : InsD) : Nat := x.name.size + x.args.length
theorem zmR (sh : Bool) : shF (insC sh) = insC true := by funext x; simp [shF, insC, shL, shD, cI, cS, cB, Zr, Zv]
theorem zel (x : InsD) : ZL (insC false x) = true := by simp [insC, ZL, noSh, cI, cS, cB, Zs]
attribute [go_sem] zmR zel
theorem zil (l : List InsD) : xB (rows (insC false) l) = true := xk zel l
attribute [go_sem] zil
theorem zpE : fo Tryz.prog 30 0 = some 0 := by kernel_rfl
theorem zpD : fo Tryz.prog 30 1 = some 1 := by kernel_rfl
theorem zpC : fo Tryz.prog 30 2 = some 2 := by kernel_rfl
theorem zpB : fo Tryz.prog 30 3 = some 3 := by kernel_rfl
theorem zqp : isR Tryz.prog 30 = some true := by kernel_rfl
theorem zqj : szT Tryz.prog 30 = 4 := by kernel_rfl
theorem zpX : zeroCells Tryz.prog 30 = some [.string ⟨#[]⟩, .int .i64 0, .slice none 0 0, .slice none 0 0] := by kernel_rfl
theorem zqU : ZQ Tryz.prog 30 = 72 := by kernel_rfl
theorem zph : Zo Tryz.prog 30 = some [(0, 1), (1, 1), (2, 1), (3, 1)] := by kernel_rfl
attribute [go_sem] zpE zpD zpC zpB zqp zqj zpX zqU zph
theorem zqQ : elT Tryz.prog 43 = some 30 := by kernel_rfl
theorem zpd : isR Tryz.prog 43 = some false := by kernel_rfl
theorem zoX : szT Tryz.prog 43 = 1 := by kernel_rfl
attribute [go_sem] zqQ zpd zoX
structure CodeD where
 name : ByteArray
 params : Int
 locals : List Int
 words : List InsD
def zm (sh : Bool) (x : CodeD) : List D := [cS x.name, cI x.params, .row sh 3 (row1 cI x.locals), .row sh 139 (rows (insC sh) x.words)]
def zx (x : CodeD) : V := .agg [.sc (.string x.name), .sc (.int .i64 x.params), roI x.locals, .imm 139 (rows (insC true) x.words)]
def yZ (x : CodeD) : Nat := x.name.size + x.locals.length + (x.words.length + sumN ZU x.words)
theorem zov (sh : Bool) : shF (zm sh) = zm true := by funext x; simp [shF, zm, shL, shD, cI, cS, cB, Zr, Zv, zmR]
theorem zfT (x : CodeD) : ZL (zm false x) = true := by simp [zm, ZL, noSh, cI, cS, cB, Zs, xk zel]
attribute [go_sem] zov zfT
theorem zgR (l : List CodeD) : xB (rows (zm false) l) = true := xk zfT l
attribute [go_sem] zgR
theorem zpA : fo Tryz.prog 83 0 = some 0 := by kernel_rfl
theorem zpz : fo Tryz.prog 83 1 = some 1 := by kernel_rfl
theorem zpy : fo Tryz.prog 83 2 = some 2 := by kernel_rfl
theorem zpx : fo Tryz.prog 83 3 = some 3 := by kernel_rfl
theorem zqo : isR Tryz.prog 83 = some true := by kernel_rfl
theorem zqi : szT Tryz.prog 83 = 4 := by kernel_rfl
theorem zpW : zeroCells Tryz.prog 83 = some [.int .i64 0, .int .i64 0, .string ⟨#[]⟩, .slice none 0 0] := by kernel_rfl
theorem zqT : ZQ Tryz.prog 83 = 56 := by kernel_rfl
theorem zpg : Zo Tryz.prog 83 = some [(0, 1), (1, 1), (2, 1), (3, 1)] := by kernel_rfl
attribute [go_sem] zpA zpz zpy zpx zqo zqi zpW zqT zpg
theorem zqP : elT Tryz.prog 33 = some 83 := by kernel_rfl
theorem zpc : isR Tryz.prog 33 = some false := by kernel_rfl
theorem zoW : szT Tryz.prog 33 = 1 := by kernel_rfl
attribute [go_sem] zqP zpc zoW
theorem zpw : fo Tryz.prog 126 0 = some 0 := by kernel_rfl
theorem zpv : fo Tryz.prog 126 1 = some 1 := by kernel_rfl
theorem zpu : fo Tryz.prog 126 2 = some 2 := by kernel_rfl
theorem zpt : fo Tryz.prog 126 3 = some 3 := by kernel_rfl
theorem zqn : isR Tryz.prog 126 = some true := by kernel_rfl
theorem zqh : szT Tryz.prog 126 = 4 := by kernel_rfl
attribute [go_sem] zpw zpv zpu zpt zqn zqh
theorem zqO : elT Tryz.prog 22 = some 126 := by kernel_rfl
theorem zpb : isR Tryz.prog 22 = some false := by kernel_rfl
theorem zoV : szT Tryz.prog 22 = 1 := by kernel_rfl
attribute [go_sem] zqO zpb zoV
structure NodeD where
 kind : Int
 num : Int
 name : ByteArray
 kids : List Int
def zg (sh : Bool) (x : NodeD) : List D := [cI x.kind, cI x.num, cS x.name, .row sh 3 (row1 cI x.kids)]
def zoa (x : NodeD) : V := .agg [.sc (.int .i64 x.kind), .sc (.int .i64 x.num), .sc (.string x.name), roI x.kids]
def zF (x : NodeD) : Nat := x.name.size + x.kids.length
def XV (x : NodeD) : Prop := x.name.size < 1152921504606846976 /\ x.kids.length < 1152921504606846976
theorem zkn (sh : Bool) : shF (zg sh) = zg true := by funext x; simp [shF, zg, shL, shD, cI, cS, cB, Zr, Zv]
theorem zcc (x : NodeD) : ZL (zg false x) = true := by simp [zg, ZL, noSh, cI, cS, cB, Zs]
attribute [go_sem] zkn zcc
theorem zgv (l : List NodeD) : xB (rows (zg false) l) = true := xk zcc l
attribute [go_sem] zgv
def zcb (x : NodeD) : List D := [cI x.kind, cI x.num, cS x.name, .row true 3 (row1 cI x.kids)]
def zjg (x : NodeD) : V := .agg [.sc (.int .i64 x.kind), .sc (.int .i64 x.num), .sc (.string x.name), roI x.kids]
theorem zkm : shF zcb = zcb := by funext x; simp [shF, zcb, shL, shD, cI, cS, cB, Zr, Zv]
attribute [go_sem] zkm
theorem zop : fo Tryz.prog 107 0 = some 0 := by kernel_rfl
theorem zoo : fo Tryz.prog 107 1 = some 1 := by kernel_rfl
theorem zpf : isR Tryz.prog 107 = some true := by kernel_rfl
theorem zoZ : szT Tryz.prog 107 = 2 := by kernel_rfl
theorem zoM : zeroCells Tryz.prog 107 = some [.string ⟨#[]⟩, .int .i64 0] := by kernel_rfl
theorem zpN : ZQ Tryz.prog 107 = 24 := by kernel_rfl
theorem znT : Zo Tryz.prog 107 = some [(0, 1), (1, 1)] := by kernel_rfl
attribute [go_sem] zop zoo zpf zoZ zoM zpN znT
theorem zpJ : elT Tryz.prog 102 = some 107 := by kernel_rfl
theorem znP : isR Tryz.prog 102 = some false := by kernel_rfl
theorem znL : szT Tryz.prog 102 = 1 := by kernel_rfl
attribute [go_sem] zpJ znP znL
theorem zon : fo Tryz.prog 188 0 = some 0 := by kernel_rfl
theorem zom : fo Tryz.prog 188 1 = some 1 := by kernel_rfl
theorem zpe : isR Tryz.prog 188 = some true := by kernel_rfl
theorem zoY : szT Tryz.prog 188 = 2 := by kernel_rfl
attribute [go_sem] zon zom zpe zoY
theorem zpI : elT Tryz.prog 128 = some 188 := by kernel_rfl
theorem znO : isR Tryz.prog 128 = some false := by kernel_rfl
theorem znK : szT Tryz.prog 128 = 1 := by kernel_rfl
attribute [go_sem] zpI znO znK
structure ParamD where
 name : ByteArray
 ty : Int
def zE (sh : Bool) (x : ParamD) : List D := [cS x.name, cI x.ty]
def zki (x : ParamD) : V := .agg [.sc (.string x.name), .sc (.int .i64 x.ty)]
def zK (x : ParamD) : Nat := x.name.size
def Yj (x : ParamD) : Prop := x.name.size < 1152921504606846976
theorem zhN (sh : Bool) : shF (zE sh) = zE true := by funext x; simp [shF, zE, shL, shD, cI, cS, cB, Zr, Zv]
theorem zaX (x : ParamD) : ZL (zE false x) = true := by simp [zE, ZL, noSh, cI, cS, cB, Zs]
attribute [go_sem] zhN zaX
theorem zeZ (l : List ParamD) : xB (rows (zE false) l) = true := xk zaX l
attribute [go_sem] zeZ
def Xb (x : ParamD) : List D := [cS x.name, cI x.ty]
def zdG (x : ParamD) : V := .agg [.sc (.string x.name), .sc (.int .i64 x.ty)]
theorem zhM : shF Xb = Xb := by funext x; simp [shF, Xb, shL, shD, cI, cS, cB, Zr, Zv]
attribute [go_sem] zhM
theorem zrK : fo Tryz.prog 104 0 = some 0 := by kernel_rfl
theorem zrJ : fo Tryz.prog 104 1 = some 1 := by kernel_rfl
theorem zrI : fo Tryz.prog 104 2 = some 2 := by kernel_rfl
theorem zrH : fo Tryz.prog 104 3 = some 3 := by kernel_rfl
theorem zrG : fo Tryz.prog 104 4 = some 4 := by kernel_rfl
theorem rFnC : isR Tryz.prog 104 = some true := by kernel_rfl
theorem sFnC : szT Tryz.prog 104 = 5 := by kernel_rfl
theorem zFnC : zeroCells Tryz.prog 104 = some [.string ⟨#[]⟩, .slice none 0 0, .int .i64 0, .int .i64 0, .int .i64 0] := by kernel_rfl
theorem bFnC : ZQ Tryz.prog 104 = 64 := by kernel_rfl
theorem zrs : Zo Tryz.prog 104 = some [(0, 1), (1, 1), (2, 1), (3, 1), (4, 1)] := by kernel_rfl
attribute [go_sem] zrK zrJ zrI zrH zrG rFnC sFnC zFnC bFnC zrs
theorem eFnC : elT Tryz.prog 34 = some 104 := by kernel_rfl
theorem zrm : isR Tryz.prog 34 = some false := by kernel_rfl
theorem zrf : szT Tryz.prog 34 = 1 := by kernel_rfl
attribute [go_sem] eFnC zrm zrf
theorem zrF : fo Tryz.prog 130 0 = some 0 := by kernel_rfl
theorem zrE : fo Tryz.prog 130 1 = some 1 := by kernel_rfl
theorem zrD : fo Tryz.prog 130 2 = some 2 := by kernel_rfl
theorem zrC : fo Tryz.prog 130 3 = some 3 := by kernel_rfl
theorem zrB : fo Tryz.prog 130 4 = some 4 := by kernel_rfl
theorem rFnL : isR Tryz.prog 130 = some true := by kernel_rfl
theorem sFnL : szT Tryz.prog 130 = 5 := by kernel_rfl
attribute [go_sem] zrF zrE zrD zrC zrB rFnL sFnL
theorem eFnL : elT Tryz.prog 23 = some 130 := by kernel_rfl
theorem zrl : isR Tryz.prog 23 = some false := by kernel_rfl
theorem zre : szT Tryz.prog 23 = 1 := by kernel_rfl
attribute [go_sem] eFnL zrl zre
structure FnD where
 name : ByteArray
 params : List ParamD
 res : Int
 body : Int
 ret : Int
def fnC (sh : Bool) (x : FnD) : List D := [cS x.name, .row sh 107 (rows (zE sh) x.params), cI x.res, cI x.body, cI x.ret]
def fnW (x : FnD) : V := .agg [.sc (.string x.name), .imm 107 (rows (zE true) x.params), .sc (.int .i64 x.res), .sc (.int .i64 x.body), .sc (.int .i64 x.ret)]
def yc (x : FnD) : Nat := x.name.size + (x.params.length + sumN zK x.params)
def zeu (x : FnD) : Prop := x.name.size < 1152921504606846976 /\ x.params.length < 1152921504606846976 /\ (∀ y ∈ x.params, Yj y)
theorem zoL (sh : Bool) : shF (fnC sh) = fnC true := by funext x; simp [shF, fnC, shL, shD, cI, cS, cB, Zr, Zv, zhN]
theorem zgL (x : FnD) : ZL (fnC false x) = true := by simp [fnC, ZL, noSh, cI, cS, cB, Zs, xk zaX]
attribute [go_sem] zoL zgL
theorem zjv (l : List FnD) : xB (rows (fnC false) l) = true := xk zgL l
attribute [go_sem] zjv
def fnL (x : FnD) : List D := [cS x.name, .row true 188 (rows Xb x.params), cI x.res, cI x.body, cI x.ret]
def fnV (x : FnD) : V := .agg [.sc (.string x.name), .imm 188 (rows Xb x.params), .sc (.int .i64 x.res), .sc (.int .i64 x.body), .sc (.int .i64 x.ret)]
theorem zoK : shF fnL = fnL := by funext x; simp [shF, fnL, shL, shD, cI, cS, cB, Zr, Zv, zhM]
attribute [go_sem] zoK
theorem zlp : fo Tryz.prog 36 0 = some 0 := by kernel_rfl
theorem zlo : fo Tryz.prog 36 1 = some 1 := by kernel_rfl
theorem zmo : isR Tryz.prog 36 = some true := by kernel_rfl
theorem zmh : szT Tryz.prog 36 = 2 := by kernel_rfl
theorem zlC : zeroCells Tryz.prog 36 = some [.slice none 0 0, .slice none 0 0] := by kernel_rfl
theorem znl : ZQ Tryz.prog 36 = 48 := by kernel_rfl
theorem zla : Zo Tryz.prog 36 = some [(0, 1), (1, 1)] := by kernel_rfl
attribute [go_sem] zlp zlo zmo zmh zlC znl zla
theorem zln : fo Tryz.prog 25 0 = some 0 := by kernel_rfl
theorem zlm : fo Tryz.prog 25 1 = some 1 := by kernel_rfl
theorem zmn : isR Tryz.prog 25 = some true := by kernel_rfl
theorem zmg : szT Tryz.prog 25 = 2 := by kernel_rfl
attribute [go_sem] zln zlm zmn zmg
structure ProgramD where
 nodes : List NodeD
 fns : List FnD
def za (sh : Bool) (x : ProgramD) : List D := [.row sh 83 (rows (zg sh) x.nodes), .row sh 104 (rows (fnC sh) x.fns)]
def zb (x : ProgramD) : V := .agg [.imm 83 (rows (zg true) x.nodes), .imm 104 (rows (fnC true) x.fns)]
def zJ (x : ProgramD) : Nat := (x.nodes.length + sumN zF x.nodes) + (x.fns.length + sumN yc x.fns)
def ZI (x : ProgramD) : Prop := x.nodes.length < 1152921504606846976 /\ (∀ y ∈ x.nodes, XV y) /\ x.fns.length < 1152921504606846976 /\ (∀ y ∈ x.fns, zeu y)
theorem ziY (sh : Bool) : shF (za sh) = za true := by funext x; simp [shF, za, shL, shD, cI, cS, cB, Zr, Zv, zkn, zoL]
theorem zbx (x : ProgramD) : ZL (za false x) = true := by simp [za, ZL, noSh, cI, cS, cB, Zs, xk zcc, xk zgL]
attribute [go_sem] ziY zbx
theorem zcP (l : List ProgramD) : xB (rows (za false) l) = true := xk zbx l
attribute [go_sem] zcP
def Xq (x : ProgramD) : List D := [.row true 126 (rows zcb x.nodes), .row true 130 (rows fnL x.fns)]
def zp (x : ProgramD) : V := .agg [.imm 126 (rows zcb x.nodes), .imm 130 (rows fnL x.fns)]
theorem zdE : shF Xq = Xq := by funext x; simp [shF, Xq, shL, shD, cI, cS, cB, Zr, Zv, zkm, zoK]
attribute [go_sem] zdE
theorem zqA : fo Tryz.prog 96 0 = some 0 := by kernel_rfl
theorem zqz : fo Tryz.prog 96 1 = some 1 := by kernel_rfl
theorem zqy : fo Tryz.prog 96 2 = some 2 := by kernel_rfl
theorem zri : isR Tryz.prog 96 = some true := by kernel_rfl
theorem zrc : szT Tryz.prog 96 = 3 := by kernel_rfl
theorem zqV : zeroCells Tryz.prog 96 = some [.string ⟨#[]⟩, .int .i64 0, .int .i64 0] := by kernel_rfl
theorem zrR : ZQ Tryz.prog 96 = 32 := by kernel_rfl
theorem zqq : Zo Tryz.prog 96 = some [(0, 1), (1, 1), (2, 1)] := by kernel_rfl
attribute [go_sem] zqA zqz zqy zri zrc zqV zrR zqq
theorem zrM : elT Tryz.prog 74 = some 96 := by kernel_rfl
theorem zql : isR Tryz.prog 74 = some false := by kernel_rfl
theorem zqf : szT Tryz.prog 74 = 1 := by kernel_rfl
attribute [go_sem] zrM zql zqf
structure VarD where
 name : ByteArray
 ty : Int
 node : Int
def varC (sh : Bool) (x : VarD) : List D := [cS x.name, cI x.ty, cI x.node]
theorem zoP (sh : Bool) : shF (varC sh) = varC true := by funext x; simp [shF, varC, shL, shD, cI, cS, cB, Zr, Zv]
theorem zha (x : VarD) : ZL (varC false x) = true := by simp [varC, ZL, noSh, cI, cS, cB, Zs]
attribute [go_sem] zoP zha
theorem zgZ (l : List VarD) : xB (rows (varC false) l) = true := xk zha l
attribute [go_sem] zgZ
theorem zmZ : fo Tryz.prog 166 0 = some 0 := by kernel_rfl
theorem zmY : fo Tryz.prog 166 1 = some 1 := by kernel_rfl
theorem znQ : isR Tryz.prog 166 = some true := by kernel_rfl
theorem znM : szT Tryz.prog 166 = 2 := by kernel_rfl
theorem znw : zeroCells Tryz.prog 166 = some [.string ⟨#[]⟩, .int .i64 0] := by kernel_rfl
theorem zoB : ZQ Tryz.prog 166 = 24 := by kernel_rfl
theorem zmq : Zo Tryz.prog 166 = some [(0, 1), (1, 1)] := by kernel_rfl
attribute [go_sem] zmZ zmY znQ znM znw zoB zmq
theorem zos : elT Tryz.prog 113 = some 166 := by kernel_rfl
theorem zmm : isR Tryz.prog 113 = some false := by kernel_rfl
theorem zmf : szT Tryz.prog 113 = 1 := by kernel_rfl
attribute [go_sem] zos zmm zmf
structure EffectD where
 name : ByteArray
 bits : Int
def zck (sh : Bool) (x : EffectD) : List D := [cS x.name, cI x.bits]
theorem zls (sh : Bool) : shF (zck sh) = zck true := by funext x; simp [shF, zck, shL, shD, cI, cS, cB, Zr, Zv]
theorem zcL (x : EffectD) : ZL (zck false x) = true := by simp [zck, ZL, noSh, cI, cS, cB, Zs]
attribute [go_sem] zls zcL
theorem zeD (l : List EffectD) : xB (rows (zck false) l) = true := xk zcL l
attribute [go_sem] zeD
theorem zjE (x : InsD) (h : ZU x <= 1048576) : zB Tryz.prog 125 [.ro (insW x), .ro (insW x)] (fun rs st => rs = [(false, [cB true])]) := by
 unfold ZU at h
 refine zn (fn := Tryz.f125) (c := Tryz.f125.body.getD .skip) (res := [.tm 4]) (n := 41) ze (by kernel_rfl) (by rfl) (by kernel_rfl) (by rfl) (by rfl) (by simp [zq]) (fun C hpin hfull => ?_)
 simp +decide only [Tryz.f125, insW, bne_self_eq_false, hpin, go_sem, reduceAdd, reduceMul]
 refine zd (zeC x.args (by omega)) hpin ?_
 simp +decide only [bne_self_eq_false, hpin, go_sem, reduceAdd, reduceMul]
theorem zir (l : List InsD) (h : l.length + sumN ZU l <= 1048576) : zB Tryz.prog 43 [.ro (.imm 139 (rows (insC true) l)), .ro (.imm 139 (rows (insC true) l))] (fun rs st => rs = [(false, [cB true])]) := by
 refine zn (fn := Tryz.f43) (c := Tryz.f43.body.getD .skip) (res := [.tm 4]) (n := 27) ze (by kernel_rfl) (by rfl) (by kernel_rfl) (by rfl) (by rfl) (by simp [zq]) (fun C hpin hfull => ?_)
 simp +decide only [Tryz.f43, bne_self_eq_false, hpin, go_sem, reduceAdd, reduceMul]
 refine Tri.loop (ι := Nat) (fun i => i <= l.length) (fun i => ⟨27, [(0, .imm 139 (rows (insC true) l)), (1, .imm 139 (rows (insC true) l)), (5, vI i)], []⟩) (fun i => l.length - i) 0 (by simp) ?_ ?_
 · refine Ent.weak ?_ ?_ ?_ ?_ <;> simp +decide [subT, subB, zl, zk, St.get, look, vI, vB]
 · rintro i hi
   refine zf ze _ ?_
   by_cases h' : i < l.length
   · have e : ((i : Int) < (l.length : Int)) = True := by simp [h']
     have hc := ZB ZU h'
     simp +decide only [e, vI, hpin, go_sem, reduceAdd, reduceMul]
     refine Tri.sched ze [(0, true), (1, true), (4, true), (5, true), (2, true), (6, true), (3, true), (7, true), (8, false), (9, false)] zL (by kernel_rfl) (fun C2 hC2 => ?_)
     have hp2 := zN hC2 hpin
     simp +decide only [e, h', zi _ _ h', Int.natCast_nonneg, vI, insC, hp2, go_sem, reduceAdd, reduceMul]
     refine zd (zjE l[i] (by omega)) hp2 ?_
     simp +decide only [insW, hp2, go_sem, reduceAdd, reduceMul]
     refine ⟨i + 1, h', by omega, Ent.weak ?_ ?_ ?_ ?_⟩ <;> simp +decide [subT, subB, zl, zk, St.get, look, w64s (n := l.length) h' (by omega), vI, vB]
   · have hil : i = l.length := by omega
     subst hil
     have e : ((l.length : Int) < (l.length : Int)) = False := by simp
     simp +decide only [e, vI, hpin, go_sem, reduceAdd, reduceMul]
theorem YQ (x : CodeD) (h : yZ x <= 1048576) : zB Tryz.prog 13 [.ro (zx x), .ro (zx x)] (fun rs st => rs = [(false, [cB true])]) := by
 unfold yZ at h
 refine zn (fn := Tryz.f13) (c := Tryz.f13.body.getD .skip) (res := [.tm 4]) (n := 27) ze (by kernel_rfl) (by rfl) (by kernel_rfl) (by rfl) (by rfl) (by simp [zq]) (fun C hpin hfull => ?_)
 simp +decide only [Tryz.f13, zx, bne_self_eq_false, hpin, go_sem, reduceAdd, reduceMul]
 refine zd (zeC x.locals (by omega)) hpin ?_
 simp +decide only [bne_self_eq_false, hpin, go_sem, reduceAdd, reduceMul]
 refine zd (zir x.words (by omega)) hpin ?_
 simp +decide only [bne_self_eq_false, hpin, go_sem, reduceAdd, reduceMul]
theorem XC (l : List CodeD) (h : l.length + sumN yZ l <= 1048576) : zB Tryz.prog 20 [.ro (.imm 30 (rows (zm true) l)), .ro (.imm 30 (rows (zm true) l))] (fun rs st => rs = [(false, [cB true])]) := by
 refine zn (fn := Tryz.f20) (c := Tryz.f20.body.getD .skip) (res := [.tm 4]) (n := 27) ze (by kernel_rfl) (by rfl) (by kernel_rfl) (by rfl) (by rfl) (by simp [zq]) (fun C hpin hfull => ?_)
 simp +decide only [Tryz.f20, bne_self_eq_false, hpin, go_sem, reduceAdd, reduceMul]
 refine Tri.loop (ι := Nat) (fun i => i <= l.length) (fun i => ⟨27, [(0, .imm 30 (rows (zm true) l)), (1, .imm 30 (rows (zm true) l)), (5, vI i)], []⟩) (fun i => l.length - i) 0 (by simp) ?_ ?_
 · refine Ent.weak ?_ ?_ ?_ ?_ <;> simp +decide [subT, subB, zl, zk, St.get, look, vI, vB]
 · rintro i hi
   refine zf ze _ ?_
   by_cases h' : i < l.length
   · have e : ((i : Int) < (l.length : Int)) = True := by simp [h']
     have hc := ZB yZ h'
     simp +decide only [e, vI, hpin, go_sem, reduceAdd, reduceMul]
     refine Tri.sched ze [(0, true), (1, true), (4, true), (5, true), (2, true), (6, true), (3, true), (7, true), (8, false), (9, false)] zL (by kernel_rfl) (fun C2 hC2 => ?_)
     have hp2 := zN hC2 hpin
     simp +decide only [e, h', zi _ _ h', Int.natCast_nonneg, vI, zm, hp2, go_sem, reduceAdd, reduceMul]
     refine zd (YQ l[i] (by omega)) hp2 ?_
     simp +decide only [zx, hp2, go_sem, reduceAdd, reduceMul]
     refine ⟨i + 1, h', by omega, Ent.weak ?_ ?_ ?_ ?_⟩ <;> simp +decide [subT, subB, zl, zk, St.get, look, w64s (n := l.length) h' (by omega), vI, vB]
   · have hil : i = l.length := by omega
     subst hil
     have e : ((l.length : Int) < (l.length : Int)) = False := by simp
     simp +decide only [e, vI, hpin, go_sem, reduceAdd, reduceMul]
theorem zhm (x : NodeD) (left : Int) (h0 : 0 <= left) (h1 : left < 1152921504606846976) (hs : XV x) : zB Tryz.prog 103 [.ro (zjg x), .ro (.sc (.int .i64 left))] (fun rs st => rs = [(false, [cI (sub left (zF x))])]) := by
 refine zn (fn := Tryz.f103) (c := Tryz.f103.body.getD .skip) (res := [.tm 4]) (n := 19) ze (by kernel_rfl) (by rfl) (by kernel_rfl) (by rfl) (by rfl) (by simp [zq]) (fun C hpin hfull => ?_)
 obtain ⟨s0, s1⟩ := hs
 have w0 : IntKind.i64.wrap (left - (x.name.size : Int)) = left - x.name.size := w64 (by omega) (by omega)
 simp +decide only [Tryz.f103, zjg, w0, hpin, go_sem, reduceAdd, reduceMul]
 by_cases h0_ : left - ((x.name.size : Nat) : Int) < 0
 · have e : sub left (zF x) = -1 := yQ (by unfold zF; omega)
   rw [e]
   simp +decide only [h0_, hpin, go_sem, reduceAdd, reduceMul]
 have n0 : (left - ((x.name.size : Nat) : Int) < 0) = False := by simpa using h0_
 simp +decide only [n0, hpin, go_sem, reduceAdd, reduceMul]
 refine zd (zlP x.kids (left - ((x.name.size : Nat) : Int)) (by omega) (by omega) s1) hpin ?_
 by_cases h1_ : left - ((x.name.size : Nat) : Int) - ((x.kids.length : Nat) : Int) < 0
 · have e : sub left (zF x) = -1 := yQ (by unfold zF; omega)
   rw [e]
   rw [yQ h1_]
   simp +decide only [h1_, hpin, go_sem, reduceAdd, reduceMul]
 rw [xO h1_]
 have n1 : (left - ((x.name.size : Nat) : Int) - ((x.kids.length : Nat) : Int) < 0) = False := by simpa using h1_
 have e : sub left (zF x) = left - ((x.name.size : Nat) : Int) - ((x.kids.length : Nat) : Int) := by rw [xO (by unfold zF; omega)]; unfold zF; omega
 rw [e]
 simp +decide only [n1, hpin, go_sem, reduceAdd, reduceMul]
theorem zgk (l : List NodeD) (left : Int) (h0 : 0 <= left) (h1 : left < 1152921504606846976) (hl : l.length < 1152921504606846976) (hs : ∀ y ∈ l, XV y) : zB Tryz.prog 32 [.ro (.imm 126 (rows zcb l)), .ro (.sc (.int .i64 left))] (fun rs st => rs = [(false, [cI (sub left (l.length + sumN zF l))])]) := by
 refine zn (fn := Tryz.f32) (c := Tryz.f32.body.getD .skip) (res := [.tm 4]) (n := 27) ze (by kernel_rfl) (by rfl) (by kernel_rfl) (by rfl) (by rfl) (by simp [zq]) (fun C hpin hfull => ?_)
 have w0 : IntKind.i64.wrap (left - (l.length : Int)) = left - l.length := w64 (by omega) (by omega)
 simp +decide only [Tryz.f32, w0, hpin, go_sem, reduceAdd, reduceMul]
 by_cases hn : left - (l.length : Int) < 0
 · have e : sub left (l.length + sumN zF l) = -1 := yQ (by omega)
   rw [e]
   simp +decide only [hn, hpin, go_sem, reduceAdd, reduceMul]
 have nn : (left - (l.length : Int) < 0) = False := by simpa using hn
 simp +decide only [nn, hpin, go_sem, reduceAdd, reduceMul]
 refine Tri.loop (ι := Nat) (fun i => i <= l.length /\ 0 <= left - l.length - (sumN zF (l.take i) : Nat)) (fun i => ⟨27, [(0, .imm 126 (rows zcb l)), (1, vI (left - l.length - (sumN zF (l.take i) : Nat))), (5, vI i)], []⟩) (fun i => l.length - i) 0 ⟨Nat.zero_le _, by rw [zgl]; omega⟩ ?_ ?_
 · refine Ent.weak ?_ ?_ ?_ ?_ <;> simp +decide [subT, subB, zl, zk, zo, St.get, look, vI, vB, vS, sumN]
 · rintro i ⟨hi, hp⟩
   refine zf ze _ ?_
   by_cases h : i < l.length
   · have e : ((i : Int) < (l.length : Int)) = True := by simp [h]
     simp +decide only [e, zi _ _ h, Int.natCast_nonneg, vI, zcb, hpin, go_sem, reduceAdd, reduceMul]
     refine zd (zhm l[i] (left - l.length - (sumN zF (l.take i) : Nat)) hp (by omega) (hs _ (List.getElem_mem h))) hpin ?_
     have hle := xN zF l (i + 1)
     have htk := xx zF l h
     by_cases h3 : left - l.length - (sumN zF (l.take i) : Nat) - ((zF l[i] : Nat) : Int) < 0
     · have e : sub left (l.length + sumN zF l) = -1 := yQ (by omega)
       rw [e, yQ h3]
       simp +decide only [zjg, hpin, go_sem, reduceAdd, reduceMul]
     · rw [xO h3]
       have n3 : (left - l.length - (sumN zF (l.take i) : Nat) - ((zF l[i] : Nat) : Int) < 0) = False := by simpa using h3
       simp +decide only [n3, zjg, hpin, go_sem, reduceAdd, reduceMul]
       have e4 : left - l.length - (sumN zF (l.take i) : Nat) - ((zF l[i] : Nat) : Int) = left - l.length - (sumN zF (l.take (i + 1)) : Nat) := by omega
       rw [e4]
       exact ⟨i + 1, ⟨h, by omega⟩, by omega, Ent.weak (by simp +decide [subT, St.get, look, w64s (n := l.length) h (by omega), vI]) (by simp [subB]) (by simp) (by simp [zl, zk, vI])⟩
   · have hil : i = l.length := by omega
     subst hil
     have e : ((l.length : Int) < (l.length : Int)) = False := by simp
     have e2 : sub left (l.length + sumN zF l) = left - l.length - (sumN zF l : Nat) := by
       rw [List.take_length] at hp
       rw [xO (by omega)]; omega
     rw [e2]
     simp +decide only [e, vI, hpin, go_sem, reduceAdd, reduceMul]
theorem zhj (x : NodeD) (h : zF x <= 1048576) : zB Tryz.prog 114 [.ro (zjg x)] (fun rs st => rs = [(true, zg false x)]) := by
 unfold zF at h
 refine zn (fn := Tryz.f114) (c := Tryz.f114.body.getD .skip) (res := [.ce 2 83]) (n := 18) ze (by kernel_rfl) (by rfl) (by kernel_rfl) (by rfl) (by rfl) (by simp [zq]) (fun C hpin hfull => ?_)
 simp +decide only [Tryz.f114, zjg, hpin, go_sem, reduceAdd, reduceMul]
 refine zd (zlK x.kids (by omega)) hpin ?_
 simp +decide only [zg, hpin, go_sem, reduceAdd, reduceMul]
theorem zgf (l : List NodeD) (h : l.length + sumN zF l <= 1048576) : zB Tryz.prog 37 [.ro (.imm 126 (rows zcb l))] (fun rs st => rs = [(false, [.row false 83 (rows (zg false) l)])]) := by
 refine zn (fn := Tryz.f37) (c := Tryz.f37.body.getD .skip) (res := [.tm 2]) (n := 23) ze (by kernel_rfl) (by rfl) (by kernel_rfl) (by rfl) (by rfl) (by simp [zq]) (fun C hpin hfull => ?_)
 have e1 : (56 : Nat) * (l.length : Int) <= 281474976710656 := by omega
 simp +decide only [Tryz.f37, hpin, go_sem, reduceAdd, reduceMul]
 refine ⟨by omega, by omega, by omega, ?_⟩
 let Z : List D := [.sc (.int .i64 0), .sc (.int .i64 0), .sc (.string ⟨#[]⟩), .sc (.slice none 0 0)]
 refine Tri.loop (ι := Nat) (fun i => i <= l.length) (fun i => ⟨23, [(0, .imm 126 (rows zcb l)), (2, .ref 2 [] 0), (3, .ref 3 [] l.length), (4, vI i)], [(3, .row 83 (zbJ (zg false) Z l i)), (2, .row 83 [])]⟩) (fun i => l.length - i) 0 (by simp) ?_ ?_
 · refine Ent.weak ?_ ?_ ?_ ?_ <;> simp +decide [subT, subB, zl, zk, St.get, look, vI, vB, Z, zcj]
 · rintro i hi
   refine zf ze _ ?_
   by_cases h' : i < l.length
   · have e : ((i : Int) < (l.length : Int)) = True := by simp [h']
     have hc := ZB zF h'
     simp +decide only [e, h', zi _ _ h', Int.natCast_nonneg, vI, zcb, hpin, go_sem, reduceAdd, reduceMul]
     refine zd (zhj l[i] (by omega)) hpin ?_
     simp +decide only [e, h', zjg, zg, Zh (zg false) Z l hi, zez (zg false) Z l h', Int.natCast_nonneg, Z, hpin, go_sem, reduceAdd, reduceMul]
     have e4 := zey (zg false) Z l h'
     simp only [zg, cI, cS, cB] at e4
     refine ⟨i + 1, h', by omega, Ent.weak ?_ ?_ ?_ ?_⟩
     · simp +decide [subT, St.get, look, w64s (n := l.length) h' (by omega), vI, vB]
     · simp +decide [subB, look, e4, cI, Z]
     all_goals simp +decide [zl, zk, look, vI]
   · have hil : i = l.length := by omega
     subst hil
     have e : ((l.length : Int) < (l.length : Int)) = False := by simp
     simp +decide only [e, Zh (zg false) Z l (Nat.le_refl _), zeA, vI, hpin, go_sem, reduceAdd, reduceMul]
theorem ziq (x : NodeD) (h : zF x <= 1048576) : zB Tryz.prog 126 [.ro (zoa x), .ro (zoa x)] (fun rs st => rs = [(false, [cB true])]) := by
 unfold zF at h
 refine zn (fn := Tryz.f126) (c := Tryz.f126.body.getD .skip) (res := [.tm 4]) (n := 26) ze (by kernel_rfl) (by rfl) (by kernel_rfl) (by rfl) (by rfl) (by simp [zq]) (fun C hpin hfull => ?_)
 simp +decide only [Tryz.f126, zoa, bne_self_eq_false, hpin, go_sem, reduceAdd, reduceMul]
 refine zd (zeC x.kids (by omega)) hpin ?_
 simp +decide only [bne_self_eq_false, hpin, go_sem, reduceAdd, reduceMul]
theorem zgO (l : List NodeD) (h : l.length + sumN zF l <= 1048576) : zB Tryz.prog 44 [.ro (.imm 83 (rows (zg true) l)), .ro (.imm 83 (rows (zg true) l))] (fun rs st => rs = [(false, [cB true])]) := by
 refine zn (fn := Tryz.f44) (c := Tryz.f44.body.getD .skip) (res := [.tm 4]) (n := 27) ze (by kernel_rfl) (by rfl) (by kernel_rfl) (by rfl) (by rfl) (by simp [zq]) (fun C hpin hfull => ?_)
 simp +decide only [Tryz.f44, bne_self_eq_false, hpin, go_sem, reduceAdd, reduceMul]
 refine Tri.loop (ι := Nat) (fun i => i <= l.length) (fun i => ⟨27, [(0, .imm 83 (rows (zg true) l)), (1, .imm 83 (rows (zg true) l)), (5, vI i)], []⟩) (fun i => l.length - i) 0 (by simp) ?_ ?_
 · refine Ent.weak ?_ ?_ ?_ ?_ <;> simp +decide [subT, subB, zl, zk, St.get, look, vI, vB]
 · rintro i hi
   refine zf ze _ ?_
   by_cases h' : i < l.length
   · have e : ((i : Int) < (l.length : Int)) = True := by simp [h']
     have hc := ZB zF h'
     simp +decide only [e, vI, hpin, go_sem, reduceAdd, reduceMul]
     refine Tri.sched ze [(0, true), (1, true), (4, true), (5, true), (2, true), (6, true), (3, true), (7, true), (8, false), (9, false)] zL (by kernel_rfl) (fun C2 hC2 => ?_)
     have hp2 := zN hC2 hpin
     simp +decide only [e, h', zi _ _ h', Int.natCast_nonneg, vI, zg, hp2, go_sem, reduceAdd, reduceMul]
     refine zd (ziq l[i] (by omega)) hp2 ?_
     simp +decide only [zoa, hp2, go_sem, reduceAdd, reduceMul]
     refine ⟨i + 1, h', by omega, Ent.weak ?_ ?_ ?_ ?_⟩ <;> simp +decide [subT, subB, zl, zk, St.get, look, w64s (n := l.length) h' (by omega), vI, vB]
   · have hil : i = l.length := by omega
     subst hil
     have e : ((l.length : Int) < (l.length : Int)) = False := by simp
     simp +decide only [e, vI, hpin, go_sem, reduceAdd, reduceMul]
theorem zgj (x : ParamD) (left : Int) (h0 : 0 <= left) (h1 : left < 1152921504606846976) (hs : Yj x) : zB Tryz.prog 193 [.ro (zdG x), .ro (.sc (.int .i64 left))] (fun rs st => rs = [(false, [cI (sub left (zK x))])]) := by
 refine zn (fn := Tryz.f193) (c := Tryz.f193.body.getD .skip) (res := [.tm 4]) (n := 13) ze (by kernel_rfl) (by rfl) (by kernel_rfl) (by rfl) (by rfl) (by simp [zq]) (fun C hpin hfull => ?_)
 have s0 := hs
 unfold Yj at s0
 have w0 : IntKind.i64.wrap (left - (x.name.size : Int)) = left - x.name.size := w64 (by omega) (by omega)
 simp +decide only [Tryz.f193, zdG, w0, hpin, go_sem, reduceAdd, reduceMul]
 by_cases h0_ : left - ((x.name.size : Nat) : Int) < 0
 · have e : sub left (zK x) = -1 := yQ (by unfold zK; omega)
   rw [e]
   simp +decide only [h0_, hpin, go_sem, reduceAdd, reduceMul]
 have n0 : (left - ((x.name.size : Nat) : Int) < 0) = False := by simpa using h0_
 have e : sub left (zK x) = left - ((x.name.size : Nat) : Int) := by rw [xO (by unfold zK; omega)]; unfold zK; omega
 rw [e]
 simp +decide only [n0, hpin, go_sem, reduceAdd, reduceMul]
theorem zeV (l : List ParamD) (left : Int) (h0 : 0 <= left) (h1 : left < 1152921504606846976) (hl : l.length < 1152921504606846976) (hs : ∀ y ∈ l, Yj y) : zB Tryz.prog 163 [.ro (.imm 188 (rows Xb l)), .ro (.sc (.int .i64 left))] (fun rs st => rs = [(false, [cI (sub left (l.length + sumN zK l))])]) := by
 refine zn (fn := Tryz.f163) (c := Tryz.f163.body.getD .skip) (res := [.tm 4]) (n := 27) ze (by kernel_rfl) (by rfl) (by kernel_rfl) (by rfl) (by rfl) (by simp [zq]) (fun C hpin hfull => ?_)
 have w0 : IntKind.i64.wrap (left - (l.length : Int)) = left - l.length := w64 (by omega) (by omega)
 simp +decide only [Tryz.f163, w0, hpin, go_sem, reduceAdd, reduceMul]
 by_cases hn : left - (l.length : Int) < 0
 · have e : sub left (l.length + sumN zK l) = -1 := yQ (by omega)
   rw [e]
   simp +decide only [hn, hpin, go_sem, reduceAdd, reduceMul]
 have nn : (left - (l.length : Int) < 0) = False := by simpa using hn
 simp +decide only [nn, hpin, go_sem, reduceAdd, reduceMul]
 refine Tri.loop (ι := Nat) (fun i => i <= l.length /\ 0 <= left - l.length - (sumN zK (l.take i) : Nat)) (fun i => ⟨27, [(0, .imm 188 (rows Xb l)), (1, vI (left - l.length - (sumN zK (l.take i) : Nat))), (5, vI i)], []⟩) (fun i => l.length - i) 0 ⟨Nat.zero_le _, by rw [zgl]; omega⟩ ?_ ?_
 · refine Ent.weak ?_ ?_ ?_ ?_ <;> simp +decide [subT, subB, zl, zk, zo, St.get, look, vI, vB, vS, sumN]
 · rintro i ⟨hi, hp⟩
   refine zf ze _ ?_
   by_cases h : i < l.length
   · have e : ((i : Int) < (l.length : Int)) = True := by simp [h]
     simp +decide only [e, zi _ _ h, Int.natCast_nonneg, vI, Xb, hpin, go_sem, reduceAdd, reduceMul]
     refine zd (zgj l[i] (left - l.length - (sumN zK (l.take i) : Nat)) hp (by omega) (hs _ (List.getElem_mem h))) hpin ?_
     have hle := xN zK l (i + 1)
     have htk := xx zK l h
     by_cases h3 : left - l.length - (sumN zK (l.take i) : Nat) - ((zK l[i] : Nat) : Int) < 0
     · have e : sub left (l.length + sumN zK l) = -1 := yQ (by omega)
       rw [e, yQ h3]
       simp +decide only [zdG, hpin, go_sem, reduceAdd, reduceMul]
     · rw [xO h3]
       have n3 : (left - l.length - (sumN zK (l.take i) : Nat) - ((zK l[i] : Nat) : Int) < 0) = False := by simpa using h3
       simp +decide only [n3, zdG, hpin, go_sem, reduceAdd, reduceMul]
       have e4 : left - l.length - (sumN zK (l.take i) : Nat) - ((zK l[i] : Nat) : Int) = left - l.length - (sumN zK (l.take (i + 1)) : Nat) := by omega
       rw [e4]
       exact ⟨i + 1, ⟨h, by omega⟩, by omega, Ent.weak (by simp +decide [subT, St.get, look, w64s (n := l.length) h (by omega), vI]) (by simp [subB]) (by simp) (by simp [zl, zk, vI])⟩
   · have hil : i = l.length := by omega
     subst hil
     have e : ((l.length : Int) < (l.length : Int)) = False := by simp
     have e2 : sub left (l.length + sumN zK l) = left - l.length - (sumN zK l : Nat) := by
       rw [List.take_length] at hp
       rw [xO (by omega)]; omega
     rw [e2]
     simp +decide only [e, vI, hpin, go_sem, reduceAdd, reduceMul]
theorem zge (x : ParamD) (h : zK x <= 1048576) : zB Tryz.prog 203 [.ro (zdG x)] (fun rs st => rs = [(true, zE false x)]) := by
 unfold zK at h
 refine zn (fn := Tryz.f203) (c := Tryz.f203.body.getD .skip) (res := [.ce 2 107]) (n := 11) ze (by kernel_rfl) (by rfl) (by kernel_rfl) (by rfl) (by rfl) (by simp [zq]) (fun C hpin hfull => ?_)
 simp +decide only [Tryz.f203, zdG, zE, hpin, go_sem, reduceAdd, reduceMul]
theorem zeU (l : List ParamD) (h : l.length + sumN zK l <= 1048576) : zB Tryz.prog 174 [.ro (.imm 188 (rows Xb l))] (fun rs st => rs = [(false, [.row false 107 (rows (zE false) l)])]) := by
 refine zn (fn := Tryz.f174) (c := Tryz.f174.body.getD .skip) (res := [.tm 2]) (n := 23) ze (by kernel_rfl) (by rfl) (by kernel_rfl) (by rfl) (by rfl) (by simp [zq]) (fun C hpin hfull => ?_)
 have e1 : (24 : Nat) * (l.length : Int) <= 281474976710656 := by omega
 simp +decide only [Tryz.f174, hpin, go_sem, reduceAdd, reduceMul]
 refine ⟨by omega, by omega, by omega, ?_⟩
 let Z : List D := [.sc (.string ⟨#[]⟩), .sc (.int .i64 0)]
 refine Tri.loop (ι := Nat) (fun i => i <= l.length) (fun i => ⟨23, [(0, .imm 188 (rows Xb l)), (2, .ref 2 [] 0), (3, .ref 3 [] l.length), (4, vI i)], [(3, .row 107 (zbJ (zE false) Z l i)), (2, .row 107 [])]⟩) (fun i => l.length - i) 0 (by simp) ?_ ?_
 · refine Ent.weak ?_ ?_ ?_ ?_ <;> simp +decide [subT, subB, zl, zk, St.get, look, vI, vB, Z, zcj]
 · rintro i hi
   refine zf ze _ ?_
   by_cases h' : i < l.length
   · have e : ((i : Int) < (l.length : Int)) = True := by simp [h']
     have hc := ZB zK h'
     simp +decide only [e, h', zi _ _ h', Int.natCast_nonneg, vI, Xb, hpin, go_sem, reduceAdd, reduceMul]
     refine zd (zge l[i] (by omega)) hpin ?_
     simp +decide only [e, h', zdG, zE, Zh (zE false) Z l hi, zez (zE false) Z l h', Int.natCast_nonneg, Z, hpin, go_sem, reduceAdd, reduceMul]
     have e4 := zey (zE false) Z l h'
     simp only [zE, cI, cS, cB] at e4
     refine ⟨i + 1, h', by omega, Ent.weak ?_ ?_ ?_ ?_⟩
     · simp +decide [subT, St.get, look, w64s (n := l.length) h' (by omega), vI, vB]
     · simp +decide [subB, look, e4, cI, Z]
     all_goals simp +decide [zl, zk, look, vI]
   · have hil : i = l.length := by omega
     subst hil
     have e : ((l.length : Int) < (l.length : Int)) = False := by simp
     simp +decide only [e, Zh (zE false) Z l (Nat.le_refl _), zeA, vI, hpin, go_sem, reduceAdd, reduceMul]
theorem zgN (x : ParamD) (h : zK x <= 1048576) : zB Tryz.prog 209 [.ro (zki x), .ro (zki x)] (fun rs st => rs = [(false, [cB true])]) := by
 unfold zK at h
 refine zn (fn := Tryz.f209) (c := Tryz.f209.body.getD .skip) (res := [.tm 4]) (n := 15) ze (by kernel_rfl) (by rfl) (by kernel_rfl) (by rfl) (by rfl) (by simp [zq]) (fun C hpin hfull => ?_)
 simp +decide only [Tryz.f209, zki, bne_self_eq_false, hpin, go_sem, reduceAdd, reduceMul]
theorem zfh (l : List ParamD) (h : l.length + sumN zK l <= 1048576) : zB Tryz.prog 183 [.ro (.imm 107 (rows (zE true) l)), .ro (.imm 107 (rows (zE true) l))] (fun rs st => rs = [(false, [cB true])]) := by
 refine zn (fn := Tryz.f183) (c := Tryz.f183.body.getD .skip) (res := [.tm 4]) (n := 27) ze (by kernel_rfl) (by rfl) (by kernel_rfl) (by rfl) (by rfl) (by simp [zq]) (fun C hpin hfull => ?_)
 simp +decide only [Tryz.f183, bne_self_eq_false, hpin, go_sem, reduceAdd, reduceMul]
 refine Tri.loop (ι := Nat) (fun i => i <= l.length) (fun i => ⟨27, [(0, .imm 107 (rows (zE true) l)), (1, .imm 107 (rows (zE true) l)), (5, vI i)], []⟩) (fun i => l.length - i) 0 (by simp) ?_ ?_
 · refine Ent.weak ?_ ?_ ?_ ?_ <;> simp +decide [subT, subB, zl, zk, St.get, look, vI, vB]
 · rintro i hi
   refine zf ze _ ?_
   by_cases h' : i < l.length
   · have e : ((i : Int) < (l.length : Int)) = True := by simp [h']
     have hc := ZB zK h'
     simp +decide only [e, vI, hpin, go_sem, reduceAdd, reduceMul]
     refine Tri.sched ze [(0, true), (1, true), (4, true), (5, true), (2, true), (6, true), (3, true), (7, true), (8, false), (9, false)] zL (by kernel_rfl) (fun C2 hC2 => ?_)
     have hp2 := zN hC2 hpin
     simp +decide only [e, h', zi _ _ h', Int.natCast_nonneg, vI, zE, hp2, go_sem, reduceAdd, reduceMul]
     refine zd (zgN l[i] (by omega)) hp2 ?_
     simp +decide only [zki, hp2, go_sem, reduceAdd, reduceMul]
     refine ⟨i + 1, h', by omega, Ent.weak ?_ ?_ ?_ ?_⟩ <;> simp +decide [subT, subB, zl, zk, St.get, look, w64s (n := l.length) h' (by omega), vI, vB]
   · have hil : i = l.length := by omega
     subst hil
     have e : ((l.length : Int) < (l.length : Int)) = False := by simp
     simp +decide only [e, vI, hpin, go_sem, reduceAdd, reduceMul]
theorem zkS (x : FnD) (left : Int) (h0 : 0 <= left) (h1 : left < 1152921504606846976) (hs : zeu x) : zB Tryz.prog 104 [.ro (fnV x), .ro (.sc (.int .i64 left))] (fun rs st => rs = [(false, [cI (sub left (yc x))])]) := by
 refine zn (fn := Tryz.f104) (c := Tryz.f104.body.getD .skip) (res := [.tm 4]) (n := 19) ze (by kernel_rfl) (by rfl) (by kernel_rfl) (by rfl) (by rfl) (by simp [zq]) (fun C hpin hfull => ?_)
 obtain ⟨s0, s1, q1⟩ := hs
 have w0 : IntKind.i64.wrap (left - (x.name.size : Int)) = left - x.name.size := w64 (by omega) (by omega)
 simp +decide only [Tryz.f104, fnV, w0, hpin, go_sem, reduceAdd, reduceMul]
 by_cases h0_ : left - ((x.name.size : Nat) : Int) < 0
 · have e : sub left (yc x) = -1 := yQ (by unfold yc; omega)
   rw [e]
   simp +decide only [h0_, hpin, go_sem, reduceAdd, reduceMul]
 have n0 : (left - ((x.name.size : Nat) : Int) < 0) = False := by simpa using h0_
 simp +decide only [n0, hpin, go_sem, reduceAdd, reduceMul]
 refine zd (zeV x.params (left - ((x.name.size : Nat) : Int)) (by omega) (by omega) s1 q1) hpin ?_
 by_cases h1_ : left - ((x.name.size : Nat) : Int) - (((x.params.length + sumN zK x.params) : Nat) : Int) < 0
 · have e : sub left (yc x) = -1 := yQ (by unfold yc; omega)
   rw [e]
   rw [yQ h1_]
   simp +decide only [h1_, hpin, go_sem, reduceAdd, reduceMul]
 rw [xO h1_]
 have n1 : (left - ((x.name.size : Nat) : Int) - (((x.params.length + sumN zK x.params) : Nat) : Int) < 0) = False := by simpa using h1_
 have e : sub left (yc x) = left - ((x.name.size : Nat) : Int) - (((x.params.length + sumN zK x.params) : Nat) : Int) := by rw [xO (by unfold yc; omega)]; unfold yc; omega
 rw [e]
 simp +decide only [n1, hpin, go_sem, reduceAdd, reduceMul]
theorem ziP (l : List FnD) (left : Int) (h0 : 0 <= left) (h1 : left < 1152921504606846976) (hl : l.length < 1152921504606846976) (hs : ∀ y ∈ l, zeu y) : zB Tryz.prog 33 [.ro (.imm 130 (rows fnL l)), .ro (.sc (.int .i64 left))] (fun rs st => rs = [(false, [cI (sub left (l.length + sumN yc l))])]) := by
 refine zn (fn := Tryz.f33) (c := Tryz.f33.body.getD .skip) (res := [.tm 4]) (n := 27) ze (by kernel_rfl) (by rfl) (by kernel_rfl) (by rfl) (by rfl) (by simp [zq]) (fun C hpin hfull => ?_)
 have w0 : IntKind.i64.wrap (left - (l.length : Int)) = left - l.length := w64 (by omega) (by omega)
 simp +decide only [Tryz.f33, w0, hpin, go_sem, reduceAdd, reduceMul]
 by_cases hn : left - (l.length : Int) < 0
 · have e : sub left (l.length + sumN yc l) = -1 := yQ (by omega)
   rw [e]
   simp +decide only [hn, hpin, go_sem, reduceAdd, reduceMul]
 have nn : (left - (l.length : Int) < 0) = False := by simpa using hn
 simp +decide only [nn, hpin, go_sem, reduceAdd, reduceMul]
 refine Tri.loop (ι := Nat) (fun i => i <= l.length /\ 0 <= left - l.length - (sumN yc (l.take i) : Nat)) (fun i => ⟨27, [(0, .imm 130 (rows fnL l)), (1, vI (left - l.length - (sumN yc (l.take i) : Nat))), (5, vI i)], []⟩) (fun i => l.length - i) 0 ⟨Nat.zero_le _, by rw [zgl]; omega⟩ ?_ ?_
 · refine Ent.weak ?_ ?_ ?_ ?_ <;> simp +decide [subT, subB, zl, zk, zo, St.get, look, vI, vB, vS, sumN]
 · rintro i ⟨hi, hp⟩
   refine zf ze _ ?_
   by_cases h : i < l.length
   · have e : ((i : Int) < (l.length : Int)) = True := by simp [h]
     simp +decide only [e, zi _ _ h, Int.natCast_nonneg, vI, fnL, hpin, go_sem, reduceAdd, reduceMul]
     refine zd (zkS l[i] (left - l.length - (sumN yc (l.take i) : Nat)) hp (by omega) (hs _ (List.getElem_mem h))) hpin ?_
     have hle := xN yc l (i + 1)
     have htk := xx yc l h
     by_cases h3 : left - l.length - (sumN yc (l.take i) : Nat) - ((yc l[i] : Nat) : Int) < 0
     · have e : sub left (l.length + sumN yc l) = -1 := yQ (by omega)
       rw [e, yQ h3]
       simp +decide only [fnV, hpin, go_sem, reduceAdd, reduceMul]
     · rw [xO h3]
       have n3 : (left - l.length - (sumN yc (l.take i) : Nat) - ((yc l[i] : Nat) : Int) < 0) = False := by simpa using h3
       simp +decide only [n3, fnV, hpin, go_sem, reduceAdd, reduceMul]
       have e4 : left - l.length - (sumN yc (l.take i) : Nat) - ((yc l[i] : Nat) : Int) = left - l.length - (sumN yc (l.take (i + 1)) : Nat) := by omega
       rw [e4]
       exact ⟨i + 1, ⟨h, by omega⟩, by omega, Ent.weak (by simp +decide [subT, St.get, look, w64s (n := l.length) h (by omega), vI]) (by simp [subB]) (by simp) (by simp [zl, zk, vI])⟩
   · have hil : i = l.length := by omega
     subst hil
     have e : ((l.length : Int) < (l.length : Int)) = False := by simp
     have e2 : sub left (l.length + sumN yc l) = left - l.length - (sumN yc l : Nat) := by
       rw [List.take_length] at hp
       rw [xO (by omega)]; omega
     rw [e2]
     simp +decide only [e, vI, hpin, go_sem, reduceAdd, reduceMul]
theorem zkR (x : FnD) (h : yc x <= 1048576) : zB Tryz.prog 115 [.ro (fnV x)] (fun rs st => rs = [(true, fnC false x)]) := by
 unfold yc at h
 refine zn (fn := Tryz.f115) (c := Tryz.f115.body.getD .skip) (res := [.ce 2 104]) (n := 21) ze (by kernel_rfl) (by rfl) (by kernel_rfl) (by rfl) (by rfl) (by simp [zq]) (fun C hpin hfull => ?_)
 simp +decide only [Tryz.f115, fnV, hpin, go_sem, reduceAdd, reduceMul]
 refine zd (zeU x.params (by omega)) hpin ?_
 simp +decide only [fnC, hpin, go_sem, reduceAdd, reduceMul]
theorem ziO (l : List FnD) (h : l.length + sumN yc l <= 1048576) : zB Tryz.prog 38 [.ro (.imm 130 (rows fnL l))] (fun rs st => rs = [(false, [.row false 104 (rows (fnC false) l)])]) := by
 refine zn (fn := Tryz.f38) (c := Tryz.f38.body.getD .skip) (res := [.tm 2]) (n := 23) ze (by kernel_rfl) (by rfl) (by kernel_rfl) (by rfl) (by rfl) (by simp [zq]) (fun C hpin hfull => ?_)
 have e1 : (64 : Nat) * (l.length : Int) <= 281474976710656 := by omega
 simp +decide only [Tryz.f38, hpin, go_sem, reduceAdd, reduceMul]
 refine ⟨by omega, by omega, by omega, ?_⟩
 let Z : List D := [.sc (.string ⟨#[]⟩), .sc (.slice none 0 0), .sc (.int .i64 0), .sc (.int .i64 0), .sc (.int .i64 0)]
 refine Tri.loop (ι := Nat) (fun i => i <= l.length) (fun i => ⟨23, [(0, .imm 130 (rows fnL l)), (2, .ref 2 [] 0), (3, .ref 3 [] l.length), (4, vI i)], [(3, .row 104 (zbJ (fnC false) Z l i)), (2, .row 104 [])]⟩) (fun i => l.length - i) 0 (by simp) ?_ ?_
 · refine Ent.weak ?_ ?_ ?_ ?_ <;> simp +decide [subT, subB, zl, zk, St.get, look, vI, vB, Z, zcj]
 · rintro i hi
   refine zf ze _ ?_
   by_cases h' : i < l.length
   · have e : ((i : Int) < (l.length : Int)) = True := by simp [h']
     have hc := ZB yc h'
     simp +decide only [e, h', zi _ _ h', Int.natCast_nonneg, vI, fnL, hpin, go_sem, reduceAdd, reduceMul]
     refine zd (zkR l[i] (by omega)) hpin ?_
     simp +decide only [e, h', fnV, fnC, Zh (fnC false) Z l hi, zez (fnC false) Z l h', Int.natCast_nonneg, Z, hpin, go_sem, reduceAdd, reduceMul]
     have e4 := zey (fnC false) Z l h'
     simp only [fnC, cI, cS, cB] at e4
     refine ⟨i + 1, h', by omega, Ent.weak ?_ ?_ ?_ ?_⟩
     · simp +decide [subT, St.get, look, w64s (n := l.length) h' (by omega), vI, vB]
     · simp +decide [subB, look, e4, cI, Z]
     all_goals simp +decide [zl, zk, look, vI]
   · have hil : i = l.length := by omega
     subst hil
     have e : ((l.length : Int) < (l.length : Int)) = False := by simp
     simp +decide only [e, Zh (fnC false) Z l (Nat.le_refl _), zeA, vI, hpin, go_sem, reduceAdd, reduceMul]
theorem zlr (x : FnD) (h : yc x <= 1048576) : zB Tryz.prog 127 [.ro (fnW x), .ro (fnW x)] (fun rs st => rs = [(false, [cB true])]) := by
 unfold yc at h
 refine zn (fn := Tryz.f127) (c := Tryz.f127.body.getD .skip) (res := [.tm 4]) (n := 31) ze (by kernel_rfl) (by rfl) (by kernel_rfl) (by rfl) (by rfl) (by simp [zq]) (fun C hpin hfull => ?_)
 simp +decide only [Tryz.f127, fnW, bne_self_eq_false, hpin, go_sem, reduceAdd, reduceMul]
 refine zd (zfh x.params (by omega)) hpin ?_
 simp +decide only [bne_self_eq_false, hpin, go_sem, reduceAdd, reduceMul]
theorem zjF (l : List FnD) (h : l.length + sumN yc l <= 1048576) : zB Tryz.prog 45 [.ro (.imm 104 (rows (fnC true) l)), .ro (.imm 104 (rows (fnC true) l))] (fun rs st => rs = [(false, [cB true])]) := by
 refine zn (fn := Tryz.f45) (c := Tryz.f45.body.getD .skip) (res := [.tm 4]) (n := 27) ze (by kernel_rfl) (by rfl) (by kernel_rfl) (by rfl) (by rfl) (by simp [zq]) (fun C hpin hfull => ?_)
 simp +decide only [Tryz.f45, bne_self_eq_false, hpin, go_sem, reduceAdd, reduceMul]
 refine Tri.loop (ι := Nat) (fun i => i <= l.length) (fun i => ⟨27, [(0, .imm 104 (rows (fnC true) l)), (1, .imm 104 (rows (fnC true) l)), (5, vI i)], []⟩) (fun i => l.length - i) 0 (by simp) ?_ ?_
 · refine Ent.weak ?_ ?_ ?_ ?_ <;> simp +decide [subT, subB, zl, zk, St.get, look, vI, vB]
 · rintro i hi
   refine zf ze _ ?_
   by_cases h' : i < l.length
   · have e : ((i : Int) < (l.length : Int)) = True := by simp [h']
     have hc := ZB yc h'
     simp +decide only [e, vI, hpin, go_sem, reduceAdd, reduceMul]
     refine Tri.sched ze [(0, true), (1, true), (4, true), (5, true), (2, true), (6, true), (3, true), (7, true), (8, false), (9, false)] zL (by kernel_rfl) (fun C2 hC2 => ?_)
     have hp2 := zN hC2 hpin
     simp +decide only [e, h', zi _ _ h', Int.natCast_nonneg, vI, fnC, hp2, go_sem, reduceAdd, reduceMul]
     refine zd (zlr l[i] (by omega)) hp2 ?_
     simp +decide only [fnW, hp2, go_sem, reduceAdd, reduceMul]
     refine ⟨i + 1, h', by omega, Ent.weak ?_ ?_ ?_ ?_⟩ <;> simp +decide [subT, subB, zl, zk, St.get, look, w64s (n := l.length) h' (by omega), vI, vB]
   · have hil : i = l.length := by omega
     subst hil
     have e : ((l.length : Int) < (l.length : Int)) = False := by simp
     simp +decide only [e, vI, hpin, go_sem, reduceAdd, reduceMul]
theorem XM (x : ProgramD) (left : Int) (h0 : 0 <= left) (h1 : left < 1152921504606846976) (hs : ZI x) : zB Tryz.prog 9 [.ro (zp x), .ro (.sc (.int .i64 left))] (fun rs st => rs = [(false, [cI (sub left (zJ x))])]) := by
 refine zn (fn := Tryz.f9) (c := Tryz.f9.body.getD .skip) (res := [.tm 4]) (n := 18) ze (by kernel_rfl) (by rfl) (by kernel_rfl) (by rfl) (by rfl) (by simp [zq]) (fun C hpin hfull => ?_)
 obtain ⟨s0, q0, s1, q1⟩ := hs
 simp +decide only [Tryz.f9, zp, hpin, go_sem, reduceAdd, reduceMul]
 refine zd (zgk x.nodes (left) (by omega) (by omega) s0 q0) hpin ?_
 by_cases h0_ : left - (((x.nodes.length + sumN zF x.nodes) : Nat) : Int) < 0
 · have e : sub left (zJ x) = -1 := yQ (by unfold zJ; omega)
   rw [e]
   rw [yQ h0_]
   simp +decide only [h0_, hpin, go_sem, reduceAdd, reduceMul]
 rw [xO h0_]
 have n0 : (left - (((x.nodes.length + sumN zF x.nodes) : Nat) : Int) < 0) = False := by simpa using h0_
 simp +decide only [n0, hpin, go_sem, reduceAdd, reduceMul]
 refine zd (ziP x.fns (left - (((x.nodes.length + sumN zF x.nodes) : Nat) : Int)) (by omega) (by omega) s1 q1) hpin ?_
 by_cases h1_ : left - (((x.nodes.length + sumN zF x.nodes) : Nat) : Int) - (((x.fns.length + sumN yc x.fns) : Nat) : Int) < 0
 · have e : sub left (zJ x) = -1 := yQ (by unfold zJ; omega)
   rw [e]
   rw [yQ h1_]
   simp +decide only [h1_, hpin, go_sem, reduceAdd, reduceMul]
 rw [xO h1_]
 have n1 : (left - (((x.nodes.length + sumN zF x.nodes) : Nat) : Int) - (((x.fns.length + sumN yc x.fns) : Nat) : Int) < 0) = False := by simpa using h1_
 have e : sub left (zJ x) = left - (((x.nodes.length + sumN zF x.nodes) : Nat) : Int) - (((x.fns.length + sumN yc x.fns) : Nat) : Int) := by rw [xO (by unfold zJ; omega)]; unfold zJ; omega
 rw [e]
 simp +decide only [n1, hpin, go_sem, reduceAdd, reduceMul]
theorem yA (x : ProgramD) (h : zJ x <= 1048576) : zB Tryz.prog 11 [.ro (zp x)] (fun rs st => rs = [(true, za false x)]) := by
 unfold zJ at h
 refine zn (fn := Tryz.f11) (c := Tryz.f11.body.getD .skip) (res := [.ce 2 36]) (n := 13) ze (by kernel_rfl) (by rfl) (by kernel_rfl) (by rfl) (by rfl) (by simp [zq]) (fun C hpin hfull => ?_)
 simp +decide only [Tryz.f11, zp, hpin, go_sem, reduceAdd, reduceMul]
 refine zd (zgf x.nodes (by omega)) hpin ?_
 simp +decide only [hpin, go_sem, reduceAdd, reduceMul]
 refine zd (ziO x.fns (by omega)) hpin ?_
 simp +decide only [za, hpin, go_sem, reduceAdd, reduceMul]
theorem zac (x : ProgramD) (h : zJ x <= 1048576) : zB Tryz.prog 14 [.ro (zb x), .ro (zb x)] (fun rs st => rs = [(false, [cB true])]) := by
 unfold zJ at h
 refine zn (fn := Tryz.f14) (c := Tryz.f14.body.getD .skip) (res := [.tm 4]) (n := 17) ze (by kernel_rfl) (by rfl) (by kernel_rfl) (by rfl) (by rfl) (by simp [zq]) (fun C hpin hfull => ?_)
 simp +decide only [Tryz.f14, zb, bne_self_eq_false, hpin, go_sem, reduceAdd, reduceMul]
 refine zd (zgO x.nodes (by omega)) hpin ?_
 simp +decide only [bne_self_eq_false, hpin, go_sem, reduceAdd, reduceMul]
 refine zd (zjF x.fns (by omega)) hpin ?_
 simp +decide only [bne_self_eq_false, hpin, go_sem, reduceAdd, reduceMul]
theorem oInt : Opens Tryz.prog 3 (fun n : Int => [cI n]) (fun n => (Lit.int .i64 n).wf = true) := zhT (k := .i64) Tryz.underlying3 (by kernel_rfl)
theorem oStr : Opens Tryz.prog 9 (fun n : ByteArray => [cS n]) (fun s => s.size <= 140737488351232) := zhS Tryz.underlying9 (by kernel_rfl)
theorem zru : Opens Tryz.prog 27 (fun l : List Int => [D.row true 3 (row1 cI l)]) (fun l => l.length * 8 <= 140737488351232 /\ ∀ x ∈ l, (Lit.int .i64 x).wf = true) := by
 have h := Xs (t := 27) (e := 3) Tryz.underlying27 (by kernel_rfl) (of_decide_eq_true (by kernel_rfl)) (zhT (k := .i64) Tryz.underlying3 (by kernel_rfl))
 have hb : Tryz.prog.bytesOf 3 = 8 := by kernel_rfl
 rw [hb] at h
 exact h
def zhW (x : NodeD) : Prop := (Lit.int .i64 x.kind).wf = true /\ (Lit.int .i64 x.num).wf = true /\ x.name.size <= 140737488351232 /\ (x.kids.length * 8 <= 140737488351232 /\ ∀ y ∈ x.kids, (Lit.int .i64 y).wf = true)
theorem zrt : Opens Tryz.prog 126 zcb zhW := by
 have h := YJ (t := 126) Tryz.underlying126 (by kernel_rfl) (xd rfl oInt (xd rfl oInt (xd rfl oStr (zap rfl zru))))
 exact zby (fun x : NodeD => (x.kind, x.num, x.name, x.kids)) (fun a => ⟨a.1, a.2.1, a.2.2.1, a.2.2.2⟩) (fun _ => rfl) (fun _ => rfl) h
theorem zqw : Opens Tryz.prog 22 (fun l : List NodeD => [D.row true 126 (rows zcb l)]) (fun l => l.length * 56 <= 140737488351232 /\ ∀ y ∈ l, zhW y) := by
 have h := Xs (t := 22) (e := 126) Tryz.underlying22 (by kernel_rfl) (of_decide_eq_true (by kernel_rfl)) zrt
 have hb : Tryz.prog.bytesOf 126 = 56 := by kernel_rfl
 rw [hb] at h
 exact h
theorem zhV (x : NodeD) (h : zhW x) : XV x := by
 unfold zhW at h
 unfold XV
 obtain ⟨p0, p1, p2, ⟨p3, q3⟩⟩ := h
 exact ⟨by omega, by omega⟩
def zdH (x : ParamD) : Prop := x.name.size <= 140737488351232 /\ (Lit.int .i64 x.ty).wf = true
theorem zqv : Opens Tryz.prog 188 Xb zdH := by
 have h := YJ (t := 188) Tryz.underlying188 (by kernel_rfl) (xd rfl oStr (zap rfl oInt))
 exact zby (fun x : ParamD => (x.name, x.ty)) (fun a => ⟨a.1, a.2⟩) (fun _ => rfl) (fun _ => rfl) h
theorem zpm : Opens Tryz.prog 128 (fun l : List ParamD => [D.row true 188 (rows Xb l)]) (fun l => l.length * 24 <= 140737488351232 /\ ∀ y ∈ l, zdH y) := by
 have h := Xs (t := 128) (e := 188) Tryz.underlying128 (by kernel_rfl) (of_decide_eq_true (by kernel_rfl)) zqv
 have hb : Tryz.prog.bytesOf 188 = 24 := by kernel_rfl
 rw [hb] at h
 exact h
theorem zgp (x : ParamD) (h : zdH x) : Yj x := by
 unfold zdH at h
 unfold Yj
 obtain ⟨p0, p1⟩ := h
 omega
def fnOk (x : FnD) : Prop := x.name.size <= 140737488351232 /\ (x.params.length * 24 <= 140737488351232 /\ ∀ y ∈ x.params, zdH y) /\ (Lit.int .i64 x.res).wf = true /\ (Lit.int .i64 x.body).wf = true /\ (Lit.int .i64 x.ret).wf = true
theorem oFn : Opens Tryz.prog 130 fnL fnOk := by
 have h := YJ (t := 130) Tryz.underlying130 (by kernel_rfl) (xd rfl oStr (xd rfl zpm (xd rfl oInt (xd rfl oInt (zap rfl oInt)))))
 exact zby (fun x : FnD => (x.name, x.params, x.res, x.body, x.ret)) (fun a => ⟨a.1, a.2.1, a.2.2.1, a.2.2.2.1, a.2.2.2.2⟩) (fun _ => rfl) (fun _ => rfl) h
theorem oFnS : Opens Tryz.prog 23 (fun l : List FnD => [D.row true 130 (rows fnL l)]) (fun l => l.length * 64 <= 140737488351232 /\ ∀ y ∈ l, fnOk y) := by
 have h := Xs (t := 23) (e := 130) Tryz.underlying23 (by kernel_rfl) (of_decide_eq_true (by kernel_rfl)) oFn
 have hb : Tryz.prog.bytesOf 130 = 64 := by kernel_rfl
 rw [hb] at h
 exact h
theorem zll (x : FnD) (h : fnOk x) : zeu x := by
 unfold fnOk at h
 unfold zeu
 obtain ⟨p0, ⟨p1, q1⟩, p2, p3, p4⟩ := h
 exact ⟨by omega, by omega, fun y hy => zgp y (q1 y hy)⟩
def zdC (x : ProgramD) : Prop := (x.nodes.length * 56 <= 140737488351232 /\ ∀ y ∈ x.nodes, zhW y) /\ (x.fns.length * 64 <= 140737488351232 /\ ∀ y ∈ x.fns, fnOk y)
theorem zkk : Opens Tryz.prog 25 Xq zdC := by
 have h := YJ (t := 25) Tryz.underlying25 (by kernel_rfl) (xd rfl zqw (zap rfl oFnS))
 exact zby (fun x : ProgramD => (x.nodes, x.fns)) (fun a => ⟨a.1, a.2⟩) (fun _ => rfl) (fun _ => rfl) h
theorem XS (x : ProgramD) (h : zdC x) : ZI x := by
 unfold zdC at h
 unfold ZI
 obtain ⟨⟨p0, q0⟩, ⟨p1, q1⟩⟩ := h
 exact ⟨by omega, fun y hy => zhV y (q0 y hy), by omega, fun y hy => zll y (q1 y hy)⟩
theorem zcA (x : ProgramD) : ∀ d ∈ Xq x, shD d = d := by
 have h : shL (Xq x) = Xq x := congrFun zdE x
 intro d hd
 rw [XP] at h
 obtain ⟨i, hi, rfl⟩ := List.getElem_of_mem hd
 have := List.getElem_of_eq h (by simpa using hi)
 simpa using this
theorem YT {α : Type} {f : α -> Nat} (hf : ∀ x, 1 <= f x) : ∀ l : List α, l.length <= sumN f l
 | [] => by simp [sumN]
 | x :: r => by
   have h1 := YT hf r
   have h2 := hf x
   simp only [sumN, List.map_cons, List.sum_cons, List.length_cons] at h1 |-
   omega
theorem yw {EA EB : List (List D)} {x : List D} {i : Nat} (hA : EA.length = i) : (EA ++ x :: EB).getD i [] = x := by
 subst hA; simp [List.getD]
theorem ya {EA EB : List (List D)} {x : List D} {i : Nat} (hA : EA.length = i) : (EA ++ x :: EB)[i]? = some x := by
 subst hA; simp
theorem yv {EA EB : List (List D)} {x y : List D} {i : Nat} (hA : EA.length = i) : (EA ++ x :: EB).set i y = EA ++ y :: EB := by
 subst hA; simp
theorem zS {EA EB : List (List D)} {x : List D} {i j : Nat} (hA : EA.length = i) : cellAt (EA ++ x :: EB) i j = x[j]? := by
 unfold cellAt; rw [ya hA]; rfl
theorem yd {EA EB : List (List D)} {x : List D} {i j : Nat} {d : D} (hA : EA.length = i) : yB (EA ++ x :: EB) i j d = EA ++ x.set j d :: EB := by
 unfold yB; rw [yw hA, yv hA]
theorem zaY (k : Int) (n : Nat) : (if Zk k n = Zk k (Zk k n).length then k + ((Zk k n).length : Nat) else -1) = k + n := by simp [zh]
theorem uU8 : Tryz.prog.underlying 5 = some (.int .u8) := by kernel_rfl
theorem rU8 : isR Tryz.prog 5 = some false := by kernel_rfl
theorem sU8 : szT Tryz.prog 5 = 1 := by kernel_rfl
theorem zU8 : zeroCells Tryz.prog 5 = some [.int .u8 0] := by kernel_rfl
theorem eU8 : elT Tryz.prog 150 = some 5 := by kernel_rfl
theorem rU8S : isR Tryz.prog 150 = some false := by kernel_rfl
theorem uI64 : (Tryz.prog.underlying 3).isSome = true := by kernel_rfl
def zaC (q : Int) : Bool := q.tmod 3 == 0
def digB (k : Int) : ByteArray := strOfNums [IntKind.u8.wrap (IntKind.i64.wrap (48 + k.tmod 10))]
def digs (k : Int) (s : ByteArray) : ByteArray := if h : 0 < k then digs (k.tdiv 10) (digB k ++ s) else s
termination_by k.toNat
decreasing_by rw [Int.tdiv_eq_ediv_of_nonneg (by omega)]; omega
def zcQ (k : Int) : ByteArray := if k <= 0 then ⟨#[109, 48]⟩ else ⟨#[109]⟩ ++ digs k ⟨#[]⟩
theorem znd (n : Nat) : ∀ (k : Int) (s : ByteArray), k.toNat <= n -> (digs k s).size <= s.size + k.toNat := by
 induction n with
 | zero => intro k s hk; rw [digs, dif_neg (by omega)]; omega
 | succ n ih =>
   intro k s hk
   rw [digs]
   by_cases h : 0 < k
   · rw [dif_pos h]
     have e : k.tdiv 10 = k / 10 := Int.tdiv_eq_ediv_of_nonneg (by omega)
     have := ih (k.tdiv 10) (digB k ++ s) (by rw [e]; omega)
     have e2 : (digB k ++ s).size = 1 + s.size := by rw [ByteArray.size_append]; simp [digB, strOfNums_size]
     rw [e] at this |-
     omega
   · rw [dif_neg h]; omega
theorem yT (k : Int) (h0 : 0 <= k) (h1 : k < 4611686018427387904) : zB Tryz.prog 52 [.ro (.sc (.int .i64 k))] (fun rs st => rs = [(false, [cS (zcQ k)])]) := by
 refine zn (fn := Tryz.f52) (c := Tryz.f52.body.getD .skip) (res := [.tm 2]) (n := 20) ze (by kernel_rfl) (by rfl) (by kernel_rfl) (by rfl) (by rfl) (by simp [zq]) (fun C hpin hfull => ?_)
 simp +decide only [Tryz.f52, hpin, go_sem, reduceAdd, reduceMul]
 by_cases hk : k <= 0
 · have e1 : zcQ k = ⟨#[109, 48]⟩ := by rw [zcQ, if_pos hk]
   have e2 : (k <= 0) = True := by simp [hk]
   simp +decide only [e1, e2, hpin, go_sem, reduceAdd, reduceMul]
 have e1 : zcQ k = ⟨#[109]⟩ ++ digs k ⟨#[]⟩ := by rw [zcQ, if_neg hk]
 have e2 : (k <= 0) = False := by simp; omega
 simp +decide only [e1, e2, hpin, go_sem, reduceAdd, reduceMul]
 refine Tri.loop (ι := Int × ByteArray) (fun p => 0 <= p.1 /\ p.1 <= k /\ p.2.size + p.1.toNat <= k.toNat /\ digs p.1 p.2 = digs k ⟨#[]⟩) (fun p => ⟨20, [(0, vI p.1), (3, vS p.2)], []⟩) (fun p => p.1.toNat) (k, ⟨#[]⟩) ⟨h0, by simp, by show (0 : Nat) + _ <= _; simp, rfl⟩ ?_ ?_
 · refine Ent.weak ?_ ?_ ?_ ?_ <;> simp +decide [subT, subB, zl, zk, zo, St.get, look, vI, vB, vS]
 · rintro ⟨q, s⟩ ⟨q0, q1, q2, q3⟩
   refine zf ze _ ?_
   by_cases hq : 0 < q
   · have e3 : (0 < q) = True := by simp [hq]
     have e4 : (digB q).size + s.size <= 9223372036854775807 := by simp [digB, strOfNums_size]; simp at q2; omega
     have e6 : q.tdiv 10 = q / 10 := Int.tdiv_eq_ediv_of_nonneg q0
     have e5 : IntKind.i64.wrap (q.tdiv 10) = q.tdiv 10 := w64 (by rw [e6]; omega) (by rw [e6]; omega)
     have e7 : strOfNums [IntKind.u8.wrap (IntKind.i64.wrap (48 + q.tmod 10))] = digB q := rfl
     simp +decide only [e3, e4, e5, e7, vI, vS, uU8, rU8, sU8, zU8, eU8, rU8S, uI64, hpin, go_sem, reduceAdd, reduceMul]
     refine ⟨(q.tdiv 10, digB q ++ s), ⟨?_, ?_, ?_, ?_⟩, ?_, Ent.weak ?_ ?_ ?_ ?_⟩
     · simp only [e6]; omega
     · simp only [e6]; omega
     · simp only [e6, ByteArray.size_append, digB, strOfNums_size, List.length_cons, List.length_nil]; simp at q2; omega
     · rw [<- q3, digs.eq_def q s, dif_pos hq]
     · simp only [e6]; omega
     all_goals simp +decide [subT, subB, zl, zk, zo, St.get, look, vI, vB, vS]
   · have e3 : (0 < q) = False := by simp [hq]
     have e4 : digs q s = s := by rw [digs, dif_neg hq]
     simp only [e4] at q3
     have e5 : 1 + s.size <= 9223372036854775807 := by rw [q3]; have := znd k.toNat k ⟨#[]⟩ (Nat.le_refl _); have e9 : (⟨#[]⟩ : ByteArray).size = 0 := rfl; rw [e9] at this; omega
     have e6 : (⟨#[109]⟩ : ByteArray).size + s.size <= 9223372036854775807 := e5
     simp +decide only [e1, e3, e6, <- q3, vI, vS, hpin, go_sem, reduceAdd, reduceMul]
def insN (x : InsD) : Nat := 6 + x.args.length
def insM (q : Int) (x : InsD) : InsD := ⟨q, (q + 1), ((q + 1) + 1), (((q + 1) + 1) + 1), ((((q + 1) + 1) + 1) + 1), zcQ (((((q + 1) + 1) + 1) + 1) + 1), Zk ((((((q + 1) + 1) + 1) + 1) + 1) + 1) x.args.length⟩
def Zm : Int -> List InsD -> List InsD
 | _, [] => []
 | q, x :: r => insM q x :: Zm (q + (insN x : Nat)) r
theorem ZN : ∀ (q : Int) (l : List InsD), (Zm q l).length = l.length
 | _, [] => rfl
 | q, x :: r => by simp [Zm, ZN]
theorem zaa : ∀ (q : Int) (l l2 : List InsD), Zm q (l ++ l2) = Zm q l ++ Zm (q + (sumN insN l : Nat)) l2
 | q, [], l2 => by simp [Zm, sumN]
 | q, x :: r, l2 => by
   have e : q + (insN x : Nat) + (sumN insN r : Nat) = q + (sumN insN (x :: r) : Nat) := by simp only [sumN, List.map_cons, List.sum_cons]; omega
   simp only [Zm, List.cons_append, zaa, e]
theorem zfI (q : Int) (l : List InsD) {i : Nat} (h : i < l.length) : Zm q (l.take (i + 1)) = Zm q (l.take i) ++ [insM (q + (sumN insN (l.take i) : Nat)) l[i]] := by
 rw [List.take_succ_eq_append_getElem h, zaa]; rfl
theorem zmQ (q : Int) (l : List InsD) {i : Nat} (h : i < l.length) (h2 : i < (Zm q l).length) : (Zm q l)[i] = insM (q + (sumN insN (l.take i) : Nat)) l[i] := by
 have e : l = l.take (i + 1) ++ l.drop (i + 1) := (List.take_append_drop _ _).symm
 have hl : (Zm q (l.take i)).length = i := by rw [ZN]; simp; omega
 have e2 : (Zm q l)[i]? = some (insM (q + (sumN insN (l.take i) : Nat)) l[i]) := by
   conv => lhs; rw [e, zaa, zfI q l h, List.append_assoc]
   rw [List.getElem?_append_right (by omega), hl, Nat.sub_self]; rfl
 exact (List.getElem?_eq_some_iff.1 e2).2
attribute [go_sem] ZN
theorem zaJ (l : List InsD) (k : Int) (h0 : 0 <= k) (h1 : k + (sumN insN l : Nat) < 4611686018427387904) :
   SoundAt Tryz.prog 49 (fun uf => zq 0 [.ro (.ref 2000 [] l.length), .ro (.sc (.int .i64 k))]) [(2000, .row 139 (rows (insC false) l))]
     (fun rs st => rs = [(false, [cI (k + (sumN insN l : Nat))])] /\ yh st.ob [(2000, .row 139 (rows (insC false) (Zm k l)))]) := by
 have hll := YT (f := insN) (fun x => by unfold insN; omega) l
 refine yx (fn := Tryz.f49) (c := Tryz.f49.body.getD .skip) (res := [.tm 4]) (n := 63) ze (by kernel_rfl) (by rfl) (by kernel_rfl) (by rfl) (by rfl) (by simp [zq]) (fun uf ub C hpin hpin2 hfull => ?_)
 simp +decide only [Tryz.f49, hpin, go_sem, reduceAdd, reduceMul]
 refine Tri.loop (ι := Nat) (fun i => i <= l.length) (fun i => ⟨63, [(0, .ref 2000 [] l.length), (1, vI (k + (sumN insN (l.take i) : Nat))), (5, vI i)], [(2000, .row 139 (rows (insC false) (Zm k (l.take i)) ++ rows (insC false) (l.drop i)))]⟩) (fun i => l.length - i) 0 (by simp) ?_ ?_
 · refine Ent.weak ?_ ?_ ?_ ?_ <;> simp +decide [subT, subB, zl, zk, St.get, look, vI, vB, rows, sumN, Zm]
 · rintro i hi
   refine zf ze _ ?_
   by_cases h' : i < l.length
   · have e : ((i : Int) < (l.length : Int)) = True := by simp [h']
     have hs1 := xx insN l h'
     have hs2 := xN insN l (i + 1)
     have hu : insN l[i] = 6 + l[i].args.length := rfl
     rw [List.drop_eq_getElem_cons h']
     obtain ⟨EA, hEA⟩ : ∃ E, E = rows (insC false) (Zm k (l.take i)) := ⟨_, rfl⟩
     obtain ⟨EB, hEB⟩ : ∃ E, E = rows (insC false) (l.drop (i + 1)) := ⟨_, rfl⟩
     obtain ⟨q, hq⟩ : ∃ q, q = k + (sumN insN (l.take i) : Nat) := ⟨_, rfl⟩
     have e4 : EA ++ insC false (insM q l[i]) :: EB = rows (insC false) (Zm k (l.take (i + 1))) ++ rows (insC false) (l.drop (i + 1)) := by
       rw [hEA, hEB, hq, zfI k l h']; simp [rows]
     have hA : EA.length = i := by rw [hEA, zR, ZN]; simp; omega
     have hn : EA.length + (EB.length + 1) = l.length := by rw [hA, hEB, zR, List.length_drop]; omega
     have e0 : rows (insC false) (Zm k (l.take i)) ++ rows (insC false) (l[i] :: l.drop (i + 1)) = EA ++ insC false l[i] :: EB := by rw [hEA, hEB]; rfl
     rw [e0, <- hq]
     have hq0 : 0 <= q := by omega
     have w0 : IntKind.i64.wrap (q + 1) = q + 1 := w64 (by omega) (by omega)
     have w1 : IntKind.i64.wrap ((q + 1) + 1) = (q + 1) + 1 := w64 (by omega) (by omega)
     have w2 : IntKind.i64.wrap (((q + 1) + 1) + 1) = ((q + 1) + 1) + 1 := w64 (by omega) (by omega)
     have w3 : IntKind.i64.wrap ((((q + 1) + 1) + 1) + 1) = (((q + 1) + 1) + 1) + 1 := w64 (by omega) (by omega)
     have w4 : IntKind.i64.wrap (((((q + 1) + 1) + 1) + 1) + 1) = ((((q + 1) + 1) + 1) + 1) + 1 := w64 (by omega) (by omega)
     have w5 : IntKind.i64.wrap ((((((q + 1) + 1) + 1) + 1) + 1) + 1) = (((((q + 1) + 1) + 1) + 1) + 1) + 1 := w64 (by omega) (by omega)
     simp +decide only [e, h', hn, yw hA, ya hA, yv hA, zS hA, yd hA, Int.natCast_nonneg, vI, insC, w0, w1, w2, w3, w4, w5, hpin, go_sem, reduceAdd, reduceMul]
     refine zd (yT (((((q + 1) + 1) + 1) + 1) + 1) (by omega) (by omega)) hpin ?_
     simp +decide only [e, h', hn, yw hA, ya hA, yv hA, zS hA, yd hA, Int.natCast_nonneg, vI, insC, w0, w1, w2, w3, w4, w5, hpin, go_sem, reduceAdd, reduceMul]
     refine Xl 2000 [(i, 6)] 1000 (x := ?x6) (e := 3) (es := row1 cI l[i].args) ?ho ?hs (by simp) (by decide) ?ho2 (hpin 1000 rfl) (fun z => ?_)
     case ho => exact rfl
     case hs => simp [subO, subD, zS hA]
     case ho2 => exact rfl
     simp +decide only [e, h', hn, yw hA, ya hA, yv hA, zS hA, yd hA, Int.natCast_nonneg, vI, insC, w0, w1, w2, w3, w4, w5, hpin, go_sem, reduceAdd, reduceMul]
     refine xr (Yc l[i].args ((((((q + 1) + 1) + 1) + 1) + 1) + 1) (by omega) (by omega) (by omega)) (zaW (pin3 hpin) (by decide)) [(2000, 1000)] ⟨rfl, rfl, rfl⟩ (fun uf => ⟨rfl, rfl⟩) (fun uf => ?_) ?_
     · simp +decide only [e, h', hn, yw hA, ya hA, yv hA, zS hA, yd hA, Int.natCast_nonneg, vI, insC, w0, w1, w2, w3, w4, w5, zh, hpin, go_sem, reduceAdd, reduceMul]
     simp +decide only [e, h', hn, yw hA, ya hA, yv hA, zS hA, yd hA, Int.natCast_nonneg, vI, insC, w0, w1, w2, w3, w4, w5, zh, hpin, go_sem, reduceAdd, reduceMul]
     refine ⟨i + 1, h', by omega, Ent.weak ?_ ?_ ?_ ?_⟩
     · have e5 : k + (sumN insN (l.take (i + 1)) : Nat) = (((((((q + 1) + 1) + 1) + 1) + 1) + 1) + l[i].args.length) := by omega
       simp +decide [subT, St.get, look, w64s (n := l.length) h' (by omega), vI, vB, e5, hn]
     · rw [<- e4]; simp +decide [subB, look, insC, insM, cI, cS, cB, zaC]
     all_goals simp +decide [zl, zk, look, vI, hn]
   · have hil : i = l.length := by omega
     subst hil
     have e : ((l.length : Int) < (l.length : Int)) = False := by simp
     have e6 : rows (insC false) (Zm k (l.take l.length)) ++ rows (insC false) (l.drop l.length) = rows (insC false) (Zm k l) := by simp [rows]
     rw [e6]
     simp +decide only [e, vI, hpin, go_sem, reduceAdd, reduceMul]
theorem zaO (l : List InsD) (k : Int) (h0 : 0 <= k) (h1 : k + (sumN insN l : Nat) < 4611686018427387904) :
   zB Tryz.prog 51 [.ro (.imm 139 (rows (insC true) (Zm k l))), .ro (.sc (.int .i64 k))] (fun rs st => rs = [(false, [cI (k + (sumN insN l : Nat))])]) := by
 have hll := YT (f := insN) (fun x => by unfold insN; omega) l
 refine zn (fn := Tryz.f51) (c := Tryz.f51.body.getD .skip) (res := [.tm 4]) (n := 77) ze (by kernel_rfl) (by rfl) (by kernel_rfl) (by rfl) (by rfl) (by simp [zq]) (fun C hpin hfull => ?_)
 simp +decide only [Tryz.f51, hpin, go_sem, reduceAdd, reduceMul]
 refine Tri.loop (ι := Nat) (fun i => i <= l.length) (fun i => ⟨77, [(0, .imm 139 (rows (insC true) (Zm k l))), (1, vI (k + (sumN insN (l.take i) : Nat))), (5, vI i)], []⟩) (fun i => l.length - i) 0 (by simp) ?_ ?_
 · refine Ent.weak ?_ ?_ ?_ ?_ <;> simp +decide [subT, subB, zl, zk, St.get, look, vI, vB, rows, sumN]
 · rintro i hi
   refine zf ze _ ?_
   by_cases h' : i < l.length
   · have e : ((i : Int) < (l.length : Int)) = True := by simp [h']
     have hs1 := xx insN l h'
     have hs2 := xN insN l (i + 1)
     have hu : insN l[i] = 6 + l[i].args.length := rfl
     have h2 : i < (Zm k l).length := by rw [ZN]; exact h'
     have hg : (rows (insC true) (Zm k l)).getD i [] = insC true (insM (k + (sumN insN (l.take i) : Nat)) l[i]) := by rw [zi _ _ h2, zmQ k l h' h2]
     obtain ⟨q, hq⟩ : ∃ q, q = k + (sumN insN (l.take i) : Nat) := ⟨_, rfl⟩
     rw [<- hq] at hg |-
     have hq0 : 0 <= q := by omega
     have w0 : IntKind.i64.wrap (q + 1) = q + 1 := w64 (by omega) (by omega)
     have w1 : IntKind.i64.wrap ((q + 1) + 1) = (q + 1) + 1 := w64 (by omega) (by omega)
     have w2 : IntKind.i64.wrap (((q + 1) + 1) + 1) = ((q + 1) + 1) + 1 := w64 (by omega) (by omega)
     have w3 : IntKind.i64.wrap ((((q + 1) + 1) + 1) + 1) = (((q + 1) + 1) + 1) + 1 := w64 (by omega) (by omega)
     have w4 : IntKind.i64.wrap (((((q + 1) + 1) + 1) + 1) + 1) = ((((q + 1) + 1) + 1) + 1) + 1 := w64 (by omega) (by omega)
     have w5 : IntKind.i64.wrap ((((((q + 1) + 1) + 1) + 1) + 1) + 1) = (((((q + 1) + 1) + 1) + 1) + 1) + 1 := w64 (by omega) (by omega)
     simp +decide only [e, h', hg, zaC, bne_self_eq_false, Int.natCast_nonneg, vI, insC, insM, w0, w1, w2, w3, w4, w5, hpin, go_sem, reduceAdd, reduceMul]
     refine Tri.sched ze [(0, true), (1, true), (2, true), (3, true), (5, true), (4, true), (6, false), (7, false)] zL (by kernel_rfl) (fun C2 hC2 => ?_)
     have hp2 := zN hC2 hpin
     simp +decide only [e, h', hg, zaC, bne_self_eq_false, Int.natCast_nonneg, vI, insC, insM, w0, w1, w2, w3, w4, w5, hp2, go_sem, reduceAdd, reduceMul]
     refine zd (yT (((((q + 1) + 1) + 1) + 1) + 1) (by omega) (by omega)) hp2 ?_
     simp +decide only [e, h', hg, zaC, bne_self_eq_false, Int.natCast_nonneg, vI, insC, insM, w0, w1, w2, w3, w4, w5, hp2, go_sem, reduceAdd, reduceMul]
     try simp +decide only [e, h', hg, zaC, bne_self_eq_false, Int.natCast_nonneg, vI, insC, insM, w0, w1, w2, w3, w4, w5, hpin, go_sem, reduceAdd, reduceMul]
     refine zd (Xw (Zk ((((((q + 1) + 1) + 1) + 1) + 1) + 1) l[i].args.length) ((((((q + 1) + 1) + 1) + 1) + 1) + 1) (by rw [zh]; omega) (by omega) (by rw [zh]; omega)) hpin ?_
     rw [zaY]
     have n6 : ((((((((q + 1) + 1) + 1) + 1) + 1) + 1) + l[i].args.length : Int) < 0) = False := by simp; omega
     try simp +decide only [e, h', hg, zaC, bne_self_eq_false, Int.natCast_nonneg, vI, insC, insM, w0, w1, w2, w3, w4, w5, n6, hpin, go_sem, reduceAdd, reduceMul]
     have e5 : k + (sumN insN (l.take (i + 1)) : Nat) = (((((((q + 1) + 1) + 1) + 1) + 1) + 1) + l[i].args.length) := by omega
     refine ⟨i + 1, h', by omega, Ent.weak ?_ ?_ ?_ ?_⟩
     · simp +decide [subT, St.get, look, w64s (n := l.length) h' (by omega), vI, vB, e5]
     all_goals simp +decide [subB, zl, zk, look, vI]
   · have hil : i = l.length := by omega
     subst hil
     have e : ((l.length : Int) < (l.length : Int)) = False := by simp
     simp +decide only [e, vI, hpin, go_sem, reduceAdd, reduceMul]
def xP (x : CodeD) : Nat := 2 + x.locals.length + sumN insN x.words
def zco (q : Int) (x : CodeD) : CodeD := ⟨zcQ q, (q + 1), Zk ((q + 1) + 1) x.locals.length, Zm (((q + 1) + 1) + x.locals.length) x.words⟩
def yS : Int -> List CodeD -> List CodeD
 | _, [] => []
 | q, x :: r => zco q x :: yS (q + (xP x : Nat)) r
theorem xK : ∀ (q : Int) (l : List CodeD), (yS q l).length = l.length
 | _, [] => rfl
 | q, x :: r => by simp [yS, xK]
theorem XE : ∀ (q : Int) (l l2 : List CodeD), yS q (l ++ l2) = yS q l ++ yS (q + (sumN xP l : Nat)) l2
 | q, [], l2 => by simp [yS, sumN]
 | q, x :: r, l2 => by
   have e : q + (xP x : Nat) + (sumN xP r : Nat) = q + (sumN xP (x :: r) : Nat) := by simp only [sumN, List.map_cons, List.sum_cons]; omega
   simp only [yS, List.cons_append, XE, e]
theorem zeE (q : Int) (l : List CodeD) {i : Nat} (h : i < l.length) : yS q (l.take (i + 1)) = yS q (l.take i) ++ [zco (q + (sumN xP (l.take i) : Nat)) l[i]] := by
 rw [List.take_succ_eq_append_getElem h, XE]; rfl
theorem zlv (q : Int) (l : List CodeD) {i : Nat} (h : i < l.length) (h2 : i < (yS q l).length) : (yS q l)[i] = zco (q + (sumN xP (l.take i) : Nat)) l[i] := by
 have e : l = l.take (i + 1) ++ l.drop (i + 1) := (List.take_append_drop _ _).symm
 have hl : (yS q (l.take i)).length = i := by rw [xK]; simp; omega
 have e2 : (yS q l)[i]? = some (zco (q + (sumN xP (l.take i) : Nat)) l[i]) := by
   conv => lhs; rw [e, XE, zeE q l h, List.append_assoc]
   rw [List.getElem?_append_right (by omega), hl, Nat.sub_self]; rfl
 exact (List.getElem?_eq_some_iff.1 e2).2
attribute [go_sem] xK
theorem zdV (l : List CodeD) (k : Int) (h0 : 0 <= k) (h1 : k + (sumN xP l : Nat) < 4611686018427387904) :
   SoundAt Tryz.prog 21 (fun uf => zq 0 [.ro (.ref 2000 [] l.length), .ro (.sc (.int .i64 k))]) [(2000, .row 30 (rows (zm false) l))]
     (fun rs st => rs = [(false, [cI (k + (sumN xP l : Nat))])] /\ yh st.ob [(2000, .row 30 (rows (zm false) (yS k l)))]) := by
 have hll := YT (f := xP) (fun x => by unfold xP; omega) l
 refine yx (fn := Tryz.f21) (c := Tryz.f21.body.getD .skip) (res := [.tm 4]) (n := 42) ze (by kernel_rfl) (by rfl) (by kernel_rfl) (by rfl) (by rfl) (by simp [zq]) (fun uf ub C hpin hpin2 hfull => ?_)
 simp +decide only [Tryz.f21, hpin, go_sem, reduceAdd, reduceMul]
 refine Tri.loop (ι := Nat) (fun i => i <= l.length) (fun i => ⟨42, [(0, .ref 2000 [] l.length), (1, vI (k + (sumN xP (l.take i) : Nat))), (5, vI i)], [(2000, .row 30 (rows (zm false) (yS k (l.take i)) ++ rows (zm false) (l.drop i)))]⟩) (fun i => l.length - i) 0 (by simp) ?_ ?_
 · refine Ent.weak ?_ ?_ ?_ ?_ <;> simp +decide [subT, subB, zl, zk, St.get, look, vI, vB, rows, sumN, yS]
 · rintro i hi
   refine zf ze _ ?_
   by_cases h' : i < l.length
   · have e : ((i : Int) < (l.length : Int)) = True := by simp [h']
     have hs1 := xx xP l h'
     have hs2 := xN xP l (i + 1)
     have hu : xP l[i] = 2 + l[i].locals.length + sumN insN l[i].words := rfl
     rw [List.drop_eq_getElem_cons h']
     obtain ⟨EA, hEA⟩ : ∃ E, E = rows (zm false) (yS k (l.take i)) := ⟨_, rfl⟩
     obtain ⟨EB, hEB⟩ : ∃ E, E = rows (zm false) (l.drop (i + 1)) := ⟨_, rfl⟩
     obtain ⟨q, hq⟩ : ∃ q, q = k + (sumN xP (l.take i) : Nat) := ⟨_, rfl⟩
     have e4 : EA ++ zm false (zco q l[i]) :: EB = rows (zm false) (yS k (l.take (i + 1))) ++ rows (zm false) (l.drop (i + 1)) := by
       rw [hEA, hEB, hq, zeE k l h']; simp [rows]
     have hA : EA.length = i := by rw [hEA, zR, xK]; simp; omega
     have hn : EA.length + (EB.length + 1) = l.length := by rw [hA, hEB, zR, List.length_drop]; omega
     have e0 : rows (zm false) (yS k (l.take i)) ++ rows (zm false) (l[i] :: l.drop (i + 1)) = EA ++ zm false l[i] :: EB := by rw [hEA, hEB]; rfl
     rw [e0, <- hq]
     have hq0 : 0 <= q := by omega
     have w0 : IntKind.i64.wrap (q + 1) = q + 1 := w64 (by omega) (by omega)
     have w1 : IntKind.i64.wrap ((q + 1) + 1) = (q + 1) + 1 := w64 (by omega) (by omega)
     simp +decide only [e, h', hn, yw hA, ya hA, yv hA, zS hA, yd hA, Int.natCast_nonneg, vI, zm, w0, w1, hpin, go_sem, reduceAdd, reduceMul]
     refine zd (yT q (by omega) (by omega)) hpin ?_
     simp +decide only [e, h', hn, yw hA, ya hA, yv hA, zS hA, yd hA, Int.natCast_nonneg, vI, zm, w0, w1, hpin, go_sem, reduceAdd, reduceMul]
     refine Xl 2000 [(i, 2)] 1000 (x := ?x2) (e := 3) (es := row1 cI l[i].locals) ?ho ?hs (by simp) (by decide) ?ho2 (hpin 1000 rfl) (fun z => ?_)
     case ho => exact rfl
     case hs => simp [subO, subD, zS hA]
     case ho2 => exact rfl
     simp +decide only [e, h', hn, yw hA, ya hA, yv hA, zS hA, yd hA, Int.natCast_nonneg, vI, zm, w0, w1, hpin, go_sem, reduceAdd, reduceMul]
     refine xr (Yc l[i].locals ((q + 1) + 1) (by omega) (by omega) (by omega)) (zaW (pin3 hpin) (by decide)) [(2000, 1000)] ⟨rfl, rfl, rfl⟩ (fun uf => ⟨rfl, rfl⟩) (fun uf => ?_) ?_
     · simp +decide only [e, h', hn, yw hA, ya hA, yv hA, zS hA, yd hA, Int.natCast_nonneg, vI, zm, w0, w1, zh, hpin, go_sem, reduceAdd, reduceMul]
     simp +decide only [e, h', hn, yw hA, ya hA, yv hA, zS hA, yd hA, Int.natCast_nonneg, vI, zm, w0, w1, zh, hpin, go_sem, reduceAdd, reduceMul]
     try simp +decide only [e, h', hn, yw hA, ya hA, yv hA, zS hA, yd hA, Int.natCast_nonneg, vI, zm, w0, w1, hpin, go_sem, reduceAdd, reduceMul]
     refine Xl 2000 [(i, 3)] 1000 (x := ?x3) (e := 139) (es := rows (insC false) l[i].words) ?ho ?hs (by simp) (by decide) ?ho2 (hpin 1000 rfl) (fun z => ?_)
     case ho => exact rfl
     case hs => simp [subO, subD, zS hA]
     case ho2 => exact rfl
     simp +decide only [e, h', hn, yw hA, ya hA, yv hA, zS hA, yd hA, Int.natCast_nonneg, vI, zm, w0, w1, hpin, go_sem, reduceAdd, reduceMul]
     have hgewords := YT (f := insN) (fun x => by unfold insN; omega) l[i].words
     refine xr (zaJ l[i].words (((q + 1) + 1) + l[i].locals.length) (by omega) (by omega)) (zaW (pin3 hpin) (by decide)) [(2000, 1000)] ⟨rfl, rfl, rfl⟩ (fun uf => ⟨rfl, rfl⟩) (fun uf => ?_) ?_
     · simp +decide only [e, h', hn, yw hA, ya hA, yv hA, zS hA, yd hA, Int.natCast_nonneg, vI, zm, w0, w1, hpin, go_sem, reduceAdd, reduceMul]
     simp +decide only [e, h', hn, yw hA, ya hA, yv hA, zS hA, yd hA, Int.natCast_nonneg, vI, zm, w0, w1, hpin, go_sem, reduceAdd, reduceMul]
     refine ⟨i + 1, h', by omega, Ent.weak ?_ ?_ ?_ ?_⟩
     · have e5 : k + (sumN xP (l.take (i + 1)) : Nat) = ((((q + 1) + 1) + l[i].locals.length) + (sumN insN l[i].words : Nat)) := by omega
       simp +decide [subT, St.get, look, w64s (n := l.length) h' (by omega), vI, vB, e5, hn]
     · rw [<- e4]; simp +decide [subB, look, zm, zco, cI, cS, cB, zaC]
     all_goals simp +decide [zl, zk, look, vI, hn]
   · have hil : i = l.length := by omega
     subst hil
     have e : ((l.length : Int) < (l.length : Int)) = False := by simp
     have e6 : rows (zm false) (yS k (l.take l.length)) ++ rows (zm false) (l.drop l.length) = rows (zm false) (yS k l) := by simp [rows]
     rw [e6]
     simp +decide only [e, vI, hpin, go_sem, reduceAdd, reduceMul]
theorem zab (l : List CodeD) (k : Int) (h0 : 0 <= k) (h1 : k + (sumN xP l : Nat) < 4611686018427387904) :
   zB Tryz.prog 22 [.ro (.imm 30 (rows (zm true) (yS k l))), .ro (.sc (.int .i64 k))] (fun rs st => rs = [(false, [cI (k + (sumN xP l : Nat))])]) := by
 have hll := YT (f := xP) (fun x => by unfold xP; omega) l
 refine zn (fn := Tryz.f22) (c := Tryz.f22.body.getD .skip) (res := [.tm 4]) (n := 50) ze (by kernel_rfl) (by rfl) (by kernel_rfl) (by rfl) (by rfl) (by simp [zq]) (fun C hpin hfull => ?_)
 simp +decide only [Tryz.f22, hpin, go_sem, reduceAdd, reduceMul]
 refine Tri.loop (ι := Nat) (fun i => i <= l.length) (fun i => ⟨50, [(0, .imm 30 (rows (zm true) (yS k l))), (1, vI (k + (sumN xP (l.take i) : Nat))), (5, vI i)], []⟩) (fun i => l.length - i) 0 (by simp) ?_ ?_
 · refine Ent.weak ?_ ?_ ?_ ?_ <;> simp +decide [subT, subB, zl, zk, St.get, look, vI, vB, rows, sumN]
 · rintro i hi
   refine zf ze _ ?_
   by_cases h' : i < l.length
   · have e : ((i : Int) < (l.length : Int)) = True := by simp [h']
     have hs1 := xx xP l h'
     have hs2 := xN xP l (i + 1)
     have hu : xP l[i] = 2 + l[i].locals.length + sumN insN l[i].words := rfl
     have h2 : i < (yS k l).length := by rw [xK]; exact h'
     have hg : (rows (zm true) (yS k l)).getD i [] = zm true (zco (k + (sumN xP (l.take i) : Nat)) l[i]) := by rw [zi _ _ h2, zlv k l h' h2]
     obtain ⟨q, hq⟩ : ∃ q, q = k + (sumN xP (l.take i) : Nat) := ⟨_, rfl⟩
     rw [<- hq] at hg |-
     have hq0 : 0 <= q := by omega
     have w0 : IntKind.i64.wrap (q + 1) = q + 1 := w64 (by omega) (by omega)
     have w1 : IntKind.i64.wrap ((q + 1) + 1) = (q + 1) + 1 := w64 (by omega) (by omega)
     simp +decide only [e, h', hg, zaC, bne_self_eq_false, Int.natCast_nonneg, vI, zm, zco, w0, w1, hpin, go_sem, reduceAdd, reduceMul]
     refine Tri.sched ze [(0, true), (1, true), (2, true), (3, true), (5, true), (4, true), (6, false), (7, false)] zL (by kernel_rfl) (fun C2 hC2 => ?_)
     have hp2 := zN hC2 hpin
     simp +decide only [e, h', hg, zaC, bne_self_eq_false, Int.natCast_nonneg, vI, zm, zco, w0, w1, hp2, go_sem, reduceAdd, reduceMul]
     refine zd (yT q (by omega) (by omega)) hp2 ?_
     simp +decide only [e, h', hg, zaC, bne_self_eq_false, Int.natCast_nonneg, vI, zm, zco, w0, w1, hp2, go_sem, reduceAdd, reduceMul]
     try simp +decide only [e, h', hg, zaC, bne_self_eq_false, Int.natCast_nonneg, vI, zm, zco, w0, w1, hpin, go_sem, reduceAdd, reduceMul]
     refine zd (Xw (Zk ((q + 1) + 1) l[i].locals.length) ((q + 1) + 1) (by rw [zh]; omega) (by omega) (by rw [zh]; omega)) hpin ?_
     rw [zaY]
     have n2 : ((((q + 1) + 1) + l[i].locals.length : Int) < 0) = False := by simp; omega
     simp +decide only [e, h', hg, zaC, bne_self_eq_false, Int.natCast_nonneg, vI, zm, zco, w0, w1, n2, hpin, go_sem, reduceAdd, reduceMul]
     refine zd (zaO l[i].words (((q + 1) + 1) + l[i].locals.length) (by omega) (by omega)) hpin ?_
     have n2 : (((((q + 1) + 1) + l[i].locals.length) + (sumN insN l[i].words : Nat) : Int) < 0) = False := by simp; omega
     try simp +decide only [e, h', hg, zaC, bne_self_eq_false, Int.natCast_nonneg, vI, zm, zco, w0, w1, n2, n2, hpin, go_sem, reduceAdd, reduceMul]
     have e5 : k + (sumN xP (l.take (i + 1)) : Nat) = ((((q + 1) + 1) + l[i].locals.length) + (sumN insN l[i].words : Nat)) := by omega
     refine ⟨i + 1, h', by omega, Ent.weak ?_ ?_ ?_ ?_⟩
     · simp +decide [subT, St.get, look, w64s (n := l.length) h' (by omega), vI, vB, e5]
     all_goals simp +decide [subB, zl, zk, look, vI]
   · have hil : i = l.length := by omega
     subst hil
     have e : ((l.length : Int) < (l.length : Int)) = False := by simp
     simp +decide only [e, vI, hpin, go_sem, reduceAdd, reduceMul]
theorem zfa (x : CodeD) (k : Int) (h0 : 0 <= k) (h1 : k + x.locals.length + x.words.length + (sumN insN x.words : Nat) < 4611686018427387904) :
   SoundAt Tryz.prog 16 (fun uf => zq 0 [.ro (.agg [.sc (.string x.name), .sc (.int .i64 x.params), .sc (uf 2000), .sc (uf 2001)]), .ro (.sc (.int .i64 k))]) [(2000, .row 3 (row1 cI (x.locals))), (2001, .row 139 (rows (insC false) (x.words)))]
     (fun rs st => rs = [(false, [cI ((k + x.locals.length) + (sumN insN x.words : Nat))])] /\ yh st.ob [(2000, .row 3 (row1 cI (Zk k x.locals.length))), (2001, .row 139 (rows (insC false) (Zm (k + x.locals.length) x.words)))]) := by
 refine yx (fn := Tryz.f16) (c := Tryz.f16.body.getD .skip) (res := [.tm 4]) (n := 14) ze (by kernel_rfl) (by rfl) (by kernel_rfl) (by rfl) (by rfl) (by simp [zq]) (fun uf ub C hpin hpin2 hfull => ?_)
 simp +decide only [Tryz.f16, hpin, hpin2, go_sem, reduceAdd, reduceMul]
 refine YH (Yc x.locals k (by omega) (by omega) (by omega)) hpin [(2000, 2000)] ⟨rfl, rfl, rfl⟩ (fun uf => ⟨rfl, rfl⟩) (fun uf => ?_) ?_
 · simp +decide only [hpin2, go_sem, reduceAdd, reduceMul]
 simp +decide only [hpin, hpin2, zh, go_sem, reduceAdd, reduceMul]
 refine YH (zaJ x.words (k + x.locals.length) (by omega) (by omega)) hpin [(2000, 2001)] ⟨rfl, rfl, rfl⟩ (fun uf => ⟨rfl, rfl⟩) (fun uf => ?_) ?_
 · simp +decide only [hpin2, go_sem, reduceAdd, reduceMul]
 simp +decide only [hpin, hpin2, zh, go_sem, reduceAdd, reduceMul]
def Zw (x : NodeD) : Nat := 3 + x.kids.length
def zob (q : Int) (x : NodeD) : NodeD := ⟨q, (q + 1), zcQ ((q + 1) + 1), Zk (((q + 1) + 1) + 1) x.kids.length⟩
def Zf : Int -> List NodeD -> List NodeD
 | _, [] => []
 | q, x :: r => zob q x :: Zf (q + (Zw x : Nat)) r
theorem Xt : ∀ (q : Int) (l : List NodeD), (Zf q l).length = l.length
 | _, [] => rfl
 | q, x :: r => by simp [Zf, Xt]
theorem zbB : ∀ (q : Int) (l l2 : List NodeD), Zf q (l ++ l2) = Zf q l ++ Zf (q + (sumN Zw l : Nat)) l2
 | q, [], l2 => by simp [Zf, sumN]
 | q, x :: r, l2 => by
   have e : q + (Zw x : Nat) + (sumN Zw r : Nat) = q + (sumN Zw (x :: r) : Nat) := by simp only [sumN, List.map_cons, List.sum_cons]; omega
   simp only [Zf, List.cons_append, zbB, e]
theorem zji (q : Int) (l : List NodeD) {i : Nat} (h : i < l.length) : Zf q (l.take (i + 1)) = Zf q (l.take i) ++ [zob (q + (sumN Zw (l.take i) : Nat)) l[i]] := by
 rw [List.take_succ_eq_append_getElem h, zbB]; rfl
attribute [go_sem] Xt
theorem zdU (l : List NodeD) (k : Int) (h0 : 0 <= k) (h1 : k + (sumN Zw l : Nat) < 4611686018427387904) :
   SoundAt Tryz.prog 46 (fun uf => zq 0 [.ro (.ref 2000 [] l.length), .ro (.sc (.int .i64 k))]) [(2000, .row 83 (rows (zg false) l))]
     (fun rs st => rs = [(false, [cI (k + (sumN Zw l : Nat))])] /\ yh st.ob [(2000, .row 83 (rows (zg false) (Zf k l)))]) := by
 have hll := YT (f := Zw) (fun x => by unfold Zw; omega) l
 refine yx (fn := Tryz.f46) (c := Tryz.f46.body.getD .skip) (res := [.tm 4]) (n := 42) ze (by kernel_rfl) (by rfl) (by kernel_rfl) (by rfl) (by rfl) (by simp [zq]) (fun uf ub C hpin hpin2 hfull => ?_)
 simp +decide only [Tryz.f46, hpin, go_sem, reduceAdd, reduceMul]
 refine Tri.loop (ι := Nat) (fun i => i <= l.length) (fun i => ⟨42, [(0, .ref 2000 [] l.length), (1, vI (k + (sumN Zw (l.take i) : Nat))), (5, vI i)], [(2000, .row 83 (rows (zg false) (Zf k (l.take i)) ++ rows (zg false) (l.drop i)))]⟩) (fun i => l.length - i) 0 (by simp) ?_ ?_
 · refine Ent.weak ?_ ?_ ?_ ?_ <;> simp +decide [subT, subB, zl, zk, St.get, look, vI, vB, rows, sumN, Zf]
 · rintro i hi
   refine zf ze _ ?_
   by_cases h' : i < l.length
   · have e : ((i : Int) < (l.length : Int)) = True := by simp [h']
     have hs1 := xx Zw l h'
     have hs2 := xN Zw l (i + 1)
     have hu : Zw l[i] = 3 + l[i].kids.length := rfl
     rw [List.drop_eq_getElem_cons h']
     obtain ⟨EA, hEA⟩ : ∃ E, E = rows (zg false) (Zf k (l.take i)) := ⟨_, rfl⟩
     obtain ⟨EB, hEB⟩ : ∃ E, E = rows (zg false) (l.drop (i + 1)) := ⟨_, rfl⟩
     obtain ⟨q, hq⟩ : ∃ q, q = k + (sumN Zw (l.take i) : Nat) := ⟨_, rfl⟩
     have e4 : EA ++ zg false (zob q l[i]) :: EB = rows (zg false) (Zf k (l.take (i + 1))) ++ rows (zg false) (l.drop (i + 1)) := by
       rw [hEA, hEB, hq, zji k l h']; simp [rows]
     have hA : EA.length = i := by rw [hEA, zR, Xt]; simp; omega
     have hn : EA.length + (EB.length + 1) = l.length := by rw [hA, hEB, zR, List.length_drop]; omega
     have e0 : rows (zg false) (Zf k (l.take i)) ++ rows (zg false) (l[i] :: l.drop (i + 1)) = EA ++ zg false l[i] :: EB := by rw [hEA, hEB]; rfl
     rw [e0, <- hq]
     have hq0 : 0 <= q := by omega
     have w0 : IntKind.i64.wrap (q + 1) = q + 1 := w64 (by omega) (by omega)
     have w1 : IntKind.i64.wrap ((q + 1) + 1) = (q + 1) + 1 := w64 (by omega) (by omega)
     have w2 : IntKind.i64.wrap (((q + 1) + 1) + 1) = ((q + 1) + 1) + 1 := w64 (by omega) (by omega)
     simp +decide only [e, h', hn, yw hA, ya hA, yv hA, zS hA, yd hA, Int.natCast_nonneg, vI, zg, w0, w1, w2, hpin, go_sem, reduceAdd, reduceMul]
     refine zd (yT ((q + 1) + 1) (by omega) (by omega)) hpin ?_
     simp +decide only [e, h', hn, yw hA, ya hA, yv hA, zS hA, yd hA, Int.natCast_nonneg, vI, zg, w0, w1, w2, hpin, go_sem, reduceAdd, reduceMul]
     refine Xl 2000 [(i, 3)] 1000 (x := ?x3) (e := 3) (es := row1 cI l[i].kids) ?ho ?hs (by simp) (by decide) ?ho2 (hpin 1000 rfl) (fun z => ?_)
     case ho => exact rfl
     case hs => simp [subO, subD, zS hA]
     case ho2 => exact rfl
     simp +decide only [e, h', hn, yw hA, ya hA, yv hA, zS hA, yd hA, Int.natCast_nonneg, vI, zg, w0, w1, w2, hpin, go_sem, reduceAdd, reduceMul]
     refine xr (Yc l[i].kids (((q + 1) + 1) + 1) (by omega) (by omega) (by omega)) (zaW (pin3 hpin) (by decide)) [(2000, 1000)] ⟨rfl, rfl, rfl⟩ (fun uf => ⟨rfl, rfl⟩) (fun uf => ?_) ?_
     · simp +decide only [e, h', hn, yw hA, ya hA, yv hA, zS hA, yd hA, Int.natCast_nonneg, vI, zg, w0, w1, w2, zh, hpin, go_sem, reduceAdd, reduceMul]
     simp +decide only [e, h', hn, yw hA, ya hA, yv hA, zS hA, yd hA, Int.natCast_nonneg, vI, zg, w0, w1, w2, zh, hpin, go_sem, reduceAdd, reduceMul]
     refine ⟨i + 1, h', by omega, Ent.weak ?_ ?_ ?_ ?_⟩
     · have e5 : k + (sumN Zw (l.take (i + 1)) : Nat) = ((((q + 1) + 1) + 1) + l[i].kids.length) := by omega
       simp +decide [subT, St.get, look, w64s (n := l.length) h' (by omega), vI, vB, e5, hn]
     · rw [<- e4]; simp +decide [subB, look, zg, zob, cI, cS, cB, zaC]
     all_goals simp +decide [zl, zk, look, vI, hn]
   · have hil : i = l.length := by omega
     subst hil
     have e : ((l.length : Int) < (l.length : Int)) = False := by simp
     have e6 : rows (zg false) (Zf k (l.take l.length)) ++ rows (zg false) (l.drop l.length) = rows (zg false) (Zf k l) := by simp [rows]
     rw [e6]
     simp +decide only [e, vI, hpin, go_sem, reduceAdd, reduceMul]
def yO (x : ParamD) : Nat := 2
def zkj (q : Int) (x : ParamD) : ParamD := ⟨zcQ q, (q + 1)⟩
def xc : Int -> List ParamD -> List ParamD
 | _, [] => []
 | q, x :: r => zkj q x :: xc (q + (yO x : Nat)) r
theorem YU : ∀ (q : Int) (l : List ParamD), (xc q l).length = l.length
 | _, [] => rfl
 | q, x :: r => by simp [xc, YU]
theorem zaI : ∀ (q : Int) (l l2 : List ParamD), xc q (l ++ l2) = xc q l ++ xc (q + (sumN yO l : Nat)) l2
 | q, [], l2 => by simp [xc, sumN]
 | q, x :: r, l2 => by
   have e : q + (yO x : Nat) + (sumN yO r : Nat) = q + (sumN yO (x :: r) : Nat) := by simp only [sumN, List.map_cons, List.sum_cons]; omega
   simp only [xc, List.cons_append, zaI, e]
theorem zhL (q : Int) (l : List ParamD) {i : Nat} (h : i < l.length) : xc q (l.take (i + 1)) = xc q (l.take i) ++ [zkj (q + (sumN yO (l.take i) : Nat)) l[i]] := by
 rw [List.take_succ_eq_append_getElem h, zaI]; rfl
attribute [go_sem] YU
theorem zcR (l : List ParamD) (k : Int) (h0 : 0 <= k) (h1 : k + (sumN yO l : Nat) < 4611686018427387904) :
   SoundAt Tryz.prog 128 (fun uf => zq 0 [.ro (.ref 2000 [] l.length), .ro (.sc (.int .i64 k))]) [(2000, .row 107 (rows (zE false) l))]
     (fun rs st => rs = [(false, [cI (k + (sumN yO l : Nat))])] /\ yh st.ob [(2000, .row 107 (rows (zE false) (xc k l)))]) := by
 have hll := YT (f := yO) (fun x => by unfold yO; omega) l
 refine yx (fn := Tryz.f128) (c := Tryz.f128.body.getD .skip) (res := [.tm 4]) (n := 28) ze (by kernel_rfl) (by rfl) (by kernel_rfl) (by rfl) (by rfl) (by simp [zq]) (fun uf ub C hpin hpin2 hfull => ?_)
 simp +decide only [Tryz.f128, hpin, go_sem, reduceAdd, reduceMul]
 refine Tri.loop (ι := Nat) (fun i => i <= l.length) (fun i => ⟨28, [(0, .ref 2000 [] l.length), (1, vI (k + (sumN yO (l.take i) : Nat))), (5, vI i)], [(2000, .row 107 (rows (zE false) (xc k (l.take i)) ++ rows (zE false) (l.drop i)))]⟩) (fun i => l.length - i) 0 (by simp) ?_ ?_
 · refine Ent.weak ?_ ?_ ?_ ?_ <;> simp +decide [subT, subB, zl, zk, St.get, look, vI, vB, rows, sumN, xc]
 · rintro i hi
   refine zf ze _ ?_
   by_cases h' : i < l.length
   · have e : ((i : Int) < (l.length : Int)) = True := by simp [h']
     have hs1 := xx yO l h'
     have hs2 := xN yO l (i + 1)
     have hu : yO l[i] = 2 := rfl
     rw [List.drop_eq_getElem_cons h']
     obtain ⟨EA, hEA⟩ : ∃ E, E = rows (zE false) (xc k (l.take i)) := ⟨_, rfl⟩
     obtain ⟨EB, hEB⟩ : ∃ E, E = rows (zE false) (l.drop (i + 1)) := ⟨_, rfl⟩
     obtain ⟨q, hq⟩ : ∃ q, q = k + (sumN yO (l.take i) : Nat) := ⟨_, rfl⟩
     have e4 : EA ++ zE false (zkj q l[i]) :: EB = rows (zE false) (xc k (l.take (i + 1))) ++ rows (zE false) (l.drop (i + 1)) := by
       rw [hEA, hEB, hq, zhL k l h']; simp [rows]
     have hA : EA.length = i := by rw [hEA, zR, YU]; simp; omega
     have hn : EA.length + (EB.length + 1) = l.length := by rw [hA, hEB, zR, List.length_drop]; omega
     have e0 : rows (zE false) (xc k (l.take i)) ++ rows (zE false) (l[i] :: l.drop (i + 1)) = EA ++ zE false l[i] :: EB := by rw [hEA, hEB]; rfl
     rw [e0, <- hq]
     have hq0 : 0 <= q := by omega
     have w0 : IntKind.i64.wrap (q + 1) = q + 1 := w64 (by omega) (by omega)
     have w1 : IntKind.i64.wrap ((q + 1) + 1) = (q + 1) + 1 := w64 (by omega) (by omega)
     simp +decide only [e, h', hn, yw hA, ya hA, yv hA, zS hA, yd hA, Int.natCast_nonneg, vI, zE, w0, w1, hpin, go_sem, reduceAdd, reduceMul]
     refine zd (yT q (by omega) (by omega)) hpin ?_
     simp +decide only [e, h', hn, yw hA, ya hA, yv hA, zS hA, yd hA, Int.natCast_nonneg, vI, zE, w0, w1, hpin, go_sem, reduceAdd, reduceMul]
     refine ⟨i + 1, h', by omega, Ent.weak ?_ ?_ ?_ ?_⟩
     · have e5 : k + (sumN yO (l.take (i + 1)) : Nat) = ((q + 1) + 1) := by omega
       simp +decide [subT, St.get, look, w64s (n := l.length) h' (by omega), vI, vB, e5, hn]
     · rw [<- e4]; simp +decide [subB, look, zE, zkj, cI, cS, cB, zaC]
     all_goals simp +decide [zl, zk, look, vI, hn]
   · have hil : i = l.length := by omega
     subst hil
     have e : ((l.length : Int) < (l.length : Int)) = False := by simp
     have e6 : rows (zE false) (xc k (l.take l.length)) ++ rows (zE false) (l.drop l.length) = rows (zE false) (xc k l) := by simp [rows]
     rw [e6]
     simp +decide only [e, vI, hpin, go_sem, reduceAdd, reduceMul]
def fnN (x : FnD) : Nat := 4 + sumN yO x.params
def fnM (q : Int) (x : FnD) : FnD := ⟨zcQ q, xc (q + 1) x.params, ((q + 1) + (sumN yO x.params : Nat)), (((q + 1) + (sumN yO x.params : Nat)) + 1), ((((q + 1) + (sumN yO x.params : Nat)) + 1) + 1)⟩
def fnML : Int -> List FnD -> List FnD
 | _, [] => []
 | q, x :: r => fnM q x :: fnML (q + (fnN x : Nat)) r
theorem zbd : ∀ (q : Int) (l : List FnD), (fnML q l).length = l.length
 | _, [] => rfl
 | q, x :: r => by simp [fnML, zbd]
theorem zew : ∀ (q : Int) (l l2 : List FnD), fnML q (l ++ l2) = fnML q l ++ fnML (q + (sumN fnN l : Nat)) l2
 | q, [], l2 => by simp [fnML, sumN]
 | q, x :: r, l2 => by
   have e : q + (fnN x : Nat) + (sumN fnN r : Nat) = q + (sumN fnN (x :: r) : Nat) := by simp only [sumN, List.map_cons, List.sum_cons]; omega
   simp only [fnML, List.cons_append, zew, e]
theorem zmX (q : Int) (l : List FnD) {i : Nat} (h : i < l.length) : fnML q (l.take (i + 1)) = fnML q (l.take i) ++ [fnM (q + (sumN fnN (l.take i) : Nat)) l[i]] := by
 rw [List.take_succ_eq_append_getElem h, zew]; rfl
attribute [go_sem] zbd
theorem zgx (l : List FnD) (k : Int) (h0 : 0 <= k) (h1 : k + (sumN fnN l : Nat) < 4611686018427387904) :
   SoundAt Tryz.prog 47 (fun uf => zq 0 [.ro (.ref 2000 [] l.length), .ro (.sc (.int .i64 k))]) [(2000, .row 104 (rows (fnC false) l))]
     (fun rs st => rs = [(false, [cI (k + (sumN fnN l : Nat))])] /\ yh st.ob [(2000, .row 104 (rows (fnC false) (fnML k l)))]) := by
 have hll := YT (f := fnN) (fun x => by unfold fnN; omega) l
 refine yx (fn := Tryz.f47) (c := Tryz.f47.body.getD .skip) (res := [.tm 4]) (n := 49) ze (by kernel_rfl) (by rfl) (by kernel_rfl) (by rfl) (by rfl) (by simp [zq]) (fun uf ub C hpin hpin2 hfull => ?_)
 simp +decide only [Tryz.f47, hpin, go_sem, reduceAdd, reduceMul]
 refine Tri.loop (ι := Nat) (fun i => i <= l.length) (fun i => ⟨49, [(0, .ref 2000 [] l.length), (1, vI (k + (sumN fnN (l.take i) : Nat))), (5, vI i)], [(2000, .row 104 (rows (fnC false) (fnML k (l.take i)) ++ rows (fnC false) (l.drop i)))]⟩) (fun i => l.length - i) 0 (by simp) ?_ ?_
 · refine Ent.weak ?_ ?_ ?_ ?_ <;> simp +decide [subT, subB, zl, zk, St.get, look, vI, vB, rows, sumN, fnML]
 · rintro i hi
   refine zf ze _ ?_
   by_cases h' : i < l.length
   · have e : ((i : Int) < (l.length : Int)) = True := by simp [h']
     have hs1 := xx fnN l h'
     have hs2 := xN fnN l (i + 1)
     have hu : fnN l[i] = 4 + sumN yO l[i].params := rfl
     rw [List.drop_eq_getElem_cons h']
     obtain ⟨EA, hEA⟩ : ∃ E, E = rows (fnC false) (fnML k (l.take i)) := ⟨_, rfl⟩
     obtain ⟨EB, hEB⟩ : ∃ E, E = rows (fnC false) (l.drop (i + 1)) := ⟨_, rfl⟩
     obtain ⟨q, hq⟩ : ∃ q, q = k + (sumN fnN (l.take i) : Nat) := ⟨_, rfl⟩
     have e4 : EA ++ fnC false (fnM q l[i]) :: EB = rows (fnC false) (fnML k (l.take (i + 1))) ++ rows (fnC false) (l.drop (i + 1)) := by
       rw [hEA, hEB, hq, zmX k l h']; simp [rows]
     have hA : EA.length = i := by rw [hEA, zR, zbd]; simp; omega
     have hn : EA.length + (EB.length + 1) = l.length := by rw [hA, hEB, zR, List.length_drop]; omega
     have e0 : rows (fnC false) (fnML k (l.take i)) ++ rows (fnC false) (l[i] :: l.drop (i + 1)) = EA ++ fnC false l[i] :: EB := by rw [hEA, hEB]; rfl
     rw [e0, <- hq]
     have hq0 : 0 <= q := by omega
     have w0 : IntKind.i64.wrap (q + 1) = q + 1 := w64 (by omega) (by omega)
     have w1 : IntKind.i64.wrap (((q + 1) + (sumN yO l[i].params : Nat)) + 1) = ((q + 1) + (sumN yO l[i].params : Nat)) + 1 := w64 (by omega) (by omega)
     have w2 : IntKind.i64.wrap ((((q + 1) + (sumN yO l[i].params : Nat)) + 1) + 1) = (((q + 1) + (sumN yO l[i].params : Nat)) + 1) + 1 := w64 (by omega) (by omega)
     have w3 : IntKind.i64.wrap (((((q + 1) + (sumN yO l[i].params : Nat)) + 1) + 1) + 1) = ((((q + 1) + (sumN yO l[i].params : Nat)) + 1) + 1) + 1 := w64 (by omega) (by omega)
     simp +decide only [e, h', hn, yw hA, ya hA, yv hA, zS hA, yd hA, Int.natCast_nonneg, vI, fnC, w0, w1, w2, w3, hpin, go_sem, reduceAdd, reduceMul]
     refine zd (yT q (by omega) (by omega)) hpin ?_
     simp +decide only [e, h', hn, yw hA, ya hA, yv hA, zS hA, yd hA, Int.natCast_nonneg, vI, fnC, w0, w1, w2, w3, hpin, go_sem, reduceAdd, reduceMul]
     refine Xl 2000 [(i, 1)] 1000 (x := ?x1) (e := 107) (es := rows (zE false) l[i].params) ?ho ?hs (by simp) (by decide) ?ho2 (hpin 1000 rfl) (fun z => ?_)
     case ho => exact rfl
     case hs => simp [subO, subD, zS hA]
     case ho2 => exact rfl
     simp +decide only [e, h', hn, yw hA, ya hA, yv hA, zS hA, yd hA, Int.natCast_nonneg, vI, fnC, w0, w1, w2, w3, hpin, go_sem, reduceAdd, reduceMul]
     have hgeparams := YT (f := yO) (fun x => by unfold yO; omega) l[i].params
     refine xr (zcR l[i].params (q + 1) (by omega) (by omega)) (zaW (pin3 hpin) (by decide)) [(2000, 1000)] ⟨rfl, rfl, rfl⟩ (fun uf => ⟨rfl, rfl⟩) (fun uf => ?_) ?_
     · simp +decide only [e, h', hn, yw hA, ya hA, yv hA, zS hA, yd hA, Int.natCast_nonneg, vI, fnC, w0, w1, w2, w3, hpin, go_sem, reduceAdd, reduceMul]
     simp +decide only [e, h', hn, yw hA, ya hA, yv hA, zS hA, yd hA, Int.natCast_nonneg, vI, fnC, w0, w1, w2, w3, hpin, go_sem, reduceAdd, reduceMul]
     refine ⟨i + 1, h', by omega, Ent.weak ?_ ?_ ?_ ?_⟩
     · have e5 : k + (sumN fnN (l.take (i + 1)) : Nat) = (((((q + 1) + (sumN yO l[i].params : Nat)) + 1) + 1) + 1) := by omega
       simp +decide [subT, St.get, look, w64s (n := l.length) h' (by omega), vI, vB, e5, hn]
     · rw [<- e4]; simp +decide [subB, look, fnC, fnM, cI, cS, cB, zaC]
     all_goals simp +decide [zl, zk, look, vI, hn]
   · have hil : i = l.length := by omega
     subst hil
     have e : ((l.length : Int) < (l.length : Int)) = False := by simp
     have e6 : rows (fnC false) (fnML k (l.take l.length)) ++ rows (fnC false) (l.drop l.length) = rows (fnC false) (fnML k l) := by simp [rows]
     rw [e6]
     simp +decide only [e, vI, hpin, go_sem, reduceAdd, reduceMul]
def znR (x : ProgramD) : Nat := 0 + sumN Zw x.nodes + sumN fnN x.fns
def znS (q : Int) (x : ProgramD) : ProgramD := ⟨Zf q x.nodes, fnML (q + (sumN Zw x.nodes : Nat)) x.fns⟩
def zdD : Int -> List ProgramD -> List ProgramD
 | _, [] => []
 | q, x :: r => znS q x :: zdD (q + (znR x : Nat)) r
theorem XG : ∀ (q : Int) (l : List ProgramD), (zdD q l).length = l.length
 | _, [] => rfl
 | q, x :: r => by simp [zdD, XG]
attribute [go_sem] XG
theorem Xe (x : ProgramD) (k : Int) (h0 : 0 <= k) (h1 : k + x.nodes.length + x.fns.length + (sumN Zw x.nodes : Nat) + (sumN fnN x.fns : Nat) < 4611686018427387904) :
   SoundAt Tryz.prog 15 (fun uf => zq 0 [.ro (.agg [.sc (uf 2000), .sc (uf 2001)]), .ro (.sc (.int .i64 k))]) [(2000, .row 83 (rows (zg false) (x.nodes))), (2001, .row 104 (rows (fnC false) (x.fns)))]
     (fun rs st => rs = [(false, [cI ((k + (sumN Zw x.nodes : Nat)) + (sumN fnN x.fns : Nat))])] /\ yh st.ob [(2000, .row 83 (rows (zg false) (Zf k x.nodes))), (2001, .row 104 (rows (fnC false) (fnML (k + (sumN Zw x.nodes : Nat)) x.fns)))]) := by
 refine yx (fn := Tryz.f15) (c := Tryz.f15.body.getD .skip) (res := [.tm 4]) (n := 14) ze (by kernel_rfl) (by rfl) (by kernel_rfl) (by rfl) (by rfl) (by simp [zq]) (fun uf ub C hpin hpin2 hfull => ?_)
 simp +decide only [Tryz.f15, hpin, hpin2, go_sem, reduceAdd, reduceMul]
 refine YH (zdU x.nodes k (by omega) (by omega)) hpin [(2000, 2000)] ⟨rfl, rfl, rfl⟩ (fun uf => ⟨rfl, rfl⟩) (fun uf => ?_) ?_
 · simp +decide only [hpin2, go_sem, reduceAdd, reduceMul]
 simp +decide only [hpin, hpin2, zh, go_sem, reduceAdd, reduceMul]
 refine YH (zgx x.fns (k + (sumN Zw x.nodes : Nat)) (by omega) (by omega)) hpin [(2000, 2001)] ⟨rfl, rfl, rfl⟩ (fun uf => ⟨rfl, rfl⟩) (fun uf => ?_) ?_
 · simp +decide only [hpin2, go_sem, reduceAdd, reduceMul]
 simp +decide only [hpin, hpin2, zh, go_sem, reduceAdd, reduceMul]
def varN (x : VarD) : Nat := 3
def varM (q : Int) (x : VarD) : VarD := ⟨zcQ q, (q + 1), ((q + 1) + 1)⟩
def zoO : Int -> List VarD -> List VarD
 | _, [] => []
 | q, x :: r => varM q x :: zoO (q + (varN x : Nat)) r
theorem zct : ∀ (q : Int) (l : List VarD), (zoO q l).length = l.length
 | _, [] => rfl
 | q, x :: r => by simp [zoO, zct]
attribute [go_sem] zct
def zpG (x : EffectD) : Nat := 2
def zpH (q : Int) (x : EffectD) : EffectD := ⟨zcQ q, (q + 1)⟩
def zgP : Int -> List EffectD -> List EffectD
 | _, [] => []
 | q, x :: r => zpH q x :: zgP (q + (zpG x : Nat)) r
theorem zad : ∀ (q : Int) (l : List EffectD), (zgP q l).length = l.length
 | _, [] => rfl
 | q, x :: r => by simp [zgP, zad]
attribute [go_sem] zad
def sp1 (c : UInt8) : ByteArray := ⟨#[c]⟩
theorem zbX (c : UInt8) : (((sp1 c).size : Nat) : Int) = 1 := rfl
theorem i10 : ((1 : Int) == 0) = false := rfl
theorem im0 : ((-1 : Int) == 0) = false := rfl
theorem i11 : ((1 : Int) == 1) = true := rfl
theorem ziT (c : UInt8) : (sp1 c).data.toList.getD (Int.toNat 0) 0 = c := rfl
theorem zij (s : ByteArray) (c : UInt8) : zB Tryz.prog 250 [.ro (.sc (.string s)), .ro (.sc (.int .u8 (c.toNat : Int)))] (fun rs st => rs = [(false, [cI (Lib.indexByte s.data.toList c)])]) := by
 refine zn (fn := Tryz.f250) (c := Tryz.f250.body.getD .skip) (res := [.tm 4]) (n := 8) ze (by kernel_rfl) (by rfl) (by kernel_rfl) (by rfl) (by rfl) (by simp [zq]) (fun C hpin hfull => ?_)
 simp +decide only [Tryz.f250, hpin, go_sem, reduceAdd, reduceMul]
 refine ziJ (fn := Tryz.f254) (e := Extern.BytealgIndexByte.indexByte) (us := [.string s, .int .u8 (c.toNat : Int)]) (r := .int .i64 (Lib.indexByte s.data.toList c)) (by kernel_rfl) (by kernel_rfl) (by kernel_rfl) (by kernel_rfl) (by kernel_rfl) (fun w => by have := Lib.run_indexByteString (P := Tryz.prog) s (c.toNat : Int) w; simpa using this) rfl rfl ?_
 simp +decide only [hpin, go_sem, reduceAdd, reduceMul]
theorem zpr (c : UInt8) : Lib.indexByte (sp1 c).data.toList c = 0 := by simp [sp1, Lib.indexByte]
theorem zmL (s : ByteArray) (c : UInt8) : zB Tryz.prog 247 [.ro (.sc (.string s)), .ro (.sc (.string (sp1 c)))] (fun rs st => rs = [(false, [cI (Lib.indexByte s.data.toList c)])]) := by
 refine zn (fn := Tryz.f247) (c := Tryz.f247.body.getD .skip) (res := [.tm 4]) (n := 143) ze (by kernel_rfl) (by rfl) (by kernel_rfl) (by rfl) (by rfl) (by simp [zq]) (fun C hpin hfull => ?_)
 simp +decide only [Tryz.f247, zbX, ziT, i10, i11, hpin, go_sem, reduceAdd, reduceMul]
 cases h : decide (sp1 c = s) with
 | true =>
   have h' := of_decide_eq_true h
   subst h'
   simp +decide only [hpin, go_sem, reduceAdd, reduceMul]
   rw [zpr]
 | false =>
   simp +decide only [zbX, ziT, i10, i11, hpin, go_sem, reduceAdd, reduceMul]
   refine zd (zij s c) hpin ?_
   simp +decide only [hpin, go_sem, reduceAdd, reduceMul]
theorem zim (s : ByteArray) (c : UInt8) : zB Tryz.prog 236 [.ro (.sc (.string s)), .ro (.sc (.string (sp1 c)))] (fun rs st => rs = [(false, [cI (Lib.indexByte s.data.toList c)])]) := by
 refine zn (fn := Tryz.f236) (c := Tryz.f236.body.getD .skip) (res := [.tm 4]) (n := 8) ze (by kernel_rfl) (by rfl) (by kernel_rfl) (by rfl) (by rfl) (by simp [zq]) (fun C hpin hfull => ?_)
 simp +decide only [Tryz.f236, hpin, go_sem, reduceAdd, reduceMul]
 refine zd (zmL s c) hpin ?_
 simp +decide only [hpin, go_sem, reduceAdd, reduceMul]
theorem ziv (s : ByteArray) (c : UInt8) : zB Tryz.prog 235 [.ro (.sc (.string s)), .ro (.sc (.string (sp1 c)))] (fun rs st => rs = [(false, [cI ((s.data.toList.count c : Nat) : Int)])]) := by
 refine zn (fn := Tryz.f235) (c := Tryz.f235.body.getD .skip) (res := [.tm 4]) (n := 34) ze (by kernel_rfl) (by rfl) (by kernel_rfl) (by rfl) (by rfl) (by simp [zq]) (fun C hpin hfull => ?_)
 simp +decide only [Tryz.f235, zbX, ziT, i10, i11, hpin, go_sem, reduceAdd, reduceMul]
 refine ziJ (fn := Tryz.f246) (e := Extern.BytealgCount.count) (us := [.string s, .int .u8 (c.toNat : Int)]) (r := .int .i64 ((s.data.toList.count c : Nat) : Int)) (by kernel_rfl) (by kernel_rfl) (by kernel_rfl) (by kernel_rfl) (by kernel_rfl) (fun w => by have := Lib.run_countString (P := Tryz.prog) s (c.toNat : Int) w; simpa [Lib.countByte] using this) rfl rfl ?_
 simp +decide only [hpin, go_sem, reduceAdd, reduceMul]
theorem zkV (s : ByteArray) : s.data.toList.length = s.size := by cases s; rfl
theorem zoq (s : ByteArray) (m : Nat) : s.extract 0 m = zaR (s.data.toList.take m) := by
 apply ByteArray.ext
 rw [ByteArray.data_extract]
 apply Array.toList_inj.1
 rw [Array.toList_extract, List.extract_eq_take_drop]
 simp [zaR]
theorem zky (s : ByteArray) (k : Nat) : (s.extract k s.size).data.toList = s.data.toList.drop k := by
 rw [ByteArray.data_extract, Array.toList_extract, List.extract_eq_take_drop, <- zkV, List.take_of_length_le (by simp)]
theorem zor (s : ByteArray) (k : Nat) : (s.extract k s.size).size = s.size - k := by simp
def parts (done : List (List UInt8)) (N : Nat) : List ByteArray := done.map zaR ++ List.replicate (N - done.length) ⟨#[]⟩
theorem zcB {done : List (List UInt8)} {N : Nat} (h : done.length <= N) : (parts done N).length = N := by simp [parts]; omega
theorem zhJ {done : List (List UInt8)} {N : Nat} (h : done.length < N) (x : List UInt8) : (parts done N).set done.length (zaR x) = parts (done ++ [x]) N := by
 unfold parts
 rw [List.set_append_right _ _ (by simp), List.length_map, Nat.sub_self]
 obtain ⟨m, hm⟩ : ∃ m, N - done.length = m + 1 := ⟨N - done.length - 1, by omega⟩
 rw [hm, List.replicate_succ, List.set_cons_zero]
 have hm2 : N - (done ++ [x]).length = m := by simp; omega
 rw [hm2]
 simp only [List.map_append, List.map_cons, List.map_nil, List.append_assoc, List.cons_append, List.nil_append]
theorem zfg (s : ByteArray) (c : UInt8) (hs : s.size <= 1048576) : zB Tryz.prog 218 [.ro (.sc (.string s)), .ro (.sc (.string (sp1 c))), .ro (.sc (.int .i64 0)), .ro (.sc (.int .i64 (-1)))] (fun rs st => rs = [(false, [.row false 9 (row1 cS (XO s c))])]) := by
 refine zn (fn := Tryz.f218) (c := Tryz.f218.body.getD .skip) (res := [.tm 8]) (n := 66) ze (by kernel_rfl) (by rfl) (by kernel_rfl) (by rfl) (by rfl) (by simp [zq]) (fun C hpin hfull => ?_)
 have hc : s.data.toList.count c <= s.size := by rw [<- zkV]; exact List.count_le_length
 have w1 : IntKind.i64.wrap (((s.data.toList.count c : Nat) : Int) + 1) = ((s.data.toList.count c + 1 : Nat) : Int) := by rw [w64 (by omega) (by omega)]; omega
 have w2 : IntKind.i64.wrap (((s.size : Nat) : Int) + 1) = ((s.size + 1 : Nat) : Int) := by rw [w64 (by omega) (by omega)]; omega
 have e0 : ¬ sp1 c = (⟨#[]⟩ : ByteArray) := by intro h; have := congrArg ByteArray.size h; simp [sp1, ByteArray.size] at this
 simp +decide only [Tryz.f218, e0, im0, zbX, hpin, go_sem, reduceAdd, reduceMul]
 refine zd (ziv s c) hpin ?_
 have em : ((((s.size + 1 : Nat) : Int)) < ((s.data.toList.count c + 1 : Nat) : Int)) = False := eq_false (by omega)
 have w3 : IntKind.i64.wrap (((s.data.toList.count c + 1 : Nat) : Int) - 1) = ((s.data.toList.count c : Nat) : Int) := by rw [w64 (by omega) (by omega)]; omega
 simp +decide only [w1, w2, w3, em, e0, im0, zbX, hpin, go_sem, reduceAdd, reduceMul]
 refine ⟨by omega, by omega, by omega, ?_⟩
 let n0 := s.data.toList.count c
 refine Tri.loop (ι := List (List UInt8) × ByteArray) (fun q => ZH s.data.toList c = q.1 ++ ZH q.2.data.toList c /\ q.1.length + q.2.data.toList.count c = n0 /\ q.2.size <= 1048576) (fun q => ⟨66, [(0, vS q.2), (1, vS (sp1 c)), (2, vI 0), (3, vI n0), (8, .ref 8 [] 0), (9, .ref 9 [] (n0 + 1)), (10, vI q.1.length)], [(9, .row 9 (row1 cS (parts q.1 (n0 + 1)))), (8, .row 9 [])]⟩) (fun q => n0 - q.1.length) ([], s) ⟨by simp, by simp [n0], hs⟩ ?_ ?_
 · refine Ent.weak ?_ ?_ ?_ ?_ <;> simp +decide [subT, subB, zl, zk, zo, St.get, look, vI, vB, vS, cS, parts, row1, n0]
 · rintro ⟨done, cur⟩ ⟨hq1, hq2, hq3⟩
   simp only at hq1 hq2 hq3 |-
   refine zf ze _ ?_
   have hcc : cur.data.toList.count c <= cur.size := by rw [<- zkV]; exact List.count_le_length
   by_cases h : done.length < n0
   · have e : ((done.length : Int) < (n0 : Int)) = True := by simpa using h
     have hpl := zcB (done := done) (N := n0 + 1) (by omega)
     simp +decide only [e, hpl, vI, vS, hpin, go_sem, reduceAdd, reduceMul]
     refine zd (zim cur c) hpin ?_
     have hm : 0 <= Lib.indexByte cur.data.toList c := by
       have h1 := Lib.indexByte_ge cur.data.toList c
       by_cases h2 : Lib.indexByte cur.data.toList c = -1
       · have h3 := Xn cur.data.toList c
         rw [zdt h2] at h3
         simp only [List.length_singleton] at h3
         omega
       · omega
     obtain ⟨g1, g2, g3⟩ := zds hm
     generalize hmm : Lib.indexByte cur.data.toList c = m at hm g1 g2 g3 |-
     have en : (m < 0) = False := by simpa using hm
     have hlt : m.toNat < cur.size := by rw [<- zkV]; exact g1
     have w4 : IntKind.i64.wrap (m + 0) = m := by rw [w64 (by omega) (by omega)]; omega
     have w5 : IntKind.i64.wrap (m + 1) = m + 1 := w64 (by omega) (by omega)
     have hi : done.length < (parts done (n0 + 1)).length := by rw [hpl]; omega
     simp +decide only [e, en, hpl, w4, w5, zbX, zr _ _ hi, vI, vS, hpin, go_sem, reduceAdd, reduceMul]
     have e5 := zcY cS (parts done (n0 + 1)) done.length (zaR (cur.data.toList.take m.toNat))
     rw [zhJ (by omega)] at e5
     have e6 : cur.extract (Int.toNat 0) m.toNat = zaR (cur.data.toList.take m.toNat) := zoq cur m.toNat
     have e7 : (m + 1).toNat = m.toNat + 1 := by omega
     simp only [cS] at e5
     rw [e6, e5]
     refine ⟨by omega, by omega, by omega, by omega, (done ++ [cur.data.toList.take m.toNat], cur.extract (m.toNat + 1) cur.size), ⟨?_, ?_, ?_⟩, ?_, Ent.weak ?_ ?_ ?_ ?_⟩
     · simp only [zky]; rw [hq1, g2]; simp
     · simp only [zky, List.length_append, List.length_singleton]; omega
     · simp only [zor]; omega
     · simp only [List.length_append, List.length_singleton]; omega
     · have w6 : IntKind.i64.wrap ((done.length : Int) + 1) = ((done.length + 1 : Nat) : Int) := by rw [w64 (by omega) (by omega)]; omega
       simp +decide [subT, St.get, look, vI, vS, w6, e7]
     · simp +decide [subB, look, cS]
     all_goals simp +decide [zl, zk, look, vI, vS]
   · have hd : done.length = n0 := by omega
     have e : ((done.length : Int) < (n0 : Int)) = False := by simp; omega
     have hpl := zcB (done := done) (N := n0 + 1) (by omega)
     have hi : done.length < (parts done (n0 + 1)).length := by rw [hpl]; omega
     have w6 : IntKind.i64.wrap ((done.length : Int) + 1) = ((done.length + 1 : Nat) : Int) := by rw [w64 (by omega) (by omega)]; omega
     have hx : ZH cur.data.toList c = [cur.data.toList] := by
       refine zdt ?_
       have h1 := Lib.indexByte_ge cur.data.toList c
       by_cases h2 : 0 <= Lib.indexByte cur.data.toList c
       · have := (zds h2).2.2
         omega
       · omega
     have e5 := zcY cS (parts done (n0 + 1)) done.length (zaR cur.data.toList)
     rw [zhJ (by omega), zjO] at e5
     simp only [cS] at e5
     have e6 : parts (done ++ [cur.data.toList]) (n0 + 1) = XO s c := by
       unfold XO parts
       rw [hq1, hx]
       have : n0 + 1 - (done ++ [cur.data.toList]).length = 0 := by simp; omega
       rw [this]; simp
     rw [e6] at e5
     have e7 : (XO s c).length = n0 + 1 := by unfold XO; rw [List.length_map, Xn]
     simp +decide only [e, hpl, zr _ _ hi, w6, e5, vI, vS, hpin, go_sem, reduceAdd, reduceMul]
     exact ⟨by omega, by omega, by omega, by omega⟩
theorem ziS (s : ByteArray) (c : UInt8) (hs : s.size <= 1048576) : zB Tryz.prog 211 [.ro (.sc (.string s)), .ro (.sc (.string (sp1 c)))] (fun rs st => rs = [(false, [.row false 9 (row1 cS (XO s c))])]) := by
 refine zn (fn := Tryz.f211) (c := Tryz.f211.body.getD .skip) (res := [.tm 4]) (n := 8) ze (by kernel_rfl) (by rfl) (by kernel_rfl) (by rfl) (by rfl) (by simp [zq]) (fun C hpin hfull => ?_)
 simp +decide only [Tryz.f211, hpin, go_sem, reduceAdd, reduceMul]
 refine zd (zfg s c hs) hpin ?_
 simp +decide only [hpin, go_sem, reduceAdd, reduceMul]
def inI (n lo hi : Int) : Bool := decide (lo <= n) && decide (n <= hi)
theorem in' (n lo hi : Int) : zB Tryz.prog 40 [.ro (.sc (.int .i64 n)), .ro (.sc (.int .i64 lo)), .ro (.sc (.int .i64 hi))] (fun rs st => rs = [(false, [cB (inI n lo hi)])]) := zok n lo hi
theorem yC (n lo hi : Int) : zB Tryz.prog 35 [.ro (.sc (.int .i64 n)), .ro (.sc (.int .i64 lo)), .ro (.sc (.int .i64 hi))] (fun rs st => rs = [(false, [cB (inI n lo hi)])]) := zjp n lo hi
def letB (n : Int) : Bool := decide (97 <= n) && decide (n <= 122)
theorem zaN (n : Int) : zB Tryz.prog 143 [.ro (.sc (.int .u8 n))] (fun rs st => rs = [(false, [cB (letB n)])]) := by
 refine zn (fn := Tryz.f143) (c := Tryz.f143.body.getD .skip) (res := [.tm 2]) (n := 9) ze (by kernel_rfl) (by rfl) (by kernel_rfl) (by rfl) (by rfl) (by simp [zq]) (fun C hpin hfull => ?_)
 simp +decide only [Tryz.f143, hpin, go_sem, reduceAdd, reduceMul]
 by_cases h : 97 <= n <;> simp [h, letB]
theorem XX (n : Int) : zB Tryz.prog 130 [.ro (.sc (.int .u8 n))] (fun rs st => rs = [(false, [cB (letB n)])]) := by
 refine zn (fn := Tryz.f130) (c := Tryz.f130.body.getD .skip) (res := [.tm 2]) (n := 9) ze (by kernel_rfl) (by rfl) (by kernel_rfl) (by rfl) (by rfl) (by simp [zq]) (fun C hpin hfull => ?_)
 simp +decide only [Tryz.f130, hpin, go_sem, reduceAdd, reduceMul]
 by_cases h : 97 <= n <;> simp [h, letB]
def figB (n : Int) : Bool := decide (48 <= n) && decide (n <= 57)
theorem zfd (n : Int) : zB Tryz.prog 144 [.ro (.sc (.int .u8 n))] (fun rs st => rs = [(false, [cB (figB n)])]) := by
 refine zn (fn := Tryz.f144) (c := Tryz.f144.body.getD .skip) (res := [.tm 2]) (n := 9) ze (by kernel_rfl) (by rfl) (by kernel_rfl) (by rfl) (by rfl) (by simp [zq]) (fun C hpin hfull => ?_)
 simp +decide only [Tryz.f144, hpin, go_sem, reduceAdd, reduceMul]
 by_cases h : 48 <= n <;> simp [h, figB]
theorem zeh (n : Int) : zB Tryz.prog 132 [.ro (.sc (.int .u8 n))] (fun rs st => rs = [(false, [cB (figB n)])]) := by
 refine zn (fn := Tryz.f132) (c := Tryz.f132.body.getD .skip) (res := [.tm 2]) (n := 9) ze (by kernel_rfl) (by rfl) (by kernel_rfl) (by rfl) (by rfl) (by simp [zq]) (fun C hpin hfull => ?_)
 simp +decide only [Tryz.f132, hpin, go_sem, reduceAdd, reduceMul]
 by_cases h : 48 <= n <;> simp [h, figB]
def keyList : List ByteArray := [⟨#[102, 110]⟩, ⟨#[108, 101, 116]⟩, ⟨#[105, 102]⟩, ⟨#[101, 108, 115, 101]⟩, ⟨#[119, 104, 105, 108, 101]⟩, ⟨#[112, 114, 105, 110, 116]⟩, ⟨#[100, 111]⟩, ⟨#[110, 101, 119]⟩, ⟨#[99, 108, 111, 110, 101]⟩, ⟨#[109, 117, 116]⟩, ⟨#[105, 110, 112, 117, 116]⟩, ⟨#[105, 110, 116]⟩, ⟨#[98, 111, 120]⟩, ⟨#[114, 101, 116]⟩]
def zjr : ByteArray := ⟨#[102, 110, 32, 108, 101, 116, 32, 105, 102, 32, 101, 108, 115, 101, 32, 119, 104, 105, 108, 101, 32, 112, 114, 105, 110, 116, 32, 100, 111, 32, 110, 101, 119, 32, 99, 108, 111, 110, 101, 32, 109, 117, 116, 32, 105, 110, 112, 117, 116, 32, 105, 110, 116, 32, 98, 111, 120, 32, 114, 101, 116]⟩
theorem zgD : XO zjr 32 = keyList := by kernel_rfl
def xn (l : List ByteArray) (s : ByteArray) : Bool := l.any fun w => decide (w = s)
theorem zaz {l : List ByteArray} {s : ByteArray} {i : Nat} (h : i < l.length) : xn (l.take (i + 1)) s = (xn (l.take i) s || decide (l[i] = s)) := by
 unfold xn
 rw [List.take_succ_eq_append_getElem h, List.any_append]; simp
theorem zay {l : List ByteArray} {s : ByteArray} {i : Nat} (h : i < l.length) (he : decide (l[i] = s) = true) : xn l s = true := by
 unfold xn
 rw [List.any_eq_true]
 exact ⟨l[i], List.getElem_mem h, he⟩
theorem zje (s t : ByteArray) (ht : t.size <= 1048576) : zB Tryz.prog 187 [.ro (.sc (.string s)), .ro (.sc (.string t))] (fun rs st => rs = [(false, [cB (xn (XO t 32) s)])]) := by
 refine zn (fn := Tryz.f187) (c := Tryz.f187.body.getD .skip) (res := [.tm 4]) (n := 18) ze (by kernel_rfl) (by rfl) (by kernel_rfl) (by rfl) (by rfl) (by simp [zq]) (fun C hpin hfull => ?_)
 have hl : (XO t 32).length <= 1048577 := by
   unfold XO; rw [List.length_map, Xn]
   have : t.data.toList.count 32 <= t.size := by rw [<- zkV]; exact List.count_le_length
   omega
 simp +decide only [Tryz.f187, hpin, go_sem, reduceAdd, reduceMul]
 refine zd (ziS t 32 ht) hpin ?_
 simp +decide only [sp1, hpin, go_sem, reduceAdd, reduceMul]
 generalize XO t 32 = l at hl |-
 refine Tri.loop (ι := Nat) (fun i => i <= l.length /\ xn (l.take i) s = false) (fun i => ⟨18, [(0, vS s), (4, vB false), (8, .ref 3008 [] l.length), (9, vI l.length), (10, vI i)], [(3008, .row 9 (row1 cS l))]⟩) (fun i => l.length - i) 0 (by simp [xn]) ?_ ?_
 · refine Ent.weak ?_ ?_ ?_ ?_ <;> simp +decide [subT, subB, zl, zk, zo, St.get, look, vI, vB, vS, cS]
 · rintro i ⟨hi, hn⟩
   refine zf ze _ ?_
   by_cases h : i < l.length
   · have e : ((i : Int) < (l.length : Int)) = True := by simp [h]
     simp +decide only [e, zr _ _ h, zbw _ _ h, Int.natCast_nonneg, vI, vB, vS, hpin, go_sem, reduceAdd, reduceMul]
     cases hq : decide (l[i] = s) with
     | true =>
       simp +decide only [vI, vB, vS, zay h hq, hpin, go_sem, reduceAdd, reduceMul]
     | false =>
       simp +decide only [vI, vB, vS, hpin, go_sem, reduceAdd, reduceMul]
       refine ⟨i + 1, ⟨h, by rw [zaz h, hn, hq]; rfl⟩, by omega, Ent.weak ?_ ?_ ?_ ?_⟩
       all_goals simp +decide [subT, subB, zl, zk, St.get, look, w64s (n := l.length) h (by omega), vI, vB, vS, cS]
   · have hil : i = l.length := by omega
     subst hil
     have e : ((l.length : Int) < (l.length : Int)) = False := by simp
     rw [List.take_length] at hn
     simp +decide only [e, hn, vI, vB, vS, hpin, go_sem, reduceAdd, reduceMul]
theorem zfc (s : ByteArray) : zB Tryz.prog 145 [.ro (.sc (.string s))] (fun rs st => rs = [(false, [cB (xn keyList s)])]) := by
 refine zn (fn := Tryz.f145) (c := Tryz.f145.body.getD .skip) (res := [.tm 2]) (n := 5) ze (by kernel_rfl) (by rfl) (by kernel_rfl) (by rfl) (by rfl) (by simp [zq]) (fun C hpin hfull => ?_)
 simp +decide only [Tryz.f145, hpin, go_sem, reduceAdd, reduceMul]
 have := zje s zjr (by decide)
 rw [zgD] at this
 refine zd this hpin ?_
 simp +decide only [zjr, hpin, go_sem, reduceAdd, reduceMul]
theorem zlk : zB Tryz.prog 184 [] (fun rs st => rs = [(false, [.row false 9 (row1 cS keyList)])]) := by
 refine zn (fn := Tryz.f184) (c := Tryz.f184.body.getD .skip) (res := [.tm 0]) (n := 2) ze (by kernel_rfl) (by rfl) (by kernel_rfl) (by rfl) (by rfl) (by simp [zq]) (fun C hpin hfull => ?_)
 simp +decide only [Tryz.f184, hpin, go_sem, reduceAdd, reduceMul]
 rfl
theorem zfb (s : ByteArray) : zB Tryz.prog 131 [.ro (.sc (.string s))] (fun rs st => rs = [(false, [cB (xn keyList s)])]) := by
 refine zn (fn := Tryz.f131) (c := Tryz.f131.body.getD .skip) (res := [.tm 2]) (n := 18) ze (by kernel_rfl) (by rfl) (by kernel_rfl) (by rfl) (by rfl) (by simp [zq]) (fun C hpin hfull => ?_)
 simp +decide only [Tryz.f131, hpin, go_sem, reduceAdd, reduceMul]
 refine zd zlk hpin ?_
 simp +decide only [hpin, go_sem, reduceAdd, reduceMul]
 have hl : keyList.length <= 14 := by decide
 generalize keyList = l at hl |-
 refine Tri.loop (ι := Nat) (fun i => i <= l.length /\ xn (l.take i) s = false) (fun i => ⟨18, [(0, vS s), (2, vB false), (3, .ref 3 [] l.length), (4, vI i)], [(3, .row 9 (row1 cS l))]⟩) (fun i => l.length - i) 0 (by simp [xn]) ?_ ?_
 · refine Ent.weak ?_ ?_ ?_ ?_ <;> simp +decide [subT, subB, zl, zk, zo, St.get, look, vI, vB, vS, cS]
 · rintro i ⟨hi, hn⟩
   refine zf ze _ ?_
   by_cases h : i < l.length
   · have e : ((i : Int) < (l.length : Int)) = True := by simp [h]
     simp +decide only [e, zr _ _ h, zbw _ _ h, Int.natCast_nonneg, vI, vB, vS, hpin, go_sem, reduceAdd, reduceMul]
     cases hq : decide (l[i] = s) with
     | true =>
       simp +decide only [vI, vB, vS, zay h hq, hpin, go_sem, reduceAdd, reduceMul]
     | false =>
       simp +decide only [vI, vB, vS, hpin, go_sem, reduceAdd, reduceMul]
       refine ⟨i + 1, ⟨h, by rw [zaz h, hn, hq]; rfl⟩, by omega, Ent.weak ?_ ?_ ?_ ?_⟩
       all_goals simp +decide [subT, subB, zl, zk, St.get, look, w64s (n := l.length) h (by omega), vI, vB, vS, cS]
   · have hil : i = l.length := by omega
     subst hil
     have e : ((l.length : Int) < (l.length : Int)) = False := by simp
     rw [List.take_length] at hn
     simp +decide only [e, hn, vI, vB, vS, hpin, go_sem, reduceAdd, reduceMul]
def chB (n : Nat) : Bool := letB n || figB n
def zae (s : ByteArray) (i : Nat) : Bool := (s.data.toList.take i).all fun b => chB b.toNat
def ZM (s : ByteArray) : Bool := inI s.size 1 8 && (letB (((s.data.toList.getD (Int.toNat 0) 0).toNat : Nat) : Int) && (!xn keyList s && zae s s.size))
theorem Yn {s : ByteArray} {i : Nat} (h : i < s.size) : zae s (i + 1) = (zae s i && chB (s.data.toList.getD i 0).toNat) := by
 have h' : i < s.data.toList.length := by rw [zkV]; exact h
 unfold zae
 have e : s.data.toList.getD i 0 = s.data.toList[i] := by rw [List.getD_eq_getElem?_getD, List.getElem?_eq_getElem h']; rfl
 rw [List.take_succ_eq_append_getElem h', List.all_append, e]
 simp only [List.all_cons, List.all_nil, Bool.and_true]
theorem zeG {s : ByteArray} {i : Nat} (h : i < s.size) (hc : zae s (i + 1) = false) : zae s s.size = false := by
 have h2 : s.data.toList.take s.size = s.data.toList.take (i + 1) ++ (s.data.toList.drop (i + 1)).take (s.size - (i + 1)) := by
   rw [<- List.take_add]; congr 1; omega
 unfold zae at hc |-
 rw [h2, List.all_append, hc]; rfl
theorem xf (s : ByteArray) : zB Tryz.prog 64 [.ro (.sc (.string s))] (fun rs st => rs = [(false, [cB (ZM s)])]) := by
 refine zn (fn := Tryz.f64) (c := Tryz.f64.body.getD .skip) (res := [.tm 2]) (n := 35) ze (by kernel_rfl) (by rfl) (by kernel_rfl) (by rfl) (by rfl) (by simp [zq]) (fun C hpin hfull => ?_)
 simp +decide only [Tryz.f64, hpin, go_sem, reduceAdd, reduceMul]
 refine zd (in' s.size 1 8) hpin ?_
 simp +decide only [hpin, go_sem, reduceAdd, reduceMul]
 unfold ZM
 cases h1 : inI s.size 1 8 with
 | false =>
   simp +decide only [hpin, go_sem, reduceAdd, reduceMul]
 | true =>
   have hs : 1 <= s.size /\ s.size <= 8 := by simp [inI] at h1; omega
   have e0 : ((0 : Int) < (s.size : Int)) = True := by simp; omega
   simp +decide only [e0, hpin, go_sem, reduceAdd, reduceMul]
   refine zd (zaN (((s.data.toList.getD (Int.toNat 0) 0).toNat : Nat) : Int)) hpin ?_
   simp +decide only [hpin, go_sem, reduceAdd, reduceMul]
   cases h2 : letB (((s.data.toList.getD (Int.toNat 0) 0).toNat : Nat) : Int) with
   | false =>
     simp +decide only [hpin, go_sem, reduceAdd, reduceMul]
   | true =>
     simp +decide only [hpin, go_sem, reduceAdd, reduceMul]
     refine Tri.loop (ι := Nat) (fun i => i <= s.size /\ zae s i = true) (fun i => ⟨35, [(0, vS s), (2, vB false), (3, vI i)], []⟩) (fun i => s.size - i) 0 (by simp [zae]) ?_ ?_
     · refine Ent.weak ?_ ?_ ?_ ?_ <;> simp +decide [subT, subB, zl, zk, zo, St.get, look, vI, vB, vS, cS]
     · rintro i ⟨hi, hn⟩
       refine zf ze _ ?_
       by_cases h : i < s.size
       · have e : ((i : Int) < (s.size : Int)) = True := by simp [h]
         simp +decide only [e, Int.natCast_nonneg, vI, vB, vS, hpin, go_sem, reduceAdd, reduceMul]
         refine zd (zaN (((s.data.toList.getD i 0).toNat : Nat) : Int)) hpin ?_
         simp +decide only [e, Int.natCast_nonneg, vI, vB, vS, hpin, go_sem, reduceAdd, reduceMul]
         cases hl : letB (((s.data.toList.getD i 0).toNat : Nat) : Int) with
         | true =>
           simp +decide only [vI, vB, vS, hpin, go_sem, reduceAdd, reduceMul]
           refine ⟨i + 1, ⟨h, by rw [Yn h, hn, chB, hl]; rfl⟩, by omega, Ent.weak ?_ ?_ ?_ ?_⟩
           all_goals simp +decide [subT, subB, zl, zk, St.get, look, w64s (n := s.size) h (by omega), vI, vB, vS, cS]
         | false =>
           simp +decide only [e, Int.natCast_nonneg, vI, vB, vS, hpin, go_sem, reduceAdd, reduceMul]
           refine zd (zfd (((s.data.toList.getD i 0).toNat : Nat) : Int)) hpin ?_
           simp +decide only [vI, vB, vS, hpin, go_sem, reduceAdd, reduceMul]
           cases hf : figB (((s.data.toList.getD i 0).toNat : Nat) : Int) with
           | true =>
             simp +decide only [vI, vB, vS, hpin, go_sem, reduceAdd, reduceMul]
             refine ⟨i + 1, ⟨h, by rw [Yn h, hn, chB, hl, hf]; rfl⟩, by omega, Ent.weak ?_ ?_ ?_ ?_⟩
             all_goals simp +decide [subT, subB, zl, zk, St.get, look, w64s (n := s.size) h (by omega), vI, vB, vS, cS]
           | false =>
             have hx := zeG h (by rw [Yn h, hn, chB, hl, hf]; rfl)
             simp +decide only [hx, vI, vB, vS, hpin, go_sem, reduceAdd, reduceMul]
       · have hil : i = s.size := by omega
         subst hil
         have e : ((s.size : Int) < (s.size : Int)) = False := by simp
         simp +decide only [e, hn, vI, vB, vS, hpin, go_sem, reduceAdd, reduceMul]
         refine zd (zfc s) hpin ?_
         simp +decide only [vI, vB, vS, hpin, go_sem, reduceAdd, reduceMul]
         simp [hn]
theorem Zx (s : ByteArray) : zB Tryz.prog 55 [.ro (.sc (.string s))] (fun rs st => rs = [(false, [cB (ZM s)])]) := by
 refine zn (fn := Tryz.f55) (c := Tryz.f55.body.getD .skip) (res := [.tm 2]) (n := 36) ze (by kernel_rfl) (by rfl) (by kernel_rfl) (by rfl) (by rfl) (by simp [zq]) (fun C hpin hfull => ?_)
 simp +decide only [Tryz.f55, hpin, go_sem, reduceAdd, reduceMul]
 refine zd (yC s.size 1 8) hpin ?_
 simp +decide only [hpin, go_sem, reduceAdd, reduceMul]
 unfold ZM
 cases h1 : inI s.size 1 8 with
 | false =>
   simp +decide only [hpin, go_sem, reduceAdd, reduceMul]
 | true =>
   have hs : 1 <= s.size /\ s.size <= 8 := by simp [inI] at h1; omega
   have e0 : ((0 : Int) < (s.size : Int)) = True := by simp; omega
   simp +decide only [e0, hpin, go_sem, reduceAdd, reduceMul]
   refine zd (XX (((s.data.toList.getD (Int.toNat 0) 0).toNat : Nat) : Int)) hpin ?_
   simp +decide only [hpin, go_sem, reduceAdd, reduceMul]
   cases h2 : letB (((s.data.toList.getD (Int.toNat 0) 0).toNat : Nat) : Int) with
   | false =>
     simp +decide only [hpin, go_sem, reduceAdd, reduceMul]
   | true =>
     simp +decide only [hpin, go_sem, reduceAdd, reduceMul]
     refine zd (zfb s) hpin ?_
     simp +decide only [hpin, go_sem, reduceAdd, reduceMul]
     cases h3 : xn keyList s with
     | true => simp +decide only [hpin, go_sem, reduceAdd, reduceMul]
     | false =>
     simp +decide only [hpin, go_sem, reduceAdd, reduceMul]
     refine Tri.loop (ι := Nat) (fun i => i <= s.size /\ zae s i = true) (fun i => ⟨36, [(0, vS s), (2, vB false), (3, vI i)], []⟩) (fun i => s.size - i) 0 (by simp [zae]) ?_ ?_
     · refine Ent.weak ?_ ?_ ?_ ?_ <;> simp +decide [subT, subB, zl, zk, zo, St.get, look, vI, vB, vS, cS]
     · rintro i ⟨hi, hn⟩
       refine zf ze _ ?_
       by_cases h : i < s.size
       · have e : ((i : Int) < (s.size : Int)) = True := by simp [h]
         simp +decide only [e, Int.natCast_nonneg, vI, vB, vS, hpin, go_sem, reduceAdd, reduceMul]
         refine zd (XX (((s.data.toList.getD i 0).toNat : Nat) : Int)) hpin ?_
         simp +decide only [e, Int.natCast_nonneg, vI, vB, vS, hpin, go_sem, reduceAdd, reduceMul]
         cases hl : letB (((s.data.toList.getD i 0).toNat : Nat) : Int) with
         | true =>
           simp +decide only [vI, vB, vS, hpin, go_sem, reduceAdd, reduceMul]
           refine ⟨i + 1, ⟨h, by rw [Yn h, hn, chB, hl]; rfl⟩, by omega, Ent.weak ?_ ?_ ?_ ?_⟩
           all_goals simp +decide [subT, subB, zl, zk, St.get, look, w64s (n := s.size) h (by omega), vI, vB, vS, cS]
         | false =>
           simp +decide only [e, Int.natCast_nonneg, vI, vB, vS, hpin, go_sem, reduceAdd, reduceMul]
           refine zd (zeh (((s.data.toList.getD i 0).toNat : Nat) : Int)) hpin ?_
           simp +decide only [vI, vB, vS, hpin, go_sem, reduceAdd, reduceMul]
           cases hf : figB (((s.data.toList.getD i 0).toNat : Nat) : Int) with
           | true =>
             simp +decide only [vI, vB, vS, hpin, go_sem, reduceAdd, reduceMul]
             refine ⟨i + 1, ⟨h, by rw [Yn h, hn, chB, hl, hf]; rfl⟩, by omega, Ent.weak ?_ ?_ ?_ ?_⟩
             all_goals simp +decide [subT, subB, zl, zk, St.get, look, w64s (n := s.size) h (by omega), vI, vB, vS, cS]
           | false =>
             have hx := zeG h (by rw [Yn h, hn, chB, hl, hf]; rfl)
             simp +decide only [hx, vI, vB, vS, hpin, go_sem, reduceAdd, reduceMul]
       · have hil : i = s.size := by omega
         subst hil
         have e : ((s.size : Int) < (s.size : Int)) = False := by simp
         simp +decide only [e, hn, vI, vB, vS, hpin, go_sem, reduceAdd, reduceMul]
set_option maxHeartbeats 8000000
def yV (k : Int) : Bool := inI k 1 12
def ZT (k : Int) : Bool := inI k 13 19
def yo (k : Int) : Bool := inI k 2 6 || inI k 12 15
def zA (k : Int) : Int × Int :=
 if k == 8 then (1, 1) else if k == 13 then (1, 1) else if k == 14 then (1, 1) else if k == 15 then (1, 1) else if k == 18 then (1, 1) else if k == 19 then (1, 1)
 else if k == 9 then (2, 2) else if k == 10 then (2, 2) else if k == 11 then (2, 2) else if k == 17 then (2, 2)
 else if k == 16 then (3, 3) else if k == 12 then (0, 3) else if k == 20 then (0, 12) else (0, 0)
def yD (kind i kid : Int) : Bool := if kind == 20 then ZT kid else if (kind == 16 || kind == 17) && decide (0 < i) then kid == 20 else if kind == 19 then kid == 12 else yV kid
theorem YO (k : Int) : zB Tryz.prog 146 [.ro (.sc (.int .i64 k))] (fun rs st => rs = [(false, [cB (yV k)])]) := by
 refine zn (fn := Tryz.f146) (c := Tryz.f146.body.getD .skip) (res := [.tm 2]) (n := 5) ze (by kernel_rfl) (by rfl) (by kernel_rfl) (by rfl) (by rfl) (by simp [zq]) (fun C hpin hfull => ?_)
 simp +decide only [Tryz.f146, hpin, go_sem, reduceAdd, reduceMul]
 refine zd (in' k 1 12) hpin ?_
 simp +decide only [yV, hpin, go_sem, reduceAdd, reduceMul]
theorem zgG (k : Int) : zB Tryz.prog 237 [.ro (.sc (.int .i64 k))] (fun rs st => rs = [(false, [cB (ZT k)])]) := by
 refine zn (fn := Tryz.f237) (c := Tryz.f237.body.getD .skip) (res := [.tm 2]) (n := 5) ze (by kernel_rfl) (by rfl) (by kernel_rfl) (by rfl) (by rfl) (by simp [zq]) (fun C hpin hfull => ?_)
 simp +decide only [Tryz.f237, hpin, go_sem, reduceAdd, reduceMul]
 refine zd (in' k 13 19) hpin ?_
 simp +decide only [ZT, hpin, go_sem, reduceAdd, reduceMul]
theorem YN (k : Int) : zB Tryz.prog 134 [.ro (.sc (.int .i64 k))] (fun rs st => rs = [(false, [cB (yV k)])]) := by
 refine zn (fn := Tryz.f134) (c := Tryz.f134.body.getD .skip) (res := [.tm 2]) (n := 5) ze (by kernel_rfl) (by rfl) (by kernel_rfl) (by rfl) (by rfl) (by simp [zq]) (fun C hpin hfull => ?_)
 simp +decide only [Tryz.f134, hpin, go_sem, reduceAdd, reduceMul]
 refine zd (yC k 1 12) hpin ?_
 simp +decide only [yV, hpin, go_sem, reduceAdd, reduceMul]
theorem zgF (k : Int) : zB Tryz.prog 233 [.ro (.sc (.int .i64 k))] (fun rs st => rs = [(false, [cB (ZT k)])]) := by
 refine zn (fn := Tryz.f233) (c := Tryz.f233.body.getD .skip) (res := [.tm 2]) (n := 5) ze (by kernel_rfl) (by rfl) (by kernel_rfl) (by rfl) (by rfl) (by simp [zq]) (fun C hpin hfull => ?_)
 simp +decide only [Tryz.f233, hpin, go_sem, reduceAdd, reduceMul]
 refine zd (yC k 13 19) hpin ?_
 simp +decide only [ZT, hpin, go_sem, reduceAdd, reduceMul]
theorem zaP (k : Int) : zB Tryz.prog 221 [.ro (.sc (.int .i64 k))] (fun rs st => rs = [(false, [cB (yo k)])]) := by
 refine zn (fn := Tryz.f221) (c := Tryz.f221.body.getD .skip) (res := [.tm 2]) (n := 9) ze (by kernel_rfl) (by rfl) (by kernel_rfl) (by rfl) (by rfl) (by simp [zq]) (fun C hpin hfull => ?_)
 simp +decide only [Tryz.f221, hpin, go_sem, reduceAdd, reduceMul]
 refine zd (in' k 2 6) hpin ?_
 simp +decide only [hpin, go_sem, reduceAdd, reduceMul]
 unfold yo
 cases h1 : inI k 2 6 with
 | true => simp +decide only [Bool.true_or, hpin, go_sem, reduceAdd, reduceMul]
 | false =>
   simp +decide only [hpin, go_sem, reduceAdd, reduceMul]
   refine zd (in' k 12 15) hpin ?_
   simp +decide only [Bool.false_or, hpin, go_sem, reduceAdd, reduceMul]
theorem zdT (k : Int) : zB Tryz.prog 216 [.ro (.sc (.int .i64 k))] (fun rs st => rs = [(false, [cB (yo k)])]) := by
 refine zn (fn := Tryz.f216) (c := Tryz.f216.body.getD .skip) (res := [.tm 2]) (n := 14) ze (by kernel_rfl) (by rfl) (by kernel_rfl) (by rfl) (by rfl) (by simp [zq]) (fun C hpin hfull => ?_)
 simp +decide only [Tryz.f216, hpin, go_sem, reduceAdd, reduceMul]
 cases h2 : k == 2 with
 | true =>
   have hk : k = 2 := by simpa using h2
   have hr : yo k = true := by rw [hk]; decide
   simp +decide only [h2, hr, hpin, go_sem, reduceAdd, reduceMul]
 | false =>
 simp +decide only [h2, hpin, go_sem, reduceAdd, reduceMul]
 cases h3 : k == 3 with
 | true =>
   have hk : k = 3 := by simpa using h3
   have hr : yo k = true := by rw [hk]; decide
   simp +decide only [h3, hr, hpin, go_sem, reduceAdd, reduceMul]
 | false =>
 simp +decide only [h3, hpin, go_sem, reduceAdd, reduceMul]
 cases h4 : k == 4 with
 | true =>
   have hk : k = 4 := by simpa using h4
   have hr : yo k = true := by rw [hk]; decide
   simp +decide only [h4, hr, hpin, go_sem, reduceAdd, reduceMul]
 | false =>
 simp +decide only [h4, hpin, go_sem, reduceAdd, reduceMul]
 cases h5 : k == 5 with
 | true =>
   have hk : k = 5 := by simpa using h5
   have hr : yo k = true := by rw [hk]; decide
   simp +decide only [h5, hr, hpin, go_sem, reduceAdd, reduceMul]
 | false =>
 simp +decide only [h5, hpin, go_sem, reduceAdd, reduceMul]
 cases h6 : k == 6 with
 | true =>
   have hk : k = 6 := by simpa using h6
   have hr : yo k = true := by rw [hk]; decide
   simp +decide only [h6, hr, hpin, go_sem, reduceAdd, reduceMul]
 | false =>
 simp +decide only [h6, hpin, go_sem, reduceAdd, reduceMul]
 cases h12 : k == 12 with
 | true =>
   have hk : k = 12 := by simpa using h12
   have hr : yo k = true := by rw [hk]; decide
   simp +decide only [h12, hr, hpin, go_sem, reduceAdd, reduceMul]
 | false =>
 simp +decide only [h12, hpin, go_sem, reduceAdd, reduceMul]
 cases h13 : k == 13 with
 | true =>
   have hk : k = 13 := by simpa using h13
   have hr : yo k = true := by rw [hk]; decide
   simp +decide only [h13, hr, hpin, go_sem, reduceAdd, reduceMul]
 | false =>
 simp +decide only [h13, hpin, go_sem, reduceAdd, reduceMul]
 cases h14 : k == 14 with
 | true =>
   have hk : k = 14 := by simpa using h14
   have hr : yo k = true := by rw [hk]; decide
   simp +decide only [h14, hr, hpin, go_sem, reduceAdd, reduceMul]
 | false =>
 simp +decide only [h14, hpin, go_sem, reduceAdd, reduceMul]
 cases h15 : k == 15 with
 | true =>
   have hk : k = 15 := by simpa using h15
   have hr : yo k = true := by rw [hk]; decide
   simp +decide only [h15, hr, hpin, go_sem, reduceAdd, reduceMul]
 | false =>
 simp +decide only [h15, hpin, go_sem, reduceAdd, reduceMul]
 have hr : yo k = false := by simp at h2 h3 h4 h5 h6 h12 h13 h14 h15; simp [yo, inI]; omega
 simp +decide only [hr, hpin, go_sem, reduceAdd, reduceMul]
theorem zhu (k : Int) : zB Tryz.prog 219 [.ro (.sc (.int .i64 k))] (fun rs st => rs = [(false, [cI (zA k).1]), (false, [cI (zA k).2])]) := by
 refine zn (fn := Tryz.f219) (c := Tryz.f219.body.getD .skip) (res := [.tm 2, .tm 3]) (n := 23) ze (by kernel_rfl) (by rfl) (by kernel_rfl) (by rfl) (by rfl) (by simp [zq]) (fun C hpin hfull => ?_)
 simp +decide only [Tryz.f219, hpin, go_sem, reduceAdd, reduceMul]
 cases h8 : k == 8 with
 | true =>
   have hk : k = 8 := by simpa using h8
   have hr : zA k = (1, 1) := by rw [hk]; decide
   simp +decide only [h8, hr, hpin, go_sem, reduceAdd, reduceMul]
 | false =>
 simp +decide only [h8, hpin, go_sem, reduceAdd, reduceMul]
 cases h13 : k == 13 with
 | true =>
   have hk : k = 13 := by simpa using h13
   have hr : zA k = (1, 1) := by rw [hk]; decide
   simp +decide only [h13, hr, hpin, go_sem, reduceAdd, reduceMul]
 | false =>
 simp +decide only [h13, hpin, go_sem, reduceAdd, reduceMul]
 cases h14 : k == 14 with
 | true =>
   have hk : k = 14 := by simpa using h14
   have hr : zA k = (1, 1) := by rw [hk]; decide
   simp +decide only [h14, hr, hpin, go_sem, reduceAdd, reduceMul]
 | false =>
 simp +decide only [h14, hpin, go_sem, reduceAdd, reduceMul]
 cases h15 : k == 15 with
 | true =>
   have hk : k = 15 := by simpa using h15
   have hr : zA k = (1, 1) := by rw [hk]; decide
   simp +decide only [h15, hr, hpin, go_sem, reduceAdd, reduceMul]
 | false =>
 simp +decide only [h15, hpin, go_sem, reduceAdd, reduceMul]
 cases h18 : k == 18 with
 | true =>
   have hk : k = 18 := by simpa using h18
   have hr : zA k = (1, 1) := by rw [hk]; decide
   simp +decide only [h18, hr, hpin, go_sem, reduceAdd, reduceMul]
 | false =>
 simp +decide only [h18, hpin, go_sem, reduceAdd, reduceMul]
 cases h19 : k == 19 with
 | true =>
   have hk : k = 19 := by simpa using h19
   have hr : zA k = (1, 1) := by rw [hk]; decide
   simp +decide only [h19, hr, hpin, go_sem, reduceAdd, reduceMul]
 | false =>
 simp +decide only [h19, hpin, go_sem, reduceAdd, reduceMul]
 cases h9 : k == 9 with
 | true =>
   have hk : k = 9 := by simpa using h9
   have hr : zA k = (2, 2) := by rw [hk]; decide
   simp +decide only [h9, hr, hpin, go_sem, reduceAdd, reduceMul]
 | false =>
 simp +decide only [h9, hpin, go_sem, reduceAdd, reduceMul]
 cases h10 : k == 10 with
 | true =>
   have hk : k = 10 := by simpa using h10
   have hr : zA k = (2, 2) := by rw [hk]; decide
   simp +decide only [h10, hr, hpin, go_sem, reduceAdd, reduceMul]
 | false =>
 simp +decide only [h10, hpin, go_sem, reduceAdd, reduceMul]
 cases h11 : k == 11 with
 | true =>
   have hk : k = 11 := by simpa using h11
   have hr : zA k = (2, 2) := by rw [hk]; decide
   simp +decide only [h11, hr, hpin, go_sem, reduceAdd, reduceMul]
 | false =>
 simp +decide only [h11, hpin, go_sem, reduceAdd, reduceMul]
 cases h17 : k == 17 with
 | true =>
   have hk : k = 17 := by simpa using h17
   have hr : zA k = (2, 2) := by rw [hk]; decide
   simp +decide only [h17, hr, hpin, go_sem, reduceAdd, reduceMul]
 | false =>
 simp +decide only [h17, hpin, go_sem, reduceAdd, reduceMul]
 cases h16 : k == 16 with
 | true =>
   have hk : k = 16 := by simpa using h16
   have hr : zA k = (3, 3) := by rw [hk]; decide
   simp +decide only [h16, hr, hpin, go_sem, reduceAdd, reduceMul]
 | false =>
 simp +decide only [h16, hpin, go_sem, reduceAdd, reduceMul]
 cases h12 : k == 12 with
 | true =>
   have hk : k = 12 := by simpa using h12
   have hr : zA k = (0, 3) := by rw [hk]; decide
   simp +decide only [h12, hr, hpin, go_sem, reduceAdd, reduceMul]
 | false =>
 simp +decide only [h12, hpin, go_sem, reduceAdd, reduceMul]
 cases h20 : k == 20 with
 | true =>
   have hk : k = 20 := by simpa using h20
   have hr : zA k = (0, 12) := by rw [hk]; decide
   simp +decide only [h20, hr, hpin, go_sem, reduceAdd, reduceMul]
 | false =>
 simp +decide only [h20, hpin, go_sem, reduceAdd, reduceMul]
 have hr : zA k = (0, 0) := by simp only [zA, h8, h13, h14, h15, h18, h19, h9, h10, h11, h17, h16, h12, h20, Bool.false_eq_true, if_false]
 simp +decide only [hr, hpin, go_sem, reduceAdd, reduceMul]
theorem zht (k : Int) : zB Tryz.prog 215 [.ro (.sc (.int .i64 k))] (fun rs st => rs = [(false, [cI (zA k).1]), (false, [cI (zA k).2])]) := by
 refine zn (fn := Tryz.f215) (c := Tryz.f215.body.getD .skip) (res := [.tm 2, .tm 3]) (n := 23) ze (by kernel_rfl) (by rfl) (by kernel_rfl) (by rfl) (by rfl) (by simp [zq]) (fun C hpin hfull => ?_)
 simp +decide only [Tryz.f215, hpin, go_sem, reduceAdd, reduceMul]
 cases h8 : k == 8 with
 | true =>
   have hk : k = 8 := by simpa using h8
   have hr : zA k = (1, 1) := by rw [hk]; decide
   simp +decide only [h8, hr, hpin, go_sem, reduceAdd, reduceMul]
 | false =>
 simp +decide only [h8, hpin, go_sem, reduceAdd, reduceMul]
 cases h13 : k == 13 with
 | true =>
   have hk : k = 13 := by simpa using h13
   have hr : zA k = (1, 1) := by rw [hk]; decide
   simp +decide only [h13, hr, hpin, go_sem, reduceAdd, reduceMul]
 | false =>
 simp +decide only [h13, hpin, go_sem, reduceAdd, reduceMul]
 cases h14 : k == 14 with
 | true =>
   have hk : k = 14 := by simpa using h14
   have hr : zA k = (1, 1) := by rw [hk]; decide
   simp +decide only [h14, hr, hpin, go_sem, reduceAdd, reduceMul]
 | false =>
 simp +decide only [h14, hpin, go_sem, reduceAdd, reduceMul]
 cases h15 : k == 15 with
 | true =>
   have hk : k = 15 := by simpa using h15
   have hr : zA k = (1, 1) := by rw [hk]; decide
   simp +decide only [h15, hr, hpin, go_sem, reduceAdd, reduceMul]
 | false =>
 simp +decide only [h15, hpin, go_sem, reduceAdd, reduceMul]
 cases h18 : k == 18 with
 | true =>
   have hk : k = 18 := by simpa using h18
   have hr : zA k = (1, 1) := by rw [hk]; decide
   simp +decide only [h18, hr, hpin, go_sem, reduceAdd, reduceMul]
 | false =>
 simp +decide only [h18, hpin, go_sem, reduceAdd, reduceMul]
 cases h19 : k == 19 with
 | true =>
   have hk : k = 19 := by simpa using h19
   have hr : zA k = (1, 1) := by rw [hk]; decide
   simp +decide only [h19, hr, hpin, go_sem, reduceAdd, reduceMul]
 | false =>
 simp +decide only [h19, hpin, go_sem, reduceAdd, reduceMul]
 cases h9 : k == 9 with
 | true =>
   have hk : k = 9 := by simpa using h9
   have hr : zA k = (2, 2) := by rw [hk]; decide
   simp +decide only [h9, hr, hpin, go_sem, reduceAdd, reduceMul]
 | false =>
 simp +decide only [h9, hpin, go_sem, reduceAdd, reduceMul]
 cases h10 : k == 10 with
 | true =>
   have hk : k = 10 := by simpa using h10
   have hr : zA k = (2, 2) := by rw [hk]; decide
   simp +decide only [h10, hr, hpin, go_sem, reduceAdd, reduceMul]
 | false =>
 simp +decide only [h10, hpin, go_sem, reduceAdd, reduceMul]
 cases h11 : k == 11 with
 | true =>
   have hk : k = 11 := by simpa using h11
   have hr : zA k = (2, 2) := by rw [hk]; decide
   simp +decide only [h11, hr, hpin, go_sem, reduceAdd, reduceMul]
 | false =>
 simp +decide only [h11, hpin, go_sem, reduceAdd, reduceMul]
 cases h17 : k == 17 with
 | true =>
   have hk : k = 17 := by simpa using h17
   have hr : zA k = (2, 2) := by rw [hk]; decide
   simp +decide only [h17, hr, hpin, go_sem, reduceAdd, reduceMul]
 | false =>
 simp +decide only [h17, hpin, go_sem, reduceAdd, reduceMul]
 cases h12 : k == 12 with
 | true =>
   have hk : k = 12 := by simpa using h12
   have hr : zA k = (0, 3) := by rw [hk]; decide
   simp +decide only [h12, hr, hpin, go_sem, reduceAdd, reduceMul]
 | false =>
 simp +decide only [h12, hpin, go_sem, reduceAdd, reduceMul]
 cases h16 : k == 16 with
 | true =>
   have hk : k = 16 := by simpa using h16
   have hr : zA k = (3, 3) := by rw [hk]; decide
   simp +decide only [h16, hr, hpin, go_sem, reduceAdd, reduceMul]
 | false =>
 simp +decide only [h16, hpin, go_sem, reduceAdd, reduceMul]
 cases h20 : k == 20 with
 | true =>
   have hk : k = 20 := by simpa using h20
   have hr : zA k = (0, 12) := by rw [hk]; decide
   simp +decide only [h20, hr, hpin, go_sem, reduceAdd, reduceMul]
 | false =>
 simp +decide only [h20, hpin, go_sem, reduceAdd, reduceMul]
 have hr : zA k = (0, 0) := by simp only [zA, h8, h13, h14, h15, h18, h19, h9, h10, h11, h17, h12, h16, h20, Bool.false_eq_true, if_false]
 simp +decide only [hr, hpin, go_sem, reduceAdd, reduceMul]
theorem zjA (k i j : Int) : zB Tryz.prog 220 [.ro (.sc (.int .i64 k)), .ro (.sc (.int .i64 i)), .ro (.sc (.int .i64 j))] (fun rs st => rs = [(false, [cB (yD k i j)])]) := by
 refine zn (fn := Tryz.f220) (c := Tryz.f220.body.getD .skip) (res := [.tm 6]) (n := 32) ze (by kernel_rfl) (by rfl) (by kernel_rfl) (by rfl) (by rfl) (by simp [zq]) (fun C hpin hfull => ?_)
 simp +decide only [Tryz.f220, hpin, go_sem, reduceAdd, reduceMul]
 cases h20 : k == 20 with
 | true =>
   have hr : yD k i j = ZT j := by simp [yD, h20]
   simp +decide only [h20, hpin, go_sem, reduceAdd, reduceMul]
   refine zd (zgG j) hpin ?_
   simp +decide only [hr, hpin, go_sem, reduceAdd, reduceMul]
 | false =>
 simp +decide only [h20, hpin, go_sem, reduceAdd, reduceMul]
 cases h16 : k == 16 with
 | true =>
   simp +decide only [h16, hpin, go_sem, reduceAdd, reduceMul]
   by_cases hi : 0 < i
   · have hr : yD k i j = (j == 20) := by simp [yD, h20, h16, hi]
     have hi2 : (0 < i) = True := eq_true hi
     simp +decide only [hi2, hr, hpin, go_sem, reduceAdd, reduceMul]
   · have h19 : (k == 19) = false := by rw [show k = 16 by simpa using h16]; decide
     have hr : yD k i j = yV j := by simp [yD, h20, h16, h19, hi]
     have hi2 : (0 < i) = False := eq_false hi
     simp +decide only [hi2, h19, hpin, go_sem, reduceAdd, reduceMul]
     refine zd (YO j) hpin ?_
     simp +decide only [hr, hpin, go_sem, reduceAdd, reduceMul]
 | false =>
 simp +decide only [h16, hpin, go_sem, reduceAdd, reduceMul]
 cases h17 : k == 17 with
 | true =>
   simp +decide only [h17, hpin, go_sem, reduceAdd, reduceMul]
   by_cases hi : 0 < i
   · have hr : yD k i j = (j == 20) := by simp [yD, h20, h17, hi]
     have hi2 : (0 < i) = True := eq_true hi
     simp +decide only [hi2, hr, hpin, go_sem, reduceAdd, reduceMul]
   · have h19 : (k == 19) = false := by rw [show k = 17 by simpa using h17]; decide
     have hr : yD k i j = yV j := by simp [yD, h20, h17, h19, hi]
     have hi2 : (0 < i) = False := eq_false hi
     simp +decide only [hi2, h19, hpin, go_sem, reduceAdd, reduceMul]
     refine zd (YO j) hpin ?_
     simp +decide only [hr, hpin, go_sem, reduceAdd, reduceMul]
 | false =>
 simp +decide only [h17, hpin, go_sem, reduceAdd, reduceMul]
 cases h19 : k == 19 with
 | true =>
   have hr : yD k i j = (j == 12) := by simp [yD, h20, h16, h17, h19]
   simp +decide only [h19, hr, hpin, go_sem, reduceAdd, reduceMul]
 | false =>
 have hr : yD k i j = yV j := by simp [yD, h20, h16, h17, h19]
 simp +decide only [h19, hpin, go_sem, reduceAdd, reduceMul]
 refine zd (YO j) hpin ?_
 simp +decide only [hr, hpin, go_sem, reduceAdd, reduceMul]
theorem zjz (k i j : Int) : zB Tryz.prog 217 [.ro (.sc (.int .i64 k)), .ro (.sc (.int .i64 i)), .ro (.sc (.int .i64 j))] (fun rs st => rs = [(false, [cB (yD k i j)])]) := by
 refine zn (fn := Tryz.f217) (c := Tryz.f217.body.getD .skip) (res := [.tm 6]) (n := 25) ze (by kernel_rfl) (by rfl) (by kernel_rfl) (by rfl) (by rfl) (by simp [zq]) (fun C hpin hfull => ?_)
 simp +decide only [Tryz.f217, hpin, go_sem, reduceAdd, reduceMul]
 cases h20 : k == 20 with
 | true =>
   have hr : yD k i j = ZT j := by simp [yD, h20]
   simp +decide only [h20, hpin, go_sem, reduceAdd, reduceMul]
   refine zd (zgF j) hpin ?_
   simp +decide only [hr, hpin, go_sem, reduceAdd, reduceMul]
 | false =>
 simp +decide only [h20, hpin, go_sem, reduceAdd, reduceMul]
 cases h16 : k == 16 with
 | true =>
   simp +decide only [h16, hpin, go_sem, reduceAdd, reduceMul]
   by_cases hi : 0 < i
   · have hr : yD k i j = (j == 20) := by simp [yD, h20, h16, hi]
     have hi2 : (0 < i) = True := eq_true hi
     simp +decide only [hi2, hr, hpin, go_sem, reduceAdd, reduceMul]
   · have h19 : (k == 19) = false := by rw [show k = 16 by simpa using h16]; decide
     have hr : yD k i j = yV j := by simp [yD, h20, h16, h19, hi]
     have hi2 : (0 < i) = False := eq_false hi
     simp +decide only [hi2, h19, hpin, go_sem, reduceAdd, reduceMul]
     refine zd (YN j) hpin ?_
     simp +decide only [hr, hpin, go_sem, reduceAdd, reduceMul]
 | false =>
 simp +decide only [h16, hpin, go_sem, reduceAdd, reduceMul]
 cases h17 : k == 17 with
 | true =>
   simp +decide only [h17, hpin, go_sem, reduceAdd, reduceMul]
   by_cases hi : 0 < i
   · have hr : yD k i j = (j == 20) := by simp [yD, h20, h17, hi]
     have hi2 : (0 < i) = True := eq_true hi
     simp +decide only [hi2, hr, hpin, go_sem, reduceAdd, reduceMul]
   · have h19 : (k == 19) = false := by rw [show k = 17 by simpa using h17]; decide
     have hr : yD k i j = yV j := by simp [yD, h20, h17, h19, hi]
     have hi2 : (0 < i) = False := eq_false hi
     simp +decide only [hi2, h19, hpin, go_sem, reduceAdd, reduceMul]
     refine zd (YN j) hpin ?_
     simp +decide only [hr, hpin, go_sem, reduceAdd, reduceMul]
 | false =>
 simp +decide only [h17, hpin, go_sem, reduceAdd, reduceMul]
 cases h19 : k == 19 with
 | true =>
   have hr : yD k i j = (j == 12) := by simp [yD, h20, h16, h17, h19]
   simp +decide only [h19, hr, hpin, go_sem, reduceAdd, reduceMul]
 | false =>
 have hr : yD k i j = yV j := by simp [yD, h20, h16, h17, h19]
 simp +decide only [h19, hpin, go_sem, reduceAdd, reduceMul]
 refine zd (YN j) hpin ?_
 simp +decide only [hr, hpin, go_sem, reduceAdd, reduceMul]
def nd0 : NodeD := ⟨0, 0, ⟨#[]⟩, []⟩
def nAt (nodes : List NodeD) (j : Int) : NodeD := nodes.getD j.toNat nd0
theorem xY {nodes : List NodeD} {j : Int} (h : j.toNat < nodes.length) : nAt nodes j = nodes[j.toNat] := by simp [nAt, List.getD, h]
theorem zI {nodes : List NodeD} {n : Nat} (h : n < nodes.length) : nAt nodes (n : Int) = nodes[n] := by simp [nAt, List.getD, h]
def kidB (nodes : List NodeD) (k : Int) (x : NodeD) (i : Nat) : Bool := inI (x.kids.getD i 0) 0 (k - 1) && (!(x.kids.take i).contains (x.kids.getD i 0) && yD x.kind i (nAt nodes (x.kids.getD i 0)).kind)
def zdM (x : NodeD) : Bool := if x.kind == 1 then inI x.num 0 1000000000 else x.num == 0
def YL (x : NodeD) : Bool := if yo x.kind then ZM x.name else decide (x.name = ⟨#[]⟩)
def zG (f : Nat -> Bool) (n : Nat) : Bool := (List.range n).all f
theorem zM (f : Nat -> Bool) (n : Nat) : zG f (n + 1) = (zG f n && f n) := by simp [zG, List.range_succ]
theorem zy {f : Nat -> Bool} {n i : Nat} (h : i < n) (hf : f i = false) : zG f n = false := by
 unfold zG; rw [List.all_eq_false]; exact ⟨i, List.mem_range.2 h, by simp [hf]⟩
theorem yN {f : Nat -> Bool} {n : Nat} : zG f n = true ↔ ∀ i, i < n -> f i = true := by
 unfold zG; rw [List.all_eq_true]; exact ⟨fun h i hi => h i (List.mem_range.2 hi), fun h i hi => h i (List.mem_range.1 hi)⟩
def zbA (nodes : List NodeD) (k : Int) (x : NodeD) : Bool := inI x.kind 1 20 && (inI x.kids.length (zA x.kind).1 (zA x.kind).2 && (zdM x && (YL x && zG (kidB nodes k x) x.kids.length)))
def YV (nodes : List NodeD) (k : Int) : Bool := inI k 0 (nodes.length - 1) && zbA nodes k (nAt nodes k)
theorem zu {n a b : Int} (h : inI n a b = true) : a <= n /\ n <= b := by simpa [inI] using h
theorem zrO {α : Type} (l : List α) : List.drop (Int.toNat 0) l = l := rfl
attribute [go_sem] zrO
theorem zra (l : List Int) {i : Nat} (h : i <= l.length) : (row1 cI l).take i = row1 cI (l.take i) := by simp [row1, List.map_take]
theorem zjj (nodes : List NodeD) (k : Int) (hn : nodes.length <= 1048576) (hk : ∀ x ∈ nodes, x.kids.length <= 1048576) : zB Tryz.prog 212 [.ro (.imm 83 (rows (zg true) nodes)), .ro (.sc (.int .i64 k))] (fun rs st => rs = [(false, [cB (YV nodes k)])]) := by
 refine zt (fn := Tryz.f212) (c := Tryz.f212.body.getD .skip) (res := [.tm 4]) (n := 101) ze (by kernel_rfl) (by rfl) (by kernel_rfl) (by rfl) (by rfl) (by simp [zq]) (fun uf ub C hpin hpin2 hfull => ?_)
 simp only [Tryz.f212, Option.getD_some]
 have w1 : IntKind.i64.wrap ((nodes.length : Int) - 1) = (nodes.length : Int) - 1 := w64 (by omega) (by omega)
 refine Tri.step ze ?_
 simp +decide only [hpin, go_sem, reduceAdd, reduceMul]
 refine Tri.step ze ?_
 simp +decide only [w1, hpin, go_sem, reduceAdd, reduceMul]
 refine zd (in' k 0 (nodes.length - 1)) hpin ?_
 simp +decide only [hpin, go_sem, reduceAdd, reduceMul]
 unfold YV
 cases h0 : inI k 0 (nodes.length - 1) with
 | false => simp +decide only [hpin, go_sem, reduceAdd, reduceMul]
 | true =>
 have hr := zu h0
 obtain ⟨n, rfl⟩ : ∃ n : Nat, k = n := ⟨k.toNat, by omega⟩
 have hnl : n < nodes.length := by omega
 rw [zI hnl, Bool.true_and]
 have hkx := hk nodes[n] (List.getElem_mem hnl)
 generalize hx : nodes[n] = x at hkx
 have hc1 : ((n : Int) < (nodes.length : Int)) = True := eq_true (by omega)
 simp +decide only [hpin, go_sem, reduceAdd, reduceMul]
 refine Tri.step ze ?_
 simp +decide only [hc1, zi _ _ hnl, hx, Int.natCast_nonneg, zg, hpin, go_sem, reduceAdd, reduceMul]
 refine Tri.ent ?_ (Ent.frb hfull 5)
 refine Tri.step ze ?_
 simp +decide only [hpin, go_sem, reduceAdd, reduceMul]
 refine zd (zhu x.kind) hpin ?_
 simp +decide only [hpin, go_sem, reduceAdd, reduceMul]
 refine Tri.step ze ?_
 simp +decide only [hpin, go_sem, reduceAdd, reduceMul]
 refine zd (in' x.kind 1 20) hpin ?_
 simp +decide only [hpin, go_sem, reduceAdd, reduceMul]
 unfold zbA
 cases h1 : inI x.kind 1 20 with
 | false => simp +decide only [hpin, go_sem, reduceAdd, reduceMul]
 | true =>
 simp +decide only [hpin, go_sem, reduceAdd, reduceMul]
 refine zd (in' x.kids.length (zA x.kind).1 (zA x.kind).2) hpin ?_
 simp +decide only [hpin, go_sem, reduceAdd, reduceMul]
 cases h2 : inI x.kids.length (zA x.kind).1 (zA x.kind).2 with
 | false => simp +decide only [hpin, go_sem, reduceAdd, reduceMul]
 | true =>
 simp +decide only [hpin, go_sem, reduceAdd, reduceMul]
 refine Tri.step ze ?_
 simp +decide only [hpin, go_sem, reduceAdd, reduceMul]
 refine Tri.loop (ι := Nat) (fun i => i <= x.kids.length /\ zG (kidB nodes n x) i = true) (fun i => ⟨101, [(0, .imm 83 (rows (zg true) nodes)), (1, vI n), (4, vB false), (5, .ip (zg true x) 0), (40, roI x.kids), (41, vI x.kids.length), (42, vI i)], []⟩) (fun i => x.kids.length - i) 0 ⟨by simp, rfl⟩ ?_ ?_
 · refine Ent.weak ?_ ?_ ?_ ?_ <;> simp +decide [subT, subB, zl, zk, zo, St.get, look, vI, vB, vS, cI, cS, cB, zg, roI]
 · rintro i ⟨hi, hq⟩
   refine zf ze _ ?_
   by_cases h' : i < x.kids.length
   · have e : ((i : Int) < (x.kids.length : Int)) = True := by simp [h']
     have w2 : IntKind.i64.wrap ((n : Int) - 1) = (n : Int) - 1 := w64 (by omega) (by omega)
     have hg : x.kids.getD i 0 = x.kids[i] := by simp [List.getD, h']
     simp +decide only [e, zr _ _ h', Int.natCast_nonneg, vB, vI, zg, hpin, go_sem, reduceAdd, reduceMul]
     refine Tri.sched ze [(0, true), (1, false), (2, false), (3, false), (4, false), (5, false), (6, true), (8, true), (10, true), (7, false), (9, false), (11, false), (12, false), (13, false), (14, true), (16, true), (17, true), (18, true), (19, true), (20, true), (15, true), (21, false), (22, false), (23, false), (24, false)] zL (by kernel_rfl) (fun C2 hC2 => ?_)
     have hp2 := zN hC2 hpin
     simp +decide only [w2, hp2, go_sem, reduceAdd, reduceMul]
     refine zd (in' x.kids[i] 0 (n - 1)) hp2 ?_
     simp +decide only [hp2, go_sem, reduceAdd, reduceMul]
     have hkb : kidB nodes n x i = (inI x.kids[i] 0 (n - 1) && (!(x.kids.take i).contains x.kids[i] && yD x.kind i (nAt nodes x.kids[i]).kind)) := by simp only [kidB, hg]
     cases h3 : inI x.kids[i] 0 (n - 1) with
     | false =>
       have hf : zG (kidB nodes n x) x.kids.length = false := zy h' (by rw [hkb, h3]; rfl)
       simp +decide only [hf, hp2, go_sem, reduceAdd, reduceMul]
     | true =>
     have hr3 := zu h3
     have hkn : x.kids[i].toNat < nodes.length := by omega
     have z0 : (0 <= x.kids[i]) = True := eq_true hr3.1
     have z1 : (x.kids[i] < (nodes.length : Int)) = True := eq_true (by omega)
     have z2 : ((i : Int) <= (x.kids.length : Int)) = True := eq_true (by omega)
     rw [h3, Bool.true_and] at hkb
     simp +decide only [z0, z1, z2, h', zra x.kids (Nat.le_of_lt h'), Int.natCast_nonneg, hp2, go_sem, reduceAdd, reduceMul]
     refine zd (zcI (x.kids.take i) x.kids[i] (by simp; omega)) hp2 ?_
     simp +decide only [z0, z1, z2, h', Int.natCast_nonneg, hp2, go_sem, reduceAdd, reduceMul]
     cases h4 : (x.kids.take i).contains x.kids[i] with
     | true =>
       have hf : zG (kidB nodes n x) x.kids.length = false := zy h' (by rw [hkb, h4]; rfl)
       simp +decide only [hf, hp2, go_sem, reduceAdd, reduceMul]
     | false =>
     rw [h4, xY hkn] at hkb
     simp only [Bool.not_false, Bool.true_and] at hkb
     simp +decide only [z0, z1, z2, h', zi _ _ hkn, zg, Int.natCast_nonneg, hp2, go_sem, reduceAdd, reduceMul]
     refine zd (zjA x.kind i nodes[x.kids[i].toNat].kind) hp2 ?_
     simp +decide only [hp2, go_sem, reduceAdd, reduceMul]
     cases h5 : yD x.kind i nodes[x.kids[i].toNat].kind with
     | false =>
       have hf : zG (kidB nodes n x) x.kids.length = false := zy h' (by rw [hkb, h5])
       simp +decide only [hf, hp2, go_sem, reduceAdd, reduceMul]
     | true =>
     simp +decide only [hp2, go_sem, reduceAdd, reduceMul]
     refine ⟨i + 1, ⟨h', by rw [zM, hq, hkb, h5]; rfl⟩, by omega, Ent.weak ?_ ?_ ?_ ?_⟩
     all_goals simp +decide [subT, subB, zl, zk, zo, St.get, look, vI, vB, vS, cI, cS, cB, zg, roI, w64s (n := x.kids.length) h' (by omega)]
   · have hil : i = x.kids.length := by omega
     subst hil
     have e : ((x.kids.length : Int) < (x.kids.length : Int)) = False := by simp
     rw [hq, Bool.and_true]
     simp +decide only [e, vB, vI, zg, hpin, go_sem, reduceAdd, reduceMul]
     refine Tri.step ze ?_
     simp +decide only [hpin, go_sem, reduceAdd, reduceMul]
     unfold zdM
     cases h6 : x.kind == 1 with
     | true =>
       simp +decide only [h6, hpin, go_sem, reduceAdd, reduceMul]
       refine zd (in' x.num 0 1000000000) hpin ?_
       simp +decide only [hpin, go_sem, reduceAdd, reduceMul]
       cases h7 : inI x.num 0 1000000000 with
       | false => simp +decide only [bne, h6, hpin, go_sem, reduceAdd, reduceMul]
       | true =>
         simp +decide only [bne, h6, hpin, go_sem, reduceAdd, reduceMul]
         refine zf ze _ ?_
         simp +decide only [hpin, go_sem, reduceAdd, reduceMul]
         refine zd (zaP x.kind) hpin ?_
         simp +decide only [hpin, go_sem, reduceAdd, reduceMul]
         cases h8 : yo x.kind with
         | true =>
           have hnm : YL x = ZM x.name := by simp [YL, h8]
           simp +decide only [hpin, go_sem, reduceAdd, reduceMul]
           refine zd (xf x.name) hpin ?_
           simp +decide only [hnm, hpin, go_sem, reduceAdd, reduceMul]
         | false =>
           have hnm : YL x = decide (x.name = ⟨#[]⟩) := by simp [YL, h8]
           simp +decide only [hnm, hpin, go_sem, reduceAdd, reduceMul]
     | false =>
       simp +decide only [h6, bne, hpin, go_sem, reduceAdd, reduceMul]
       cases h7 : x.num == 0 with
       | false => simp +decide only [h7, hpin, go_sem, reduceAdd, reduceMul]
       | true =>
         simp +decide only [h7, hpin, go_sem, reduceAdd, reduceMul]
         refine zf ze _ ?_
         simp +decide only [hpin, go_sem, reduceAdd, reduceMul]
         refine zd (zaP x.kind) hpin ?_
         simp +decide only [hpin, go_sem, reduceAdd, reduceMul]
         cases h8 : yo x.kind with
         | true =>
           have hnm : YL x = ZM x.name := by simp [YL, h8]
           simp +decide only [hpin, go_sem, reduceAdd, reduceMul]
           refine zd (xf x.name) hpin ?_
           simp +decide only [hnm, hpin, go_sem, reduceAdd, reduceMul]
         | false =>
           have hnm : YL x = decide (x.name = ⟨#[]⟩) := by simp [YL, h8]
           simp +decide only [hnm, hpin, go_sem, reduceAdd, reduceMul]
theorem znY (x : NodeD) : (!inI x.num 0 1000000000 || (bne x.kind 1 && bne x.num 0)) = !zdM x := by
 unfold zdM
 cases h : x.kind == 1 with
 | true => simp [bne, h]
 | false =>
   simp only [bne, h, Bool.not_false, Bool.true_and, Bool.false_eq_true, if_false]
   cases h2 : x.num == 0 with
   | true => have : x.num = 0 := by simpa using h2
             rw [this]; decide
   | false => simp
theorem zmy : ZM ⟨#[]⟩ = false := by decide
theorem zoc (x : NodeD) : YL x = (yo x.kind == !decide (x.name = ⟨#[]⟩) && (decide (x.name = ⟨#[]⟩) || ZM x.name)) := by
 unfold YL
 by_cases h : x.name = ⟨#[]⟩
 · rw [h]; cases yo x.kind <;> simp [zmy]
 · cases yo x.kind <;> simp [h]
theorem zfk (l : List Int) (i : Nat) (hi : i < l.length) : (l.take i).contains l[i] = !zG (fun j => !(l.getD i 0 == l.getD j 0)) i := by
 rw [Bool.eq_iff_iff]
 simp only [List.contains_iff_mem, Bool.not_eq_true', List.mem_take_iff_getElem]
 constructor
 · rintro ⟨j, hj, he⟩
   have hj2 : j < i := by omega
   exact zy hj2 (by simp [List.getD, hi, show j < l.length by omega, he])
 · intro h
   unfold zG at h
   rw [List.all_eq_false] at h
   obtain ⟨j, hj, hb⟩ := h
   have hj2 := List.mem_range.1 hj
   refine ⟨j, by omega, ?_⟩
   simp [List.getD, hi, show j < l.length by omega] at hb
   exact hb.symm
theorem zjh (nodes : List NodeD) (k : Int) (hn : nodes.length <= 1048576) (hk : ∀ x ∈ nodes, x.kids.length <= 1048576) : zB Tryz.prog 210 [.ro (.imm 83 (rows (zg true) nodes)), .ro (.sc (.int .i64 k))] (fun rs st => rs = [(false, [cB (YV nodes k)])]) := by
 refine zt (fn := Tryz.f210) (c := Tryz.f210.body.getD .skip) (res := [.tm 4]) (n := 124) ze (by kernel_rfl) (by rfl) (by kernel_rfl) (by rfl) (by rfl) (by simp [zq]) (fun uf ub C hpin hpin2 hfull => ?_)
 simp only [Tryz.f210, Option.getD_some]
 have w1 : IntKind.i64.wrap ((nodes.length : Int) - 1) = (nodes.length : Int) - 1 := w64 (by omega) (by omega)
 refine Tri.step ze ?_
 simp +decide only [hpin, go_sem, reduceAdd, reduceMul]
 refine Tri.step ze ?_
 simp +decide only [w1, hpin, go_sem, reduceAdd, reduceMul]
 refine zd (yC k 0 (nodes.length - 1)) hpin ?_
 simp +decide only [hpin, go_sem, reduceAdd, reduceMul]
 unfold YV
 cases h0 : inI k 0 (nodes.length - 1) with
 | false => simp +decide only [hpin, go_sem, reduceAdd, reduceMul]
 | true =>
 have hr := zu h0
 obtain ⟨n, rfl⟩ : ∃ n : Nat, k = n := ⟨k.toNat, by omega⟩
 have hnl : n < nodes.length := by omega
 rw [zI hnl, Bool.true_and]
 have hkx := hk nodes[n] (List.getElem_mem hnl)
 generalize hx : nodes[n] = x at hkx
 have hc1 : ((n : Int) < (nodes.length : Int)) = True := eq_true (by omega)
 simp +decide only [hc1, zi _ _ hnl, hx, Int.natCast_nonneg, zg, hpin, go_sem, reduceAdd, reduceMul]
 refine zd (yC x.kind 1 20) hpin ?_
 simp +decide only [hpin, go_sem, reduceAdd, reduceMul]
 unfold zbA
 cases h1 : inI x.kind 1 20 with
 | false => simp +decide only [hpin, go_sem, reduceAdd, reduceMul]
 | true =>
 simp +decide only [hpin, go_sem, reduceAdd, reduceMul]
 refine Tri.step ze ?_
 simp +decide only [hc1, zi _ _ hnl, hx, Int.natCast_nonneg, zg, hpin, go_sem, reduceAdd, reduceMul]
 refine Tri.ent ?_ (Ent.frb hfull 5)
 refine Tri.step ze ?_
 simp +decide only [hpin, go_sem, reduceAdd, reduceMul]
 refine zd (zht x.kind) hpin ?_
 simp +decide only [hpin, go_sem, reduceAdd, reduceMul]
 have hno := znY x
 cases h2 : inI x.kids.length (zA x.kind).1 (zA x.kind).2 with
 | false =>
   refine Tri.step ze ?_
   simp +decide only [hpin, go_sem, reduceAdd, reduceMul]
   refine zd (yC x.kids.length (zA x.kind).1 (zA x.kind).2) hpin ?_
   simp +decide only [h2, hpin, go_sem, reduceAdd, reduceMul]
 | true =>
 rw [Bool.true_and]
 cases hq : zdM x with
 | false =>
   rw [hq] at hno
   refine Tri.step ze ?_
   simp +decide only [hpin, go_sem, reduceAdd, reduceMul]
   refine zd (yC x.kids.length (zA x.kind).1 (zA x.kind).2) hpin ?_
   simp +decide only [h2, hpin, go_sem, reduceAdd, reduceMul]
   refine zd (yC x.num 0 1000000000) hpin ?_
   simp +decide only [hpin, go_sem, reduceAdd, reduceMul]
   cases h3 : inI x.num 0 1000000000 with
   | false => simp +decide only [hpin, go_sem, reduceAdd, reduceMul]
   | true =>
     rw [h3] at hno
     cases h4 : x.kind == 1 with
     | true => simp [bne, h4] at hno
     | false =>
       simp +decide only [h4, bne, hpin, go_sem, reduceAdd, reduceMul]
       cases h5 : x.num == 0 with
       | true => simp [bne, h5] at hno
       | false => simp +decide only [h5, hpin, go_sem, reduceAdd, reduceMul]
 | true =>
 rw [Bool.true_and]
 rw [hq] at hno
 refine Tri.stop ze ⟨124, [(0, .imm 83 (rows (zg true) nodes)), (1, vI n), (4, vB false), (5, .ip (zg true x) 0)], []⟩ ?_ ?_
 · simp +decide only [hpin, go_sem, reduceAdd, reduceMul]
   refine zd (yC x.kids.length (zA x.kind).1 (zA x.kind).2) hpin ?_
   simp +decide only [h2, hpin, go_sem, reduceAdd, reduceMul]
   refine zd (yC x.num 0 1000000000) hpin ?_
   simp +decide only [hpin, go_sem, reduceAdd, reduceMul]
   cases h3 : inI x.num 0 1000000000 with
   | false => simp [h3] at hno
   | true =>
     rw [h3] at hno
     simp +decide only [hpin, go_sem, reduceAdd, reduceMul]
     cases h4 : x.kind == 1 with
     | true =>
       simp +decide only [h4, bne, hpin, go_sem, reduceAdd, reduceMul]
       refine Ent.weak ?_ ?_ ?_ ?_ <;> simp +decide [subT, subB, zl, zk, zo, St.get, look, vI, vB, vS, cI, cS, cB, zg, roI]
     | false =>
       simp +decide only [h4, bne, hpin, go_sem, reduceAdd, reduceMul]
       cases h5 : x.num == 0 with
       | false => simp [bne, h4, h5] at hno
       | true =>
         simp +decide only [h5, hpin, go_sem, reduceAdd, reduceMul]
         refine Ent.weak ?_ ?_ ?_ ?_ <;> simp +decide [subT, subB, zl, zk, zo, St.get, look, vI, vB, vS, cI, cS, cB, zg, roI]
 have hna := zoc x
 cases hq2 : YL x with
 | false =>
   rw [hq2] at hna
   rw [Bool.false_and]
   refine Tri.step ze ?_
   simp +decide only [vB, vI, zg, hpin, go_sem, reduceAdd, reduceMul]
   refine Tri.sched ze [(0, true), (3, true), (1, true), (4, true), (5, true), (2, false), (6, false), (7, false), (8, false), (9, false), (10, false), (11, false), (12, false), (13, false), (14, false), (15, false), (16, false), (17, false)] zL (by kernel_rfl) (fun C2 hC2 => ?_)
   have hp2 := zN hC2 hpin
   simp +decide only [hp2, go_sem, reduceAdd, reduceMul]
   refine zd (zdT x.kind) hp2 ?_
   simp +decide only [bne, hp2, go_sem, reduceAdd, reduceMul]
   cases h3 : yo x.kind == !decide (x.name = ⟨#[]⟩) with
   | false => simp +decide only [h3, hp2, go_sem, reduceAdd, reduceMul]
   | true =>
     rw [h3, Bool.true_and] at hna
     simp +decide only [h3, hp2, go_sem, reduceAdd, reduceMul]
     by_cases h4 : x.name = ⟨#[]⟩
     · simp [h4] at hna
     · have h40 : decide (x.name = ⟨#[]⟩) = false := decide_eq_false h4
       rw [h40, Bool.false_or] at hna
       simp +decide only [h40, hp2, go_sem, reduceAdd, reduceMul]
       refine zd (Zx x.name) hp2 ?_
       simp +decide only [<- hna, hp2, go_sem, reduceAdd, reduceMul]
 | true =>
 rw [hq2] at hna
 rw [Bool.true_and]
 refine Tri.stop ze ⟨124, [(0, .imm 83 (rows (zg true) nodes)), (1, vI n), (4, vB false), (5, .ip (zg true x) 0)], []⟩ ?_ ?_
 · simp +decide only [vB, vI, zg, hpin, go_sem, reduceAdd, reduceMul]
   refine Tri.sched ze [(0, true), (3, true), (1, true), (4, true), (5, true), (2, false), (6, false), (7, false), (8, false), (9, false), (10, false), (11, false), (12, false), (13, false), (14, false), (15, false), (16, false), (17, false)] zL (by kernel_rfl) (fun C2 hC2 => ?_)
   have hp2 := zN hC2 hpin
   simp +decide only [hp2, go_sem, reduceAdd, reduceMul]
   refine zd (zdT x.kind) hp2 ?_
   simp +decide only [bne, hp2, go_sem, reduceAdd, reduceMul]
   cases h3 : yo x.kind == !decide (x.name = ⟨#[]⟩) with
   | false => simp [h3] at hna
   | true =>
     rw [h3, Bool.true_and] at hna
     simp +decide only [h3, hp2, go_sem, reduceAdd, reduceMul]
     by_cases h4 : x.name = ⟨#[]⟩
     · simp +decide only [h4, hp2, go_sem, reduceAdd, reduceMul]
       refine Ent.weak ?_ ?_ ?_ ?_ <;> simp +decide [subT, subB, zl, zk, zo, St.get, look, vI, vB, vS, cI, cS, cB, zg, roI, h4]
     · have h40 : decide (x.name = ⟨#[]⟩) = false := decide_eq_false h4
       rw [h40, Bool.false_or] at hna
       simp +decide only [h40, hp2, go_sem, reduceAdd, reduceMul]
       refine zd (Zx x.name) hp2 ?_
       simp +decide only [<- hna, hp2, go_sem, reduceAdd, reduceMul]
       refine Ent.weak ?_ ?_ ?_ ?_ <;> simp +decide [subT, subB, zl, zk, zo, St.get, look, vI, vB, vS, cI, cS, cB, zg, roI]
 refine zf ze _ ?_
 simp +decide only [vB, vI, zg, hpin, go_sem, reduceAdd, reduceMul]
 refine Tri.loop (ι := Nat) (fun i => i <= x.kids.length /\ zG (kidB nodes n x) i = true) (fun i => ⟨124, [(0, .imm 83 (rows (zg true) nodes)), (1, vI n), (4, vB false), (5, .ip (zg true x) 0), (8, vI i)], []⟩) (fun i => x.kids.length - i) 0 ⟨by simp, rfl⟩ ?_ ?_
 · refine Ent.weak ?_ ?_ ?_ ?_ <;> simp +decide [subT, subB, zl, zk, zo, St.get, look, vI, vB, vS, cI, cS, cB, zg, roI]
 · rintro i ⟨hi, hq⟩
   refine zf ze _ ?_
   by_cases h' : i < x.kids.length
   · have e : ((i : Int) < (x.kids.length : Int)) = True := by simp [h']
     have w2 : IntKind.i64.wrap ((n : Int) - 1) = (n : Int) - 1 := w64 (by omega) (by omega)
     have hg : x.kids.getD i 0 = x.kids[i] := by simp [List.getD, h']
     have hkb : kidB nodes n x i = (inI x.kids[i] 0 (n - 1) && (!(x.kids.take i).contains x.kids[i] && yD x.kind i (nAt nodes x.kids[i]).kind)) := by simp only [kidB, hg]
     simp +decide only [e, zr _ _ h', Int.natCast_nonneg, vB, vI, zg, hpin, go_sem, reduceAdd, reduceMul]
     refine Tri.sched ze [(0, true), (2, true), (5, true), (6, true), (1, false), (3, false), (4, false), (7, false), (8, false), (9, false), (10, true), (12, true), (13, true), (14, true), (16, true), (11, true), (15, false), (17, false), (18, false), (19, false), (20, false), (21, false), (22, false), (23, false), (24, false)] zL (by kernel_rfl) (fun C2 hC2 => ?_)
     have hp2 := zN hC2 hpin
     simp +decide only [e, zr _ _ h', Int.natCast_nonneg, w2, hp2, go_sem, reduceAdd, reduceMul]
     refine zd (yC x.kids[i] 0 (n - 1)) hp2 ?_
     simp +decide only [hp2, go_sem, reduceAdd, reduceMul]
     cases h3 : inI x.kids[i] 0 (n - 1) with
     | false =>
       have hf : zG (kidB nodes n x) x.kids.length = false := zy h' (by rw [hkb, h3]; rfl)
       simp +decide only [hf, hp2, go_sem, reduceAdd, reduceMul]
     | true =>
     have hr3 := zu h3
     have hkn : x.kids[i].toNat < nodes.length := by omega
     have z0 : (0 <= x.kids[i]) = True := eq_true hr3.1
     have z1 : (x.kids[i] < (nodes.length : Int)) = True := eq_true (by omega)
     rw [h3, Bool.true_and, xY hkn] at hkb
     simp +decide only [e, zr _ _ h', z0, z1, h', zi _ _ hkn, zg, Int.natCast_nonneg, hp2, go_sem, reduceAdd, reduceMul]
     refine zd (zjz x.kind i nodes[x.kids[i].toNat].kind) hp2 ?_
     simp +decide only [hp2, go_sem, reduceAdd, reduceMul]
     cases h5 : yD x.kind i nodes[x.kids[i].toNat].kind with
     | false =>
       have hf : zG (kidB nodes n x) x.kids.length = false := zy h' (by rw [hkb, h5, Bool.and_false])
       simp +decide only [hf, hp2, go_sem, reduceAdd, reduceMul]
     | true =>
     rw [h5, Bool.and_true, zfk x.kids i h', Bool.not_not] at hkb
     simp +decide only [hp2, go_sem, reduceAdd, reduceMul]
     refine Tri.loop (ι := Nat) (fun j => j <= i /\ zG (fun j => !(x.kids.getD i 0 == x.kids.getD j 0)) j = true) (fun j => ⟨124, [(0, .imm 83 (rows (zg true) nodes)), (1, vI n), (4, vB false), (5, .ip (zg true x) 0), (8, vI i), (9, vI j)], []⟩) (fun j => i - j) 0 ⟨by simp, rfl⟩ ?_ ?_
     · refine Ent.weak ?_ ?_ ?_ ?_ <;> simp +decide [subT, subB, zl, zk, zo, St.get, look, vI, vB, vS, cI, cS, cB, zg, roI]
     · rintro j ⟨hj, hq2⟩
       refine zf ze _ ?_
       by_cases hj' : j < i
       · have e2 : ((j : Int) < (i : Int)) = True := by simp [hj']
         have hjl : j < x.kids.length := by omega
         have e3 : ((j : Int) < (x.kids.length : Int)) = True := by simp [hjl]
         have hgj : x.kids.getD j 0 = x.kids[j] := by simp [List.getD, hjl]
         simp +decide only [e, e2, e3, zr _ _ h', zr _ _ hjl, Int.natCast_nonneg, vB, vI, zg, hpin, go_sem, reduceAdd, reduceMul]
         refine Tri.sched ze [(0, true), (2, true), (5, true), (7, true), (1, true), (3, true), (4, true), (6, false), (8, false), (9, false), (10, false)] zL (by kernel_rfl) (fun C2 hC2 => ?_)
         have hp2 := zN hC2 hpin
         simp +decide only [e, e2, e3, zr _ _ h', zr _ _ hjl, Int.natCast_nonneg, hp2, go_sem, reduceAdd, reduceMul]
         cases h6 : x.kids[i] == x.kids[j] with
         | true =>
           have hf : zG (kidB nodes n x) x.kids.length = false := zy h' (by rw [hkb]; exact zy hj' (by simp only [hg, hgj, h6]; rfl))
           simp +decide only [hf, hp2, go_sem, reduceAdd, reduceMul]
         | false =>
           simp +decide only [hp2, go_sem, reduceAdd, reduceMul]
           refine ⟨j + 1, ⟨hj', by rw [zM, hq2]; simp only [hg, hgj, h6]; rfl⟩, by omega, Ent.weak ?_ ?_ ?_ ?_⟩
           all_goals simp +decide [subT, subB, zl, zk, zo, St.get, look, vI, vB, vS, cI, cS, cB, zg, roI, w64s (n := x.kids.length) hjl (by omega)]
       · have hil : j = i := by omega
         subst hil
         have e2 : ((j : Int) < (j : Int)) = False := by simp
         simp +decide only [e2, vB, vI, zg, hpin, go_sem, reduceAdd, reduceMul]
         refine ⟨j + 1, ⟨h', by rw [zM, hq, hkb, hq2]; rfl⟩, by omega, Ent.weak ?_ ?_ ?_ ?_⟩
         all_goals simp +decide [subT, subB, zl, zk, zo, St.get, look, vI, vB, vS, cI, cS, cB, zg, roI, w64s (n := x.kids.length) h' (by omega)]
   · have hil : i = x.kids.length := by omega
     subst hil
     have e : ((x.kids.length : Int) < (x.kids.length : Int)) = False := by simp
     rw [hq]
     simp +decide only [e, vB, vI, zg, hpin, go_sem, reduceAdd, reduceMul]
def yH (l : List Int) (d : Int) (kids : List Int) : Int := kids.foldl (fun d kid => max d (l.getD kid.toNat 0 + 1)) d
def zbP (d : Int) : Int := if 10 < d then 0 else d
def zfi (nodes : List NodeD) (l : List Int) (n : Nat) : Int := if YV nodes n && (n == 0 || !(l.getD (n - 1) 0 == 0)) then zbP (yH l 1 (nAt nodes n).kids) else 0
def zD (nodes : List NodeD) : Nat -> List Int
 | 0 => []
 | n + 1 => zD nodes n ++ [zfi nodes (zD nodes n) n]
theorem yI (nodes : List NodeD) : ∀ n, (zD nodes n).length = n
 | 0 => rfl
 | n + 1 => by simp [zD, yI nodes n]
theorem Xi (nodes : List NodeD) {n i : Nat} (h : i < n) : (zD nodes n).getD i 0 = zfi nodes (zD nodes i) i := by
 induction n with
 | zero => omega
 | succ n ih =>
   simp only [zD, List.getD]
   by_cases hi : i < n
   · rw [List.getElem?_append_left (by rw [yI]; exact hi)]
     exact ih hi
   · have : i = n := by omega
     subst this
     rw [List.getElem?_append_right (by rw [yI]; omega), yI, Nat.sub_self]; rfl
theorem zbO (l : List Int) : ∀ (kids : List Int) (d : Int), d <= yH l d kids
 | [], d => Int.le_refl d
 | k :: r, d => by
   simp only [yH, List.foldl_cons]
   exact Int.le_trans (Int.le_max_left _ _) (zbO l r _)
theorem zcn (l kids : List Int) (d : Int) {i : Nat} (h : i < kids.length) : yH l d (kids.take (i + 1)) = max (yH l d (kids.take i)) (l.getD kids[i].toNat 0 + 1) := by
 rw [List.take_succ_eq_append_getElem h]; simp only [yH, List.foldl_append, List.foldl_cons, List.foldl_nil]
theorem zjI (nodes : List NodeD) (l : List Int) (n : Nat) : 0 <= zfi nodes l n /\ zfi nodes l n <= 10 := by
 unfold zfi
 split
 · have := zbO l (nAt nodes n).kids 1
   unfold zbP
   split <;> omega
 · omega
theorem zbh (nodes : List NodeD) (n i : Nat) : 0 <= (zD nodes n).getD i 0 /\ (zD nodes n).getD i 0 <= 10 := by
 by_cases h : i < n
 · rw [Xi nodes h]; exact zjI _ _ _
 · simp [List.getD, List.getElem?_eq_none (show (zD nodes n).length <= i by rw [yI]; omega)]
def dAt (nodes : List NodeD) (n : Nat) : Int := zfi nodes (zD nodes n) n
theorem zou (nodes : List NodeD) (n : Nat) (h : dAt nodes (n + 1) ≠ 0) : dAt nodes n ≠ 0 := by
 intro h0
 apply h
 have : (zD nodes (n + 1)).getD n 0 = 0 := by rw [Xi nodes (Nat.lt_succ_self n)]; exact h0
 unfold dAt zfi
 rw [Nat.add_sub_cancel, this]
 simp
theorem zax (nodes : List NodeD) : ∀ {n i : Nat}, i <= n -> dAt nodes n ≠ 0 -> dAt nodes i ≠ 0
 | 0, i, h, hd => by have : i = 0 := by omega
                     subst this; exact hd
 | n + 1, i, h, hd => by
   by_cases e : i = n + 1
   · subst e; exact hd
   · exact zax nodes (by omega) (zou nodes n hd)
def yJ (nodes : List NodeD) (k : Int) : Int := if inI k 0 (nodes.length - 1) then dAt nodes k.toNat else 0
theorem XD (nodes : List NodeD) (n : Nat) (h : dAt nodes n ≠ 0) : YV nodes n = true := by
 unfold dAt zfi at h
 cases hb : YV nodes n with
 | true => rfl
 | false => simp [hb] at h
theorem zpK (nodes : List NodeD) (n : Nat) (hb : YV nodes n = true) (hd : n = 0 \/ dAt nodes (n - 1) ≠ 0) : dAt nodes n = zbP (yH (zD nodes n) 1 (nAt nodes n).kids) := by
 unfold dAt zfi
 have : (n == 0 || !((zD nodes n).getD (n - 1) 0 == 0)) = true := by
   rcases hd with hd | hd
   · simp [hd]
   · by_cases h0 : n = 0
     · simp [h0]
     · rw [Xi nodes (show n - 1 < n by omega)]
       unfold dAt at hd
       simp [hd]
 rw [hb, this]; rfl
theorem zkq {nodes : List NodeD} {n : Nat} (hb : YV nodes n = true) : ∃ h : n < nodes.length, ∀ i (hi : i < nodes[n].kids.length), 0 <= nodes[n].kids[i] /\ nodes[n].kids[i] < n /\ nodes[n].kids[i].toNat < n := by
 unfold YV at hb
 simp only [Bool.and_eq_true] at hb
 have hr := zu hb.1
 have hl : n < nodes.length := by omega
 refine ⟨hl, fun i hi => ?_⟩
 have h2 := hb.2
 rw [zI hl] at h2
 unfold zbA at h2
 simp only [Bool.and_eq_true] at h2
 have h3 := yN.1 h2.2.2.2.2 i hi
 unfold kidB at h3
 simp only [Bool.and_eq_true] at h3
 have h4 := zu h3.1
 have hg : nodes[n].kids.getD i 0 = nodes[n].kids[i] := by simp [List.getD, hi]
 rw [hg] at h4
 omega
theorem maxI (a b : Int) : (if b > a then b else a) = max a b := by rw [Int.max_def]; split <;> split <;> omega
theorem yf {α : Type} (f : α -> D) (l : List α) {i : Nat} (h : i < l.length) : (row1 f l)[i]? = some [f l[i]] := by simp [row1, h]
def okD (nodes : List NodeD) (k : Int) : Bool := !(yJ nodes k == 0)
def okL (nodes : List NodeD) (k : Int) : List Int := if okD nodes k then zD nodes (k.toNat + 1) else []
theorem zit (nodes : List NodeD) (k : Int) (hn : nodes.length <= 1048576) (hk : ∀ x ∈ nodes, x.kids.length <= 1048576) : zB Tryz.prog 188 [.ro (.imm 83 (rows (zg true) nodes)), .ro (.sc (.int .i64 k))] (fun rs st => rs = [(false, [.row false 3 (row1 cI (okL nodes k))]), (false, [cB (okD nodes k)])]) := by
 refine zt (fn := Tryz.f188) (c := Tryz.f188.body.getD .skip) (res := [.tm 4, .tm 5]) (n := 51) ze (by kernel_rfl) (by rfl) (by kernel_rfl) (by rfl) (by rfl) (by simp [zq]) (fun uf ub C hpin hpin2 hfull => ?_)
 simp only [Tryz.f188, Option.getD_some]
 have w1 : IntKind.i64.wrap ((nodes.length : Int) - 1) = (nodes.length : Int) - 1 := w64 (by omega) (by omega)
 have e0 : row1 cI ([] : List Int) = [] := rfl
 refine Tri.step ze ?_
 simp +decide only [hpin, go_sem, reduceAdd, reduceMul]
 refine Tri.step ze ?_
 simp +decide only [w1, hpin, go_sem, reduceAdd, reduceMul]
 refine zd (in' k 0 (nodes.length - 1)) hpin ?_
 simp +decide only [hpin, go_sem, reduceAdd, reduceMul]
 cases h0 : inI k 0 (nodes.length - 1) with
 | false =>
   have hf : okD nodes k = false := by simp [okD, yJ, h0]
   have hf2 : okL nodes k = [] := by simp [okL, hf]
   simp +decide only [hf, hf2, e0, hpin, go_sem, reduceAdd, reduceMul]
 | true =>
 have hr := zu h0
 obtain ⟨n, rfl⟩ : ∃ n : Nat, k = n := ⟨k.toNat, by omega⟩
 have hnl : n < nodes.length := by omega
 have hdo : yJ nodes (n : Int) = dAt nodes n := by simp [yJ, h0]
 have bad : ∀ i, i <= n -> dAt nodes i = 0 -> okD nodes n = false /\ okL nodes n = [] := fun i hi hd => by
   have hz : dAt nodes n = 0 := Classical.byContradiction fun hne => zax nodes hi hne hd
   have hf : okD nodes n = false := by simp [okD, hdo, hz]
   exact ⟨hf, by simp [okL, hf]⟩
 simp +decide only [hpin, go_sem, reduceAdd, reduceMul]
 refine Tri.step ze ?_
 simp +decide only [hpin, go_sem, reduceAdd, reduceMul]
 refine Tri.step ze ?_
 simp +decide only [hpin, go_sem, reduceAdd, reduceMul]
 refine Tri.loop (ι := Nat) (fun i => i <= n + 1 /\ ∀ j, j < i -> dAt nodes j ≠ 0) (fun i => ⟨51, [(0, .imm 83 (rows (zg true) nodes)), (1, vI n), (6, .ref 6 [] i), (7, vI i)], [(6, .row 3 (row1 cI (zD nodes i)))]⟩) (fun i => n + 1 - i) 0 ⟨by simp, fun j hj => by omega⟩ ?_ ?_
 · refine Ent.weak ?_ ?_ ?_ ?_ <;> simp +decide [subT, subB, zl, zk, zo, St.get, look, vI, vB, vS, cI, cS, cB, zg, roI, zD, row1]
 · rintro i ⟨hi, hq⟩
   refine zf ze _ ?_
   have hlen := yI nodes i
   by_cases h' : i < n + 1
   · have e : ((i : Int) <= (n : Int)) = True := by simp; omega
     have hil : i < nodes.length := by omega
     have hc1 : ((i : Int) < (nodes.length : Int)) = True := eq_true (by omega)
     simp +decide only [e, vB, vI, hpin, go_sem, reduceAdd, reduceMul]
     refine zd (zjj nodes i hn hk) hpin ?_
     simp +decide only [hpin, go_sem, reduceAdd, reduceMul]
     cases hb : YV nodes i with
     | false =>
       obtain ⟨f1, f2⟩ := bad i (by omega) (Classical.byContradiction fun hne => by rw [XD nodes i hne] at hb; cases hb)
       simp +decide only [f1, f2, e0, hpin, go_sem, reduceAdd, reduceMul]
     | true =>
     obtain ⟨_, hkid⟩ := zkq hb
     have hv := zpK nodes i hb (by
       by_cases hz : i = 0
       · exact Or.inl hz
       · exact Or.inr (hq (i - 1) (by omega)))
     rw [zI hil] at hv
     have hkx := hk nodes[i] (List.getElem_mem hil)
     generalize hx : nodes[i] = x at hv hkid hkx
     simp +decide only [hc1, zi _ _ hil, hx, Int.natCast_nonneg, zg, hpin, go_sem, reduceAdd, reduceMul]
     refine Tri.loop (ι := Nat) (fun j => j <= x.kids.length) (fun j => ⟨51, [(0, .imm 83 (rows (zg true) nodes)), (1, vI n), (6, .ref 6 [] i), (7, vI i), (8, vI (yH (zD nodes i) 1 (x.kids.take j))), (30, roI x.kids), (31, vI x.kids.length), (32, vI j)], [(6, .row 3 (row1 cI (zD nodes i)))]⟩) (fun j => x.kids.length - j) 0 (by simp) ?_ ?_
     · refine Ent.weak ?_ ?_ ?_ ?_ <;> simp +decide [subT, subB, zl, zk, zo, St.get, look, vI, vB, vS, cI, cS, cB, zg, roI, yH]
     · rintro j hj
       refine zf ze _ ?_
       by_cases hj' : j < x.kids.length
       · have e2 : ((j : Int) < (x.kids.length : Int)) = True := by simp [hj']
         obtain ⟨q0, q1, q2⟩ := hkid j hj'
         have z0 : (0 <= x.kids[j]) = True := eq_true q0
         have z1 : (x.kids[j] < (i : Int)) = True := eq_true q1
         have z2 : x.kids[j].toNat < (zD nodes i).length := by rw [hlen]; exact q2
         have hg : (zD nodes i)[x.kids[j].toNat] = (zD nodes i).getD x.kids[j].toNat 0 := by simp [List.getD, z2]
         have hrg := zbh nodes i x.kids[j].toNat
         have w2 : IntKind.i64.wrap ((zD nodes i).getD x.kids[j].toNat 0 + 1) = (zD nodes i).getD x.kids[j].toNat 0 + 1 := w64 (by omega) (by omega)
         simp +decide only [e2, z0, z1, q2, hlen, zr _ _ hj', zr _ _ z2, yf _ _ z2, maxI, hg, w2, Int.natCast_nonneg, vB, vI, hpin, go_sem, reduceAdd, reduceMul]
         refine ⟨j + 1, hj', by omega, Ent.weak ?_ ?_ ?_ ?_⟩
         all_goals simp +decide [subT, subB, zl, zk, zo, St.get, look, vI, vB, vS, cI, cS, cB, zg, roI, w64s (n := x.kids.length) hj' (by omega), zcn, hj']
       · have hjl : j = x.kids.length := by omega
         subst hjl
         have e2 : ((x.kids.length : Int) < (x.kids.length : Int)) = False := by simp
         simp +decide only [e2, vB, vI, hpin, go_sem, reduceAdd, reduceMul]
         by_cases hd : 10 < yH (zD nodes i) 1 x.kids
         · have hd1 : (10 < yH (zD nodes i) 1 x.kids) = True := eq_true hd
           obtain ⟨f1, f2⟩ := bad i (by omega) (by rw [hv]; simp [zbP, hd])
           simp +decide only [hd1, f1, f2, e0, hpin, go_sem, reduceAdd, reduceMul]
         · have hd1 : (10 < yH (zD nodes i) 1 x.kids) = False := eq_false hd
           have hge := zbO (zD nodes i) x.kids 1
           have hvv : dAt nodes i = yH (zD nodes i) 1 x.kids := by rw [hv]; simp [zbP, hd]
           have hb1 : i + 1 <= 140737488355328 := by omega
           have hb2 : (i + 1) * 8 <= 140737488355328 := by omega
           have hds : zD nodes (i + 1) = zD nodes i ++ [yH (zD nodes i) 1 x.kids] := by rw [<- hvv]; rfl
           simp +decide only [hd1, hlen, hb1, hb2, hpin, go_sem, reduceAdd, reduceMul]
           refine ⟨i + 1, ⟨by omega, fun j hj => ?_⟩, by omega, Ent.weak ?_ ?_ ?_ ?_⟩
           · by_cases hji : j = i
             · subst hji; rw [hvv]; omega
             · exact hq j (by omega)
           all_goals simp +decide [subT, subB, zl, zk, zo, St.get, look, vI, vB, vS, cI, cS, cB, zg, roI, w64s (n := nodes.length) hil (by omega), hds, row1]
   · have hin : i = n + 1 := by omega
     subst hin
     have e : (((n + 1 : Nat) : Int) <= (n : Int)) = False := by simp; omega
     have hnz := hq n (by omega)
     have hf : okD nodes n = true := by simp [okD, hdo, hnz]
     have hf2 : okL nodes n = zD nodes (n + 1) := by simp [okL, hf]
     simp +decide only [e, hf, hf2, hlen, vB, vI, hpin, go_sem, reduceAdd, reduceMul]
     refine zf ze _ ?_
     simp +decide only [hlen, hpin, go_sem, reduceAdd, reduceMul]
theorem zbi (nodes : List NodeD) (k : Int) (hn : nodes.length <= 1048576) (hk : ∀ x ∈ nodes, x.kids.length <= 1048576) : zB Tryz.prog 148 [.ro (.imm 83 (rows (zg true) nodes)), .ro (.sc (.int .i64 k))] (fun rs st => rs = [(false, [cI (yJ nodes k)])]) := by
 refine zn (fn := Tryz.f148) (c := Tryz.f148.body.getD .skip) (res := [.tm 4]) (n := 19) ze (by kernel_rfl) (by rfl) (by kernel_rfl) (by rfl) (by rfl) (by simp [zq]) (fun C hpin hfull => ?_)
 simp +decide only [Tryz.f148, hpin, go_sem, reduceAdd, reduceMul]
 refine zd (zit nodes k hn hk) hpin ?_
 simp +decide only [hpin, go_sem, reduceAdd, reduceMul]
 cases hd : okD nodes k with
 | false =>
   have h0 : yJ nodes k = 0 := by simpa [okD] using hd
   simp +decide only [h0, hpin, go_sem, reduceAdd, reduceMul]
 | true =>
   have h0 : inI k 0 (nodes.length - 1) = true := by
     cases h : inI k 0 (nodes.length - 1) with
     | true => rfl
     | false => simp [okD, yJ, h] at hd
   have hr := zu h0
   obtain ⟨n, rfl⟩ : ∃ n : Nat, k = n := ⟨k.toNat, by omega⟩
   have hf2 : okL nodes n = zD nodes (n + 1) := by simp [okL, hd]
   have hl := yI nodes (n + 1)
   have hlt : n < (zD nodes (n + 1)).length := by omega
   have hg : (zD nodes (n + 1))[n] = yJ nodes n := by
     have := Xi nodes (show n < n + 1 by omega)
     simp only [List.getD, hlt, List.getElem?_eq_getElem, Option.getD_some] at this
     rw [this]; simp [yJ, h0, dAt]
   have hc : ((n : Int) < ((n + 1 : Nat) : Int)) = True := eq_true (by omega)
   simp +decide only [hf2, hl, hc, yf _ _ hlt, hg, Int.natCast_nonneg, hpin, go_sem, reduceAdd, reduceMul]
theorem zcO (nodes : List NodeD) (n : Nat) (hnl : n < nodes.length) (hn : nodes.length <= 1048576) (hk : ∀ x ∈ nodes, x.kids.length <= 1048576) : zB Tryz.prog 185 [.ro (.imm 83 (rows (zg true) nodes)), .ro (.sc (.int .i64 n))] (fun rs st => rs = [(false, [.row false 3 (row1 cI (zD nodes (n + 1)))])]) := by
 refine zt (fn := Tryz.f185) (c := Tryz.f185.body.getD .skip) (res := [.tm 4]) (n := 84) ze (by kernel_rfl) (by rfl) (by kernel_rfl) (by rfl) (by rfl) (by simp [zq]) (fun uf ub C hpin hpin2 hfull => ?_)
 simp only [Tryz.f185, Option.getD_some]
 refine Tri.step ze ?_
 simp +decide only [hpin, go_sem, reduceAdd, reduceMul]
 refine Tri.step ze ?_
 simp +decide only [hpin, go_sem, reduceAdd, reduceMul]
 refine Tri.step ze ?_
 simp +decide only [hpin, go_sem, reduceAdd, reduceMul]
 refine Tri.loop (ι := Nat) (fun i => i <= n + 1) (fun i => ⟨84, [(0, .imm 83 (rows (zg true) nodes)), (1, vI n), (5, .ref 5 [] i), (6, vI i)], [(5, .row 3 (row1 cI (zD nodes i)))]⟩) (fun i => n + 1 - i) 0 (by simp) ?_ ?_
 · refine Ent.weak ?_ ?_ ?_ ?_ <;> simp +decide [subT, subB, zl, zk, zo, St.get, look, vI, vB, vS, cI, cS, cB, zg, roI, zD, row1]
 · rintro i hi
   refine zf ze _ ?_
   have hlen := yI nodes i
   by_cases h' : i < n + 1
   · have e : ((i : Int) <= (n : Int)) = True := by simp; omega
     have hil : i < nodes.length := by omega
     have hc1 : ((i : Int) < (nodes.length : Int)) = True := eq_true (by omega)
     have hkx := hk nodes[i] (List.getElem_mem hil)
     have hb1 : i + 1 <= 140737488355328 := by omega
     have hb2 : (i + 1) * 8 <= 140737488355328 := by omega
     let g : Bool := YV nodes i && (i == 0 || !((zD nodes i).getD (i - 1) 0 == 0))
     have hds : zD nodes (i + 1) = zD nodes i ++ [bif g then zbP (yH (zD nodes i) 1 nodes[i].kids) else 0] := by
       simp only [zD, zfi, zI hil]
       show _ = zD nodes i ++ [bif (YV nodes i && (i == 0 || !((zD nodes i).getD (i - 1) 0 == 0))) then _ else _]
       cases (YV nodes i && (i == 0 || !((zD nodes i).getD (i - 1) 0 == 0))) <;> simp
     simp +decide only [e, hc1, vB, vI, hpin, go_sem, reduceAdd, reduceMul]
     refine zd (zjh nodes i hn hk) hpin ?_
     cases hb : YV nodes i with
     | false =>
       have hg : g = false := by simp [g, hb]
       by_cases hz : i = 0
       · have hz1 : (0 < (i : Int)) = False := eq_false (by omega)
         have hd0 : zD nodes i = [] := by rw [hz]; rfl
         have w3 : IntKind.i64.wrap ((i : Int) - 1) = -1 := by rw [hz]; decide
         have hr0 : row1 cI ([] : List Int) = [] := rfl
         simp +decide only [hz1, w3, hd0, hr0, Option.bind_none, hpin, go_sem, reduceAdd, reduceMul]
         rw [hg] at hds
         simp only [cond_false] at hds
         refine Tri.loop (ι := Unit) (fun _ => True) (fun _ => ⟨84, [(0, .imm 83 (rows (zg true) nodes)), (1, vI n), (5, .ref 5 [] i), (6, vI i), (7, vI 0), (8, vI 0)], [(5, .row 3 (row1 cI (zD nodes i)))]⟩) (fun _ => 0) () trivial ?_ ?_
         · refine Ent.weak ?_ ?_ ?_ ?_ <;> simp +decide [subT, subB, zl, zk, zo, St.get, look, vI, vB, vS, cI, cS, cB, zg, roI, hd0, row1]
         · rintro _ _
           refine zf ze _ ?_
           simp +decide only [vB, vI, hlen, hc1, hb1, hb2, zi _ _ hil, zg, Int.natCast_nonneg, hpin, go_sem, reduceAdd, reduceMul]
           refine ⟨i + 1, by omega, by omega, Ent.weak ?_ ?_ ?_ ?_⟩
           all_goals simp +decide [subT, subB, zl, zk, zo, St.get, look, vI, vB, vS, cI, cS, cB, zg, roI, w64s (n := nodes.length) hil (by omega), hds, row1]
       · have hz1 : (0 < (i : Int)) = True := eq_true (by omega)
         have w3 : IntKind.i64.wrap ((i : Int) - 1) = ((i - 1 : Nat) : Int) := by rw [w64 (by omega) (by omega)]; omega
         have z3 : i - 1 < (zD nodes i).length := by omega
         have z4 : (((i - 1 : Nat) : Int) < (i : Int)) = True := eq_true (by omega)
         have z5 : i - 1 < i := by omega
         simp +decide only [hz1, w3, z4, z5, hlen, yf _ _ z3, Int.natCast_nonneg, hpin, go_sem, reduceAdd, reduceMul]
         rw [hg] at hds
         simp only [cond_false] at hds
         refine Tri.loop (ι := Unit) (fun _ => True) (fun _ => ⟨84, [(0, .imm 83 (rows (zg true) nodes)), (1, vI n), (5, .ref 5 [] i), (6, vI i), (7, vI 0), (8, vI 0)], [(5, .row 3 (row1 cI (zD nodes i)))]⟩) (fun _ => 0) () trivial ?_ ?_
         · refine Ent.weak ?_ ?_ ?_ ?_ <;> simp +decide [subT, subB, zl, zk, zo, St.get, look, vI, vB, vS, cI, cS, cB, zg, roI]
         · rintro _ _
           refine zf ze _ ?_
           simp +decide only [vB, vI, hlen, hc1, hb1, hb2, zi _ _ hil, zg, Int.natCast_nonneg, hpin, go_sem, reduceAdd, reduceMul]
           refine ⟨i + 1, by omega, by omega, Ent.weak ?_ ?_ ?_ ?_⟩
           all_goals simp +decide [subT, subB, zl, zk, zo, St.get, look, vI, vB, vS, cI, cS, cB, zg, roI, w64s (n := nodes.length) hil (by omega), hds, row1]
     | true =>
     by_cases hz : i = 0
     · have hi0 : (i == 0) = true := by simp [hz]
       have hg : g = true := by simp only [g, hb, hi0]; rfl
       have hz1 : (0 < (i : Int)) = False := eq_false (by omega)
       have hd0 : zD nodes i = [] := by rw [hz]; rfl
       have w3 : IntKind.i64.wrap ((i : Int) - 1) = -1 := by rw [hz]; decide
       have hr0 : row1 cI ([] : List Int) = [] := rfl
       simp +decide only [hz1, w3, hd0, hr0, Option.bind_none, hpin, go_sem, reduceAdd, reduceMul]
       rw [hg] at hds
       simp only [cond_true] at hds
       obtain ⟨_, hkid⟩ := zkq hb
       generalize hx : nodes[i] = x at hds hkid hkx
       refine Tri.loop (ι := Nat) (fun j => j <= x.kids.length) (fun j => ⟨84, [(0, .imm 83 (rows (zg true) nodes)), (1, vI n), (5, .ref 5 [] i), (6, vI i), (7, vI (yH (zD nodes i) 1 (x.kids.take j))), (8, vI j)], [(5, .row 3 (row1 cI (zD nodes i)))]⟩) (fun j => x.kids.length - j) 0 (by simp) ?_ ?_
       · refine Ent.weak ?_ ?_ ?_ ?_ <;> simp +decide [subT, subB, zl, zk, zo, St.get, look, vI, vB, vS, cI, cS, cB, zg, roI, yH, hd0, row1]
       · rintro j hj
         refine zf ze _ ?_
         have hpos : (0 < yH (zD nodes i) 1 (x.kids.take j)) = True := eq_true (by have := zbO (zD nodes i) (x.kids.take j) 1; omega)
         by_cases hj' : j < x.kids.length
         · have e2 : ((j : Int) < (x.kids.length : Int)) = True := by simp [hj']
           obtain ⟨q0, q1, q2⟩ := hkid j hj'
           have z0 : (0 <= x.kids[j]) = True := eq_true q0
           have z1 : (x.kids[j] < (i : Int)) = True := eq_true q1
           have z2 : x.kids[j].toNat < (zD nodes i).length := by rw [hlen]; exact q2
           have hgg : (zD nodes i)[x.kids[j].toNat] = (zD nodes i).getD x.kids[j].toNat 0 := by simp [List.getD, z2]
           have hrg := zbh nodes i x.kids[j].toNat
           have w2 : IntKind.i64.wrap ((zD nodes i).getD x.kids[j].toNat 0 + 1) = (zD nodes i).getD x.kids[j].toNat 0 + 1 := w64 (by omega) (by omega)
           have htk := zcn (zD nodes i) x.kids 1 hj'
           simp +decide only [hpos, e2, hc1, z0, z1, q2, hlen, hx, zi _ _ hil, zg, zr _ _ hj', yf _ _ z2, hgg, w2, Int.natCast_nonneg, vB, vI, hpin, go_sem, reduceAdd, reduceMul]
           by_cases hm : (zD nodes i).getD x.kids[j].toNat 0 + 1 > yH (zD nodes i) 1 (x.kids.take j)
           · have hm1 : ((zD nodes i).getD x.kids[j].toNat 0 + 1 > yH (zD nodes i) 1 (x.kids.take j)) = True := eq_true hm
             have hm2 : (yH (zD nodes i) 1 (x.kids.take j) < (zD nodes i).getD x.kids[j].toNat 0 + 1) = True := eq_true hm
             rw [show max (yH (zD nodes i) 1 (x.kids.take j)) ((zD nodes i).getD x.kids[j].toNat 0 + 1) = (zD nodes i).getD x.kids[j].toNat 0 + 1 by rw [Int.max_def]; split <;> omega] at htk
             simp +decide only [hm1, hm2, hpos, e2, hc1, z0, z1, q2, hlen, hx, zi _ _ hil, zg, zr _ _ hj', yf _ _ z2, hgg, w2, Int.natCast_nonneg, vB, vI, hpin, go_sem, reduceAdd, reduceMul]
             refine ⟨j + 1, hj', by omega, Ent.weak ?_ ?_ ?_ ?_⟩
             all_goals simp +decide [subT, subB, zl, zk, zo, St.get, look, vI, vB, vS, cI, cS, cB, zg, roI, w64s (n := x.kids.length) hj' (by omega), htk]
           · have hm1 : ((zD nodes i).getD x.kids[j].toNat 0 + 1 > yH (zD nodes i) 1 (x.kids.take j)) = False := eq_false hm
             have hm2 : (yH (zD nodes i) 1 (x.kids.take j) < (zD nodes i).getD x.kids[j].toNat 0 + 1) = False := eq_false hm
             rw [show max (yH (zD nodes i) 1 (x.kids.take j)) ((zD nodes i).getD x.kids[j].toNat 0 + 1) = yH (zD nodes i) 1 (x.kids.take j) by rw [Int.max_def]; split <;> omega] at htk
             simp +decide only [hm1, hm2, hpos, e2, hc1, hpin, go_sem, reduceAdd, reduceMul]
             refine ⟨j + 1, hj', by omega, Ent.weak ?_ ?_ ?_ ?_⟩
             all_goals simp +decide [subT, subB, zl, zk, zo, St.get, look, vI, vB, vS, cI, cS, cB, zg, roI, w64s (n := x.kids.length) hj' (by omega), htk]
         · have hjl : j = x.kids.length := by omega
           subst hjl
           have e2 : ((x.kids.length : Int) < (x.kids.length : Int)) = False := by simp
           rw [List.take_length] at hpos
           simp +decide only [e2, hpos, hc1, hx, zi _ _ hil, zg, Int.natCast_nonneg, vB, vI, hpin, go_sem, reduceAdd, reduceMul]
           by_cases hd : 10 < yH (zD nodes i) 1 x.kids
           · have hd1 : (10 < yH (zD nodes i) 1 x.kids) = True := eq_true hd
             have hv : zbP (yH (zD nodes i) 1 x.kids) = 0 := by simp [zbP, hd]
             rw [hv] at hds
             simp +decide only [hd1, hlen, hb1, hb2, hpin, go_sem, reduceAdd, reduceMul]
             refine ⟨i + 1, by omega, by omega, Ent.weak ?_ ?_ ?_ ?_⟩
             all_goals simp +decide [subT, subB, zl, zk, zo, St.get, look, vI, vB, vS, cI, cS, cB, zg, roI, w64s (n := nodes.length) hil (by omega), hds, row1]
           · have hd1 : (10 < yH (zD nodes i) 1 x.kids) = False := eq_false hd
             have hv : zbP (yH (zD nodes i) 1 x.kids) = yH (zD nodes i) 1 x.kids := by simp [zbP, hd]
             rw [hv] at hds
             simp +decide only [hd1, hlen, hb1, hb2, hpin, go_sem, reduceAdd, reduceMul]
             refine ⟨i + 1, by omega, by omega, Ent.weak ?_ ?_ ?_ ?_⟩
             all_goals simp +decide [subT, subB, zl, zk, zo, St.get, look, vI, vB, vS, cI, cS, cB, zg, roI, w64s (n := nodes.length) hil (by omega), hds, row1]
     · have hz1 : (0 < (i : Int)) = True := eq_true (by omega)
       have w3 : IntKind.i64.wrap ((i : Int) - 1) = ((i - 1 : Nat) : Int) := by rw [w64 (by omega) (by omega)]; omega
       have z3 : i - 1 < (zD nodes i).length := by omega
       have z4 : (((i - 1 : Nat) : Int) < (i : Int)) = True := eq_true (by omega)
       have z5 : i - 1 < i := by omega
       have hg3 : (zD nodes i)[i - 1] = (zD nodes i).getD (i - 1) 0 := by simp [List.getD, z3]
       have hi0 : (i == 0) = false := by simp [hz]
       simp +decide only [hz1, w3, z4, z5, hlen, yf _ _ z3, hg3, Int.natCast_nonneg, hpin, go_sem, reduceAdd, reduceMul]
       cases hq : (zD nodes i).getD (i - 1) 0 == 0 with
       | true =>
         have hg : g = false := by simp only [g, hb, hi0, hq]; rfl
         simp +decide only [hq, hpin, go_sem, reduceAdd, reduceMul]
         rw [hg] at hds
         simp only [cond_false] at hds
         refine Tri.loop (ι := Unit) (fun _ => True) (fun _ => ⟨84, [(0, .imm 83 (rows (zg true) nodes)), (1, vI n), (5, .ref 5 [] i), (6, vI i), (7, vI 0), (8, vI 0)], [(5, .row 3 (row1 cI (zD nodes i)))]⟩) (fun _ => 0) () trivial ?_ ?_
         · refine Ent.weak ?_ ?_ ?_ ?_ <;> simp +decide [subT, subB, zl, zk, zo, St.get, look, vI, vB, vS, cI, cS, cB, zg, roI]
         · rintro _ _
           refine zf ze _ ?_
           simp +decide only [vB, vI, hlen, hc1, hb1, hb2, zi _ _ hil, zg, Int.natCast_nonneg, hpin, go_sem, reduceAdd, reduceMul]
           refine ⟨i + 1, by omega, by omega, Ent.weak ?_ ?_ ?_ ?_⟩
           all_goals simp +decide [subT, subB, zl, zk, zo, St.get, look, vI, vB, vS, cI, cS, cB, zg, roI, w64s (n := nodes.length) hil (by omega), hds, row1]
       | false =>
         have hg : g = true := by simp only [g, hb, hi0, hq]; rfl
         simp +decide only [hq, hpin, go_sem, reduceAdd, reduceMul]
         rw [hg] at hds
         simp only [cond_true] at hds
         obtain ⟨_, hkid⟩ := zkq hb
         generalize hx : nodes[i] = x at hds hkid hkx
         refine Tri.loop (ι := Nat) (fun j => j <= x.kids.length) (fun j => ⟨84, [(0, .imm 83 (rows (zg true) nodes)), (1, vI n), (5, .ref 5 [] i), (6, vI i), (7, vI (yH (zD nodes i) 1 (x.kids.take j))), (8, vI j)], [(5, .row 3 (row1 cI (zD nodes i)))]⟩) (fun j => x.kids.length - j) 0 (by simp) ?_ ?_
         · refine Ent.weak ?_ ?_ ?_ ?_ <;> simp +decide [subT, subB, zl, zk, zo, St.get, look, vI, vB, vS, cI, cS, cB, zg, roI, yH]
         · rintro j hj
           refine zf ze _ ?_
           have hpos : (0 < yH (zD nodes i) 1 (x.kids.take j)) = True := eq_true (by have := zbO (zD nodes i) (x.kids.take j) 1; omega)
           by_cases hj' : j < x.kids.length
           · have e2 : ((j : Int) < (x.kids.length : Int)) = True := by simp [hj']
             obtain ⟨q0, q1, q2⟩ := hkid j hj'
             have z0 : (0 <= x.kids[j]) = True := eq_true q0
             have z1 : (x.kids[j] < (i : Int)) = True := eq_true q1
             have z2 : x.kids[j].toNat < (zD nodes i).length := by rw [hlen]; exact q2
             have hgg : (zD nodes i)[x.kids[j].toNat] = (zD nodes i).getD x.kids[j].toNat 0 := by simp [List.getD, z2]
             have hrg := zbh nodes i x.kids[j].toNat
             have w2 : IntKind.i64.wrap ((zD nodes i).getD x.kids[j].toNat 0 + 1) = (zD nodes i).getD x.kids[j].toNat 0 + 1 := w64 (by omega) (by omega)
             have htk := zcn (zD nodes i) x.kids 1 hj'
             simp +decide only [hpos, e2, hc1, z0, z1, q2, hlen, hx, zi _ _ hil, zg, zr _ _ hj', yf _ _ z2, hgg, w2, Int.natCast_nonneg, vB, vI, hpin, go_sem, reduceAdd, reduceMul]
             by_cases hm : (zD nodes i).getD x.kids[j].toNat 0 + 1 > yH (zD nodes i) 1 (x.kids.take j)
             · have hm1 : ((zD nodes i).getD x.kids[j].toNat 0 + 1 > yH (zD nodes i) 1 (x.kids.take j)) = True := eq_true hm
               have hm2 : (yH (zD nodes i) 1 (x.kids.take j) < (zD nodes i).getD x.kids[j].toNat 0 + 1) = True := eq_true hm
               rw [show max (yH (zD nodes i) 1 (x.kids.take j)) ((zD nodes i).getD x.kids[j].toNat 0 + 1) = (zD nodes i).getD x.kids[j].toNat 0 + 1 by rw [Int.max_def]; split <;> omega] at htk
               simp +decide only [hm1, hm2, hpos, e2, hc1, z0, z1, q2, hlen, hx, zi _ _ hil, zg, zr _ _ hj', yf _ _ z2, hgg, w2, Int.natCast_nonneg, vB, vI, hpin, go_sem, reduceAdd, reduceMul]
               refine ⟨j + 1, hj', by omega, Ent.weak ?_ ?_ ?_ ?_⟩
               all_goals simp +decide [subT, subB, zl, zk, zo, St.get, look, vI, vB, vS, cI, cS, cB, zg, roI, w64s (n := x.kids.length) hj' (by omega), htk]
             · have hm1 : ((zD nodes i).getD x.kids[j].toNat 0 + 1 > yH (zD nodes i) 1 (x.kids.take j)) = False := eq_false hm
               have hm2 : (yH (zD nodes i) 1 (x.kids.take j) < (zD nodes i).getD x.kids[j].toNat 0 + 1) = False := eq_false hm
               rw [show max (yH (zD nodes i) 1 (x.kids.take j)) ((zD nodes i).getD x.kids[j].toNat 0 + 1) = yH (zD nodes i) 1 (x.kids.take j) by rw [Int.max_def]; split <;> omega] at htk
               simp +decide only [hm1, hm2, hpos, e2, hc1, hpin, go_sem, reduceAdd, reduceMul]
               refine ⟨j + 1, hj', by omega, Ent.weak ?_ ?_ ?_ ?_⟩
               all_goals simp +decide [subT, subB, zl, zk, zo, St.get, look, vI, vB, vS, cI, cS, cB, zg, roI, w64s (n := x.kids.length) hj' (by omega), htk]
           · have hjl : j = x.kids.length := by omega
             subst hjl
             have e2 : ((x.kids.length : Int) < (x.kids.length : Int)) = False := by simp
             rw [List.take_length] at hpos
             simp +decide only [e2, hpos, hc1, hx, zi _ _ hil, zg, Int.natCast_nonneg, vB, vI, hpin, go_sem, reduceAdd, reduceMul]
             by_cases hd : 10 < yH (zD nodes i) 1 x.kids
             · have hd1 : (10 < yH (zD nodes i) 1 x.kids) = True := eq_true hd
               have hv : zbP (yH (zD nodes i) 1 x.kids) = 0 := by simp [zbP, hd]
               rw [hv] at hds
               simp +decide only [hd1, hlen, hb1, hb2, hpin, go_sem, reduceAdd, reduceMul]
               refine ⟨i + 1, by omega, by omega, Ent.weak ?_ ?_ ?_ ?_⟩
               all_goals simp +decide [subT, subB, zl, zk, zo, St.get, look, vI, vB, vS, cI, cS, cB, zg, roI, w64s (n := nodes.length) hil (by omega), hds, row1]
             · have hd1 : (10 < yH (zD nodes i) 1 x.kids) = False := eq_false hd
               have hv : zbP (yH (zD nodes i) 1 x.kids) = yH (zD nodes i) 1 x.kids := by simp [zbP, hd]
               rw [hv] at hds
               simp +decide only [hd1, hlen, hb1, hb2, hpin, go_sem, reduceAdd, reduceMul]
               refine ⟨i + 1, by omega, by omega, Ent.weak ?_ ?_ ?_ ?_⟩
               all_goals simp +decide [subT, subB, zl, zk, zo, St.get, look, vI, vB, vS, cI, cS, cB, zg, roI, w64s (n := nodes.length) hil (by omega), hds, row1]
   · have hin : i = n + 1 := by omega
     subst hin
     have e : (((n + 1 : Nat) : Int) <= (n : Int)) = False := by simp; omega
     simp +decide only [e, hlen, vB, vI, hpin, go_sem, reduceAdd, reduceMul]
     refine zf ze _ ?_
     simp +decide only [hlen, hpin, go_sem, reduceAdd, reduceMul]
end Go.Proofs.YtjjigphfjclofaaGreatDoor.AW
