/- What the statements of this set lean on, part 5. No condition beyond those named. -/
import Derived.Test.YtjjigphfjclofaaGreatDoorLv4
import Derived.Test.YtjjigphfjclofaaGreatDoorProg
import Derived.KernelRfl
namespace Go.Proofs.YtjjigphfjclofaaGreatDoor.AW
open Go.RowKit
open Nat (reduceAdd reduceMul)
set_option maxHeartbeats 4000000
set_option maxRecDepth 100000
set_option linter.unusedSimpArgs false
set_option linter.unusedVariables false
theorem zg : xp Tryz.prog := znj (by kernel_rfl)
theorem zT : Tryz.prog.follows .mixedOrders = true := by kernel_rfl
theorem zqD : elT Tryz.prog 27 = some 3 := by kernel_rfl
theorem zrd : isR Tryz.prog 27 = some false := by kernel_rfl
theorem zoB : szT Tryz.prog 27 = 1 := by kernel_rfl
attribute [go_sem] zqD zrd zoB
theorem rInt : isR Tryz.prog 3 = some false := by kernel_rfl
theorem zgQ : szT Tryz.prog 3 = 1 := by kernel_rfl
theorem zInt : zeroCells Tryz.prog 3 = some [.int .i64 0] := by kernel_rfl
theorem zrR : ZB Tryz.prog 3 = 8 := by kernel_rfl
attribute [go_sem] rInt zgQ zInt zrR
theorem rStr : isR Tryz.prog 9 = some false := by kernel_rfl
theorem uStr : Tryz.prog.underlying 9 = some .string := by kernel_rfl
theorem zqR : szT Tryz.prog 9 = 1 := by kernel_rfl
theorem zrQ : ZB Tryz.prog 9 = 16 := by kernel_rfl
attribute [go_sem] rStr uStr zqR zrQ
theorem zqC : elT Tryz.prog 99 = some 9 := by kernel_rfl
theorem zqZ : isR Tryz.prog 99 = some false := by kernel_rfl
theorem zpP : szT Tryz.prog 99 = 1 := by kernel_rfl
theorem zStr : zeroCells Tryz.prog 9 = some [.string ⟨#[]⟩] := by kernel_rfl
attribute [go_sem] zqC zqZ zpP zStr
theorem zrf : isR Tryz.prog 4 = some false := by kernel_rfl
theorem zpQ : szT Tryz.prog 4 = 1 := by kernel_rfl
theorem zqP : Tryz.prog.underlying 4 = some .bool := by kernel_rfl
attribute [go_sem] zrf zpQ zqP
abbrev roI (l : List Int) : V := .imm 3 (row1 cI l)
attribute [go_sem] roI
abbrev ro64 (n : Int) : V := .sc (.int .i64 n)
attribute [go_sem] ro64
def ZC (k : Int) (n : Nat) : List Int := (List.range n).map fun (i : Nat) => k + i
theorem zo (k : Int) (n : Nat) : (ZC k n).length = n := by simp [ZC]
theorem zmr (k : Int) (n i : Nat) (h : i < (ZC k n).length) : (ZC k n)[i] = k + i := by simp [ZC]
theorem Yw (l : List Int) (n : Int) (hl : l.length < 9223372036854775807) : zw Tryz.prog 88 [.ro (roI l), .ro (.sc (.int .i64 n))] (fun rs st => rs = [(false, [cB (l.contains n)])]) := by
 refine zp (fn := Tryz.f88) (c := Tryz.f88.body.getD .skip) (res := [.tm 4]) (n := 17) zg (by kernel_rfl) (by rfl) (by kernel_rfl) (by rfl) (by rfl) (by simp [zq]) (fun C hpin hfull => ?_)
 simp +decide only [Tryz.f88, go_sem, reduceAdd, reduceMul]
 refine Tri.loop (ι := Nat) (fun i => i <= l.length /\ (l.take i).contains n = false) (fun i => ⟨17, [(0, roI l), (1, vI n), (4, vB false), (7, roI l), (8, vI l.length), (9, vI i)], []⟩) (fun i => l.length - i) 0 (by simp) ?_ ?_
 · refine Ent.weak ?_ ?_ ?_ ?_ <;> simp +decide [subT, subB, zl, zk, zn, St.get, look, vI, vB, vS]
 · rintro i ⟨hi, hn⟩
   refine zf zg _ ?_
   by_cases h : i < l.length
   · have e : ((i : Int) < (l.length : Int)) = True := by simp [h]
     simp +decide only [e, zr _ _ h, Int.natCast_nonneg, vI, vB, go_sem, reduceAdd, reduceMul]
     cases hq : (l[i] == n) with
     | true =>
       simp +decide only [vB, go_sem, reduceAdd, reduceMul]
       have : l.contains n = true := by simp at hq |-; exact hq ▸ List.getElem_mem h
       rw [this]
     | false =>
       simp +decide only [vB, go_sem, reduceAdd, reduceMul]
       refine ⟨i + 1, ⟨h, ?_⟩, by omega, Ent.weak ?_ ?_ ?_ ?_⟩
       · rw [List.take_succ_eq_append_getElem h, List.contains_append]
         simp at hn hq |-
         exact ⟨hn, fun e => hq e.symm⟩
       all_goals simp +decide [subT, subB, zl, zk, St.get, look, w64s (n := l.length) h (by omega), vI, vB]
   · have hil : i = l.length := by omega
     have e : ((i : Int) < (l.length : Int)) = False := by simp; omega
     rw [hil, List.take_length] at hn
     simp +decide only [e, hn, vI, vB, go_sem, reduceAdd, reduceMul]
theorem zbm (l : List Int) (k : Int) (hl : l.length < 9223372036854775807) (h0 : 0 <= k) (h1 : k + l.length < 9223372036854775807) :
   SoundAt Tryz.prog 48 (fun uf => zq 0 [.ro (.ref 2000 [] l.length), .ro (.sc (.int .i64 k))]) [(2000, .row 3 (row1 cI l))]
     (fun rs st => rs = [(false, [cI (k + l.length)])] /\ xB st.ob [(2000, .row 3 (row1 cI (ZC k l.length)))]) := by
 refine yL (fn := Tryz.f48) (c := Tryz.f48.body.getD .skip) (res := [.tm 4]) (n := 19) zg (by kernel_rfl) (by rfl) (by kernel_rfl) (by rfl) (by rfl) (by simp [zq]) (fun uf ub C hpin hpin2 hfull => ?_)
 simp +decide only [Tryz.f48, go_sem, reduceAdd, reduceMul]
 let L : Nat -> List Int := fun i => ZC k i ++ l.drop i
 have hL : ∀ i, i <= l.length -> (L i).length = l.length := fun i hi => by simp [L, ZC]; omega
 refine Tri.loop (ι := Nat) (fun i => i <= l.length) (fun i => ⟨19, [(0, .ref 2000 [] l.length), (1, vI (k + i)), (5, vI i)], [(2000, .row 3 (row1 cI (L i)))]⟩) (fun i => l.length - i) 0 (by simp) ?_ ?_
 · refine Ent.weak ?_ ?_ ?_ ?_ <;> simp +decide [subT, subB, zl, zk, St.get, look, vI, vB, L, ZC]
 · rintro i hi
   refine zf zg _ ?_
   by_cases h : i < l.length
   · have e : ((i : Int) < (l.length : Int)) = True := by simp [h]
     have e2 : i < (L i).length := by rw [hL i hi]; exact h
     simp +decide only [e, hL i hi, zr _ _ e2, Int.natCast_nonneg, vI, vB, go_sem, reduceAdd, reduceMul]
     refine ⟨h, i + 1, h, by omega, Ent.weak ?_ ?_ ?_ ?_⟩
     · have e3 : IntKind.i64.wrap (k + i + 1) = k + ((i + 1 : Nat) : Int) := by rw [w64 (by omega) (by omega)]; omega
       simp +decide [subT, St.get, look, w64s (n := l.length) h (by omega), e3, vI, vB]
     · have e4 : (row1 cI (L i)).set i [D.sc (.int .i64 (k + i))] = row1 cI (L (i + 1)) := by
         have := zcM cI (L i) i (k + i)
         simp only [cI] at this |-
         rw [this]
         congr 1
         apply List.ext_getElem
         · simp [L, ZC]; omega
         · intro j h1 h2
           simp only [L, ZC, List.getElem_set, List.getElem_append, List.length_map, List.length_range, List.getElem_map, List.getElem_range, List.getElem_drop]
           by_cases e1 : i = j
           · subst e1; simp
           · rw [if_neg e1]
             by_cases e2 : j < i
             · rw [dif_pos e2, dif_pos (by omega)]
             · rw [dif_neg e2, dif_neg (by omega)]; congr 1; omega
       simp +decide [subB, look, e4, cI]
     all_goals simp +decide [zl, zk, look, vI]
   · have hil : i = l.length := by omega
     subst hil
     have e : ((l.length : Int) < (l.length : Int)) = False := by simp
     simp +decide only [e, vI, vB, go_sem, reduceAdd, reduceMul]
     simp [L, ZC]
theorem zgl (l : List Int) (k : Int) (hl : l.length < 9223372036854775807) (h0 : 0 <= k) (h1 : k + l.length < 9223372036854775807) :
   zw Tryz.prog 50 [.ro (roI l), .ro (.sc (.int .i64 k))] (fun rs st => rs = [(false, [cI (if l = ZC k l.length then k + l.length else -1)])]) := by
 refine zp (fn := Tryz.f50) (c := Tryz.f50.body.getD .skip) (res := [.tm 4]) (n := 21) zg (by kernel_rfl) (by rfl) (by kernel_rfl) (by rfl) (by rfl) (by simp [zq]) (fun C hpin hfull => ?_)
 simp +decide only [Tryz.f50, go_sem, reduceAdd, reduceMul]
 refine Tri.loop (ι := Nat) (fun i => i <= l.length /\ l.take i = ZC k i) (fun i => ⟨21, [(0, roI l), (1, vI (k + i)), (5, vI i)], []⟩) (fun i => l.length - i) 0 (by simp [ZC]) ?_ ?_
 · refine Ent.weak ?_ ?_ ?_ ?_ <;> simp +decide [subT, subB, zl, zk, zn, St.get, look, vI, vB, vS]
 · rintro i ⟨hi, hn⟩
   refine zf zg _ ?_
   by_cases h : i < l.length
   · have e : ((i : Int) < (l.length : Int)) = True := by simp [h]
     simp +decide only [e, zr _ _ h, Int.natCast_nonneg, vI, vB, go_sem, reduceAdd, reduceMul]
     cases hq : (l[i] != k + i) with
     | true =>
       simp +decide only [vI, go_sem, reduceAdd, reduceMul]
       have : ¬ l = ZC k l.length := fun e1 => by
         have e2 : l[i] = k + i := by
           have := List.getElem_of_eq e1 h
           rw [this, zmr]
         simp [e2] at hq
       rw [if_neg this]
     | false =>
       simp +decide only [vI, go_sem, reduceAdd, reduceMul]
       refine ⟨i + 1, ⟨h, ?_⟩, by omega, Ent.weak ?_ ?_ ?_ ?_⟩
       · rw [List.take_succ_eq_append_getElem h, hn]
         simp at hq
         simp [ZC, List.range_succ, hq]
       · have e3 : IntKind.i64.wrap (k + i + 1) = k + ((i + 1 : Nat) : Int) := by rw [w64 (by omega) (by omega)]; omega
         simp +decide [subT, St.get, look, w64s (n := l.length) h (by omega), e3, vI, vB]
       all_goals simp +decide [subB, zl, zk, look, vI]
   · have hil : i = l.length := by omega
     subst hil
     have e : ((l.length : Int) < (l.length : Int)) = False := by simp
     rw [List.take_length] at hn
     simp +decide only [e, vI, vB, go_sem, reduceAdd, reduceMul]
     rw [if_pos hn]
theorem zjk (l l' : List Int) (hl : l.length < 9223372036854775807) : zw Tryz.prog 42 [.ro (roI l), .ro (roI l')] (fun rs st => rs = [(false, [cB (decide (l = l'))])]) := by
 refine zp (fn := Tryz.f42) (c := Tryz.f42.body.getD .skip) (res := [.tm 4]) (n := 26) zg (by kernel_rfl) (by rfl) (by kernel_rfl) (by rfl) (by rfl) (by simp [zq]) (fun C hpin hfull => ?_)
 by_cases hlen : l.length = l'.length
 · have e0 : ((l.length : Int) != (l'.length : Int)) = false := by simp [hlen]
   simp +decide only [Tryz.f42, e0, go_sem, reduceAdd, reduceMul]
   refine Tri.loop (ι := Nat) (fun i => i <= l.length /\ l.take i = l'.take i) (fun i => ⟨26, [(0, roI l), (1, roI l'), (5, vI i)], []⟩) (fun i => l.length - i) 0 (by simp) ?_ ?_
   · refine Ent.weak ?_ ?_ ?_ ?_ <;> simp +decide [subT, subB, zl, zk, zn, St.get, look, vI, vB, vS]
   · rintro i ⟨hi, hn⟩
     refine zf zg _ ?_
     by_cases h : i < l.length
     · have e : ((i : Int) < (l.length : Int)) = True := by simp [h]
       have h' : i < l'.length := by omega
       have e' : ((i : Int) < (l'.length : Int)) = True := by simp [h']
       simp +decide only [e, vI, vB, go_sem, reduceAdd, reduceMul]
       refine Tri.draw zg zT (by kernel_rfl) ?_
       simp +decide only [e, e', zr _ _ h, zr _ _ h', Int.natCast_nonneg, vI, vB, go_sem, reduceAdd, reduceMul]
       cases hq : (l[i] != l'[i]) with
       | true =>
         simp +decide only [vI, vB, go_sem, reduceAdd, reduceMul]
         have : ¬ l = l' := fun e1 => by subst e1; simp at hq
         simp [this]
       | false =>
         simp +decide only [vI, go_sem, reduceAdd, reduceMul]
         refine ⟨i + 1, ⟨h, ?_⟩, by omega, Ent.weak ?_ ?_ ?_ ?_⟩
         · rw [List.take_succ_eq_append_getElem h, List.take_succ_eq_append_getElem h', hn]
           simp at hq; rw [hq]
         all_goals simp +decide [subT, subB, zl, zk, St.get, look, w64s (n := l.length) h (by omega), vI, vB]
     · have hil : i = l.length := by omega
       subst hil
       have e : ((l.length : Int) < (l.length : Int)) = False := by simp
       simp +decide only [e, vI, vB, go_sem, reduceAdd, reduceMul]
       rw [List.take_length, hlen, List.take_length] at hn
       simp [hn]
 · have e0 : ((l.length : Int) != (l'.length : Int)) = true := by simp; omega
   have e1 : ¬ l = l' := fun e => hlen (by rw [e])
   simp +decide only [Tryz.f42, e0, e1, go_sem, reduceAdd, reduceMul]
theorem znP (n lo hi : Int) : zw Tryz.prog 40 [.ro (.sc (.int .i64 n)), .ro (.sc (.int .i64 lo)), .ro (.sc (.int .i64 hi))] (fun rs st => rs = [(false, [cB (decide (lo <= n) && decide (n <= hi))])]) := by
 refine zp (fn := Tryz.f40) (c := Tryz.f40.body.getD .skip) (res := [.tm 6]) (n := 15) zg (by kernel_rfl) (by rfl) (by kernel_rfl) (by rfl) (by rfl) (by simp [zq]) (fun C hpin hfull => ?_)
 simp +decide only [Tryz.f40, go_sem, reduceAdd, reduceMul]
 by_cases h : lo <= n <;> simp [h]
theorem ziU (n lo hi : Int) : zw Tryz.prog 35 [.ro (.sc (.int .i64 n)), .ro (.sc (.int .i64 lo)), .ro (.sc (.int .i64 hi))] (fun rs st => rs = [(false, [cB (decide (lo <= n) && decide (n <= hi))])]) := by
 refine zp (fn := Tryz.f35) (c := Tryz.f35.body.getD .skip) (res := [.tm 6]) (n := 15) zg (by kernel_rfl) (by rfl) (by kernel_rfl) (by rfl) (by rfl) (by simp [zq]) (fun C hpin hfull => ?_)
 simp +decide only [Tryz.f35, go_sem, reduceAdd, reduceMul]
 by_cases h : lo <= n <;> simp [h]
theorem zgP (l : List Int) (x : Int) (hl : l.length < 4611686018427387904) (h0 : -4611686018427387904 < x) (h1 : x < 4611686018427387904) : zw Tryz.prog 162 [.ro (roI l), .ro (.sc (.int .i64 x))] (fun rs st => rs = [(false, [cI (if x - l.length < 0 then -1 else x - l.length)])]) := by
 refine zp (fn := Tryz.f162) (c := Tryz.f162.body.getD .skip) (res := [.tm 4]) (n := 12) zg (by kernel_rfl) (by rfl) (by kernel_rfl) (by rfl) (by rfl) (by simp [zq]) (fun C hpin hfull => ?_)
 have e : IntKind.i64.wrap (x - (l.length : Int)) = x - l.length := w64 (by omega) (by omega)
 simp +decide only [Tryz.f162, e, go_sem, reduceAdd, reduceMul]
 by_cases h : x - (l.length : Int) < 0
 · have e2 : (x - (l.length : Int) < 0) = True := by simp [h]
   simp +decide only [e2, go_sem, reduceAdd, reduceMul]
 · have e2 : (x - (l.length : Int) < 0) = False := by simp; omega
   simp +decide only [e2, go_sem, reduceAdd, reduceMul]
theorem zgM (l : List Int) (hl : l.length <= 35184372088832) : zw Tryz.prog 173 [.ro (roI l)] (fun rs st => rs = [(false, [.row false 3 (row1 cI l)])]) := by
 refine zp (fn := Tryz.f173) (c := Tryz.f173.body.getD .skip) (res := [.tm 2]) (n := 22) zg (by kernel_rfl) (by rfl) (by kernel_rfl) (by rfl) (by rfl) (by simp [zq]) (fun C hpin hfull => ?_)
 have e1 : (8 : Nat) * (l.length : Int) <= 281474976710656 := by omega
 simp +decide only [Tryz.f173, hpin, go_sem, reduceAdd, reduceMul]
 refine ⟨by omega, by omega, by omega, ?_⟩
 let L : Nat -> List Int := fun i => l.take i ++ List.replicate (l.length - i) 0
 have hL : ∀ i, i <= l.length -> (L i).length = l.length := fun i hi => by simp [L]; omega
 refine Tri.loop (ι := Nat) (fun i => i <= l.length) (fun i => ⟨22, [(0, roI l), (2, .ref 2 [] 0), (3, .ref 3 [] l.length), (4, vI i)], [(3, .row 3 (row1 cI (L i))), (2, .row 3 [])]⟩) (fun i => l.length - i) 0 (by simp) ?_ ?_
 · refine Ent.weak ?_ ?_ ?_ ?_ <;> simp +decide [subT, subB, zl, zk, St.get, look, vI, vB, L, row1, cI]
 · rintro i hi
   refine zf zg _ ?_
   by_cases h : i < l.length
   · have e : ((i : Int) < (l.length : Int)) = True := by simp [h]
     have e2 : i < (L i).length := by rw [hL i hi]; exact h
     simp +decide only [e, h, hL i hi, zr _ _ h, zr _ _ e2, Int.natCast_nonneg, vI, vB, go_sem, reduceAdd, reduceMul]
     refine ⟨i + 1, h, by omega, Ent.weak ?_ ?_ ?_ ?_⟩
     · simp +decide [subT, St.get, look, w64s (n := l.length) h (by omega), vI, vB]
     · have e4 : (row1 cI (L i)).set i [D.sc (.int .i64 l[i])] = row1 cI (L (i + 1)) := by
         have := zcM cI (L i) i l[i]
         simp only [cI] at this |-
         rw [this]
         congr 1
         apply List.ext_getElem
         · simp [L]; omega
         · intro j h1 h2
           simp only [L, List.getElem_set, List.getElem_append, List.length_take, List.getElem_take, List.getElem_replicate]
           by_cases e1 : i = j
           · subst e1; simp; omega
           · rw [if_neg e1]
             by_cases e2 : j < i
             · rw [dif_pos (by omega), dif_pos (by omega)]
             · rw [dif_neg (by omega), dif_neg (by omega)]
       simp +decide [subB, look, e4, cI]
     all_goals simp +decide [zl, zk, look, vI]
   · have hil : i = l.length := by omega
     subst hil
     have e : ((l.length : Int) < (l.length : Int)) = False := by simp
     simp +decide only [e, hL l.length (Nat.le_refl _), hpin, vI, vB, go_sem, reduceAdd, reduceMul]
     simp [L]
theorem zlB (l : List Int) (left : Int) (h0 : 0 <= left) (h1 : left < 1152921504606846976) (hl : l.length < 1152921504606846976) : zw Tryz.prog 162 [.ro (roI l), .ro (.sc (.int .i64 left))] (fun rs st => rs = [(false, [cI (sub left l.length)])]) := by
 have := zgP l left (by omega) (by omega) (by omega)
 exact this
theorem zlx (l : List Int) (hl : l.length <= 1048576) : zw Tryz.prog 173 [.ro (roI l)] (fun rs st => rs = [(false, [.row false 3 (row1 cI l)])]) := zgM l (by omega)
theorem zhW (l : List Int) (hl : l.length <= 1048576) : zw Tryz.prog 42 [.ro (roI l), .ro (roI l)] (fun rs st => rs = [(false, [cB true])]) := by
 have := zjk l l (by omega)
 simpa using this
theorem zqA : fo Tryz.prog 139 0 = some 0 := by kernel_rfl
theorem zqz : fo Tryz.prog 139 1 = some 1 := by kernel_rfl
theorem zqy : fo Tryz.prog 139 2 = some 2 := by kernel_rfl
theorem zqx : fo Tryz.prog 139 3 = some 3 := by kernel_rfl
theorem zqw : fo Tryz.prog 139 4 = some 4 := by kernel_rfl
theorem zqv : fo Tryz.prog 139 5 = some 5 := by kernel_rfl
theorem zqu : fo Tryz.prog 139 6 = some 6 := by kernel_rfl
theorem zre : isR Tryz.prog 139 = some true := by kernel_rfl
theorem zqW : szT Tryz.prog 139 = 7 := by kernel_rfl
theorem zqN : zeroCells Tryz.prog 139 = some [.int .i64 0, .int .i64 0, .int .i64 0, .int .i64 0, .int .i64 0, .string ⟨#[]⟩, .slice none 0 0] := by kernel_rfl
theorem zrT : ZB Tryz.prog 139 = 80 := by kernel_rfl
theorem zqi : xJ Tryz.prog 139 = some [(0, 1), (1, 1), (2, 1), (3, 1), (4, 1), (5, 1), (6, 1)] := by kernel_rfl
attribute [go_sem] zqA zqz zqy zqx zqw zqv zqu zre zqW zqN zrT zqi
theorem zrM : elT Tryz.prog 28 = some 139 := by kernel_rfl
theorem zqc : isR Tryz.prog 28 = some false := by kernel_rfl
theorem zpW : szT Tryz.prog 28 = 1 := by kernel_rfl
attribute [go_sem] zrM zqc zpW
structure InsD where
 op : Int
 a : Int
 b : Int
 c : Int
 num : Int
 name : ByteArray
 args : List Int
def insC (sh : Bool) (x : InsD) : List D := [cI x.op, cI x.a, cI x.b, cI x.c, cI x.num, cS x.name, .row sh 3 (row1 cI x.args)]
def insW (x : InsD) : V := .agg [.sc (.int .i64 x.op), .sc (.int .i64 x.a), .sc (.int .i64 x.b), .sc (.int .i64 x.c), .sc (.int .i64 x.num), .sc (.string x.name), roI x.args]
def zgj (x : InsD) : Nat := x.name.size + x.args.length
theorem zmB (sh : Bool) : shF (insC sh) = insC true := by funext x; simp [shF, insC, shL, shD, cI, cS, cB, xy, Zs]
theorem zdS (x : InsD) : Zp (insC false x) = true := by simp [insC, Zp, noSh, cI, cS, cB, xz]
attribute [go_sem] zmB zdS
theorem zhO (l : List InsD) : xv (rows (insC false) l) = true := yZ zdS l
attribute [go_sem] zhO
theorem zpq : fo Tryz.prog 30 0 = some 0 := by kernel_rfl
theorem zpp : fo Tryz.prog 30 1 = some 1 := by kernel_rfl
theorem zpo : fo Tryz.prog 30 2 = some 2 := by kernel_rfl
theorem zpn : fo Tryz.prog 30 3 = some 3 := by kernel_rfl
theorem zqf : isR Tryz.prog 30 = some true := by kernel_rfl
theorem zpZ : szT Tryz.prog 30 = 4 := by kernel_rfl
theorem zpN : zeroCells Tryz.prog 30 = some [.string ⟨#[]⟩, .int .i64 0, .slice none 0 0, .slice none 0 0] := by kernel_rfl
theorem zqK : ZB Tryz.prog 30 = 72 := by kernel_rfl
theorem zoW : xJ Tryz.prog 30 = some [(0, 1), (1, 1), (2, 1), (3, 1)] := by kernel_rfl
attribute [go_sem] zpq zpp zpo zpn zqf zpZ zpN zqK zoW
theorem zqG : elT Tryz.prog 43 = some 30 := by kernel_rfl
theorem zoQ : isR Tryz.prog 43 = some false := by kernel_rfl
theorem zoJ : szT Tryz.prog 43 = 1 := by kernel_rfl
attribute [go_sem] zqG zoQ zoJ
structure CodeD where
 name : ByteArray
 params : Int
 locals : List Int
 words : List InsD
def zlj (sh : Bool) (x : CodeD) : List D := [cS x.name, cI x.params, .row sh 3 (row1 cI x.locals), .row sh 139 (rows (insC sh) x.words)]
theorem zoc (sh : Bool) : shF (zlj sh) = zlj true := by funext x; simp [shF, zlj, shL, shD, cI, cS, cB, xy, Zs, zmB]
theorem zfo (x : CodeD) : Zp (zlj false x) = true := by simp [zlj, Zp, noSh, cI, cS, cB, xz, yZ zdS]
attribute [go_sem] zoc zfo
theorem zgy (l : List CodeD) : xv (rows (zlj false) l) = true := yZ zfo l
attribute [go_sem] zgy
theorem zpm : fo Tryz.prog 83 0 = some 0 := by kernel_rfl
theorem zpl : fo Tryz.prog 83 1 = some 1 := by kernel_rfl
theorem zpk : fo Tryz.prog 83 2 = some 2 := by kernel_rfl
theorem zpj : fo Tryz.prog 83 3 = some 3 := by kernel_rfl
theorem zqe : isR Tryz.prog 83 = some true := by kernel_rfl
theorem zpY : szT Tryz.prog 83 = 4 := by kernel_rfl
theorem zpM : zeroCells Tryz.prog 83 = some [.int .i64 0, .int .i64 0, .string ⟨#[]⟩, .slice none 0 0] := by kernel_rfl
theorem zqJ : ZB Tryz.prog 83 = 56 := by kernel_rfl
theorem zoV : xJ Tryz.prog 83 = some [(0, 1), (1, 1), (2, 1), (3, 1)] := by kernel_rfl
attribute [go_sem] zpm zpl zpk zpj zqe zpY zpM zqJ zoV
theorem zqF : elT Tryz.prog 33 = some 83 := by kernel_rfl
theorem zoP : isR Tryz.prog 33 = some false := by kernel_rfl
theorem zoI : szT Tryz.prog 33 = 1 := by kernel_rfl
attribute [go_sem] zqF zoP zoI
theorem zpi : fo Tryz.prog 126 0 = some 0 := by kernel_rfl
theorem zph : fo Tryz.prog 126 1 = some 1 := by kernel_rfl
theorem zpg : fo Tryz.prog 126 2 = some 2 := by kernel_rfl
theorem zpf : fo Tryz.prog 126 3 = some 3 := by kernel_rfl
theorem zqd : isR Tryz.prog 126 = some true := by kernel_rfl
theorem zpX : szT Tryz.prog 126 = 4 := by kernel_rfl
attribute [go_sem] zpi zph zpg zpf zqd zpX
theorem zqE : elT Tryz.prog 22 = some 126 := by kernel_rfl
theorem zoO : isR Tryz.prog 22 = some false := by kernel_rfl
theorem zoH : szT Tryz.prog 22 = 1 := by kernel_rfl
attribute [go_sem] zqE zoO zoH
structure NodeD where
 kind : Int
 num : Int
 name : ByteArray
 kids : List Int
def zh (sh : Bool) (x : NodeD) : List D := [cI x.kind, cI x.num, cS x.name, .row sh 3 (row1 cI x.kids)]
def zL (x : NodeD) : V := .agg [.sc (.int .i64 x.kind), .sc (.int .i64 x.num), .sc (.string x.name), roI x.kids]
def zF (x : NodeD) : Nat := x.name.size + x.kids.length
def XH (x : NodeD) : Prop := x.name.size < 1152921504606846976 /\ x.kids.length < 1152921504606846976
theorem zjS (sh : Bool) : shF (zh sh) = zh true := by funext x; simp [shF, zh, shL, shD, cI, cS, cB, xy, Zs]
theorem zbQ (x : NodeD) : Zp (zh false x) = true := by simp [zh, Zp, noSh, cI, cS, cB, xz]
attribute [go_sem] zjS zbQ
theorem zfU (l : List NodeD) : xv (rows (zh false) l) = true := yZ zbQ l
attribute [go_sem] zfU
def zbO (x : NodeD) : List D := [cI x.kind, cI x.num, cS x.name, .row true 3 (row1 cI x.kids)]
def ziP (x : NodeD) : V := .agg [.sc (.int .i64 x.kind), .sc (.int .i64 x.num), .sc (.string x.name), roI x.kids]
theorem zjR : shF zbO = zbO := by funext x; simp [shF, zbO, shL, shD, cI, cS, cB, xy, Zs]
attribute [go_sem] zjR
theorem znW : fo Tryz.prog 107 0 = some 0 := by kernel_rfl
theorem znV : fo Tryz.prog 107 1 = some 1 := by kernel_rfl
theorem zoS : isR Tryz.prog 107 = some true := by kernel_rfl
theorem zoL : szT Tryz.prog 107 = 2 := by kernel_rfl
theorem zoy : zeroCells Tryz.prog 107 = some [.string ⟨#[]⟩, .int .i64 0] := by kernel_rfl
theorem zpG : ZB Tryz.prog 107 = 24 := by kernel_rfl
theorem znv : xJ Tryz.prog 107 = some [(0, 1), (1, 1)] := by kernel_rfl
attribute [go_sem] znW znV zoS zoL zoy zpG znv
theorem zpB : elT Tryz.prog 102 = some 107 := by kernel_rfl
theorem znr : isR Tryz.prog 102 = some false := by kernel_rfl
theorem znl : szT Tryz.prog 102 = 1 := by kernel_rfl
attribute [go_sem] zpB znr znl
theorem znU : fo Tryz.prog 188 0 = some 0 := by kernel_rfl
theorem znT : fo Tryz.prog 188 1 = some 1 := by kernel_rfl
theorem zoR : isR Tryz.prog 188 = some true := by kernel_rfl
theorem zoK : szT Tryz.prog 188 = 2 := by kernel_rfl
attribute [go_sem] znU znT zoR zoK
theorem zpA : elT Tryz.prog 128 = some 188 := by kernel_rfl
theorem znq : isR Tryz.prog 128 = some false := by kernel_rfl
theorem znk : szT Tryz.prog 128 = 1 := by kernel_rfl
attribute [go_sem] zpA znq znk
structure ParamD where
 name : ByteArray
 ty : Int
def zy (sh : Bool) (x : ParamD) : List D := [cS x.name, cI x.ty]
def zjP (x : ParamD) : V := .agg [.sc (.string x.name), .sc (.int .i64 x.ty)]
def zJ (x : ParamD) : Nat := x.name.size
def ZP (x : ParamD) : Prop := x.name.size < 1152921504606846976
theorem zhv (sh : Bool) : shF (zy sh) = zy true := by funext x; simp [shF, zy, shL, shD, cI, cS, cB, xy, Zs]
theorem zaK (x : ParamD) : Zp (zy false x) = true := by simp [zy, Zp, noSh, cI, cS, cB, xz]
attribute [go_sem] zhv zaK
theorem zeD (l : List ParamD) : xv (rows (zy false) l) = true := yZ zaK l
attribute [go_sem] zeD
def YF (x : ParamD) : List D := [cS x.name, cI x.ty]
def zdx (x : ParamD) : V := .agg [.sc (.string x.name), .sc (.int .i64 x.ty)]
theorem zhu : shF YF = YF := by funext x; simp [shF, YF, shL, shD, cI, cS, cB, xy, Zs]
attribute [go_sem] zhu
theorem zrJ : fo Tryz.prog 104 0 = some 0 := by kernel_rfl
theorem zrI : fo Tryz.prog 104 1 = some 1 := by kernel_rfl
theorem zrH : fo Tryz.prog 104 2 = some 2 := by kernel_rfl
theorem zrG : fo Tryz.prog 104 3 = some 3 := by kernel_rfl
theorem zrF : fo Tryz.prog 104 4 = some 4 := by kernel_rfl
theorem rFnC : isR Tryz.prog 104 = some true := by kernel_rfl
theorem sFnC : szT Tryz.prog 104 = 5 := by kernel_rfl
theorem zFnC : zeroCells Tryz.prog 104 = some [.string ⟨#[]⟩, .slice none 0 0, .int .i64 0, .int .i64 0, .int .i64 0] := by kernel_rfl
theorem bFnC : ZB Tryz.prog 104 = 64 := by kernel_rfl
theorem zrk : xJ Tryz.prog 104 = some [(0, 1), (1, 1), (2, 1), (3, 1), (4, 1)] := by kernel_rfl
attribute [go_sem] zrJ zrI zrH zrG zrF rFnC sFnC zFnC bFnC zrk
theorem eFnC : elT Tryz.prog 34 = some 104 := by kernel_rfl
theorem zrc : isR Tryz.prog 34 = some false := by kernel_rfl
theorem zqV : szT Tryz.prog 34 = 1 := by kernel_rfl
attribute [go_sem] eFnC zrc zqV
theorem zrE : fo Tryz.prog 130 0 = some 0 := by kernel_rfl
theorem zrD : fo Tryz.prog 130 1 = some 1 := by kernel_rfl
theorem zrC : fo Tryz.prog 130 2 = some 2 := by kernel_rfl
theorem zrB : fo Tryz.prog 130 3 = some 3 := by kernel_rfl
theorem zrA : fo Tryz.prog 130 4 = some 4 := by kernel_rfl
theorem rFnL : isR Tryz.prog 130 = some true := by kernel_rfl
theorem sFnL : szT Tryz.prog 130 = 5 := by kernel_rfl
attribute [go_sem] zrE zrD zrC zrB zrA rFnL sFnL
theorem eFnL : elT Tryz.prog 23 = some 130 := by kernel_rfl
theorem zrb : isR Tryz.prog 23 = some false := by kernel_rfl
theorem zqU : szT Tryz.prog 23 = 1 := by kernel_rfl
attribute [go_sem] eFnL zrb zqU
structure FnD where
 name : ByteArray
 params : List ParamD
 res : Int
 body : Int
 ret : Int
def fnC (sh : Bool) (x : FnD) : List D := [cS x.name, .row sh 107 (rows (zy sh) x.params), cI x.res, cI x.body, cI x.ret]
def fnW (x : FnD) : V := .agg [.sc (.string x.name), .imm 107 (rows (zy true) x.params), .sc (.int .i64 x.res), .sc (.int .i64 x.body), .sc (.int .i64 x.ret)]
def ya (x : FnD) : Nat := x.name.size + (x.params.length + sumN zJ x.params)
def zeb (x : FnD) : Prop := x.name.size < 1152921504606846976 /\ x.params.length < 1152921504606846976 /\ (∀ y ∈ x.params, ZP y)
theorem zou (sh : Bool) : shF (fnC sh) = fnC true := by funext x; simp [shF, fnC, shL, shD, cI, cS, cB, xy, Zs, zhv]
theorem zgp (x : FnD) : Zp (fnC false x) = true := by simp [fnC, Zp, noSh, cI, cS, cB, xz, yZ zaK]
attribute [go_sem] zou zgp
theorem zjc (l : List FnD) : xv (rows (fnC false) l) = true := yZ zgp l
attribute [go_sem] zjc
def fnL (x : FnD) : List D := [cS x.name, .row true 188 (rows YF x.params), cI x.res, cI x.body, cI x.ret]
def fnV (x : FnD) : V := .agg [.sc (.string x.name), .imm 188 (rows YF x.params), .sc (.int .i64 x.res), .sc (.int .i64 x.body), .sc (.int .i64 x.ret)]
theorem zot : shF fnL = fnL := by funext x; simp [shF, fnL, shL, shD, cI, cS, cB, xy, Zs, zhu]
attribute [go_sem] zot
theorem zld : fo Tryz.prog 36 0 = some 0 := by kernel_rfl
theorem zlc : fo Tryz.prog 36 1 = some 1 := by kernel_rfl
theorem zmb : isR Tryz.prog 36 = some true := by kernel_rfl
theorem zlP : szT Tryz.prog 36 = 2 := by kernel_rfl
theorem zlp : zeroCells Tryz.prog 36 = some [.slice none 0 0, .slice none 0 0] := by kernel_rfl
theorem zmU : ZB Tryz.prog 36 = 48 := by kernel_rfl
theorem zkH : xJ Tryz.prog 36 = some [(0, 1), (1, 1)] := by kernel_rfl
attribute [go_sem] zld zlc zmb zlP zlp zmU zkH
theorem zlb : fo Tryz.prog 25 0 = some 0 := by kernel_rfl
theorem zla : fo Tryz.prog 25 1 = some 1 := by kernel_rfl
theorem zma : isR Tryz.prog 25 = some true := by kernel_rfl
theorem zlO : szT Tryz.prog 25 = 2 := by kernel_rfl
attribute [go_sem] zlb zla zma zlO
structure ProgramD where
 nodes : List NodeD
 fns : List FnD
def za (sh : Bool) (x : ProgramD) : List D := [.row sh 83 (rows (zh sh) x.nodes), .row sh 104 (rows (fnC sh) x.fns)]
def zd (x : ProgramD) : V := .agg [.imm 83 (rows (zh true) x.nodes), .imm 104 (rows (fnC true) x.fns)]
def zG (x : ProgramD) : Nat := (x.nodes.length + sumN zF x.nodes) + (x.fns.length + sumN ya x.fns)
def Yt (x : ProgramD) : Prop := x.nodes.length < 1152921504606846976 /\ (∀ y ∈ x.nodes, XH y) /\ x.fns.length < 1152921504606846976 /\ (∀ y ∈ x.fns, zeb y)
theorem ziD (sh : Bool) : shF (za sh) = za true := by funext x; simp [shF, za, shL, shD, cI, cS, cB, xy, Zs, zjS, zou]
theorem zbg (x : ProgramD) : Zp (za false x) = true := by simp [za, Zp, noSh, cI, cS, cB, xz, yZ zbQ, yZ zgp]
attribute [go_sem] ziD zbg
theorem zcw (l : List ProgramD) : xv (rows (za false) l) = true := yZ zbg l
attribute [go_sem] zcw
def YX (x : ProgramD) : List D := [.row true 126 (rows zbO x.nodes), .row true 130 (rows fnL x.fns)]
def zD (x : ProgramD) : V := .agg [.imm 126 (rows zbO x.nodes), .imm 130 (rows fnL x.fns)]
theorem zdt : shF YX = YX := by funext x; simp [shF, YX, shL, shD, cI, cS, cB, xy, Zs, zjR, zot]
attribute [go_sem] zdt
theorem zqp : fo Tryz.prog 96 0 = some 0 := by kernel_rfl
theorem zqo : fo Tryz.prog 96 1 = some 1 := by kernel_rfl
theorem zqn : fo Tryz.prog 96 2 = some 2 := by kernel_rfl
theorem zqY : isR Tryz.prog 96 = some true := by kernel_rfl
theorem zqS : szT Tryz.prog 96 = 3 := by kernel_rfl
theorem zqL : zeroCells Tryz.prog 96 = some [.string ⟨#[]⟩, .int .i64 0, .int .i64 0] := by kernel_rfl
theorem zrS : ZB Tryz.prog 96 = 32 := by kernel_rfl
theorem zqg : xJ Tryz.prog 96 = some [(0, 1), (1, 1), (2, 1)] := by kernel_rfl
attribute [go_sem] zqp zqo zqn zqY zqS zqL zrS zqg
theorem zrL : elT Tryz.prog 74 = some 96 := by kernel_rfl
theorem zqb : isR Tryz.prog 74 = some false := by kernel_rfl
theorem zpV : szT Tryz.prog 74 = 1 := by kernel_rfl
attribute [go_sem] zrL zqb zpV
structure VarD where
 name : ByteArray
 ty : Int
 node : Int
def varC (sh : Bool) (x : VarD) : List D := [cS x.name, cI x.ty, cI x.node]
theorem zoA (sh : Bool) : shF (varC sh) = varC true := by funext x; simp [shF, varC, shL, shD, cI, cS, cB, xy, Zs]
theorem zgH (x : VarD) : Zp (varC false x) = true := by simp [varC, Zp, noSh, cI, cS, cB, xz]
attribute [go_sem] zoA zgH
theorem zgG (l : List VarD) : xv (rows (varC false) l) = true := yZ zgH l
attribute [go_sem] zgG
theorem zmG : fo Tryz.prog 166 0 = some 0 := by kernel_rfl
theorem zmF : fo Tryz.prog 166 1 = some 1 := by kernel_rfl
theorem zns : isR Tryz.prog 166 = some true := by kernel_rfl
theorem znm : szT Tryz.prog 166 = 2 := by kernel_rfl
theorem znc : zeroCells Tryz.prog 166 = some [.string ⟨#[]⟩, .int .i64 0] := by kernel_rfl
theorem zoi : ZB Tryz.prog 166 = 24 := by kernel_rfl
theorem zmd : xJ Tryz.prog 166 = some [(0, 1), (1, 1)] := by kernel_rfl
attribute [go_sem] zmG zmF zns znm znc zoi zmd
theorem zoa : elT Tryz.prog 113 = some 166 := by kernel_rfl
theorem zlZ : isR Tryz.prog 113 = some false := by kernel_rfl
theorem zlN : szT Tryz.prog 113 = 1 := by kernel_rfl
attribute [go_sem] zoa zlZ zlN
structure EffectD where
 name : ByteArray
 bits : Int
def zca (sh : Bool) (x : EffectD) : List D := [cS x.name, cI x.bits]
theorem zlg (sh : Bool) : shF (zca sh) = zca true := by funext x; simp [shF, zca, shL, shD, cI, cS, cB, xy, Zs]
theorem zct (x : EffectD) : Zp (zca false x) = true := by simp [zca, Zp, noSh, cI, cS, cB, xz]
attribute [go_sem] zlg zct
theorem zej (l : List EffectD) : xv (rows (zca false) l) = true := yZ zct l
attribute [go_sem] zej
theorem zjl (x : InsD) (h : zgj x <= 1048576) : zw Tryz.prog 125 [.ro (insW x), .ro (insW x)] (fun rs st => rs = [(false, [cB true])]) := by
 unfold zgj at h
 refine zp (fn := Tryz.f125) (c := Tryz.f125.body.getD .skip) (res := [.tm 4]) (n := 41) zg (by kernel_rfl) (by rfl) (by kernel_rfl) (by rfl) (by rfl) (by simp [zq]) (fun C hpin hfull => ?_)
 simp +decide only [Tryz.f125, insW, bne_self_eq_false, hpin, go_sem, reduceAdd, reduceMul]
 refine ze (zhW x.args (by omega)) hpin ?_
 simp +decide only [bne_self_eq_false, hpin, go_sem, reduceAdd, reduceMul]
theorem zox (l : List InsD) (h : l.length + sumN zgj l <= 1048576) : zw Tryz.prog 43 [.ro (.imm 139 (rows (insC true) l)), .ro (.imm 139 (rows (insC true) l))] (fun rs st => rs = [(false, [cB true])]) := by
 refine zp (fn := Tryz.f43) (c := Tryz.f43.body.getD .skip) (res := [.tm 4]) (n := 27) zg (by kernel_rfl) (by rfl) (by kernel_rfl) (by rfl) (by rfl) (by simp [zq]) (fun C hpin hfull => ?_)
 simp +decide only [Tryz.f43, bne_self_eq_false, hpin, go_sem, reduceAdd, reduceMul]
 refine Tri.loop (ι := Nat) (fun i => i <= l.length) (fun i => ⟨27, [(0, .imm 139 (rows (insC true) l)), (1, .imm 139 (rows (insC true) l)), (5, vI i)], []⟩) (fun i => l.length - i) 0 (by simp) ?_ ?_
 · refine Ent.weak ?_ ?_ ?_ ?_ <;> simp +decide [subT, subB, zl, zk, St.get, look, vI, vB]
 · rintro i hi
   refine zf zg _ ?_
   by_cases h' : i < l.length
   · have e : ((i : Int) < (l.length : Int)) = True := by simp [h']
     have hc := ZI zgj h'
     simp +decide only [e, vI, hpin, go_sem, reduceAdd, reduceMul]
     refine Tri.sched zg [(0, true), (1, true), (4, true), (5, true), (2, true), (6, true), (3, true), (7, true), (8, false), (9, false)] zT (by kernel_rfl) (fun C2 hC2 => ?_)
     have hp2 := zU hC2 hpin
     simp +decide only [e, h', zj _ _ h', Int.natCast_nonneg, vI, insC, hp2, go_sem, reduceAdd, reduceMul]
     refine ze (zjl l[i] (by omega)) hp2 ?_
     simp +decide only [insW, hp2, go_sem, reduceAdd, reduceMul]
     refine ⟨i + 1, h', by omega, Ent.weak ?_ ?_ ?_ ?_⟩ <;> simp +decide [subT, subB, zl, zk, St.get, look, w64s (n := l.length) h' (by omega), vI, vB]
   · have hil : i = l.length := by omega
     subst hil
     have e : ((l.length : Int) < (l.length : Int)) = False := by simp
     simp +decide only [e, vI, hpin, go_sem, reduceAdd, reduceMul]
theorem zgO (x : NodeD) (left : Int) (h0 : 0 <= left) (h1 : left < 1152921504606846976) (hs : XH x) : zw Tryz.prog 103 [.ro (ziP x), .ro (.sc (.int .i64 left))] (fun rs st => rs = [(false, [cI (sub left (zF x))])]) := by
 refine zp (fn := Tryz.f103) (c := Tryz.f103.body.getD .skip) (res := [.tm 4]) (n := 19) zg (by kernel_rfl) (by rfl) (by kernel_rfl) (by rfl) (by rfl) (by simp [zq]) (fun C hpin hfull => ?_)
 obtain ⟨s0, s1⟩ := hs
 have w0 : IntKind.i64.wrap (left - (x.name.size : Int)) = left - x.name.size := w64 (by omega) (by omega)
 simp +decide only [Tryz.f103, ziP, w0, hpin, go_sem, reduceAdd, reduceMul]
 by_cases h0_ : left - ((x.name.size : Nat) : Int) < 0
 · have e : sub left (zF x) = -1 := yO (by unfold zF; omega)
   rw [e]
   simp +decide only [h0_, hpin, go_sem, reduceAdd, reduceMul]
 have n0 : (left - ((x.name.size : Nat) : Int) < 0) = False := by simpa using h0_
 simp +decide only [n0, hpin, go_sem, reduceAdd, reduceMul]
 refine ze (zlB x.kids (left - ((x.name.size : Nat) : Int)) (by omega) (by omega) s1) hpin ?_
 by_cases h1_ : left - ((x.name.size : Nat) : Int) - ((x.kids.length : Nat) : Int) < 0
 · have e : sub left (zF x) = -1 := yO (by unfold zF; omega)
   rw [e]
   rw [yO h1_]
   simp +decide only [h1_, hpin, go_sem, reduceAdd, reduceMul]
 rw [xR h1_]
 have n1 : (left - ((x.name.size : Nat) : Int) - ((x.kids.length : Nat) : Int) < 0) = False := by simpa using h1_
 have e : sub left (zF x) = left - ((x.name.size : Nat) : Int) - ((x.kids.length : Nat) : Int) := by rw [xR (by unfold zF; omega)]; unfold zF; omega
 rw [e]
 simp +decide only [n1, hpin, go_sem, reduceAdd, reduceMul]
theorem zfG (l : List NodeD) (left : Int) (h0 : 0 <= left) (h1 : left < 1152921504606846976) (hl : l.length < 1152921504606846976) (hs : ∀ y ∈ l, XH y) : zw Tryz.prog 32 [.ro (.imm 126 (rows zbO l)), .ro (.sc (.int .i64 left))] (fun rs st => rs = [(false, [cI (sub left (l.length + sumN zF l))])]) := by
 refine zp (fn := Tryz.f32) (c := Tryz.f32.body.getD .skip) (res := [.tm 4]) (n := 27) zg (by kernel_rfl) (by rfl) (by kernel_rfl) (by rfl) (by rfl) (by simp [zq]) (fun C hpin hfull => ?_)
 have w0 : IntKind.i64.wrap (left - (l.length : Int)) = left - l.length := w64 (by omega) (by omega)
 simp +decide only [Tryz.f32, w0, hpin, go_sem, reduceAdd, reduceMul]
 by_cases hn : left - (l.length : Int) < 0
 · have e : sub left (l.length + sumN zF l) = -1 := yO (by omega)
   rw [e]
   simp +decide only [hn, hpin, go_sem, reduceAdd, reduceMul]
 have nn : (left - (l.length : Int) < 0) = False := by simpa using hn
 simp +decide only [nn, hpin, go_sem, reduceAdd, reduceMul]
 refine Tri.loop (ι := Nat) (fun i => i <= l.length /\ 0 <= left - l.length - (sumN zF (l.take i) : Nat)) (fun i => ⟨27, [(0, .imm 126 (rows zbO l)), (1, vI (left - l.length - (sumN zF (l.take i) : Nat))), (5, vI i)], []⟩) (fun i => l.length - i) 0 ⟨Nat.zero_le _, by rw [zfH]; omega⟩ ?_ ?_
 · refine Ent.weak ?_ ?_ ?_ ?_ <;> simp +decide [subT, subB, zl, zk, zn, St.get, look, vI, vB, vS, sumN]
 · rintro i ⟨hi, hp⟩
   refine zf zg _ ?_
   by_cases h : i < l.length
   · have e : ((i : Int) < (l.length : Int)) = True := by simp [h]
     simp +decide only [e, zj _ _ h, Int.natCast_nonneg, vI, zbO, hpin, go_sem, reduceAdd, reduceMul]
     refine ze (zgO l[i] (left - l.length - (sumN zF (l.take i) : Nat)) hp (by omega) (hs _ (List.getElem_mem h))) hpin ?_
     have hle := ZZ zF l (i + 1)
     have htk := xr zF l h
     by_cases h3 : left - l.length - (sumN zF (l.take i) : Nat) - ((zF l[i] : Nat) : Int) < 0
     · have e : sub left (l.length + sumN zF l) = -1 := yO (by omega)
       rw [e, yO h3]
       simp +decide only [ziP, hpin, go_sem, reduceAdd, reduceMul]
     · rw [xR h3]
       have n3 : (left - l.length - (sumN zF (l.take i) : Nat) - ((zF l[i] : Nat) : Int) < 0) = False := by simpa using h3
       simp +decide only [n3, ziP, hpin, go_sem, reduceAdd, reduceMul]
       have e4 : left - l.length - (sumN zF (l.take i) : Nat) - ((zF l[i] : Nat) : Int) = left - l.length - (sumN zF (l.take (i + 1)) : Nat) := by omega
       rw [e4]
       exact ⟨i + 1, ⟨h, by omega⟩, by omega, Ent.weak (by simp +decide [subT, St.get, look, w64s (n := l.length) h (by omega), vI]) (by simp [subB]) (by simp) (by simp [zl, zk, vI])⟩
   · have hil : i = l.length := by omega
     subst hil
     have e : ((l.length : Int) < (l.length : Int)) = False := by simp
     have e2 : sub left (l.length + sumN zF l) = left - l.length - (sumN zF l : Nat) := by
       rw [List.take_length] at hp
       rw [xR (by omega)]; omega
     rw [e2]
     simp +decide only [e, vI, hpin, go_sem, reduceAdd, reduceMul]
theorem zgL (x : NodeD) (h : zF x <= 1048576) : zw Tryz.prog 114 [.ro (ziP x)] (fun rs st => rs = [(true, zh false x)]) := by
 unfold zF at h
 refine zp (fn := Tryz.f114) (c := Tryz.f114.body.getD .skip) (res := [.ce 2 83]) (n := 18) zg (by kernel_rfl) (by rfl) (by kernel_rfl) (by rfl) (by rfl) (by simp [zq]) (fun C hpin hfull => ?_)
 simp +decide only [Tryz.f114, ziP, hpin, go_sem, reduceAdd, reduceMul]
 refine ze (zlx x.kids (by omega)) hpin ?_
 simp +decide only [zh, hpin, go_sem, reduceAdd, reduceMul]
theorem zfA (l : List NodeD) (h : l.length + sumN zF l <= 1048576) : zw Tryz.prog 37 [.ro (.imm 126 (rows zbO l))] (fun rs st => rs = [(false, [.row false 83 (rows (zh false) l)])]) := by
 refine zp (fn := Tryz.f37) (c := Tryz.f37.body.getD .skip) (res := [.tm 2]) (n := 23) zg (by kernel_rfl) (by rfl) (by kernel_rfl) (by rfl) (by rfl) (by simp [zq]) (fun C hpin hfull => ?_)
 have e1 : (56 : Nat) * (l.length : Int) <= 281474976710656 := by omega
 simp +decide only [Tryz.f37, hpin, go_sem, reduceAdd, reduceMul]
 refine ⟨by omega, by omega, by omega, ?_⟩
 let Z : List D := [.sc (.int .i64 0), .sc (.int .i64 0), .sc (.string ⟨#[]⟩), .sc (.slice none 0 0)]
 refine Tri.loop (ι := Nat) (fun i => i <= l.length) (fun i => ⟨23, [(0, .imm 126 (rows zbO l)), (2, .ref 2 [] 0), (3, .ref 3 [] l.length), (4, vI i)], [(3, .row 83 (zbz (zh false) Z l i)), (2, .row 83 [])]⟩) (fun i => l.length - i) 0 (by simp) ?_ ?_
 · refine Ent.weak ?_ ?_ ?_ ?_ <;> simp +decide [subT, subB, zl, zk, St.get, look, vI, vB, Z, zbX]
 · rintro i hi
   refine zf zg _ ?_
   by_cases h' : i < l.length
   · have e : ((i : Int) < (l.length : Int)) = True := by simp [h']
     have hc := ZI zF h'
     simp +decide only [e, h', zj _ _ h', Int.natCast_nonneg, vI, zbO, hpin, go_sem, reduceAdd, reduceMul]
     refine ze (zgL l[i] (by omega)) hpin ?_
     simp +decide only [e, h', ziP, zh, Zc (zh false) Z l hi, zef (zh false) Z l h', Int.natCast_nonneg, Z, hpin, go_sem, reduceAdd, reduceMul]
     have e4 := zee (zh false) Z l h'
     simp only [zh, cI, cS, cB] at e4
     refine ⟨i + 1, h', by omega, Ent.weak ?_ ?_ ?_ ?_⟩
     · simp +decide [subT, St.get, look, w64s (n := l.length) h' (by omega), vI, vB]
     · simp +decide [subB, look, e4, cI, Z]
     all_goals simp +decide [zl, zk, look, vI]
   · have hil : i = l.length := by omega
     subst hil
     have e : ((l.length : Int) < (l.length : Int)) = False := by simp
     simp +decide only [e, Zc (zh false) Z l (Nat.le_refl _), zeg, vI, hpin, go_sem, reduceAdd, reduceMul]
theorem zhV (x : NodeD) (h : zF x <= 1048576) : zw Tryz.prog 126 [.ro (zL x), .ro (zL x)] (fun rs st => rs = [(false, [cB true])]) := by
 unfold zF at h
 refine zp (fn := Tryz.f126) (c := Tryz.f126.body.getD .skip) (res := [.tm 4]) (n := 26) zg (by kernel_rfl) (by rfl) (by kernel_rfl) (by rfl) (by rfl) (by simp [zq]) (fun C hpin hfull => ?_)
 simp +decide only [Tryz.f126, zL, bne_self_eq_false, hpin, go_sem, reduceAdd, reduceMul]
 refine ze (zhW x.kids (by omega)) hpin ?_
 simp +decide only [bne_self_eq_false, hpin, go_sem, reduceAdd, reduceMul]
theorem zgu (l : List NodeD) (h : l.length + sumN zF l <= 1048576) : zw Tryz.prog 44 [.ro (.imm 83 (rows (zh true) l)), .ro (.imm 83 (rows (zh true) l))] (fun rs st => rs = [(false, [cB true])]) := by
 refine zp (fn := Tryz.f44) (c := Tryz.f44.body.getD .skip) (res := [.tm 4]) (n := 27) zg (by kernel_rfl) (by rfl) (by kernel_rfl) (by rfl) (by rfl) (by simp [zq]) (fun C hpin hfull => ?_)
 simp +decide only [Tryz.f44, bne_self_eq_false, hpin, go_sem, reduceAdd, reduceMul]
 refine Tri.loop (ι := Nat) (fun i => i <= l.length) (fun i => ⟨27, [(0, .imm 83 (rows (zh true) l)), (1, .imm 83 (rows (zh true) l)), (5, vI i)], []⟩) (fun i => l.length - i) 0 (by simp) ?_ ?_
 · refine Ent.weak ?_ ?_ ?_ ?_ <;> simp +decide [subT, subB, zl, zk, St.get, look, vI, vB]
 · rintro i hi
   refine zf zg _ ?_
   by_cases h' : i < l.length
   · have e : ((i : Int) < (l.length : Int)) = True := by simp [h']
     have hc := ZI zF h'
     simp +decide only [e, vI, hpin, go_sem, reduceAdd, reduceMul]
     refine Tri.sched zg [(0, true), (1, true), (4, true), (5, true), (2, true), (6, true), (3, true), (7, true), (8, false), (9, false)] zT (by kernel_rfl) (fun C2 hC2 => ?_)
     have hp2 := zU hC2 hpin
     simp +decide only [e, h', zj _ _ h', Int.natCast_nonneg, vI, zh, hp2, go_sem, reduceAdd, reduceMul]
     refine ze (zhV l[i] (by omega)) hp2 ?_
     simp +decide only [zL, hp2, go_sem, reduceAdd, reduceMul]
     refine ⟨i + 1, h', by omega, Ent.weak ?_ ?_ ?_ ?_⟩ <;> simp +decide [subT, subB, zl, zk, St.get, look, w64s (n := l.length) h' (by omega), vI, vB]
   · have hil : i = l.length := by omega
     subst hil
     have e : ((l.length : Int) < (l.length : Int)) = False := by simp
     simp +decide only [e, vI, hpin, go_sem, reduceAdd, reduceMul]
theorem zfF (x : ParamD) (left : Int) (h0 : 0 <= left) (h1 : left < 1152921504606846976) (hs : ZP x) : zw Tryz.prog 193 [.ro (zdx x), .ro (.sc (.int .i64 left))] (fun rs st => rs = [(false, [cI (sub left (zJ x))])]) := by
 refine zp (fn := Tryz.f193) (c := Tryz.f193.body.getD .skip) (res := [.tm 4]) (n := 13) zg (by kernel_rfl) (by rfl) (by kernel_rfl) (by rfl) (by rfl) (by simp [zq]) (fun C hpin hfull => ?_)
 have s0 := hs
 unfold ZP at s0
 have w0 : IntKind.i64.wrap (left - (x.name.size : Int)) = left - x.name.size := w64 (by omega) (by omega)
 simp +decide only [Tryz.f193, zdx, w0, hpin, go_sem, reduceAdd, reduceMul]
 by_cases h0_ : left - ((x.name.size : Nat) : Int) < 0
 · have e : sub left (zJ x) = -1 := yO (by unfold zJ; omega)
   rw [e]
   simp +decide only [h0_, hpin, go_sem, reduceAdd, reduceMul]
 have n0 : (left - ((x.name.size : Nat) : Int) < 0) = False := by simpa using h0_
 have e : sub left (zJ x) = left - ((x.name.size : Nat) : Int) := by rw [xR (by unfold zJ; omega)]; unfold zJ; omega
 rw [e]
 simp +decide only [n0, hpin, go_sem, reduceAdd, reduceMul]
theorem zey (l : List ParamD) (left : Int) (h0 : 0 <= left) (h1 : left < 1152921504606846976) (hl : l.length < 1152921504606846976) (hs : ∀ y ∈ l, ZP y) : zw Tryz.prog 163 [.ro (.imm 188 (rows YF l)), .ro (.sc (.int .i64 left))] (fun rs st => rs = [(false, [cI (sub left (l.length + sumN zJ l))])]) := by
 refine zp (fn := Tryz.f163) (c := Tryz.f163.body.getD .skip) (res := [.tm 4]) (n := 27) zg (by kernel_rfl) (by rfl) (by kernel_rfl) (by rfl) (by rfl) (by simp [zq]) (fun C hpin hfull => ?_)
 have w0 : IntKind.i64.wrap (left - (l.length : Int)) = left - l.length := w64 (by omega) (by omega)
 simp +decide only [Tryz.f163, w0, hpin, go_sem, reduceAdd, reduceMul]
 by_cases hn : left - (l.length : Int) < 0
 · have e : sub left (l.length + sumN zJ l) = -1 := yO (by omega)
   rw [e]
   simp +decide only [hn, hpin, go_sem, reduceAdd, reduceMul]
 have nn : (left - (l.length : Int) < 0) = False := by simpa using hn
 simp +decide only [nn, hpin, go_sem, reduceAdd, reduceMul]
 refine Tri.loop (ι := Nat) (fun i => i <= l.length /\ 0 <= left - l.length - (sumN zJ (l.take i) : Nat)) (fun i => ⟨27, [(0, .imm 188 (rows YF l)), (1, vI (left - l.length - (sumN zJ (l.take i) : Nat))), (5, vI i)], []⟩) (fun i => l.length - i) 0 ⟨Nat.zero_le _, by rw [zfH]; omega⟩ ?_ ?_
 · refine Ent.weak ?_ ?_ ?_ ?_ <;> simp +decide [subT, subB, zl, zk, zn, St.get, look, vI, vB, vS, sumN]
 · rintro i ⟨hi, hp⟩
   refine zf zg _ ?_
   by_cases h : i < l.length
   · have e : ((i : Int) < (l.length : Int)) = True := by simp [h]
     simp +decide only [e, zj _ _ h, Int.natCast_nonneg, vI, YF, hpin, go_sem, reduceAdd, reduceMul]
     refine ze (zfF l[i] (left - l.length - (sumN zJ (l.take i) : Nat)) hp (by omega) (hs _ (List.getElem_mem h))) hpin ?_
     have hle := ZZ zJ l (i + 1)
     have htk := xr zJ l h
     by_cases h3 : left - l.length - (sumN zJ (l.take i) : Nat) - ((zJ l[i] : Nat) : Int) < 0
     · have e : sub left (l.length + sumN zJ l) = -1 := yO (by omega)
       rw [e, yO h3]
       simp +decide only [zdx, hpin, go_sem, reduceAdd, reduceMul]
     · rw [xR h3]
       have n3 : (left - l.length - (sumN zJ (l.take i) : Nat) - ((zJ l[i] : Nat) : Int) < 0) = False := by simpa using h3
       simp +decide only [n3, zdx, hpin, go_sem, reduceAdd, reduceMul]
       have e4 : left - l.length - (sumN zJ (l.take i) : Nat) - ((zJ l[i] : Nat) : Int) = left - l.length - (sumN zJ (l.take (i + 1)) : Nat) := by omega
       rw [e4]
       exact ⟨i + 1, ⟨h, by omega⟩, by omega, Ent.weak (by simp +decide [subT, St.get, look, w64s (n := l.length) h (by omega), vI]) (by simp [subB]) (by simp) (by simp [zl, zk, vI])⟩
   · have hil : i = l.length := by omega
     subst hil
     have e : ((l.length : Int) < (l.length : Int)) = False := by simp
     have e2 : sub left (l.length + sumN zJ l) = left - l.length - (sumN zJ l : Nat) := by
       rw [List.take_length] at hp
       rw [xR (by omega)]; omega
     rw [e2]
     simp +decide only [e, vI, hpin, go_sem, reduceAdd, reduceMul]
theorem zfz (x : ParamD) (h : zJ x <= 1048576) : zw Tryz.prog 203 [.ro (zdx x)] (fun rs st => rs = [(true, zy false x)]) := by
 unfold zJ at h
 refine zp (fn := Tryz.f203) (c := Tryz.f203.body.getD .skip) (res := [.ce 2 107]) (n := 11) zg (by kernel_rfl) (by rfl) (by kernel_rfl) (by rfl) (by rfl) (by simp [zq]) (fun C hpin hfull => ?_)
 simp +decide only [Tryz.f203, zdx, zy, hpin, go_sem, reduceAdd, reduceMul]
theorem zex (l : List ParamD) (h : l.length + sumN zJ l <= 1048576) : zw Tryz.prog 174 [.ro (.imm 188 (rows YF l))] (fun rs st => rs = [(false, [.row false 107 (rows (zy false) l)])]) := by
 refine zp (fn := Tryz.f174) (c := Tryz.f174.body.getD .skip) (res := [.tm 2]) (n := 23) zg (by kernel_rfl) (by rfl) (by kernel_rfl) (by rfl) (by rfl) (by simp [zq]) (fun C hpin hfull => ?_)
 have e1 : (24 : Nat) * (l.length : Int) <= 281474976710656 := by omega
 simp +decide only [Tryz.f174, hpin, go_sem, reduceAdd, reduceMul]
 refine ⟨by omega, by omega, by omega, ?_⟩
 let Z : List D := [.sc (.string ⟨#[]⟩), .sc (.int .i64 0)]
 refine Tri.loop (ι := Nat) (fun i => i <= l.length) (fun i => ⟨23, [(0, .imm 188 (rows YF l)), (2, .ref 2 [] 0), (3, .ref 3 [] l.length), (4, vI i)], [(3, .row 107 (zbz (zy false) Z l i)), (2, .row 107 [])]⟩) (fun i => l.length - i) 0 (by simp) ?_ ?_
 · refine Ent.weak ?_ ?_ ?_ ?_ <;> simp +decide [subT, subB, zl, zk, St.get, look, vI, vB, Z, zbX]
 · rintro i hi
   refine zf zg _ ?_
   by_cases h' : i < l.length
   · have e : ((i : Int) < (l.length : Int)) = True := by simp [h']
     have hc := ZI zJ h'
     simp +decide only [e, h', zj _ _ h', Int.natCast_nonneg, vI, YF, hpin, go_sem, reduceAdd, reduceMul]
     refine ze (zfz l[i] (by omega)) hpin ?_
     simp +decide only [e, h', zdx, zy, Zc (zy false) Z l hi, zef (zy false) Z l h', Int.natCast_nonneg, Z, hpin, go_sem, reduceAdd, reduceMul]
     have e4 := zee (zy false) Z l h'
     simp only [zy, cI, cS, cB] at e4
     refine ⟨i + 1, h', by omega, Ent.weak ?_ ?_ ?_ ?_⟩
     · simp +decide [subT, St.get, look, w64s (n := l.length) h' (by omega), vI, vB]
     · simp +decide [subB, look, e4, cI, Z]
     all_goals simp +decide [zl, zk, look, vI]
   · have hil : i = l.length := by omega
     subst hil
     have e : ((l.length : Int) < (l.length : Int)) = False := by simp
     simp +decide only [e, Zc (zy false) Z l (Nat.le_refl _), zeg, vI, hpin, go_sem, reduceAdd, reduceMul]
theorem zgt (x : ParamD) (h : zJ x <= 1048576) : zw Tryz.prog 209 [.ro (zjP x), .ro (zjP x)] (fun rs st => rs = [(false, [cB true])]) := by
 unfold zJ at h
 refine zp (fn := Tryz.f209) (c := Tryz.f209.body.getD .skip) (res := [.tm 4]) (n := 15) zg (by kernel_rfl) (by rfl) (by kernel_rfl) (by rfl) (by rfl) (by simp [zq]) (fun C hpin hfull => ?_)
 simp +decide only [Tryz.f209, zjP, bne_self_eq_false, hpin, go_sem, reduceAdd, reduceMul]
theorem zeM (l : List ParamD) (h : l.length + sumN zJ l <= 1048576) : zw Tryz.prog 183 [.ro (.imm 107 (rows (zy true) l)), .ro (.imm 107 (rows (zy true) l))] (fun rs st => rs = [(false, [cB true])]) := by
 refine zp (fn := Tryz.f183) (c := Tryz.f183.body.getD .skip) (res := [.tm 4]) (n := 27) zg (by kernel_rfl) (by rfl) (by kernel_rfl) (by rfl) (by rfl) (by simp [zq]) (fun C hpin hfull => ?_)
 simp +decide only [Tryz.f183, bne_self_eq_false, hpin, go_sem, reduceAdd, reduceMul]
 refine Tri.loop (ι := Nat) (fun i => i <= l.length) (fun i => ⟨27, [(0, .imm 107 (rows (zy true) l)), (1, .imm 107 (rows (zy true) l)), (5, vI i)], []⟩) (fun i => l.length - i) 0 (by simp) ?_ ?_
 · refine Ent.weak ?_ ?_ ?_ ?_ <;> simp +decide [subT, subB, zl, zk, St.get, look, vI, vB]
 · rintro i hi
   refine zf zg _ ?_
   by_cases h' : i < l.length
   · have e : ((i : Int) < (l.length : Int)) = True := by simp [h']
     have hc := ZI zJ h'
     simp +decide only [e, vI, hpin, go_sem, reduceAdd, reduceMul]
     refine Tri.sched zg [(0, true), (1, true), (4, true), (5, true), (2, true), (6, true), (3, true), (7, true), (8, false), (9, false)] zT (by kernel_rfl) (fun C2 hC2 => ?_)
     have hp2 := zU hC2 hpin
     simp +decide only [e, h', zj _ _ h', Int.natCast_nonneg, vI, zy, hp2, go_sem, reduceAdd, reduceMul]
     refine ze (zgt l[i] (by omega)) hp2 ?_
     simp +decide only [zjP, hp2, go_sem, reduceAdd, reduceMul]
     refine ⟨i + 1, h', by omega, Ent.weak ?_ ?_ ?_ ?_⟩ <;> simp +decide [subT, subB, zl, zk, St.get, look, w64s (n := l.length) h' (by omega), vI, vB]
   · have hil : i = l.length := by omega
     subst hil
     have e : ((l.length : Int) < (l.length : Int)) = False := by simp
     simp +decide only [e, vI, hpin, go_sem, reduceAdd, reduceMul]
theorem zkt (x : FnD) (left : Int) (h0 : 0 <= left) (h1 : left < 1152921504606846976) (hs : zeb x) : zw Tryz.prog 104 [.ro (fnV x), .ro (.sc (.int .i64 left))] (fun rs st => rs = [(false, [cI (sub left (ya x))])]) := by
 refine zp (fn := Tryz.f104) (c := Tryz.f104.body.getD .skip) (res := [.tm 4]) (n := 19) zg (by kernel_rfl) (by rfl) (by kernel_rfl) (by rfl) (by rfl) (by simp [zq]) (fun C hpin hfull => ?_)
 obtain ⟨s0, s1, q1⟩ := hs
 have w0 : IntKind.i64.wrap (left - (x.name.size : Int)) = left - x.name.size := w64 (by omega) (by omega)
 simp +decide only [Tryz.f104, fnV, w0, hpin, go_sem, reduceAdd, reduceMul]
 by_cases h0_ : left - ((x.name.size : Nat) : Int) < 0
 · have e : sub left (ya x) = -1 := yO (by unfold ya; omega)
   rw [e]
   simp +decide only [h0_, hpin, go_sem, reduceAdd, reduceMul]
 have n0 : (left - ((x.name.size : Nat) : Int) < 0) = False := by simpa using h0_
 simp +decide only [n0, hpin, go_sem, reduceAdd, reduceMul]
 refine ze (zey x.params (left - ((x.name.size : Nat) : Int)) (by omega) (by omega) s1 q1) hpin ?_
 by_cases h1_ : left - ((x.name.size : Nat) : Int) - (((x.params.length + sumN zJ x.params) : Nat) : Int) < 0
 · have e : sub left (ya x) = -1 := yO (by unfold ya; omega)
   rw [e]
   rw [yO h1_]
   simp +decide only [h1_, hpin, go_sem, reduceAdd, reduceMul]
 rw [xR h1_]
 have n1 : (left - ((x.name.size : Nat) : Int) - (((x.params.length + sumN zJ x.params) : Nat) : Int) < 0) = False := by simpa using h1_
 have e : sub left (ya x) = left - ((x.name.size : Nat) : Int) - (((x.params.length + sumN zJ x.params) : Nat) : Int) := by rw [xR (by unfold ya; omega)]; unfold ya; omega
 rw [e]
 simp +decide only [n1, hpin, go_sem, reduceAdd, reduceMul]
theorem zit (l : List FnD) (left : Int) (h0 : 0 <= left) (h1 : left < 1152921504606846976) (hl : l.length < 1152921504606846976) (hs : ∀ y ∈ l, zeb y) : zw Tryz.prog 33 [.ro (.imm 130 (rows fnL l)), .ro (.sc (.int .i64 left))] (fun rs st => rs = [(false, [cI (sub left (l.length + sumN ya l))])]) := by
 refine zp (fn := Tryz.f33) (c := Tryz.f33.body.getD .skip) (res := [.tm 4]) (n := 27) zg (by kernel_rfl) (by rfl) (by kernel_rfl) (by rfl) (by rfl) (by simp [zq]) (fun C hpin hfull => ?_)
 have w0 : IntKind.i64.wrap (left - (l.length : Int)) = left - l.length := w64 (by omega) (by omega)
 simp +decide only [Tryz.f33, w0, hpin, go_sem, reduceAdd, reduceMul]
 by_cases hn : left - (l.length : Int) < 0
 · have e : sub left (l.length + sumN ya l) = -1 := yO (by omega)
   rw [e]
   simp +decide only [hn, hpin, go_sem, reduceAdd, reduceMul]
 have nn : (left - (l.length : Int) < 0) = False := by simpa using hn
 simp +decide only [nn, hpin, go_sem, reduceAdd, reduceMul]
 refine Tri.loop (ι := Nat) (fun i => i <= l.length /\ 0 <= left - l.length - (sumN ya (l.take i) : Nat)) (fun i => ⟨27, [(0, .imm 130 (rows fnL l)), (1, vI (left - l.length - (sumN ya (l.take i) : Nat))), (5, vI i)], []⟩) (fun i => l.length - i) 0 ⟨Nat.zero_le _, by rw [zfH]; omega⟩ ?_ ?_
 · refine Ent.weak ?_ ?_ ?_ ?_ <;> simp +decide [subT, subB, zl, zk, zn, St.get, look, vI, vB, vS, sumN]
 · rintro i ⟨hi, hp⟩
   refine zf zg _ ?_
   by_cases h : i < l.length
   · have e : ((i : Int) < (l.length : Int)) = True := by simp [h]
     simp +decide only [e, zj _ _ h, Int.natCast_nonneg, vI, fnL, hpin, go_sem, reduceAdd, reduceMul]
     refine ze (zkt l[i] (left - l.length - (sumN ya (l.take i) : Nat)) hp (by omega) (hs _ (List.getElem_mem h))) hpin ?_
     have hle := ZZ ya l (i + 1)
     have htk := xr ya l h
     by_cases h3 : left - l.length - (sumN ya (l.take i) : Nat) - ((ya l[i] : Nat) : Int) < 0
     · have e : sub left (l.length + sumN ya l) = -1 := yO (by omega)
       rw [e, yO h3]
       simp +decide only [fnV, hpin, go_sem, reduceAdd, reduceMul]
     · rw [xR h3]
       have n3 : (left - l.length - (sumN ya (l.take i) : Nat) - ((ya l[i] : Nat) : Int) < 0) = False := by simpa using h3
       simp +decide only [n3, fnV, hpin, go_sem, reduceAdd, reduceMul]
       have e4 : left - l.length - (sumN ya (l.take i) : Nat) - ((ya l[i] : Nat) : Int) = left - l.length - (sumN ya (l.take (i + 1)) : Nat) := by omega
       rw [e4]
       exact ⟨i + 1, ⟨h, by omega⟩, by omega, Ent.weak (by simp +decide [subT, St.get, look, w64s (n := l.length) h (by omega), vI]) (by simp [subB]) (by simp) (by simp [zl, zk, vI])⟩
   · have hil : i = l.length := by omega
     subst hil
     have e : ((l.length : Int) < (l.length : Int)) = False := by simp
     have e2 : sub left (l.length + sumN ya l) = left - l.length - (sumN ya l : Nat) := by
       rw [List.take_length] at hp
       rw [xR (by omega)]; omega
     rw [e2]
     simp +decide only [e, vI, hpin, go_sem, reduceAdd, reduceMul]
theorem zks (x : FnD) (h : ya x <= 1048576) : zw Tryz.prog 115 [.ro (fnV x)] (fun rs st => rs = [(true, fnC false x)]) := by
 unfold ya at h
 refine zp (fn := Tryz.f115) (c := Tryz.f115.body.getD .skip) (res := [.ce 2 104]) (n := 21) zg (by kernel_rfl) (by rfl) (by kernel_rfl) (by rfl) (by rfl) (by simp [zq]) (fun C hpin hfull => ?_)
 simp +decide only [Tryz.f115, fnV, hpin, go_sem, reduceAdd, reduceMul]
 refine ze (zex x.params (by omega)) hpin ?_
 simp +decide only [fnC, hpin, go_sem, reduceAdd, reduceMul]
theorem zis (l : List FnD) (h : l.length + sumN ya l <= 1048576) : zw Tryz.prog 38 [.ro (.imm 130 (rows fnL l))] (fun rs st => rs = [(false, [.row false 104 (rows (fnC false) l)])]) := by
 refine zp (fn := Tryz.f38) (c := Tryz.f38.body.getD .skip) (res := [.tm 2]) (n := 23) zg (by kernel_rfl) (by rfl) (by kernel_rfl) (by rfl) (by rfl) (by simp [zq]) (fun C hpin hfull => ?_)
 have e1 : (64 : Nat) * (l.length : Int) <= 281474976710656 := by omega
 simp +decide only [Tryz.f38, hpin, go_sem, reduceAdd, reduceMul]
 refine ⟨by omega, by omega, by omega, ?_⟩
 let Z : List D := [.sc (.string ⟨#[]⟩), .sc (.slice none 0 0), .sc (.int .i64 0), .sc (.int .i64 0), .sc (.int .i64 0)]
 refine Tri.loop (ι := Nat) (fun i => i <= l.length) (fun i => ⟨23, [(0, .imm 130 (rows fnL l)), (2, .ref 2 [] 0), (3, .ref 3 [] l.length), (4, vI i)], [(3, .row 104 (zbz (fnC false) Z l i)), (2, .row 104 [])]⟩) (fun i => l.length - i) 0 (by simp) ?_ ?_
 · refine Ent.weak ?_ ?_ ?_ ?_ <;> simp +decide [subT, subB, zl, zk, St.get, look, vI, vB, Z, zbX]
 · rintro i hi
   refine zf zg _ ?_
   by_cases h' : i < l.length
   · have e : ((i : Int) < (l.length : Int)) = True := by simp [h']
     have hc := ZI ya h'
     simp +decide only [e, h', zj _ _ h', Int.natCast_nonneg, vI, fnL, hpin, go_sem, reduceAdd, reduceMul]
     refine ze (zks l[i] (by omega)) hpin ?_
     simp +decide only [e, h', fnV, fnC, Zc (fnC false) Z l hi, zef (fnC false) Z l h', Int.natCast_nonneg, Z, hpin, go_sem, reduceAdd, reduceMul]
     have e4 := zee (fnC false) Z l h'
     simp only [fnC, cI, cS, cB] at e4
     refine ⟨i + 1, h', by omega, Ent.weak ?_ ?_ ?_ ?_⟩
     · simp +decide [subT, St.get, look, w64s (n := l.length) h' (by omega), vI, vB]
     · simp +decide [subB, look, e4, cI, Z]
     all_goals simp +decide [zl, zk, look, vI]
   · have hil : i = l.length := by omega
     subst hil
     have e : ((l.length : Int) < (l.length : Int)) = False := by simp
     simp +decide only [e, Zc (fnC false) Z l (Nat.le_refl _), zeg, vI, hpin, go_sem, reduceAdd, reduceMul]
theorem zlf (x : FnD) (h : ya x <= 1048576) : zw Tryz.prog 127 [.ro (fnW x), .ro (fnW x)] (fun rs st => rs = [(false, [cB true])]) := by
 unfold ya at h
 refine zp (fn := Tryz.f127) (c := Tryz.f127.body.getD .skip) (res := [.tm 4]) (n := 31) zg (by kernel_rfl) (by rfl) (by kernel_rfl) (by rfl) (by rfl) (by simp [zq]) (fun C hpin hfull => ?_)
 simp +decide only [Tryz.f127, fnW, bne_self_eq_false, hpin, go_sem, reduceAdd, reduceMul]
 refine ze (zeM x.params (by omega)) hpin ?_
 simp +decide only [bne_self_eq_false, hpin, go_sem, reduceAdd, reduceMul]
theorem zjm (l : List FnD) (h : l.length + sumN ya l <= 1048576) : zw Tryz.prog 45 [.ro (.imm 104 (rows (fnC true) l)), .ro (.imm 104 (rows (fnC true) l))] (fun rs st => rs = [(false, [cB true])]) := by
 refine zp (fn := Tryz.f45) (c := Tryz.f45.body.getD .skip) (res := [.tm 4]) (n := 27) zg (by kernel_rfl) (by rfl) (by kernel_rfl) (by rfl) (by rfl) (by simp [zq]) (fun C hpin hfull => ?_)
 simp +decide only [Tryz.f45, bne_self_eq_false, hpin, go_sem, reduceAdd, reduceMul]
 refine Tri.loop (ι := Nat) (fun i => i <= l.length) (fun i => ⟨27, [(0, .imm 104 (rows (fnC true) l)), (1, .imm 104 (rows (fnC true) l)), (5, vI i)], []⟩) (fun i => l.length - i) 0 (by simp) ?_ ?_
 · refine Ent.weak ?_ ?_ ?_ ?_ <;> simp +decide [subT, subB, zl, zk, St.get, look, vI, vB]
 · rintro i hi
   refine zf zg _ ?_
   by_cases h' : i < l.length
   · have e : ((i : Int) < (l.length : Int)) = True := by simp [h']
     have hc := ZI ya h'
     simp +decide only [e, vI, hpin, go_sem, reduceAdd, reduceMul]
     refine Tri.sched zg [(0, true), (1, true), (4, true), (5, true), (2, true), (6, true), (3, true), (7, true), (8, false), (9, false)] zT (by kernel_rfl) (fun C2 hC2 => ?_)
     have hp2 := zU hC2 hpin
     simp +decide only [e, h', zj _ _ h', Int.natCast_nonneg, vI, fnC, hp2, go_sem, reduceAdd, reduceMul]
     refine ze (zlf l[i] (by omega)) hp2 ?_
     simp +decide only [fnW, hp2, go_sem, reduceAdd, reduceMul]
     refine ⟨i + 1, h', by omega, Ent.weak ?_ ?_ ?_ ?_⟩ <;> simp +decide [subT, subB, zl, zk, St.get, look, w64s (n := l.length) h' (by omega), vI, vB]
   · have hil : i = l.length := by omega
     subst hil
     have e : ((l.length : Int) < (l.length : Int)) = False := by simp
     simp +decide only [e, vI, hpin, go_sem, reduceAdd, reduceMul]
theorem zdc (x : ProgramD) (left : Int) (h0 : 0 <= left) (h1 : left < 1152921504606846976) (hs : Yt x) : zw Tryz.prog 9 [.ro (zD x), .ro (.sc (.int .i64 left))] (fun rs st => rs = [(false, [cI (sub left (zG x))])]) := by
 refine zp (fn := Tryz.f9) (c := Tryz.f9.body.getD .skip) (res := [.tm 4]) (n := 18) zg (by kernel_rfl) (by rfl) (by kernel_rfl) (by rfl) (by rfl) (by simp [zq]) (fun C hpin hfull => ?_)
 obtain ⟨s0, q0, s1, q1⟩ := hs
 simp +decide only [Tryz.f9, zD, hpin, go_sem, reduceAdd, reduceMul]
 refine ze (zfG x.nodes (left) (by omega) (by omega) s0 q0) hpin ?_
 by_cases h0_ : left - (((x.nodes.length + sumN zF x.nodes) : Nat) : Int) < 0
 · have e : sub left (zG x) = -1 := yO (by unfold zG; omega)
   rw [e]
   rw [yO h0_]
   simp +decide only [h0_, hpin, go_sem, reduceAdd, reduceMul]
 rw [xR h0_]
 have n0 : (left - (((x.nodes.length + sumN zF x.nodes) : Nat) : Int) < 0) = False := by simpa using h0_
 simp +decide only [n0, hpin, go_sem, reduceAdd, reduceMul]
 refine ze (zit x.fns (left - (((x.nodes.length + sumN zF x.nodes) : Nat) : Int)) (by omega) (by omega) s1 q1) hpin ?_
 by_cases h1_ : left - (((x.nodes.length + sumN zF x.nodes) : Nat) : Int) - (((x.fns.length + sumN ya x.fns) : Nat) : Int) < 0
 · have e : sub left (zG x) = -1 := yO (by unfold zG; omega)
   rw [e]
   rw [yO h1_]
   simp +decide only [h1_, hpin, go_sem, reduceAdd, reduceMul]
 rw [xR h1_]
 have n1 : (left - (((x.nodes.length + sumN zF x.nodes) : Nat) : Int) - (((x.fns.length + sumN ya x.fns) : Nat) : Int) < 0) = False := by simpa using h1_
 have e : sub left (zG x) = left - (((x.nodes.length + sumN zF x.nodes) : Nat) : Int) - (((x.fns.length + sumN ya x.fns) : Nat) : Int) := by rw [xR (by unfold zG; omega)]; unfold zG; omega
 rw [e]
 simp +decide only [n1, hpin, go_sem, reduceAdd, reduceMul]
theorem Zh (x : ProgramD) (h : zG x <= 1048576) : zw Tryz.prog 11 [.ro (zD x)] (fun rs st => rs = [(true, za false x)]) := by
 unfold zG at h
 refine zp (fn := Tryz.f11) (c := Tryz.f11.body.getD .skip) (res := [.ce 2 36]) (n := 13) zg (by kernel_rfl) (by rfl) (by kernel_rfl) (by rfl) (by rfl) (by simp [zq]) (fun C hpin hfull => ?_)
 simp +decide only [Tryz.f11, zD, hpin, go_sem, reduceAdd, reduceMul]
 refine ze (zfA x.nodes (by omega)) hpin ?_
 simp +decide only [hpin, go_sem, reduceAdd, reduceMul]
 refine ze (zis x.fns (by omega)) hpin ?_
 simp +decide only [za, hpin, go_sem, reduceAdd, reduceMul]
theorem Zo (x : ProgramD) (h : zG x <= 1048576) : zw Tryz.prog 14 [.ro (zd x), .ro (zd x)] (fun rs st => rs = [(false, [cB true])]) := by
 unfold zG at h
 refine zp (fn := Tryz.f14) (c := Tryz.f14.body.getD .skip) (res := [.tm 4]) (n := 17) zg (by kernel_rfl) (by rfl) (by kernel_rfl) (by rfl) (by rfl) (by simp [zq]) (fun C hpin hfull => ?_)
 simp +decide only [Tryz.f14, zd, bne_self_eq_false, hpin, go_sem, reduceAdd, reduceMul]
 refine ze (zgu x.nodes (by omega)) hpin ?_
 simp +decide only [bne_self_eq_false, hpin, go_sem, reduceAdd, reduceMul]
 refine ze (zjm x.fns (by omega)) hpin ?_
 simp +decide only [bne_self_eq_false, hpin, go_sem, reduceAdd, reduceMul]
theorem oInt : Opens Tryz.prog 3 (fun n : Int => [cI n]) (fun n => (Lit.int .i64 n).wf = true) := zhA (k := .i64) Tryz.underlying3 (by kernel_rfl)
theorem oStr : Opens Tryz.prog 9 (fun n : ByteArray => [cS n]) (fun s => s.size <= 140737488351232) := zhz Tryz.underlying9 (by kernel_rfl)
theorem zrn : Opens Tryz.prog 27 (fun l : List Int => [D.row true 3 (row1 cI l)]) (fun l => l.length * 8 <= 140737488351232 /\ ∀ x ∈ l, (Lit.int .i64 x).wf = true) := by
 have h := YZ (t := 27) (e := 3) Tryz.underlying27 (by kernel_rfl) (of_decide_eq_true (by kernel_rfl)) (zhA (k := .i64) Tryz.underlying3 (by kernel_rfl))
 have hb : Tryz.prog.bytesOf 3 = 8 := by kernel_rfl
 rw [hb] at h
 exact h
def zhG (x : NodeD) : Prop := (Lit.int .i64 x.kind).wf = true /\ (Lit.int .i64 x.num).wf = true /\ x.name.size <= 140737488351232 /\ (x.kids.length * 8 <= 140737488351232 /\ ∀ y ∈ x.kids, (Lit.int .i64 y).wf = true)
theorem zrm : Opens Tryz.prog 126 zbO zhG := by
 have h := Yu (t := 126) Tryz.underlying126 (by kernel_rfl) (yW rfl oInt (yW rfl oInt (yW rfl oStr (zac rfl zrn))))
 exact zbi (fun x : NodeD => (x.kind, x.num, x.name, x.kids)) (fun a => ⟨a.1, a.2.1, a.2.2.1, a.2.2.2⟩) (fun _ => rfl) (fun _ => rfl) h
theorem zqk : Opens Tryz.prog 22 (fun l : List NodeD => [D.row true 126 (rows zbO l)]) (fun l => l.length * 56 <= 140737488351232 /\ ∀ y ∈ l, zhG y) := by
 have h := YZ (t := 22) (e := 126) Tryz.underlying22 (by kernel_rfl) (of_decide_eq_true (by kernel_rfl)) zrm
 have hb : Tryz.prog.bytesOf 126 = 56 := by kernel_rfl
 rw [hb] at h
 exact h
theorem zhF (x : NodeD) (h : zhG x) : XH x := by
 unfold zhG at h
 unfold XH
 obtain ⟨p0, p1, p2, ⟨p3, q3⟩⟩ := h
 exact ⟨by omega, by omega⟩
def zdy (x : ParamD) : Prop := x.name.size <= 140737488351232 /\ (Lit.int .i64 x.ty).wf = true
theorem zqj : Opens Tryz.prog 188 YF zdy := by
 have h := Yu (t := 188) Tryz.underlying188 (by kernel_rfl) (yW rfl oStr (zac rfl oInt))
 exact zbi (fun x : ParamD => (x.name, x.ty)) (fun a => ⟨a.1, a.2⟩) (fun _ => rfl) (fun _ => rfl) h
theorem zoZ : Opens Tryz.prog 128 (fun l : List ParamD => [D.row true 188 (rows YF l)]) (fun l => l.length * 24 <= 140737488351232 /\ ∀ y ∈ l, zdy y) := by
 have h := YZ (t := 128) (e := 188) Tryz.underlying128 (by kernel_rfl) (of_decide_eq_true (by kernel_rfl)) zqj
 have hb : Tryz.prog.bytesOf 188 = 24 := by kernel_rfl
 rw [hb] at h
 exact h
theorem zfM (x : ParamD) (h : zdy x) : ZP x := by
 unfold zdy at h
 unfold ZP
 obtain ⟨p0, p1⟩ := h
 omega
def fnOk (x : FnD) : Prop := x.name.size <= 140737488351232 /\ (x.params.length * 24 <= 140737488351232 /\ ∀ y ∈ x.params, zdy y) /\ (Lit.int .i64 x.res).wf = true /\ (Lit.int .i64 x.body).wf = true /\ (Lit.int .i64 x.ret).wf = true
theorem oFn : Opens Tryz.prog 130 fnL fnOk := by
 have h := Yu (t := 130) Tryz.underlying130 (by kernel_rfl) (yW rfl oStr (yW rfl zoZ (yW rfl oInt (yW rfl oInt (zac rfl oInt)))))
 exact zbi (fun x : FnD => (x.name, x.params, x.res, x.body, x.ret)) (fun a => ⟨a.1, a.2.1, a.2.2.1, a.2.2.2.1, a.2.2.2.2⟩) (fun _ => rfl) (fun _ => rfl) h
theorem oFnS : Opens Tryz.prog 23 (fun l : List FnD => [D.row true 130 (rows fnL l)]) (fun l => l.length * 64 <= 140737488351232 /\ ∀ y ∈ l, fnOk y) := by
 have h := YZ (t := 23) (e := 130) Tryz.underlying23 (by kernel_rfl) (of_decide_eq_true (by kernel_rfl)) oFn
 have hb : Tryz.prog.bytesOf 130 = 64 := by kernel_rfl
 rw [hb] at h
 exact h
theorem zkZ (x : FnD) (h : fnOk x) : zeb x := by
 unfold fnOk at h
 unfold zeb
 obtain ⟨p0, ⟨p1, q1⟩, p2, p3, p4⟩ := h
 exact ⟨by omega, by omega, fun y hy => zfM y (q1 y hy)⟩
def zdr (x : ProgramD) : Prop := (x.nodes.length * 56 <= 140737488351232 /\ ∀ y ∈ x.nodes, zhG y) /\ (x.fns.length * 64 <= 140737488351232 /\ ∀ y ∈ x.fns, fnOk y)
theorem znC : Opens Tryz.prog 25 YX zdr := by
 have h := Yu (t := 25) Tryz.underlying25 (by kernel_rfl) (yW rfl zqk (zac rfl oFnS))
 exact zbi (fun x : ProgramD => (x.nodes, x.fns)) (fun a => ⟨a.1, a.2⟩) (fun _ => rfl) (fun _ => rfl) h
theorem zdq (x : ProgramD) (h : zdr x) : Yt x := by
 unfold zdr at h
 unfold Yt
 obtain ⟨⟨p0, q0⟩, ⟨p1, q1⟩⟩ := h
 exact ⟨by omega, fun y hy => zhF y (q0 y hy), by omega, fun y hy => zkZ y (q1 y hy)⟩
theorem zhq (x : ProgramD) : ∀ d ∈ YX x, shD d = d := by
 have h : shL (YX x) = YX x := congrFun zdt x
 intro d hd
 rw [Xy] at h
 obtain ⟨i, hi, rfl⟩ := List.getElem_of_mem hd
 have := List.getElem_of_eq h (by simpa using hi)
 simpa using this
theorem YT {α : Type} {f : α -> Nat} (hf : ∀ x, 1 <= f x) : ∀ l : List α, l.length <= sumN f l
 | [] => by simp [sumN]
 | x :: r => by
   have h1 := YT hf r
   have h2 := hf x
   simp only [sumN, List.map_cons, List.sum_cons, List.length_cons] at h1 |-
   omega
theorem xi {EA EB : List (List D)} {x : List D} {i : Nat} (hA : EA.length = i) : (EA ++ x :: EB).getD i [] = x := by
 subst hA; simp [List.getD]
theorem yF {EA EB : List (List D)} {x : List D} {i : Nat} (hA : EA.length = i) : (EA ++ x :: EB)[i]? = some x := by
 subst hA; simp
theorem xh {EA EB : List (List D)} {x y : List D} {i : Nat} (hA : EA.length = i) : (EA ++ x :: EB).set i y = EA ++ y :: EB := by
 subst hA; simp
theorem yt {EA EB : List (List D)} {x : List D} {i j : Nat} (hA : EA.length = i) : cellAt (EA ++ x :: EB) i j = x[j]? := by
 unfold cellAt; rw [yF hA]; rfl
theorem yM {EA EB : List (List D)} {x : List D} {i j : Nat} {d : D} (hA : EA.length = i) : zN (EA ++ x :: EB) i j d = EA ++ x.set j d :: EB := by
 unfold zN; rw [xi hA, xh hA]
theorem ziT (k : Int) (n : Nat) : (if ZC k n = ZC k (ZC k n).length then k + ((ZC k n).length : Nat) else -1) = k + n := by simp [zo]
theorem uU8 : Tryz.prog.underlying 5 = some (.int .u8) := by kernel_rfl
theorem rU8 : isR Tryz.prog 5 = some false := by kernel_rfl
theorem sU8 : szT Tryz.prog 5 = 1 := by kernel_rfl
theorem zU8 : zeroCells Tryz.prog 5 = some [.int .u8 0] := by kernel_rfl
theorem eU8 : elT Tryz.prog 150 = some 5 := by kernel_rfl
theorem rU8S : isR Tryz.prog 150 = some false := by kernel_rfl
theorem uI64 : (Tryz.prog.underlying 3).isSome = true := by kernel_rfl
def Xp (q : Int) : Bool := q.tmod 3 == 0
def digB (k : Int) : ByteArray := strOfNums [IntKind.u8.wrap (IntKind.i64.wrap (48 + k.tmod 10))]
def digs (k : Int) (s : ByteArray) : ByteArray := if h : 0 < k then digs (k.tdiv 10) (digB k ++ s) else s
termination_by k.toNat
decreasing_by rw [Int.tdiv_eq_ediv_of_nonneg (by omega)]; omega
def zcy (k : Int) : ByteArray := if k <= 0 then ⟨#[109, 48]⟩ else ⟨#[109]⟩ ++ digs k ⟨#[]⟩
theorem zmM (n : Nat) : ∀ (k : Int) (s : ByteArray), k.toNat <= n -> (digs k s).size <= s.size + k.toNat := by
 induction n with
 | zero => intro k s hk; rw [digs, dif_neg (by omega)]; omega
 | succ n ih =>
   intro k s hk
   rw [digs]
   by_cases h : 0 < k
   · rw [dif_pos h]
     have e : k.tdiv 10 = k / 10 := Int.tdiv_eq_ediv_of_nonneg (by omega)
     have := ih (k.tdiv 10) (digB k ++ s) (by rw [e]; omega)
     have e2 : (digB k ++ s).size = 1 + s.size := by rw [ByteArray.size_append]; simp [digB, strOfNums_size]
     rw [e] at this |-
     omega
   · rw [dif_neg h]; omega
theorem yP (k : Int) (h0 : 0 <= k) (h1 : k < 4611686018427387904) : zw Tryz.prog 52 [.ro (.sc (.int .i64 k))] (fun rs st => rs = [(false, [cS (zcy k)])]) := by
 refine zp (fn := Tryz.f52) (c := Tryz.f52.body.getD .skip) (res := [.tm 2]) (n := 20) zg (by kernel_rfl) (by rfl) (by kernel_rfl) (by rfl) (by rfl) (by simp [zq]) (fun C hpin hfull => ?_)
 simp +decide only [Tryz.f52, hpin, go_sem, reduceAdd, reduceMul]
 by_cases hk : k <= 0
 · have e1 : zcy k = ⟨#[109, 48]⟩ := by rw [zcy, if_pos hk]
   have e2 : (k <= 0) = True := by simp [hk]
   simp +decide only [e1, e2, hpin, go_sem, reduceAdd, reduceMul]
 have e1 : zcy k = ⟨#[109]⟩ ++ digs k ⟨#[]⟩ := by rw [zcy, if_neg hk]
 have e2 : (k <= 0) = False := by simp; omega
 simp +decide only [e1, e2, hpin, go_sem, reduceAdd, reduceMul]
 refine Tri.loop (ι := Int × ByteArray) (fun p => 0 <= p.1 /\ p.1 <= k /\ p.2.size + p.1.toNat <= k.toNat /\ digs p.1 p.2 = digs k ⟨#[]⟩) (fun p => ⟨20, [(0, vI p.1), (3, vS p.2)], []⟩) (fun p => p.1.toNat) (k, ⟨#[]⟩) ⟨h0, by simp, by show (0 : Nat) + _ <= _; simp, rfl⟩ ?_ ?_
 · refine Ent.weak ?_ ?_ ?_ ?_ <;> simp +decide [subT, subB, zl, zk, zn, St.get, look, vI, vB, vS]
 · rintro ⟨q, s⟩ ⟨q0, q1, q2, q3⟩
   refine zf zg _ ?_
   by_cases hq : 0 < q
   · have e3 : (0 < q) = True := by simp [hq]
     have e4 : (digB q).size + s.size <= 9223372036854775807 := by simp [digB, strOfNums_size]; simp at q2; omega
     have e6 : q.tdiv 10 = q / 10 := Int.tdiv_eq_ediv_of_nonneg q0
     have e5 : IntKind.i64.wrap (q.tdiv 10) = q.tdiv 10 := w64 (by rw [e6]; omega) (by rw [e6]; omega)
     have e7 : strOfNums [IntKind.u8.wrap (IntKind.i64.wrap (48 + q.tmod 10))] = digB q := rfl
     simp +decide only [e3, e4, e5, e7, vI, vS, uU8, rU8, sU8, zU8, eU8, rU8S, uI64, hpin, go_sem, reduceAdd, reduceMul]
     refine ⟨(q.tdiv 10, digB q ++ s), ⟨?_, ?_, ?_, ?_⟩, ?_, Ent.weak ?_ ?_ ?_ ?_⟩
     · simp only [e6]; omega
     · simp only [e6]; omega
     · simp only [e6, ByteArray.size_append, digB, strOfNums_size, List.length_cons, List.length_nil]; simp at q2; omega
     · rw [<- q3, digs.eq_def q s, dif_pos hq]
     · simp only [e6]; omega
     all_goals simp +decide [subT, subB, zl, zk, zn, St.get, look, vI, vB, vS]
   · have e3 : (0 < q) = False := by simp [hq]
     have e4 : digs q s = s := by rw [digs, dif_neg hq]
     simp only [e4] at q3
     have e5 : 1 + s.size <= 9223372036854775807 := by rw [q3]; have := zmM k.toNat k ⟨#[]⟩ (Nat.le_refl _); have e9 : (⟨#[]⟩ : ByteArray).size = 0 := rfl; rw [e9] at this; omega
     have e6 : (⟨#[109]⟩ : ByteArray).size + s.size <= 9223372036854775807 := e5
     simp +decide only [e1, e3, e6, <- q3, vI, vS, hpin, go_sem, reduceAdd, reduceMul]
def insN (x : InsD) : Nat := 6 + x.args.length
def insM (q : Int) (x : InsD) : InsD := ⟨q, (q + 1), ((q + 1) + 1), (((q + 1) + 1) + 1), ((((q + 1) + 1) + 1) + 1), zcy (((((q + 1) + 1) + 1) + 1) + 1), ZC ((((((q + 1) + 1) + 1) + 1) + 1) + 1) x.args.length⟩
def Xg : Int -> List InsD -> List InsD
 | _, [] => []
 | q, x :: r => insM q x :: Xg (q + (insN x : Nat)) r
theorem XL : ∀ (q : Int) (l : List InsD), (Xg q l).length = l.length
 | _, [] => rfl
 | q, x :: r => by simp [Xg, XL]
theorem zcq : ∀ (q : Int) (l l2 : List InsD), Xg q (l ++ l2) = Xg q l ++ Xg (q + (sumN insN l : Nat)) l2
 | q, [], l2 => by simp [Xg, sumN]
 | q, x :: r, l2 => by
   have e : q + (insN x : Nat) + (sumN insN r : Nat) = q + (sumN insN (x :: r) : Nat) := by simp only [sumN, List.map_cons, List.sum_cons]; omega
   simp only [Xg, List.cons_append, zcq, e]
theorem zkW (q : Int) (l : List InsD) {i : Nat} (h : i < l.length) : Xg q (l.take (i + 1)) = Xg q (l.take i) ++ [insM (q + (sumN insN (l.take i) : Nat)) l[i]] := by
 rw [List.take_succ_eq_append_getElem h, zcq]; rfl
attribute [go_sem] XL
theorem znb (l : List InsD) (k : Int) (h0 : 0 <= k) (h1 : k + (sumN insN l : Nat) < 4611686018427387904) :
   SoundAt Tryz.prog 49 (fun uf => zq 0 [.ro (.ref 2000 [] l.length), .ro (.sc (.int .i64 k))]) [(2000, .row 139 (rows (insC false) l))]
     (fun rs st => rs = [(false, [cI (k + (sumN insN l : Nat))])] /\ xB st.ob [(2000, .row 139 (rows (insC false) (Xg k l)))]) := by
 have hll := YT (f := insN) (fun x => by unfold insN; omega) l
 refine yL (fn := Tryz.f49) (c := Tryz.f49.body.getD .skip) (res := [.tm 4]) (n := 63) zg (by kernel_rfl) (by rfl) (by kernel_rfl) (by rfl) (by rfl) (by simp [zq]) (fun uf ub C hpin hpin2 hfull => ?_)
 simp +decide only [Tryz.f49, hpin, go_sem, reduceAdd, reduceMul]
 refine Tri.loop (ι := Nat) (fun i => i <= l.length) (fun i => ⟨63, [(0, .ref 2000 [] l.length), (1, vI (k + (sumN insN (l.take i) : Nat))), (5, vI i)], [(2000, .row 139 (rows (insC false) (Xg k (l.take i)) ++ rows (insC false) (l.drop i)))]⟩) (fun i => l.length - i) 0 (by simp) ?_ ?_
 · refine Ent.weak ?_ ?_ ?_ ?_ <;> simp +decide [subT, subB, zl, zk, St.get, look, vI, vB, rows, sumN, Xg]
 · rintro i hi
   refine zf zg _ ?_
   by_cases h' : i < l.length
   · have e : ((i : Int) < (l.length : Int)) = True := by simp [h']
     have hs1 := xr insN l h'
     have hs2 := ZZ insN l (i + 1)
     have hu : insN l[i] = 6 + l[i].args.length := rfl
     rw [List.drop_eq_getElem_cons h']
     obtain ⟨EA, hEA⟩ : ∃ E, E = rows (insC false) (Xg k (l.take i)) := ⟨_, rfl⟩
     obtain ⟨EB, hEB⟩ : ∃ E, E = rows (insC false) (l.drop (i + 1)) := ⟨_, rfl⟩
     obtain ⟨q, hq⟩ : ∃ q, q = k + (sumN insN (l.take i) : Nat) := ⟨_, rfl⟩
     have e4 : EA ++ insC false (insM q l[i]) :: EB = rows (insC false) (Xg k (l.take (i + 1))) ++ rows (insC false) (l.drop (i + 1)) := by
       rw [hEA, hEB, hq, zkW k l h']; simp [rows]
     have hA : EA.length = i := by rw [hEA, yo, XL]; simp; omega
     have hn : EA.length + (EB.length + 1) = l.length := by rw [hA, hEB, yo, List.length_drop]; omega
     have e0 : rows (insC false) (Xg k (l.take i)) ++ rows (insC false) (l[i] :: l.drop (i + 1)) = EA ++ insC false l[i] :: EB := by rw [hEA, hEB]; rfl
     rw [e0, <- hq]
     have hq0 : 0 <= q := by omega
     have w0 : IntKind.i64.wrap (q + 1) = q + 1 := w64 (by omega) (by omega)
     have w1 : IntKind.i64.wrap ((q + 1) + 1) = (q + 1) + 1 := w64 (by omega) (by omega)
     have w2 : IntKind.i64.wrap (((q + 1) + 1) + 1) = ((q + 1) + 1) + 1 := w64 (by omega) (by omega)
     have w3 : IntKind.i64.wrap ((((q + 1) + 1) + 1) + 1) = (((q + 1) + 1) + 1) + 1 := w64 (by omega) (by omega)
     have w4 : IntKind.i64.wrap (((((q + 1) + 1) + 1) + 1) + 1) = ((((q + 1) + 1) + 1) + 1) + 1 := w64 (by omega) (by omega)
     have w5 : IntKind.i64.wrap ((((((q + 1) + 1) + 1) + 1) + 1) + 1) = (((((q + 1) + 1) + 1) + 1) + 1) + 1 := w64 (by omega) (by omega)
     simp +decide only [e, h', hn, xi hA, yF hA, xh hA, yt hA, yM hA, Int.natCast_nonneg, vI, insC, w0, w1, w2, w3, w4, w5, hpin, go_sem, reduceAdd, reduceMul]
     refine ze (yP (((((q + 1) + 1) + 1) + 1) + 1) (by omega) (by omega)) hpin ?_
     simp +decide only [e, h', hn, xi hA, yF hA, xh hA, yt hA, yM hA, Int.natCast_nonneg, vI, insC, w0, w1, w2, w3, w4, w5, hpin, go_sem, reduceAdd, reduceMul]
     refine zcd 2000 [(i, 6)] 1000 (x := ?x6) (e := 3) (es := row1 cI l[i].args) ?ho ?hs (by simp) (by decide) ?ho2 (hpin 1000 rfl) (fun z => ?_)
     case ho => exact rfl
     case hs => simp [subO, subD, yt hA]
     case ho2 => exact rfl
     simp +decide only [e, h', hn, xi hA, yF hA, xh hA, yt hA, yM hA, Int.natCast_nonneg, vI, insC, w0, w1, w2, w3, w4, w5, hpin, go_sem, reduceAdd, reduceMul]
     refine ZX (zbm l[i].args ((((((q + 1) + 1) + 1) + 1) + 1) + 1) (by omega) (by omega) (by omega)) (zdu (pin3 hpin) (by decide)) [(2000, 1000)] ⟨rfl, rfl, rfl⟩ (fun uf => ⟨rfl, rfl⟩) (fun uf => ?_) ?_
     · simp +decide only [e, h', hn, xi hA, yF hA, xh hA, yt hA, yM hA, Int.natCast_nonneg, vI, insC, w0, w1, w2, w3, w4, w5, zo, hpin, go_sem, reduceAdd, reduceMul]
     simp +decide only [e, h', hn, xi hA, yF hA, xh hA, yt hA, yM hA, Int.natCast_nonneg, vI, insC, w0, w1, w2, w3, w4, w5, zo, hpin, go_sem, reduceAdd, reduceMul]
     refine ⟨i + 1, h', by omega, Ent.weak ?_ ?_ ?_ ?_⟩
     · have e5 : k + (sumN insN (l.take (i + 1)) : Nat) = (((((((q + 1) + 1) + 1) + 1) + 1) + 1) + l[i].args.length) := by omega
       simp +decide [subT, St.get, look, w64s (n := l.length) h' (by omega), vI, vB, e5, hn]
     · rw [<- e4]; simp +decide [subB, look, insC, insM, cI, cS, cB, Xp]
     all_goals simp +decide [zl, zk, look, vI, hn]
   · have hil : i = l.length := by omega
     subst hil
     have e : ((l.length : Int) < (l.length : Int)) = False := by simp
     have e6 : rows (insC false) (Xg k (l.take l.length)) ++ rows (insC false) (l.drop l.length) = rows (insC false) (Xg k l) := by simp [rows]
     rw [e6]
     simp +decide only [e, vI, hpin, go_sem, reduceAdd, reduceMul]
def zrO (x : CodeD) : Nat := 2 + x.locals.length + sumN insN x.words
def zrP (q : Int) (x : CodeD) : CodeD := ⟨zcy q, (q + 1), ZC ((q + 1) + 1) x.locals.length, Xg (((q + 1) + 1) + x.locals.length) x.words⟩
def zmP : Int -> List CodeD -> List CodeD
 | _, [] => []
 | q, x :: r => zrP q x :: zmP (q + (zrO x : Nat)) r
theorem zbC : ∀ (q : Int) (l : List CodeD), (zmP q l).length = l.length
 | _, [] => rfl
 | q, x :: r => by simp [zmP, zbC]
attribute [go_sem] zbC
def yD (x : NodeD) : Nat := 3 + x.kids.length
def zcx (q : Int) (x : NodeD) : NodeD := ⟨q, (q + 1), zcy ((q + 1) + 1), ZC (((q + 1) + 1) + 1) x.kids.length⟩
def yH : Int -> List NodeD -> List NodeD
 | _, [] => []
 | q, x :: r => zcx q x :: yH (q + (yD x : Nat)) r
theorem Zl : ∀ (q : Int) (l : List NodeD), (yH q l).length = l.length
 | _, [] => rfl
 | q, x :: r => by simp [yH, Zl]
theorem Xa : ∀ (q : Int) (l l2 : List NodeD), yH q (l ++ l2) = yH q l ++ yH (q + (sumN yD l : Nat)) l2
 | q, [], l2 => by simp [yH, sumN]
 | q, x :: r, l2 => by
   have e : q + (yD x : Nat) + (sumN yD r : Nat) = q + (sumN yD (x :: r) : Nat) := by simp only [sumN, List.map_cons, List.sum_cons]; omega
   simp only [yH, List.cons_append, Xa, e]
theorem zdD (q : Int) (l : List NodeD) {i : Nat} (h : i < l.length) : yH q (l.take (i + 1)) = yH q (l.take i) ++ [zcx (q + (sumN yD (l.take i) : Nat)) l[i]] := by
 rw [List.take_succ_eq_append_getElem h, Xa]; rfl
theorem zkR (q : Int) (l : List NodeD) {i : Nat} (h : i < l.length) (h2 : i < (yH q l).length) : (yH q l)[i] = zcx (q + (sumN yD (l.take i) : Nat)) l[i] := by
 have e : l = l.take (i + 1) ++ l.drop (i + 1) := (List.take_append_drop _ _).symm
 have hl : (yH q (l.take i)).length = i := by rw [Zl]; simp; omega
 have e2 : (yH q l)[i]? = some (zcx (q + (sumN yD (l.take i) : Nat)) l[i]) := by
   conv => lhs; rw [e, Xa, zdD q l h, List.append_assoc]
   rw [List.getElem?_append_right (by omega), hl, Nat.sub_self]; rfl
 exact (List.getElem?_eq_some_iff.1 e2).2
attribute [go_sem] Zl
theorem zdK (l : List NodeD) (k : Int) (h0 : 0 <= k) (h1 : k + (sumN yD l : Nat) < 4611686018427387904) :
   SoundAt Tryz.prog 46 (fun uf => zq 0 [.ro (.ref 2000 [] l.length), .ro (.sc (.int .i64 k))]) [(2000, .row 83 (rows (zh false) l))]
     (fun rs st => rs = [(false, [cI (k + (sumN yD l : Nat))])] /\ xB st.ob [(2000, .row 83 (rows (zh false) (yH k l)))]) := by
 have hll := YT (f := yD) (fun x => by unfold yD; omega) l
 refine yL (fn := Tryz.f46) (c := Tryz.f46.body.getD .skip) (res := [.tm 4]) (n := 42) zg (by kernel_rfl) (by rfl) (by kernel_rfl) (by rfl) (by rfl) (by simp [zq]) (fun uf ub C hpin hpin2 hfull => ?_)
 simp +decide only [Tryz.f46, hpin, go_sem, reduceAdd, reduceMul]
 refine Tri.loop (ι := Nat) (fun i => i <= l.length) (fun i => ⟨42, [(0, .ref 2000 [] l.length), (1, vI (k + (sumN yD (l.take i) : Nat))), (5, vI i)], [(2000, .row 83 (rows (zh false) (yH k (l.take i)) ++ rows (zh false) (l.drop i)))]⟩) (fun i => l.length - i) 0 (by simp) ?_ ?_
 · refine Ent.weak ?_ ?_ ?_ ?_ <;> simp +decide [subT, subB, zl, zk, St.get, look, vI, vB, rows, sumN, yH]
 · rintro i hi
   refine zf zg _ ?_
   by_cases h' : i < l.length
   · have e : ((i : Int) < (l.length : Int)) = True := by simp [h']
     have hs1 := xr yD l h'
     have hs2 := ZZ yD l (i + 1)
     have hu : yD l[i] = 3 + l[i].kids.length := rfl
     rw [List.drop_eq_getElem_cons h']
     obtain ⟨EA, hEA⟩ : ∃ E, E = rows (zh false) (yH k (l.take i)) := ⟨_, rfl⟩
     obtain ⟨EB, hEB⟩ : ∃ E, E = rows (zh false) (l.drop (i + 1)) := ⟨_, rfl⟩
     obtain ⟨q, hq⟩ : ∃ q, q = k + (sumN yD (l.take i) : Nat) := ⟨_, rfl⟩
     have e4 : EA ++ zh false (zcx q l[i]) :: EB = rows (zh false) (yH k (l.take (i + 1))) ++ rows (zh false) (l.drop (i + 1)) := by
       rw [hEA, hEB, hq, zdD k l h']; simp [rows]
     have hA : EA.length = i := by rw [hEA, yo, Zl]; simp; omega
     have hn : EA.length + (EB.length + 1) = l.length := by rw [hA, hEB, yo, List.length_drop]; omega
     have e0 : rows (zh false) (yH k (l.take i)) ++ rows (zh false) (l[i] :: l.drop (i + 1)) = EA ++ zh false l[i] :: EB := by rw [hEA, hEB]; rfl
     rw [e0, <- hq]
     have hq0 : 0 <= q := by omega
     have w0 : IntKind.i64.wrap (q + 1) = q + 1 := w64 (by omega) (by omega)
     have w1 : IntKind.i64.wrap ((q + 1) + 1) = (q + 1) + 1 := w64 (by omega) (by omega)
     have w2 : IntKind.i64.wrap (((q + 1) + 1) + 1) = ((q + 1) + 1) + 1 := w64 (by omega) (by omega)
     simp +decide only [e, h', hn, xi hA, yF hA, xh hA, yt hA, yM hA, Int.natCast_nonneg, vI, zh, w0, w1, w2, hpin, go_sem, reduceAdd, reduceMul]
     refine ze (yP ((q + 1) + 1) (by omega) (by omega)) hpin ?_
     simp +decide only [e, h', hn, xi hA, yF hA, xh hA, yt hA, yM hA, Int.natCast_nonneg, vI, zh, w0, w1, w2, hpin, go_sem, reduceAdd, reduceMul]
     refine zcd 2000 [(i, 3)] 1000 (x := ?x3) (e := 3) (es := row1 cI l[i].kids) ?ho ?hs (by simp) (by decide) ?ho2 (hpin 1000 rfl) (fun z => ?_)
     case ho => exact rfl
     case hs => simp [subO, subD, yt hA]
     case ho2 => exact rfl
     simp +decide only [e, h', hn, xi hA, yF hA, xh hA, yt hA, yM hA, Int.natCast_nonneg, vI, zh, w0, w1, w2, hpin, go_sem, reduceAdd, reduceMul]
     refine ZX (zbm l[i].kids (((q + 1) + 1) + 1) (by omega) (by omega) (by omega)) (zdu (pin3 hpin) (by decide)) [(2000, 1000)] ⟨rfl, rfl, rfl⟩ (fun uf => ⟨rfl, rfl⟩) (fun uf => ?_) ?_
     · simp +decide only [e, h', hn, xi hA, yF hA, xh hA, yt hA, yM hA, Int.natCast_nonneg, vI, zh, w0, w1, w2, zo, hpin, go_sem, reduceAdd, reduceMul]
     simp +decide only [e, h', hn, xi hA, yF hA, xh hA, yt hA, yM hA, Int.natCast_nonneg, vI, zh, w0, w1, w2, zo, hpin, go_sem, reduceAdd, reduceMul]
     refine ⟨i + 1, h', by omega, Ent.weak ?_ ?_ ?_ ?_⟩
     · have e5 : k + (sumN yD (l.take (i + 1)) : Nat) = ((((q + 1) + 1) + 1) + l[i].kids.length) := by omega
       simp +decide [subT, St.get, look, w64s (n := l.length) h' (by omega), vI, vB, e5, hn]
     · rw [<- e4]; simp +decide [subB, look, zh, zcx, cI, cS, cB, Xp]
     all_goals simp +decide [zl, zk, look, vI, hn]
   · have hil : i = l.length := by omega
     subst hil
     have e : ((l.length : Int) < (l.length : Int)) = False := by simp
     have e6 : rows (zh false) (yH k (l.take l.length)) ++ rows (zh false) (l.drop l.length) = rows (zh false) (yH k l) := by simp [rows]
     rw [e6]
     simp +decide only [e, vI, hpin, go_sem, reduceAdd, reduceMul]
theorem zdV (l : List NodeD) (k : Int) (h0 : 0 <= k) (h1 : k + (sumN yD l : Nat) < 4611686018427387904) :
   zw Tryz.prog 74 [.ro (.imm 83 (rows (zh true) (yH k l))), .ro (.sc (.int .i64 k))] (fun rs st => rs = [(false, [cI (k + (sumN yD l : Nat))])]) := by
 have hll := YT (f := yD) (fun x => by unfold yD; omega) l
 refine zp (fn := Tryz.f74) (c := Tryz.f74.body.getD .skip) (res := [.tm 4]) (n := 50) zg (by kernel_rfl) (by rfl) (by kernel_rfl) (by rfl) (by rfl) (by simp [zq]) (fun C hpin hfull => ?_)
 simp +decide only [Tryz.f74, hpin, go_sem, reduceAdd, reduceMul]
 refine Tri.loop (ι := Nat) (fun i => i <= l.length) (fun i => ⟨50, [(0, .imm 83 (rows (zh true) (yH k l))), (1, vI (k + (sumN yD (l.take i) : Nat))), (5, vI i)], []⟩) (fun i => l.length - i) 0 (by simp) ?_ ?_
 · refine Ent.weak ?_ ?_ ?_ ?_ <;> simp +decide [subT, subB, zl, zk, St.get, look, vI, vB, rows, sumN]
 · rintro i hi
   refine zf zg _ ?_
   by_cases h' : i < l.length
   · have e : ((i : Int) < (l.length : Int)) = True := by simp [h']
     have hs1 := xr yD l h'
     have hs2 := ZZ yD l (i + 1)
     have hu : yD l[i] = 3 + l[i].kids.length := rfl
     have h2 : i < (yH k l).length := by rw [Zl]; exact h'
     have hg : (rows (zh true) (yH k l)).getD i [] = zh true (zcx (k + (sumN yD (l.take i) : Nat)) l[i]) := by rw [zj _ _ h2, zkR k l h' h2]
     obtain ⟨q, hq⟩ : ∃ q, q = k + (sumN yD (l.take i) : Nat) := ⟨_, rfl⟩
     rw [<- hq] at hg |-
     have hq0 : 0 <= q := by omega
     have w0 : IntKind.i64.wrap (q + 1) = q + 1 := w64 (by omega) (by omega)
     have w1 : IntKind.i64.wrap ((q + 1) + 1) = (q + 1) + 1 := w64 (by omega) (by omega)
     have w2 : IntKind.i64.wrap (((q + 1) + 1) + 1) = ((q + 1) + 1) + 1 := w64 (by omega) (by omega)
     simp +decide only [e, h', hg, Xp, bne_self_eq_false, Int.natCast_nonneg, vI, zh, zcx, w0, w1, w2, hpin, go_sem, reduceAdd, reduceMul]
     refine Tri.sched zg [(0, true), (1, true), (2, true), (3, true), (5, true), (4, true), (6, false), (7, false)] zT (by kernel_rfl) (fun C2 hC2 => ?_)
     have hp2 := zU hC2 hpin
     simp +decide only [e, h', hg, Xp, bne_self_eq_false, Int.natCast_nonneg, vI, zh, zcx, w0, w1, w2, hp2, go_sem, reduceAdd, reduceMul]
     refine ze (yP ((q + 1) + 1) (by omega) (by omega)) hp2 ?_
     simp +decide only [e, h', hg, Xp, bne_self_eq_false, Int.natCast_nonneg, vI, zh, zcx, w0, w1, w2, hp2, go_sem, reduceAdd, reduceMul]
     try simp +decide only [e, h', hg, Xp, bne_self_eq_false, Int.natCast_nonneg, vI, zh, zcx, w0, w1, w2, hpin, go_sem, reduceAdd, reduceMul]
     refine ze (zgl (ZC (((q + 1) + 1) + 1) l[i].kids.length) (((q + 1) + 1) + 1) (by rw [zo]; omega) (by omega) (by rw [zo]; omega)) hpin ?_
     rw [ziT]
     have n3 : (((((q + 1) + 1) + 1) + l[i].kids.length : Int) < 0) = False := by simp; omega
     try simp +decide only [e, h', hg, Xp, bne_self_eq_false, Int.natCast_nonneg, vI, zh, zcx, w0, w1, w2, n3, hpin, go_sem, reduceAdd, reduceMul]
     have e5 : k + (sumN yD (l.take (i + 1)) : Nat) = ((((q + 1) + 1) + 1) + l[i].kids.length) := by omega
     refine ⟨i + 1, h', by omega, Ent.weak ?_ ?_ ?_ ?_⟩
     · simp +decide [subT, St.get, look, w64s (n := l.length) h' (by omega), vI, vB, e5]
     all_goals simp +decide [subB, zl, zk, look, vI]
   · have hil : i = l.length := by omega
     subst hil
     have e : ((l.length : Int) < (l.length : Int)) = False := by simp
     simp +decide only [e, vI, hpin, go_sem, reduceAdd, reduceMul]
def zV (x : ParamD) : Nat := 2
def XD (q : Int) (x : ParamD) : ParamD := ⟨zcy q, (q + 1)⟩
def yp : Int -> List ParamD -> List ParamD
 | _, [] => []
 | q, x :: r => XD q x :: yp (q + (zV x : Nat)) r
theorem xM : ∀ (q : Int) (l : List ParamD), (yp q l).length = l.length
 | _, [] => rfl
 | q, x :: r => by simp [yp, xM]
theorem Yz : ∀ (q : Int) (l l2 : List ParamD), yp q (l ++ l2) = yp q l ++ yp (q + (sumN zV l : Nat)) l2
 | q, [], l2 => by simp [yp, sumN]
 | q, x :: r, l2 => by
   have e : q + (zV x : Nat) + (sumN zV r : Nat) = q + (sumN zV (x :: r) : Nat) := by simp only [sumN, List.map_cons, List.sum_cons]; omega
   simp only [yp, List.cons_append, Yz, e]
theorem zcl (q : Int) (l : List ParamD) {i : Nat} (h : i < l.length) : yp q (l.take (i + 1)) = yp q (l.take i) ++ [XD (q + (sumN zV (l.take i) : Nat)) l[i]] := by
 rw [List.take_succ_eq_append_getElem h, Yz]; rfl
theorem ziH (q : Int) (l : List ParamD) {i : Nat} (h : i < l.length) (h2 : i < (yp q l).length) : (yp q l)[i] = XD (q + (sumN zV (l.take i) : Nat)) l[i] := by
 have e : l = l.take (i + 1) ++ l.drop (i + 1) := (List.take_append_drop _ _).symm
 have hl : (yp q (l.take i)).length = i := by rw [xM]; simp; omega
 have e2 : (yp q l)[i]? = some (XD (q + (sumN zV (l.take i) : Nat)) l[i]) := by
   conv => lhs; rw [e, Yz, zcl q l h, List.append_assoc]
   rw [List.getElem?_append_right (by omega), hl, Nat.sub_self]; rfl
 exact (List.getElem?_eq_some_iff.1 e2).2
attribute [go_sem] xM
theorem zcz (l : List ParamD) (k : Int) (h0 : 0 <= k) (h1 : k + (sumN zV l : Nat) < 4611686018427387904) :
   SoundAt Tryz.prog 128 (fun uf => zq 0 [.ro (.ref 2000 [] l.length), .ro (.sc (.int .i64 k))]) [(2000, .row 107 (rows (zy false) l))]
     (fun rs st => rs = [(false, [cI (k + (sumN zV l : Nat))])] /\ xB st.ob [(2000, .row 107 (rows (zy false) (yp k l)))]) := by
 have hll := YT (f := zV) (fun x => by unfold zV; omega) l
 refine yL (fn := Tryz.f128) (c := Tryz.f128.body.getD .skip) (res := [.tm 4]) (n := 28) zg (by kernel_rfl) (by rfl) (by kernel_rfl) (by rfl) (by rfl) (by simp [zq]) (fun uf ub C hpin hpin2 hfull => ?_)
 simp +decide only [Tryz.f128, hpin, go_sem, reduceAdd, reduceMul]
 refine Tri.loop (ι := Nat) (fun i => i <= l.length) (fun i => ⟨28, [(0, .ref 2000 [] l.length), (1, vI (k + (sumN zV (l.take i) : Nat))), (5, vI i)], [(2000, .row 107 (rows (zy false) (yp k (l.take i)) ++ rows (zy false) (l.drop i)))]⟩) (fun i => l.length - i) 0 (by simp) ?_ ?_
 · refine Ent.weak ?_ ?_ ?_ ?_ <;> simp +decide [subT, subB, zl, zk, St.get, look, vI, vB, rows, sumN, yp]
 · rintro i hi
   refine zf zg _ ?_
   by_cases h' : i < l.length
   · have e : ((i : Int) < (l.length : Int)) = True := by simp [h']
     have hs1 := xr zV l h'
     have hs2 := ZZ zV l (i + 1)
     have hu : zV l[i] = 2 := rfl
     rw [List.drop_eq_getElem_cons h']
     obtain ⟨EA, hEA⟩ : ∃ E, E = rows (zy false) (yp k (l.take i)) := ⟨_, rfl⟩
     obtain ⟨EB, hEB⟩ : ∃ E, E = rows (zy false) (l.drop (i + 1)) := ⟨_, rfl⟩
     obtain ⟨q, hq⟩ : ∃ q, q = k + (sumN zV (l.take i) : Nat) := ⟨_, rfl⟩
     have e4 : EA ++ zy false (XD q l[i]) :: EB = rows (zy false) (yp k (l.take (i + 1))) ++ rows (zy false) (l.drop (i + 1)) := by
       rw [hEA, hEB, hq, zcl k l h']; simp [rows]
     have hA : EA.length = i := by rw [hEA, yo, xM]; simp; omega
     have hn : EA.length + (EB.length + 1) = l.length := by rw [hA, hEB, yo, List.length_drop]; omega
     have e0 : rows (zy false) (yp k (l.take i)) ++ rows (zy false) (l[i] :: l.drop (i + 1)) = EA ++ zy false l[i] :: EB := by rw [hEA, hEB]; rfl
     rw [e0, <- hq]
     have hq0 : 0 <= q := by omega
     have w0 : IntKind.i64.wrap (q + 1) = q + 1 := w64 (by omega) (by omega)
     have w1 : IntKind.i64.wrap ((q + 1) + 1) = (q + 1) + 1 := w64 (by omega) (by omega)
     simp +decide only [e, h', hn, xi hA, yF hA, xh hA, yt hA, yM hA, Int.natCast_nonneg, vI, zy, w0, w1, hpin, go_sem, reduceAdd, reduceMul]
     refine ze (yP q (by omega) (by omega)) hpin ?_
     simp +decide only [e, h', hn, xi hA, yF hA, xh hA, yt hA, yM hA, Int.natCast_nonneg, vI, zy, w0, w1, hpin, go_sem, reduceAdd, reduceMul]
     refine ⟨i + 1, h', by omega, Ent.weak ?_ ?_ ?_ ?_⟩
     · have e5 : k + (sumN zV (l.take (i + 1)) : Nat) = ((q + 1) + 1) := by omega
       simp +decide [subT, St.get, look, w64s (n := l.length) h' (by omega), vI, vB, e5, hn]
     · rw [<- e4]; simp +decide [subB, look, zy, XD, cI, cS, cB, Xp]
     all_goals simp +decide [zl, zk, look, vI, hn]
   · have hil : i = l.length := by omega
     subst hil
     have e : ((l.length : Int) < (l.length : Int)) = False := by simp
     have e6 : rows (zy false) (yp k (l.take l.length)) ++ rows (zy false) (l.drop l.length) = rows (zy false) (yp k l) := by simp [rows]
     rw [e6]
     simp +decide only [e, vI, hpin, go_sem, reduceAdd, reduceMul]
theorem zcB (l : List ParamD) (k : Int) (h0 : 0 <= k) (h1 : k + (sumN zV l : Nat) < 4611686018427387904) :
   zw Tryz.prog 151 [.ro (.imm 107 (rows (zy true) (yp k l))), .ro (.sc (.int .i64 k))] (fun rs st => rs = [(false, [cI (k + (sumN zV l : Nat))])]) := by
 have hll := YT (f := zV) (fun x => by unfold zV; omega) l
 refine zp (fn := Tryz.f151) (c := Tryz.f151.body.getD .skip) (res := [.tm 4]) (n := 32) zg (by kernel_rfl) (by rfl) (by kernel_rfl) (by rfl) (by rfl) (by simp [zq]) (fun C hpin hfull => ?_)
 simp +decide only [Tryz.f151, hpin, go_sem, reduceAdd, reduceMul]
 refine Tri.loop (ι := Nat) (fun i => i <= l.length) (fun i => ⟨32, [(0, .imm 107 (rows (zy true) (yp k l))), (1, vI (k + (sumN zV (l.take i) : Nat))), (5, vI i)], []⟩) (fun i => l.length - i) 0 (by simp) ?_ ?_
 · refine Ent.weak ?_ ?_ ?_ ?_ <;> simp +decide [subT, subB, zl, zk, St.get, look, vI, vB, rows, sumN]
 · rintro i hi
   refine zf zg _ ?_
   by_cases h' : i < l.length
   · have e : ((i : Int) < (l.length : Int)) = True := by simp [h']
     have hs1 := xr zV l h'
     have hs2 := ZZ zV l (i + 1)
     have hu : zV l[i] = 2 := rfl
     have h2 : i < (yp k l).length := by rw [xM]; exact h'
     have hg : (rows (zy true) (yp k l)).getD i [] = zy true (XD (k + (sumN zV (l.take i) : Nat)) l[i]) := by rw [zj _ _ h2, ziH k l h' h2]
     obtain ⟨q, hq⟩ : ∃ q, q = k + (sumN zV (l.take i) : Nat) := ⟨_, rfl⟩
     rw [<- hq] at hg |-
     have hq0 : 0 <= q := by omega
     have w0 : IntKind.i64.wrap (q + 1) = q + 1 := w64 (by omega) (by omega)
     have w1 : IntKind.i64.wrap ((q + 1) + 1) = (q + 1) + 1 := w64 (by omega) (by omega)
     simp +decide only [e, h', hg, Xp, bne_self_eq_false, Int.natCast_nonneg, vI, zy, XD, w0, w1, hpin, go_sem, reduceAdd, reduceMul]
     refine Tri.sched zg [(0, true), (1, true), (2, true), (3, true), (5, true), (4, true), (6, false), (7, false)] zT (by kernel_rfl) (fun C2 hC2 => ?_)
     have hp2 := zU hC2 hpin
     simp +decide only [e, h', hg, Xp, bne_self_eq_false, Int.natCast_nonneg, vI, zy, XD, w0, w1, hp2, go_sem, reduceAdd, reduceMul]
     refine ze (yP q (by omega) (by omega)) hp2 ?_
     simp +decide only [e, h', hg, Xp, bne_self_eq_false, Int.natCast_nonneg, vI, zy, XD, w0, w1, hp2, go_sem, reduceAdd, reduceMul]
     try simp +decide only [e, h', hg, Xp, bne_self_eq_false, Int.natCast_nonneg, vI, zy, XD, w0, w1, hpin, go_sem, reduceAdd, reduceMul]
     have e5 : k + (sumN zV (l.take (i + 1)) : Nat) = ((q + 1) + 1) := by omega
     refine ⟨i + 1, h', by omega, Ent.weak ?_ ?_ ?_ ?_⟩
     · simp +decide [subT, St.get, look, w64s (n := l.length) h' (by omega), vI, vB, e5]
     all_goals simp +decide [subB, zl, zk, look, vI]
   · have hil : i = l.length := by omega
     subst hil
     have e : ((l.length : Int) < (l.length : Int)) = False := by simp
     simp +decide only [e, vI, hpin, go_sem, reduceAdd, reduceMul]
def fnN (x : FnD) : Nat := 4 + sumN zV x.params
def fnM (q : Int) (x : FnD) : FnD := ⟨zcy q, yp (q + 1) x.params, ((q + 1) + (sumN zV x.params : Nat)), (((q + 1) + (sumN zV x.params : Nat)) + 1), ((((q + 1) + (sumN zV x.params : Nat)) + 1) + 1)⟩
def fnML : Int -> List FnD -> List FnD
 | _, [] => []
 | q, x :: r => fnM q x :: fnML (q + (fnN x : Nat)) r
theorem Yh : ∀ (q : Int) (l : List FnD), (fnML q l).length = l.length
 | _, [] => rfl
 | q, x :: r => by simp [fnML, Yh]
theorem zaP : ∀ (q : Int) (l l2 : List FnD), fnML q (l ++ l2) = fnML q l ++ fnML (q + (sumN fnN l : Nat)) l2
 | q, [], l2 => by simp [fnML, sumN]
 | q, x :: r, l2 => by
   have e : q + (fnN x : Nat) + (sumN fnN r : Nat) = q + (sumN fnN (x :: r) : Nat) := by simp only [sumN, List.map_cons, List.sum_cons]; omega
   simp only [fnML, List.cons_append, zaP, e]
theorem zhT (q : Int) (l : List FnD) {i : Nat} (h : i < l.length) : fnML q (l.take (i + 1)) = fnML q (l.take i) ++ [fnM (q + (sumN fnN (l.take i) : Nat)) l[i]] := by
 rw [List.take_succ_eq_append_getElem h, zaP]; rfl
theorem znR (q : Int) (l : List FnD) {i : Nat} (h : i < l.length) (h2 : i < (fnML q l).length) : (fnML q l)[i] = fnM (q + (sumN fnN (l.take i) : Nat)) l[i] := by
 have e : l = l.take (i + 1) ++ l.drop (i + 1) := (List.take_append_drop _ _).symm
 have hl : (fnML q (l.take i)).length = i := by rw [Yh]; simp; omega
 have e2 : (fnML q l)[i]? = some (fnM (q + (sumN fnN (l.take i) : Nat)) l[i]) := by
   conv => lhs; rw [e, zaP, zhT q l h, List.append_assoc]
   rw [List.getElem?_append_right (by omega), hl, Nat.sub_self]; rfl
 exact (List.getElem?_eq_some_iff.1 e2).2
attribute [go_sem] Yh
theorem zga (l : List FnD) (k : Int) (h0 : 0 <= k) (h1 : k + (sumN fnN l : Nat) < 4611686018427387904) :
   SoundAt Tryz.prog 47 (fun uf => zq 0 [.ro (.ref 2000 [] l.length), .ro (.sc (.int .i64 k))]) [(2000, .row 104 (rows (fnC false) l))]
     (fun rs st => rs = [(false, [cI (k + (sumN fnN l : Nat))])] /\ xB st.ob [(2000, .row 104 (rows (fnC false) (fnML k l)))]) := by
 have hll := YT (f := fnN) (fun x => by unfold fnN; omega) l
 refine yL (fn := Tryz.f47) (c := Tryz.f47.body.getD .skip) (res := [.tm 4]) (n := 49) zg (by kernel_rfl) (by rfl) (by kernel_rfl) (by rfl) (by rfl) (by simp [zq]) (fun uf ub C hpin hpin2 hfull => ?_)
 simp +decide only [Tryz.f47, hpin, go_sem, reduceAdd, reduceMul]
 refine Tri.loop (ι := Nat) (fun i => i <= l.length) (fun i => ⟨49, [(0, .ref 2000 [] l.length), (1, vI (k + (sumN fnN (l.take i) : Nat))), (5, vI i)], [(2000, .row 104 (rows (fnC false) (fnML k (l.take i)) ++ rows (fnC false) (l.drop i)))]⟩) (fun i => l.length - i) 0 (by simp) ?_ ?_
 · refine Ent.weak ?_ ?_ ?_ ?_ <;> simp +decide [subT, subB, zl, zk, St.get, look, vI, vB, rows, sumN, fnML]
 · rintro i hi
   refine zf zg _ ?_
   by_cases h' : i < l.length
   · have e : ((i : Int) < (l.length : Int)) = True := by simp [h']
     have hs1 := xr fnN l h'
     have hs2 := ZZ fnN l (i + 1)
     have hu : fnN l[i] = 4 + sumN zV l[i].params := rfl
     rw [List.drop_eq_getElem_cons h']
     obtain ⟨EA, hEA⟩ : ∃ E, E = rows (fnC false) (fnML k (l.take i)) := ⟨_, rfl⟩
     obtain ⟨EB, hEB⟩ : ∃ E, E = rows (fnC false) (l.drop (i + 1)) := ⟨_, rfl⟩
     obtain ⟨q, hq⟩ : ∃ q, q = k + (sumN fnN (l.take i) : Nat) := ⟨_, rfl⟩
     have e4 : EA ++ fnC false (fnM q l[i]) :: EB = rows (fnC false) (fnML k (l.take (i + 1))) ++ rows (fnC false) (l.drop (i + 1)) := by
       rw [hEA, hEB, hq, zhT k l h']; simp [rows]
     have hA : EA.length = i := by rw [hEA, yo, Yh]; simp; omega
     have hn : EA.length + (EB.length + 1) = l.length := by rw [hA, hEB, yo, List.length_drop]; omega
     have e0 : rows (fnC false) (fnML k (l.take i)) ++ rows (fnC false) (l[i] :: l.drop (i + 1)) = EA ++ fnC false l[i] :: EB := by rw [hEA, hEB]; rfl
     rw [e0, <- hq]
     have hq0 : 0 <= q := by omega
     have w0 : IntKind.i64.wrap (q + 1) = q + 1 := w64 (by omega) (by omega)
     have w1 : IntKind.i64.wrap (((q + 1) + (sumN zV l[i].params : Nat)) + 1) = ((q + 1) + (sumN zV l[i].params : Nat)) + 1 := w64 (by omega) (by omega)
     have w2 : IntKind.i64.wrap ((((q + 1) + (sumN zV l[i].params : Nat)) + 1) + 1) = (((q + 1) + (sumN zV l[i].params : Nat)) + 1) + 1 := w64 (by omega) (by omega)
     have w3 : IntKind.i64.wrap (((((q + 1) + (sumN zV l[i].params : Nat)) + 1) + 1) + 1) = ((((q + 1) + (sumN zV l[i].params : Nat)) + 1) + 1) + 1 := w64 (by omega) (by omega)
     simp +decide only [e, h', hn, xi hA, yF hA, xh hA, yt hA, yM hA, Int.natCast_nonneg, vI, fnC, w0, w1, w2, w3, hpin, go_sem, reduceAdd, reduceMul]
     refine ze (yP q (by omega) (by omega)) hpin ?_
     simp +decide only [e, h', hn, xi hA, yF hA, xh hA, yt hA, yM hA, Int.natCast_nonneg, vI, fnC, w0, w1, w2, w3, hpin, go_sem, reduceAdd, reduceMul]
     refine zcd 2000 [(i, 1)] 1000 (x := ?x1) (e := 107) (es := rows (zy false) l[i].params) ?ho ?hs (by simp) (by decide) ?ho2 (hpin 1000 rfl) (fun z => ?_)
     case ho => exact rfl
     case hs => simp [subO, subD, yt hA]
     case ho2 => exact rfl
     simp +decide only [e, h', hn, xi hA, yF hA, xh hA, yt hA, yM hA, Int.natCast_nonneg, vI, fnC, w0, w1, w2, w3, hpin, go_sem, reduceAdd, reduceMul]
     have hgeparams := YT (f := zV) (fun x => by unfold zV; omega) l[i].params
     refine ZX (zcz l[i].params (q + 1) (by omega) (by omega)) (zdu (pin3 hpin) (by decide)) [(2000, 1000)] ⟨rfl, rfl, rfl⟩ (fun uf => ⟨rfl, rfl⟩) (fun uf => ?_) ?_
     · simp +decide only [e, h', hn, xi hA, yF hA, xh hA, yt hA, yM hA, Int.natCast_nonneg, vI, fnC, w0, w1, w2, w3, hpin, go_sem, reduceAdd, reduceMul]
     simp +decide only [e, h', hn, xi hA, yF hA, xh hA, yt hA, yM hA, Int.natCast_nonneg, vI, fnC, w0, w1, w2, w3, hpin, go_sem, reduceAdd, reduceMul]
     refine ⟨i + 1, h', by omega, Ent.weak ?_ ?_ ?_ ?_⟩
     · have e5 : k + (sumN fnN (l.take (i + 1)) : Nat) = (((((q + 1) + (sumN zV l[i].params : Nat)) + 1) + 1) + 1) := by omega
       simp +decide [subT, St.get, look, w64s (n := l.length) h' (by omega), vI, vB, e5, hn]
     · rw [<- e4]; simp +decide [subB, look, fnC, fnM, cI, cS, cB, Xp]
     all_goals simp +decide [zl, zk, look, vI, hn]
   · have hil : i = l.length := by omega
     subst hil
     have e : ((l.length : Int) < (l.length : Int)) = False := by simp
     have e6 : rows (fnC false) (fnML k (l.take l.length)) ++ rows (fnC false) (l.drop l.length) = rows (fnC false) (fnML k l) := by simp [rows]
     rw [e6]
     simp +decide only [e, vI, hpin, go_sem, reduceAdd, reduceMul]
theorem zgm (l : List FnD) (k : Int) (h0 : 0 <= k) (h1 : k + (sumN fnN l : Nat) < 4611686018427387904) :
   zw Tryz.prog 75 [.ro (.imm 104 (rows (fnC true) (fnML k l))), .ro (.sc (.int .i64 k))] (fun rs st => rs = [(false, [cI (k + (sumN fnN l : Nat))])]) := by
 have hll := YT (f := fnN) (fun x => by unfold fnN; omega) l
 refine zp (fn := Tryz.f75) (c := Tryz.f75.body.getD .skip) (res := [.tm 4]) (n := 59) zg (by kernel_rfl) (by rfl) (by kernel_rfl) (by rfl) (by rfl) (by simp [zq]) (fun C hpin hfull => ?_)
 simp +decide only [Tryz.f75, hpin, go_sem, reduceAdd, reduceMul]
 refine Tri.loop (ι := Nat) (fun i => i <= l.length) (fun i => ⟨59, [(0, .imm 104 (rows (fnC true) (fnML k l))), (1, vI (k + (sumN fnN (l.take i) : Nat))), (5, vI i)], []⟩) (fun i => l.length - i) 0 (by simp) ?_ ?_
 · refine Ent.weak ?_ ?_ ?_ ?_ <;> simp +decide [subT, subB, zl, zk, St.get, look, vI, vB, rows, sumN]
 · rintro i hi
   refine zf zg _ ?_
   by_cases h' : i < l.length
   · have e : ((i : Int) < (l.length : Int)) = True := by simp [h']
     have hs1 := xr fnN l h'
     have hs2 := ZZ fnN l (i + 1)
     have hu : fnN l[i] = 4 + sumN zV l[i].params := rfl
     have h2 : i < (fnML k l).length := by rw [Yh]; exact h'
     have hg : (rows (fnC true) (fnML k l)).getD i [] = fnC true (fnM (k + (sumN fnN (l.take i) : Nat)) l[i]) := by rw [zj _ _ h2, znR k l h' h2]
     obtain ⟨q, hq⟩ : ∃ q, q = k + (sumN fnN (l.take i) : Nat) := ⟨_, rfl⟩
     rw [<- hq] at hg |-
     have hq0 : 0 <= q := by omega
     have w0 : IntKind.i64.wrap (q + 1) = q + 1 := w64 (by omega) (by omega)
     have w1 : IntKind.i64.wrap (((q + 1) + (sumN zV l[i].params : Nat)) + 1) = ((q + 1) + (sumN zV l[i].params : Nat)) + 1 := w64 (by omega) (by omega)
     have w2 : IntKind.i64.wrap ((((q + 1) + (sumN zV l[i].params : Nat)) + 1) + 1) = (((q + 1) + (sumN zV l[i].params : Nat)) + 1) + 1 := w64 (by omega) (by omega)
     have w3 : IntKind.i64.wrap (((((q + 1) + (sumN zV l[i].params : Nat)) + 1) + 1) + 1) = ((((q + 1) + (sumN zV l[i].params : Nat)) + 1) + 1) + 1 := w64 (by omega) (by omega)
     simp +decide only [e, h', hg, Xp, bne_self_eq_false, Int.natCast_nonneg, vI, fnC, fnM, w0, w1, w2, w3, hpin, go_sem, reduceAdd, reduceMul]
     refine Tri.sched zg [(0, true), (1, true), (2, true), (3, true), (5, true), (4, true), (6, false), (7, false)] zT (by kernel_rfl) (fun C2 hC2 => ?_)
     have hp2 := zU hC2 hpin
     simp +decide only [e, h', hg, Xp, bne_self_eq_false, Int.natCast_nonneg, vI, fnC, fnM, w0, w1, w2, w3, hp2, go_sem, reduceAdd, reduceMul]
     refine ze (yP q (by omega) (by omega)) hp2 ?_
     simp +decide only [e, h', hg, Xp, bne_self_eq_false, Int.natCast_nonneg, vI, fnC, fnM, w0, w1, w2, w3, hp2, go_sem, reduceAdd, reduceMul]
     try simp +decide only [e, h', hg, Xp, bne_self_eq_false, Int.natCast_nonneg, vI, fnC, fnM, w0, w1, w2, w3, hpin, go_sem, reduceAdd, reduceMul]
     refine ze (zcB l[i].params (q + 1) (by omega) (by omega)) hpin ?_
     have n1 : (((q + 1) + (sumN zV l[i].params : Nat) : Int) < 0) = False := by simp; omega
     try simp +decide only [e, h', hg, Xp, bne_self_eq_false, Int.natCast_nonneg, vI, fnC, fnM, w0, w1, w2, w3, n1, hpin, go_sem, reduceAdd, reduceMul]
     have e5 : k + (sumN fnN (l.take (i + 1)) : Nat) = (((((q + 1) + (sumN zV l[i].params : Nat)) + 1) + 1) + 1) := by omega
     refine ⟨i + 1, h', by omega, Ent.weak ?_ ?_ ?_ ?_⟩
     · simp +decide [subT, St.get, look, w64s (n := l.length) h' (by omega), vI, vB, e5]
     all_goals simp +decide [subB, zl, zk, look, vI]
   · have hil : i = l.length := by omega
     subst hil
     have e : ((l.length : Int) < (l.length : Int)) = False := by simp
     simp +decide only [e, vI, hpin, go_sem, reduceAdd, reduceMul]
def znt (x : ProgramD) : Nat := 0 + sumN yD x.nodes + sumN fnN x.fns
def znu (q : Int) (x : ProgramD) : ProgramD := ⟨yH q x.nodes, fnML (q + (sumN yD x.nodes : Nat)) x.fns⟩
def zds : Int -> List ProgramD -> List ProgramD
 | _, [] => []
 | q, x :: r => znu q x :: zds (q + (znt x : Nat)) r
theorem Xm : ∀ (q : Int) (l : List ProgramD), (zds q l).length = l.length
 | _, [] => rfl
 | q, x :: r => by simp [zds, Xm]
attribute [go_sem] Xm
theorem YK (x : ProgramD) (k : Int) (h0 : 0 <= k) (h1 : k + x.nodes.length + x.fns.length + (sumN yD x.nodes : Nat) + (sumN fnN x.fns : Nat) < 4611686018427387904) :
   SoundAt Tryz.prog 15 (fun uf => zq 0 [.ro (.agg [.sc (uf 2000), .sc (uf 2001)]), .ro (.sc (.int .i64 k))]) [(2000, .row 83 (rows (zh false) (x.nodes))), (2001, .row 104 (rows (fnC false) (x.fns)))]
     (fun rs st => rs = [(false, [cI ((k + (sumN yD x.nodes : Nat)) + (sumN fnN x.fns : Nat))])] /\ xB st.ob [(2000, .row 83 (rows (zh false) (yH k x.nodes))), (2001, .row 104 (rows (fnC false) (fnML (k + (sumN yD x.nodes : Nat)) x.fns)))]) := by
 refine yL (fn := Tryz.f15) (c := Tryz.f15.body.getD .skip) (res := [.tm 4]) (n := 14) zg (by kernel_rfl) (by rfl) (by kernel_rfl) (by rfl) (by rfl) (by simp [zq]) (fun uf ub C hpin hpin2 hfull => ?_)
 simp +decide only [Tryz.f15, hpin, hpin2, go_sem, reduceAdd, reduceMul]
 refine XU (zdK x.nodes k (by omega) (by omega)) hpin [(2000, 2000)] ⟨rfl, rfl, rfl⟩ (fun uf => ⟨rfl, rfl⟩) (fun uf => ?_) ?_
 · simp +decide only [hpin2, go_sem, reduceAdd, reduceMul]
 simp +decide only [hpin, hpin2, zo, go_sem, reduceAdd, reduceMul]
 refine XU (zga x.fns (k + (sumN yD x.nodes : Nat)) (by omega) (by omega)) hpin [(2000, 2001)] ⟨rfl, rfl, rfl⟩ (fun uf => ⟨rfl, rfl⟩) (fun uf => ?_) ?_
 · simp +decide only [hpin2, go_sem, reduceAdd, reduceMul]
 simp +decide only [hpin, hpin2, zo, go_sem, reduceAdd, reduceMul]
def varN (x : VarD) : Nat := 3
def varM (q : Int) (x : VarD) : VarD := ⟨zcy q, (q + 1), ((q + 1) + 1)⟩
def zoz : Int -> List VarD -> List VarD
 | _, [] => []
 | q, x :: r => varM q x :: zoz (q + (varN x : Nat)) r
theorem zch : ∀ (q : Int) (l : List VarD), (zoz q l).length = l.length
 | _, [] => rfl
 | q, x :: r => by simp [zoz, zch]
attribute [go_sem] zch
def zpy (x : EffectD) : Nat := 2
def zpz (q : Int) (x : EffectD) : EffectD := ⟨zcy q, (q + 1)⟩
def zgv : Int -> List EffectD -> List EffectD
 | _, [] => []
 | q, x :: r => zpz q x :: zgv (q + (zpy x : Nat)) r
theorem XN : ∀ (q : Int) (l : List EffectD), (zgv q l).length = l.length
 | _, [] => rfl
 | q, x :: r => by simp [zgv, XN]
attribute [go_sem] XN
def sp1 (c : UInt8) : ByteArray := ⟨#[c]⟩
theorem zbK (c : UInt8) : (((sp1 c).size : Nat) : Int) = 1 := rfl
theorem i10 : ((1 : Int) == 0) = false := rfl
theorem im0 : ((-1 : Int) == 0) = false := rfl
theorem i11 : ((1 : Int) == 1) = true := rfl
theorem ziy (c : UInt8) : (sp1 c).data.toList.getD (Int.toNat 0) 0 = c := rfl
theorem zhM (s : ByteArray) (c : UInt8) : zw Tryz.prog 250 [.ro (.sc (.string s)), .ro (.sc (.int .u8 (c.toNat : Int)))] (fun rs st => rs = [(false, [cI (Lib.indexByte s.data.toList c)])]) := by
 refine zp (fn := Tryz.f250) (c := Tryz.f250.body.getD .skip) (res := [.tm 4]) (n := 8) zg (by kernel_rfl) (by rfl) (by kernel_rfl) (by rfl) (by rfl) (by simp [zq]) (fun C hpin hfull => ?_)
 simp +decide only [Tryz.f250, hpin, go_sem, reduceAdd, reduceMul]
 refine zin (fn := Tryz.f254) (e := Extern.BytealgIndexByte.indexByte) (us := [.string s, .int .u8 (c.toNat : Int)]) (r := .int .i64 (Lib.indexByte s.data.toList c)) (by kernel_rfl) (by kernel_rfl) (by kernel_rfl) (by kernel_rfl) (by kernel_rfl) (fun w => by have := Lib.run_indexByteString (P := Tryz.prog) s (c.toNat : Int) w; simpa using this) rfl rfl ?_
 simp +decide only [hpin, go_sem, reduceAdd, reduceMul]
theorem zpc (c : UInt8) : Lib.indexByte (sp1 c).data.toList c = 0 := by simp [sp1, Lib.indexByte]
theorem zmx (s : ByteArray) (c : UInt8) : zw Tryz.prog 247 [.ro (.sc (.string s)), .ro (.sc (.string (sp1 c)))] (fun rs st => rs = [(false, [cI (Lib.indexByte s.data.toList c)])]) := by
 refine zp (fn := Tryz.f247) (c := Tryz.f247.body.getD .skip) (res := [.tm 4]) (n := 143) zg (by kernel_rfl) (by rfl) (by kernel_rfl) (by rfl) (by rfl) (by simp [zq]) (fun C hpin hfull => ?_)
 simp +decide only [Tryz.f247, zbK, ziy, i10, i11, hpin, go_sem, reduceAdd, reduceMul]
 cases h : decide (sp1 c = s) with
 | true =>
   have h' := of_decide_eq_true h
   subst h'
   simp +decide only [hpin, go_sem, reduceAdd, reduceMul]
   rw [zpc]
 | false =>
   simp +decide only [zbK, ziy, i10, i11, hpin, go_sem, reduceAdd, reduceMul]
   refine ze (zhM s c) hpin ?_
   simp +decide only [hpin, go_sem, reduceAdd, reduceMul]
theorem zhP (s : ByteArray) (c : UInt8) : zw Tryz.prog 236 [.ro (.sc (.string s)), .ro (.sc (.string (sp1 c)))] (fun rs st => rs = [(false, [cI (Lib.indexByte s.data.toList c)])]) := by
 refine zp (fn := Tryz.f236) (c := Tryz.f236.body.getD .skip) (res := [.tm 4]) (n := 8) zg (by kernel_rfl) (by rfl) (by kernel_rfl) (by rfl) (by rfl) (by simp [zq]) (fun C hpin hfull => ?_)
 simp +decide only [Tryz.f236, hpin, go_sem, reduceAdd, reduceMul]
 refine ze (zmx s c) hpin ?_
 simp +decide only [hpin, go_sem, reduceAdd, reduceMul]
theorem zia (s : ByteArray) (c : UInt8) : zw Tryz.prog 235 [.ro (.sc (.string s)), .ro (.sc (.string (sp1 c)))] (fun rs st => rs = [(false, [cI ((s.data.toList.count c : Nat) : Int)])]) := by
 refine zp (fn := Tryz.f235) (c := Tryz.f235.body.getD .skip) (res := [.tm 4]) (n := 34) zg (by kernel_rfl) (by rfl) (by kernel_rfl) (by rfl) (by rfl) (by simp [zq]) (fun C hpin hfull => ?_)
 simp +decide only [Tryz.f235, zbK, ziy, i10, i11, hpin, go_sem, reduceAdd, reduceMul]
 refine zin (fn := Tryz.f246) (e := Extern.BytealgCount.count) (us := [.string s, .int .u8 (c.toNat : Int)]) (r := .int .i64 ((s.data.toList.count c : Nat) : Int)) (by kernel_rfl) (by kernel_rfl) (by kernel_rfl) (by kernel_rfl) (by kernel_rfl) (fun w => by have := Lib.run_countString (P := Tryz.prog) s (c.toNat : Int) w; simpa [Lib.countByte] using this) rfl rfl ?_
 simp +decide only [hpin, go_sem, reduceAdd, reduceMul]
theorem zkw (s : ByteArray) : s.data.toList.length = s.size := by cases s; rfl
theorem znX (s : ByteArray) (m : Nat) : s.extract 0 m = zaz (s.data.toList.take m) := by
 apply ByteArray.ext
 rw [ByteArray.data_extract]
 apply Array.toList_inj.1
 rw [Array.toList_extract, List.extract_eq_take_drop]
 simp [zaz]
theorem zkb (s : ByteArray) (k : Nat) : (s.extract k s.size).data.toList = s.data.toList.drop k := by
 rw [ByteArray.data_extract, Array.toList_extract, List.extract_eq_take_drop, <- zkw, List.take_of_length_le (by simp)]
theorem znY (s : ByteArray) (k : Nat) : (s.extract k s.size).size = s.size - k := by simp
def parts (done : List (List UInt8)) (N : Nat) : List ByteArray := done.map zaz ++ List.replicate (N - done.length) ⟨#[]⟩
theorem zck {done : List (List UInt8)} {N : Nat} (h : done.length <= N) : (parts done N).length = N := by simp [parts]; omega
theorem zht {done : List (List UInt8)} {N : Nat} (h : done.length < N) (x : List UInt8) : (parts done N).set done.length (zaz x) = parts (done ++ [x]) N := by
 unfold parts
 rw [List.set_append_right _ _ (by simp), List.length_map, Nat.sub_self]
 obtain ⟨m, hm⟩ : ∃ m, N - done.length = m + 1 := ⟨N - done.length - 1, by omega⟩
 rw [hm, List.replicate_succ, List.set_cons_zero]
 have hm2 : N - (done ++ [x]).length = m := by simp; omega
 rw [hm2]
 simp only [List.map_append, List.map_cons, List.map_nil, List.append_assoc, List.cons_append, List.nil_append]
theorem zeJ (s : ByteArray) (c : UInt8) (hs : s.size <= 1048576) : zw Tryz.prog 218 [.ro (.sc (.string s)), .ro (.sc (.string (sp1 c))), .ro (.sc (.int .i64 0)), .ro (.sc (.int .i64 (-1)))] (fun rs st => rs = [(false, [.row false 9 (row1 cS (Xx s c))])]) := by
 refine zp (fn := Tryz.f218) (c := Tryz.f218.body.getD .skip) (res := [.tm 8]) (n := 66) zg (by kernel_rfl) (by rfl) (by kernel_rfl) (by rfl) (by rfl) (by simp [zq]) (fun C hpin hfull => ?_)
 have hc : s.data.toList.count c <= s.size := by rw [<- zkw]; exact List.count_le_length
 have w1 : IntKind.i64.wrap (((s.data.toList.count c : Nat) : Int) + 1) = ((s.data.toList.count c + 1 : Nat) : Int) := by rw [w64 (by omega) (by omega)]; omega
 have w2 : IntKind.i64.wrap (((s.size : Nat) : Int) + 1) = ((s.size + 1 : Nat) : Int) := by rw [w64 (by omega) (by omega)]; omega
 have e0 : ¬ sp1 c = (⟨#[]⟩ : ByteArray) := by intro h; have := congrArg ByteArray.size h; simp [sp1, ByteArray.size] at this
 simp +decide only [Tryz.f218, e0, im0, zbK, hpin, go_sem, reduceAdd, reduceMul]
 refine ze (zia s c) hpin ?_
 have em : ((((s.size + 1 : Nat) : Int)) < ((s.data.toList.count c + 1 : Nat) : Int)) = False := eq_false (by omega)
 have w3 : IntKind.i64.wrap (((s.data.toList.count c + 1 : Nat) : Int) - 1) = ((s.data.toList.count c : Nat) : Int) := by rw [w64 (by omega) (by omega)]; omega
 simp +decide only [w1, w2, w3, em, e0, im0, zbK, hpin, go_sem, reduceAdd, reduceMul]
 refine ⟨by omega, by omega, by omega, ?_⟩
 let n0 := s.data.toList.count c
 refine Tri.loop (ι := List (List UInt8) × ByteArray) (fun q => Zx s.data.toList c = q.1 ++ Zx q.2.data.toList c /\ q.1.length + q.2.data.toList.count c = n0 /\ q.2.size <= 1048576) (fun q => ⟨66, [(0, vS q.2), (1, vS (sp1 c)), (2, vI 0), (3, vI n0), (8, .ref 8 [] 0), (9, .ref 9 [] (n0 + 1)), (10, vI q.1.length)], [(9, .row 9 (row1 cS (parts q.1 (n0 + 1)))), (8, .row 9 [])]⟩) (fun q => n0 - q.1.length) ([], s) ⟨by simp, by simp [n0], hs⟩ ?_ ?_
 · refine Ent.weak ?_ ?_ ?_ ?_ <;> simp +decide [subT, subB, zl, zk, zn, St.get, look, vI, vB, vS, cS, parts, row1, n0]
 · rintro ⟨done, cur⟩ ⟨hq1, hq2, hq3⟩
   simp only at hq1 hq2 hq3 |-
   refine zf zg _ ?_
   have hcc : cur.data.toList.count c <= cur.size := by rw [<- zkw]; exact List.count_le_length
   by_cases h : done.length < n0
   · have e : ((done.length : Int) < (n0 : Int)) = True := by simpa using h
     have hpl := zck (done := done) (N := n0 + 1) (by omega)
     simp +decide only [e, hpl, vI, vS, hpin, go_sem, reduceAdd, reduceMul]
     refine ze (zhP cur c) hpin ?_
     have hm : 0 <= Lib.indexByte cur.data.toList c := by
       have h1 := Lib.indexByte_ge cur.data.toList c
       by_cases h2 : Lib.indexByte cur.data.toList c = -1
       · have h3 := YU cur.data.toList c
         rw [zde h2] at h3
         simp only [List.length_singleton] at h3
         omega
       · omega
     obtain ⟨g1, g2, g3⟩ := zdd hm
     generalize hmm : Lib.indexByte cur.data.toList c = m at hm g1 g2 g3 |-
     have en : (m < 0) = False := by simpa using hm
     have hlt : m.toNat < cur.size := by rw [<- zkw]; exact g1
     have w4 : IntKind.i64.wrap (m + 0) = m := by rw [w64 (by omega) (by omega)]; omega
     have w5 : IntKind.i64.wrap (m + 1) = m + 1 := w64 (by omega) (by omega)
     have hi : done.length < (parts done (n0 + 1)).length := by rw [hpl]; omega
     simp +decide only [e, en, hpl, w4, w5, zbK, zr _ _ hi, vI, vS, hpin, go_sem, reduceAdd, reduceMul]
     have e5 := zcM cS (parts done (n0 + 1)) done.length (zaz (cur.data.toList.take m.toNat))
     rw [zht (by omega)] at e5
     have e6 : cur.extract (Int.toNat 0) m.toNat = zaz (cur.data.toList.take m.toNat) := znX cur m.toNat
     have e7 : (m + 1).toNat = m.toNat + 1 := by omega
     simp only [cS] at e5
     rw [e6, e5]
     refine ⟨by omega, by omega, by omega, by omega, (done ++ [cur.data.toList.take m.toNat], cur.extract (m.toNat + 1) cur.size), ⟨?_, ?_, ?_⟩, ?_, Ent.weak ?_ ?_ ?_ ?_⟩
     · simp only [zkb]; rw [hq1, g2]; simp
     · simp only [zkb, List.length_append, List.length_singleton]; omega
     · simp only [znY]; omega
     · simp only [List.length_append, List.length_singleton]; omega
     · have w6 : IntKind.i64.wrap ((done.length : Int) + 1) = ((done.length + 1 : Nat) : Int) := by rw [w64 (by omega) (by omega)]; omega
       simp +decide [subT, St.get, look, vI, vS, w6, e7]
     · simp +decide [subB, look, cS]
     all_goals simp +decide [zl, zk, look, vI, vS]
   · have hd : done.length = n0 := by omega
     have e : ((done.length : Int) < (n0 : Int)) = False := by simp; omega
     have hpl := zck (done := done) (N := n0 + 1) (by omega)
     have hi : done.length < (parts done (n0 + 1)).length := by rw [hpl]; omega
     have w6 : IntKind.i64.wrap ((done.length : Int) + 1) = ((done.length + 1 : Nat) : Int) := by rw [w64 (by omega) (by omega)]; omega
     have hx : Zx cur.data.toList c = [cur.data.toList] := by
       refine zde ?_
       have h1 := Lib.indexByte_ge cur.data.toList c
       by_cases h2 : 0 <= Lib.indexByte cur.data.toList c
       · have := (zdd h2).2.2
         omega
       · omega
     have e5 := zcM cS (parts done (n0 + 1)) done.length (zaz cur.data.toList)
     rw [zht (by omega), zjq] at e5
     simp only [cS] at e5
     have e6 : parts (done ++ [cur.data.toList]) (n0 + 1) = Xx s c := by
       unfold Xx parts
       rw [hq1, hx]
       have : n0 + 1 - (done ++ [cur.data.toList]).length = 0 := by simp; omega
       rw [this]; simp
     rw [e6] at e5
     have e7 : (Xx s c).length = n0 + 1 := by unfold Xx; rw [List.length_map, YU]
     simp +decide only [e, hpl, zr _ _ hi, w6, e5, vI, vS, hpin, go_sem, reduceAdd, reduceMul]
     exact ⟨by omega, by omega, by omega, by omega⟩
theorem zix (s : ByteArray) (c : UInt8) (hs : s.size <= 1048576) : zw Tryz.prog 211 [.ro (.sc (.string s)), .ro (.sc (.string (sp1 c)))] (fun rs st => rs = [(false, [.row false 9 (row1 cS (Xx s c))])]) := by
 refine zp (fn := Tryz.f211) (c := Tryz.f211.body.getD .skip) (res := [.tm 4]) (n := 8) zg (by kernel_rfl) (by rfl) (by kernel_rfl) (by rfl) (by rfl) (by simp [zq]) (fun C hpin hfull => ?_)
 simp +decide only [Tryz.f211, hpin, go_sem, reduceAdd, reduceMul]
 refine ze (zeJ s c hs) hpin ?_
 simp +decide only [hpin, go_sem, reduceAdd, reduceMul]
def inI (n lo hi : Int) : Bool := decide (lo <= n) && decide (n <= hi)
theorem in' (n lo hi : Int) : zw Tryz.prog 40 [.ro (.sc (.int .i64 n)), .ro (.sc (.int .i64 lo)), .ro (.sc (.int .i64 hi))] (fun rs st => rs = [(false, [cB (inI n lo hi)])]) := znP n lo hi
theorem xH (n lo hi : Int) : zw Tryz.prog 35 [.ro (.sc (.int .i64 n)), .ro (.sc (.int .i64 lo)), .ro (.sc (.int .i64 hi))] (fun rs st => rs = [(false, [cB (inI n lo hi)])]) := ziU n lo hi
def letB (n : Int) : Bool := decide (97 <= n) && decide (n <= 122)
theorem zav (n : Int) : zw Tryz.prog 143 [.ro (.sc (.int .u8 n))] (fun rs st => rs = [(false, [cB (letB n)])]) := by
 refine zp (fn := Tryz.f143) (c := Tryz.f143.body.getD .skip) (res := [.tm 2]) (n := 9) zg (by kernel_rfl) (by rfl) (by kernel_rfl) (by rfl) (by rfl) (by simp [zq]) (fun C hpin hfull => ?_)
 simp +decide only [Tryz.f143, hpin, go_sem, reduceAdd, reduceMul]
 by_cases h : 97 <= n <;> simp [h, letB]
theorem XJ (n : Int) : zw Tryz.prog 130 [.ro (.sc (.int .u8 n))] (fun rs st => rs = [(false, [cB (letB n)])]) := by
 refine zp (fn := Tryz.f130) (c := Tryz.f130.body.getD .skip) (res := [.tm 2]) (n := 9) zg (by kernel_rfl) (by rfl) (by kernel_rfl) (by rfl) (by rfl) (by simp [zq]) (fun C hpin hfull => ?_)
 simp +decide only [Tryz.f130, hpin, go_sem, reduceAdd, reduceMul]
 by_cases h : 97 <= n <;> simp [h, letB]
def figB (n : Int) : Bool := decide (48 <= n) && decide (n <= 57)
theorem zeH (n : Int) : zw Tryz.prog 144 [.ro (.sc (.int .u8 n))] (fun rs st => rs = [(false, [cB (figB n)])]) := by
 refine zp (fn := Tryz.f144) (c := Tryz.f144.body.getD .skip) (res := [.tm 2]) (n := 9) zg (by kernel_rfl) (by rfl) (by kernel_rfl) (by rfl) (by rfl) (by simp [zq]) (fun C hpin hfull => ?_)
 simp +decide only [Tryz.f144, hpin, go_sem, reduceAdd, reduceMul]
 by_cases h : 48 <= n <;> simp [h, figB]
theorem zdQ (n : Int) : zw Tryz.prog 132 [.ro (.sc (.int .u8 n))] (fun rs st => rs = [(false, [cB (figB n)])]) := by
 refine zp (fn := Tryz.f132) (c := Tryz.f132.body.getD .skip) (res := [.tm 2]) (n := 9) zg (by kernel_rfl) (by rfl) (by kernel_rfl) (by rfl) (by rfl) (by simp [zq]) (fun C hpin hfull => ?_)
 simp +decide only [Tryz.f132, hpin, go_sem, reduceAdd, reduceMul]
 by_cases h : 48 <= n <;> simp [h, figB]
def keyList : List ByteArray := [⟨#[102, 110]⟩, ⟨#[108, 101, 116]⟩, ⟨#[105, 102]⟩, ⟨#[101, 108, 115, 101]⟩, ⟨#[119, 104, 105, 108, 101]⟩, ⟨#[112, 114, 105, 110, 116]⟩, ⟨#[100, 111]⟩, ⟨#[110, 101, 119]⟩, ⟨#[99, 108, 111, 110, 101]⟩, ⟨#[109, 117, 116]⟩, ⟨#[105, 110, 112, 117, 116]⟩, ⟨#[105, 110, 116]⟩, ⟨#[98, 111, 120]⟩, ⟨#[114, 101, 116]⟩]
def ziX : ByteArray := ⟨#[102, 110, 32, 108, 101, 116, 32, 105, 102, 32, 101, 108, 115, 101, 32, 119, 104, 105, 108, 101, 32, 112, 114, 105, 110, 116, 32, 100, 111, 32, 110, 101, 119, 32, 99, 108, 111, 110, 101, 32, 109, 117, 116, 32, 105, 110, 112, 117, 116, 32, 105, 110, 116, 32, 98, 111, 120, 32, 114, 101, 116]⟩
theorem zgf : Xx ziX 32 = keyList := by kernel_rfl
def xd (l : List ByteArray) (s : ByteArray) : Bool := l.any fun w => decide (w = s)
theorem zam {l : List ByteArray} {s : ByteArray} {i : Nat} (h : i < l.length) : xd (l.take (i + 1)) s = (xd (l.take i) s || decide (l[i] = s)) := by
 unfold xd
 rw [List.take_succ_eq_append_getElem h, List.any_append]; simp
theorem zal {l : List ByteArray} {s : ByteArray} {i : Nat} (h : i < l.length) (he : decide (l[i] = s) = true) : xd l s = true := by
 unfold xd
 rw [List.any_eq_true]
 exact ⟨l[i], List.getElem_mem h, he⟩
theorem ziN (s t : ByteArray) (ht : t.size <= 1048576) : zw Tryz.prog 187 [.ro (.sc (.string s)), .ro (.sc (.string t))] (fun rs st => rs = [(false, [cB (xd (Xx t 32) s)])]) := by
 refine zp (fn := Tryz.f187) (c := Tryz.f187.body.getD .skip) (res := [.tm 4]) (n := 18) zg (by kernel_rfl) (by rfl) (by kernel_rfl) (by rfl) (by rfl) (by simp [zq]) (fun C hpin hfull => ?_)
 have hl : (Xx t 32).length <= 1048577 := by
   unfold Xx; rw [List.length_map, YU]
   have : t.data.toList.count 32 <= t.size := by rw [<- zkw]; exact List.count_le_length
   omega
 simp +decide only [Tryz.f187, hpin, go_sem, reduceAdd, reduceMul]
 refine ze (zix t 32 ht) hpin ?_
 simp +decide only [sp1, hpin, go_sem, reduceAdd, reduceMul]
 generalize Xx t 32 = l at hl |-
 refine Tri.loop (ι := Nat) (fun i => i <= l.length /\ xd (l.take i) s = false) (fun i => ⟨18, [(0, vS s), (4, vB false), (8, .ref 3008 [] l.length), (9, vI l.length), (10, vI i)], [(3008, .row 9 (row1 cS l))]⟩) (fun i => l.length - i) 0 (by simp [xd]) ?_ ?_
 · refine Ent.weak ?_ ?_ ?_ ?_ <;> simp +decide [subT, subB, zl, zk, zn, St.get, look, vI, vB, vS, cS]
 · rintro i ⟨hi, hn⟩
   refine zf zg _ ?_
   by_cases h : i < l.length
   · have e : ((i : Int) < (l.length : Int)) = True := by simp [h]
     simp +decide only [e, zr _ _ h, zbe _ _ h, Int.natCast_nonneg, vI, vB, vS, hpin, go_sem, reduceAdd, reduceMul]
     cases hq : decide (l[i] = s) with
     | true =>
       simp +decide only [vI, vB, vS, zal h hq, hpin, go_sem, reduceAdd, reduceMul]
     | false =>
       simp +decide only [vI, vB, vS, hpin, go_sem, reduceAdd, reduceMul]
       refine ⟨i + 1, ⟨h, by rw [zam h, hn, hq]; rfl⟩, by omega, Ent.weak ?_ ?_ ?_ ?_⟩
       all_goals simp +decide [subT, subB, zl, zk, St.get, look, w64s (n := l.length) h (by omega), vI, vB, vS, cS]
   · have hil : i = l.length := by omega
     subst hil
     have e : ((l.length : Int) < (l.length : Int)) = False := by simp
     rw [List.take_length] at hn
     simp +decide only [e, hn, vI, vB, vS, hpin, go_sem, reduceAdd, reduceMul]
theorem zeG (s : ByteArray) : zw Tryz.prog 145 [.ro (.sc (.string s))] (fun rs st => rs = [(false, [cB (xd keyList s)])]) := by
 refine zp (fn := Tryz.f145) (c := Tryz.f145.body.getD .skip) (res := [.tm 2]) (n := 5) zg (by kernel_rfl) (by rfl) (by kernel_rfl) (by rfl) (by rfl) (by simp [zq]) (fun C hpin hfull => ?_)
 simp +decide only [Tryz.f145, hpin, go_sem, reduceAdd, reduceMul]
 have := ziN s ziX (by decide)
 rw [zgf] at this
 refine ze this hpin ?_
 simp +decide only [ziX, hpin, go_sem, reduceAdd, reduceMul]
theorem zkV : zw Tryz.prog 184 [] (fun rs st => rs = [(false, [.row false 9 (row1 cS keyList)])]) := by
 refine zp (fn := Tryz.f184) (c := Tryz.f184.body.getD .skip) (res := [.tm 0]) (n := 2) zg (by kernel_rfl) (by rfl) (by kernel_rfl) (by rfl) (by rfl) (by simp [zq]) (fun C hpin hfull => ?_)
 simp +decide only [Tryz.f184, hpin, go_sem, reduceAdd, reduceMul]
 rfl
theorem zeF (s : ByteArray) : zw Tryz.prog 131 [.ro (.sc (.string s))] (fun rs st => rs = [(false, [cB (xd keyList s)])]) := by
 refine zp (fn := Tryz.f131) (c := Tryz.f131.body.getD .skip) (res := [.tm 2]) (n := 18) zg (by kernel_rfl) (by rfl) (by kernel_rfl) (by rfl) (by rfl) (by simp [zq]) (fun C hpin hfull => ?_)
 simp +decide only [Tryz.f131, hpin, go_sem, reduceAdd, reduceMul]
 refine ze zkV hpin ?_
 simp +decide only [hpin, go_sem, reduceAdd, reduceMul]
 have hl : keyList.length <= 14 := by decide
 generalize keyList = l at hl |-
 refine Tri.loop (ι := Nat) (fun i => i <= l.length /\ xd (l.take i) s = false) (fun i => ⟨18, [(0, vS s), (2, vB false), (3, .ref 3 [] l.length), (4, vI i)], [(3, .row 9 (row1 cS l))]⟩) (fun i => l.length - i) 0 (by simp [xd]) ?_ ?_
 · refine Ent.weak ?_ ?_ ?_ ?_ <;> simp +decide [subT, subB, zl, zk, zn, St.get, look, vI, vB, vS, cS]
 · rintro i ⟨hi, hn⟩
   refine zf zg _ ?_
   by_cases h : i < l.length
   · have e : ((i : Int) < (l.length : Int)) = True := by simp [h]
     simp +decide only [e, zr _ _ h, zbe _ _ h, Int.natCast_nonneg, vI, vB, vS, hpin, go_sem, reduceAdd, reduceMul]
     cases hq : decide (l[i] = s) with
     | true =>
       simp +decide only [vI, vB, vS, zal h hq, hpin, go_sem, reduceAdd, reduceMul]
     | false =>
       simp +decide only [vI, vB, vS, hpin, go_sem, reduceAdd, reduceMul]
       refine ⟨i + 1, ⟨h, by rw [zam h, hn, hq]; rfl⟩, by omega, Ent.weak ?_ ?_ ?_ ?_⟩
       all_goals simp +decide [subT, subB, zl, zk, St.get, look, w64s (n := l.length) h (by omega), vI, vB, vS, cS]
   · have hil : i = l.length := by omega
     subst hil
     have e : ((l.length : Int) < (l.length : Int)) = False := by simp
     rw [List.take_length] at hn
     simp +decide only [e, hn, vI, vB, vS, hpin, go_sem, reduceAdd, reduceMul]
def chB (n : Nat) : Bool := letB n || figB n
def XP (s : ByteArray) (i : Nat) : Bool := (s.data.toList.take i).all fun b => chB b.toNat
def Yr (s : ByteArray) : Bool := inI s.size 1 8 && (letB (((s.data.toList.getD (Int.toNat 0) 0).toNat : Nat) : Int) && (!xd keyList s && XP s s.size))
theorem ZV {s : ByteArray} {i : Nat} (h : i < s.size) : XP s (i + 1) = (XP s i && chB (s.data.toList.getD i 0).toNat) := by
 have h' : i < s.data.toList.length := by rw [zkw]; exact h
 unfold XP
 have e : s.data.toList.getD i 0 = s.data.toList[i] := by rw [List.getD_eq_getElem?_getD, List.getElem?_eq_getElem h']; rfl
 rw [List.take_succ_eq_append_getElem h', List.all_append, e]
 simp only [List.all_cons, List.all_nil, Bool.and_true]
theorem zem {s : ByteArray} {i : Nat} (h : i < s.size) (hc : XP s (i + 1) = false) : XP s s.size = false := by
 have h2 : s.data.toList.take s.size = s.data.toList.take (i + 1) ++ (s.data.toList.drop (i + 1)).take (s.size - (i + 1)) := by
   rw [<- List.take_add]; congr 1; omega
 unfold XP at hc |-
 rw [h2, List.all_append, hc]; rfl
theorem xw (s : ByteArray) : zw Tryz.prog 64 [.ro (.sc (.string s))] (fun rs st => rs = [(false, [cB (Yr s)])]) := by
 refine zp (fn := Tryz.f64) (c := Tryz.f64.body.getD .skip) (res := [.tm 2]) (n := 35) zg (by kernel_rfl) (by rfl) (by kernel_rfl) (by rfl) (by rfl) (by simp [zq]) (fun C hpin hfull => ?_)
 simp +decide only [Tryz.f64, hpin, go_sem, reduceAdd, reduceMul]
 refine ze (in' s.size 1 8) hpin ?_
 simp +decide only [hpin, go_sem, reduceAdd, reduceMul]
 unfold Yr
 cases h1 : inI s.size 1 8 with
 | false =>
   simp +decide only [hpin, go_sem, reduceAdd, reduceMul]
 | true =>
   have hs : 1 <= s.size /\ s.size <= 8 := by simp [inI] at h1; omega
   have e0 : ((0 : Int) < (s.size : Int)) = True := by simp; omega
   simp +decide only [e0, hpin, go_sem, reduceAdd, reduceMul]
   refine ze (zav (((s.data.toList.getD (Int.toNat 0) 0).toNat : Nat) : Int)) hpin ?_
   simp +decide only [hpin, go_sem, reduceAdd, reduceMul]
   cases h2 : letB (((s.data.toList.getD (Int.toNat 0) 0).toNat : Nat) : Int) with
   | false =>
     simp +decide only [hpin, go_sem, reduceAdd, reduceMul]
   | true =>
     simp +decide only [hpin, go_sem, reduceAdd, reduceMul]
     refine Tri.loop (ι := Nat) (fun i => i <= s.size /\ XP s i = true) (fun i => ⟨35, [(0, vS s), (2, vB false), (3, vI i)], []⟩) (fun i => s.size - i) 0 (by simp [XP]) ?_ ?_
     · refine Ent.weak ?_ ?_ ?_ ?_ <;> simp +decide [subT, subB, zl, zk, zn, St.get, look, vI, vB, vS, cS]
     · rintro i ⟨hi, hn⟩
       refine zf zg _ ?_
       by_cases h : i < s.size
       · have e : ((i : Int) < (s.size : Int)) = True := by simp [h]
         simp +decide only [e, Int.natCast_nonneg, vI, vB, vS, hpin, go_sem, reduceAdd, reduceMul]
         refine ze (zav (((s.data.toList.getD i 0).toNat : Nat) : Int)) hpin ?_
         simp +decide only [e, Int.natCast_nonneg, vI, vB, vS, hpin, go_sem, reduceAdd, reduceMul]
         cases hl : letB (((s.data.toList.getD i 0).toNat : Nat) : Int) with
         | true =>
           simp +decide only [vI, vB, vS, hpin, go_sem, reduceAdd, reduceMul]
           refine ⟨i + 1, ⟨h, by rw [ZV h, hn, chB, hl]; rfl⟩, by omega, Ent.weak ?_ ?_ ?_ ?_⟩
           all_goals simp +decide [subT, subB, zl, zk, St.get, look, w64s (n := s.size) h (by omega), vI, vB, vS, cS]
         | false =>
           simp +decide only [e, Int.natCast_nonneg, vI, vB, vS, hpin, go_sem, reduceAdd, reduceMul]
           refine ze (zeH (((s.data.toList.getD i 0).toNat : Nat) : Int)) hpin ?_
           simp +decide only [vI, vB, vS, hpin, go_sem, reduceAdd, reduceMul]
           cases hf : figB (((s.data.toList.getD i 0).toNat : Nat) : Int) with
           | true =>
             simp +decide only [vI, vB, vS, hpin, go_sem, reduceAdd, reduceMul]
             refine ⟨i + 1, ⟨h, by rw [ZV h, hn, chB, hl, hf]; rfl⟩, by omega, Ent.weak ?_ ?_ ?_ ?_⟩
             all_goals simp +decide [subT, subB, zl, zk, St.get, look, w64s (n := s.size) h (by omega), vI, vB, vS, cS]
           | false =>
             have hx := zem h (by rw [ZV h, hn, chB, hl, hf]; rfl)
             simp +decide only [hx, vI, vB, vS, hpin, go_sem, reduceAdd, reduceMul]
       · have hil : i = s.size := by omega
         subst hil
         have e : ((s.size : Int) < (s.size : Int)) = False := by simp
         simp +decide only [e, hn, vI, vB, vS, hpin, go_sem, reduceAdd, reduceMul]
         refine ze (zeG s) hpin ?_
         simp +decide only [vI, vB, vS, hpin, go_sem, reduceAdd, reduceMul]
         simp [hn]
theorem Yd (s : ByteArray) : zw Tryz.prog 55 [.ro (.sc (.string s))] (fun rs st => rs = [(false, [cB (Yr s)])]) := by
 refine zp (fn := Tryz.f55) (c := Tryz.f55.body.getD .skip) (res := [.tm 2]) (n := 36) zg (by kernel_rfl) (by rfl) (by kernel_rfl) (by rfl) (by rfl) (by simp [zq]) (fun C hpin hfull => ?_)
 simp +decide only [Tryz.f55, hpin, go_sem, reduceAdd, reduceMul]
 refine ze (xH s.size 1 8) hpin ?_
 simp +decide only [hpin, go_sem, reduceAdd, reduceMul]
 unfold Yr
 cases h1 : inI s.size 1 8 with
 | false =>
   simp +decide only [hpin, go_sem, reduceAdd, reduceMul]
 | true =>
   have hs : 1 <= s.size /\ s.size <= 8 := by simp [inI] at h1; omega
   have e0 : ((0 : Int) < (s.size : Int)) = True := by simp; omega
   simp +decide only [e0, hpin, go_sem, reduceAdd, reduceMul]
   refine ze (XJ (((s.data.toList.getD (Int.toNat 0) 0).toNat : Nat) : Int)) hpin ?_
   simp +decide only [hpin, go_sem, reduceAdd, reduceMul]
   cases h2 : letB (((s.data.toList.getD (Int.toNat 0) 0).toNat : Nat) : Int) with
   | false =>
     simp +decide only [hpin, go_sem, reduceAdd, reduceMul]
   | true =>
     simp +decide only [hpin, go_sem, reduceAdd, reduceMul]
     refine ze (zeF s) hpin ?_
     simp +decide only [hpin, go_sem, reduceAdd, reduceMul]
     cases h3 : xd keyList s with
     | true => simp +decide only [hpin, go_sem, reduceAdd, reduceMul]
     | false =>
     simp +decide only [hpin, go_sem, reduceAdd, reduceMul]
     refine Tri.loop (ι := Nat) (fun i => i <= s.size /\ XP s i = true) (fun i => ⟨36, [(0, vS s), (2, vB false), (3, vI i)], []⟩) (fun i => s.size - i) 0 (by simp [XP]) ?_ ?_
     · refine Ent.weak ?_ ?_ ?_ ?_ <;> simp +decide [subT, subB, zl, zk, zn, St.get, look, vI, vB, vS, cS]
     · rintro i ⟨hi, hn⟩
       refine zf zg _ ?_
       by_cases h : i < s.size
       · have e : ((i : Int) < (s.size : Int)) = True := by simp [h]
         simp +decide only [e, Int.natCast_nonneg, vI, vB, vS, hpin, go_sem, reduceAdd, reduceMul]
         refine ze (XJ (((s.data.toList.getD i 0).toNat : Nat) : Int)) hpin ?_
         simp +decide only [e, Int.natCast_nonneg, vI, vB, vS, hpin, go_sem, reduceAdd, reduceMul]
         cases hl : letB (((s.data.toList.getD i 0).toNat : Nat) : Int) with
         | true =>
           simp +decide only [vI, vB, vS, hpin, go_sem, reduceAdd, reduceMul]
           refine ⟨i + 1, ⟨h, by rw [ZV h, hn, chB, hl]; rfl⟩, by omega, Ent.weak ?_ ?_ ?_ ?_⟩
           all_goals simp +decide [subT, subB, zl, zk, St.get, look, w64s (n := s.size) h (by omega), vI, vB, vS, cS]
         | false =>
           simp +decide only [e, Int.natCast_nonneg, vI, vB, vS, hpin, go_sem, reduceAdd, reduceMul]
           refine ze (zdQ (((s.data.toList.getD i 0).toNat : Nat) : Int)) hpin ?_
           simp +decide only [vI, vB, vS, hpin, go_sem, reduceAdd, reduceMul]
           cases hf : figB (((s.data.toList.getD i 0).toNat : Nat) : Int) with
           | true =>
             simp +decide only [vI, vB, vS, hpin, go_sem, reduceAdd, reduceMul]
             refine ⟨i + 1, ⟨h, by rw [ZV h, hn, chB, hl, hf]; rfl⟩, by omega, Ent.weak ?_ ?_ ?_ ?_⟩
             all_goals simp +decide [subT, subB, zl, zk, St.get, look, w64s (n := s.size) h (by omega), vI, vB, vS, cS]
           | false =>
             have hx := zem h (by rw [ZV h, hn, chB, hl, hf]; rfl)
             simp +decide only [hx, vI, vB, vS, hpin, go_sem, reduceAdd, reduceMul]
       · have hil : i = s.size := by omega
         subst hil
         have e : ((s.size : Int) < (s.size : Int)) = False := by simp
         simp +decide only [e, hn, vI, vB, vS, hpin, go_sem, reduceAdd, reduceMul]
set_option maxHeartbeats 8000000
def xb (k : Int) : Bool := inI k 1 12
def Yg (k : Int) : Bool := inI k 13 19
def ym (k : Int) : Bool := inI k 2 6 || inI k 12 15
def zI (k : Int) : Int × Int :=
 if k == 8 then (1, 1) else if k == 13 then (1, 1) else if k == 14 then (1, 1) else if k == 15 then (1, 1) else if k == 18 then (1, 1) else if k == 19 then (1, 1)
 else if k == 9 then (2, 2) else if k == 10 then (2, 2) else if k == 11 then (2, 2) else if k == 17 then (2, 2)
 else if k == 16 then (3, 3) else if k == 12 then (0, 3) else if k == 20 then (0, 12) else (0, 0)
def yG (kind i kid : Int) : Bool := if kind == 20 then Yg kid else if (kind == 16 || kind == 17) && decide (0 < i) then kid == 20 else if kind == 19 then kid == 12 else xb kid
theorem ZA (k : Int) : zw Tryz.prog 146 [.ro (.sc (.int .i64 k))] (fun rs st => rs = [(false, [cB (xb k)])]) := by
 refine zp (fn := Tryz.f146) (c := Tryz.f146.body.getD .skip) (res := [.tm 2]) (n := 5) zg (by kernel_rfl) (by rfl) (by kernel_rfl) (by rfl) (by rfl) (by simp [zq]) (fun C hpin hfull => ?_)
 simp +decide only [Tryz.f146, hpin, go_sem, reduceAdd, reduceMul]
 refine ze (in' k 1 12) hpin ?_
 simp +decide only [xb, hpin, go_sem, reduceAdd, reduceMul]
theorem zgi (k : Int) : zw Tryz.prog 237 [.ro (.sc (.int .i64 k))] (fun rs st => rs = [(false, [cB (Yg k)])]) := by
 refine zp (fn := Tryz.f237) (c := Tryz.f237.body.getD .skip) (res := [.tm 2]) (n := 5) zg (by kernel_rfl) (by rfl) (by kernel_rfl) (by rfl) (by rfl) (by simp [zq]) (fun C hpin hfull => ?_)
 simp +decide only [Tryz.f237, hpin, go_sem, reduceAdd, reduceMul]
 refine ze (in' k 13 19) hpin ?_
 simp +decide only [Yg, hpin, go_sem, reduceAdd, reduceMul]
theorem Zz (k : Int) : zw Tryz.prog 134 [.ro (.sc (.int .i64 k))] (fun rs st => rs = [(false, [cB (xb k)])]) := by
 refine zp (fn := Tryz.f134) (c := Tryz.f134.body.getD .skip) (res := [.tm 2]) (n := 5) zg (by kernel_rfl) (by rfl) (by kernel_rfl) (by rfl) (by rfl) (by simp [zq]) (fun C hpin hfull => ?_)
 simp +decide only [Tryz.f134, hpin, go_sem, reduceAdd, reduceMul]
 refine ze (xH k 1 12) hpin ?_
 simp +decide only [xb, hpin, go_sem, reduceAdd, reduceMul]
theorem zgh (k : Int) : zw Tryz.prog 233 [.ro (.sc (.int .i64 k))] (fun rs st => rs = [(false, [cB (Yg k)])]) := by
 refine zp (fn := Tryz.f233) (c := Tryz.f233.body.getD .skip) (res := [.tm 2]) (n := 5) zg (by kernel_rfl) (by rfl) (by kernel_rfl) (by rfl) (by rfl) (by simp [zq]) (fun C hpin hfull => ?_)
 simp +decide only [Tryz.f233, hpin, go_sem, reduceAdd, reduceMul]
 refine ze (xH k 13 19) hpin ?_
 simp +decide only [Yg, hpin, go_sem, reduceAdd, reduceMul]
theorem zaw (k : Int) : zw Tryz.prog 221 [.ro (.sc (.int .i64 k))] (fun rs st => rs = [(false, [cB (ym k)])]) := by
 refine zp (fn := Tryz.f221) (c := Tryz.f221.body.getD .skip) (res := [.tm 2]) (n := 9) zg (by kernel_rfl) (by rfl) (by kernel_rfl) (by rfl) (by rfl) (by simp [zq]) (fun C hpin hfull => ?_)
 simp +decide only [Tryz.f221, hpin, go_sem, reduceAdd, reduceMul]
 refine ze (in' k 2 6) hpin ?_
 simp +decide only [hpin, go_sem, reduceAdd, reduceMul]
 unfold ym
 cases h1 : inI k 2 6 with
 | true => simp +decide only [Bool.true_or, hpin, go_sem, reduceAdd, reduceMul]
 | false =>
   simp +decide only [hpin, go_sem, reduceAdd, reduceMul]
   refine ze (in' k 12 15) hpin ?_
   simp +decide only [Bool.false_or, hpin, go_sem, reduceAdd, reduceMul]
theorem zdI (k : Int) : zw Tryz.prog 216 [.ro (.sc (.int .i64 k))] (fun rs st => rs = [(false, [cB (ym k)])]) := by
 refine zp (fn := Tryz.f216) (c := Tryz.f216.body.getD .skip) (res := [.tm 2]) (n := 14) zg (by kernel_rfl) (by rfl) (by kernel_rfl) (by rfl) (by rfl) (by simp [zq]) (fun C hpin hfull => ?_)
 simp +decide only [Tryz.f216, hpin, go_sem, reduceAdd, reduceMul]
 cases h2 : k == 2 with
 | true =>
   have hk : k = 2 := by simpa using h2
   have hr : ym k = true := by rw [hk]; decide
   simp +decide only [h2, hr, hpin, go_sem, reduceAdd, reduceMul]
 | false =>
 simp +decide only [h2, hpin, go_sem, reduceAdd, reduceMul]
 cases h3 : k == 3 with
 | true =>
   have hk : k = 3 := by simpa using h3
   have hr : ym k = true := by rw [hk]; decide
   simp +decide only [h3, hr, hpin, go_sem, reduceAdd, reduceMul]
 | false =>
 simp +decide only [h3, hpin, go_sem, reduceAdd, reduceMul]
 cases h4 : k == 4 with
 | true =>
   have hk : k = 4 := by simpa using h4
   have hr : ym k = true := by rw [hk]; decide
   simp +decide only [h4, hr, hpin, go_sem, reduceAdd, reduceMul]
 | false =>
 simp +decide only [h4, hpin, go_sem, reduceAdd, reduceMul]
 cases h5 : k == 5 with
 | true =>
   have hk : k = 5 := by simpa using h5
   have hr : ym k = true := by rw [hk]; decide
   simp +decide only [h5, hr, hpin, go_sem, reduceAdd, reduceMul]
 | false =>
 simp +decide only [h5, hpin, go_sem, reduceAdd, reduceMul]
 cases h6 : k == 6 with
 | true =>
   have hk : k = 6 := by simpa using h6
   have hr : ym k = true := by rw [hk]; decide
   simp +decide only [h6, hr, hpin, go_sem, reduceAdd, reduceMul]
 | false =>
 simp +decide only [h6, hpin, go_sem, reduceAdd, reduceMul]
 cases h12 : k == 12 with
 | true =>
   have hk : k = 12 := by simpa using h12
   have hr : ym k = true := by rw [hk]; decide
   simp +decide only [h12, hr, hpin, go_sem, reduceAdd, reduceMul]
 | false =>
 simp +decide only [h12, hpin, go_sem, reduceAdd, reduceMul]
 cases h13 : k == 13 with
 | true =>
   have hk : k = 13 := by simpa using h13
   have hr : ym k = true := by rw [hk]; decide
   simp +decide only [h13, hr, hpin, go_sem, reduceAdd, reduceMul]
 | false =>
 simp +decide only [h13, hpin, go_sem, reduceAdd, reduceMul]
 cases h14 : k == 14 with
 | true =>
   have hk : k = 14 := by simpa using h14
   have hr : ym k = true := by rw [hk]; decide
   simp +decide only [h14, hr, hpin, go_sem, reduceAdd, reduceMul]
 | false =>
 simp +decide only [h14, hpin, go_sem, reduceAdd, reduceMul]
 cases h15 : k == 15 with
 | true =>
   have hk : k = 15 := by simpa using h15
   have hr : ym k = true := by rw [hk]; decide
   simp +decide only [h15, hr, hpin, go_sem, reduceAdd, reduceMul]
 | false =>
 simp +decide only [h15, hpin, go_sem, reduceAdd, reduceMul]
 have hr : ym k = false := by simp at h2 h3 h4 h5 h6 h12 h13 h14 h15; simp [ym, inI]; omega
 simp +decide only [hr, hpin, go_sem, reduceAdd, reduceMul]
theorem zgW (k : Int) : zw Tryz.prog 219 [.ro (.sc (.int .i64 k))] (fun rs st => rs = [(false, [cI (zI k).1]), (false, [cI (zI k).2])]) := by
 refine zp (fn := Tryz.f219) (c := Tryz.f219.body.getD .skip) (res := [.tm 2, .tm 3]) (n := 23) zg (by kernel_rfl) (by rfl) (by kernel_rfl) (by rfl) (by rfl) (by simp [zq]) (fun C hpin hfull => ?_)
 simp +decide only [Tryz.f219, hpin, go_sem, reduceAdd, reduceMul]
 cases h8 : k == 8 with
 | true =>
   have hk : k = 8 := by simpa using h8
   have hr : zI k = (1, 1) := by rw [hk]; decide
   simp +decide only [h8, hr, hpin, go_sem, reduceAdd, reduceMul]
 | false =>
 simp +decide only [h8, hpin, go_sem, reduceAdd, reduceMul]
 cases h13 : k == 13 with
 | true =>
   have hk : k = 13 := by simpa using h13
   have hr : zI k = (1, 1) := by rw [hk]; decide
   simp +decide only [h13, hr, hpin, go_sem, reduceAdd, reduceMul]
 | false =>
 simp +decide only [h13, hpin, go_sem, reduceAdd, reduceMul]
 cases h14 : k == 14 with
 | true =>
   have hk : k = 14 := by simpa using h14
   have hr : zI k = (1, 1) := by rw [hk]; decide
   simp +decide only [h14, hr, hpin, go_sem, reduceAdd, reduceMul]
 | false =>
 simp +decide only [h14, hpin, go_sem, reduceAdd, reduceMul]
 cases h15 : k == 15 with
 | true =>
   have hk : k = 15 := by simpa using h15
   have hr : zI k = (1, 1) := by rw [hk]; decide
   simp +decide only [h15, hr, hpin, go_sem, reduceAdd, reduceMul]
 | false =>
 simp +decide only [h15, hpin, go_sem, reduceAdd, reduceMul]
 cases h18 : k == 18 with
 | true =>
   have hk : k = 18 := by simpa using h18
   have hr : zI k = (1, 1) := by rw [hk]; decide
   simp +decide only [h18, hr, hpin, go_sem, reduceAdd, reduceMul]
 | false =>
 simp +decide only [h18, hpin, go_sem, reduceAdd, reduceMul]
 cases h19 : k == 19 with
 | true =>
   have hk : k = 19 := by simpa using h19
   have hr : zI k = (1, 1) := by rw [hk]; decide
   simp +decide only [h19, hr, hpin, go_sem, reduceAdd, reduceMul]
 | false =>
 simp +decide only [h19, hpin, go_sem, reduceAdd, reduceMul]
 cases h9 : k == 9 with
 | true =>
   have hk : k = 9 := by simpa using h9
   have hr : zI k = (2, 2) := by rw [hk]; decide
   simp +decide only [h9, hr, hpin, go_sem, reduceAdd, reduceMul]
 | false =>
 simp +decide only [h9, hpin, go_sem, reduceAdd, reduceMul]
 cases h10 : k == 10 with
 | true =>
   have hk : k = 10 := by simpa using h10
   have hr : zI k = (2, 2) := by rw [hk]; decide
   simp +decide only [h10, hr, hpin, go_sem, reduceAdd, reduceMul]
 | false =>
 simp +decide only [h10, hpin, go_sem, reduceAdd, reduceMul]
 cases h11 : k == 11 with
 | true =>
   have hk : k = 11 := by simpa using h11
   have hr : zI k = (2, 2) := by rw [hk]; decide
   simp +decide only [h11, hr, hpin, go_sem, reduceAdd, reduceMul]
 | false =>
 simp +decide only [h11, hpin, go_sem, reduceAdd, reduceMul]
 cases h17 : k == 17 with
 | true =>
   have hk : k = 17 := by simpa using h17
   have hr : zI k = (2, 2) := by rw [hk]; decide
   simp +decide only [h17, hr, hpin, go_sem, reduceAdd, reduceMul]
 | false =>
 simp +decide only [h17, hpin, go_sem, reduceAdd, reduceMul]
 cases h16 : k == 16 with
 | true =>
   have hk : k = 16 := by simpa using h16
   have hr : zI k = (3, 3) := by rw [hk]; decide
   simp +decide only [h16, hr, hpin, go_sem, reduceAdd, reduceMul]
 | false =>
 simp +decide only [h16, hpin, go_sem, reduceAdd, reduceMul]
 cases h12 : k == 12 with
 | true =>
   have hk : k = 12 := by simpa using h12
   have hr : zI k = (0, 3) := by rw [hk]; decide
   simp +decide only [h12, hr, hpin, go_sem, reduceAdd, reduceMul]
 | false =>
 simp +decide only [h12, hpin, go_sem, reduceAdd, reduceMul]
 cases h20 : k == 20 with
 | true =>
   have hk : k = 20 := by simpa using h20
   have hr : zI k = (0, 12) := by rw [hk]; decide
   simp +decide only [h20, hr, hpin, go_sem, reduceAdd, reduceMul]
 | false =>
 simp +decide only [h20, hpin, go_sem, reduceAdd, reduceMul]
 have hr : zI k = (0, 0) := by simp only [zI, h8, h13, h14, h15, h18, h19, h9, h10, h11, h17, h16, h12, h20, Bool.false_eq_true, if_false]
 simp +decide only [hr, hpin, go_sem, reduceAdd, reduceMul]
theorem zgV (k : Int) : zw Tryz.prog 215 [.ro (.sc (.int .i64 k))] (fun rs st => rs = [(false, [cI (zI k).1]), (false, [cI (zI k).2])]) := by
 refine zp (fn := Tryz.f215) (c := Tryz.f215.body.getD .skip) (res := [.tm 2, .tm 3]) (n := 23) zg (by kernel_rfl) (by rfl) (by kernel_rfl) (by rfl) (by rfl) (by simp [zq]) (fun C hpin hfull => ?_)
 simp +decide only [Tryz.f215, hpin, go_sem, reduceAdd, reduceMul]
 cases h8 : k == 8 with
 | true =>
   have hk : k = 8 := by simpa using h8
   have hr : zI k = (1, 1) := by rw [hk]; decide
   simp +decide only [h8, hr, hpin, go_sem, reduceAdd, reduceMul]
 | false =>
 simp +decide only [h8, hpin, go_sem, reduceAdd, reduceMul]
 cases h13 : k == 13 with
 | true =>
   have hk : k = 13 := by simpa using h13
   have hr : zI k = (1, 1) := by rw [hk]; decide
   simp +decide only [h13, hr, hpin, go_sem, reduceAdd, reduceMul]
 | false =>
 simp +decide only [h13, hpin, go_sem, reduceAdd, reduceMul]
 cases h14 : k == 14 with
 | true =>
   have hk : k = 14 := by simpa using h14
   have hr : zI k = (1, 1) := by rw [hk]; decide
   simp +decide only [h14, hr, hpin, go_sem, reduceAdd, reduceMul]
 | false =>
 simp +decide only [h14, hpin, go_sem, reduceAdd, reduceMul]
 cases h15 : k == 15 with
 | true =>
   have hk : k = 15 := by simpa using h15
   have hr : zI k = (1, 1) := by rw [hk]; decide
   simp +decide only [h15, hr, hpin, go_sem, reduceAdd, reduceMul]
 | false =>
 simp +decide only [h15, hpin, go_sem, reduceAdd, reduceMul]
 cases h18 : k == 18 with
 | true =>
   have hk : k = 18 := by simpa using h18
   have hr : zI k = (1, 1) := by rw [hk]; decide
   simp +decide only [h18, hr, hpin, go_sem, reduceAdd, reduceMul]
 | false =>
 simp +decide only [h18, hpin, go_sem, reduceAdd, reduceMul]
 cases h19 : k == 19 with
 | true =>
   have hk : k = 19 := by simpa using h19
   have hr : zI k = (1, 1) := by rw [hk]; decide
   simp +decide only [h19, hr, hpin, go_sem, reduceAdd, reduceMul]
 | false =>
 simp +decide only [h19, hpin, go_sem, reduceAdd, reduceMul]
 cases h9 : k == 9 with
 | true =>
   have hk : k = 9 := by simpa using h9
   have hr : zI k = (2, 2) := by rw [hk]; decide
   simp +decide only [h9, hr, hpin, go_sem, reduceAdd, reduceMul]
 | false =>
 simp +decide only [h9, hpin, go_sem, reduceAdd, reduceMul]
 cases h10 : k == 10 with
 | true =>
   have hk : k = 10 := by simpa using h10
   have hr : zI k = (2, 2) := by rw [hk]; decide
   simp +decide only [h10, hr, hpin, go_sem, reduceAdd, reduceMul]
 | false =>
 simp +decide only [h10, hpin, go_sem, reduceAdd, reduceMul]
 cases h11 : k == 11 with
 | true =>
   have hk : k = 11 := by simpa using h11
   have hr : zI k = (2, 2) := by rw [hk]; decide
   simp +decide only [h11, hr, hpin, go_sem, reduceAdd, reduceMul]
 | false =>
 simp +decide only [h11, hpin, go_sem, reduceAdd, reduceMul]
 cases h17 : k == 17 with
 | true =>
   have hk : k = 17 := by simpa using h17
   have hr : zI k = (2, 2) := by rw [hk]; decide
   simp +decide only [h17, hr, hpin, go_sem, reduceAdd, reduceMul]
 | false =>
 simp +decide only [h17, hpin, go_sem, reduceAdd, reduceMul]
 cases h12 : k == 12 with
 | true =>
   have hk : k = 12 := by simpa using h12
   have hr : zI k = (0, 3) := by rw [hk]; decide
   simp +decide only [h12, hr, hpin, go_sem, reduceAdd, reduceMul]
 | false =>
 simp +decide only [h12, hpin, go_sem, reduceAdd, reduceMul]
 cases h16 : k == 16 with
 | true =>
   have hk : k = 16 := by simpa using h16
   have hr : zI k = (3, 3) := by rw [hk]; decide
   simp +decide only [h16, hr, hpin, go_sem, reduceAdd, reduceMul]
 | false =>
 simp +decide only [h16, hpin, go_sem, reduceAdd, reduceMul]
 cases h20 : k == 20 with
 | true =>
   have hk : k = 20 := by simpa using h20
   have hr : zI k = (0, 12) := by rw [hk]; decide
   simp +decide only [h20, hr, hpin, go_sem, reduceAdd, reduceMul]
 | false =>
 simp +decide only [h20, hpin, go_sem, reduceAdd, reduceMul]
 have hr : zI k = (0, 0) := by simp only [zI, h8, h13, h14, h15, h18, h19, h9, h10, h11, h17, h12, h16, h20, Bool.false_eq_true, if_false]
 simp +decide only [hr, hpin, go_sem, reduceAdd, reduceMul]
theorem zjh (k i j : Int) : zw Tryz.prog 220 [.ro (.sc (.int .i64 k)), .ro (.sc (.int .i64 i)), .ro (.sc (.int .i64 j))] (fun rs st => rs = [(false, [cB (yG k i j)])]) := by
 refine zp (fn := Tryz.f220) (c := Tryz.f220.body.getD .skip) (res := [.tm 6]) (n := 32) zg (by kernel_rfl) (by rfl) (by kernel_rfl) (by rfl) (by rfl) (by simp [zq]) (fun C hpin hfull => ?_)
 simp +decide only [Tryz.f220, hpin, go_sem, reduceAdd, reduceMul]
 cases h20 : k == 20 with
 | true =>
   have hr : yG k i j = Yg j := by simp [yG, h20]
   simp +decide only [h20, hpin, go_sem, reduceAdd, reduceMul]
   refine ze (zgi j) hpin ?_
   simp +decide only [hr, hpin, go_sem, reduceAdd, reduceMul]
 | false =>
 simp +decide only [h20, hpin, go_sem, reduceAdd, reduceMul]
 cases h16 : k == 16 with
 | true =>
   simp +decide only [h16, hpin, go_sem, reduceAdd, reduceMul]
   by_cases hi : 0 < i
   · have hr : yG k i j = (j == 20) := by simp [yG, h20, h16, hi]
     have hi2 : (0 < i) = True := eq_true hi
     simp +decide only [hi2, hr, hpin, go_sem, reduceAdd, reduceMul]
   · have h19 : (k == 19) = false := by rw [show k = 16 by simpa using h16]; decide
     have hr : yG k i j = xb j := by simp [yG, h20, h16, h19, hi]
     have hi2 : (0 < i) = False := eq_false hi
     simp +decide only [hi2, h19, hpin, go_sem, reduceAdd, reduceMul]
     refine ze (ZA j) hpin ?_
     simp +decide only [hr, hpin, go_sem, reduceAdd, reduceMul]
 | false =>
 simp +decide only [h16, hpin, go_sem, reduceAdd, reduceMul]
 cases h17 : k == 17 with
 | true =>
   simp +decide only [h17, hpin, go_sem, reduceAdd, reduceMul]
   by_cases hi : 0 < i
   · have hr : yG k i j = (j == 20) := by simp [yG, h20, h17, hi]
     have hi2 : (0 < i) = True := eq_true hi
     simp +decide only [hi2, hr, hpin, go_sem, reduceAdd, reduceMul]
   · have h19 : (k == 19) = false := by rw [show k = 17 by simpa using h17]; decide
     have hr : yG k i j = xb j := by simp [yG, h20, h17, h19, hi]
     have hi2 : (0 < i) = False := eq_false hi
     simp +decide only [hi2, h19, hpin, go_sem, reduceAdd, reduceMul]
     refine ze (ZA j) hpin ?_
     simp +decide only [hr, hpin, go_sem, reduceAdd, reduceMul]
 | false =>
 simp +decide only [h17, hpin, go_sem, reduceAdd, reduceMul]
 cases h19 : k == 19 with
 | true =>
   have hr : yG k i j = (j == 12) := by simp [yG, h20, h16, h17, h19]
   simp +decide only [h19, hr, hpin, go_sem, reduceAdd, reduceMul]
 | false =>
 have hr : yG k i j = xb j := by simp [yG, h20, h16, h17, h19]
 simp +decide only [h19, hpin, go_sem, reduceAdd, reduceMul]
 refine ze (ZA j) hpin ?_
 simp +decide only [hr, hpin, go_sem, reduceAdd, reduceMul]
theorem zjg (k i j : Int) : zw Tryz.prog 217 [.ro (.sc (.int .i64 k)), .ro (.sc (.int .i64 i)), .ro (.sc (.int .i64 j))] (fun rs st => rs = [(false, [cB (yG k i j)])]) := by
 refine zp (fn := Tryz.f217) (c := Tryz.f217.body.getD .skip) (res := [.tm 6]) (n := 25) zg (by kernel_rfl) (by rfl) (by kernel_rfl) (by rfl) (by rfl) (by simp [zq]) (fun C hpin hfull => ?_)
 simp +decide only [Tryz.f217, hpin, go_sem, reduceAdd, reduceMul]
 cases h20 : k == 20 with
 | true =>
   have hr : yG k i j = Yg j := by simp [yG, h20]
   simp +decide only [h20, hpin, go_sem, reduceAdd, reduceMul]
   refine ze (zgh j) hpin ?_
   simp +decide only [hr, hpin, go_sem, reduceAdd, reduceMul]
 | false =>
 simp +decide only [h20, hpin, go_sem, reduceAdd, reduceMul]
 cases h16 : k == 16 with
 | true =>
   simp +decide only [h16, hpin, go_sem, reduceAdd, reduceMul]
   by_cases hi : 0 < i
   · have hr : yG k i j = (j == 20) := by simp [yG, h20, h16, hi]
     have hi2 : (0 < i) = True := eq_true hi
     simp +decide only [hi2, hr, hpin, go_sem, reduceAdd, reduceMul]
   · have h19 : (k == 19) = false := by rw [show k = 16 by simpa using h16]; decide
     have hr : yG k i j = xb j := by simp [yG, h20, h16, h19, hi]
     have hi2 : (0 < i) = False := eq_false hi
     simp +decide only [hi2, h19, hpin, go_sem, reduceAdd, reduceMul]
     refine ze (Zz j) hpin ?_
     simp +decide only [hr, hpin, go_sem, reduceAdd, reduceMul]
 | false =>
 simp +decide only [h16, hpin, go_sem, reduceAdd, reduceMul]
 cases h17 : k == 17 with
 | true =>
   simp +decide only [h17, hpin, go_sem, reduceAdd, reduceMul]
   by_cases hi : 0 < i
   · have hr : yG k i j = (j == 20) := by simp [yG, h20, h17, hi]
     have hi2 : (0 < i) = True := eq_true hi
     simp +decide only [hi2, hr, hpin, go_sem, reduceAdd, reduceMul]
   · have h19 : (k == 19) = false := by rw [show k = 17 by simpa using h17]; decide
     have hr : yG k i j = xb j := by simp [yG, h20, h17, h19, hi]
     have hi2 : (0 < i) = False := eq_false hi
     simp +decide only [hi2, h19, hpin, go_sem, reduceAdd, reduceMul]
     refine ze (Zz j) hpin ?_
     simp +decide only [hr, hpin, go_sem, reduceAdd, reduceMul]
 | false =>
 simp +decide only [h17, hpin, go_sem, reduceAdd, reduceMul]
 cases h19 : k == 19 with
 | true =>
   have hr : yG k i j = (j == 12) := by simp [yG, h20, h16, h17, h19]
   simp +decide only [h19, hr, hpin, go_sem, reduceAdd, reduceMul]
 | false =>
 have hr : yG k i j = xb j := by simp [yG, h20, h16, h17, h19]
 simp +decide only [h19, hpin, go_sem, reduceAdd, reduceMul]
 refine ze (Zz j) hpin ?_
 simp +decide only [hr, hpin, go_sem, reduceAdd, reduceMul]
def nd0 : NodeD := ⟨0, 0, ⟨#[]⟩, []⟩
def nAt (nodes : List NodeD) (j : Int) : NodeD := nodes.getD j.toNat nd0
theorem yI {nodes : List NodeD} {j : Int} (h : j.toNat < nodes.length) : nAt nodes j = nodes[j.toNat] := by simp [nAt, List.getD, h]
theorem zH {nodes : List NodeD} {n : Nat} (h : n < nodes.length) : nAt nodes (n : Int) = nodes[n] := by simp [nAt, List.getD, h]
def kidB (nodes : List NodeD) (k : Int) (x : NodeD) (i : Nat) : Bool := inI (x.kids.getD i 0) 0 (k - 1) && (!(x.kids.take i).contains (x.kids.getD i 0) && yG x.kind i (nAt nodes (x.kids.getD i 0)).kind)
def zhC (x : NodeD) : Bool := if x.kind == 1 then inI x.num 0 1000000000 else x.num == 0
def YJ (x : NodeD) : Bool := if ym x.kind then Yr x.name else decide (x.name = ⟨#[]⟩)
def zK (f : Nat -> Bool) (n : Nat) : Bool := (List.range n).all f
theorem zQ (f : Nat -> Bool) (n : Nat) : zK f (n + 1) = (zK f n && f n) := by simp [zK, List.range_succ]
theorem zA {f : Nat -> Bool} {n i : Nat} (h : i < n) (hf : f i = false) : zK f n = false := by
 unfold zK; rw [List.all_eq_false]; exact ⟨i, List.mem_range.2 h, by simp [hf]⟩
theorem xt {f : Nat -> Bool} {n : Nat} : zK f n = true ↔ ∀ i, i < n -> f i = true := by
 unfold zK; rw [List.all_eq_true]; exact ⟨fun h i hi => h i (List.mem_range.2 hi), fun h i hi => h i (List.mem_range.1 hi)⟩
def zau (nodes : List NodeD) (k : Int) (x : NodeD) : Bool := inI x.kind 1 20 && (inI x.kids.length (zI x.kind).1 (zI x.kind).2 && (zhC x && (YJ x && zK (kidB nodes k x) x.kids.length)))
def Yq (nodes : List NodeD) (k : Int) : Bool := inI k 0 (nodes.length - 1) && zau nodes k (nAt nodes k)
theorem zx {n a b : Int} (h : inI n a b = true) : a <= n /\ n <= b := by simpa [inI] using h
theorem zrN {α : Type} (l : List α) : List.drop (Int.toNat 0) l = l := rfl
attribute [go_sem] zrN
theorem zqQ (l : List Int) {i : Nat} (h : i <= l.length) : (row1 cI l).take i = row1 cI (l.take i) := by simp [row1, List.map_take]
theorem ziR (nodes : List NodeD) (k : Int) (hn : nodes.length <= 1048576) (hk : ∀ x ∈ nodes, x.kids.length <= 1048576) : zw Tryz.prog 212 [.ro (.imm 83 (rows (zh true) nodes)), .ro (.sc (.int .i64 k))] (fun rs st => rs = [(false, [cB (Yq nodes k)])]) := by
 refine zm (fn := Tryz.f212) (c := Tryz.f212.body.getD .skip) (res := [.tm 4]) (n := 101) zg (by kernel_rfl) (by rfl) (by kernel_rfl) (by rfl) (by rfl) (by simp [zq]) (fun uf ub C hpin hpin2 hfull => ?_)
 simp only [Tryz.f212, Option.getD_some]
 have w1 : IntKind.i64.wrap ((nodes.length : Int) - 1) = (nodes.length : Int) - 1 := w64 (by omega) (by omega)
 refine Tri.step zg ?_
 simp +decide only [hpin, go_sem, reduceAdd, reduceMul]
 refine Tri.step zg ?_
 simp +decide only [w1, hpin, go_sem, reduceAdd, reduceMul]
 refine ze (in' k 0 (nodes.length - 1)) hpin ?_
 simp +decide only [hpin, go_sem, reduceAdd, reduceMul]
 unfold Yq
 cases h0 : inI k 0 (nodes.length - 1) with
 | false => simp +decide only [hpin, go_sem, reduceAdd, reduceMul]
 | true =>
 have hr := zx h0
 obtain ⟨n, rfl⟩ : ∃ n : Nat, k = n := ⟨k.toNat, by omega⟩
 have hnl : n < nodes.length := by omega
 rw [zH hnl, Bool.true_and]
 have hkx := hk nodes[n] (List.getElem_mem hnl)
 generalize hx : nodes[n] = x at hkx
 have hc1 : ((n : Int) < (nodes.length : Int)) = True := eq_true (by omega)
 simp +decide only [hpin, go_sem, reduceAdd, reduceMul]
 refine Tri.step zg ?_
 simp +decide only [hc1, zj _ _ hnl, hx, Int.natCast_nonneg, zh, hpin, go_sem, reduceAdd, reduceMul]
 refine Tri.ent ?_ (Ent.frb hfull 5)
 refine Tri.step zg ?_
 simp +decide only [hpin, go_sem, reduceAdd, reduceMul]
 refine ze (zgW x.kind) hpin ?_
 simp +decide only [hpin, go_sem, reduceAdd, reduceMul]
 refine Tri.step zg ?_
 simp +decide only [hpin, go_sem, reduceAdd, reduceMul]
 refine ze (in' x.kind 1 20) hpin ?_
 simp +decide only [hpin, go_sem, reduceAdd, reduceMul]
 unfold zau
 cases h1 : inI x.kind 1 20 with
 | false => simp +decide only [hpin, go_sem, reduceAdd, reduceMul]
 | true =>
 simp +decide only [hpin, go_sem, reduceAdd, reduceMul]
 refine ze (in' x.kids.length (zI x.kind).1 (zI x.kind).2) hpin ?_
 simp +decide only [hpin, go_sem, reduceAdd, reduceMul]
 cases h2 : inI x.kids.length (zI x.kind).1 (zI x.kind).2 with
 | false => simp +decide only [hpin, go_sem, reduceAdd, reduceMul]
 | true =>
 simp +decide only [hpin, go_sem, reduceAdd, reduceMul]
 refine Tri.step zg ?_
 simp +decide only [hpin, go_sem, reduceAdd, reduceMul]
 refine Tri.loop (ι := Nat) (fun i => i <= x.kids.length /\ zK (kidB nodes n x) i = true) (fun i => ⟨101, [(0, .imm 83 (rows (zh true) nodes)), (1, vI n), (4, vB false), (5, .ip (zh true x) 0), (40, roI x.kids), (41, vI x.kids.length), (42, vI i)], []⟩) (fun i => x.kids.length - i) 0 ⟨by simp, rfl⟩ ?_ ?_
 · refine Ent.weak ?_ ?_ ?_ ?_ <;> simp +decide [subT, subB, zl, zk, zn, St.get, look, vI, vB, vS, cI, cS, cB, zh, roI]
 · rintro i ⟨hi, hq⟩
   refine zf zg _ ?_
   by_cases h' : i < x.kids.length
   · have e : ((i : Int) < (x.kids.length : Int)) = True := by simp [h']
     have w2 : IntKind.i64.wrap ((n : Int) - 1) = (n : Int) - 1 := w64 (by omega) (by omega)
     have hg : x.kids.getD i 0 = x.kids[i] := by simp [List.getD, h']
     simp +decide only [e, zr _ _ h', Int.natCast_nonneg, vB, vI, zh, hpin, go_sem, reduceAdd, reduceMul]
     refine Tri.sched zg [(0, true), (1, false), (2, false), (3, false), (4, false), (5, false), (6, true), (8, true), (10, true), (7, false), (9, false), (11, false), (12, false), (13, false), (14, true), (16, true), (17, true), (18, true), (19, true), (20, true), (15, true), (21, false), (22, false), (23, false), (24, false)] zT (by kernel_rfl) (fun C2 hC2 => ?_)
     have hp2 := zU hC2 hpin
     simp +decide only [w2, hp2, go_sem, reduceAdd, reduceMul]
     refine ze (in' x.kids[i] 0 (n - 1)) hp2 ?_
     simp +decide only [hp2, go_sem, reduceAdd, reduceMul]
     have hkb : kidB nodes n x i = (inI x.kids[i] 0 (n - 1) && (!(x.kids.take i).contains x.kids[i] && yG x.kind i (nAt nodes x.kids[i]).kind)) := by simp only [kidB, hg]
     cases h3 : inI x.kids[i] 0 (n - 1) with
     | false =>
       have hf : zK (kidB nodes n x) x.kids.length = false := zA h' (by rw [hkb, h3]; rfl)
       simp +decide only [hf, hp2, go_sem, reduceAdd, reduceMul]
     | true =>
     have hr3 := zx h3
     have hkn : x.kids[i].toNat < nodes.length := by omega
     have z0 : (0 <= x.kids[i]) = True := eq_true hr3.1
     have z1 : (x.kids[i] < (nodes.length : Int)) = True := eq_true (by omega)
     have z2 : ((i : Int) <= (x.kids.length : Int)) = True := eq_true (by omega)
     rw [h3, Bool.true_and] at hkb
     simp +decide only [z0, z1, z2, h', zqQ x.kids (Nat.le_of_lt h'), Int.natCast_nonneg, hp2, go_sem, reduceAdd, reduceMul]
     refine ze (Yw (x.kids.take i) x.kids[i] (by simp; omega)) hp2 ?_
     simp +decide only [z0, z1, z2, h', Int.natCast_nonneg, hp2, go_sem, reduceAdd, reduceMul]
     cases h4 : (x.kids.take i).contains x.kids[i] with
     | true =>
       have hf : zK (kidB nodes n x) x.kids.length = false := zA h' (by rw [hkb, h4]; rfl)
       simp +decide only [hf, hp2, go_sem, reduceAdd, reduceMul]
     | false =>
     rw [h4, yI hkn] at hkb
     simp only [Bool.not_false, Bool.true_and] at hkb
     simp +decide only [z0, z1, z2, h', zj _ _ hkn, zh, Int.natCast_nonneg, hp2, go_sem, reduceAdd, reduceMul]
     refine ze (zjh x.kind i nodes[x.kids[i].toNat].kind) hp2 ?_
     simp +decide only [hp2, go_sem, reduceAdd, reduceMul]
     cases h5 : yG x.kind i nodes[x.kids[i].toNat].kind with
     | false =>
       have hf : zK (kidB nodes n x) x.kids.length = false := zA h' (by rw [hkb, h5])
       simp +decide only [hf, hp2, go_sem, reduceAdd, reduceMul]
     | true =>
     simp +decide only [hp2, go_sem, reduceAdd, reduceMul]
     refine ⟨i + 1, ⟨h', by rw [zQ, hq, hkb, h5]; rfl⟩, by omega, Ent.weak ?_ ?_ ?_ ?_⟩
     all_goals simp +decide [subT, subB, zl, zk, zn, St.get, look, vI, vB, vS, cI, cS, cB, zh, roI, w64s (n := x.kids.length) h' (by omega)]
   · have hil : i = x.kids.length := by omega
     subst hil
     have e : ((x.kids.length : Int) < (x.kids.length : Int)) = False := by simp
     rw [hq, Bool.and_true]
     simp +decide only [e, vB, vI, zh, hpin, go_sem, reduceAdd, reduceMul]
     refine Tri.step zg ?_
     simp +decide only [hpin, go_sem, reduceAdd, reduceMul]
     unfold zhC
     cases h6 : x.kind == 1 with
     | true =>
       simp +decide only [h6, hpin, go_sem, reduceAdd, reduceMul]
       refine ze (in' x.num 0 1000000000) hpin ?_
       simp +decide only [hpin, go_sem, reduceAdd, reduceMul]
       cases h7 : inI x.num 0 1000000000 with
       | false => simp +decide only [bne, h6, hpin, go_sem, reduceAdd, reduceMul]
       | true =>
         simp +decide only [bne, h6, hpin, go_sem, reduceAdd, reduceMul]
         refine zf zg _ ?_
         simp +decide only [hpin, go_sem, reduceAdd, reduceMul]
         refine ze (zaw x.kind) hpin ?_
         simp +decide only [hpin, go_sem, reduceAdd, reduceMul]
         cases h8 : ym x.kind with
         | true =>
           have hnm : YJ x = Yr x.name := by simp [YJ, h8]
           simp +decide only [hpin, go_sem, reduceAdd, reduceMul]
           refine ze (xw x.name) hpin ?_
           simp +decide only [hnm, hpin, go_sem, reduceAdd, reduceMul]
         | false =>
           have hnm : YJ x = decide (x.name = ⟨#[]⟩) := by simp [YJ, h8]
           simp +decide only [hnm, hpin, go_sem, reduceAdd, reduceMul]
     | false =>
       simp +decide only [h6, bne, hpin, go_sem, reduceAdd, reduceMul]
       cases h7 : x.num == 0 with
       | false => simp +decide only [h7, hpin, go_sem, reduceAdd, reduceMul]
       | true =>
         simp +decide only [h7, hpin, go_sem, reduceAdd, reduceMul]
         refine zf zg _ ?_
         simp +decide only [hpin, go_sem, reduceAdd, reduceMul]
         refine ze (zaw x.kind) hpin ?_
         simp +decide only [hpin, go_sem, reduceAdd, reduceMul]
         cases h8 : ym x.kind with
         | true =>
           have hnm : YJ x = Yr x.name := by simp [YJ, h8]
           simp +decide only [hpin, go_sem, reduceAdd, reduceMul]
           refine ze (xw x.name) hpin ?_
           simp +decide only [hnm, hpin, go_sem, reduceAdd, reduceMul]
         | false =>
           have hnm : YJ x = decide (x.name = ⟨#[]⟩) := by simp [YJ, h8]
           simp +decide only [hnm, hpin, go_sem, reduceAdd, reduceMul]
theorem znD (x : NodeD) : (!inI x.num 0 1000000000 || (bne x.kind 1 && bne x.num 0)) = !zhC x := by
 unfold zhC
 cases h : x.kind == 1 with
 | true => simp [bne, h]
 | false =>
   simp only [bne, h, Bool.not_false, Bool.true_and, Bool.false_eq_true, if_false]
   cases h2 : x.num == 0 with
   | true => have : x.num = 0 := by simpa using h2
             rw [this]; decide
   | false => simp
theorem zmo : Yr ⟨#[]⟩ = false := by decide
theorem znF (x : NodeD) : YJ x = (ym x.kind == !decide (x.name = ⟨#[]⟩) && (decide (x.name = ⟨#[]⟩) || Yr x.name)) := by
 unfold YJ
 by_cases h : x.name = ⟨#[]⟩
 · rw [h]; cases ym x.kind <;> simp [zmo]
 · cases ym x.kind <;> simp [h]
theorem zeN (l : List Int) (i : Nat) (hi : i < l.length) : (l.take i).contains l[i] = !zK (fun j => !(l.getD i 0 == l.getD j 0)) i := by
 rw [Bool.eq_iff_iff]
 simp only [List.contains_iff_mem, Bool.not_eq_true', List.mem_take_iff_getElem]
 constructor
 · rintro ⟨j, hj, he⟩
   have hj2 : j < i := by omega
   exact zA hj2 (by simp [List.getD, hi, show j < l.length by omega, he])
 · intro h
   unfold zK at h
   rw [List.all_eq_false] at h
   obtain ⟨j, hj, hb⟩ := h
   have hj2 := List.mem_range.1 hj
   refine ⟨j, by omega, ?_⟩
   simp [List.getD, hi, show j < l.length by omega] at hb
   exact hb.symm
theorem ziQ (nodes : List NodeD) (k : Int) (hn : nodes.length <= 1048576) (hk : ∀ x ∈ nodes, x.kids.length <= 1048576) : zw Tryz.prog 210 [.ro (.imm 83 (rows (zh true) nodes)), .ro (.sc (.int .i64 k))] (fun rs st => rs = [(false, [cB (Yq nodes k)])]) := by
 refine zm (fn := Tryz.f210) (c := Tryz.f210.body.getD .skip) (res := [.tm 4]) (n := 124) zg (by kernel_rfl) (by rfl) (by kernel_rfl) (by rfl) (by rfl) (by simp [zq]) (fun uf ub C hpin hpin2 hfull => ?_)
 simp only [Tryz.f210, Option.getD_some]
 have w1 : IntKind.i64.wrap ((nodes.length : Int) - 1) = (nodes.length : Int) - 1 := w64 (by omega) (by omega)
 refine Tri.step zg ?_
 simp +decide only [hpin, go_sem, reduceAdd, reduceMul]
 refine Tri.step zg ?_
 simp +decide only [w1, hpin, go_sem, reduceAdd, reduceMul]
 refine ze (xH k 0 (nodes.length - 1)) hpin ?_
 simp +decide only [hpin, go_sem, reduceAdd, reduceMul]
 unfold Yq
 cases h0 : inI k 0 (nodes.length - 1) with
 | false => simp +decide only [hpin, go_sem, reduceAdd, reduceMul]
 | true =>
 have hr := zx h0
 obtain ⟨n, rfl⟩ : ∃ n : Nat, k = n := ⟨k.toNat, by omega⟩
 have hnl : n < nodes.length := by omega
 rw [zH hnl, Bool.true_and]
 have hkx := hk nodes[n] (List.getElem_mem hnl)
 generalize hx : nodes[n] = x at hkx
 have hc1 : ((n : Int) < (nodes.length : Int)) = True := eq_true (by omega)
 simp +decide only [hc1, zj _ _ hnl, hx, Int.natCast_nonneg, zh, hpin, go_sem, reduceAdd, reduceMul]
 refine ze (xH x.kind 1 20) hpin ?_
 simp +decide only [hpin, go_sem, reduceAdd, reduceMul]
 unfold zau
 cases h1 : inI x.kind 1 20 with
 | false => simp +decide only [hpin, go_sem, reduceAdd, reduceMul]
 | true =>
 simp +decide only [hpin, go_sem, reduceAdd, reduceMul]
 refine Tri.step zg ?_
 simp +decide only [hc1, zj _ _ hnl, hx, Int.natCast_nonneg, zh, hpin, go_sem, reduceAdd, reduceMul]
 refine Tri.ent ?_ (Ent.frb hfull 5)
 refine Tri.step zg ?_
 simp +decide only [hpin, go_sem, reduceAdd, reduceMul]
 refine ze (zgV x.kind) hpin ?_
 simp +decide only [hpin, go_sem, reduceAdd, reduceMul]
 have hno := znD x
 cases h2 : inI x.kids.length (zI x.kind).1 (zI x.kind).2 with
 | false =>
   refine Tri.step zg ?_
   simp +decide only [hpin, go_sem, reduceAdd, reduceMul]
   refine ze (xH x.kids.length (zI x.kind).1 (zI x.kind).2) hpin ?_
   simp +decide only [h2, hpin, go_sem, reduceAdd, reduceMul]
 | true =>
 rw [Bool.true_and]
 cases hq : zhC x with
 | false =>
   rw [hq] at hno
   refine Tri.step zg ?_
   simp +decide only [hpin, go_sem, reduceAdd, reduceMul]
   refine ze (xH x.kids.length (zI x.kind).1 (zI x.kind).2) hpin ?_
   simp +decide only [h2, hpin, go_sem, reduceAdd, reduceMul]
   refine ze (xH x.num 0 1000000000) hpin ?_
   simp +decide only [hpin, go_sem, reduceAdd, reduceMul]
   cases h3 : inI x.num 0 1000000000 with
   | false => simp +decide only [hpin, go_sem, reduceAdd, reduceMul]
   | true =>
     rw [h3] at hno
     cases h4 : x.kind == 1 with
     | true => simp [bne, h4] at hno
     | false =>
       simp +decide only [h4, bne, hpin, go_sem, reduceAdd, reduceMul]
       cases h5 : x.num == 0 with
       | true => simp [bne, h5] at hno
       | false => simp +decide only [h5, hpin, go_sem, reduceAdd, reduceMul]
 | true =>
 rw [Bool.true_and]
 rw [hq] at hno
 refine Tri.stop zg ⟨124, [(0, .imm 83 (rows (zh true) nodes)), (1, vI n), (4, vB false), (5, .ip (zh true x) 0)], []⟩ ?_ ?_
 · simp +decide only [hpin, go_sem, reduceAdd, reduceMul]
   refine ze (xH x.kids.length (zI x.kind).1 (zI x.kind).2) hpin ?_
   simp +decide only [h2, hpin, go_sem, reduceAdd, reduceMul]
   refine ze (xH x.num 0 1000000000) hpin ?_
   simp +decide only [hpin, go_sem, reduceAdd, reduceMul]
   cases h3 : inI x.num 0 1000000000 with
   | false => simp [h3] at hno
   | true =>
     rw [h3] at hno
     simp +decide only [hpin, go_sem, reduceAdd, reduceMul]
     cases h4 : x.kind == 1 with
     | true =>
       simp +decide only [h4, bne, hpin, go_sem, reduceAdd, reduceMul]
       refine Ent.weak ?_ ?_ ?_ ?_ <;> simp +decide [subT, subB, zl, zk, zn, St.get, look, vI, vB, vS, cI, cS, cB, zh, roI]
     | false =>
       simp +decide only [h4, bne, hpin, go_sem, reduceAdd, reduceMul]
       cases h5 : x.num == 0 with
       | false => simp [bne, h4, h5] at hno
       | true =>
         simp +decide only [h5, hpin, go_sem, reduceAdd, reduceMul]
         refine Ent.weak ?_ ?_ ?_ ?_ <;> simp +decide [subT, subB, zl, zk, zn, St.get, look, vI, vB, vS, cI, cS, cB, zh, roI]
 have hna := znF x
 cases hq2 : YJ x with
 | false =>
   rw [hq2] at hna
   rw [Bool.false_and]
   refine Tri.step zg ?_
   simp +decide only [vB, vI, zh, hpin, go_sem, reduceAdd, reduceMul]
   refine Tri.sched zg [(0, true), (3, true), (1, true), (4, true), (5, true), (2, false), (6, false), (7, false), (8, false), (9, false), (10, false), (11, false), (12, false), (13, false), (14, false), (15, false), (16, false), (17, false)] zT (by kernel_rfl) (fun C2 hC2 => ?_)
   have hp2 := zU hC2 hpin
   simp +decide only [hp2, go_sem, reduceAdd, reduceMul]
   refine ze (zdI x.kind) hp2 ?_
   simp +decide only [bne, hp2, go_sem, reduceAdd, reduceMul]
   cases h3 : ym x.kind == !decide (x.name = ⟨#[]⟩) with
   | false => simp +decide only [h3, hp2, go_sem, reduceAdd, reduceMul]
   | true =>
     rw [h3, Bool.true_and] at hna
     simp +decide only [h3, hp2, go_sem, reduceAdd, reduceMul]
     by_cases h4 : x.name = ⟨#[]⟩
     · simp [h4] at hna
     · have h40 : decide (x.name = ⟨#[]⟩) = false := decide_eq_false h4
       rw [h40, Bool.false_or] at hna
       simp +decide only [h40, hp2, go_sem, reduceAdd, reduceMul]
       refine ze (Yd x.name) hp2 ?_
       simp +decide only [<- hna, hp2, go_sem, reduceAdd, reduceMul]
 | true =>
 rw [hq2] at hna
 rw [Bool.true_and]
 refine Tri.stop zg ⟨124, [(0, .imm 83 (rows (zh true) nodes)), (1, vI n), (4, vB false), (5, .ip (zh true x) 0)], []⟩ ?_ ?_
 · simp +decide only [vB, vI, zh, hpin, go_sem, reduceAdd, reduceMul]
   refine Tri.sched zg [(0, true), (3, true), (1, true), (4, true), (5, true), (2, false), (6, false), (7, false), (8, false), (9, false), (10, false), (11, false), (12, false), (13, false), (14, false), (15, false), (16, false), (17, false)] zT (by kernel_rfl) (fun C2 hC2 => ?_)
   have hp2 := zU hC2 hpin
   simp +decide only [hp2, go_sem, reduceAdd, reduceMul]
   refine ze (zdI x.kind) hp2 ?_
   simp +decide only [bne, hp2, go_sem, reduceAdd, reduceMul]
   cases h3 : ym x.kind == !decide (x.name = ⟨#[]⟩) with
   | false => simp [h3] at hna
   | true =>
     rw [h3, Bool.true_and] at hna
     simp +decide only [h3, hp2, go_sem, reduceAdd, reduceMul]
     by_cases h4 : x.name = ⟨#[]⟩
     · simp +decide only [h4, hp2, go_sem, reduceAdd, reduceMul]
       refine Ent.weak ?_ ?_ ?_ ?_ <;> simp +decide [subT, subB, zl, zk, zn, St.get, look, vI, vB, vS, cI, cS, cB, zh, roI, h4]
     · have h40 : decide (x.name = ⟨#[]⟩) = false := decide_eq_false h4
       rw [h40, Bool.false_or] at hna
       simp +decide only [h40, hp2, go_sem, reduceAdd, reduceMul]
       refine ze (Yd x.name) hp2 ?_
       simp +decide only [<- hna, hp2, go_sem, reduceAdd, reduceMul]
       refine Ent.weak ?_ ?_ ?_ ?_ <;> simp +decide [subT, subB, zl, zk, zn, St.get, look, vI, vB, vS, cI, cS, cB, zh, roI]
 refine zf zg _ ?_
 simp +decide only [vB, vI, zh, hpin, go_sem, reduceAdd, reduceMul]
 refine Tri.loop (ι := Nat) (fun i => i <= x.kids.length /\ zK (kidB nodes n x) i = true) (fun i => ⟨124, [(0, .imm 83 (rows (zh true) nodes)), (1, vI n), (4, vB false), (5, .ip (zh true x) 0), (8, vI i)], []⟩) (fun i => x.kids.length - i) 0 ⟨by simp, rfl⟩ ?_ ?_
 · refine Ent.weak ?_ ?_ ?_ ?_ <;> simp +decide [subT, subB, zl, zk, zn, St.get, look, vI, vB, vS, cI, cS, cB, zh, roI]
 · rintro i ⟨hi, hq⟩
   refine zf zg _ ?_
   by_cases h' : i < x.kids.length
   · have e : ((i : Int) < (x.kids.length : Int)) = True := by simp [h']
     have w2 : IntKind.i64.wrap ((n : Int) - 1) = (n : Int) - 1 := w64 (by omega) (by omega)
     have hg : x.kids.getD i 0 = x.kids[i] := by simp [List.getD, h']
     have hkb : kidB nodes n x i = (inI x.kids[i] 0 (n - 1) && (!(x.kids.take i).contains x.kids[i] && yG x.kind i (nAt nodes x.kids[i]).kind)) := by simp only [kidB, hg]
     simp +decide only [e, zr _ _ h', Int.natCast_nonneg, vB, vI, zh, hpin, go_sem, reduceAdd, reduceMul]
     refine Tri.sched zg [(0, true), (2, true), (5, true), (6, true), (1, false), (3, false), (4, false), (7, false), (8, false), (9, false), (10, true), (12, true), (13, true), (14, true), (16, true), (11, true), (15, false), (17, false), (18, false), (19, false), (20, false), (21, false), (22, false), (23, false), (24, false)] zT (by kernel_rfl) (fun C2 hC2 => ?_)
     have hp2 := zU hC2 hpin
     simp +decide only [e, zr _ _ h', Int.natCast_nonneg, w2, hp2, go_sem, reduceAdd, reduceMul]
     refine ze (xH x.kids[i] 0 (n - 1)) hp2 ?_
     simp +decide only [hp2, go_sem, reduceAdd, reduceMul]
     cases h3 : inI x.kids[i] 0 (n - 1) with
     | false =>
       have hf : zK (kidB nodes n x) x.kids.length = false := zA h' (by rw [hkb, h3]; rfl)
       simp +decide only [hf, hp2, go_sem, reduceAdd, reduceMul]
     | true =>
     have hr3 := zx h3
     have hkn : x.kids[i].toNat < nodes.length := by omega
     have z0 : (0 <= x.kids[i]) = True := eq_true hr3.1
     have z1 : (x.kids[i] < (nodes.length : Int)) = True := eq_true (by omega)
     rw [h3, Bool.true_and, yI hkn] at hkb
     simp +decide only [e, zr _ _ h', z0, z1, h', zj _ _ hkn, zh, Int.natCast_nonneg, hp2, go_sem, reduceAdd, reduceMul]
     refine ze (zjg x.kind i nodes[x.kids[i].toNat].kind) hp2 ?_
     simp +decide only [hp2, go_sem, reduceAdd, reduceMul]
     cases h5 : yG x.kind i nodes[x.kids[i].toNat].kind with
     | false =>
       have hf : zK (kidB nodes n x) x.kids.length = false := zA h' (by rw [hkb, h5, Bool.and_false])
       simp +decide only [hf, hp2, go_sem, reduceAdd, reduceMul]
     | true =>
     rw [h5, Bool.and_true, zeN x.kids i h', Bool.not_not] at hkb
     simp +decide only [hp2, go_sem, reduceAdd, reduceMul]
     refine Tri.loop (ι := Nat) (fun j => j <= i /\ zK (fun j => !(x.kids.getD i 0 == x.kids.getD j 0)) j = true) (fun j => ⟨124, [(0, .imm 83 (rows (zh true) nodes)), (1, vI n), (4, vB false), (5, .ip (zh true x) 0), (8, vI i), (9, vI j)], []⟩) (fun j => i - j) 0 ⟨by simp, rfl⟩ ?_ ?_
     · refine Ent.weak ?_ ?_ ?_ ?_ <;> simp +decide [subT, subB, zl, zk, zn, St.get, look, vI, vB, vS, cI, cS, cB, zh, roI]
     · rintro j ⟨hj, hq2⟩
       refine zf zg _ ?_
       by_cases hj' : j < i
       · have e2 : ((j : Int) < (i : Int)) = True := by simp [hj']
         have hjl : j < x.kids.length := by omega
         have e3 : ((j : Int) < (x.kids.length : Int)) = True := by simp [hjl]
         have hgj : x.kids.getD j 0 = x.kids[j] := by simp [List.getD, hjl]
         simp +decide only [e, e2, e3, zr _ _ h', zr _ _ hjl, Int.natCast_nonneg, vB, vI, zh, hpin, go_sem, reduceAdd, reduceMul]
         refine Tri.sched zg [(0, true), (2, true), (5, true), (7, true), (1, true), (3, true), (4, true), (6, false), (8, false), (9, false), (10, false)] zT (by kernel_rfl) (fun C2 hC2 => ?_)
         have hp2 := zU hC2 hpin
         simp +decide only [e, e2, e3, zr _ _ h', zr _ _ hjl, Int.natCast_nonneg, hp2, go_sem, reduceAdd, reduceMul]
         cases h6 : x.kids[i] == x.kids[j] with
         | true =>
           have hf : zK (kidB nodes n x) x.kids.length = false := zA h' (by rw [hkb]; exact zA hj' (by simp only [hg, hgj, h6]; rfl))
           simp +decide only [hf, hp2, go_sem, reduceAdd, reduceMul]
         | false =>
           simp +decide only [hp2, go_sem, reduceAdd, reduceMul]
           refine ⟨j + 1, ⟨hj', by rw [zQ, hq2]; simp only [hg, hgj, h6]; rfl⟩, by omega, Ent.weak ?_ ?_ ?_ ?_⟩
           all_goals simp +decide [subT, subB, zl, zk, zn, St.get, look, vI, vB, vS, cI, cS, cB, zh, roI, w64s (n := x.kids.length) hjl (by omega)]
       · have hil : j = i := by omega
         subst hil
         have e2 : ((j : Int) < (j : Int)) = False := by simp
         simp +decide only [e2, vB, vI, zh, hpin, go_sem, reduceAdd, reduceMul]
         refine ⟨j + 1, ⟨h', by rw [zQ, hq, hkb, hq2]; rfl⟩, by omega, Ent.weak ?_ ?_ ?_ ?_⟩
         all_goals simp +decide [subT, subB, zl, zk, zn, St.get, look, vI, vB, vS, cI, cS, cB, zh, roI, w64s (n := x.kids.length) h' (by omega)]
   · have hil : i = x.kids.length := by omega
     subst hil
     have e : ((x.kids.length : Int) < (x.kids.length : Int)) = False := by simp
     rw [hq]
     simp +decide only [e, vB, vI, zh, hpin, go_sem, reduceAdd, reduceMul]
def yz (l : List Int) (d : Int) (kids : List Int) : Int := kids.foldl (fun d kid => max d (l.getD kid.toNat 0 + 1)) d
def zaW (d : Int) : Int := if 10 < d then 0 else d
def zek (nodes : List NodeD) (l : List Int) (n : Nat) : Int := if Yq nodes n && (n == 0 || !(l.getD (n - 1) 0 == 0)) then zaW (yz l 1 (nAt nodes n).kids) else 0
def zE (nodes : List NodeD) : Nat -> List Int
 | 0 => []
 | n + 1 => zE nodes n ++ [zek nodes (zE nodes n) n]
theorem yB (nodes : List NodeD) : ∀ n, (zE nodes n).length = n
 | 0 => rfl
 | n + 1 => by simp [zE, yB nodes n]
theorem Ym (nodes : List NodeD) {n i : Nat} (h : i < n) : (zE nodes n).getD i 0 = zek nodes (zE nodes i) i := by
 induction n with
 | zero => omega
 | succ n ih =>
   simp only [zE, List.getD]
   by_cases hi : i < n
   · rw [List.getElem?_append_left (by rw [yB]; exact hi)]
     exact ih hi
   · have : i = n := by omega
     subst this
     rw [List.getElem?_append_right (by rw [yB]; omega), yB, Nat.sub_self]; rfl
theorem zak (l : List Int) : ∀ (kids : List Int) (d : Int), d <= yz l d kids
 | [], d => Int.le_refl d
 | k :: r, d => by
   simp only [yz, List.foldl_cons]
   exact Int.le_trans (Int.le_max_left _ _) (zak l r _)
theorem zcc (l kids : List Int) (d : Int) {i : Nat} (h : i < kids.length) : yz l d (kids.take (i + 1)) = max (yz l d (kids.take i)) (l.getD kids[i].toNat 0 + 1) := by
 rw [List.take_succ_eq_append_getElem h]; simp only [yz, List.foldl_append, List.foldl_cons, List.foldl_nil]
theorem zaV (nodes : List NodeD) (l : List Int) (n : Nat) : 0 <= zek nodes l n /\ zek nodes l n <= 10 := by
 unfold zek
 split
 · have := zak l (nAt nodes n).kids 1
   unfold zaW
   split <;> omega
 · omega
theorem zaU (nodes : List NodeD) (n i : Nat) : 0 <= (zE nodes n).getD i 0 /\ (zE nodes n).getD i 0 <= 10 := by
 by_cases h : i < n
 · rw [Ym nodes h]; exact zaV _ _ _
 · simp [List.getD, List.getElem?_eq_none (show (zE nodes n).length <= i by rw [yB]; omega)]
def dAt (nodes : List NodeD) (n : Nat) : Int := zek nodes (zE nodes n) n
theorem zob (nodes : List NodeD) (n : Nat) (h : dAt nodes (n + 1) ≠ 0) : dAt nodes n ≠ 0 := by
 intro h0
 apply h
 have : (zE nodes (n + 1)).getD n 0 = 0 := by rw [Ym nodes (Nat.lt_succ_self n)]; exact h0
 unfold dAt zek
 rw [Nat.add_sub_cancel, this]
 simp
theorem xo (nodes : List NodeD) : ∀ {n i : Nat}, i <= n -> dAt nodes n ≠ 0 -> dAt nodes i ≠ 0
 | 0, i, h, hd => by have : i = 0 := by omega
                     subst this; exact hd
 | n + 1, i, h, hd => by
   by_cases e : i = n + 1
   · subst e; exact hd
   · exact xo nodes (by omega) (zob nodes n hd)
def zR (nodes : List NodeD) (k : Int) : Int := if inI k 0 (nodes.length - 1) then dAt nodes k.toNat else 0
theorem ZM (nodes : List NodeD) (n : Nat) (h : dAt nodes n ≠ 0) : Yq nodes n = true := by
 unfold dAt zek at h
 cases hb : Yq nodes n with
 | true => rfl
 | false => simp [hb] at h
theorem zmN (nodes : List NodeD) (n : Nat) (hb : Yq nodes n = true) (hd : n = 0 \/ dAt nodes (n - 1) ≠ 0) : dAt nodes n = zaW (yz (zE nodes n) 1 (nAt nodes n).kids) := by
 unfold dAt zek
 have : (n == 0 || !((zE nodes n).getD (n - 1) 0 == 0)) = true := by
   rcases hd with hd | hd
   · simp [hd]
   · by_cases h0 : n = 0
     · simp [h0]
     · rw [Ym nodes (show n - 1 < n by omega)]
       unfold dAt at hd
       simp [hd]
 rw [hb, this]; rfl
theorem zjU {nodes : List NodeD} {n : Nat} (hb : Yq nodes n = true) : ∃ h : n < nodes.length, ∀ i (hi : i < nodes[n].kids.length), 0 <= nodes[n].kids[i] /\ nodes[n].kids[i] < n /\ nodes[n].kids[i].toNat < n := by
 unfold Yq at hb
 simp only [Bool.and_eq_true] at hb
 have hr := zx hb.1
 have hl : n < nodes.length := by omega
 refine ⟨hl, fun i hi => ?_⟩
 have h2 := hb.2
 rw [zH hl] at h2
 unfold zau at h2
 simp only [Bool.and_eq_true] at h2
 have h3 := xt.1 h2.2.2.2.2 i hi
 unfold kidB at h3
 simp only [Bool.and_eq_true] at h3
 have h4 := zx h3.1
 have hg : nodes[n].kids.getD i 0 = nodes[n].kids[i] := by simp [List.getD, hi]
 rw [hg] at h4
 omega
theorem maxI (a b : Int) : (if b > a then b else a) = max a b := by rw [Int.max_def]; split <;> split <;> omega
theorem yr {α : Type} (f : α -> D) (l : List α) {i : Nat} (h : i < l.length) : (row1 f l)[i]? = some [f l[i]] := by simp [row1, h]
def okD (nodes : List NodeD) (k : Int) : Bool := !(zR nodes k == 0)
def okL (nodes : List NodeD) (k : Int) : List Int := if okD nodes k then zE nodes (k.toNat + 1) else []
theorem zhY (nodes : List NodeD) (k : Int) (hn : nodes.length <= 1048576) (hk : ∀ x ∈ nodes, x.kids.length <= 1048576) : zw Tryz.prog 188 [.ro (.imm 83 (rows (zh true) nodes)), .ro (.sc (.int .i64 k))] (fun rs st => rs = [(false, [.row false 3 (row1 cI (okL nodes k))]), (false, [cB (okD nodes k)])]) := by
 refine zm (fn := Tryz.f188) (c := Tryz.f188.body.getD .skip) (res := [.tm 4, .tm 5]) (n := 51) zg (by kernel_rfl) (by rfl) (by kernel_rfl) (by rfl) (by rfl) (by simp [zq]) (fun uf ub C hpin hpin2 hfull => ?_)
 simp only [Tryz.f188, Option.getD_some]
 have w1 : IntKind.i64.wrap ((nodes.length : Int) - 1) = (nodes.length : Int) - 1 := w64 (by omega) (by omega)
 have e0 : row1 cI ([] : List Int) = [] := rfl
 refine Tri.step zg ?_
 simp +decide only [hpin, go_sem, reduceAdd, reduceMul]
 refine Tri.step zg ?_
 simp +decide only [w1, hpin, go_sem, reduceAdd, reduceMul]
 refine ze (in' k 0 (nodes.length - 1)) hpin ?_
 simp +decide only [hpin, go_sem, reduceAdd, reduceMul]
 cases h0 : inI k 0 (nodes.length - 1) with
 | false =>
   have hf : okD nodes k = false := by simp [okD, zR, h0]
   have hf2 : okL nodes k = [] := by simp [okL, hf]
   simp +decide only [hf, hf2, e0, hpin, go_sem, reduceAdd, reduceMul]
 | true =>
 have hr := zx h0
 obtain ⟨n, rfl⟩ : ∃ n : Nat, k = n := ⟨k.toNat, by omega⟩
 have hnl : n < nodes.length := by omega
 have hdo : zR nodes (n : Int) = dAt nodes n := by simp [zR, h0]
 have bad : ∀ i, i <= n -> dAt nodes i = 0 -> okD nodes n = false /\ okL nodes n = [] := fun i hi hd => by
   have hz : dAt nodes n = 0 := Classical.byContradiction fun hne => xo nodes hi hne hd
   have hf : okD nodes n = false := by simp [okD, hdo, hz]
   exact ⟨hf, by simp [okL, hf]⟩
 simp +decide only [hpin, go_sem, reduceAdd, reduceMul]
 refine Tri.step zg ?_
 simp +decide only [hpin, go_sem, reduceAdd, reduceMul]
 refine Tri.step zg ?_
 simp +decide only [hpin, go_sem, reduceAdd, reduceMul]
 refine Tri.loop (ι := Nat) (fun i => i <= n + 1 /\ ∀ j, j < i -> dAt nodes j ≠ 0) (fun i => ⟨51, [(0, .imm 83 (rows (zh true) nodes)), (1, vI n), (6, .ref 6 [] i), (7, vI i)], [(6, .row 3 (row1 cI (zE nodes i)))]⟩) (fun i => n + 1 - i) 0 ⟨by simp, fun j hj => by omega⟩ ?_ ?_
 · refine Ent.weak ?_ ?_ ?_ ?_ <;> simp +decide [subT, subB, zl, zk, zn, St.get, look, vI, vB, vS, cI, cS, cB, zh, roI, zE, row1]
 · rintro i ⟨hi, hq⟩
   refine zf zg _ ?_
   have hlen := yB nodes i
   by_cases h' : i < n + 1
   · have e : ((i : Int) <= (n : Int)) = True := by simp; omega
     have hil : i < nodes.length := by omega
     have hc1 : ((i : Int) < (nodes.length : Int)) = True := eq_true (by omega)
     simp +decide only [e, vB, vI, hpin, go_sem, reduceAdd, reduceMul]
     refine ze (ziR nodes i hn hk) hpin ?_
     simp +decide only [hpin, go_sem, reduceAdd, reduceMul]
     cases hb : Yq nodes i with
     | false =>
       obtain ⟨f1, f2⟩ := bad i (by omega) (Classical.byContradiction fun hne => by rw [ZM nodes i hne] at hb; cases hb)
       simp +decide only [f1, f2, e0, hpin, go_sem, reduceAdd, reduceMul]
     | true =>
     obtain ⟨_, hkid⟩ := zjU hb
     have hv := zmN nodes i hb (by
       by_cases hz : i = 0
       · exact Or.inl hz
       · exact Or.inr (hq (i - 1) (by omega)))
     rw [zH hil] at hv
     have hkx := hk nodes[i] (List.getElem_mem hil)
     generalize hx : nodes[i] = x at hv hkid hkx
     simp +decide only [hc1, zj _ _ hil, hx, Int.natCast_nonneg, zh, hpin, go_sem, reduceAdd, reduceMul]
     refine Tri.loop (ι := Nat) (fun j => j <= x.kids.length) (fun j => ⟨51, [(0, .imm 83 (rows (zh true) nodes)), (1, vI n), (6, .ref 6 [] i), (7, vI i), (8, vI (yz (zE nodes i) 1 (x.kids.take j))), (30, roI x.kids), (31, vI x.kids.length), (32, vI j)], [(6, .row 3 (row1 cI (zE nodes i)))]⟩) (fun j => x.kids.length - j) 0 (by simp) ?_ ?_
     · refine Ent.weak ?_ ?_ ?_ ?_ <;> simp +decide [subT, subB, zl, zk, zn, St.get, look, vI, vB, vS, cI, cS, cB, zh, roI, yz]
     · rintro j hj
       refine zf zg _ ?_
       by_cases hj' : j < x.kids.length
       · have e2 : ((j : Int) < (x.kids.length : Int)) = True := by simp [hj']
         obtain ⟨q0, q1, q2⟩ := hkid j hj'
         have z0 : (0 <= x.kids[j]) = True := eq_true q0
         have z1 : (x.kids[j] < (i : Int)) = True := eq_true q1
         have z2 : x.kids[j].toNat < (zE nodes i).length := by rw [hlen]; exact q2
         have hg : (zE nodes i)[x.kids[j].toNat] = (zE nodes i).getD x.kids[j].toNat 0 := by simp [List.getD, z2]
         have hrg := zaU nodes i x.kids[j].toNat
         have w2 : IntKind.i64.wrap ((zE nodes i).getD x.kids[j].toNat 0 + 1) = (zE nodes i).getD x.kids[j].toNat 0 + 1 := w64 (by omega) (by omega)
         simp +decide only [e2, z0, z1, q2, hlen, zr _ _ hj', zr _ _ z2, yr _ _ z2, maxI, hg, w2, Int.natCast_nonneg, vB, vI, hpin, go_sem, reduceAdd, reduceMul]
         refine ⟨j + 1, hj', by omega, Ent.weak ?_ ?_ ?_ ?_⟩
         all_goals simp +decide [subT, subB, zl, zk, zn, St.get, look, vI, vB, vS, cI, cS, cB, zh, roI, w64s (n := x.kids.length) hj' (by omega), zcc, hj']
       · have hjl : j = x.kids.length := by omega
         subst hjl
         have e2 : ((x.kids.length : Int) < (x.kids.length : Int)) = False := by simp
         simp +decide only [e2, vB, vI, hpin, go_sem, reduceAdd, reduceMul]
         by_cases hd : 10 < yz (zE nodes i) 1 x.kids
         · have hd1 : (10 < yz (zE nodes i) 1 x.kids) = True := eq_true hd
           obtain ⟨f1, f2⟩ := bad i (by omega) (by rw [hv]; simp [zaW, hd])
           simp +decide only [hd1, f1, f2, e0, hpin, go_sem, reduceAdd, reduceMul]
         · have hd1 : (10 < yz (zE nodes i) 1 x.kids) = False := eq_false hd
           have hge := zak (zE nodes i) x.kids 1
           have hvv : dAt nodes i = yz (zE nodes i) 1 x.kids := by rw [hv]; simp [zaW, hd]
           have hb1 : i + 1 <= 140737488355328 := by omega
           have hb2 : (i + 1) * 8 <= 140737488355328 := by omega
           have hds : zE nodes (i + 1) = zE nodes i ++ [yz (zE nodes i) 1 x.kids] := by rw [<- hvv]; rfl
           simp +decide only [hd1, hlen, hb1, hb2, hpin, go_sem, reduceAdd, reduceMul]
           refine ⟨i + 1, ⟨by omega, fun j hj => ?_⟩, by omega, Ent.weak ?_ ?_ ?_ ?_⟩
           · by_cases hji : j = i
             · subst hji; rw [hvv]; omega
             · exact hq j (by omega)
           all_goals simp +decide [subT, subB, zl, zk, zn, St.get, look, vI, vB, vS, cI, cS, cB, zh, roI, w64s (n := nodes.length) hil (by omega), hds, row1]
   · have hin : i = n + 1 := by omega
     subst hin
     have e : (((n + 1 : Nat) : Int) <= (n : Int)) = False := by simp; omega
     have hnz := hq n (by omega)
     have hf : okD nodes n = true := by simp [okD, hdo, hnz]
     have hf2 : okL nodes n = zE nodes (n + 1) := by simp [okL, hf]
     simp +decide only [e, hf, hf2, hlen, vB, vI, hpin, go_sem, reduceAdd, reduceMul]
     refine zf zg _ ?_
     simp +decide only [hlen, hpin, go_sem, reduceAdd, reduceMul]
theorem Xj (nodes : List NodeD) (k : Int) (hn : nodes.length <= 1048576) (hk : ∀ x ∈ nodes, x.kids.length <= 1048576) : zw Tryz.prog 148 [.ro (.imm 83 (rows (zh true) nodes)), .ro (.sc (.int .i64 k))] (fun rs st => rs = [(false, [cI (zR nodes k)])]) := by
 refine zp (fn := Tryz.f148) (c := Tryz.f148.body.getD .skip) (res := [.tm 4]) (n := 19) zg (by kernel_rfl) (by rfl) (by kernel_rfl) (by rfl) (by rfl) (by simp [zq]) (fun C hpin hfull => ?_)
 simp +decide only [Tryz.f148, hpin, go_sem, reduceAdd, reduceMul]
 refine ze (zhY nodes k hn hk) hpin ?_
 simp +decide only [hpin, go_sem, reduceAdd, reduceMul]
 cases hd : okD nodes k with
 | false =>
   have h0 : zR nodes k = 0 := by simpa [okD] using hd
   simp +decide only [h0, hpin, go_sem, reduceAdd, reduceMul]
 | true =>
   have h0 : inI k 0 (nodes.length - 1) = true := by
     cases h : inI k 0 (nodes.length - 1) with
     | true => rfl
     | false => simp [okD, zR, h] at hd
   have hr := zx h0
   obtain ⟨n, rfl⟩ : ∃ n : Nat, k = n := ⟨k.toNat, by omega⟩
   have hf2 : okL nodes n = zE nodes (n + 1) := by simp [okL, hd]
   have hl := yB nodes (n + 1)
   have hlt : n < (zE nodes (n + 1)).length := by omega
   have hg : (zE nodes (n + 1))[n] = zR nodes n := by
     have := Ym nodes (show n < n + 1 by omega)
     simp only [List.getD, hlt, List.getElem?_eq_getElem, Option.getD_some] at this
     rw [this]; simp [zR, h0, dAt]
   have hc : ((n : Int) < ((n + 1 : Nat) : Int)) = True := eq_true (by omega)
   simp +decide only [hf2, hl, hc, yr _ _ hlt, hg, Int.natCast_nonneg, hpin, go_sem, reduceAdd, reduceMul]
theorem zcu (nodes : List NodeD) (n : Nat) (hnl : n < nodes.length) (hn : nodes.length <= 1048576) (hk : ∀ x ∈ nodes, x.kids.length <= 1048576) : zw Tryz.prog 185 [.ro (.imm 83 (rows (zh true) nodes)), .ro (.sc (.int .i64 n))] (fun rs st => rs = [(false, [.row false 3 (row1 cI (zE nodes (n + 1)))])]) := by
 refine zm (fn := Tryz.f185) (c := Tryz.f185.body.getD .skip) (res := [.tm 4]) (n := 84) zg (by kernel_rfl) (by rfl) (by kernel_rfl) (by rfl) (by rfl) (by simp [zq]) (fun uf ub C hpin hpin2 hfull => ?_)
 simp only [Tryz.f185, Option.getD_some]
 refine Tri.step zg ?_
 simp +decide only [hpin, go_sem, reduceAdd, reduceMul]
 refine Tri.step zg ?_
 simp +decide only [hpin, go_sem, reduceAdd, reduceMul]
 refine Tri.step zg ?_
 simp +decide only [hpin, go_sem, reduceAdd, reduceMul]
 refine Tri.loop (ι := Nat) (fun i => i <= n + 1) (fun i => ⟨84, [(0, .imm 83 (rows (zh true) nodes)), (1, vI n), (5, .ref 5 [] i), (6, vI i)], [(5, .row 3 (row1 cI (zE nodes i)))]⟩) (fun i => n + 1 - i) 0 (by simp) ?_ ?_
 · refine Ent.weak ?_ ?_ ?_ ?_ <;> simp +decide [subT, subB, zl, zk, zn, St.get, look, vI, vB, vS, cI, cS, cB, zh, roI, zE, row1]
 · rintro i hi
   refine zf zg _ ?_
   have hlen := yB nodes i
   by_cases h' : i < n + 1
   · have e : ((i : Int) <= (n : Int)) = True := by simp; omega
     have hil : i < nodes.length := by omega
     have hc1 : ((i : Int) < (nodes.length : Int)) = True := eq_true (by omega)
     have hkx := hk nodes[i] (List.getElem_mem hil)
     have hb1 : i + 1 <= 140737488355328 := by omega
     have hb2 : (i + 1) * 8 <= 140737488355328 := by omega
     let g : Bool := Yq nodes i && (i == 0 || !((zE nodes i).getD (i - 1) 0 == 0))
     have hds : zE nodes (i + 1) = zE nodes i ++ [bif g then zaW (yz (zE nodes i) 1 nodes[i].kids) else 0] := by
       simp only [zE, zek, zH hil]
       show _ = zE nodes i ++ [bif (Yq nodes i && (i == 0 || !((zE nodes i).getD (i - 1) 0 == 0))) then _ else _]
       cases (Yq nodes i && (i == 0 || !((zE nodes i).getD (i - 1) 0 == 0))) <;> simp
     simp +decide only [e, hc1, vB, vI, hpin, go_sem, reduceAdd, reduceMul]
     refine ze (ziQ nodes i hn hk) hpin ?_
     cases hb : Yq nodes i with
     | false =>
       have hg : g = false := by simp [g, hb]
       by_cases hz : i = 0
       · have hz1 : (0 < (i : Int)) = False := eq_false (by omega)
         have hd0 : zE nodes i = [] := by rw [hz]; rfl
         have w3 : IntKind.i64.wrap ((i : Int) - 1) = -1 := by rw [hz]; decide
         have hr0 : row1 cI ([] : List Int) = [] := rfl
         simp +decide only [hz1, w3, hd0, hr0, Option.bind_none, hpin, go_sem, reduceAdd, reduceMul]
         rw [hg] at hds
         simp only [cond_false] at hds
         refine Tri.loop (ι := Unit) (fun _ => True) (fun _ => ⟨84, [(0, .imm 83 (rows (zh true) nodes)), (1, vI n), (5, .ref 5 [] i), (6, vI i), (7, vI 0), (8, vI 0)], [(5, .row 3 (row1 cI (zE nodes i)))]⟩) (fun _ => 0) () trivial ?_ ?_
         · refine Ent.weak ?_ ?_ ?_ ?_ <;> simp +decide [subT, subB, zl, zk, zn, St.get, look, vI, vB, vS, cI, cS, cB, zh, roI, hd0, row1]
         · rintro _ _
           refine zf zg _ ?_
           simp +decide only [vB, vI, hlen, hc1, hb1, hb2, zj _ _ hil, zh, Int.natCast_nonneg, hpin, go_sem, reduceAdd, reduceMul]
           refine ⟨i + 1, by omega, by omega, Ent.weak ?_ ?_ ?_ ?_⟩
           all_goals simp +decide [subT, subB, zl, zk, zn, St.get, look, vI, vB, vS, cI, cS, cB, zh, roI, w64s (n := nodes.length) hil (by omega), hds, row1]
       · have hz1 : (0 < (i : Int)) = True := eq_true (by omega)
         have w3 : IntKind.i64.wrap ((i : Int) - 1) = ((i - 1 : Nat) : Int) := by rw [w64 (by omega) (by omega)]; omega
         have z3 : i - 1 < (zE nodes i).length := by omega
         have z4 : (((i - 1 : Nat) : Int) < (i : Int)) = True := eq_true (by omega)
         have z5 : i - 1 < i := by omega
         simp +decide only [hz1, w3, z4, z5, hlen, yr _ _ z3, Int.natCast_nonneg, hpin, go_sem, reduceAdd, reduceMul]
         rw [hg] at hds
         simp only [cond_false] at hds
         refine Tri.loop (ι := Unit) (fun _ => True) (fun _ => ⟨84, [(0, .imm 83 (rows (zh true) nodes)), (1, vI n), (5, .ref 5 [] i), (6, vI i), (7, vI 0), (8, vI 0)], [(5, .row 3 (row1 cI (zE nodes i)))]⟩) (fun _ => 0) () trivial ?_ ?_
         · refine Ent.weak ?_ ?_ ?_ ?_ <;> simp +decide [subT, subB, zl, zk, zn, St.get, look, vI, vB, vS, cI, cS, cB, zh, roI]
         · rintro _ _
           refine zf zg _ ?_
           simp +decide only [vB, vI, hlen, hc1, hb1, hb2, zj _ _ hil, zh, Int.natCast_nonneg, hpin, go_sem, reduceAdd, reduceMul]
           refine ⟨i + 1, by omega, by omega, Ent.weak ?_ ?_ ?_ ?_⟩
           all_goals simp +decide [subT, subB, zl, zk, zn, St.get, look, vI, vB, vS, cI, cS, cB, zh, roI, w64s (n := nodes.length) hil (by omega), hds, row1]
     | true =>
     by_cases hz : i = 0
     · have hi0 : (i == 0) = true := by simp [hz]
       have hg : g = true := by simp only [g, hb, hi0]; rfl
       have hz1 : (0 < (i : Int)) = False := eq_false (by omega)
       have hd0 : zE nodes i = [] := by rw [hz]; rfl
       have w3 : IntKind.i64.wrap ((i : Int) - 1) = -1 := by rw [hz]; decide
       have hr0 : row1 cI ([] : List Int) = [] := rfl
       simp +decide only [hz1, w3, hd0, hr0, Option.bind_none, hpin, go_sem, reduceAdd, reduceMul]
       rw [hg] at hds
       simp only [cond_true] at hds
       obtain ⟨_, hkid⟩ := zjU hb
       generalize hx : nodes[i] = x at hds hkid hkx
       refine Tri.loop (ι := Nat) (fun j => j <= x.kids.length) (fun j => ⟨84, [(0, .imm 83 (rows (zh true) nodes)), (1, vI n), (5, .ref 5 [] i), (6, vI i), (7, vI (yz (zE nodes i) 1 (x.kids.take j))), (8, vI j)], [(5, .row 3 (row1 cI (zE nodes i)))]⟩) (fun j => x.kids.length - j) 0 (by simp) ?_ ?_
       · refine Ent.weak ?_ ?_ ?_ ?_ <;> simp +decide [subT, subB, zl, zk, zn, St.get, look, vI, vB, vS, cI, cS, cB, zh, roI, yz, hd0, row1]
       · rintro j hj
         refine zf zg _ ?_
         have hpos : (0 < yz (zE nodes i) 1 (x.kids.take j)) = True := eq_true (by have := zak (zE nodes i) (x.kids.take j) 1; omega)
         by_cases hj' : j < x.kids.length
         · have e2 : ((j : Int) < (x.kids.length : Int)) = True := by simp [hj']
           obtain ⟨q0, q1, q2⟩ := hkid j hj'
           have z0 : (0 <= x.kids[j]) = True := eq_true q0
           have z1 : (x.kids[j] < (i : Int)) = True := eq_true q1
           have z2 : x.kids[j].toNat < (zE nodes i).length := by rw [hlen]; exact q2
           have hgg : (zE nodes i)[x.kids[j].toNat] = (zE nodes i).getD x.kids[j].toNat 0 := by simp [List.getD, z2]
           have hrg := zaU nodes i x.kids[j].toNat
           have w2 : IntKind.i64.wrap ((zE nodes i).getD x.kids[j].toNat 0 + 1) = (zE nodes i).getD x.kids[j].toNat 0 + 1 := w64 (by omega) (by omega)
           have htk := zcc (zE nodes i) x.kids 1 hj'
           simp +decide only [hpos, e2, hc1, z0, z1, q2, hlen, hx, zj _ _ hil, zh, zr _ _ hj', yr _ _ z2, hgg, w2, Int.natCast_nonneg, vB, vI, hpin, go_sem, reduceAdd, reduceMul]
           by_cases hm : (zE nodes i).getD x.kids[j].toNat 0 + 1 > yz (zE nodes i) 1 (x.kids.take j)
           · have hm1 : ((zE nodes i).getD x.kids[j].toNat 0 + 1 > yz (zE nodes i) 1 (x.kids.take j)) = True := eq_true hm
             have hm2 : (yz (zE nodes i) 1 (x.kids.take j) < (zE nodes i).getD x.kids[j].toNat 0 + 1) = True := eq_true hm
             rw [show max (yz (zE nodes i) 1 (x.kids.take j)) ((zE nodes i).getD x.kids[j].toNat 0 + 1) = (zE nodes i).getD x.kids[j].toNat 0 + 1 by rw [Int.max_def]; split <;> omega] at htk
             simp +decide only [hm1, hm2, hpos, e2, hc1, z0, z1, q2, hlen, hx, zj _ _ hil, zh, zr _ _ hj', yr _ _ z2, hgg, w2, Int.natCast_nonneg, vB, vI, hpin, go_sem, reduceAdd, reduceMul]
             refine ⟨j + 1, hj', by omega, Ent.weak ?_ ?_ ?_ ?_⟩
             all_goals simp +decide [subT, subB, zl, zk, zn, St.get, look, vI, vB, vS, cI, cS, cB, zh, roI, w64s (n := x.kids.length) hj' (by omega), htk]
           · have hm1 : ((zE nodes i).getD x.kids[j].toNat 0 + 1 > yz (zE nodes i) 1 (x.kids.take j)) = False := eq_false hm
             have hm2 : (yz (zE nodes i) 1 (x.kids.take j) < (zE nodes i).getD x.kids[j].toNat 0 + 1) = False := eq_false hm
             rw [show max (yz (zE nodes i) 1 (x.kids.take j)) ((zE nodes i).getD x.kids[j].toNat 0 + 1) = yz (zE nodes i) 1 (x.kids.take j) by rw [Int.max_def]; split <;> omega] at htk
             simp +decide only [hm1, hm2, hpos, e2, hc1, hpin, go_sem, reduceAdd, reduceMul]
             refine ⟨j + 1, hj', by omega, Ent.weak ?_ ?_ ?_ ?_⟩
             all_goals simp +decide [subT, subB, zl, zk, zn, St.get, look, vI, vB, vS, cI, cS, cB, zh, roI, w64s (n := x.kids.length) hj' (by omega), htk]
         · have hjl : j = x.kids.length := by omega
           subst hjl
           have e2 : ((x.kids.length : Int) < (x.kids.length : Int)) = False := by simp
           rw [List.take_length] at hpos
           simp +decide only [e2, hpos, hc1, hx, zj _ _ hil, zh, Int.natCast_nonneg, vB, vI, hpin, go_sem, reduceAdd, reduceMul]
           by_cases hd : 10 < yz (zE nodes i) 1 x.kids
           · have hd1 : (10 < yz (zE nodes i) 1 x.kids) = True := eq_true hd
             have hv : zaW (yz (zE nodes i) 1 x.kids) = 0 := by simp [zaW, hd]
             rw [hv] at hds
             simp +decide only [hd1, hlen, hb1, hb2, hpin, go_sem, reduceAdd, reduceMul]
             refine ⟨i + 1, by omega, by omega, Ent.weak ?_ ?_ ?_ ?_⟩
             all_goals simp +decide [subT, subB, zl, zk, zn, St.get, look, vI, vB, vS, cI, cS, cB, zh, roI, w64s (n := nodes.length) hil (by omega), hds, row1]
           · have hd1 : (10 < yz (zE nodes i) 1 x.kids) = False := eq_false hd
             have hv : zaW (yz (zE nodes i) 1 x.kids) = yz (zE nodes i) 1 x.kids := by simp [zaW, hd]
             rw [hv] at hds
             simp +decide only [hd1, hlen, hb1, hb2, hpin, go_sem, reduceAdd, reduceMul]
             refine ⟨i + 1, by omega, by omega, Ent.weak ?_ ?_ ?_ ?_⟩
             all_goals simp +decide [subT, subB, zl, zk, zn, St.get, look, vI, vB, vS, cI, cS, cB, zh, roI, w64s (n := nodes.length) hil (by omega), hds, row1]
     · have hz1 : (0 < (i : Int)) = True := eq_true (by omega)
       have w3 : IntKind.i64.wrap ((i : Int) - 1) = ((i - 1 : Nat) : Int) := by rw [w64 (by omega) (by omega)]; omega
       have z3 : i - 1 < (zE nodes i).length := by omega
       have z4 : (((i - 1 : Nat) : Int) < (i : Int)) = True := eq_true (by omega)
       have z5 : i - 1 < i := by omega
       have hg3 : (zE nodes i)[i - 1] = (zE nodes i).getD (i - 1) 0 := by simp [List.getD, z3]
       have hi0 : (i == 0) = false := by simp [hz]
       simp +decide only [hz1, w3, z4, z5, hlen, yr _ _ z3, hg3, Int.natCast_nonneg, hpin, go_sem, reduceAdd, reduceMul]
       cases hq : (zE nodes i).getD (i - 1) 0 == 0 with
       | true =>
         have hg : g = false := by simp only [g, hb, hi0, hq]; rfl
         simp +decide only [hq, hpin, go_sem, reduceAdd, reduceMul]
         rw [hg] at hds
         simp only [cond_false] at hds
         refine Tri.loop (ι := Unit) (fun _ => True) (fun _ => ⟨84, [(0, .imm 83 (rows (zh true) nodes)), (1, vI n), (5, .ref 5 [] i), (6, vI i), (7, vI 0), (8, vI 0)], [(5, .row 3 (row1 cI (zE nodes i)))]⟩) (fun _ => 0) () trivial ?_ ?_
         · refine Ent.weak ?_ ?_ ?_ ?_ <;> simp +decide [subT, subB, zl, zk, zn, St.get, look, vI, vB, vS, cI, cS, cB, zh, roI]
         · rintro _ _
           refine zf zg _ ?_
           simp +decide only [vB, vI, hlen, hc1, hb1, hb2, zj _ _ hil, zh, Int.natCast_nonneg, hpin, go_sem, reduceAdd, reduceMul]
           refine ⟨i + 1, by omega, by omega, Ent.weak ?_ ?_ ?_ ?_⟩
           all_goals simp +decide [subT, subB, zl, zk, zn, St.get, look, vI, vB, vS, cI, cS, cB, zh, roI, w64s (n := nodes.length) hil (by omega), hds, row1]
       | false =>
         have hg : g = true := by simp only [g, hb, hi0, hq]; rfl
         simp +decide only [hq, hpin, go_sem, reduceAdd, reduceMul]
         rw [hg] at hds
         simp only [cond_true] at hds
         obtain ⟨_, hkid⟩ := zjU hb
         generalize hx : nodes[i] = x at hds hkid hkx
         refine Tri.loop (ι := Nat) (fun j => j <= x.kids.length) (fun j => ⟨84, [(0, .imm 83 (rows (zh true) nodes)), (1, vI n), (5, .ref 5 [] i), (6, vI i), (7, vI (yz (zE nodes i) 1 (x.kids.take j))), (8, vI j)], [(5, .row 3 (row1 cI (zE nodes i)))]⟩) (fun j => x.kids.length - j) 0 (by simp) ?_ ?_
         · refine Ent.weak ?_ ?_ ?_ ?_ <;> simp +decide [subT, subB, zl, zk, zn, St.get, look, vI, vB, vS, cI, cS, cB, zh, roI, yz]
         · rintro j hj
           refine zf zg _ ?_
           have hpos : (0 < yz (zE nodes i) 1 (x.kids.take j)) = True := eq_true (by have := zak (zE nodes i) (x.kids.take j) 1; omega)
           by_cases hj' : j < x.kids.length
           · have e2 : ((j : Int) < (x.kids.length : Int)) = True := by simp [hj']
             obtain ⟨q0, q1, q2⟩ := hkid j hj'
             have z0 : (0 <= x.kids[j]) = True := eq_true q0
             have z1 : (x.kids[j] < (i : Int)) = True := eq_true q1
             have z2 : x.kids[j].toNat < (zE nodes i).length := by rw [hlen]; exact q2
             have hgg : (zE nodes i)[x.kids[j].toNat] = (zE nodes i).getD x.kids[j].toNat 0 := by simp [List.getD, z2]
             have hrg := zaU nodes i x.kids[j].toNat
             have w2 : IntKind.i64.wrap ((zE nodes i).getD x.kids[j].toNat 0 + 1) = (zE nodes i).getD x.kids[j].toNat 0 + 1 := w64 (by omega) (by omega)
             have htk := zcc (zE nodes i) x.kids 1 hj'
             simp +decide only [hpos, e2, hc1, z0, z1, q2, hlen, hx, zj _ _ hil, zh, zr _ _ hj', yr _ _ z2, hgg, w2, Int.natCast_nonneg, vB, vI, hpin, go_sem, reduceAdd, reduceMul]
             by_cases hm : (zE nodes i).getD x.kids[j].toNat 0 + 1 > yz (zE nodes i) 1 (x.kids.take j)
             · have hm1 : ((zE nodes i).getD x.kids[j].toNat 0 + 1 > yz (zE nodes i) 1 (x.kids.take j)) = True := eq_true hm
               have hm2 : (yz (zE nodes i) 1 (x.kids.take j) < (zE nodes i).getD x.kids[j].toNat 0 + 1) = True := eq_true hm
               rw [show max (yz (zE nodes i) 1 (x.kids.take j)) ((zE nodes i).getD x.kids[j].toNat 0 + 1) = (zE nodes i).getD x.kids[j].toNat 0 + 1 by rw [Int.max_def]; split <;> omega] at htk
               simp +decide only [hm1, hm2, hpos, e2, hc1, z0, z1, q2, hlen, hx, zj _ _ hil, zh, zr _ _ hj', yr _ _ z2, hgg, w2, Int.natCast_nonneg, vB, vI, hpin, go_sem, reduceAdd, reduceMul]
               refine ⟨j + 1, hj', by omega, Ent.weak ?_ ?_ ?_ ?_⟩
               all_goals simp +decide [subT, subB, zl, zk, zn, St.get, look, vI, vB, vS, cI, cS, cB, zh, roI, w64s (n := x.kids.length) hj' (by omega), htk]
             · have hm1 : ((zE nodes i).getD x.kids[j].toNat 0 + 1 > yz (zE nodes i) 1 (x.kids.take j)) = False := eq_false hm
               have hm2 : (yz (zE nodes i) 1 (x.kids.take j) < (zE nodes i).getD x.kids[j].toNat 0 + 1) = False := eq_false hm
               rw [show max (yz (zE nodes i) 1 (x.kids.take j)) ((zE nodes i).getD x.kids[j].toNat 0 + 1) = yz (zE nodes i) 1 (x.kids.take j) by rw [Int.max_def]; split <;> omega] at htk
               simp +decide only [hm1, hm2, hpos, e2, hc1, hpin, go_sem, reduceAdd, reduceMul]
               refine ⟨j + 1, hj', by omega, Ent.weak ?_ ?_ ?_ ?_⟩
               all_goals simp +decide [subT, subB, zl, zk, zn, St.get, look, vI, vB, vS, cI, cS, cB, zh, roI, w64s (n := x.kids.length) hj' (by omega), htk]
           · have hjl : j = x.kids.length := by omega
             subst hjl
             have e2 : ((x.kids.length : Int) < (x.kids.length : Int)) = False := by simp
             rw [List.take_length] at hpos
             simp +decide only [e2, hpos, hc1, hx, zj _ _ hil, zh, Int.natCast_nonneg, vB, vI, hpin, go_sem, reduceAdd, reduceMul]
             by_cases hd : 10 < yz (zE nodes i) 1 x.kids
             · have hd1 : (10 < yz (zE nodes i) 1 x.kids) = True := eq_true hd
               have hv : zaW (yz (zE nodes i) 1 x.kids) = 0 := by simp [zaW, hd]
               rw [hv] at hds
               simp +decide only [hd1, hlen, hb1, hb2, hpin, go_sem, reduceAdd, reduceMul]
               refine ⟨i + 1, by omega, by omega, Ent.weak ?_ ?_ ?_ ?_⟩
               all_goals simp +decide [subT, subB, zl, zk, zn, St.get, look, vI, vB, vS, cI, cS, cB, zh, roI, w64s (n := nodes.length) hil (by omega), hds, row1]
             · have hd1 : (10 < yz (zE nodes i) 1 x.kids) = False := eq_false hd
               have hv : zaW (yz (zE nodes i) 1 x.kids) = yz (zE nodes i) 1 x.kids := by simp [zaW, hd]
               rw [hv] at hds
               simp +decide only [hd1, hlen, hb1, hb2, hpin, go_sem, reduceAdd, reduceMul]
               refine ⟨i + 1, by omega, by omega, Ent.weak ?_ ?_ ?_ ?_⟩
               all_goals simp +decide [subT, subB, zl, zk, zn, St.get, look, vI, vB, vS, cI, cS, cB, zh, roI, w64s (n := nodes.length) hil (by omega), hds, row1]
   · have hin : i = n + 1 := by omega
     subst hin
     have e : (((n + 1 : Nat) : Int) <= (n : Int)) = False := by simp; omega
     simp +decide only [e, hlen, vB, vI, hpin, go_sem, reduceAdd, reduceMul]
     refine zf zg _ ?_
     simp +decide only [hlen, hpin, go_sem, reduceAdd, reduceMul]
end Go.Proofs.YtjjigphfjclofaaGreatDoor.AW
